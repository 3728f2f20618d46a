/- The exact evaluator, part 13: one operation, told exactly. -/
import Derived.Test.YtblbhfnpneliiaaGreatDoorExOp
namespace Go.Ex
open Go.RowKit
open Go.Ab (reach Clo opsIn opsIn_spec)

def Inv (s : S) : Prop := s.bs ≤ s.nx ∧ ∀ b, s.nx ≤ b → s.hp.get b = none
/-- What holds of any two states, the one ahead of the other. -/
structure Stat (s s' : S) : Prop where
  inv : Inv s'
  nt : s'.nt = s.nt
  bs : s'.bs = s.bs
  nx : s.nx ≤ s'.nx
  wr : ∀ b, b < s.bs → b ∉ s'.wr → b ∉ s.wr ∧ s'.hp.get b = s.hp.get b
theorem Stat.refl {s : S} (h : Inv s) : Stat s s := ⟨h, rfl, rfl, Nat.le_refl _, fun _ _ h => ⟨h, rfl⟩⟩
theorem Stat.trans {a b c : S} (h : Stat a b) (k : Stat b c) : Stat a c :=
  ⟨k.inv, k.nt.trans h.nt, k.bs.trans h.bs, Nat.le_trans h.nx k.nx, fun x hx hw => by
    obtain ⟨h1, h2⟩ := k.wr x (by rw [h.bs]; exact hx) hw
    obtain ⟨h3, h4⟩ := h.wr x hx h1
    exact ⟨h3, h2.trans h4⟩⟩
def fsOf (s : S) : FS := ⟨envF s.env, s.hp.get⟩
theorem inL_spec {b : Nat} : ∀ {l : List Nat}, inL b l = false → b ∉ l
  | [], _ => by simp
  | c :: l, h => by
    simp only [inL] at h
    cases hb : Nat.beq b c with
    | true => rw [hb] at h; cases h
    | false =>
      rw [hb] at h
      have : b ≠ c := fun e => by subst e; rw [Nat.beq_refl] at hb; cases hb
      simp [this, inL_spec h]
theorem mem_keepLt {n b : Nat} : ∀ {l : List Nat}, b ∈ l → b < n → b ∈ keepLt n l
  | [], h, _ => by cases h
  | c :: l, h, hb => by
    simp only [keepLt]
    have hlt : ∀ x, x < n → Nat.blt x n = true := fun x hx => Nat.ble_eq_true_of_le hx
    rcases List.mem_cons.1 h with rfl | h
    · rw [hlt b hb]; simp
    · have := mem_keepLt h hb
      cases Nat.blt c n with
      | true => exact List.mem_cons_of_mem _ this
      | false => exact this
theorem allLe_spec {n b : Nat} : ∀ {l : List Nat}, allLe n l = true → b ∈ l → b ≤ n
  | [], _, h => by cases h
  | c :: l, h, hb => by
    simp only [allLe] at h
    cases hc : Nat.ble c n with
    | false => rw [hc] at h; cases h
    | true =>
      rw [hc] at h
      rcases List.mem_cons.1 hb with rfl | hb
      · exact Nat.le_of_ble_eq_true hc
      · exact allLe_spec h hb
theorem envF_set (env : Tr X) (k : Nat) (x : X) (t : Nat) : envF (env.set k (some x)) t = if k = t then x else envF env t := by
  unfold envF evX
  simp only [get_set]
  by_cases h : k = t
  · simp [h]
  · simp [h]
theorem envF_setDst (env : Tr X) (d : Option Nat) (x : X) : envF (setDst env d x) = fun t => if d = some t then x else envF env t := by
  funext t
  cases d with
  | none => simp [setDst]
  | some k => simp only [setDst, envF_set, Option.some.injEq]

section
variable {c : Cx} {ops : Array Oper} {nt : Nat} {ro : Option Nat}

/-- What an operation does, told exactly. -/
structure Eff (c : Cx) (ops : Array Oper) (nt : Nat) (ro : Option Nat) (s : S) (o : Oper) (s' : S) (k : Sk) (E : EX) : Prop where
  st : Stat s s'
  df : s'.df = s.df
  app : fsOf s' = (fsOf s).app o.dst E
  up : ∀ b, E.up b ≠ none → b ∈ k.w ∨ (k.lo ≤ b ∧ b < k.hi)
  rd : ∀ b, E.rd b → b ∈ k.r ∨ (k.ra = true ∧ b < k.lo)
  nm : ∀ b, E.nm b → s.nx ≤ b ∧ b < s'.nx
  snd : ∀ w0 M0 m0 df, GOk c.gl w0 M0 → XSound (Fr ro) 0 c.P ops nt (RR w0 M0 m0 nt df) o (fsOf s) E

theorem eff_skip {s : S} (hI : Inv s) {o : Oper} (hw : wantX ops.toList s.env o = some false) :
    Eff c ops nt ro s o ⟨s.nt, setDst s.env o.dst u0, s.hp, s.nx, s.df, s.bs, s.wr⟩ ⟨[], s.nx, s.nx, [], false⟩ noE := by
  refine ⟨⟨hI, rfl, rfl, Nat.le_refl _, fun _ _ h => ⟨h, rfl⟩⟩, rfl, ?_, ?_, ?_, ?_, fun w0 M0 m0 df _ => sound_skip hw⟩
  · simp only [fsOf, FS.app, envF_setDst]; rfl
  · simp [noE]
  · simp [noE]
  · simp [noE]

theorem eff_simple {s : S} (hI : Inv s) {o : Oper} (hop : ∀ k, o.op ≠ .defer k) (hw : wantX ops.toList s.env o = some true) {e : Ef} (hl : allLe s.nx (namesU e.up) = true) (hok : OpOk c.P c.gl o s.nx (evX s.env) s.hp e) :
    Eff c ops nt ro s o ⟨s.nt, setDst s.env o.dst e.x, setAll s.hp e.up, Nat.succ s.nx, s.df, s.bs, keepLt s.bs (namesU e.up) ++ s.wr⟩ ⟨namesU e.up, s.nx, s.nx, e.rd, false⟩ (simpleE s.nx e) := by
  have hh : (setAll s.hp e.up).get = upL e.up s.hp.get := get_setAll e.up s.hp
  have hn : ∀ b, b ∉ namesU e.up → (setAll s.hp e.up).get b = s.hp.get b := fun b hb => by rw [hh, upL_get, if_neg hb]
  refine ⟨⟨⟨Nat.le_succ_of_le hI.1, fun b hb => ?_⟩, rfl, rfl, Nat.le_succ _, fun b hb h => ?_⟩, rfl, ?_, fun b hb => ?_, fun b hb => .inl hb, fun b hb => ?_, fun w0 M0 m0 df hG => sound_simple hop hw hok hG⟩
  · have hb' : s.nx < b := hb
    show (setAll s.hp e.up).get b = none
    rw [hn b (fun hm => by have := allLe_spec hl hm; omega)]
    exact hI.2 b (by omega)
  · have hb' : b < s.bs := hb
    have h' : b ∉ keepLt s.bs (namesU e.up) ++ s.wr := h
    rw [List.mem_append, not_or] at h'
    exact ⟨h'.2, hn b fun hm => h'.1 (mem_keepLt hm hb')⟩
  · rw [simple_app]
    simp only [fsOf, envF_setDst, hh]
  · left
    simp only [simpleE] at hb
    by_cases h : b ∈ namesU e.up
    · exact h
    · simp [h] at hb
  · have : b = s.nx := hb
    subst this
    exact ⟨Nat.le_refl _, Nat.lt_succ_self _⟩

def callE (q : Cr) (lo : Nat) : EX := ⟨q.x, fun b => if (b < lo ∧ b ∈ q.wr) ∨ (lo ≤ b ∧ b < q.nx) then some (q.hp.get b) else none, fun b => b < lo, fun b => lo ≤ b ∧ b < q.nx⟩

theorem eff_call {s : S} (hI : Inv s) {o : Oper} {f : Operand} {args : Array Operand} {tys : Array TypeId} (hop : o.op = .call ⟨.value f, args, tys⟩) (hw : wantX ops.toList s.env o = some true) {q : Cr}
    (hok : CallOk c (evX s.env f) (evs (evX s.env) args.toList) s.hp s.nx q) :
    Eff c ops nt ro s o ⟨s.nt, setDst s.env o.dst q.x, q.hp, q.nx, s.df, s.bs, keepLt s.bs q.wr ++ s.wr⟩ ⟨q.wr, s.nx, q.nx, [], true⟩ (callE q s.nx) := by
  obtain ⟨hnx, hfree, hlog, hcall⟩ := hok hI.2
  have happ : ∀ (hp : Nat → Option B), (∀ b, b < s.nx → hp b = s.hp.get b) → ∀ b, (match (callE q s.nx).up b with | some x => x | none => hp b) = if b < q.nx then q.hp.get b else hp b := by
    intro hp hhp b
    simp only [callE]
    by_cases h1 : b < s.nx
    · by_cases h2 : b ∈ q.wr
      · rw [if_pos (Or.inl ⟨h1, h2⟩), if_pos (by omega)]
      · rw [if_neg (by rintro (h | h); exact h2 h.2; omega), if_pos (by omega), hlog b h1 h2]
        exact hhp b h1
    · by_cases h2 : b < q.nx
      · rw [if_pos (Or.inr ⟨by omega, h2⟩), if_pos h2]
      · rw [if_neg (by rintro (h | h) <;> omega), if_neg h2]
  refine ⟨⟨⟨Nat.le_trans hI.1 hnx, hfree⟩, rfl, rfl, hnx, fun b hb h => ?_⟩, rfl, ?_, fun b hb => ?_, fun b hb => .inr ⟨rfl, hb⟩, fun b hb => hb, fun w0 M0 m0 df hG => ?_⟩
  · have hb' : b < s.bs := hb
    have h' : b ∉ keepLt s.bs q.wr ++ s.wr := h
    rw [List.mem_append, not_or] at h'
    exact ⟨h'.2, hlog b (Nat.lt_of_lt_of_le hb' hI.1) fun hm => h'.1 (mem_keepLt hm hb')⟩
  · simp only [fsOf, envF_setDst, FS.app]
    congr 1
    funext b
    refine Eq.trans ?_ (happ s.hp.get (fun _ _ => rfl) b).symm
    by_cases h : b < q.nx
    · rw [if_pos h]
    · rw [if_neg h, hfree b (by omega), hI.2 b (by omega)]
  · simp only [callE] at hb
    by_cases h : (b < s.nx ∧ b ∈ q.wr) ∨ (s.nx ≤ b ∧ b < q.nx)
    · exact h.imp (·.2) id
    · rw [if_neg h] at hb; exact absurd rfl hb
  · rintro fr s1 a w ⟨m, hm, r⟩ hnm hd ht hb K Q hK
    rw [wantX_spec hw (g := s1.env) (m := m) ht r.env, if_pos rfl]
    have hvs : ∀ y ∈ o.op.operands, conc m (evX s.env y) = some (a.eval y) := fun y hy => by
      rw [evX_evF]
      have := evF_agree (ops := ops) (g := s1.env) (g' := envF s.env) ht hy
      rw [← this]
      exact rep_evF r.env y
    have hf : conc m (evX s.env f) = some (a.eval f) := hvs f (by rw [hop]; simp [Op.operands, Call.operands])
    have ha : concL m (evs (evX s.env) args.toList) = some (args.toList.map a.eval) := evs_rel fun x hx => hvs x (by rw [hop]; simp [Op.operands, Call.operands]; exact .inr (by simpa using hx))
    have hsub := r.w.sub s.nx
    have e1 : (fun b => if b < s.nx then s1.hp b else none) = s.hp.get := by
      funext b
      by_cases h : b < s.nx
      · rw [if_pos h]; exact hb b h
      · rw [if_neg h, hI.2 b (by omega)]
    rw [e1] at hsub
    obtain ⟨nx, h1, _, h2⟩ := hcall w (M1 m s1.hp s.nx) fr m w (args.toList.map a.eval) (a.eval f) (hG.sub r.w s.nx) hsub (fun b h3 h4 => hnm b ⟨h3, h4⟩) hf ha
    have harr : (args.toList.map a.eval).toArray = args.map a.eval := by apply Array.toList_inj.1; simp
    rw [harr] at h1
    have hexec : (o.semAt (Fr ro).round a.eval).run c.P w = .ok nx w := by
      rw [Oper.semAt_eq _ _ _ (by intro k; rw [hop]; simp)]
      unfold execOp
      simp only [hop, resolve]
      exact h1
    have fin : ∀ e w', (∃ v m', e = Ending.returned v ∧ Le m m' ∧ conc m' q.x = some v ∧ WR w (M1 m s1.hp s.nx) (fun b => fr b ∧ ¬ (s.nx ≤ b ∧ b < q.nx)) m' q.hp.get w') →
        match e with
        | .returned v => K (a.put o.dst v) w'
        | .panicked chain => Q (.panic chain) a w'
        | .outgrown => LetsOut Q := by
      rintro e w' ⟨v, m', rfl, h3, h4, h5⟩
      refine hK _ _ ⟨m', hm.trans h3, ⟨by rw [put_size]; exact r.size, ?_, by rw [put_defers]; exact r.df.mono h3, ?_⟩⟩
      · exact conc_put r.size hd (fun t => conc_mono h3 _ _ (r.env t)) h4
      · refine WR.join (hi := q.nx) r.w h5 h3 hnx ?_ ?_ ?_
        · intro b h6
          refine (happ s1.hp hb b).trans ?_
          rw [if_pos (by omega)]
        · intro b h6 h7
          refine (happ s1.hp hb b).trans ?_
          rw [if_pos h7]
        · intro b h6
          refine (happ s1.hp hb b).trans ?_
          rw [if_neg (by omega)]
    refine ⟨fun f _ => trivial, ?_⟩
    rw [hexec]
    cases nx with
    | enter g as =>
      rw [Oper.uponIn_enter]
      exact ⟨fun h => absurd h Bool.false_ne_true, CallsIn.mono (F := Fr ro) h2 fun e w' h => by have := fin e w' h; cases e <;> exact this⟩
    | round l g ts x y =>
      rw [Oper.uponIn_round]
      exact ⟨fun h => absurd h Bool.false_ne_true, RoundIn.mono (F := Fr ro) h2 fun e w' h => by have := fin e w' h; cases e <;> exact this⟩
    | _ => exact h2.elim

theorem opX_ok {r : Rec} (hc : CxOk c) (hr : ∀ f args hp nx q, r.call f args hp nx = .ok q → CallOk c f args hp nx q) {o : Oper} {s : S} {q : S × Sk} (hI : Inv s) (hw : wantX ops.toList s.env o = some true) (h : opX c r o s = .ok q) :
    ∃ E, Eff c ops nt ro s o q.1 q.2 E := by
  have simple : (∀ k, o.op ≠ .defer k) → (match stepX c s.nx (evX s.env) s.hp o.op with
    | some e => bif allLe s.nx (namesU e.up) then O.ok ((⟨s.nt, setDst s.env o.dst e.x, setAll s.hp e.up, Nat.succ s.nx, s.df, s.bs, keepLt s.bs (namesU e.up) ++ s.wr⟩ : S), (⟨namesU e.up, s.nx, s.nx, e.rd, false⟩ : Sk)) else .no [4]
    | none => .no [3]) = .ok q → ∃ E, Eff c ops nt ro s o q.1 q.2 E := by
    intro hd h
    split at h
    · rename_i e he
      cases hl : allLe s.nx (namesU e.up) with
      | false => rw [hl] at h; cases h
      | true =>
        rw [hl] at h
        simp only [cond_true, O.ok.injEq] at h
        subst h
        obtain ⟨dst, op, T, pos, af, gd⟩ := o
        exact ⟨_, eff_simple hI hd hw hl (stepX_ok hc he)⟩
    · cases h
  unfold opX at h
  split at h
  · rename_i f args tys hop
    split at h
    · rename_i q' hq
      simp only [O.ok.injEq] at h
      subst h
      exact ⟨_, eff_call hI hop hw (hr _ _ _ _ _ hq)⟩
    · cases h
  · rename_i hne
    by_cases hd : ∀ k, o.op ≠ .defer k
    · exact simple hd h
    · exfalso
      simp only [Classical.not_forall, Classical.not_not] at hd
      obtain ⟨k, hk⟩ := hd
      rw [hk] at h
      simp [stepX] at h
end
end Go.Ex
