/- The exact evaluator, part 25: what panics, and a function whose deferred closure recovers that. -/
import Derived.Test.YtalejkbicihgnaaGreatDoorEvH
import Derived.RecoverIn
import Derived.WideLaws
set_option maxHeartbeats 4000000
set_option maxRecDepth 20000
set_option linter.unusedVariables false
set_option linter.unusedSimpArgs false
namespace Go.Ex
noncomputable section
open Go.RowKit
open Go.Ab (opsIn opsIn_spec)

/-- A call that panics: with what, and what is left. -/
abbrev Lf := X → List X → Tr B → Nat → O (X × Cr)
/-- An operation that panics. -/
def panO (lf : Lf) (o : Oper) (s : S) : Option (X × S) := match o.op with
  | .panic x => (match evX s.env x with
    | .iface t y => some (.iface t y, s)
    | _ => none)
  | .call ⟨.value f, args, _⟩ => match lf (evX s.env f) (evs (evX s.env) args.toList) s.hp s.nx with
    | .ok (x, q) => some (x, ⟨s.nt, s.env, q.hp, q.nx, s.df, s.bs, keepLt s.bs q.wr ++ s.wr⟩)
    | .no _ => none
  | _ => none
/-- Operations, of which one panics. -/
def opsP (c : Cx) (r : Rec) (lf : Lf) (ops : List Oper) : List Oper → S → O (X × S)
  | [], _ => .no [40]
  | o :: l, s => match wantX ops s.env o with
    | some true => (match panO lf o s with
      | some q => .ok q
      | none => (match opX c r o s with
        | .ok q => opsP c r lf ops l q.1
        | .no e => .no e))
    | _ => .no [41]
/-- Code that panics. -/
def codeP (c : Cx) (r : Rec) (lf : Lf) : Code → S → O (X × S)
  | .seq a b, s => (match codeX c r false a s with
    | .ok (.normal, s1) => codeP c r lf b s1
    | _ => codeP c r lf a s)
  | .cond x a b, s => (match evX s.env x with
    | .v (.bool true) => codeP c r lf a s
    | .v (.bool false) => codeP c r lf b s
    | _ => .no [43])
  | .region _ ops draw, s => bif draw then .no [44] else opsP c r lf ops.toList ops.toList s
  | _, _ => .no [45]
def bodyP (c : Cx) (r : Rec) (lf : Lf) (fn : Func) (args : List X) (hp : Tr B) (nx : Nat) : O (X × S) := match fn.body with
  | some code => bif inC fn.ntmps code && Nat.ble (lenL args) fn.ntmps && !(fn.name == "runtime.NumGoroutine") then codeP c r lf code ⟨fn.ntmps, argsE 0 args .nil, hp, nx, [], nx, []⟩ else .no [46]
  | none => .no [47]
/-- A function that defers nothing, and panics. -/
def leafX (c : Cx) (r : Rec) : Lf := fun f args hp nx => match f with
  | .fn g fs cs => (match c.fn.get g with
    | some fn => (match bodyP c r (fun _ _ _ _ => .no []) fn (fs ++ args ++ cs) hp nx with
      | .ok (x, s) => (match s.df with
        | [] => .ok (x, ⟨u0, s.hp, s.nx, s.wr⟩)
        | _ => .no [48])
      | .no e => .no e)
    | none => .no [49])
  | _ => .no [50]
/-- recover, and what it gives put away. -/
def recQ : List Oper → Option (Nat × Nat)
  | [⟨some t1, .call ⟨.builtin .recover, ⟨[]⟩, _⟩, _, _, _, none⟩, ⟨some t2, .assign (.tmp t3), _, _, _, none⟩] => bif Nat.beq t3 t1 then some (t1, t2) else none
  | _ => none
/-- The closure that recovers x. -/
def recX (c : Cx) (r : Rec) (x : X) (d : FuncId) (args : List X) (s : S) : O S := match c.fn.get d with
  | some fd => (match fd.body with
    | some (.seq (.region _ ops false) bd) => (match recQ ops.toList with
      | some (t1, t2) => bif inC fd.ntmps bd && Nat.ble (lenL args) fd.ntmps && !(fd.name == "runtime.NumGoroutine") && Nat.blt t1 fd.ntmps && Nat.blt t2 fd.ntmps && Nat.beq (lenL fd.results.toList) 0 then (match codeX c r false bd ⟨fd.ntmps, ((argsE 0 args .nil).set t1 (some x)).set t2 (some x), s.hp, s.nx, [], s.bs, s.wr⟩ with
          | .ok (.normal, s2) => (match s2.df with | [] => .ok s2 | _ => .no [51])
          | .ok (.ret, s2) => (match s2.df with | [] => .ok s2 | _ => .no [51])
          | .ok _ => .no [52]
          | .no e => .no e) else .no [53]
      | none => .no [54])
    | _ => .no [55])
  | none => .no [56]
/-- A function that panics, and recovers. -/
def catX (c : Cx) (r : Rec) (f : X) (args : List X) (hp : Tr B) (nx : Nat) : O Cr := match f with
  | .fn g fs cs => (match c.fn.get g with
    | some fn => (match bodyP c r (leafX c r) fn (fs ++ args ++ cs) hp nx with
      | .ok (x, s) => (match s.df with
        | [.fn d dargs] => (match recX c r x d dargs s with
          | .ok s2 => (match resX c s.env s2.hp fn.results.toList with
            | some y => .ok ⟨y, s2.hp, s2.nx, s2.wr⟩
            | none => .no [57])
          | .no e => .no e)
        | _ => .no [58])
      | .no e => .no e)
    | none => .no [59])
  | _ => .no [60]

/-- What a call that panics does. -/
def PanOk (c : Cx) (f : X) (args : List X) (hp : Tr B) (nx : Nat) (x : X) (q : Cr) : Prop :=
  (∀ b, nx ≤ b → hp.get b = none) → nx ≤ q.nx ∧ (∀ b, q.nx ≤ b → q.hp.get b = none) ∧ (∀ b, b < nx → b ∉ q.wr → q.hp.get b = hp.get b) ∧
    ∀ w0 M0 fr m w us vf, GOk c.gl w0 M0 → WR w0 M0 fr m hp.get w → (∀ b, nx ≤ b → b < q.nx → fr b) → conc m f = some vf → concL m args = some us →
      Called c.P vf us.toArray w fun e w' => ∃ v m', e = .panicked [{ v, recovered := false }] ∧ Le m m' ∧ conc m' x = some v ∧ WR w0 M0 (Mn fr nx q.nx) m' q.hp.get w'
def LfOk (c : Cx) (lf : Lf) : Prop := ∀ f args hp nx x q, lf f args hp nx = .ok (x, q) → PanOk c f args hp nx x q
/-- How code ends that panics. -/
def PanPost (w0 : World) (M0 : Nat → Prop) (m0 : Mu) (nt : Nat) (fr : Nat → Prop) (lo : Nat) (x : X) (s' : S) (e : Exit) (a : Act) (w : World) : Prop :=
  ∃ v m, e = .panic [{ v, recovered := false }] ∧ Le m0 m ∧ conc m x = some v ∧ AF w0 M0 (Mn fr lo s'.nx) m nt (fsOf s') s'.df a w
section
variable {c : Cx} {r : Rec} {lf : Lf} {rc : List FuncId} {nt : Nat}

theorem panO_ok (hlf : LfOk c lf) {ops : Array Oper} {o : Oper} {s : S} {x : X} {s' : S} (hI : Inv s) (hw : wantX ops.toList s.env o = some true) (h : panO lf o s = some (x, s')) :
    Stat s s' ∧ ∀ w0 M0 m0 fr a w K Q, GOk c.gl w0 M0 → (∀ b, s.nx ≤ b → b < s'.nx → fr b) → RR w0 M0 m0 nt s.df fr (fsOf s) a w → (∀ e a' w', PanPost w0 M0 m0 nt fr s.nx x s' e a' w' → Q e a' w') →
      (if Region.wanted o (yielded ops a.tmps) = true then o.wpIn (Fr none) 0 c.P a w K Q else (∀ f, o.about c.P w a.eval = some f → (Fr none).fn f) ∧ K (a.put o.dst undef) w) := by
  unfold panO at h
  split at h
  · rename_i y hop
    split at h
    · rename_i t z hy
      simp only [Option.some.injEq, Prod.mk.injEq] at h
      obtain ⟨rfl, rfl⟩ := h
      refine ⟨Stat.refl hI, ?_⟩
      rintro w0 M0 m0 fr a w K Q hG hfr ⟨m, hm, R⟩ hQ
      rw [wantX_spec hw (g := envF s.env) (m := m) (fun _ _ => rfl) R.env, if_pos rfl]
      refine ⟨fun _ _ => trivial, ?_⟩
      have hv := eval_vals R.env y
      rw [hy] at hv
      have hv2 := hv
      simp only [conc, Option.map_eq_some_iff] at hv2
      obtain ⟨u, _, hu⟩ := hv2
      have hrun : (o.semAt (Fr none).round a.eval).run c.P w = .halt (.panic (.iface t u)) w := by
        rw [Oper.semAt_eq _ _ _ (by intro k; rw [hop]; simp)]
        have hp : (Instr.panic (.iface t u)).run c.P w = .halt (.panic (.iface t u)) w := rfl
        simp [execOp, hop, ← hu, Sem.run_bind, hp, Result.andThen]
      rw [hrun]
      exact hQ _ _ _ ⟨.iface t u, m, rfl, hm, by rw [hu]; exact hv, ⟨R.size, R.env, R.df, R.w.less fun b hb => hb.1⟩⟩
    · cases h
  · rename_i f args tys hop
    split at h
    · rename_i x' q hq
      simp only [Option.some.injEq, Prod.mk.injEq] at h
      obtain ⟨rfl, rfl⟩ := h
      obtain ⟨hnx, hfree, hlog, hcall⟩ := hlf _ _ _ _ _ _ hq hI.2
      refine ⟨⟨⟨Nat.le_trans hI.1 hnx, hfree⟩, rfl, rfl, hnx, fun b hb h => ?_⟩, ?_⟩
      · have hb' : b < s.bs := hb
        have h' : b ∉ keepLt s.bs q.wr ++ s.wr := h
        rw [List.mem_append, not_or] at h'
        exact ⟨h'.2, hlog b (Nat.lt_of_lt_of_le hb' hI.1) fun hm => h'.1 (mem_keepLt hm hb')⟩
      · rintro w0 M0 m0 fr a w K Q hG hfr ⟨m, hm, R⟩ hQ
        rw [wantX_spec hw (g := envF s.env) (m := m) (fun _ _ => rfl) R.env, if_pos rfl]
        obtain ⟨nx, h1, _, h2⟩ := hcall w0 M0 fr m w (args.toList.map a.eval) (a.eval f) hG R.w hfr (eval_vals R.env f) (evs_rel fun y _ => eval_vals R.env y)
        have harr : (args.toList.map a.eval).toArray = args.map a.eval := by apply Array.toList_inj.1; simp
        rw [harr] at h1
        have hexec : (o.semAt (Fr none).round a.eval).run c.P w = .ok nx w := by
          rw [Oper.semAt_eq _ _ _ (by intro k; rw [hop]; simp)]
          unfold execOp
          simp only [hop, resolve]
          exact h1
        have fin : ∀ e w', (∃ v m', e = Ending.panicked [{ v, recovered := false }] ∧ Le m m' ∧ conc m' x' = some v ∧ WR w0 M0 (Mn fr s.nx q.nx) m' q.hp.get w') →
            match e with
            | .returned v => K (a.put o.dst v) w'
            | .panicked chain => Q (.panic chain) a w'
            | .outgrown => LetsOut Q := by
          rintro e w' ⟨v, m', rfl, h3, h4, h5⟩
          exact hQ _ _ _ ⟨v, m', rfl, hm.trans h3, h4, ⟨R.size, fun t => conc_mono h3 _ _ (R.env t), R.df.mono h3, h5⟩⟩
        refine ⟨fun f _ => trivial, ?_⟩
        rw [hexec]
        cases nx with
        | enter g as =>
          rw [Oper.uponIn_enter]
          exact ⟨fun h => absurd h Bool.false_ne_true, CallsIn.mono (F := Fr none) h2 fun e w' h => by have := fin e w' h; cases e <;> exact this⟩
        | round l g ts x y =>
          rw [Oper.uponIn_round]
          exact ⟨fun h => absurd h Bool.false_ne_true, RoundIn.mono (F := Fr none) h2 fun e w' h => by have := fin e w' h; cases e <;> exact this⟩
        | _ => exact h2.elim
    · cases h
  · cases h

theorem PanPost.back {w0 : World} {M0 : Nat → Prop} {m0 : Mu} {fr : Nat → Prop} {lo mid : Nat} {x : X} {s' : S} {e : Exit} {a : Act} {w : World} (h1 : lo ≤ mid) (h2 : mid ≤ s'.nx) (h : PanPost w0 M0 m0 nt (Mn fr lo mid) mid x s' e a w) : PanPost w0 M0 m0 nt fr lo x s' e a w := by
  obtain ⟨v, m, g1, g2, g3, g4⟩ := h
  exact ⟨v, m, g1, g2, g3, ⟨g4.size, g4.env, g4.df, g4.w.less fun b hb => Mn.join h1 h2 hb⟩⟩
theorem opsP_ok (hc : CxOk c) (hr : RecOk c r) (hlf : LfOk c lf) {ops : Array Oper} (hin : opsIn nt ops.toList = true) : ∀ (l : List Oper) (i : Nat) (s : S) (x : X) (s' : S), opsP c r lf ops.toList l s = .ok (x, s') → ops.toList.drop i = l → Inv s →
    Stat s s' ∧ ∀ w0 M0 m0 fr a w Q, GOk c.gl w0 M0 → (∀ b, s.nx ≤ b → b < s'.nx → fr b) → RR w0 M0 m0 nt s.df fr (fsOf s) a w → (∀ e a' w', PanPost w0 M0 m0 nt fr s.nx x s' e a' w' → Q e a' w') → wpOpsIn (Fr none) 0 c.P ops Q (List.range' i l.length) a w
  | [], _, _, _, _, h, _, _ => by cases h
  | o :: l, i, s, x, s', h, hl, hI => by
    have hlt : i < ops.toList.length := by
      rcases Nat.lt_or_ge i ops.toList.length with h | h
      · exact h
      · rw [List.drop_of_length_le h] at hl; cases hl
    have hcons := List.drop_eq_getElem_cons hlt
    rw [hl] at hcons
    injection hcons with ho hl'
    have ho' : ops[i]? = some o := by
      rw [ho]
      simp at hlt
      simp [hlt]
    have hmem : o ∈ ops.toList := by rw [ho]; exact List.getElem_mem hlt
    have hd := opsIn_spec hin o hmem
    unfold opsP at h
    split at h
    · rename_i hw
      split at h
      · rename_i q hq
        simp only [O.ok.injEq] at h
        subst h
        obtain ⟨k1, k2⟩ := panO_ok (nt := nt) hlf hI hw hq
        refine ⟨k1, fun w0 M0 m0 fr a w Q hG hfr hR hQ => ?_⟩
        simp only [List.length_cons, List.range'_succ, wpOpsIn, ho']
        exact k2 w0 M0 m0 fr a w _ Q hG hfr hR hQ
      · split at h
        · rename_i q hq
          obtain ⟨E, e⟩ := opX_ok (nt := nt) (ro := none) hc hr.call hI hw hq
          obtain ⟨st, hdo⟩ := opsP_ok hc hr hlf hin l (Nat.succ i) q.1 x s' h hl'.symm e.st.inv
          refine ⟨e.st.trans st, fun w0 M0 m0 fr a w Q hG hfr hR hQ => ?_⟩
          have h1 := e.st.nx
          have h2 := st.nx
          simp only [List.length_cons, List.range'_succ, wpOpsIn, ho']
          refine e.snd w0 M0 m0 s.df hG fr (fsOf s) a w hR (fun b hb => hfr b (e.nm b hb).1 (Nat.lt_of_lt_of_le (e.nm b hb).2 h2)) hd (fun _ _ => rfl) (fun _ _ => rfl) _ Q ?_
          intro a' w' hR'
          rw [← e.app] at hR'
          refine hdo w0 M0 m0 (Mn fr s.nx q.1.nx) a' w' Q hG (fun b g1 g2 => ⟨hfr b (by omega) g2, by omega⟩) ?_ fun e' a'' w'' hR'' => hQ e' a'' w'' (hR''.back h1 h2)
          rw [e.df]
          exact hR'.less fun b hb => ⟨hb.1, fun hn => hb.2 (e.nm b hn)⟩
        · cases h
    · cases h

theorem codeP_ok (hc : CxOk c) (hr : RecOk c r) (hlf : LfOk c lf) : ∀ (code : Code) (s : S) (x : X) (s' : S), codeP c r lf code s = .ok (x, s') → inC nt code = true → s.nt = nt → Inv s →
    Stat s s' ∧ ∀ w0 M0 m0 fr a w, GOk c.gl w0 M0 → (∀ b, s.nx ≤ b → b < s'.nx → fr b) → RR w0 M0 m0 nt s.df fr (fsOf s) a w → code.wpIn (Fr none) 0 c.P (PanPost w0 M0 m0 nt fr s.nx x s') a w
  | .seq a b, s, x, s', h, hin, hnt, hI => by
    simp only [inC, Bool.and_eq_true] at hin
    simp only [codeP] at h
    split at h
    · rename_i s1 h1
      have k := codeX_ok (ro := none) (nt := nt) (rnd := false) hc hr.call rfl (hr.code none nt) a _ _ s1 h1 hin.1 hnt hI
      obtain ⟨st, hdo⟩ := codeP_ok hc hr hlf b s1 x s' h hin.2 (k.1.nt.trans hnt) k.1.inv
      have g1 := k.1.nx
      have g2 := st.nx
      refine ⟨k.1.trans st, fun w0 M0 m0 fr act w hG hfr hR => wpIn_seq (wpIn_mono (k.wp w0 M0 m0 fr act w hG (fun b h1 h2 => hfr b h1 (by omega)) hR) ?_)⟩
      rintro e a' w' ⟨rfl, R⟩
      exact wpIn_mono (hdo w0 M0 m0 (Mn fr s.nx s1.nx) a' w' hG (fun b h1 h2 => ⟨hfr b (by omega) h2, by omega⟩) R) fun e a'' w'' p => p.back g1 g2
    · obtain ⟨st, hdo⟩ := codeP_ok hc hr hlf a s x s' h hin.1 hnt hI
      refine ⟨st, fun w0 M0 m0 fr act w hG hfr hR => wpIn_seq (wpIn_mono (hdo w0 M0 m0 fr act w hG hfr hR) ?_)⟩
      rintro e a' w' ⟨v, m, rfl, p⟩
      exact ⟨v, m, rfl, p⟩
  | .cond y a b, s, x, s', h, hin, hnt, hI => by
    simp only [inC, Bool.and_eq_true] at hin
    simp only [codeP] at h
    split at h
    · rename_i hy
      obtain ⟨st, hdo⟩ := codeP_ok hc hr hlf a s x s' h hin.1 hnt hI
      refine ⟨st, fun w0 M0 m0 fr act w hG hfr hR => ?_⟩
      obtain ⟨m, hm, R⟩ := hR
      exact wpIn_cond_true (conc_bool hy (eval_vals R.env y)) (hdo w0 M0 m0 fr act w hG hfr ⟨m, hm, R⟩)
    · rename_i hy
      obtain ⟨st, hdo⟩ := codeP_ok hc hr hlf b s x s' h hin.2 hnt hI
      refine ⟨st, fun w0 M0 m0 fr act w hG hfr hR => ?_⟩
      obtain ⟨m, hm, R⟩ := hR
      exact wpIn_cond_false (conc_bool hy (eval_vals R.env y)) (hdo w0 M0 m0 fr act w hG hfr ⟨m, hm, R⟩)
    · cases h
  | .region id ops draw, s, x, s', h, hin, hnt, hI => by
    simp only [codeP] at h
    replace h := bif_no h
    obtain ⟨hd, h⟩ := h
    subst hd
    have hin' : opsIn nt ops.toList = true := hin
    obtain ⟨st, hdo⟩ := opsP_ok hc hr hlf hin' ops.toList 0 s x s' h rfl hI
    refine ⟨st, fun w0 M0 m0 fr act w hG hfr hR => wpIn_region ?_⟩
    have := hdo w0 M0 m0 fr act w (PanPost w0 M0 m0 nt fr s.nx x s') hG hfr hR fun _ _ _ h => h
    rw [List.range_eq_range']
    simpa using this
  | .skip, _, _, _, h, _, _, _ => by cases h
  | .label _, _, _, _, h, _, _, _ => by cases h
  | .ret, _, _, _, h, _, _, _ => by cases h
  | .exit _, _, _, _, h, _, _, _ => by cases h
  | .goto _, _, _, _, h, _, _, _ => by cases h
  | .block _ _, _, _, _, h, _, _, _ => by cases h
  | .scope _, _, _, _, h, _, _, _ => by cases h
  | .loop _, _, _, _, h, _, _, _ => by cases h
  | .rangeFunc _ _ _ _, _, _, _, h, _, _, _ => by cases h
  | .refuse _, _, _, _, h, _, _, _ => by cases h

theorem bodyP_ok (hc : CxOk c) (hr : RecOk c r) (hlf : LfOk c lf) {fn : Func} {args : List X} {hp : Tr B} {nx : Nat} {x : X} {s' : S} (h : bodyP c r lf fn args hp nx = .ok (x, s')) (hfree : ∀ b, nx ≤ b → hp.get b = none) :
    ∃ code, fn.body = some code ∧ (fn.name == "runtime.NumGoroutine") = false ∧ Stat ⟨fn.ntmps, argsE 0 args .nil, hp, nx, [], nx, []⟩ s' ∧
      ∀ w0 M0 fr m w us, GOk c.gl w0 M0 → WR w0 M0 fr m hp.get w → (∀ b, nx ≤ b → b < s'.nx → fr b) → concL m args = some us →
        code.wpIn (Fr none) 0 c.P (PanPost w0 M0 m fn.ntmps fr nx x s') { tmps := us.toArray ++ Array.replicate (fn.ntmps - us.toArray.size) undef, defers := [] } w := by
  unfold bodyP at h
  split at h
  · rename_i code hcode
    replace h := bif_yes h
    obtain ⟨hb, h⟩ := h
    simp only [Bool.and_eq_true, Bool.not_eq_true'] at hb
    obtain ⟨⟨h1, h2⟩, h3⟩ := hb
    have h2' := Nat.le_of_ble_eq_true h2
    rw [lenL_eq] at h2'
    obtain ⟨st, k⟩ := codeP_ok (nt := fn.ntmps) hc hr hlf code _ x s' h h1 rfl ⟨Nat.le_refl _, hfree⟩
    refine ⟨code, hcode, h3, st, fun w0 M0 fr m w us hG hW hfr hus => k w0 M0 m fr _ w hG hfr ⟨m, Le.refl m, ⟨?_, fun t => start_env hus fn.ntmps t, trivial, hW⟩⟩⟩
    have := concL_length hus
    simp
    omega
  · cases h

theorem leafX_ok (hc : CxOk c) (hf : FnOk c rc) (hr : RecOk c r) : LfOk c (leafX c r) := by
  intro f args hp nx x q h hfree
  unfold leafX at h
  split at h
  · rename_i g fs cs
    split at h
    · rename_i fn hfn
      split at h
      · rename_i x' s hb
        split at h
        · rename_i hdf
          simp only [O.ok.injEq, Prod.mk.injEq] at h
          obtain ⟨rfl, rfl⟩ := h
          obtain ⟨code, b1, b2, st, k⟩ := bodyP_ok hc hr (fun _ _ _ _ _ _ h => by cases h) hb hfree
          refine ⟨st.nx, st.inv.2, fun b hb hn => (st.wr b hb hn).2, fun w0 M0 fr m w us vf hG hW hfr hvf hus => ?_⟩
          obtain ⟨ufs, ucs, h1, h2, rfl⟩ := concL_fn hvf
          have hfP := hf.fn g fn hfn
          refine ⟨.enter g (ufs ++ us ++ ucs).toArray, ?_, fun _ _ _ _ => ⟨_, _, rfl⟩, ?_⟩
          · simp only [Deferred.ofValue, Sem.run_bind, Sem.run_pure, Result.andThen, invoke]
            rw [run_enter hfP b1 b2]
            congr 2
            simp
          · have hall := concL_append (concL_append h1 hus) h2
            refine callsIn_of_wp_marks (F := Fr none) hfP b1 trivial (wpIn_mono (k w0 M0 fr m w _ hG hW hfr hall) ?_)
            rintro e a' w' ⟨v, m', rfl, hm, hv, R⟩
            rw [hdf] at R
            have hd := DRel.nil R.df
            show LeavesInM _ _ _ _ _ _ a'.defers _ _
            rw [hd]
            exact ⟨v, m', rfl, hm, hv, R.w⟩
        · cases h
      · cases h
    · cases h
  · cases h

theorem recQ_inv {ops : Array Oper} {t1 t2 : Nat} (h : recQ ops.toList = some (t1, t2)) : ∃ ts T1 ps1 af1 T2 ps2 af2, ops = #[⟨some t1, .call ⟨.builtin .recover, #[], ts⟩, T1, ps1, af1, none⟩, ⟨some t2, .assign (.tmp t1), T2, ps2, af2, none⟩] := by
  unfold recQ at h
  split at h
  · rename_i t1' ts T1 ps1 af1 t2' t3 T2 ps2 af2 heq
    cases hb : Nat.beq t3 t1' with
    | false => rw [hb] at h; cases h
    | true =>
      rw [hb, cond_true] at h
      simp only [Option.some.injEq, Prod.mk.injEq] at h
      obtain ⟨rfl, rfl⟩ := h
      have := Nat.eq_of_beq_eq_true hb
      subst this
      exact ⟨ts, T1, ps1, af1, T2, ps2, af2, Array.toList_inj.1 heq⟩
  · cases h

/-- What the closure does that recovers. -/
def RecDo (c : Cx) (x : X) (d : FuncId) (dargs : List X) (s s2 : S) : Prop :=
    s.nx ≤ s2.nx ∧ (∀ b, s2.nx ≤ b → s2.hp.get b = none) ∧ (∀ b, b < s.bs → b ∉ s2.wr → b ∉ s.wr ∧ s2.hp.get b = s.hp.get b) ∧ (∀ args w, (callFunc d args).run c.P w = .ok (.enter d args) w) ∧
      ∀ w0 M0 fr m w us v, GOk c.gl w0 M0 → WR w0 M0 fr m s.hp.get w → (∀ b, s.nx ≤ b → b < s2.nx → fr b) → concL m dargs = some us → conc m x = some v →
        CallsDIn (Fr none) 0 c.P d us.toArray (.panicking [{ v, recovered := false }]) w fun e u w' => (∃ y, e = .returned y) ∧ u = .panicking [{ v, recovered := true }] ∧ ∃ m', Le m m' ∧ WR w0 M0 (Mn fr s.nx s2.nx) m' s2.hp.get w'
theorem recX_ok (hc : CxOk c) (hf : FnOk c rc) (hr : RecOk c r) {x : X} {d : FuncId} {dargs : List X} {s s2 : S} (h : recX c r x d dargs s = .ok s2) (hI : Inv s) : RecDo c x d dargs s s2 := by
  unfold recX at h
  split at h
  · rename_i fd hfd
    split at h
    · rename_i id ops bd hbody
      split at h
      · rename_i t1 t2 hq
        replace h := bif_yes h
        obtain ⟨hb, h⟩ := h
        simp only [Bool.and_eq_true, Bool.not_eq_true'] at hb
        obtain ⟨⟨⟨⟨⟨h1, h2⟩, h3⟩, h4⟩, h5⟩, h6⟩ := hb
        have h2' := Nat.le_of_ble_eq_true h2
        rw [lenL_eq] at h2'
        have h4' : t1 < fd.ntmps := Nat.le_of_ble_eq_true h4
        have h5' : t2 < fd.ntmps := Nat.le_of_ble_eq_true h5
        have h6' := Nat.eq_of_beq_eq_true h6
        rw [lenL_eq] at h6'
        have hres : fd.results = #[] := by
          apply Array.toList_inj.1
          exact List.length_eq_zero_iff.1 h6'
        obtain ⟨ts, T1, ps1, af1, T2, ps2, af2, rfl⟩ := recQ_inv hq
        have hfP := hf.fn d fd hfd
        have main : ∀ xt, (xt = .normal ∨ xt = .ret) → codeX c r false bd ⟨fd.ntmps, ((argsE 0 dargs .nil).set t1 (some x)).set t2 (some x), s.hp, s.nx, [], s.bs, s.wr⟩ = .ok (xt, s2) → s2.df = [] → RecDo c x d dargs s s2 := by
          intro xt hxt hx hdf
          have k := codeX_ok (ro := none) (nt := fd.ntmps) (rnd := false) hc hr.call rfl (hr.code none fd.ntmps) bd _ xt s2 hx h1 rfl hI
          refine ⟨k.1.nx, k.1.inv.2, fun b hb hn => k.1.wr b hb hn, run_enter hfP hbody h3, fun w0 M0 fr m w us v hG hW hfr hus hv => ?_⟩
          refine callsDIn_of_wpSIn (F := Fr none) hfP hbody trivial fun c0 cs hc0 => wpSIn_seq (wpSIn_region ?_)
          have hrec : recoverD (c0 :: cs) = some (v, { c0 with mode := .panicking [{ v, recovered := true }] } :: cs) := by simp [recoverD, hc0]
          have hul := concL_length hus
          have hsz : (us.toArray ++ Array.replicate (fd.ntmps - us.toArray.size) undef).size = fd.ntmps := by simp; omega
          have henv := start_env hus fd.ntmps
          generalize (us.toArray ++ Array.replicate (fd.ntmps - us.toArray.size) undef) = tm at hsz henv
          have e1 : (execOp ({ tmps := tm, defers := [] } : Act).eval ⟨some t1, .call { callee := .builtin .recover, args := #[], argTypes := ts }, T1, ps1, af1, none⟩).run c.P w = .ok .recover w := rfl
          have ev1 : (({ tmps := tm, defers := [] } : Act).put (some t1) v).eval (.tmp t1) = v := by
            simp [Act.put, Act.eval, Array.getD, hsz, h4']
          have e2 : (execOp (({ tmps := tm, defers := [] } : Act).put (some t1) v).eval ⟨some t2, .assign (.tmp t1), T2, ps2, af2, none⟩).run c.P w = .ok (.value v) w := by
            simp only [execOp, ev1, Sem.run_pure]
          show wpOpsSIn (Fr none) 0 c.P _ _ [0, 1] _ _ _
          simp only [wpOpsSIn, List.getElem?_toArray, List.getElem?_cons_zero, List.getElem?_cons_succ, Region.wanted, if_true, e1, hrec, e2]
          refine ⟨fun _ _ => trivial, fun _ _ => trivial, ?_⟩
          refine wpSIn_of_wpIn rfl (wpIn_mono (k.wp w0 M0 m fr _ w hG hfr ⟨m, Le.refl m, ⟨?_, fun t => ?_, ?_, hW⟩⟩) ?_)
          · rw [put_size, put_size]; exact hsz
          · have g1 := conc_put (a := { tmps := tm, defers := [] }) (dst := some t1) (nt := fd.ntmps) (g := envF (argsE 0 dargs .nil)) hsz (fun t ht => by cases ht; exact h4') henv hv
            have g2 := conc_put (a := ({ tmps := tm, defers := [] } : Act).put (some t1) v) (dst := some t2) (nt := fd.ntmps) (g := envF ((argsE 0 dargs .nil).set t1 (some x))) (by rw [put_size]; exact hsz) (fun t ht => by cases ht; exact h5') (fun t => by
              have := g1 t
              rw [envF_set]
              simpa using this) hv t
            show conc m (envF _ t) = _
            rw [envF_set]
            simpa using g2
          · rw [put_defers, put_defers]; trivial
          · rintro e a' w' ⟨rfl, m', hm', R⟩
            rw [hdf] at R
            have hd := DRel.nil R.df
            have hv3 : (results fd a'.tmps).run c.P w' = .ok (.tuple #[]) w' := by simp [results, hres]
            have fin : a'.defers = [] ∧ ∃ u', ({ c0 with mode := .panicking [{ v, recovered := true }] } : Frame) :: cs = { c0 with mode := u' } :: cs ∧ ∃ y, (results fd a'.tmps).run c.P w' = .ok y w' ∧ ((∃ y', Ending.returned y = .returned y') ∧ u' = .panicking [{ v, recovered := true }] ∧ ∃ m', Le m m' ∧ WR w0 M0 (Mn fr s.nx s2.nx) m' s2.hp.get w') :=
              ⟨hd, _, rfl, _, hv3, ⟨_, rfl⟩, rfl, m', hm', R.w⟩
            rcases hxt with rfl | rfl
            · exact fin
            · exact fin
        split at h
        · rename_i s3 hx
          split at h
          · rename_i hdf
            simp only [O.ok.injEq] at h
            subst h
            exact main .normal (.inl rfl) hx hdf
          · cases h
        · rename_i s3 hx
          split at h
          · rename_i hdf
            simp only [O.ok.injEq] at h
            subst h
            exact main .ret (.inr rfl) hx hdf
          · cases h
        · cases h
        · cases h
      · cases h
    · cases h
  · cases h

/-- **A function that panics and recovers, told exactly.** -/
theorem catX_ok (hc : CxOk c) (hf : FnOk c rc) (hr : RecOk c r) {f : X} {args : List X} {hp : Tr B} {nx : Nat} {q : Cr} (h : catX c r f args hp nx = .ok q) : CallOk c f args hp nx q := by
  intro hfree
  unfold catX at h
  split at h
  · rename_i g fs cs
    split at h
    · rename_i fn hfn
      split at h
      · rename_i x s hb
        split at h
        · rename_i d dargs hdf
          split at h
          · rename_i s2 hs2
            split at h
            · rename_i y hy
              simp only [O.ok.injEq] at h
              subst h
              obtain ⟨code, b1, b2, st, k⟩ := bodyP_ok hc hr (leafX_ok hc hf hr) hb hfree
              have hbs : s.bs = nx := st.bs
              have hnx : nx ≤ s.nx := st.nx
              obtain ⟨r1, r2, r3, r4, r5⟩ := recX_ok hc hf hr hs2 st.inv
              refine ⟨Nat.le_trans hnx r1, r2, fun b hb' hn => ?_, fun w0 M0 fr m w us vf hG hW hfr hvf hus => ?_⟩
              · obtain ⟨g1, g2⟩ := r3 b (by rw [hbs]; exact hb') hn
                exact g2.trans (st.wr b hb' g1).2
              · obtain ⟨ufs, ucs, h1, h2, rfl⟩ := concL_fn hvf
                have hfP := hf.fn g fn hfn
                have hfr' : ∀ b, nx ≤ b → b < s2.nx → fr b := hfr
                refine ⟨.enter g (ufs ++ us ++ ucs).toArray, ?_, fun _ _ _ _ => ⟨_, _, rfl⟩, ?_⟩
                · simp only [Deferred.ofValue, Sem.run_bind, Sem.run_pure, Result.andThen, invoke]
                  rw [run_enter hfP b1 b2]
                  congr 2
                  simp
                · have hall := concL_append (concL_append h1 hus) h2
                  refine callsIn_of_wp_marks (F := Fr none) hfP b1 trivial (wpIn_mono (k w0 M0 fr m w _ hG hW (fun b g1 g2 => hfr' b g1 (Nat.lt_of_lt_of_le g2 r1)) hall) ?_)
                  rintro e a' w' ⟨v, m1, rfl, hm1, hv, R⟩
                  have hdr := R.df
                  rw [hdf] at hdr
                  show LeavesInM _ _ _ _ _ _ a'.defers _ _
                  cases hds : a'.defers with
                  | nil => rw [hds] at hdr; exact hdr.elim
                  | cons dd ds =>
                    rw [hds] at hdr
                    obtain ⟨⟨cap, da, us', hd1, hd2, hd3⟩, hd4⟩ := hdr
                    have := DRel.nil hd4
                    subst this hd1
                    have hcall := r5 w0 M0 (Mn fr nx s.nx) m1 w' us' v hG R.w (fun b g1 g2 => ⟨hfr' b (by omega) g2, by omega⟩) hd2 hv
                    rw [← hd3] at hcall
                    refine ⟨by simp, .inr ⟨fun h => absurd h Bool.false_ne_true, .func d, cap, d, da ++ cap, rfl, r4 _ w', fun _ _ => trivial, CallsDIn.mono (F := Fr none) hcall ?_⟩⟩
                    rintro e u w2 ⟨⟨z, rfl⟩, rfl, m2, hm2, W2⟩
                    obtain ⟨v3, g1, g2⟩ := resX_ok (a := a') (fn := fn) (env := s.env) hc hG W2 (fun t => conc_mono hm2 _ _ (R.env t)) hy
                    exact ⟨v3, g1, v3, m2, rfl, hm1.trans hm2, g2, W2.less fun b hb => Mn.join hnx r1 hb⟩
            · cases h
          · cases h
        · cases h
      · cases h
    · cases h
  · cases h

/-- Calls alone. -/
def recE (c : Cx) (rc : List FuncId) (t : Tr (List En)) (n : Nat) : Rec := ⟨fun _ _ _ => .no [61], (runE c rc t n).call⟩
theorem recE_ok (hc : CxOk c) (hf : FnOk c rc) {t : Tr (List En)} (ht : Goods c t) (n : Nat) : RecOk c (recE c rc t n) :=
  ⟨fun _ _ _ _ _ h => runE_call hc hf ht h, fun _ _ _ _ _ _ h => by cases h⟩
/-- The entry of a call that panics and recovers. -/
theorem good_cat (hc : CxOk c) (hf : FnOk c rc) {t : Tr (List En)} (ht : Goods c t) {n : Nat} {e : En} (h : chk e (catX c (recE c rc t n) e.f e.args (ofK e.key .nil) e.nx) = true) : e.Good c := by
  cases hq : catX c (recE c rc t n) e.f e.args (ofK e.key .nil) e.nx with
  | no l => rw [hq] at h; cases h
  | ok q => rw [hq] at h; exact ⟨q, catX_ok hc hf (recE_ok hc hf ht n) hq, h⟩

/-- A closure that recovers, where nothing is to be recovered: held against nil by inequality. -/
theorem rc_ok2 {P : Program} {f : FuncId} {fn : Func} {r e d q i0 i1 : Nat} {T T0 T1 T2 T3 T4 : TypeId} {s0 s1 s2 s3 : String} {A : Code} {af0 af1 af2 af3 : Array Edge} (hf : P.funcs[f]? = some fn)
    (hb : fn.body = some (.seq (.region i0 #[⟨some r, .call ⟨.builtin .recover, #[], #[]⟩, T0, s0, af0, none⟩, ⟨some d, .assign (.tmp r), T1, s1, af1, none⟩] false) (.seq (.region i1 #[⟨some q, .move (.tmp d), T2, s2, af2, none⟩, ⟨some e, .binOp .neq T (.tmp q) (.const .nilIface) T3, T4, s3, af3, none⟩] false) (.cond (.tmp e) A .skip))))
    (hres : fn.results = #[]) (hT : P.underlying T = some (.interface (P.methodsAt T))) (hr : r < fn.ntmps) (hd : d < fn.ntmps) (hq : q < fn.ntmps) (he : e < fn.ntmps) (args : Array Value) (w : World) :
    CallsDIn Fence.wide 0 P f args .returning w fun e u w' => (∃ v, e = .returned v) ∧ u = .returning ∧ w' = w := by
  refine callsDIn_of_wpSIn hf hb trivial fun c0 cs hu => ?_
  have hrec : recoverD (c0 :: cs) = none := by simp [recoverD, hu]
  have hlen : fn.ntmps ≤ (args ++ Array.replicate (fn.ntmps - args.size) undef).size := by simp; omega
  generalize (args ++ Array.replicate (fn.ntmps - args.size) undef) = t at *
  refine wpSIn_seq (wpSIn_region ?_)
  have h1 : (execOp (Act.eval { tmps := t, defers := [] }) ⟨some r, .call ⟨.builtin .recover, #[], #[]⟩, T0, s0, af0, none⟩).run P w = .ok .recover w := by
    simp [execOp, resolve, invoke, builtin]
  have gself : ∀ (a : Act) k v, k < a.tmps.size → (a.put (some k) v).eval (.tmp k) = v := fun a k v hk => by simp [Act.put, Act.eval, Array.getD, hk]
  obtain ⟨a0, ha0⟩ : ∃ a0 : Act, a0 = { tmps := t, defers := [] } := ⟨_, rfl⟩
  have z0 : fn.ntmps ≤ a0.tmps.size := by rw [ha0]; exact hlen
  rw [← ha0] at h1 ⊢
  obtain ⟨a1, ha1⟩ : ∃ a1 : Act, a1 = a0.put (some r) .nilIface := ⟨_, rfl⟩
  have z1 : fn.ntmps ≤ a1.tmps.size := by rw [ha1, put_size]; exact z0
  have e1 : a1.eval (.tmp r) = .nilIface := by rw [ha1]; exact gself _ _ _ (by omega)
  obtain ⟨a2, ha2⟩ : ∃ a2 : Act, a2 = a1.put (some d) .nilIface := ⟨_, rfl⟩
  have z2 : fn.ntmps ≤ a2.tmps.size := by rw [ha2, put_size]; exact z1
  have e2 : a2.eval (.tmp d) = .nilIface := by rw [ha2]; exact gself _ _ _ (by omega)
  have h2 : (execOp a1.eval ⟨some d, .assign (.tmp r), T1, s1, af1, none⟩).run P w = .ok (.value .nilIface) w := by simp only [execOp, e1, Sem.run_pure]
  show wpOpsSIn Fence.wide 0 P _ _ [0, 1] _ _ _
  simp only [wpOpsSIn, List.getElem?_toArray, List.getElem?_cons_zero, List.getElem?_cons_succ, Region.wanted, if_true, h1, hrec, ← ha1, h2, ← ha2]
  refine ⟨fun _ _ => trivial, fun _ _ => trivial, ?_⟩
  refine wpSIn_of_wpIn rfl (wpIn_seq (wpIn_region ?_))
  obtain ⟨a3, ha3⟩ : ∃ a3 : Act, a3 = a2.put (some q) .nilIface := ⟨_, rfl⟩
  have z3 : fn.ntmps ≤ a3.tmps.size := by rw [ha3, put_size]; exact z2
  have e3 : a3.eval (.tmp q) = .nilIface := by rw [ha3]; exact gself _ _ _ (by omega)
  obtain ⟨a4, ha4⟩ : ∃ a4 : Act, a4 = a3.put (some e) (.bool false) := ⟨_, rfl⟩
  have e4 : a4.eval (.tmp e) = .bool false := by rw [ha4]; exact gself _ _ _ (by omega)
  have h3 : (execOp a2.eval ⟨some q, .move (.tmp d), T2, s2, af2, none⟩).run P w = .ok (.value .nilIface) w := by simp only [execOp, e2, Sem.run_pure]
  have h4 : (execOp a3.eval ⟨some e, .binOp .neq T (.tmp q) (.const .nilIface) T3, T4, s3, af3, none⟩).run P w = .ok (.value (.bool false)) w := by
    have hk : a3.eval (.const .nilIface) = .nilIface := rfl
    have hg : (eqGuard .neq T (.tmp q) (.const .nilIface) .nilIface .nilIface).run P w = .ok () w := by simp [eqGuard]
    simp only [execOp, e3, hk, Sem.run_bind, hg, run_neq_nil_nil w T hT, Result.andThen, Sem.run_pure]
  show wpOpsIn Fence.wide 0 P _ _ [0, 1] _ _
  simp only [wpOpsIn, List.getElem?_toArray, List.getElem?_cons_zero, List.getElem?_cons_succ, Region.wanted, if_true, Oper.wpIn]
  refine ⟨fun _ _ => trivial, ?_⟩
  rw [Oper.semAt_eq _ _ _ (by simp), h3, Oper.uponIn_value]
  simp only [← ha3]
  refine ⟨fun _ _ => trivial, ?_⟩
  rw [Oper.semAt_eq _ _ _ (by simp), h4, Oper.uponIn_value]
  simp only [← ha4]
  refine wpIn_cond_false e4 (wpIn_skip ?_)
  have hd4 : a4.defers = [] := by rw [ha4, put_defers, ha3, put_defers, ha2, put_defers, ha1, put_defers, ha0]
  have hv3 : (results fn a4.tmps).run P w = .ok (.tuple #[]) w := by simp [results, hres]
  exact ⟨hd4, .returning, by rw [← hu], .tuple #[], hv3, ⟨_, rfl⟩, rfl, rfl⟩
end
end
end Go.Ex
