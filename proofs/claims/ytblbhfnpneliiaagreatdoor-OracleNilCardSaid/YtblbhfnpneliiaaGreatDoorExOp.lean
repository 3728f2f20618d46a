/- The exact evaluator, part 12: one operation in a state; regions. -/
import Derived.Test.YtblbhfnpneliiaaGreatDoorExRegion
namespace Go.Ex
open Go.RowKit
open Go.Ab (reach Clo opsIn opsIn_spec env_put)

/-- The fences of plain code, and of a round's. -/
abbrev Fr (ro : Option Nat) : Fence := { Fence.wide with round := ro }
def envF (env : Tr X) (t : Nat) : X := evX env (.tmp t)
def evF (g : Nat → X) : Operand → X
  | .tmp t => g t
  | .const v => .v v
  | .global g => .v (.pointer (some ⟨g, 0, none⟩))
  | .func f => .fn f [] []
theorem evX_evF (env : Tr X) : evX env = evF (envF env) := by
  funext o
  cases o <;> rfl
/-- Deferred calls. -/
def DRel (m : Mu) : List Df → List Deferred → Prop
  | [], [] => True
  | .fn f args :: l, d :: ds => (∃ cap dargs us, d = { target := .fn (.func f) cap, args := dargs } ∧ concL m args = some us ∧ dargs ++ cap = us.toArray) ∧ DRel m l ds
  | .mark b :: l, d :: ds => (∃ p, m b = some p ∧ d = { target := .collected p.1, args := #[] }) ∧ DRel m l ds
  | _, _ => False
theorem DRel.mono {m m' : Mu} (h : Le m m') : ∀ {l : List Df} {ds : List Deferred}, DRel m l ds → DRel m' l ds
  | [], [], _ => trivial
  | [], _ :: _, k => k
  | _ :: _, [], k => by rename_i x _; cases x <;> exact k
  | .fn f args :: l, d :: ds, ⟨⟨cap, dargs, us, h1, h2, h3⟩, k⟩ => ⟨⟨cap, dargs, us, h1, concL_mono h _ _ h2, h3⟩, DRel.mono h k⟩
  | .mark b :: l, d :: ds, ⟨⟨p, h1, h2⟩, k⟩ => ⟨⟨p, h _ _ h1, h2⟩, DRel.mono h k⟩
/-- What an activation and the world have to do with a state. -/
structure AF (w0 : World) (M0 fr : Nat → Prop) (m : Mu) (nt : Nat) (st : FS) (df : List Df) (a : Act) (w : World) : Prop where
  size : a.tmps.size = nt
  env : ∀ t, conc m (st.env t) = some (a.tmps.getD t undef)
  df : DRel m df a.defers
  w : WR w0 M0 fr m st.hp w
/-- The same, of some names that are told as m0 tells them. -/
def RR (w0 : World) (M0 : Nat → Prop) (m0 : Mu) (nt : Nat) (df : List Df) (fr : Nat → Prop) (st : FS) (a : Act) (w : World) : Prop := ∃ m, Le m0 m ∧ AF w0 M0 fr m nt st df a w
theorem RR.free {w0 : World} {M0 : Nat → Prop} {m0 : Mu} {nt : Nat} {df : List Df} : ∀ (fr fr' : Nat → Prop) (s : FS) (a : Act) (w : World), RR w0 M0 m0 nt df fr s a w → (∀ b, fr' b → fr b) → RR w0 M0 m0 nt df fr' s a w :=
  fun _ _ _ _ _ ⟨m, h1, h2⟩ hf => ⟨m, h1, ⟨h2.size, h2.env, h2.df, h2.w.less hf⟩⟩
theorem rep_evF {m : Mu} {g : Nat → X} {a : Act} (h : ∀ t, conc m (g t) = some (a.tmps.getD t undef)) (x : Operand) : conc m (evF g x) = some (a.eval x) := by
  cases x with
  | tmp t => exact h t
  | const v => exact conc_vv m v
  | global g => exact conc_vv m _
  | func f => simp [evF, conc, concL, Act.eval]
theorem evF_agree {ops : Array Oper} {o : Oper} {g g' : Nat → X} (h : ∀ t ∈ o.looksAt ops, g t = g' t) {x : Operand} (hx : x ∈ o.op.operands) : evF g x = evF g' x := by
  cases x with
  | tmp t => exact h t (List.mem_append_left _ (List.mem_filterMap.2 ⟨.tmp t, by simpa using hx, rfl⟩))
  | _ => rfl
theorem conc_put {m : Mu} {g : Nat → X} {a : Act} {dst : Option Nat} {nt : Nat} {v : Value} {x : X} (hs : a.tmps.size = nt) (hd : ∀ t, dst = some t → t < nt) (h : ∀ t, conc m (g t) = some (a.tmps.getD t undef)) (hv : conc m x = some v) (t : Nat) :
    conc m (if dst = some t then x else g t) = some ((a.put dst v).tmps.getD t undef) := by
  cases dst with
  | none => simpa [Act.put] using h t
  | some k =>
    simp only [Act.put, Option.some.injEq]
    by_cases hk : k = t
    · subst hk
      have : k < a.tmps.size := by rw [hs]; exact hd k rfl
      simp only [if_true, Array.getD, Array.size_setIfInBounds, this, dite_true]
      simpa using hv
    · rw [if_neg hk]
      have := h t
      simp only [Array.getD_eq_getD_getElem?, Array.getElem?_setIfInBounds_ne hk] at this ⊢
      exact this
theorem put_size (a : Act) (dst : Option Nat) (v : Value) : (a.put dst v).tmps.size = a.tmps.size := by cases dst <;> simp [Act.put]
theorem put_defers (a : Act) (dst : Option Nat) (v : Value) : (a.put dst v).defers = a.defers := by cases dst <;> rfl

section
variable {c : Cx} {ops : Array Oper} {nt : Nat} {ro : Option Nat} {w0 : World} {M0 : Nat → Prop} {m0 : Mu} {df : List Df}

/-- What a guard decides. -/
theorem wantX_spec {env : Tr X} {o : Oper} {b : Bool} (h : wantX ops.toList env o = some b) {m : Mu} {g : Nat → X} {a : Act} (hg : ∀ t ∈ o.looksAt ops, g t = envF env t) (ha : ∀ t, conc m (g t) = some (a.tmps.getD t undef)) : Region.wanted o (yielded ops a.tmps) = b := by
  unfold wantX at h
  split at h
  · rename_i hgd
    simp only [Option.some.injEq] at h
    simp [Region.wanted, hgd, h]
  · rename_i j want hgd
    split at h
    · rename_i t ht
      have hd : (ops[j]?).bind (·.dst) = some t := by
        unfold dstAt at ht
        rw [nth_eq] at ht
        have e1 : ops.toList[j]? = ops[j]? := by simp
        rw [e1] at ht
        cases ho : ops[j]? with
        | none => rw [ho] at ht; cases ht
        | some q => rw [ho] at ht; simpa using ht
      have hl : t ∈ o.looksAt ops := List.mem_append_right _ (by simp [hgd, hd])
      have hv := ha t
      rw [hg t hl] at hv
      have hy : ∀ x, a.tmps.getD t undef = x → yielded ops a.tmps j = match x with | .bool b => some b | _ => none := by
        intro x hx
        unfold yielded
        rw [hd]
        simp only [Option.bind_some]
        rcases Nat.lt_or_ge t a.tmps.size with hlt | hge
        · have : a.tmps[t]? = some x := by
            rw [← hx]
            simp [Array.getD, hlt]
          rw [this]
          cases x <;> rfl
        · have h1 : a.tmps[t]? = none := Array.getElem?_eq_none hge
          have h2 : x = undef := by
            rw [← hx]
            simp [Array.getD, Nat.not_lt.2 hge]
          rw [h1, h2]
          rfl
      split at h
      · rename_i q hq
        simp only [Option.some.injEq] at h
        have e2 : envF env t = .v (.bool q) := by simp only [envF, evX, hq]
        rw [e2] at hv
        have := conc_v hv
        have h3 := hy _ this
        subst h
        simp only [Region.wanted, hgd, h3]
        cases q <;> cases want <;> rfl
      · rename_i hq
        simp only [Option.some.injEq] at h
        have e2 : envF env t = .v (.tuple ⟨[]⟩) := by simp only [envF, evX, hq]
        rw [e2] at hv
        have := conc_v hv
        have h3 := hy _ this
        subst h
        simp only [Region.wanted, hgd, h3]
        cases want <;> rfl
      · cases h
    · cases h

def simpleE (id : Nat) (e : Ef) : EX := ⟨e.x, fun b => if b ∈ namesU e.up then some (upL e.up (fun _ => none) b) else none, fun b => b ∈ e.rd, fun b => b = id⟩
theorem upL_get : ∀ (up : List (Nat × Option B)) (h : Nat → Option B) (b : Nat), upL up h b = if b ∈ namesU up then upL up (fun _ => none) b else h b
  | [], h, b => by simp [upL, namesU]
  | (k, x) :: r, h, b => by
    simp only [upL, namesU, List.mem_cons]
    rw [upL_get r (upd h k x) b, upL_get r (upd (fun _ => none) k x) b]
    by_cases hr : b ∈ namesU r
    · simp [hr]
    · by_cases hk : b = k
      · subst hk; simp [hr, upd]
      · have : ¬ k = b := fun e => hk e.symm
        simp [hr, hk, upd, this]
theorem simple_app (s : FS) (dst : Option Nat) (id : Nat) (e : Ef) : s.app dst (simpleE id e) = ⟨fun t => if dst = some t then e.x else s.env t, upL e.up s.hp⟩ := by
  unfold FS.app simpleE
  congr 1
  funext b
  simp only
  rw [upL_get e.up s.hp b]
  by_cases hb : b ∈ namesU e.up <;> simp [hb]

/-- A plain operation. -/
theorem sound_simple {o : Oper} {id : Nat} {env : Tr X} {hp : Tr B} {e : Ef} (hop : ∀ k, o.op ≠ .defer k) (hw : wantX ops.toList env o = some true) (hok : OpOk c.P c.gl o id (evX env) hp e) (hG : GOk c.gl w0 M0) :
    XSound (Fr ro) 0 c.P ops nt (RR w0 M0 m0 nt df) o ⟨envF env, hp.get⟩ (simpleE id e) := by
  rintro fr s a w ⟨m, hm, r⟩ hnm hd ht hb K Q hK
  rw [wantX_spec hw (g := s.env) (m := m) ht r.env, if_pos rfl]
  obtain ⟨nx, v, w', m', h1, h2, h3, h4, h5⟩ := hok w0 M0 fr m s.hp a w hG r.w (hnm id rfl) (fun y hy => by
    rw [evX_evF, ← evF_agree ht hy]; exact rep_evF r.env y) hb
  refine ⟨fun f _ => trivial, ?_⟩
  rw [Oper.semAt_eq _ _ _ hop, h1]
  have fin : RR w0 M0 m0 nt df (fun b => fr b ∧ ¬ (simpleE id e).nm b) (s.app o.dst (simpleE id e)) (a.put o.dst v) w' := by
    refine ⟨m', hm.trans h3, ⟨by rw [put_size]; exact r.size, ?_, by rw [put_defers]; exact r.df.mono h3, ?_⟩⟩
    · rw [simple_app]
      exact conc_put r.size hd (fun t => conc_mono h3 _ _ (r.env t)) h4
    · rw [simple_app]
      exact h5.less fun b hb => ⟨hb.1, hb.2⟩
  rcases h2 with rfl | ⟨rfl, rfl⟩
  · exact hK _ _ fin
  · exact hK _ _ fin

/-- An operation that is passed over. -/
theorem sound_skip {o : Oper} {env : Tr X} {hp : Tr B} (hw : wantX ops.toList env o = some false) :
    XSound (Fr ro) 0 c.P ops nt (RR w0 M0 m0 nt df) o ⟨envF env, hp.get⟩ noE := by
  rintro fr s a w ⟨m, hm, r⟩ hnm hd ht hb K Q hK
  rw [wantX_spec hw (g := s.env) (m := m) ht r.env, if_neg (by simp)]
  refine ⟨fun f _ => trivial, hK _ _ ⟨m, hm, ⟨by rw [put_size]; exact r.size, ?_, by rw [put_defers]; exact r.df, ?_⟩⟩⟩
  · exact conc_put r.size hd r.env (by simp [noE, u0, conc, undef])
  · have : (s.app o.dst noE).hp = s.hp := by funext b; simp [FS.app, noE]
    rw [this]
    exact r.w.less fun b hb => hb.1

/-- The run of a call of a function value, and what it comes to. -/
def Called (P : Program) (vf : Value) (args : Array Value) (w : World) (R : Ending → World → Prop) : Prop :=
  ∃ nx, (do let d ← Deferred.ofValue vf args; invoke d.target d.args : Sem Next).run P w = .ok nx w ∧ (∀ g us vs, vf = .func (.func g) us vs → ∃ g' as, nx = .enter g' as) ∧ match nx with
    | .enter g as => CallsIn Fence.wide 0 P g as w R
    | .round l f tmps a b => RoundIn Fence.wide 0 P l f tmps a b w R
    | _ => False

/-- What a call does, told exactly. -/
def CallOk (c : Cx) (f : X) (args : List X) (hp : Tr B) (nx : Nat) (q : Cr) : Prop :=
  (∀ b, nx ≤ b → hp.get b = none) → nx ≤ q.nx ∧ (∀ b, q.nx ≤ b → q.hp.get b = none) ∧ (∀ b, b < nx → b ∉ q.wr → q.hp.get b = hp.get b) ∧
    ∀ w0 M0 fr m w us vf, GOk c.gl w0 M0 → WR w0 M0 fr m hp.get w → (∀ b, nx ≤ b → b < q.nx → fr b) → conc m f = some vf → concL m args = some us →
      Called c.P vf us.toArray w fun e w' => ∃ v m', e = .returned v ∧ Le m m' ∧ conc m' q.x = some v ∧ WR w0 M0 (fun b => fr b ∧ ¬ (nx ≤ b ∧ b < q.nx)) m' q.hp.get w'

/-- The part of the world that a call is handed. -/
def M1 (m : Mu) (h : Nat → Option B) (lo : Nat) (k : Nat) : Prop := ∃ b x cc, b < lo ∧ h b = some x ∧ m b = some (k, cc)
theorem WR.sub {fr : Nat → Prop} {m : Mu} {h : Nat → Option B} {w : World} (r : WR w0 M0 fr m h w) (lo : Nat) : WR w (M1 m h lo) fr m (fun b => if b < lo then h b else none) w := by
  have inv : ∀ b x, (if b < lo then h b else none) = some x → b < lo ∧ h b = some x := by
    intro b x hb
    by_cases e : b < lo
    · rw [if_pos e] at hb; exact ⟨e, hb⟩
    · rw [if_neg e] at hb; cases hb
  exact ⟨fun b x hb => r.blk b x (inv b x hb).2, fun b x k cc hb hm => .inl ⟨b, x, cc, (inv b x hb).1, (inv b x hb).2, hm⟩, fun b b' x x' k cc cc' hb hb' => r.inj b b' x x' k cc cc' (inv b x hb).2 (inv b' x' hb').2, r.fresh, fun _ _ _ => rfl, Nat.le_refl _, rfl, rfl, rfl⟩
theorem M1_own {fr : Nat → Prop} {m : Mu} {h : Nat → Option B} {w : World} (r : WR w0 M0 fr m h w) {lo k : Nat} (hk : M1 m h lo k) : M0 k ∨ w0.heap.size ≤ k := by
  obtain ⟨b, x, cc, _, h2, h3⟩ := hk
  exact r.own b x k cc h2 h3
theorem GOk.sub {G : Tr (List Value)} {fr : Nat → Prop} {m : Mu} {h : Nat → Option B} {w : World} (hG : GOk G w0 M0) (r : WR w0 M0 fr m h w) (lo : Nat) : GOk G w (M1 m h lo) := by
  intro g l hg
  obtain ⟨h1, h2, T, fz, h3⟩ := hG g l hg
  refine ⟨Nat.lt_of_lt_of_le h1 r.grown, fun hk => ?_, T, fz, by rw [r.old g h1 h2]; exact h3⟩
  rcases M1_own r hk with h4 | h4
  · exact h2 h4
  · omega
theorem WR.join {fr fr' : Nat → Prop} {m m' : Mu} {h h' h'' : Nat → Option B} {w w' : World} {lo hi : Nat} (r : WR w0 M0 fr m h w) (r' : WR w (M1 m h lo) fr' m' h' w') (hm : Le m m') (hle : lo ≤ hi)
    (h1 : ∀ b, b < lo → h'' b = h' b) (h2 : ∀ b, lo ≤ b → b < hi → h'' b = h' b) (h3 : ∀ b, hi ≤ b → h'' b = h b) : WR w0 M0 fr' m' h'' w' := by
  have hold : ∀ b x, h b = some x → hi ≤ b → lo ≤ hi → ∀ k cc, m b = some (k, cc) → ¬ M1 m h lo k ∧ k < w.heap.size := by
    intro b x hb hlo hle k cc hk
    refine ⟨?_, r.lt hb hk⟩
    rintro ⟨b', x', cc', g1, g2, g3⟩
    have := r.inj b b' x x' k cc cc' hb g2 hk g3
    omega
  have part : ∀ b x, h'' b = some x → (b < hi ∧ h' b = some x) ∨ (hi ≤ b ∧ h b = some x) := by
    intro b x hb
    by_cases e : b < hi
    · by_cases e' : b < lo
      · rw [h1 b e'] at hb; exact .inl ⟨e, hb⟩
      · rw [h2 b (by omega) e] at hb; exact .inl ⟨e, hb⟩
    · rw [h3 b (by omega)] at hb; exact .inr ⟨by omega, hb⟩
  have keep : ∀ b x, hi ≤ b → h b = some x → ∀ k cc, m' b = some (k, cc) → m b = some (k, cc) ∧ ¬ M1 m h lo k ∧ k < w.heap.size := by
    intro b x hb hx k cc hk
    obtain ⟨k', cc', o, g1, g2, g3⟩ := r.blk b x hx
    have := hm _ _ g1
    rw [hk] at this
    simp only [Option.some.injEq, Prod.mk.injEq] at this
    obtain ⟨rfl, rfl⟩ := this
    exact ⟨g1, hold b x hx hb hle _ _ g1⟩
  have w1 : ∀ k, M1 m h lo k ∨ w.heap.size ≤ k → M0 k ∨ w0.heap.size ≤ k := by
    intro k hk
    rcases hk with hk | hk
    · exact M1_own r hk
    · exact .inr (Nat.le_trans r.grown hk)
  refine ⟨fun b x hb => ?_, fun b x k cc hb hk => ?_, fun b b' x x' k cc cc' hb hb' hk hk' => ?_, r'.fresh, fun k hk hn => ?_, Nat.le_trans r.grown r'.grown, r'.os.trans r.os, r'.tape.trans r.tape, r'.output.trans r.output⟩
  · rcases part b x hb with ⟨_, hx⟩ | ⟨e, hx⟩
    · exact r'.blk b x hx
    · obtain ⟨k, cc, o, g1, g2, g3⟩ := r.blk b x hx
      obtain ⟨g4, g5⟩ := hold b x hx e hle k cc g1
      exact ⟨k, cc, o, hm _ _ g1, by rw [r'.old k g5 g4]; exact g2, g3.mono hm⟩
  · rcases part b x hb with ⟨_, hx⟩ | ⟨e, hx⟩
    · exact w1 k (r'.own b x k cc hx hk)
    · exact r.own b x k cc hx (keep b x e hx k cc hk).1
  · rcases part b x hb with ⟨_, hx⟩ | ⟨e, hx⟩ <;> rcases part b' x' hb' with ⟨_, hx'⟩ | ⟨e', hx'⟩
    · exact r'.inj b b' x x' k cc cc' hx hx' hk hk'
    · exfalso
      obtain ⟨_, g2, g3⟩ := keep b' x' e' hx' k cc' hk'
      rcases r'.own b x k cc hx hk with h | h
      · exact g2 h
      · omega
    · exfalso
      obtain ⟨_, g2, g3⟩ := keep b x e hx k cc hk
      rcases r'.own b' x' k cc' hx' hk' with h | h
      · exact g2 h
      · omega
    · exact r.inj b b' x x' k cc cc' hx hx' (keep b x e hx k cc hk).1 (keep b' x' e' hx' k cc' hk').1
  · have hk' : k < w.heap.size := Nat.lt_of_lt_of_le hk r.grown
    rw [r'.old k hk' (fun hM => by
      rcases M1_own r hM with h | h
      · exact hn h
      · omega)]
    exact r.old k hk hn
end
end Go.Ex
