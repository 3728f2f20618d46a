/- The exact evaluator: regions; it tells the truth. -/
import Derived.Test.YtalejkbicihgnaaGreatDoorEvE
import Derived.Test.YtalejkbicihgnaaGreatDoorEvA
import Derived.LoopNIn
import Derived.RangeFuncRecord
import Derived.Scope
set_option maxHeartbeats 4000000
set_option maxRecDepth 20000
set_option linter.unusedVariables false
set_option linter.unusedSimpArgs false
/- The exact evaluator, part 11: regions that draw their order. -/
namespace Go.Ex
open Go.RowKit
open Go.Ab (reach Clo opsIn opsIn_spec listedIn range_split listed_false foldl_id foldl_same foldl_skip)

/-- Slots and blocks. -/
structure FS where
  env : Nat → X
  hp : Nat → Option B
/-- What an operation does: its value, the blocks that it turns, those that it looks at, the names that it may take. -/
structure EX where
  x : X
  up : Nat → Option (Option B)
  rd : Nat → Prop
  nm : Nat → Prop
def FS.app (s : FS) (dst : Option Nat) (e : EX) : FS := ⟨fun t => if dst = some t then e.x else s.env t, fun b => match e.up b with | some x => x | none => s.hp b⟩
def noE : EX := ⟨u0, fun _ => none, fun _ => False, fun _ => False⟩
section
variable {P : Program} {ops : Array Oper} {F : Fence} {n nt : Nat} {R : (Nat → Prop) → FS → Act → World → Prop} {Q : Exit → Act → World → Prop}

/-- In whatever state that agrees with s0 on what the operation looks at, it does e. -/
def XSound (F : Fence) (n : Nat) (P : Program) (ops : Array Oper) (nt : Nat) (R : (Nat → Prop) → FS → Act → World → Prop) (o : Oper) (s0 : FS) (e : EX) : Prop :=
  ∀ fr s a w, R fr s a w → (∀ b, e.nm b → fr b) → (∀ d, o.dst = some d → d < nt) → (∀ t ∈ o.looksAt ops, s.env t = s0.env t) → (∀ b, e.rd b → s.hp b = s0.hp b) →
    ∀ K Q, (∀ a' w', R (fun b => fr b ∧ ¬ e.nm b) (s.app o.dst e) a' w' → K a' w') →
      (if Region.wanted o (yielded ops a.tmps) = true then o.wpIn F n P a w K Q else (∀ f, o.about P w a.eval = some f → F.fn f) ∧ K (a.put o.dst undef) w)

def dstI (ops : Array Oper) (i : Nat) : Option Nat := (ops[i]?).bind (·.dst)
def effI (E : List EX) (i : Nat) : EX := E.getD i noE
def applyI (ops : Array Oper) (E : List EX) (s : FS) (i : Nat) : FS := s.app (dstI ops i) (effI E i)
def foldI (ops : Array Oper) (E : List EX) (l : List Nat) (s : FS) : FS := l.foldl (applyI ops E) s
def upAt (b : Nat) (x : Option B) (e : EX) : Option B := match e.up b with | some y => y | none => x

theorem foldI_env {E : List EX} (l : List Nat) : ∀ (s : FS) (t : Nat), (foldI ops E l s).env t = l.foldl (fun d i => if dstI ops i = some t then (effI E i).x else d) (s.env t) := by
  induction l with
  | nil => intro s t; rfl
  | cons i l ih => intro s t; simp only [foldI, List.foldl_cons] at ih ⊢; rw [ih]; rfl
theorem foldI_hp {E : List EX} (l : List Nat) : ∀ (s : FS) (b : Nat), (foldI ops E l s).hp b = l.foldl (fun x i => upAt b x (effI E i)) (s.hp b) := by
  induction l with
  | nil => intro s t; rfl
  | cons i l ih => intro s t; simp only [foldI, List.foldl_cons] at ih ⊢; rw [ih]; rfl
theorem upAt_skip {b : Nat} {e : EX} (h : e.up b = none) (x : Option B) : upAt b x e = x := by simp [upAt, h]

theorem applyI_comm {E : List EX} {i j : Nat} (s : FS) (h1 : ∀ t, dstI ops i = some t → dstI ops j ≠ some t) (h2 : ∀ b, (effI E i).up b ≠ none → (effI E j).up b = none) :
    applyI ops E (applyI ops E s i) j = applyI ops E (applyI ops E s j) i := by
  unfold applyI FS.app
  simp only
  congr 1
  · funext t
    by_cases hi : dstI ops i = some t
    · simp [hi, h1 t hi]
    · simp [hi]
  · funext b
    cases hi : (effI E i).up b with
    | some y => rw [h2 b (by rw [hi]; simp)]
    | none => cases (effI E j).up b <;> rfl

/-- What must be known of each two operations. -/
structure OrdOk (ops : Array Oper) (E : List EX) (cf : Nat → Nat → Bool) : Prop where
  fwd : ∀ j o, ops[j]? = some o → ∀ e ∈ o.after, Region.binds .any e = true → e.on < j
  ord : ∀ i j, i < j → j < ops.size → cf i j = true → reach ops ops.size j i = true
  apart : ∀ i j x y, i < j → ops[i]? = some x → ops[j]? = some y → cf i j = false → Oper.apart ops x y = true ∧ (∀ b, (effI E i).up b ≠ none → (effI E j).up b = none ∧ ¬ (effI E j).rd b) ∧ (∀ b, (effI E i).rd b → (effI E j).up b = none)
  names : ∀ i j, i < ops.size → j < ops.size → i ≠ j → ∀ b, (effI E i).nm b → ¬ (effI E j).nm b

/-- The state behind those that are listed. -/
def sg (ops : Array Oper) (E : List EX) (s0 : FS) (ls : Array Bool) : FS := foldI ops E ((List.range ops.size).filter (listedIn ls)) s0
def frS (fr : Nat → Prop) (ops : Array Oper) (E : List EX) (ls : Array Bool) (b : Nat) : Prop := fr b ∧ ∀ i, i < ops.size → ls.getD i false = true → ¬ (effI E i).nm b

theorem any_order (E : List EX) (s0 : FS) (cf : Nat → Nat → Bool) (fr0 : Nat → Prop) (hfree : ∀ fr fr' s a w, R fr s a w → (∀ b, fr' b → fr b) → R fr' s a w) (hok : OrdOk ops E cf) (hin : opsIn nt ops.toList = true)
    (hsound : ∀ i o, ops[i]? = some o → XSound F n P ops nt R o (foldI ops E (List.range i) s0) (effI E i))
    (hnm : ∀ i, i < ops.size → ∀ b, (effI E i).nm b → fr0 b)
    (hend : ∀ a w, R (fun b => fr0 b ∧ ∀ i, i < ops.size → ¬ (effI E i).nm b) (foldI ops E (List.range ops.size) s0) a w → Q .normal a w) :
    ∀ (fuel : Nat) (ls : Array Bool) (a : Act) (w : World), ls.size = ops.size → Clo ops ls →
      ((List.range ops.size).filter (fun i => !listedIn ls i)).length ≤ fuel → R (frS fr0 ops E ls) (sg ops E s0 ls) a w → wpAnyIn F n P .any ops Q fuel ls a w := by
  have hall : ∀ (ls : Array Bool), ls.size = ops.size → Region.ready .any ops ls = [] → ∀ i, i < ops.size → listedIn ls i = true := by
    intro ls hsz hr i
    induction i using Nat.strongRecOn with
    | _ i ih =>
      intro hi
      cases hl : listedIn ls i with
      | true => rfl
      | false =>
        have : i ∈ Region.ready .any ops ls := by
          rw [mem_ready]
          refine ⟨(listed_false hsz hi).2 hl, ops[i], Array.getElem?_eq_getElem hi, fun e he hb => ?_⟩
          have hlt := hok.fwd i _ (Array.getElem?_eq_getElem hi) e he hb
          exact ih e.on hlt (by omega)
        rw [hr] at this
        cases this
  have hfin : ∀ (ls : Array Bool) (a : Act) (w : World), ls.size = ops.size → Region.ready .any ops ls = [] → R (frS fr0 ops E ls) (sg ops E s0 ls) a w → Q .normal a w := by
    intro ls a w hsz hr r
    have hl := hall ls hsz hr
    have hs : sg ops E s0 ls = foldI ops E (List.range ops.size) s0 := by
      unfold sg
      rw [List.filter_eq_self.2 fun i hi => hl i (List.mem_range.1 hi)]
    rw [hs] at r
    exact hend a w (hfree _ _ _ _ _ r fun b hb => ⟨hb.1, fun i hi _ => hb.2 i hi⟩)
  intro fuel
  induction fuel with
  | zero =>
    intro ls a w hsz hclo hf r
    have hr : Region.ready .any ops ls = [] := by
      apply List.eq_nil_iff_forall_not_mem.2
      intro i hi
      rw [mem_ready] at hi
      obtain ⟨h0, o, ho, _⟩ := hi
      have hlt := (Array.getElem?_eq_some_iff.1 ho).1
      have : i ∈ (List.range ops.size).filter (fun i => !listedIn ls i) := List.mem_filter.2 ⟨List.mem_range.2 hlt, by simp [listedIn, (listed_false hsz hlt).1 h0]⟩
      have := List.length_pos_of_mem this
      omega
    exact ⟨hr, hfin ls a w hsz hr r⟩
  | succ fuel ih =>
    intro ls a w hsz hclo hf r
    refine ⟨fun hr => hfin ls a w hsz hr r, fun i hi => ?_⟩
    rw [mem_ready] at hi
    obtain ⟨h0, o, ho, hpre⟩ := hi
    have hlt := (Array.getElem?_eq_some_iff.1 ho).1
    have hnl : listedIn ls i = false := (listed_false hsz hlt).1 h0
    have hbef : ∀ j, j < i → cf j i = true → listedIn ls j = true := by
      intro j hj hc
      have hre := hok.ord j i hj hlt hc
      cases hn : ops.size with
      | zero => omega
      | succ m =>
        rw [hn] at hre
        simp only [reach, ho, Array.any_eq_true', Bool.and_eq_true, Bool.or_eq_true, beq_iff_eq] at hre
        rcases hre with ⟨e, he, h1, hb⟩ | ⟨e, he, ⟨_, hb⟩, h1⟩
        · have hon := hpre e he hb
          rw [← h1]; exact hon
        · exact hclo.reach _ _ _ h1 (hpre e he hb)
    have haft : ∀ j, i < j → j < ops.size → listedIn ls j = true → cf i j = false := by
      intro j hj hjn hl
      cases hc : cf i j with
      | false => rfl
      | true =>
        have := hclo.reach _ _ _ (hok.ord i j hj hjn hc) hl
        have h2 : ls.getD i false = false := hnl
        rw [this] at h2
        cases h2
    have hsplit : sg ops E s0 ls = foldI ops E ((List.range' (i + 1) (ops.size - i - 1)).filter (listedIn ls)) (foldI ops E ((List.range i).filter (listedIn ls)) s0) := by
      unfold sg foldI
      rw [range_split hlt, List.filter_append, List.filter_cons_of_neg (by simp [hnl]), List.foldl_append]
    have hother : ∀ j, j ≠ i → listedIn (ls.setIfInBounds i true) j = listedIn ls j := fun j hj => getD_set_ne false (Ne.symm hj)
    have hself : listedIn (ls.setIfInBounds i true) i = true := by simp [listedIn, Array.getD, hsz, hlt]
    have hsplit' : sg ops E s0 (ls.setIfInBounds i true) = applyI ops E (sg ops E s0 ls) i := by
      rw [hsplit]
      unfold sg
      rw [range_split hlt, List.filter_append, List.filter_cons_of_pos (by exact hself)]
      have e1 : (List.range i).filter (listedIn (ls.setIfInBounds i true)) = (List.range i).filter (listedIn ls) :=
        List.filter_congr fun j hj => hother j (by have := List.mem_range.1 hj; omega)
      have e2 : (List.range' (i + 1) (ops.size - i - 1)).filter (listedIn (ls.setIfInBounds i true)) = (List.range' (i + 1) (ops.size - i - 1)).filter (listedIn ls) :=
        List.filter_congr fun j hj => hother j (by have := List.mem_range'_1.1 hj; omega)
      rw [e1, e2]
      have hcomm : ∀ (l : List Nat) (s : FS), (∀ j ∈ l, i < j ∧ j < ops.size ∧ listedIn ls j = true) → foldI ops E l (applyI ops E s i) = applyI ops E (foldI ops E l s) i := by
        intro l
        induction l with
        | nil => intro s _; rfl
        | cons j l ihl =>
          intro s hl
          obtain ⟨hij, hjn, hjl⟩ := hl j List.mem_cons_self
          have hc := haft j hij hjn hjl
          obtain ⟨hap, hb1, _⟩ := hok.apart i j _ _ hij ho (Array.getElem?_eq_getElem hjn) hc
          have hd := (Oper.apart_spec hap).2.1
          have hsw := applyI_comm (ops := ops) (E := E) (i := i) (j := j) s (fun t ht => by
              simp only [dstI, ho, Option.bind_some] at ht
              simp only [dstI, Array.getElem?_eq_getElem hjn, Option.bind_some]
              exact hd t ht)
            (fun b hb => (hb1 b hb).1)
          have := ihl (applyI ops E s j) fun j' hj' => hl j' (List.mem_cons_of_mem _ hj')
          simp only [foldI, List.foldl_cons] at this ⊢
          rw [hsw]
          exact this
      have := hcomm ((List.range' (i + 1) (ops.size - i - 1)).filter (listedIn ls)) (foldI ops E ((List.range i).filter (listedIn ls)) s0) fun j hj => by
        obtain ⟨h1, h2⟩ := List.mem_filter.1 hj
        have := List.mem_range'_1.1 h1
        exact ⟨by omega, by omega, h2⟩
      rw [← this]
      simp only [foldI, List.foldl_append, List.foldl_cons]
    have henv : ∀ t ∈ o.looksAt ops, (sg ops E s0 ls).env t = (foldI ops E (List.range i) s0).env t := by
      intro t ht
      rw [hsplit, foldI_env, foldI_env, foldI_env]
      rw [foldl_id _ _ _ fun j hj y => ?_, foldl_skip _ _ _ _ fun j hj hp y => ?_]
      · refine if_neg fun hd => ?_
        have hjr := List.mem_range.1 hj
        have hjn : j < ops.size := by omega
        have hc : cf j i = true := by
          cases hc : cf j i with
          | true => rfl
          | false =>
            obtain ⟨hap, _⟩ := hok.apart j i _ _ hjr (Array.getElem?_eq_getElem hjn) ho hc
            simp only [dstI, Array.getElem?_eq_getElem hjn, Option.bind_some] at hd
            exact absurd ht ((Oper.apart_spec hap).1 t hd)
        rw [hbef j hjr hc] at hp
        cases hp
      · refine if_neg fun hd => ?_
        obtain ⟨h1, h2⟩ := List.mem_filter.1 hj
        have hjr := List.mem_range'_1.1 h1
        have hjn : j < ops.size := by omega
        obtain ⟨hap, _⟩ := hok.apart i j _ _ (by omega) ho (Array.getElem?_eq_getElem hjn) (haft j (by omega) hjn h2)
        simp only [dstI, Array.getElem?_eq_getElem hjn, Option.bind_some] at hd
        exact absurd ht ((Oper.apart_spec hap).2.2 t hd)
    have hhp : ∀ b, (effI E i).rd b → (sg ops E s0 ls).hp b = (foldI ops E (List.range i) s0).hp b := by
      intro b hb
      rw [hsplit, foldI_hp, foldI_hp, foldI_hp]
      rw [foldl_id _ _ _ fun j hj y => ?_, foldl_skip _ _ _ _ fun j hj hp y => ?_]
      · have hjr := List.mem_range.1 hj
        have hjn : j < ops.size := by omega
        have hc : cf j i = false := by
          cases hc : cf j i with
          | false => rfl
          | true => rw [hbef j hjr hc] at hp; cases hp
        obtain ⟨_, hb1, _⟩ := hok.apart j i _ _ hjr (Array.getElem?_eq_getElem hjn) ho hc
        cases hu : (effI E j).up b with
        | none => exact upAt_skip hu y
        | some z => exact absurd hb (hb1 b (by rw [hu]; simp)).2
      · obtain ⟨h1, h2⟩ := List.mem_filter.1 hj
        have hjr := List.mem_range'_1.1 h1
        have hjn : j < ops.size := by omega
        obtain ⟨_, _, hb1⟩ := hok.apart i j _ _ (by omega) ho (Array.getElem?_eq_getElem hjn) (haft j (by omega) hjn h2)
        exact upAt_skip (hb1 b hb) y
    have hmem : o ∈ ops.toList := by
      have := Array.mem_of_getElem? ho
      simpa using this
    unfold wpOpIn
    rw [ho]
    refine hsound i o ho (frS fr0 ops E ls) (sg ops E s0 ls) a w r (fun b hb => ⟨hnm i hlt b hb, fun j hj hjl hjb => ?_⟩) (opsIn_spec hin o hmem) henv hhp _ Q ?_
    · have hji : j ≠ i := by
        rintro rfl
        have h2 : ls.getD j false = false := hnl
        rw [hjl] at h2; cases h2
      exact hok.names j i hj hlt hji b hjb hb
    intro a' w' r'
    have hap : (sg ops E s0 ls).app o.dst (effI E i) = sg ops E s0 (ls.setIfInBounds i true) := by
      rw [hsplit']
      simp only [applyI, dstI, ho, Option.bind_some]
    rw [hap] at r'
    refine ih (ls.setIfInBounds i true) a' w' (by simp [hsz]) ?_ ?_ (hfree _ _ _ _ _ r' fun b hb => ?_)
    · intro j o' hj ho' e he hb
      by_cases hji : j = i
      · subst hji
        obtain rfl : o = o' := by rw [ho] at ho'; exact Option.some.inj ho'
        exact getD_set_true (hpre e he hb)
      · rw [getD_set_ne false (Ne.symm hji)] at hj
        exact getD_set_true (hclo j o' hj ho' e he hb)
    · have hlen : ((List.range ops.size).filter (fun j => !listedIn ls j)).length = ((List.range ops.size).filter (fun j => !listedIn (ls.setIfInBounds i true) j)).length + 1 := by
        rw [range_split hlt, List.filter_append, List.filter_append, List.filter_cons_of_pos (by simp [hnl]), List.filter_cons_of_neg (by simp [hself])]
        have e1 : (List.range i).filter (fun j => !listedIn (ls.setIfInBounds i true) j) = (List.range i).filter (fun j => !listedIn ls j) :=
          List.filter_congr fun j hj => by rw [hother j (by have := List.mem_range.1 hj; omega)]
        have e2 : (List.range' (i + 1) (ops.size - i - 1)).filter (fun j => !listedIn (ls.setIfInBounds i true) j) = (List.range' (i + 1) (ops.size - i - 1)).filter (fun j => !listedIn ls j) :=
          List.filter_congr fun j hj => by rw [hother j (by have := List.mem_range'_1.1 hj; omega)]
        rw [e1, e2]
        simp only [List.length_append, List.length_cons]
        omega
      omega
    · refine ⟨⟨hb.1, fun j hj hjl => hb.2 j hj (getD_set_true hjl)⟩, hb.2 i hlt hself⟩
end
end Go.Ex
/- The exact evaluator, part 12: one operation in a state; regions. -/
namespace Go.Ex
noncomputable section
open Go.RowKit
open Go.Ab (reach Clo opsIn opsIn_spec env_put)

/-- The fences of plain code, and of a round's. -/
abbrev Fr (ro : Option Nat) : Fence := { Fence.wide with round := ro }
def envF (env : Tr X) (t : Nat) : X := evX env (.tmp t)
def evF (g : Nat → X) : Operand → X
  | .tmp t => g t
  | .const v => .v v
  | .global g => .v (.pointer (some ⟨g, 0, none⟩))
  | .func f => .fn f [] []
theorem evX_evF (env : Tr X) : evX env = evF (envF env) := by
  funext o
  cases o <;> rfl
/-- Deferred calls. -/
def DRel (m : Mu) : List Df → List Deferred → Prop
  | [], [] => True
  | .fn f args :: l, d :: ds => (∃ cap dargs us, d = { target := .fn (.func f) cap, args := dargs } ∧ concL m args = some us ∧ dargs ++ cap = us.toArray) ∧ DRel m l ds
  | .mark b :: l, d :: ds => (∃ p, m b = some p ∧ d = { target := .collected p.1, args := #[] }) ∧ DRel m l ds
  | _, _ => False
theorem DRel.mono {m m' : Mu} (h : Le m m') : ∀ {l : List Df} {ds : List Deferred}, DRel m l ds → DRel m' l ds
  | [], [], _ => trivial
  | [], _ :: _, k => k
  | _ :: _, [], k => by rename_i x _; cases x <;> exact k
  | .fn f args :: l, d :: ds, ⟨⟨cap, dargs, us, h1, h2, h3⟩, k⟩ => ⟨⟨cap, dargs, us, h1, concL_mono h _ _ h2, h3⟩, DRel.mono h k⟩
  | .mark b :: l, d :: ds, ⟨⟨p, h1, h2⟩, k⟩ => ⟨⟨p, h _ _ h1, h2⟩, DRel.mono h k⟩
/-- What an activation and the world have to do with a state. -/
structure AF (w0 : World) (M0 fr : Nat → Prop) (m : Mu) (nt : Nat) (st : FS) (df : List Df) (a : Act) (w : World) : Prop where
  size : a.tmps.size = nt
  env : ∀ t, conc m (st.env t) = some (a.tmps.getD t undef)
  df : DRel m df a.defers
  w : WR w0 M0 fr m st.hp w
/-- The same, of some names that are told as m0 tells them. -/
def RR (w0 : World) (M0 : Nat → Prop) (m0 : Mu) (nt : Nat) (df : List Df) (fr : Nat → Prop) (st : FS) (a : Act) (w : World) : Prop := ∃ m, Le m0 m ∧ AF w0 M0 fr m nt st df a w
theorem RR.free {w0 : World} {M0 : Nat → Prop} {m0 : Mu} {nt : Nat} {df : List Df} : ∀ (fr fr' : Nat → Prop) (s : FS) (a : Act) (w : World), RR w0 M0 m0 nt df fr s a w → (∀ b, fr' b → fr b) → RR w0 M0 m0 nt df fr' s a w :=
  fun _ _ _ _ _ ⟨m, h1, h2⟩ hf => ⟨m, h1, ⟨h2.size, h2.env, h2.df, h2.w.less hf⟩⟩
theorem rep_evF {m : Mu} {g : Nat → X} {a : Act} (h : ∀ t, conc m (g t) = some (a.tmps.getD t undef)) (x : Operand) : conc m (evF g x) = some (a.eval x) := by
  cases x with
  | tmp t => exact h t
  | const v => exact conc_vv m v
  | global g => exact conc_vv m _
  | func f => simp [evF, conc, concL, Act.eval]
theorem evF_agree {ops : Array Oper} {o : Oper} {g g' : Nat → X} (h : ∀ t ∈ o.looksAt ops, g t = g' t) {x : Operand} (hx : x ∈ o.op.operands) : evF g x = evF g' x := by
  cases x with
  | tmp t => exact h t (List.mem_append_left _ (List.mem_filterMap.2 ⟨.tmp t, by simpa using hx, rfl⟩))
  | _ => rfl
theorem conc_put {m : Mu} {g : Nat → X} {a : Act} {dst : Option Nat} {nt : Nat} {v : Value} {x : X} (hs : a.tmps.size = nt) (hd : ∀ t, dst = some t → t < nt) (h : ∀ t, conc m (g t) = some (a.tmps.getD t undef)) (hv : conc m x = some v) (t : Nat) :
    conc m (if dst = some t then x else g t) = some ((a.put dst v).tmps.getD t undef) := by
  cases dst with
  | none => simpa [Act.put] using h t
  | some k =>
    simp only [Act.put, Option.some.injEq]
    by_cases hk : k = t
    · subst hk
      have : k < a.tmps.size := by rw [hs]; exact hd k rfl
      simp only [if_true, Array.getD, Array.size_setIfInBounds, this, dite_true]
      simpa using hv
    · rw [if_neg hk]
      have := h t
      simp only [Array.getD_eq_getD_getElem?, Array.getElem?_setIfInBounds_ne hk] at this ⊢
      exact this
theorem put_size (a : Act) (dst : Option Nat) (v : Value) : (a.put dst v).tmps.size = a.tmps.size := by cases dst <;> simp [Act.put]
theorem put_defers (a : Act) (dst : Option Nat) (v : Value) : (a.put dst v).defers = a.defers := by cases dst <;> rfl

section
variable {c : Cx} {ops : Array Oper} {nt : Nat} {ro : Option Nat} {w0 : World} {M0 : Nat → Prop} {m0 : Mu} {df : List Df}

/-- What a guard decides. -/
theorem wantX_spec {env : Tr X} {o : Oper} {b : Bool} (h : wantX ops.toList env o = some b) {m : Mu} {g : Nat → X} {a : Act} (hg : ∀ t ∈ o.looksAt ops, g t = envF env t) (ha : ∀ t, conc m (g t) = some (a.tmps.getD t undef)) : Region.wanted o (yielded ops a.tmps) = b := by
  unfold wantX at h
  split at h
  · rename_i hgd
    simp only [Option.some.injEq] at h
    simp [Region.wanted, hgd, h]
  · rename_i j want hgd
    split at h
    · rename_i t ht
      have hd : (ops[j]?).bind (·.dst) = some t := by
        unfold dstAt at ht
        rw [nth_eq] at ht
        have e1 : ops.toList[j]? = ops[j]? := by simp
        rw [e1] at ht
        cases ho : ops[j]? with
        | none => rw [ho] at ht; cases ht
        | some q => rw [ho] at ht; simpa using ht
      have hl : t ∈ o.looksAt ops := List.mem_append_right _ (by simp [hgd, hd])
      have hv := ha t
      rw [hg t hl] at hv
      have hy : ∀ x, a.tmps.getD t undef = x → yielded ops a.tmps j = match x with | .bool b => some b | _ => none := by
        intro x hx
        unfold yielded
        rw [hd]
        simp only [Option.bind_some]
        rcases Nat.lt_or_ge t a.tmps.size with hlt | hge
        · have : a.tmps[t]? = some x := by
            rw [← hx]
            simp [Array.getD, hlt]
          rw [this]
          cases x <;> rfl
        · have h1 : a.tmps[t]? = none := Array.getElem?_eq_none hge
          have h2 : x = undef := by
            rw [← hx]
            simp [Array.getD, Nat.not_lt.2 hge]
          rw [h1, h2]
          rfl
      split at h
      · rename_i q hq
        simp only [Option.some.injEq] at h
        have e2 : envF env t = .v (.bool q) := by simp only [envF, evX, hq]
        rw [e2] at hv
        have := conc_v hv
        have h3 := hy _ this
        subst h
        simp only [Region.wanted, hgd, h3]
        cases q <;> cases want <;> rfl
      · rename_i hq
        simp only [Option.some.injEq] at h
        have e2 : envF env t = .v (.tuple ⟨[]⟩) := by simp only [envF, evX, hq]
        rw [e2] at hv
        have := conc_v hv
        have h3 := hy _ this
        subst h
        simp only [Region.wanted, hgd, h3]
        cases want <;> rfl
      · cases h
    · cases h

def simpleE (id : Nat) (e : Ef) : EX := ⟨e.x, fun b => if b ∈ namesU e.up then some (upL e.up (fun _ => none) b) else none, fun b => b ∈ e.rd, fun b => b = id⟩
theorem upL_get : ∀ (up : List (Nat × Option B)) (h : Nat → Option B) (b : Nat), upL up h b = if b ∈ namesU up then upL up (fun _ => none) b else h b
  | [], h, b => by simp [upL, namesU]
  | (k, x) :: r, h, b => by
    simp only [upL, namesU, List.mem_cons]
    rw [upL_get r (upd h k x) b, upL_get r (upd (fun _ => none) k x) b]
    by_cases hr : b ∈ namesU r
    · simp [hr]
    · by_cases hk : b = k
      · subst hk; simp [hr, upd]
      · have : ¬ k = b := fun e => hk e.symm
        simp [hr, hk, upd, this]
theorem simple_app (s : FS) (dst : Option Nat) (id : Nat) (e : Ef) : s.app dst (simpleE id e) = ⟨fun t => if dst = some t then e.x else s.env t, upL e.up s.hp⟩ := by
  unfold FS.app simpleE
  congr 1
  funext b
  simp only
  rw [upL_get e.up s.hp b]
  by_cases hb : b ∈ namesU e.up <;> simp [hb]

/-- A plain operation. -/
theorem sound_simple {o : Oper} {id : Nat} {env : Tr X} {hp : Tr B} {e : Ef} (hop : ∀ k, o.op ≠ .defer k) (hw : wantX ops.toList env o = some true) (hok : OpOk c.P c.gl o id (evX env) hp e) (hG : GOk c.gl w0 M0) :
    XSound (Fr ro) 0 c.P ops nt (RR w0 M0 m0 nt df) o ⟨envF env, hp.get⟩ (simpleE id e) := by
  rintro fr s a w ⟨m, hm, r⟩ hnm hd ht hb K Q hK
  rw [wantX_spec hw (g := s.env) (m := m) ht r.env, if_pos rfl]
  obtain ⟨nx, v, w', m', h1, h2, h3, h4, h5⟩ := hok w0 M0 fr m s.hp a w hG r.w (hnm id rfl) (fun y hy => by
    rw [evX_evF, ← evF_agree ht hy]; exact rep_evF r.env y) hb
  refine ⟨fun f _ => trivial, ?_⟩
  rw [Oper.semAt_eq _ _ _ hop, h1]
  have fin : RR w0 M0 m0 nt df (fun b => fr b ∧ ¬ (simpleE id e).nm b) (s.app o.dst (simpleE id e)) (a.put o.dst v) w' := by
    refine ⟨m', hm.trans h3, ⟨by rw [put_size]; exact r.size, ?_, by rw [put_defers]; exact r.df.mono h3, ?_⟩⟩
    · rw [simple_app]
      exact conc_put r.size hd (fun t => conc_mono h3 _ _ (r.env t)) h4
    · rw [simple_app]
      exact h5.less fun b hb => ⟨hb.1, hb.2⟩
  rcases h2 with rfl | ⟨rfl, rfl⟩
  · exact hK _ _ fin
  · exact hK _ _ fin

/-- An operation that is passed over. -/
theorem sound_skip {o : Oper} {env : Tr X} {hp : Tr B} (hw : wantX ops.toList env o = some false) :
    XSound (Fr ro) 0 c.P ops nt (RR w0 M0 m0 nt df) o ⟨envF env, hp.get⟩ noE := by
  rintro fr s a w ⟨m, hm, r⟩ hnm hd ht hb K Q hK
  rw [wantX_spec hw (g := s.env) (m := m) ht r.env, if_neg (by simp)]
  refine ⟨fun f _ => trivial, hK _ _ ⟨m, hm, ⟨by rw [put_size]; exact r.size, ?_, by rw [put_defers]; exact r.df, ?_⟩⟩⟩
  · exact conc_put r.size hd r.env (by simp [noE, u0, conc, undef])
  · have : (s.app o.dst noE).hp = s.hp := by funext b; simp [FS.app, noE]
    rw [this]
    exact r.w.less fun b hb => hb.1

/-- The run of a call of a function value, and what it comes to. -/
def Called (P : Program) (vf : Value) (args : Array Value) (w : World) (R : Ending → World → Prop) : Prop :=
  ∃ nx, (do let d ← Deferred.ofValue vf args; invoke d.target d.args : Sem Next).run P w = .ok nx w ∧ (∀ g us vs, vf = .func (.func g) us vs → ∃ g' as, nx = .enter g' as) ∧ match nx with
    | .enter g as => CallsIn Fence.wide 0 P g as w R
    | .round l f tmps a b => RoundIn Fence.wide 0 P l f tmps a b w R
    | _ => False

/-- What a call does, told exactly. -/
def CallOk (c : Cx) (f : X) (args : List X) (hp : Tr B) (nx : Nat) (q : Cr) : Prop :=
  (∀ b, nx ≤ b → hp.get b = none) → nx ≤ q.nx ∧ (∀ b, q.nx ≤ b → q.hp.get b = none) ∧ (∀ b, b < nx → b ∉ q.wr → q.hp.get b = hp.get b) ∧
    ∀ w0 M0 fr m w us vf, GOk c.gl w0 M0 → WR w0 M0 fr m hp.get w → (∀ b, nx ≤ b → b < q.nx → fr b) → conc m f = some vf → concL m args = some us →
      Called c.P vf us.toArray w fun e w' => ∃ v m', e = .returned v ∧ Le m m' ∧ conc m' q.x = some v ∧ WR w0 M0 (fun b => fr b ∧ ¬ (nx ≤ b ∧ b < q.nx)) m' q.hp.get w'

/-- The part of the world that a call is handed. -/
def M1 (m : Mu) (h : Nat → Option B) (lo : Nat) (k : Nat) : Prop := ∃ b x cc, b < lo ∧ h b = some x ∧ m b = some (k, cc)
theorem WR.sub {fr : Nat → Prop} {m : Mu} {h : Nat → Option B} {w : World} (r : WR w0 M0 fr m h w) (lo : Nat) : WR w (M1 m h lo) fr m (fun b => if b < lo then h b else none) w := by
  have inv : ∀ b x, (if b < lo then h b else none) = some x → b < lo ∧ h b = some x := by
    intro b x hb
    by_cases e : b < lo
    · rw [if_pos e] at hb; exact ⟨e, hb⟩
    · rw [if_neg e] at hb; cases hb
  exact ⟨fun b x hb => r.blk b x (inv b x hb).2, fun b x k cc hb hm => .inl ⟨b, x, cc, (inv b x hb).1, (inv b x hb).2, hm⟩, fun b b' x x' k cc cc' hb hb' => r.inj b b' x x' k cc cc' (inv b x hb).2 (inv b' x' hb').2, r.fresh, fun _ _ _ => rfl, Nat.le_refl _, rfl, rfl, rfl⟩
theorem M1_own {fr : Nat → Prop} {m : Mu} {h : Nat → Option B} {w : World} (r : WR w0 M0 fr m h w) {lo k : Nat} (hk : M1 m h lo k) : M0 k ∨ w0.heap.size ≤ k := by
  obtain ⟨b, x, cc, _, h2, h3⟩ := hk
  exact r.own b x k cc h2 h3
theorem GOk.sub {G : Tr (List Value)} {fr : Nat → Prop} {m : Mu} {h : Nat → Option B} {w : World} (hG : GOk G w0 M0) (r : WR w0 M0 fr m h w) (lo : Nat) : GOk G w (M1 m h lo) := by
  intro g l hg
  obtain ⟨h1, h2, T, fz, h3⟩ := hG g l hg
  refine ⟨Nat.lt_of_lt_of_le h1 r.grown, fun hk => ?_, T, fz, by rw [r.old g h1 h2]; exact h3⟩
  rcases M1_own r hk with h4 | h4
  · exact h2 h4
  · omega
theorem WR.join {fr fr' : Nat → Prop} {m m' : Mu} {h h' h'' : Nat → Option B} {w w' : World} {lo hi : Nat} (r : WR w0 M0 fr m h w) (r' : WR w (M1 m h lo) fr' m' h' w') (hm : Le m m') (hle : lo ≤ hi)
    (h1 : ∀ b, b < lo → h'' b = h' b) (h2 : ∀ b, lo ≤ b → b < hi → h'' b = h' b) (h3 : ∀ b, hi ≤ b → h'' b = h b) : WR w0 M0 fr' m' h'' w' := by
  have hold : ∀ b x, h b = some x → hi ≤ b → lo ≤ hi → ∀ k cc, m b = some (k, cc) → ¬ M1 m h lo k ∧ k < w.heap.size := by
    intro b x hb hlo hle k cc hk
    refine ⟨?_, r.lt hb hk⟩
    rintro ⟨b', x', cc', g1, g2, g3⟩
    have := r.inj b b' x x' k cc cc' hb g2 hk g3
    omega
  have part : ∀ b x, h'' b = some x → (b < hi ∧ h' b = some x) ∨ (hi ≤ b ∧ h b = some x) := by
    intro b x hb
    by_cases e : b < hi
    · by_cases e' : b < lo
      · rw [h1 b e'] at hb; exact .inl ⟨e, hb⟩
      · rw [h2 b (by omega) e] at hb; exact .inl ⟨e, hb⟩
    · rw [h3 b (by omega)] at hb; exact .inr ⟨by omega, hb⟩
  have keep : ∀ b x, hi ≤ b → h b = some x → ∀ k cc, m' b = some (k, cc) → m b = some (k, cc) ∧ ¬ M1 m h lo k ∧ k < w.heap.size := by
    intro b x hb hx k cc hk
    obtain ⟨k', cc', o, g1, g2, g3⟩ := r.blk b x hx
    have := hm _ _ g1
    rw [hk] at this
    simp only [Option.some.injEq, Prod.mk.injEq] at this
    obtain ⟨rfl, rfl⟩ := this
    exact ⟨g1, hold b x hx hb hle _ _ g1⟩
  have w1 : ∀ k, M1 m h lo k ∨ w.heap.size ≤ k → M0 k ∨ w0.heap.size ≤ k := by
    intro k hk
    rcases hk with hk | hk
    · exact M1_own r hk
    · exact .inr (Nat.le_trans r.grown hk)
  refine ⟨fun b x hb => ?_, fun b x k cc hb hk => ?_, fun b b' x x' k cc cc' hb hb' hk hk' => ?_, r'.fresh, fun k hk hn => ?_, Nat.le_trans r.grown r'.grown, r'.os.trans r.os, r'.tape.trans r.tape, r'.output.trans r.output⟩
  · rcases part b x hb with ⟨_, hx⟩ | ⟨e, hx⟩
    · exact r'.blk b x hx
    · obtain ⟨k, cc, o, g1, g2, g3⟩ := r.blk b x hx
      obtain ⟨g4, g5⟩ := hold b x hx e hle k cc g1
      exact ⟨k, cc, o, hm _ _ g1, by rw [r'.old k g5 g4]; exact g2, g3.mono hm⟩
  · rcases part b x hb with ⟨_, hx⟩ | ⟨e, hx⟩
    · exact w1 k (r'.own b x k cc hx hk)
    · exact r.own b x k cc hx (keep b x e hx k cc hk).1
  · rcases part b x hb with ⟨_, hx⟩ | ⟨e, hx⟩ <;> rcases part b' x' hb' with ⟨_, hx'⟩ | ⟨e', hx'⟩
    · exact r'.inj b b' x x' k cc cc' hx hx' hk hk'
    · exfalso
      obtain ⟨_, g2, g3⟩ := keep b' x' e' hx' k cc' hk'
      rcases r'.own b x k cc hx hk with h | h
      · exact g2 h
      · omega
    · exfalso
      obtain ⟨_, g2, g3⟩ := keep b x e hx k cc hk
      rcases r'.own b' x' k cc' hx' hk' with h | h
      · exact g2 h
      · omega
    · exact r.inj b b' x x' k cc cc' hx hx' (keep b x e hx k cc hk).1 (keep b' x' e' hx' k cc' hk').1
  · have hk' : k < w.heap.size := Nat.lt_of_lt_of_le hk r.grown
    rw [r'.old k hk' (fun hM => by
      rcases M1_own r hM with h | h
      · exact hn h
      · omega)]
    exact r.old k hk hn
end
end
end Go.Ex
/- The exact evaluator, part 13: one operation, told exactly. -/
namespace Go.Ex
noncomputable section
open Go.RowKit
open Go.Ab (reach Clo opsIn opsIn_spec)

def Inv (s : S) : Prop := s.bs ≤ s.nx ∧ ∀ b, s.nx ≤ b → s.hp.get b = none
/-- What holds of any two states, the one ahead of the other. -/
structure Stat (s s' : S) : Prop where
  inv : Inv s'
  nt : s'.nt = s.nt
  bs : s'.bs = s.bs
  nx : s.nx ≤ s'.nx
  wr : ∀ b, b < s.bs → b ∉ s'.wr → b ∉ s.wr ∧ s'.hp.get b = s.hp.get b
theorem Stat.refl {s : S} (h : Inv s) : Stat s s := ⟨h, rfl, rfl, Nat.le_refl _, fun _ _ h => ⟨h, rfl⟩⟩
theorem Stat.trans {a b c : S} (h : Stat a b) (k : Stat b c) : Stat a c :=
  ⟨k.inv, k.nt.trans h.nt, k.bs.trans h.bs, Nat.le_trans h.nx k.nx, fun x hx hw => by
    obtain ⟨h1, h2⟩ := k.wr x (by rw [h.bs]; exact hx) hw
    obtain ⟨h3, h4⟩ := h.wr x hx h1
    exact ⟨h3, h2.trans h4⟩⟩
def fsOf (s : S) : FS := ⟨envF s.env, s.hp.get⟩
theorem inL_spec {b : Nat} : ∀ {l : List Nat}, inL b l = false → b ∉ l
  | [], _ => by simp
  | c :: l, h => by
    simp only [inL] at h
    cases hb : Nat.beq b c with
    | true => rw [hb] at h; cases h
    | false =>
      rw [hb] at h
      have : b ≠ c := fun e => by subst e; rw [Nat.beq_refl] at hb; cases hb
      simp [this, inL_spec h]
theorem mem_keepLt {n b : Nat} : ∀ {l : List Nat}, b ∈ l → b < n → b ∈ keepLt n l
  | [], h, _ => by cases h
  | c :: l, h, hb => by
    simp only [keepLt]
    have hlt : ∀ x, x < n → Nat.blt x n = true := fun x hx => Nat.ble_eq_true_of_le hx
    rcases List.mem_cons.1 h with rfl | h
    · rw [hlt b hb]; simp
    · have := mem_keepLt h hb
      cases Nat.blt c n with
      | true => exact List.mem_cons_of_mem _ this
      | false => exact this
theorem allLe_spec {n b : Nat} : ∀ {l : List Nat}, allLe n l = true → b ∈ l → b ≤ n
  | [], _, h => by cases h
  | c :: l, h, hb => by
    simp only [allLe] at h
    cases hc : Nat.ble c n with
    | false => rw [hc] at h; cases h
    | true =>
      rw [hc] at h
      rcases List.mem_cons.1 hb with rfl | hb
      · exact Nat.le_of_ble_eq_true hc
      · exact allLe_spec h hb
theorem envF_set (env : Tr X) (k : Nat) (x : X) (t : Nat) : envF (env.set k (some x)) t = if k = t then x else envF env t := by
  unfold envF evX
  simp only [get_set]
  by_cases h : k = t
  · simp [h]
  · simp [h]
theorem envF_setDst (env : Tr X) (d : Option Nat) (x : X) : envF (setDst env d x) = fun t => if d = some t then x else envF env t := by
  funext t
  cases d with
  | none => simp [setDst]
  | some k => simp only [setDst, envF_set, Option.some.injEq]

section
variable {c : Cx} {ops : Array Oper} {nt : Nat} {ro : Option Nat}

/-- What an operation does, told exactly. -/
structure Eff (c : Cx) (ops : Array Oper) (nt : Nat) (ro : Option Nat) (s : S) (o : Oper) (s' : S) (k : Sk) (E : EX) : Prop where
  st : Stat s s'
  df : s'.df = s.df
  app : fsOf s' = (fsOf s).app o.dst E
  up : ∀ b, E.up b ≠ none → b ∈ k.w ∨ (k.lo ≤ b ∧ b < k.hi)
  rd : ∀ b, E.rd b → b ∈ k.r ∨ (k.ra = true ∧ b < k.lo)
  nm : ∀ b, E.nm b → s.nx ≤ b ∧ b < s'.nx
  snd : ∀ w0 M0 m0 df, GOk c.gl w0 M0 → XSound (Fr ro) 0 c.P ops nt (RR w0 M0 m0 nt df) o (fsOf s) E

theorem eff_skip {s : S} (hI : Inv s) {o : Oper} (hw : wantX ops.toList s.env o = some false) :
    Eff c ops nt ro s o ⟨s.nt, setDst s.env o.dst u0, s.hp, s.nx, s.df, s.bs, s.wr⟩ ⟨[], s.nx, s.nx, [], false⟩ noE := by
  refine ⟨⟨hI, rfl, rfl, Nat.le_refl _, fun _ _ h => ⟨h, rfl⟩⟩, rfl, ?_, ?_, ?_, ?_, fun w0 M0 m0 df _ => sound_skip hw⟩
  · simp only [fsOf, FS.app, envF_setDst]; rfl
  · simp [noE]
  · simp [noE]
  · simp [noE]

theorem eff_simple {s : S} (hI : Inv s) {o : Oper} (hop : ∀ k, o.op ≠ .defer k) (hw : wantX ops.toList s.env o = some true) {e : Ef} (hl : allLe s.nx (namesU e.up) = true) (hok : OpOk c.P c.gl o s.nx (evX s.env) s.hp e) :
    Eff c ops nt ro s o ⟨s.nt, setDst s.env o.dst e.x, setAll s.hp e.up, Nat.succ s.nx, s.df, s.bs, keepLt s.bs (namesU e.up) ++ s.wr⟩ ⟨namesU e.up, s.nx, s.nx, e.rd, false⟩ (simpleE s.nx e) := by
  have hh : (setAll s.hp e.up).get = upL e.up s.hp.get := get_setAll e.up s.hp
  have hn : ∀ b, b ∉ namesU e.up → (setAll s.hp e.up).get b = s.hp.get b := fun b hb => by rw [hh, upL_get, if_neg hb]
  refine ⟨⟨⟨Nat.le_succ_of_le hI.1, fun b hb => ?_⟩, rfl, rfl, Nat.le_succ _, fun b hb h => ?_⟩, rfl, ?_, fun b hb => ?_, fun b hb => .inl hb, fun b hb => ?_, fun w0 M0 m0 df hG => sound_simple hop hw hok hG⟩
  · have hb' : s.nx < b := hb
    show (setAll s.hp e.up).get b = none
    rw [hn b (fun hm => by have := allLe_spec hl hm; omega)]
    exact hI.2 b (by omega)
  · have hb' : b < s.bs := hb
    have h' : b ∉ keepLt s.bs (namesU e.up) ++ s.wr := h
    rw [List.mem_append, not_or] at h'
    exact ⟨h'.2, hn b fun hm => h'.1 (mem_keepLt hm hb')⟩
  · rw [simple_app]
    simp only [fsOf, envF_setDst, hh]
  · left
    simp only [simpleE] at hb
    by_cases h : b ∈ namesU e.up
    · exact h
    · simp [h] at hb
  · have : b = s.nx := hb
    subst this
    exact ⟨Nat.le_refl _, Nat.lt_succ_self _⟩

def callE (q : Cr) (lo : Nat) : EX := ⟨q.x, fun b => if (b < lo ∧ b ∈ q.wr) ∨ (lo ≤ b ∧ b < q.nx) then some (q.hp.get b) else none, fun b => b < lo, fun b => lo ≤ b ∧ b < q.nx⟩

theorem eff_call {s : S} (hI : Inv s) {o : Oper} {f : Operand} {args : Array Operand} {tys : Array TypeId} (hop : o.op = .call ⟨.value f, args, tys⟩) (hw : wantX ops.toList s.env o = some true) {q : Cr}
    (hok : CallOk c (evX s.env f) (evs (evX s.env) args.toList) s.hp s.nx q) :
    Eff c ops nt ro s o ⟨s.nt, setDst s.env o.dst q.x, q.hp, q.nx, s.df, s.bs, keepLt s.bs q.wr ++ s.wr⟩ ⟨q.wr, s.nx, q.nx, [], true⟩ (callE q s.nx) := by
  obtain ⟨hnx, hfree, hlog, hcall⟩ := hok hI.2
  have happ : ∀ (hp : Nat → Option B), (∀ b, b < s.nx → hp b = s.hp.get b) → ∀ b, (match (callE q s.nx).up b with | some x => x | none => hp b) = if b < q.nx then q.hp.get b else hp b := by
    intro hp hhp b
    simp only [callE]
    by_cases h1 : b < s.nx
    · by_cases h2 : b ∈ q.wr
      · rw [if_pos (Or.inl ⟨h1, h2⟩), if_pos (by omega)]
      · rw [if_neg (by rintro (h | h); exact h2 h.2; omega), if_pos (by omega), hlog b h1 h2]
        exact hhp b h1
    · by_cases h2 : b < q.nx
      · rw [if_pos (Or.inr ⟨by omega, h2⟩), if_pos h2]
      · rw [if_neg (by rintro (h | h) <;> omega), if_neg h2]
  refine ⟨⟨⟨Nat.le_trans hI.1 hnx, hfree⟩, rfl, rfl, hnx, fun b hb h => ?_⟩, rfl, ?_, fun b hb => ?_, fun b hb => .inr ⟨rfl, hb⟩, fun b hb => hb, fun w0 M0 m0 df hG => ?_⟩
  · have hb' : b < s.bs := hb
    have h' : b ∉ keepLt s.bs q.wr ++ s.wr := h
    rw [List.mem_append, not_or] at h'
    exact ⟨h'.2, hlog b (Nat.lt_of_lt_of_le hb' hI.1) fun hm => h'.1 (mem_keepLt hm hb')⟩
  · simp only [fsOf, envF_setDst, FS.app]
    congr 1
    funext b
    refine Eq.trans ?_ (happ s.hp.get (fun _ _ => rfl) b).symm
    by_cases h : b < q.nx
    · rw [if_pos h]
    · rw [if_neg h, hfree b (by omega), hI.2 b (by omega)]
  · simp only [callE] at hb
    by_cases h : (b < s.nx ∧ b ∈ q.wr) ∨ (s.nx ≤ b ∧ b < q.nx)
    · exact h.imp (·.2) id
    · rw [if_neg h] at hb; exact absurd rfl hb
  · rintro fr s1 a w ⟨m, hm, r⟩ hnm hd ht hb K Q hK
    rw [wantX_spec hw (g := s1.env) (m := m) ht r.env, if_pos rfl]
    have hvs : ∀ y ∈ o.op.operands, conc m (evX s.env y) = some (a.eval y) := fun y hy => by
      rw [evX_evF]
      have := evF_agree (ops := ops) (g := s1.env) (g' := envF s.env) ht hy
      rw [← this]
      exact rep_evF r.env y
    have hf : conc m (evX s.env f) = some (a.eval f) := hvs f (by rw [hop]; simp [Op.operands, Call.operands])
    have ha : concL m (evs (evX s.env) args.toList) = some (args.toList.map a.eval) := evs_rel fun x hx => hvs x (by rw [hop]; simp [Op.operands, Call.operands]; exact .inr (by simpa using hx))
    have hsub := r.w.sub s.nx
    have e1 : (fun b => if b < s.nx then s1.hp b else none) = s.hp.get := by
      funext b
      by_cases h : b < s.nx
      · rw [if_pos h]; exact hb b h
      · rw [if_neg h, hI.2 b (by omega)]
    rw [e1] at hsub
    obtain ⟨nx, h1, _, h2⟩ := hcall w (M1 m s1.hp s.nx) fr m w (args.toList.map a.eval) (a.eval f) (hG.sub r.w s.nx) hsub (fun b h3 h4 => hnm b ⟨h3, h4⟩) hf ha
    have harr : (args.toList.map a.eval).toArray = args.map a.eval := by apply Array.toList_inj.1; simp
    rw [harr] at h1
    have hexec : (o.semAt (Fr ro).round a.eval).run c.P w = .ok nx w := by
      rw [Oper.semAt_eq _ _ _ (by intro k; rw [hop]; simp)]
      unfold execOp
      simp only [hop, resolve]
      exact h1
    have fin : ∀ e w', (∃ v m', e = Ending.returned v ∧ Le m m' ∧ conc m' q.x = some v ∧ WR w (M1 m s1.hp s.nx) (fun b => fr b ∧ ¬ (s.nx ≤ b ∧ b < q.nx)) m' q.hp.get w') →
        match e with
        | .returned v => K (a.put o.dst v) w'
        | .panicked chain => Q (.panic chain) a w'
        | .outgrown => LetsOut Q := by
      rintro e w' ⟨v, m', rfl, h3, h4, h5⟩
      refine hK _ _ ⟨m', hm.trans h3, ⟨by rw [put_size]; exact r.size, ?_, by rw [put_defers]; exact r.df.mono h3, ?_⟩⟩
      · exact conc_put r.size hd (fun t => conc_mono h3 _ _ (r.env t)) h4
      · refine WR.join (hi := q.nx) r.w h5 h3 hnx ?_ ?_ ?_
        · intro b h6
          refine (happ s1.hp hb b).trans ?_
          rw [if_pos (by omega)]
        · intro b h6 h7
          refine (happ s1.hp hb b).trans ?_
          rw [if_pos h7]
        · intro b h6
          refine (happ s1.hp hb b).trans ?_
          rw [if_neg (by omega)]
    refine ⟨fun f _ => trivial, ?_⟩
    rw [hexec]
    cases nx with
    | enter g as =>
      rw [Oper.uponIn_enter]
      exact ⟨fun h => absurd h Bool.false_ne_true, CallsIn.mono (F := Fr ro) h2 fun e w' h => by have := fin e w' h; cases e <;> exact this⟩
    | round l g ts x y =>
      rw [Oper.uponIn_round]
      exact ⟨fun h => absurd h Bool.false_ne_true, RoundIn.mono (F := Fr ro) h2 fun e w' h => by have := fin e w' h; cases e <;> exact this⟩
    | _ => exact h2.elim

theorem extOf_inv {f : X} {x : Ext} {fs cs : List X} (h : extOf c f = some (x, fs, cs)) : ∃ k, f = .fn k fs cs ∧ c.ex.get k = some x := by
  unfold extOf at h
  split at h
  · rename_i k fs' cs'
    split at h
    · rename_i y hy
      simp only [Option.some.injEq, Prod.mk.injEq] at h
      obtain ⟨rfl, rfl, rfl⟩ := h
      exact ⟨k, rfl, hy⟩
    · cases h
  · cases h
/-- A function without a text. -/
theorem ext_ok (hc : CxOk c) {id : Nat} {ev : Operand → X} {hp : Tr B} {e : Ef} {dst : Option Tmp} {T : TypeId} {pos : String} {af : Array Edge} {gd : Option (Nat × Bool)} {f : Operand} {args : Array Operand} {tys : Array TypeId} {x : Ext} {fs cs : List X} (hf : extOf c (ev f) = some (x, fs, cs)) (he : extX c x id hp (fs ++ evs ev args.toList ++ cs) = some e) :
    OpOk c.P c.gl ⟨dst, .call ⟨.value f, args, tys⟩, T, pos, af, gd⟩ id ev hp e := by
  intro w0 M0 fr m h a w hG hw hid hx hb
  obtain ⟨k, hk, hex⟩ := extOf_inv hf
  obtain ⟨hfit, hrun⟩ := hc.ex k x hex
  have h1 := hx f (by simp [Op.operands, Call.operands])
  rw [hk] at h1
  obtain ⟨us, vs, k1, k2, k3⟩ := conc_fn h1
  have ha : concL m (evs ev args.toList) = some (args.toList.map a.eval) := evs_rel fun y hy => hx y (by simp [Op.operands, Call.operands]; exact .inr (by simpa using hy))
  obtain ⟨v, w', r1, m', r2, r3, r4⟩ := extX_ok hc.ti hfit he hw hid (concL_append (concL_append k1 ha) k2) hb
  refine ⟨.value v, v, w', m', ?_, .inl rfl, r2, r3, r4⟩
  unfold execOp
  simp only [resolve, k3, Deferred.ofValue, Sem.run_bind, Sem.run_pure, Result.andThen, invoke]
  have e1 : (us.toArray ++ args.map a.eval ++ vs.toArray) = (us ++ args.toList.map a.eval ++ vs).toArray := by apply Array.ext'; simp
  rw [e1, hrun, r1]
  rfl
theorem opX_ok {r : Rec} (hc : CxOk c) (hr : ∀ f args hp nx q, r.call f args hp nx = .ok q → CallOk c f args hp nx q) {o : Oper} {s : S} {q : S × Sk} (hI : Inv s) (hw : wantX ops.toList s.env o = some true) (h : opX c r o s = .ok q) :
    ∃ E, Eff c ops nt ro s o q.1 q.2 E := by
  have simple : (∀ k, o.op ≠ .defer k) → (match stepX c s.nx (evX s.env) s.hp o.op with
    | some e => bif allLe s.nx (namesU e.up) then O.ok ((⟨s.nt, setDst s.env o.dst e.x, setAll s.hp e.up, Nat.succ s.nx, s.df, s.bs, keepLt s.bs (namesU e.up) ++ s.wr⟩ : S), (⟨namesU e.up, s.nx, s.nx, e.rd, false⟩ : Sk)) else .no [4]
    | none => .no [3]) = .ok q → ∃ E, Eff c ops nt ro s o q.1 q.2 E := by
    intro hd h
    split at h
    · rename_i e he
      cases hl : allLe s.nx (namesU e.up) with
      | false => rw [hl] at h; cases h
      | true =>
        rw [hl] at h
        simp only [cond_true, O.ok.injEq] at h
        subst h
        obtain ⟨dst, op, T, pos, af, gd⟩ := o
        exact ⟨_, eff_simple hI hd hw hl (stepX_ok hc he)⟩
    · cases h
  unfold opX at h
  split at h
  · rename_i f args tys hop
    split at h
    · split at h
      · rename_i q' hq
        simp only [O.ok.injEq] at h
        subst h
        exact ⟨_, eff_call hI hop hw (hr _ _ _ _ _ hq)⟩
      · cases h
    · rename_i x fs cs hx
      split at h
      · rename_i e he
        cases hl : allLe s.nx (namesU e.up) with
        | false => rw [hl] at h; cases h
        | true =>
          rw [hl] at h
          simp only [cond_true, O.ok.injEq] at h
          subst h
          obtain ⟨dst, op, T, pos, af, gd⟩ := o
          simp only at hop
          subst hop
          exact ⟨_, eff_simple hI (by intro k; simp) hw hl (ext_ok hc hx he)⟩
      · cases h
  · rename_i hne
    by_cases hd : ∀ k, o.op ≠ .defer k
    · exact simple hd h
    · exfalso
      simp only [Classical.not_forall, Classical.not_not] at hd
      obtain ⟨k, hk⟩ := hd
      rw [hk] at h
      simp [stepX] at h
end
end
end Go.Ex
/- The exact evaluator, part 14: regions. -/
namespace Go.Ex
noncomputable section
open Go.RowKit
open Go.Ab (reach Clo opsIn opsIn_spec)

/-- The names that are left. -/
def Mn (fr : Nat → Prop) (lo hi : Nat) (b : Nat) : Prop := fr b ∧ ¬ (lo ≤ b ∧ b < hi)
theorem RR.less {w0 : World} {M0 : Nat → Prop} {m0 : Mu} {nt : Nat} {df : List Df} {fr fr' : Nat → Prop} {s : FS} {a : Act} {w : World} (h : RR w0 M0 m0 nt df fr s a w) (hf : ∀ b, fr' b → fr b) : RR w0 M0 m0 nt df fr' s a w := RR.free _ _ _ _ _ h hf

theorem bif_no {α : Type} {a : Bool} {x : O α} {e : List Nat} {y : α} (h : (bif a then .no e else x) = .ok y) : a = false ∧ x = .ok y := by
  cases a
  · exact ⟨rfl, h⟩
  · cases h
theorem bif_yes {α : Type} {a : Bool} {x : O α} {e : List Nat} {y : α} (h : (bif a then x else .no e) = .ok y) : a = true ∧ x = .ok y := by
  cases a
  · cases h
  · exact ⟨rfl, h⟩
theorem bif_tt {a b : Bool} (h : (bif a then b else false) = true) : a = true ∧ b = true := by
  cases a
  · cases h
  · exact ⟨rfl, h⟩
section
variable {c : Cx} {ops : Array Oper} {nt : Nat} {ro : Option Nat} {r : Rec} {rnd : Bool}

def OpsDo (c : Cx) (ops : Array Oper) (nt : Nat) (ro : Option Nat) (l : List Nat) (s s' : S) : Prop :=
  ∀ w0 M0 m0 fr a w Q, GOk c.gl w0 M0 → (∀ b, s.nx ≤ b → b < s'.nx → fr b) → RR w0 M0 m0 nt s.df fr (fsOf s) a w →
    (∀ a' w', RR w0 M0 m0 nt s'.df (Mn fr s.nx s'.nx) (fsOf s') a' w' → Q Exit.normal a' w') → wpOpsIn (Fr ro) 0 c.P ops Q l a w

theorem OpsDo.step {i : Nat} {o : Oper} {l : List Nat} {s s1 s' : S} {k : Sk} {E : EX} (ho : ops[i]? = some o) (hd : ∀ t, o.dst = some t → t < nt) (e : Eff c ops nt ro s o s1 k E) (st : Stat s1 s') (h : OpsDo c ops nt ro l s1 s') : OpsDo c ops nt ro (i :: l) s s' := by
  intro w0 M0 m0 fr a w Q hG hfr hR hQ
  simp only [wpOpsIn, ho]
  refine e.snd w0 M0 m0 s.df hG fr (fsOf s) a w hR (fun b hb => hfr b (e.nm b hb).1 (Nat.lt_of_lt_of_le (e.nm b hb).2 st.nx)) hd (fun _ _ => rfl) (fun _ _ => rfl) _ Q ?_
  intro a' w' hR'
  rw [← e.app] at hR'
  have h1 := e.st.nx
  have h2 := st.nx
  refine h w0 M0 m0 (Mn fr s.nx s1.nx) a' w' Q hG (fun b g1 g2 => ⟨hfr b (by omega) g2, by omega⟩) ?_ fun a'' w'' hR'' => hQ a'' w'' (hR''.less ?_)
  · rw [e.df]
    exact hR'.less fun b hb => ⟨hb.1, fun hn => hb.2 (e.nm b hn)⟩
  · intro b hb
    exact ⟨⟨hb.1, fun g => hb.2 ⟨g.1, by omega⟩⟩, fun g => hb.2 ⟨by omega, g.2⟩⟩

theorem eval_vals {env : Tr X} {m : Mu} {a : Act} (h : ∀ t, conc m (envF env t) = some (a.tmps.getD t undef)) (x : Operand) : conc m (evX env x) = some (a.eval x) := by
  rw [evX_evF]; exact rep_evF h x
theorem concL_fn {m : Mu} {g : FuncId} {fs cs : List X} {v : Value} (h : conc m (.fn g fs cs) = some v) : ∃ us vs, concL m fs = some us ∧ concL m cs = some vs ∧ v = .func (.func g) us.toArray vs.toArray := by
  simp only [conc] at h
  split at h
  · rename_i us vs h1 h2
    simp only [Option.some.injEq] at h
    exact ⟨us, vs, h1, h2, h.symm⟩
  · cases h

theorem opsX_ok (hc : CxOk c) (hr : ∀ f args hp nx q, r.call f args hp nx = .ok q → CallOk c f args hp nx q) (hrnd : rnd = ro.isSome) (hin : opsIn nt ops.toList = true) :
    ∀ (l : List Oper) (i : Nat) (s s' : S), opsX c r rnd ops.toList i l s = .ok s' → ops.toList.drop i = l → Inv s → Stat s s' ∧ OpsDo c ops nt ro (List.range' i l.length) s s'
  | [], i, s, s', h, _, hI => by
    simp only [opsX, O.ok.injEq] at h
    subst h
    exact ⟨Stat.refl hI, fun w0 M0 m0 fr a w Q hG _ hR hQ => hQ a w (hR.less fun b hb => hb.1)⟩
  | o :: l, i, s, s', h, hl, hI => by
    have hlt : i < ops.toList.length := by
      rcases Nat.lt_or_ge i ops.toList.length with h | h
      · exact h
      · rw [List.drop_of_length_le h] at hl; cases hl
    have hcons := List.drop_eq_getElem_cons hlt
    rw [hl] at hcons
    injection hcons with ho hl'
    have ho' : ops[i]? = some o := by
      rw [ho]
      simp at hlt
      simp [hlt]
    have hmem : o ∈ ops.toList := by rw [ho]; exact List.getElem_mem hlt
    have hd := opsIn_spec hin o hmem
    have fin : ∀ (s1 : S) (k : Sk) (E : EX), Eff c ops nt ro s o s1 k E → opsX c r rnd ops.toList (Nat.succ i) l s1 = .ok s' → Stat s s' ∧ OpsDo c ops nt ro (List.range' i (o :: l).length) s s' := by
      intro s1 k E e h
      obtain ⟨st, hdo⟩ := opsX_ok hc hr hrnd hin l (Nat.succ i) s1 s' h hl'.symm e.st.inv
      exact ⟨e.st.trans st, OpsDo.step ho' hd e st hdo⟩
    unfold opsX at h
    split at h
    · rename_i hw
      split at h
      · rename_i f args tys hop
        replace h := bif_no h
        obtain ⟨hrd, h⟩ := h
        split at h
        · rename_i g fs cs hf
          have hI1 : Inv ⟨s.nt, setDst s.env o.dst u0, s.hp, s.nx, .fn g (fs ++ evs (evX s.env) args.toList ++ cs) :: s.df, s.bs, s.wr⟩ := hI
          obtain ⟨st, hdo⟩ := opsX_ok hc hr hrnd hin l (Nat.succ i) _ s' h hl'.symm hI1
          refine ⟨Stat.trans ⟨hI1, rfl, rfl, Nat.le_refl _, fun _ _ h => ⟨h, rfl⟩⟩ st, ?_⟩
          rintro w0 M0 m0 fr a w Q hG hfr ⟨m, hm, R⟩ hQ
          have hro : ro = none := by cases ro with | none => rfl | some x => rw [hrd] at hrnd; cases hrnd
          simp only [List.length_cons, List.range'_succ, wpOpsIn, ho']
          rw [wantX_spec hw (g := envF s.env) (m := m) (fun _ _ => rfl) R.env, if_pos rfl]
          have hab : o.about c.P w a.eval = none := by simp [Oper.about, hop]
          refine ⟨fun f hf => (by rw [hab] at hf; cases hf), ?_⟩
          have hv := eval_vals R.env f
          rw [hf] at hv
          obtain ⟨us, vs, h1, h2, h3⟩ := concL_fn hv
          have hsem : (o.semAt (Fr ro).round a.eval).run c.P w = .ok (.defer { target := .fn (.func g) vs.toArray, args := us.toArray ++ args.map a.eval }) w := by
            rw [hro, Oper.semAt_none]
            unfold execOp
            simp only [hop, resolve, h3, Deferred.ofValue]
            rfl
          rw [hsem]
          have ha : concL m (evs (evX s.env) args.toList) = some (args.toList.map a.eval) := evs_rel fun x _ => eval_vals R.env x
          refine hdo w0 M0 m0 fr _ w Q hG hfr ⟨m, hm, ⟨by rw [put_size]; exact R.size, ?_, ?_, R.w⟩⟩ hQ
          · intro t
            have := conc_put (dst := o.dst) (x := u0) (v := undef) R.size hd R.env (by simp [u0, conc, undef]) t
            simp only [fsOf, envF_setDst]
            cases hdst : o.dst with
            | none => rw [hdst] at this; exact this
            | some k => rw [hdst] at this; exact this
          · rw [put_defers]
            refine ⟨⟨_, _, us ++ args.toList.map a.eval ++ vs, rfl, concL_append (concL_append h1 ha) h2, ?_⟩, R.df⟩
            apply Array.toList_inj.1
            simp
        · cases h
      · split at h
        · rename_i q hq
          obtain ⟨E, e⟩ := opX_ok (nt := nt) (ro := ro) hc hr hI hw hq
          exact fin _ _ _ e h
        · cases h
    · rename_i hw
      exact fin _ _ _ (eff_skip hI hw) h
    · cases h

/-! drawn regions -/
theorem effI_cons (e : EX) (E : List EX) (i : Nat) : effI (e :: E) (i + 1) = effI E i := by simp [effI]
theorem opsD_chain (hc : CxOk c) (hr : ∀ f args hp nx q, r.call f args hp nx = .ok q → CallOk c f args hp nx q) :
    ∀ (l : List Oper) (i : Nat) (s : S) (acc : List Sk) (q : S × List Sk), opsD c r ops.toList i l s acc = .ok q → Inv s →
      ∃ (ks : List Sk) (E : List EX) (st : Nat → S), q.2 = ks.reverse ++ acc ∧ st 0 = s ∧ st l.length = q.1 ∧ ∀ j o, l[j]? = some o → Eff c ops nt ro (st j) o (st (j + 1)) (skAt ks j) (effI E j)
  | [], i, s, acc, q, h, hI => by
    simp only [opsD, O.ok.injEq] at h
    subst h
    exact ⟨[], [], fun _ => s, rfl, rfl, rfl, fun j o h => by simp at h⟩
  | o :: l, i, s, acc, q, h, hI => by
    have fin : ∀ (s1 : S) (k : Sk) (e : EX), Eff c ops nt ro s o s1 k e → opsD c r ops.toList (Nat.succ i) l s1 (k :: acc) = .ok q →
        ∃ (ks : List Sk) (E : List EX) (st : Nat → S), q.2 = ks.reverse ++ acc ∧ st 0 = s ∧ st (o :: l).length = q.1 ∧ ∀ j o', (o :: l)[j]? = some o' → Eff c ops nt ro (st j) o' (st (j + 1)) (skAt ks j) (effI E j) := by
      intro s1 k e he h
      obtain ⟨ks, E, st, h1, h2, h3, h4⟩ := opsD_chain hc hr l (Nat.succ i) s1 (k :: acc) q h he.st.inv
      refine ⟨k :: ks, e :: E, fun j => match j with | 0 => s | j + 1 => st j, by rw [h1]; simp, rfl, h3, ?_⟩
      intro j o' ho
      cases j with
      | zero =>
        simp only [List.getElem?_cons_zero, Option.some.injEq] at ho
        subst ho
        have e2 : effI (e :: E) 0 = e := by simp [effI]
        rw [e2]
        show Eff c ops nt ro s o (st 0) k e
        rw [h2]
        exact he
      | succ j =>
        simp only [List.getElem?_cons_succ] at ho
        rw [effI_cons]
        have e3 : skAt (k :: ks) (j + 1) = skAt ks j := by unfold skAt; rw [nth_eq, nth_eq]; rfl
        rw [e3]
        exact h4 j o' ho
    unfold opsD at h
    split at h
    · rename_i hw
      split at h
      · rename_i q' hq
        obtain ⟨E, e⟩ := opX_ok (nt := nt) (ro := ro) hc hr hI hw hq
        exact fin _ _ _ e h
      · cases h
    · rename_i hw
      exact fin _ _ _ (eff_skip hI hw) h
    · cases h

theorem anyT_spec {k : Sk} : ∀ {l : List Nat} {b : Nat}, anyT k l = false → b ∈ l → touches k b = false
  | [], _, _, h => by cases h
  | c :: l, b, h, hb => by
    simp only [anyT, Bool.or_eq_false_iff] at h
    rcases List.mem_cons.1 hb with rfl | hb
    · exact h.1
    · exact anyT_spec h.2 hb
theorem anyW_spec {k : Sk} : ∀ {l : List Nat} {b : Nat}, anyW k l = false → b ∈ l → within k b = false ∧ b ∉ k.w
  | [], _, _, h => by cases h
  | c :: l, b, h, hb => by
    simp only [anyW, Bool.or_eq_false_iff] at h
    rcases List.mem_cons.1 hb with rfl | hb
    · exact ⟨h.1.1, inL_spec h.1.2⟩
    · exact anyW_spec h.2 hb
theorem within_false {k : Sk} {b : Nat} (h : within k b = false) : ¬ (k.lo ≤ b ∧ b < k.hi) := by
  rintro ⟨h1, h2⟩
  have e1 : Nat.ble k.lo b = true := Nat.ble_eq_true_of_le h1
  have e2 : Nat.blt b k.hi = true := Nat.ble_eq_true_of_le h2
  rw [within, e1, e2] at h
  cases h
theorem touches_false {k : Sk} {b : Nat} (h : touches k b = false) : b ∉ k.w ∧ b ∉ k.r ∧ ¬ (k.lo ≤ b ∧ b < k.hi) ∧ ¬ (k.ra = true ∧ b < k.lo) := by
  simp only [touches, Bool.or_eq_false_iff] at h
  refine ⟨inL_spec h.1.1.1, inL_spec h.1.1.2, within_false h.1.2, ?_⟩
  rintro ⟨h1, h2⟩
  have e2 : Nat.blt b k.lo = true := Nat.ble_eq_true_of_le h2
  rw [h1, e2] at h
  exact absurd h.2 (by simp)
theorem cfS_spec {i j : Sk} {Ei Ej : EX} (h : cfS i j = false) (hiu : ∀ b, Ei.up b ≠ none → b ∈ i.w ∨ (i.lo ≤ b ∧ b < i.hi)) (hir : ∀ b, Ei.rd b → b ∈ i.r ∨ (i.ra = true ∧ b < i.lo))
    (hju : ∀ b, Ej.up b ≠ none → b ∈ j.w ∨ (j.lo ≤ b ∧ b < j.hi)) (hjr : ∀ b, Ej.rd b → b ∈ j.r ∨ (j.ra = true ∧ b < j.lo)) :
    (∀ b, Ei.up b ≠ none → Ej.up b = none ∧ ¬ Ej.rd b) ∧ ∀ b, Ei.rd b → Ej.up b = none := by
  simp only [cfS, Bool.or_eq_false_iff] at h
  obtain ⟨⟨⟨⟨⟨h1, h2⟩, h3⟩, h4⟩, h5⟩, h6⟩ := h
  have h5' : ∀ b, i.lo ≤ b → b < i.hi → j.ra = false ∧ ¬ (j.lo ≤ b ∧ b < j.hi) := by
    intro b g1 g2
    have e1 : Nat.blt i.lo i.hi = true := Nat.ble_eq_true_of_le (by omega)
    rw [e1, Bool.true_and, Bool.or_eq_false_iff] at h5
    refine ⟨h5.1, ?_⟩
    rintro ⟨g3, g4⟩
    have e2 : Nat.blt j.lo j.hi = true := Nat.ble_eq_true_of_le (by omega)
    have e3 : Nat.ble i.hi j.lo = false := by
      cases hb : Nat.ble i.hi j.lo with
      | false => rfl
      | true => have := Nat.le_of_ble_eq_true hb; omega
    rw [e2, e3] at h5
    exact absurd h5.2 (by simp)
  have h6' : ∀ b, i.ra = true → b < i.lo → ¬ (j.lo ≤ b ∧ b < j.hi) := by
    rintro b g1 g2 ⟨g3, g4⟩
    have e1 : Nat.blt j.lo j.hi = true := Nat.ble_eq_true_of_le (by omega)
    have e2 : Nat.blt j.lo i.lo = true := Nat.ble_eq_true_of_le (by omega)
    rw [g1, e1, e2] at h6
    exact absurd h6 (by simp)
  refine ⟨fun b hb => ⟨?_, fun hr => ?_⟩, fun b hb => ?_⟩
  · apply Classical.byContradiction
    intro hj
    rcases hiu b hb with g | g
    · have := touches_false (anyT_spec h1 g)
      rcases hju b hj with g' | g'
      · exact this.1 g'
      · exact this.2.2.1 g'
    · rcases hju b hj with g' | g'
      · exact (touches_false (anyT_spec h2 g')).2.2.1 g
      · exact (h5' b g.1 g.2).2 g'
  · rcases hiu b hb with g | g
    · have := touches_false (anyT_spec h1 g)
      rcases hjr b hr with g' | g'
      · exact this.2.1 g'
      · exact this.2.2.2 g'
    · rcases hjr b hr with g' | g'
      · exact within_false (anyW_spec h4 g').1 g
      · rw [(h5' b g.1 g.2).1] at g'; cases g'.1
  · apply Classical.byContradiction
    intro hj
    rcases hir b hb with g | g
    · have := anyW_spec h3 g
      rcases hju b hj with g' | g'
      · exact this.2 g'
      · exact within_false this.1 g'
    · rcases hju b hj with g' | g'
      · exact (touches_false (anyT_spec h2 g')).2.2.2 g
      · exact h6' b g.1 g.2 g'

theorem fwdJ_spec {j : Nat} : ∀ {l : List Edge}, fwdJ j l = true → ∀ e ∈ l, Region.binds .any e = true → e.on < j
  | [], _, e, he, _ => by cases he
  | x :: l, h, e, he, hb => by
    simp only [fwdJ] at h
    cases hx : (bif Region.binds .any x then Nat.blt x.on j else true) with
    | false => rw [hx] at h; cases h
    | true =>
      rw [hx] at h
      rcases List.mem_cons.1 he with rfl | he
      · rw [hb] at hx
        exact Nat.le_of_ble_eq_true hx
      · exact fwdJ_spec h e he hb
theorem ordJ_spec {sks : List Sk} {n j : Nat} : ∀ {k : Nat}, ordJ ops sks n j k = true → ∀ i, i < k → reach ops n j i = true ∨ cfX ops sks i j = false
  | 0, _, i, hi => by omega
  | k + 1, h, i, hi => by
    simp only [ordJ] at h
    cases hx : (bif reach ops n j k then true else !(cfX ops sks k j)) with
    | false => rw [hx] at h; cases h
    | true =>
      rw [hx] at h
      rcases Nat.lt_or_ge i k with g | g
      · exact ordJ_spec h i g
      · have : i = k := by omega
        subst this
        cases hr : reach ops n j i with
        | true => exact .inl rfl
        | false => rw [hr] at hx; exact .inr (by simpa using hx)
theorem ordX_spec {sks : List Sk} {n : Nat} : ∀ {k : Nat}, ordX ops sks n k = true → ∀ j, j < k → (∀ o, ops[j]? = some o → ∀ e ∈ o.after, Region.binds .any e = true → e.on < j) ∧ ∀ i, i < j → reach ops n j i = true ∨ cfX ops sks i j = false
  | 0, _, j, hj => by omega
  | k + 1, h, j, hj => by
    simp only [ordX] at h
    replace h := bif_tt h
    obtain ⟨hx, h⟩ := h
    rcases Nat.lt_or_ge j k with g | g
    · exact ordX_spec h j g
    · have : j = k := by omega
      subst this
      rw [Bool.and_eq_true] at hx
      refine ⟨fun o ho e he hb => ?_, ordJ_spec hx.2⟩
      have h1 := hx.1
      rw [nth_eq] at h1
      have e1 : ops.toList[j]? = ops[j]? := by simp
      rw [e1, ho] at h1
      exact fwdJ_spec h1 e (by simpa using he) hb

def RegionDo (c : Cx) (ops : Array Oper) (nt : Nat) (ro : Option Nat) (s s' : S) : Prop :=
  ∀ w0 M0 m0 fr a w Q, GOk c.gl w0 M0 → (∀ b, s.nx ≤ b → b < s'.nx → fr b) → RR w0 M0 m0 nt s.df fr (fsOf s) a w →
    (∀ a' w', RR w0 M0 m0 nt s'.df (Mn fr s.nx s'.nx) (fsOf s') a' w' → Q Exit.normal a' w') → wpAnyIn (Fr ro) 0 c.P .any ops Q ops.size (Array.replicate ops.size false) a w

theorem opsD_ok (hc : CxOk c) (hr : ∀ f args hp nx q, r.call f args hp nx = .ok q → CallOk c f args hp nx q) (hin : opsIn nt ops.toList = true) {s : S} {q : S × List Sk} (h : opsD c r ops.toList 0 ops.toList s [] = .ok q) (hord : ordX ops q.2.reverse ops.size ops.size = true) (hI : Inv s) :
    Stat s q.1 ∧ q.1.df = s.df ∧ RegionDo c ops nt ro s q.1 := by
  obtain ⟨ks, E, st, h1, h2, h3, h4⟩ := opsD_chain (nt := nt) (ro := ro) hc hr ops.toList 0 s [] q h hI
  have hks : q.2.reverse = ks := by rw [h1]; simp
  rw [hks] at hord
  have hlen : ops.toList.length = ops.size := by simp
  rw [hlen] at h3
  have h4' : ∀ j o, ops[j]? = some o → Eff c ops nt ro (st j) o (st (j + 1)) (skAt ks j) (effI E j) := fun j o ho => h4 j o (by simpa using ho)
  have hall : ∀ d i, i + d ≤ ops.size → Inv (st i) → Stat (st i) (st (i + d)) ∧ (st (i + d)).df = (st i).df := by
    intro d
    induction d with
    | zero => exact fun i _ hi => ⟨Stat.refl hi, rfl⟩
    | succ d ih =>
      intro i hi hInv
      obtain ⟨g1, g2⟩ := ih i (by omega) hInv
      have e := h4' (i + d) _ (Array.getElem?_eq_getElem (by omega))
      exact ⟨g1.trans e.st, e.df.trans g2⟩
  have hI0 : Inv (st 0) := h2 ▸ hI
  have hinv : ∀ i, i ≤ ops.size → Inv (st i) := fun i hi => by have := (hall i 0 (by omega) hI0).1.inv; rwa [Nat.zero_add] at this
  have hmono : ∀ i j, i ≤ j → j ≤ ops.size → (st i).nx ≤ (st j).nx := fun i j hij hj => by
    have := (hall (j - i) i (by omega) (hinv i (by omega))).1.nx
    rwa [Nat.add_sub_cancel' hij] at this
  have hfs : ∀ i, i ≤ ops.size → foldI ops E (List.range i) (fsOf s) = fsOf (st i) := by
    intro i
    induction i with
    | zero => intro _; rw [h2]; rfl
    | succ i ih =>
      intro hi
      rw [List.range_succ]
      unfold foldI
      rw [List.foldl_append]
      have := ih (by omega)
      unfold foldI at this
      rw [this]
      have ho : ops[i]? = some ops[i] := Array.getElem?_eq_getElem (by omega)
      rw [(h4' i _ ho).app]
      simp [applyI, dstI, ho]
  have hst : Stat s q.1 ∧ q.1.df = s.df := by
    have := hall ops.size 0 (by omega) hI0
    rw [Nat.zero_add, h2, h3] at this
    exact this
  refine ⟨hst.1, hst.2, ?_⟩
  intro w0 M0 m0 fr a w Q hG hfr hR hQ
  have hspec := ordX_spec hord
  have hok : OrdOk ops E (cfX ops ks) := by
    refine ⟨fun j o ho => (hspec j (Array.getElem?_eq_some_iff.1 ho).1).1 o ho, fun i j hij hj hcf => ?_, fun i j x y hij hx hy hcf => ?_, fun i j hi hj hij b hb hb' => ?_⟩
    · rcases (hspec j hj).2 i hij with g | g
      · exact g
      · rw [hcf] at g; cases g
    · unfold cfX at hcf
      rw [nth_eq, nth_eq] at hcf
      have e1 : ops.toList[i]? = some x := by simpa using hx
      have e2 : ops.toList[j]? = some y := by simpa using hy
      rw [e1, e2] at hcf
      simp only [Bool.or_eq_false_iff] at hcf
      exact ⟨by simpa using hcf.1, cfS_spec hcf.2 (h4' i x hx).up (h4' i x hx).rd (h4' j y hy).up (h4' j y hy).rd⟩
    · have g1 := (h4' i _ (Array.getElem?_eq_getElem hi)).nm b hb
      have g2 := (h4' j _ (Array.getElem?_eq_getElem hj)).nm b hb'
      rcases Nat.lt_or_ge i j with g | g
      · have := hmono (i + 1) j (by omega) (by omega); omega
      · have := hmono (j + 1) i (by omega) (by omega); omega
  have hnm : ∀ i, i < ops.size → ∀ b, (effI E i).nm b → s.nx ≤ b ∧ b < q.1.nx := by
    intro i hi b hb
    have g := (h4' i _ (Array.getElem?_eq_getElem hi)).nm b hb
    have g1 := hmono 0 i (by omega) (by omega)
    have g2 := hmono (i + 1) ops.size (by omega) (by omega)
    rw [h2] at g1
    rw [h3] at g2
    omega
  refine any_order E (fsOf s) (cfX ops ks) fr RR.free hok hin (fun i o ho => ?_) (fun i hi b hb => hfr b (hnm i hi b hb).1 (hnm i hi b hb).2) (fun a' w' hR' => ?_) ops.size (Array.replicate ops.size false) a w (by simp) ?_ ?_ (R := RR w0 M0 m0 nt s.df) ?_
  · rw [hfs i (by have := (Array.getElem?_eq_some_iff.1 ho).1; omega)]
    exact (h4' i o ho).snd w0 M0 m0 s.df hG
  · rw [hfs ops.size (Nat.le_refl _), h3] at hR'
    rw [hst.2] at hQ
    exact hQ a' w' (hR'.less fun b hb => ⟨hb.1, fun i hi hn => hb.2 (hnm i hi b hn)⟩)
  · intro j o' hj
    exfalso
    have : (Array.replicate ops.size false).getD j false = false := by
      simp only [Array.getD_eq_getD_getElem?, Array.getElem?_replicate]
      split <;> rfl
    rw [this] at hj; cases hj
  · exact Nat.le_trans (List.length_filter_le _ _) (by simp)
  · have hl : ∀ i, Go.Ab.listedIn (Array.replicate ops.size false) i = false := by
      intro i
      simp only [Go.Ab.listedIn, Array.getD_eq_getD_getElem?, Array.getElem?_replicate]
      split <;> rfl
    have e1 : sg ops E (fsOf s) (Array.replicate ops.size false) = fsOf s := by
      unfold sg
      rw [List.filter_eq_nil_iff.2 fun i _ => by rw [hl i]; simp]
      rfl
    rw [e1]
    exact hR.less fun b hb => hb.1
end
end
end Go.Ex
