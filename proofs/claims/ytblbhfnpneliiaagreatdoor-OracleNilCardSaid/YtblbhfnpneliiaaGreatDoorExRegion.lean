/- The exact evaluator, part 11: regions that draw their order. -/
import Derived.Test.YtblbhfnpneliiaaGreatDoorExStep
import Derived.Test.YtblbhfnpneliiaaGreatDoorAbRegion
namespace Go.Ex
open Go.RowKit
open Go.Ab (reach Clo opsIn opsIn_spec listedIn range_split listed_false foldl_id foldl_same foldl_skip)

/-- Slots and blocks. -/
structure FS where
  env : Nat → X
  hp : Nat → Option B
/-- What an operation does: its value, the blocks that it turns, those that it looks at, the names that it may take. -/
structure EX where
  x : X
  up : Nat → Option (Option B)
  rd : Nat → Prop
  nm : Nat → Prop
def FS.app (s : FS) (dst : Option Nat) (e : EX) : FS := ⟨fun t => if dst = some t then e.x else s.env t, fun b => match e.up b with | some x => x | none => s.hp b⟩
def noE : EX := ⟨u0, fun _ => none, fun _ => False, fun _ => False⟩
section
variable {P : Program} {ops : Array Oper} {F : Fence} {n nt : Nat} {R : (Nat → Prop) → FS → Act → World → Prop} {Q : Exit → Act → World → Prop}

/-- In whatever state that agrees with s0 on what the operation looks at, it does e. -/
def XSound (F : Fence) (n : Nat) (P : Program) (ops : Array Oper) (nt : Nat) (R : (Nat → Prop) → FS → Act → World → Prop) (o : Oper) (s0 : FS) (e : EX) : Prop :=
  ∀ fr s a w, R fr s a w → (∀ b, e.nm b → fr b) → (∀ d, o.dst = some d → d < nt) → (∀ t ∈ o.looksAt ops, s.env t = s0.env t) → (∀ b, e.rd b → s.hp b = s0.hp b) →
    ∀ K Q, (∀ a' w', R (fun b => fr b ∧ ¬ e.nm b) (s.app o.dst e) a' w' → K a' w') →
      (if Region.wanted o (yielded ops a.tmps) = true then o.wpIn F n P a w K Q else (∀ f, o.about P w a.eval = some f → F.fn f) ∧ K (a.put o.dst undef) w)

def dstI (ops : Array Oper) (i : Nat) : Option Nat := (ops[i]?).bind (·.dst)
def effI (E : List EX) (i : Nat) : EX := E.getD i noE
def applyI (ops : Array Oper) (E : List EX) (s : FS) (i : Nat) : FS := s.app (dstI ops i) (effI E i)
def foldI (ops : Array Oper) (E : List EX) (l : List Nat) (s : FS) : FS := l.foldl (applyI ops E) s
def upAt (b : Nat) (x : Option B) (e : EX) : Option B := match e.up b with | some y => y | none => x

theorem foldI_env {E : List EX} (l : List Nat) : ∀ (s : FS) (t : Nat), (foldI ops E l s).env t = l.foldl (fun d i => if dstI ops i = some t then (effI E i).x else d) (s.env t) := by
  induction l with
  | nil => intro s t; rfl
  | cons i l ih => intro s t; simp only [foldI, List.foldl_cons] at ih ⊢; rw [ih]; rfl
theorem foldI_hp {E : List EX} (l : List Nat) : ∀ (s : FS) (b : Nat), (foldI ops E l s).hp b = l.foldl (fun x i => upAt b x (effI E i)) (s.hp b) := by
  induction l with
  | nil => intro s t; rfl
  | cons i l ih => intro s t; simp only [foldI, List.foldl_cons] at ih ⊢; rw [ih]; rfl
theorem upAt_skip {b : Nat} {e : EX} (h : e.up b = none) (x : Option B) : upAt b x e = x := by simp [upAt, h]

theorem applyI_comm {E : List EX} {i j : Nat} (s : FS) (h1 : ∀ t, dstI ops i = some t → dstI ops j ≠ some t) (h2 : ∀ b, (effI E i).up b ≠ none → (effI E j).up b = none) :
    applyI ops E (applyI ops E s i) j = applyI ops E (applyI ops E s j) i := by
  unfold applyI FS.app
  simp only
  congr 1
  · funext t
    by_cases hi : dstI ops i = some t
    · simp [hi, h1 t hi]
    · simp [hi]
  · funext b
    cases hi : (effI E i).up b with
    | some y => rw [h2 b (by rw [hi]; simp)]
    | none => cases (effI E j).up b <;> rfl

/-- What must be known of each two operations. -/
structure OrdOk (ops : Array Oper) (E : List EX) (cf : Nat → Nat → Bool) : Prop where
  fwd : ∀ j o, ops[j]? = some o → ∀ e ∈ o.after, Region.binds .any e = true → e.on < j
  ord : ∀ i j, i < j → j < ops.size → cf i j = true → reach ops ops.size j i = true
  apart : ∀ i j x y, i < j → ops[i]? = some x → ops[j]? = some y → cf i j = false → Oper.apart ops x y = true ∧ (∀ b, (effI E i).up b ≠ none → (effI E j).up b = none ∧ ¬ (effI E j).rd b) ∧ (∀ b, (effI E i).rd b → (effI E j).up b = none)
  names : ∀ i j, i < ops.size → j < ops.size → i ≠ j → ∀ b, (effI E i).nm b → ¬ (effI E j).nm b

/-- The state behind those that are listed. -/
def sg (ops : Array Oper) (E : List EX) (s0 : FS) (ls : Array Bool) : FS := foldI ops E ((List.range ops.size).filter (listedIn ls)) s0
def frS (fr : Nat → Prop) (ops : Array Oper) (E : List EX) (ls : Array Bool) (b : Nat) : Prop := fr b ∧ ∀ i, i < ops.size → ls.getD i false = true → ¬ (effI E i).nm b

theorem any_order (E : List EX) (s0 : FS) (cf : Nat → Nat → Bool) (fr0 : Nat → Prop) (hfree : ∀ fr fr' s a w, R fr s a w → (∀ b, fr' b → fr b) → R fr' s a w) (hok : OrdOk ops E cf) (hin : opsIn nt ops.toList = true)
    (hsound : ∀ i o, ops[i]? = some o → XSound F n P ops nt R o (foldI ops E (List.range i) s0) (effI E i))
    (hnm : ∀ i, i < ops.size → ∀ b, (effI E i).nm b → fr0 b)
    (hend : ∀ a w, R (fun b => fr0 b ∧ ∀ i, i < ops.size → ¬ (effI E i).nm b) (foldI ops E (List.range ops.size) s0) a w → Q .normal a w) :
    ∀ (fuel : Nat) (ls : Array Bool) (a : Act) (w : World), ls.size = ops.size → Clo ops ls →
      ((List.range ops.size).filter (fun i => !listedIn ls i)).length ≤ fuel → R (frS fr0 ops E ls) (sg ops E s0 ls) a w → wpAnyIn F n P .any ops Q fuel ls a w := by
  have hall : ∀ (ls : Array Bool), ls.size = ops.size → Region.ready .any ops ls = [] → ∀ i, i < ops.size → listedIn ls i = true := by
    intro ls hsz hr i
    induction i using Nat.strongRecOn with
    | _ i ih =>
      intro hi
      cases hl : listedIn ls i with
      | true => rfl
      | false =>
        have : i ∈ Region.ready .any ops ls := by
          rw [mem_ready]
          refine ⟨(listed_false hsz hi).2 hl, ops[i], Array.getElem?_eq_getElem hi, fun e he hb => ?_⟩
          have hlt := hok.fwd i _ (Array.getElem?_eq_getElem hi) e he hb
          exact ih e.on hlt (by omega)
        rw [hr] at this
        cases this
  have hfin : ∀ (ls : Array Bool) (a : Act) (w : World), ls.size = ops.size → Region.ready .any ops ls = [] → R (frS fr0 ops E ls) (sg ops E s0 ls) a w → Q .normal a w := by
    intro ls a w hsz hr r
    have hl := hall ls hsz hr
    have hs : sg ops E s0 ls = foldI ops E (List.range ops.size) s0 := by
      unfold sg
      rw [List.filter_eq_self.2 fun i hi => hl i (List.mem_range.1 hi)]
    rw [hs] at r
    exact hend a w (hfree _ _ _ _ _ r fun b hb => ⟨hb.1, fun i hi _ => hb.2 i hi⟩)
  intro fuel
  induction fuel with
  | zero =>
    intro ls a w hsz hclo hf r
    have hr : Region.ready .any ops ls = [] := by
      apply List.eq_nil_iff_forall_not_mem.2
      intro i hi
      rw [mem_ready] at hi
      obtain ⟨h0, o, ho, _⟩ := hi
      have hlt := (Array.getElem?_eq_some_iff.1 ho).1
      have : i ∈ (List.range ops.size).filter (fun i => !listedIn ls i) := List.mem_filter.2 ⟨List.mem_range.2 hlt, by simp [listedIn, (listed_false hsz hlt).1 h0]⟩
      have := List.length_pos_of_mem this
      omega
    exact ⟨hr, hfin ls a w hsz hr r⟩
  | succ fuel ih =>
    intro ls a w hsz hclo hf r
    refine ⟨fun hr => hfin ls a w hsz hr r, fun i hi => ?_⟩
    rw [mem_ready] at hi
    obtain ⟨h0, o, ho, hpre⟩ := hi
    have hlt := (Array.getElem?_eq_some_iff.1 ho).1
    have hnl : listedIn ls i = false := (listed_false hsz hlt).1 h0
    have hbef : ∀ j, j < i → cf j i = true → listedIn ls j = true := by
      intro j hj hc
      have hre := hok.ord j i hj hlt hc
      cases hn : ops.size with
      | zero => omega
      | succ m =>
        rw [hn] at hre
        simp only [reach, ho, Array.any_eq_true', Bool.and_eq_true, Bool.or_eq_true, beq_iff_eq] at hre
        rcases hre with ⟨e, he, h1, hb⟩ | ⟨e, he, ⟨_, hb⟩, h1⟩
        · have hon := hpre e he hb
          rw [← h1]; exact hon
        · exact hclo.reach _ _ _ h1 (hpre e he hb)
    have haft : ∀ j, i < j → j < ops.size → listedIn ls j = true → cf i j = false := by
      intro j hj hjn hl
      cases hc : cf i j with
      | false => rfl
      | true =>
        have := hclo.reach _ _ _ (hok.ord i j hj hjn hc) hl
        have h2 : ls.getD i false = false := hnl
        rw [this] at h2
        cases h2
    have hsplit : sg ops E s0 ls = foldI ops E ((List.range' (i + 1) (ops.size - i - 1)).filter (listedIn ls)) (foldI ops E ((List.range i).filter (listedIn ls)) s0) := by
      unfold sg foldI
      rw [range_split hlt, List.filter_append, List.filter_cons_of_neg (by simp [hnl]), List.foldl_append]
    have hother : ∀ j, j ≠ i → listedIn (ls.setIfInBounds i true) j = listedIn ls j := fun j hj => getD_set_ne false (Ne.symm hj)
    have hself : listedIn (ls.setIfInBounds i true) i = true := by simp [listedIn, Array.getD, hsz, hlt]
    have hsplit' : sg ops E s0 (ls.setIfInBounds i true) = applyI ops E (sg ops E s0 ls) i := by
      rw [hsplit]
      unfold sg
      rw [range_split hlt, List.filter_append, List.filter_cons_of_pos (by exact hself)]
      have e1 : (List.range i).filter (listedIn (ls.setIfInBounds i true)) = (List.range i).filter (listedIn ls) :=
        List.filter_congr fun j hj => hother j (by have := List.mem_range.1 hj; omega)
      have e2 : (List.range' (i + 1) (ops.size - i - 1)).filter (listedIn (ls.setIfInBounds i true)) = (List.range' (i + 1) (ops.size - i - 1)).filter (listedIn ls) :=
        List.filter_congr fun j hj => hother j (by have := List.mem_range'_1.1 hj; omega)
      rw [e1, e2]
      have hcomm : ∀ (l : List Nat) (s : FS), (∀ j ∈ l, i < j ∧ j < ops.size ∧ listedIn ls j = true) → foldI ops E l (applyI ops E s i) = applyI ops E (foldI ops E l s) i := by
        intro l
        induction l with
        | nil => intro s _; rfl
        | cons j l ihl =>
          intro s hl
          obtain ⟨hij, hjn, hjl⟩ := hl j List.mem_cons_self
          have hc := haft j hij hjn hjl
          obtain ⟨hap, hb1, _⟩ := hok.apart i j _ _ hij ho (Array.getElem?_eq_getElem hjn) hc
          have hd := (Oper.apart_spec hap).2.1
          have hsw := applyI_comm (ops := ops) (E := E) (i := i) (j := j) s (fun t ht => by
              simp only [dstI, ho, Option.bind_some] at ht
              simp only [dstI, Array.getElem?_eq_getElem hjn, Option.bind_some]
              exact hd t ht)
            (fun b hb => (hb1 b hb).1)
          have := ihl (applyI ops E s j) fun j' hj' => hl j' (List.mem_cons_of_mem _ hj')
          simp only [foldI, List.foldl_cons] at this ⊢
          rw [hsw]
          exact this
      have := hcomm ((List.range' (i + 1) (ops.size - i - 1)).filter (listedIn ls)) (foldI ops E ((List.range i).filter (listedIn ls)) s0) fun j hj => by
        obtain ⟨h1, h2⟩ := List.mem_filter.1 hj
        have := List.mem_range'_1.1 h1
        exact ⟨by omega, by omega, h2⟩
      rw [← this]
      simp only [foldI, List.foldl_append, List.foldl_cons]
    have henv : ∀ t ∈ o.looksAt ops, (sg ops E s0 ls).env t = (foldI ops E (List.range i) s0).env t := by
      intro t ht
      rw [hsplit, foldI_env, foldI_env, foldI_env]
      rw [foldl_id _ _ _ fun j hj y => ?_, foldl_skip _ _ _ _ fun j hj hp y => ?_]
      · refine if_neg fun hd => ?_
        have hjr := List.mem_range.1 hj
        have hjn : j < ops.size := by omega
        have hc : cf j i = true := by
          cases hc : cf j i with
          | true => rfl
          | false =>
            obtain ⟨hap, _⟩ := hok.apart j i _ _ hjr (Array.getElem?_eq_getElem hjn) ho hc
            simp only [dstI, Array.getElem?_eq_getElem hjn, Option.bind_some] at hd
            exact absurd ht ((Oper.apart_spec hap).1 t hd)
        rw [hbef j hjr hc] at hp
        cases hp
      · refine if_neg fun hd => ?_
        obtain ⟨h1, h2⟩ := List.mem_filter.1 hj
        have hjr := List.mem_range'_1.1 h1
        have hjn : j < ops.size := by omega
        obtain ⟨hap, _⟩ := hok.apart i j _ _ (by omega) ho (Array.getElem?_eq_getElem hjn) (haft j (by omega) hjn h2)
        simp only [dstI, Array.getElem?_eq_getElem hjn, Option.bind_some] at hd
        exact absurd ht ((Oper.apart_spec hap).2.2 t hd)
    have hhp : ∀ b, (effI E i).rd b → (sg ops E s0 ls).hp b = (foldI ops E (List.range i) s0).hp b := by
      intro b hb
      rw [hsplit, foldI_hp, foldI_hp, foldI_hp]
      rw [foldl_id _ _ _ fun j hj y => ?_, foldl_skip _ _ _ _ fun j hj hp y => ?_]
      · have hjr := List.mem_range.1 hj
        have hjn : j < ops.size := by omega
        have hc : cf j i = false := by
          cases hc : cf j i with
          | false => rfl
          | true => rw [hbef j hjr hc] at hp; cases hp
        obtain ⟨_, hb1, _⟩ := hok.apart j i _ _ hjr (Array.getElem?_eq_getElem hjn) ho hc
        cases hu : (effI E j).up b with
        | none => exact upAt_skip hu y
        | some z => exact absurd hb (hb1 b (by rw [hu]; simp)).2
      · obtain ⟨h1, h2⟩ := List.mem_filter.1 hj
        have hjr := List.mem_range'_1.1 h1
        have hjn : j < ops.size := by omega
        obtain ⟨_, _, hb1⟩ := hok.apart i j _ _ (by omega) ho (Array.getElem?_eq_getElem hjn) (haft j (by omega) hjn h2)
        exact upAt_skip (hb1 b hb) y
    have hmem : o ∈ ops.toList := by
      have := Array.mem_of_getElem? ho
      simpa using this
    unfold wpOpIn
    rw [ho]
    refine hsound i o ho (frS fr0 ops E ls) (sg ops E s0 ls) a w r (fun b hb => ⟨hnm i hlt b hb, fun j hj hjl hjb => ?_⟩) (opsIn_spec hin o hmem) henv hhp _ Q ?_
    · have hji : j ≠ i := by
        rintro rfl
        have h2 : ls.getD j false = false := hnl
        rw [hjl] at h2; cases h2
      exact hok.names j i hj hlt hji b hjb hb
    intro a' w' r'
    have hap : (sg ops E s0 ls).app o.dst (effI E i) = sg ops E s0 (ls.setIfInBounds i true) := by
      rw [hsplit']
      simp only [applyI, dstI, ho, Option.bind_some]
    rw [hap] at r'
    refine ih (ls.setIfInBounds i true) a' w' (by simp [hsz]) ?_ ?_ (hfree _ _ _ _ _ r' fun b hb => ?_)
    · intro j o' hj ho' e he hb
      by_cases hji : j = i
      · subst hji
        obtain rfl : o = o' := by rw [ho] at ho'; exact Option.some.inj ho'
        exact getD_set_true (hpre e he hb)
      · rw [getD_set_ne false (Ne.symm hji)] at hj
        exact getD_set_true (hclo j o' hj ho' e he hb)
    · have hlen : ((List.range ops.size).filter (fun j => !listedIn ls j)).length = ((List.range ops.size).filter (fun j => !listedIn (ls.setIfInBounds i true) j)).length + 1 := by
        rw [range_split hlt, List.filter_append, List.filter_append, List.filter_cons_of_pos (by simp [hnl]), List.filter_cons_of_neg (by simp [hself])]
        have e1 : (List.range i).filter (fun j => !listedIn (ls.setIfInBounds i true) j) = (List.range i).filter (fun j => !listedIn ls j) :=
          List.filter_congr fun j hj => by rw [hother j (by have := List.mem_range.1 hj; omega)]
        have e2 : (List.range' (i + 1) (ops.size - i - 1)).filter (fun j => !listedIn (ls.setIfInBounds i true) j) = (List.range' (i + 1) (ops.size - i - 1)).filter (fun j => !listedIn ls j) :=
          List.filter_congr fun j hj => by rw [hother j (by have := List.mem_range'_1.1 hj; omega)]
        rw [e1, e2]
        simp only [List.length_append, List.length_cons]
        omega
      omega
    · refine ⟨⟨hb.1, fun j hj hjl => hb.2 j hj (getD_set_true hjl)⟩, hb.2 i hlt hself⟩
end
end Go.Ex
