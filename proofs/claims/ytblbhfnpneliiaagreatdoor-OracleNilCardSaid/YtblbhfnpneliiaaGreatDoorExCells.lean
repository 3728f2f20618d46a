/- The exact evaluator, part 21: arguments that are rows of cells, whatever these hold. -/
import Derived.Test.YtblbhfnpneliiaaGreatDoorExProg
namespace Go.Ex
open Go.RowKit
open Go.Proofs

/-- What a cell may be. -/
inductive CK where
  | int (k : IntKind)
  | str
  | bool
  | slc
def intC : Value → Int
  | .int _ n => n
  | _ => 0
def strC : Value → ByteArray
  | .string s => s
  | _ => ByteArray.empty
def boolC : Value → Bool
  | .bool b => b
  | _ => false
def adrC : Value → Option Addr
  | .slice a _ _ => a
  | _ => none
def lenC : Value → Nat
  | .slice _ l _ => l
  | _ => 0
def capC : Value → Nat
  | .slice _ _ c => c
  | _ => 0
def cellK : CK → Value → Value
  | .int k, v => .int k (intC v)
  | .str, v => .string (strC v)
  | .bool, v => .bool (boolC v)
  | .slc, v => .slice (adrC v) (lenC v) (capC v)
def mkV (c : Nat → Value) : List CK → Nat → List Value
  | [], _ => []
  | k :: l, i => cellK k (c i) :: mkV c l (Nat.succ i)
def kindOf (P : Program) (u : TypeId) : Option CK := match P.underlying u with
  | some (.int k) => some (.int k)
  | some .string => some .str
  | some .bool => some .bool
  | some (.slice _) => some .slc
  | _ => none
theorem cell_kind {P : Program} {w : World} {r : Reach} {base : Nat} {u : TypeId} {v : Value} {k : CK} (hk : kindOf P u = some k) (h : Cell.okWide P w r base u v) : v = cellK k v := by
  have hv : Value.okWide P w r base u v ∨ True := .inr trivial
  unfold kindOf at hk
  split at hk
  · rename_i k' hu
    simp only [Option.some.injEq] at hk
    subst hk
    have h' : Value.okWide P w r base u v := by unfold Value.okWide; rw [hu]; exact h
    obtain ⟨n, rfl⟩ := WideShapes.okWide_int hu h'
    rfl
  · rename_i hu
    simp only [Option.some.injEq] at hk
    subst hk
    have h' : Value.okWide P w r base u v := by unfold Value.okWide; rw [hu]; exact h
    obtain ⟨n, rfl⟩ := WideShapes.okWide_string hu h'
    rfl
  · rename_i hu
    simp only [Option.some.injEq] at hk
    subst hk
    have h' : Value.okWide P w r base u v := by unfold Value.okWide; rw [hu]; exact h
    obtain ⟨n, rfl⟩ := WideShapes.okWide_bool hu h'
    rfl
  · rename_i e hu
    simp only [Option.some.injEq] at hk
    subst hk
    have h' : Value.okWide P w r base u v := by unfold Value.okWide; rw [hu]; exact h
    obtain ⟨a, l, c, rfl⟩ := WideShapes.okWide_slice hu h'
    rfl
  · cases hk
def allK (P : Program) : List TypeId → List CK → Prop
  | [], [] => True
  | u :: us, k :: ks => kindOf P u = some k ∧ allK P us ks
  | _, _ => False
def ckB : CK → CK → Bool
  | .int j, .int k => kEq j k
  | .str, .str => true
  | .bool, .bool => true
  | .slc, .slc => true
  | _, _ => false
theorem ckB_eq {j k : CK} (h : ckB j k = true) : j = k := by
  cases j <;> cases k <;> first | rfl | (simp only [ckB, kEq_eq, decide_eq_true_eq] at h; rw [h]) | cases h
def allKB (P : Program) : List TypeId → List CK → Bool
  | [], [] => true
  | u :: us, k :: ks => match kindOf P u with
    | some j => bif ckB j k then allKB P us ks else false
    | none => false
  | _, _ => false
theorem allK_of {P : Program} : ∀ {ts : List TypeId} {ks : List CK}, allKB P ts ks = true → allK P ts ks
  | [], [], _ => trivial
  | [], _ :: _, h => by cases h
  | _ :: _, [], h => by cases h
  | u :: us, k :: ks, h => by
    simp only [allKB] at h
    split at h
    · rename_i j hj
      cases hc : ckB j k with
      | false => rw [hc] at h; cases h
      | true =>
        rw [hc] at h
        exact ⟨by rw [hj, ckB_eq hc], allK_of h⟩
    · cases h
theorem row_go {P : Program} {w : World} {r : Reach} {base : Nat} : ∀ (ts : List TypeId) (ks : List CK) (l : List Value) (i : Nat) (c : Nat → Value), allK P ts ks → l.length = ts.length → (∀ j, j < l.length → c (i + j) = l.getD j undef) → (∀ (j : Nat) v, l[j]? = some v → ∃ u, ts[j]? = some u ∧ Cell.okWide P w r base u v) → l = mkV c ks i
  | [], [], [], _, _, _, _, _, _ => rfl
  | [], _ :: _, _, _, _, hk, _, _, _ => hk.elim
  | _ :: _, [], _, _, _, hk, _, _, _ => hk.elim
  | [], [], _ :: _, _, _, _, hl, _, _ => by simp at hl
  | _ :: _, _ :: _, [], _, _, _, hl, _, _ => by simp at hl
  | u :: us, k :: ks, v :: vs, i, c, hk, hl, hc, h => by
    obtain ⟨u', h1, h2⟩ := h 0 v rfl
    simp only [List.getElem?_cons_zero, Option.some.injEq] at h1
    subst h1
    have h0 := hc 0 (by simp)
    simp only [Nat.add_zero, List.getD_cons_zero] at h0
    rw [mkV, h0, ← cell_kind hk.1 h2]
    congr 1
    refine row_go (P := P) (w := w) (r := r) (base := base) us ks vs (Nat.succ i) c hk.2 (by simpa using hl) (fun j hj => ?_) fun j x hx => ?_
    · have := hc (j + 1) (by simpa using hj)
      rw [show Nat.succ i + j = i + (j + 1) by omega, this]
      simp
    · have := h (j + 1) x (by simpa using hx)
      simpa using this
/-- A struct's cells. -/
theorem struct_cells {P : Program} {w : World} {r : Reach} {base : Nat} {t : TypeId} {fs : Array Field} {v : Value} {ts : List TypeId} {ks : List CK} (ht : P.underlying t = some (.struct fs)) (hts : P.cellTypes P.depth t = some ts) (hk : allKB P ts ks = true) (hn : P.cellsOf t = ts.length)
    (h : Value.okWide P w r base t v) : ∃ c : Nat → Value, v = .agg (mkV c ks 0).toArray := by
  unfold Value.okWide at h
  rw [ht] at h
  obtain ⟨cs, rfl, hs, ts', h1, h2, h3⟩ := h
  rw [hts] at h1
  simp only [Option.some.injEq] at h1
  subst h1
  refine ⟨fun i => cs.toList.getD i undef, ?_⟩
  have hl : cs.toList.length = ts.length := by simp; omega
  have := row_go (P := P) (w := w) (r := r) (base := base) ts ks cs.toList 0 (fun i => cs.toList.getD i undef) (allK_of hk) hl (fun j hj => by simp) (fun j x hx => by
    have hx' : cs[j]? = some x := by simpa using hx
    obtain ⟨u, g1, g2⟩ := h3 j x hx'
    have hj : j < cs.size := (Array.getElem?_eq_some_iff.1 hx').1
    rw [Nat.mod_eq_of_lt (by omega)] at g1
    exact ⟨u, g1, g2⟩)
  rw [← this]
end Go.Ex
