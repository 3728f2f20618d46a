/- What a row's arguments read as, as abstract values. -/
import Derived.Test.YtjopicjammmbjaaGreatDoorSpMut
import Derived.ChangeArms
import Derived.DataReads
set_option maxHeartbeats 4000000
set_option maxRecDepth 20000
set_option linter.unusedVariables false
set_option linter.unusedSimpArgs false
namespace Go.Ab
open Go.RowKit
/-- Cells that represent, all blocks there being such as stay. -/
abbrev RR (w : World) (ds : List D) (cs : List Value) : Prop := RepL w (fun k => k < w.heap.size) (fun _ => none) ds cs
section
variable {H : Type} {enc : TypeId × Value → H} {P : Program} {w : World} {sp : Nat → Bool} {held : Bool} {n : Nat} {t : TypeId} {cs : List Value} {x : DataW H × List MemPlace}
theorem RR.one {d : D} {v : Value} (h : Rep w (fun k => k < w.heap.size) (fun _ => none) d v) : RR w [d] [v] := by
  refine ⟨rfl, fun i hi => ?_⟩
  have e : i = 0 := by simp at hi; omega
  subst e; exact h
theorem RR.nil : RR w [] [] := ⟨rfl, fun i hi => by simp at hi⟩
theorem RR.step {ds es : List D} {off k : Nat} (h : RR w ds ((cs.drop off).take k)) (g : RR w es (cs.drop (off + k))) : RR w (ds ++ es) (cs.drop off) := by
  have e : cs.drop off = (cs.drop off).take k ++ cs.drop (off + k) := by rw [← List.drop_drop]; exact (List.take_append_drop k _).symm
  rw [e]; exact RepL.append h g
theorem RR.fin {off : Nat} (h : cs.length = off) : RR w [] (cs.drop off) := by
  rw [List.drop_eq_nil_of_le (by omega)]; exact RR.nil
theorem rr_int {k : IntKind} (ht : P.underlying t = some (.int k)) (h : DataW.trod enc P w 0 sp held n t cs = some x) : ∃ m, RR w [.val (.int k m)] cs := by
  obtain ⟨m, rfl, _, hw⟩ := DataW.trod_int ht h
  refine ⟨m, RR.one (.val _ ?_)⟩
  simp only [Lit.wf, Bool.and_eq_true, decide_eq_true_eq] at hw
  cases k <;> simpa [okP, imin, imax, IntKind.min, IntKind.max, IntKind.signed, IntKind.bits] using hw
theorem rr_bool (ht : P.underlying t = some .bool) (h : DataW.trod enc P w 0 sp held n t cs = some x) : ∃ b, RR w [.val (.bool b)] cs := by
  obtain ⟨b, rfl, _⟩ := DataW.trod_bool ht h
  exact ⟨b, RR.one (.val _ trivial)⟩
theorem rr_str (ht : P.underlying t = some .string) (h : DataW.trod enc P w 0 sp held n t cs = some x) : ∃ s, RR w [.val (.string s)] cs := by
  obtain ⟨s, rfl, _, hw⟩ := DataW.trod_string ht h
  exact ⟨s, RR.one (.val _ hw)⟩
theorem choose_list {α : Type} {p : Nat → α → Prop} : ∀ n, (∀ i, i < n → ∃ x, p i x) → ∃ l : List α, l.length = n ∧ ∀ i x, l[i]? = some x → p i x
  | 0, _ => ⟨[], rfl, fun i x h => by simp at h⟩
  | n + 1, h => by
    obtain ⟨l, h1, h2⟩ := choose_list n fun i hi => h i (by omega)
    obtain ⟨x, hx⟩ := h n (by omega)
    refine ⟨l ++ [x], by simp [h1], fun i y hy => ?_⟩
    by_cases hi : i < n
    · rw [List.getElem?_append_left (by omega)] at hy; exact h2 i y hy
    · rw [List.getElem?_append_right (by omega)] at hy
      have : i - l.length = 0 := by
        rcases Nat.eq_zero_or_pos (i - l.length) with h | h
        · exact h
        · rw [List.getElem?_eq_none (by simp; omega)] at hy; cases hy
      rw [this] at hy
      simp at hy
      subst hy
      have : i = n := by omega
      subst this; exact hx
theorem rr_slice {α : Type} (f : α → List D) {e : TypeId} {sz : Nat} (ht : P.underlying t = some (.slice e)) (hsz : P.cellsOf e = sz) (hpos : 0 < sz) (hlen : ∀ x, (f x).length = sz)
    (hel : ∀ m cs x, m < n → DataW.trod enc P w 0 sp held m e cs = some x → ∃ y, RR w (f y) cs) (h : DataW.trod enc P w 0 sp held n t cs = some x) : ∃ l : List α, RR w [.slice (l.map f) false] cs := by
  rcases DataW.trod_slice ht h with ⟨rfl, _⟩ | ⟨a, len, cap, elems, rest, m, rfl, rfl, _, _, hlc, hcap, hl, hx, _, _⟩
  · exact ⟨[], RR.one (.slice [] false none 0 0 0 0 (fun _ _ => .nilFunc) (fun h => absurd h (by simp)) (Nat.le_refl _) (fun _ => rfl) (Nat.zero_le _) (fun i h => absurd h (by simp)) (fun i j h => absurd h (by simp)) (fun i j h => absurd h (by simp)))⟩
  · have one : ∀ i, i < len → ∃ y : α, ∃ ci, w.cells? 0 (a.add (i * sz)) sz = some ci ∧ RR w (f y) ci := by
      intro i hi
      have h1 := hx i hi
      rw [List.getElem?_eq_getElem (by omega), Option.bind_eq_some_iff] at h1
      obtain ⟨ci, h2, h3⟩ := h1
      rw [hsz] at h2
      obtain ⟨y, hy⟩ := hel m ci _ (by omega) h3
      exact ⟨y, ci, h2, hy⟩
    obtain ⟨l, hll, hl2⟩ := choose_list len one
    have cell : ∀ i j y, l[i]? = some y → j < sz → ∃ v, w.cell? ⟨a.block, a.off + (i * sz + j), none⟩ = some v ∧ Rep w (fun k => k < w.heap.size) (fun _ => none) (nd (f y) j) v := by
      intro i j y hy hj
      obtain ⟨ci, h1, h2⟩ := hl2 i y hy
      obtain ⟨_, h4, h5⟩ := World.cells?_some h1
      have h6 := h5 j hj
      have hlt : j < ci.length := by omega
      rw [List.getElem?_eq_getElem hlt] at h6
      refine ⟨ci[j], ?_, ?_⟩
      · rw [← h6]
        have e1 : ((a.add (i * sz)).add j).block = a.block := by unfold Addr.add; split <;> (try split) <;> rfl
        have e2 : ((a.add (i * sz)).add j).off = a.off + (i * sz + j) := by unfold Addr.add; split <;> (try split) <;> simp_all <;> omega
        have e3 : ((a.add (i * sz)).add j).spot = none := by
          cases hs : ((a.add (i * sz)).add j).spot with
          | none => rfl
          | some q =>
            exfalso
            simp only [World.cell?, hs, Option.isSome_some, if_true] at h6
            split at h6 <;> cases h6
        generalize (a.add (i * sz)).add j = A at e1 e2 e3
        obtain ⟨b, o, s⟩ := A
        simp only at e1 e2 e3
        subst e1 e2 e3
        rfl
      · have := h2.2 j (by rw [hlen]; exact hj)
        have e : nv ci j = ci[j] := by simp [nv, List.getD_eq_getElem?_getD, hlt]
        rw [e] at this; exact this
    have get : ∀ i, i < len → ∃ y, l[i]? = some y := fun i hi => ⟨l[i]'(by omega), List.getElem?_eq_getElem (by omega)⟩
    have hnr : ∀ i y, l[i]? = some y → nr (l.map f) i = f y := fun i y hy => by simp [nr, List.getD_eq_getElem?_getD, hy]
    refine ⟨l, RR.one ?_⟩
    have hA : 0 < len → (some a = some (⟨a.block, a.off, none⟩ : Addr)) ∧ a.block < w.heap.size := by
      intro h0
      obtain ⟨y, hy⟩ := get 0 h0
      obtain ⟨ci, h1, h2⟩ := hl2 0 y hy
      obtain ⟨_, h4, h5⟩ := World.cells?_some h1
      have h6 := h5 0 hpos
      rw [List.getElem?_eq_getElem (by omega)] at h6
      have e0 : (a.add (0 * sz)).add 0 = a := by simp [Addr.add]
      rw [e0] at h6
      constructor
      · cases hs : a.spot with
        | none => obtain ⟨b, o, s⟩ := a; simp only at hs; subst hs; rfl
        | some q =>
          exfalso
          simp only [World.cell?, hs, Option.isSome_some, if_true] at h6
          split at h6 <;> cases h6
      · by_cases hb : a.block < w.heap.size
        · exact hb
        · exfalso
          have : w.heap[a.block]? = none := Array.getElem?_eq_none (by omega)
          simp [World.cell?, this] at h6
    have := Rep.slice (w := w) (I := fun k => k < w.heap.size) (mu := fun _ => none) (l.map f) false (some a) a.block a.off sz cap (fun i j => (w.cell? ⟨a.block, a.off + (i * sz + j), none⟩).getD undef)
      (fun h0 => by rw [List.length_map, hll] at h0; exact hA h0) (by rw [List.length_map, hll]; exact hlc) (fun h => by cases h) hcap
      (fun i hi => by rw [List.length_map, hll] at hi; obtain ⟨y, hy⟩ := get i hi; rw [hnr i y hy]; exact hlen y)
      (fun i j hi hj => by rw [List.length_map, hll] at hi; obtain ⟨y, hy⟩ := get i hi; obtain ⟨v, h1, _⟩ := cell i j y hy hj; rw [h1]; rfl)
      (fun i j hi hj => by rw [List.length_map, hll] at hi; obtain ⟨y, hy⟩ := get i hi; obtain ⟨v, h1, h2⟩ := cell i j y hy hj; rw [hnr i y hy, h1]; exact h2)
    rw [List.length_map, hll] at this
    exact this
theorem rr_field {fs : Array Field} (ht : P.underlying t = some (.struct fs)) (h : DataW.trod enc P w 0 sp held n t cs = some x) : ∃ m, n = m + 1 ∧ cs.length = P.cellsOf t ∧ ∀ (i : Nat) (f : Field), fs[i]? = some f → ∃ y, DataW.trod enc P w 0 sp held m f.type ((cs.drop f.offset).take (P.cellsOf f.type)) = some y := by
  obtain ⟨xs, m, rfl, _, hl, hxl, hf⟩ := DataW.trod_struct ht h
  refine ⟨m, rfl, hl, fun i f hi => ?_⟩
  have hlt := (Array.getElem?_eq_some_iff.1 hi).1
  exact ⟨xs[i]'(by omega), by rw [hf i f hi]; exact List.getElem?_eq_getElem (by omega)⟩
end
end Go.Ab
