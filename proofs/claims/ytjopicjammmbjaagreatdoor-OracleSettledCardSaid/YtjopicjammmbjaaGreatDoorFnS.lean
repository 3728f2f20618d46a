/- Functions: entries alike; a settled world. -/
import Derived.Test.YtjopicjammmbjaaGreatDoorSpMut
set_option maxHeartbeats 4000000
set_option maxRecDepth 20000
set_option linter.unusedVariables false
set_option linter.unusedSimpArgs false
namespace Go.Ab
open Go.Proofs
noncomputable def sameM (p q : GE) : Bool := p.1.toList == q.1.toList && cmpG p.2 q.2 == 0
noncomputable def sameEs : List GE → List GE → Bool
  | [], [] => true
  | p :: a, q :: b => sameM p q && sameEs a b
  | _, _ => false
theorem sameEs_length : ∀ {a b : List GE}, sameEs a b = true → a.length = b.length
  | [], [], _ => rfl
  | p :: a, q :: b, h => by simp only [sameEs, Bool.and_eq_true] at h; simp [sameEs_length h.2]
  | [], _ :: _, h => by simp [sameEs] at h
  | _ :: _, [], h => by simp [sameEs] at h
theorem sameEs_at : ∀ {a b : List GE}, sameEs a b = true → ∀ i, i < a.length → sameM (a.getD i zM) (b.getD i zM) = true
  | [], [], _, i, h => by simp at h
  | p :: a, q :: b, h, 0, _ => by simp only [sameEs, Bool.and_eq_true] at h; simpa using h.1
  | p :: a, q :: b, h, i + 1, hi => by simp only [sameEs, Bool.and_eq_true] at h; simpa using sameEs_at h.2 i (by simpa using hi)
  | [], _ :: _, h, _, _ => by simp [sameEs] at h
  | _ :: _, [], h, _, _ => by simp [sameEs] at h
theorem sameEs_of : ∀ {a b : List GE}, a.length = b.length → (∀ i, i < a.length → sameM (a.getD i zM) (b.getD i zM) = true) → sameEs a b = true
  | [], [], _, _ => rfl
  | p :: a, q :: b, h, k => by
    simp only [sameEs, Bool.and_eq_true]
    exact ⟨by simpa using k 0 (by simp), sameEs_of (by simpa using h) fun i hi => by simpa using k (i + 1) (by simpa using hi)⟩
  | [], _ :: _, h, _ => by simp at h
  | _ :: _, [], h, _ => by simp at h
theorem sameEs_false_len {a b : List GE} (h : a.length ≠ b.length) : sameEs a b = false := by
  cases hs : sameEs a b with
  | false => rfl
  | true => exact absurd (sameEs_length hs) h
theorem sameEs_false_at {a b : List GE} {i : Nat} (hi : i < a.length) (h : sameM (a.getD i zM) (b.getD i zM) = false) : sameEs a b = false := by
  cases hs : sameEs a b with
  | false => rfl
  | true => have := sameEs_at hs i hi; rw [h] at this; cases this

theorem c_SameEntries (a b : List GE) : PCall Tryz.prog 13 [.slice (a.map encM) false, .slice (b.map encM) false] (.val (.bool (sameEs a b))) := by
  refine PCall.of_awp Tryz.func13 rfl Tryz.ntmps13 (by kernel_rfl) (by simp) (congrArg Array.toList Tryz.results13) (AWp.sz fun H Hb => VC.sound mixed (by kernel_rfl) ?_)
  have h0 := H 0; simp (maxSteps := 2000000) only [push_cast, ne_eq, id_eq, Bool.or_true, Bool.or_false, Bool.true_or, Bool.false_or, beq_self_eq_true, Int.toNat_natCast, Nat.reduceAdd, Nat.reduceSub, Nat.reduceMul, Nat.reduceBEq, Nat.reduceBNe, Nat.reduceLT, Nat.reduceLeDiff, Nat.reduceEqDiff, Int.reduceNeg, Int.reduceToNat, Int.reduceLT, Int.reduceLE] at h0
  have h1 := H 1; simp (maxSteps := 2000000) only [push_cast, ne_eq, id_eq, Bool.or_true, Bool.or_false, Bool.true_or, Bool.false_or, beq_self_eq_true, Int.toNat_natCast, Nat.reduceAdd, Nat.reduceSub, Nat.reduceMul, Nat.reduceBEq, Nat.reduceBNe, Nat.reduceLT, Nat.reduceLeDiff, Nat.reduceEqDiff, Int.reduceNeg, Int.reduceToNat, Int.reduceLT, Int.reduceLE] at h1
  (try simp (maxSteps := 2000000) only [push_cast, ne_eq, id_eq, Bool.or_true, Bool.or_false, Bool.true_or, Bool.false_or, beq_self_eq_true, Int.toNat_natCast, Nat.reduceAdd, Nat.reduceSub, Nat.reduceMul, Nat.reduceBEq, Nat.reduceBNe, Nat.reduceLT, Nat.reduceLeDiff, Nat.reduceEqDiff, Int.reduceNeg, Int.reduceToNat, Int.reduceLT, Int.reduceLE]) <;> repeat' first | (with_reducible refine bsplit_intro (fun _ => ?_) (fun _ => ?_)) <;> try simp (maxSteps := 2000000) only [push_cast, ne_eq, id_eq, Bool.or_true, Bool.or_false, Bool.true_or, Bool.false_or, beq_self_eq_true, Int.toNat_natCast, Nat.reduceAdd, Nat.reduceSub, Nat.reduceMul, Nat.reduceBEq, Nat.reduceBNe, Nat.reduceLT, Nat.reduceLeDiff, Nat.reduceEqDiff, Int.reduceNeg, Int.reduceToNat, Int.reduceLT, Int.reduceLE] | (refine ordB_intro2 (by simp (maxSteps := 2000000) only [push_cast, ne_eq, id_eq, Bool.or_true, Bool.or_false, Bool.true_or, Bool.false_or, beq_self_eq_true, Int.toNat_natCast, Nat.reduceAdd, Nat.reduceSub, Nat.reduceMul, Nat.reduceBEq, Nat.reduceBNe, Nat.reduceLT, Nat.reduceLeDiff, Nat.reduceEqDiff, Int.reduceNeg, Int.reduceToNat, Int.reduceLT, Int.reduceLE, skOf]; rfl) ?_; kernel_rfl) | with_reducible refine And.intro ?_ ?_
  · rename_i h
    have h := bne_iff_ne.1 h
    rw [sameEs_false_len (fun e => h (by rw [e]))]
  · rename_i hl
    have hl : a.length = b.length := by have := of_bne_false hl; omega
    refine AWp.loopI mixed (by kernel_rfl) (ι := Nat) (fun i => i ≤ a.length ∧ ∀ j, j < i → sameM (a.getD j zM) (b.getD j zM) = true) (fun i => ⟨[(5, .val (.int .i64 i)), (0, .slice (a.map encM) false), (1, .slice (b.map encM) false)], [], 0⟩) (fun i => a.length - i) 0 (by simp) ?_ fun i hi => ?_
    · refine Weak.sub id ?_ ?_ ?_ ?_ ?_ <;> simp (maxSteps := 2000000) only [push_cast, ne_eq, id_eq, Bool.or_true, Bool.or_false, Bool.true_or, Bool.false_or, beq_self_eq_true, Int.toNat_natCast, Nat.reduceAdd, Nat.reduceSub, Nat.reduceMul, Nat.reduceBEq, Nat.reduceBNe, Nat.reduceLT, Nat.reduceLeDiff, Nat.reduceEqDiff, Int.reduceNeg, Int.reduceToNat, Int.reduceLT, Int.reduceLE]
    · obtain ⟨h2, h3⟩ := hi
      simp (maxSteps := 2000000) only [push_cast, ne_eq, id_eq, Bool.or_true, Bool.or_false, Bool.true_or, Bool.false_or, beq_self_eq_true, Int.toNat_natCast, Nat.reduceAdd, Nat.reduceSub, Nat.reduceMul, Nat.reduceBEq, Nat.reduceBNe, Nat.reduceLT, Nat.reduceLeDiff, Nat.reduceEqDiff, Int.reduceNeg, Int.reduceToNat, Int.reduceLT, Int.reduceLE]
      refine bsplit_intro (fun ha => ?_) (fun ha => ?_)
      · have ha' : i < a.length := by simpa using ha
        have hb' : i < b.length := by omega
        have ea := nr_encM ha'
        have eb := nr_encM hb'
        (try simp (maxSteps := 2000000) only [push_cast, ne_eq, id_eq, Bool.or_true, Bool.or_false, Bool.true_or, Bool.false_or, beq_self_eq_true, Int.toNat_natCast, Nat.reduceAdd, Nat.reduceSub, Nat.reduceMul, Nat.reduceBEq, Nat.reduceBNe, Nat.reduceLT, Nat.reduceLeDiff, Nat.reduceEqDiff, Int.reduceNeg, Int.reduceToNat, Int.reduceLT, Int.reduceLE, ea, eb, encM_eq]) <;> repeat' first | (with_reducible refine bsplit_intro (fun _ => ?_) (fun _ => ?_)) <;> try simp (maxSteps := 2000000) only [push_cast, ne_eq, id_eq, Bool.or_true, Bool.or_false, Bool.true_or, Bool.false_or, beq_self_eq_true, Int.toNat_natCast, Nat.reduceAdd, Nat.reduceSub, Nat.reduceMul, Nat.reduceBEq, Nat.reduceBNe, Nat.reduceLT, Nat.reduceLeDiff, Nat.reduceEqDiff, Int.reduceNeg, Int.reduceToNat, Int.reduceLT, Int.reduceLE, ea, eb, encM_eq] | (refine ordB_intro2 (by simp (maxSteps := 2000000) only [push_cast, ne_eq, id_eq, Bool.or_true, Bool.or_false, Bool.true_or, Bool.false_or, beq_self_eq_true, Int.toNat_natCast, Nat.reduceAdd, Nat.reduceSub, Nat.reduceMul, Nat.reduceBEq, Nat.reduceBNe, Nat.reduceLT, Nat.reduceLeDiff, Nat.reduceEqDiff, Int.reduceNeg, Int.reduceToNat, Int.reduceLT, Int.reduceLE, skOf, ea, eb, encM_eq]; rfl) ?_; kernel_rfl) | with_reducible refine And.intro ?_ ?_ | (with_reducible show RunXS _ _ _ _ _ _ _ _; refine RunXS.call (by simp (maxSteps := 2000000) only [push_cast, ne_eq, id_eq, Bool.or_true, Bool.or_false, Bool.true_or, Bool.false_or, beq_self_eq_true, Int.toNat_natCast, Nat.reduceAdd, Nat.reduceSub, Nat.reduceMul, Nat.reduceBEq, Nat.reduceBNe, Nat.reduceLT, Nat.reduceLeDiff, Nat.reduceEqDiff, Int.reduceNeg, Int.reduceToNat, Int.reduceLT, Int.reduceLE, ea, eb, encM_eq]; exact c_refCompareG ..) (by first | exact .inl rfl | exact .inr ⟨_, _, _, rfl, rfl, rfl⟩) rfl (by first | rfl | simp (maxSteps := 2000000) only [push_cast, ne_eq, id_eq, Bool.or_true, Bool.or_false, Bool.true_or, Bool.false_or, beq_self_eq_true, Int.toNat_natCast, Nat.reduceAdd, Nat.reduceSub, Nat.reduceMul, Nat.reduceBEq, Nat.reduceBNe, Nat.reduceLT, Nat.reduceLeDiff, Nat.reduceEqDiff, Int.reduceNeg, Int.reduceToNat, Int.reduceLT, Int.reduceLE, ea, eb, encM_eq]) ?_) <;> try simp (maxSteps := 2000000) only [push_cast, ne_eq, id_eq, Bool.or_true, Bool.or_false, Bool.true_or, Bool.false_or, beq_self_eq_true, Int.toNat_natCast, Nat.reduceAdd, Nat.reduceSub, Nat.reduceMul, Nat.reduceBEq, Nat.reduceBNe, Nat.reduceLT, Nat.reduceLeDiff, Nat.reduceEqDiff, Int.reduceNeg, Int.reduceToNat, Int.reduceLT, Int.reduceLE, ea, eb, encM_eq]
        all_goals first | omega | skip
        · rename_i h
          exact (sameEs_false_at ha' (by simp only [sameM]; simp only [Bool.not_eq_true'] at h; rw [h]; rfl)).symm
        · rename_i g h
          have h := bne_iff_ne.1 h
          exact (sameEs_false_at ha' (by simp only [sameM]; rw [show (cmpG (a.getD i zM).2 (b.getD i zM).2 == 0) = false by simpa using h]; simp)).symm
        · rename_i g h
          have h := of_bne_false h
          refine ⟨i + 1, ⟨by omega, fun j hj => ?_⟩, by omega, ?_⟩
          · by_cases hji : j = i
            · subst hji; simp only [Bool.not_eq_false'] at g; simp only [sameM, g, h]; rfl
            · exact h3 j (by omega)
          · refine Weak.sub id ?_ ?_ ?_ ?_ ?_ <;> simp (maxSteps := 2000000) only [push_cast, ne_eq, id_eq, Bool.or_true, Bool.or_false, Bool.true_or, Bool.false_or, beq_self_eq_true, Int.toNat_natCast, Nat.reduceAdd, Nat.reduceSub, Nat.reduceMul, Nat.reduceBEq, Nat.reduceBNe, Nat.reduceLT, Nat.reduceLeDiff, Nat.reduceEqDiff, Int.reduceNeg, Int.reduceToNat, Int.reduceLT, Int.reduceLE]
            rw [wrap64 (by omega) (by omega)]
      · (try simp (maxSteps := 2000000) only [push_cast, ne_eq, id_eq, Bool.or_true, Bool.or_false, Bool.true_or, Bool.false_or, beq_self_eq_true, Int.toNat_natCast, Nat.reduceAdd, Nat.reduceSub, Nat.reduceMul, Nat.reduceBEq, Nat.reduceBNe, Nat.reduceLT, Nat.reduceLeDiff, Nat.reduceEqDiff, Int.reduceNeg, Int.reduceToNat, Int.reduceLT, Int.reduceLE]) <;> repeat' first | (with_reducible refine bsplit_intro (fun _ => ?_) (fun _ => ?_)) <;> try simp (maxSteps := 2000000) only [push_cast, ne_eq, id_eq, Bool.or_true, Bool.or_false, Bool.true_or, Bool.false_or, beq_self_eq_true, Int.toNat_natCast, Nat.reduceAdd, Nat.reduceSub, Nat.reduceMul, Nat.reduceBEq, Nat.reduceBNe, Nat.reduceLT, Nat.reduceLeDiff, Nat.reduceEqDiff, Int.reduceNeg, Int.reduceToNat, Int.reduceLT, Int.reduceLE] | (refine ordB_intro2 (by simp (maxSteps := 2000000) only [push_cast, ne_eq, id_eq, Bool.or_true, Bool.or_false, Bool.true_or, Bool.false_or, beq_self_eq_true, Int.toNat_natCast, Nat.reduceAdd, Nat.reduceSub, Nat.reduceMul, Nat.reduceBEq, Nat.reduceBNe, Nat.reduceLT, Nat.reduceLeDiff, Nat.reduceEqDiff, Int.reduceNeg, Int.reduceToNat, Int.reduceLT, Int.reduceLE, skOf]; rfl) ?_; kernel_rfl) | with_reducible refine And.intro ?_ ?_
        have : i = a.length := by simp at ha; omega
        exact (sameEs_of hl fun j hj => h3 j (by omega)).symm

theorem c_same (a b : List GE) : PCall Tryz.prog 30 [.slice (a.map encM) false, .slice (b.map encM) false] (.val (.bool (sameEs a b))) := by
  refine PCall.of_awp Tryz.func30 rfl Tryz.ntmps30 (by kernel_rfl) (by simp) (congrArg Array.toList Tryz.results30) (AWp.sz fun H Hb => VC.sound mixed (by kernel_rfl) ?_)
  have h0 := H 0; simp (maxSteps := 2000000) only [push_cast, ne_eq, id_eq, Bool.or_true, Bool.or_false, Bool.true_or, Bool.false_or, beq_self_eq_true, Int.toNat_natCast, Nat.reduceAdd, Nat.reduceSub, Nat.reduceMul, Nat.reduceBEq, Nat.reduceBNe, Nat.reduceLT, Nat.reduceLeDiff, Nat.reduceEqDiff, Int.reduceNeg, Int.reduceToNat, Int.reduceLT, Int.reduceLE] at h0
  have h1 := H 1; simp (maxSteps := 2000000) only [push_cast, ne_eq, id_eq, Bool.or_true, Bool.or_false, Bool.true_or, Bool.false_or, beq_self_eq_true, Int.toNat_natCast, Nat.reduceAdd, Nat.reduceSub, Nat.reduceMul, Nat.reduceBEq, Nat.reduceBNe, Nat.reduceLT, Nat.reduceLeDiff, Nat.reduceEqDiff, Int.reduceNeg, Int.reduceToNat, Int.reduceLT, Int.reduceLE] at h1
  (try simp (maxSteps := 2000000) only [push_cast, ne_eq, id_eq, Bool.or_true, Bool.or_false, Bool.true_or, Bool.false_or, beq_self_eq_true, Int.toNat_natCast, Nat.reduceAdd, Nat.reduceSub, Nat.reduceMul, Nat.reduceBEq, Nat.reduceBNe, Nat.reduceLT, Nat.reduceLeDiff, Nat.reduceEqDiff, Int.reduceNeg, Int.reduceToNat, Int.reduceLT, Int.reduceLE]) <;> repeat' first | (with_reducible refine bsplit_intro (fun _ => ?_) (fun _ => ?_)) <;> try simp (maxSteps := 2000000) only [push_cast, ne_eq, id_eq, Bool.or_true, Bool.or_false, Bool.true_or, Bool.false_or, beq_self_eq_true, Int.toNat_natCast, Nat.reduceAdd, Nat.reduceSub, Nat.reduceMul, Nat.reduceBEq, Nat.reduceBNe, Nat.reduceLT, Nat.reduceLeDiff, Nat.reduceEqDiff, Int.reduceNeg, Int.reduceToNat, Int.reduceLT, Int.reduceLE] | (refine ordB_intro2 (by simp (maxSteps := 2000000) only [push_cast, ne_eq, id_eq, Bool.or_true, Bool.or_false, Bool.true_or, Bool.false_or, beq_self_eq_true, Int.toNat_natCast, Nat.reduceAdd, Nat.reduceSub, Nat.reduceMul, Nat.reduceBEq, Nat.reduceBNe, Nat.reduceLT, Nat.reduceLeDiff, Nat.reduceEqDiff, Int.reduceNeg, Int.reduceToNat, Int.reduceLT, Int.reduceLE, skOf]; rfl) ?_; kernel_rfl) | with_reducible refine And.intro ?_ ?_
  · rename_i h
    have h := bne_iff_ne.1 h
    rw [sameEs_false_len (fun e => h (by rw [e]))]
  · rename_i hl
    have hl : a.length = b.length := by have := of_bne_false hl; omega
    refine AWp.loopI mixed (by kernel_rfl) (ι := Nat) (fun i => i ≤ a.length ∧ ∀ j, j < i → sameM (a.getD j zM) (b.getD j zM) = true) (fun i => ⟨[(14, .val (.int .i64 i)), (13, .val (.int .i64 a.length)), (12, .slice (a.map encM) false), (1, .slice (b.map encM) false)], [], 0⟩) (fun i => a.length - i) 0 (by simp) ?_ fun i hi => ?_
    · refine Weak.sub id ?_ ?_ ?_ ?_ ?_ <;> simp (maxSteps := 2000000) only [push_cast, ne_eq, id_eq, Bool.or_true, Bool.or_false, Bool.true_or, Bool.false_or, beq_self_eq_true, Int.toNat_natCast, Nat.reduceAdd, Nat.reduceSub, Nat.reduceMul, Nat.reduceBEq, Nat.reduceBNe, Nat.reduceLT, Nat.reduceLeDiff, Nat.reduceEqDiff, Int.reduceNeg, Int.reduceToNat, Int.reduceLT, Int.reduceLE]
    · obtain ⟨h2, h3⟩ := hi
      simp (maxSteps := 2000000) only [push_cast, ne_eq, id_eq, Bool.or_true, Bool.or_false, Bool.true_or, Bool.false_or, beq_self_eq_true, Int.toNat_natCast, Nat.reduceAdd, Nat.reduceSub, Nat.reduceMul, Nat.reduceBEq, Nat.reduceBNe, Nat.reduceLT, Nat.reduceLeDiff, Nat.reduceEqDiff, Int.reduceNeg, Int.reduceToNat, Int.reduceLT, Int.reduceLE]
      refine bsplit_intro (fun ha => ?_) (fun ha => ?_)
      · have ha' : i < a.length := by simpa using ha
        have hb' : i < b.length := by omega
        have ea := nr_encM ha'
        have eb := nr_encM hb'
        (try simp (maxSteps := 2000000) only [push_cast, ne_eq, id_eq, Bool.or_true, Bool.or_false, Bool.true_or, Bool.false_or, beq_self_eq_true, Int.toNat_natCast, Nat.reduceAdd, Nat.reduceSub, Nat.reduceMul, Nat.reduceBEq, Nat.reduceBNe, Nat.reduceLT, Nat.reduceLeDiff, Nat.reduceEqDiff, Int.reduceNeg, Int.reduceToNat, Int.reduceLT, Int.reduceLE, ea, eb, encM_eq]) <;> repeat' first | (with_reducible refine bsplit_intro (fun _ => ?_) (fun _ => ?_)) <;> try simp (maxSteps := 2000000) only [push_cast, ne_eq, id_eq, Bool.or_true, Bool.or_false, Bool.true_or, Bool.false_or, beq_self_eq_true, Int.toNat_natCast, Nat.reduceAdd, Nat.reduceSub, Nat.reduceMul, Nat.reduceBEq, Nat.reduceBNe, Nat.reduceLT, Nat.reduceLeDiff, Nat.reduceEqDiff, Int.reduceNeg, Int.reduceToNat, Int.reduceLT, Int.reduceLE, ea, eb, encM_eq] | (refine ordB_intro2 (by simp (maxSteps := 2000000) only [push_cast, ne_eq, id_eq, Bool.or_true, Bool.or_false, Bool.true_or, Bool.false_or, beq_self_eq_true, Int.toNat_natCast, Nat.reduceAdd, Nat.reduceSub, Nat.reduceMul, Nat.reduceBEq, Nat.reduceBNe, Nat.reduceLT, Nat.reduceLeDiff, Nat.reduceEqDiff, Int.reduceNeg, Int.reduceToNat, Int.reduceLT, Int.reduceLE, skOf, ea, eb, encM_eq]; rfl) ?_; kernel_rfl) | with_reducible refine And.intro ?_ ?_ | (with_reducible show RunXS _ _ _ _ _ _ _ _; refine RunXS.call (by simp (maxSteps := 2000000) only [push_cast, ne_eq, id_eq, Bool.or_true, Bool.or_false, Bool.true_or, Bool.false_or, beq_self_eq_true, Int.toNat_natCast, Nat.reduceAdd, Nat.reduceSub, Nat.reduceMul, Nat.reduceBEq, Nat.reduceBNe, Nat.reduceLT, Nat.reduceLeDiff, Nat.reduceEqDiff, Int.reduceNeg, Int.reduceToNat, Int.reduceLT, Int.reduceLE, ea, eb, encM_eq]; exact c_ValueSame ..) (by first | exact .inl rfl | exact .inr ⟨_, _, _, rfl, rfl, rfl⟩) rfl (by first | rfl | simp (maxSteps := 2000000) only [push_cast, ne_eq, id_eq, Bool.or_true, Bool.or_false, Bool.true_or, Bool.false_or, beq_self_eq_true, Int.toNat_natCast, Nat.reduceAdd, Nat.reduceSub, Nat.reduceMul, Nat.reduceBEq, Nat.reduceBNe, Nat.reduceLT, Nat.reduceLeDiff, Nat.reduceEqDiff, Int.reduceNeg, Int.reduceToNat, Int.reduceLT, Int.reduceLE, ea, eb, encM_eq]) ?_) <;> try simp (maxSteps := 2000000) only [push_cast, ne_eq, id_eq, Bool.or_true, Bool.or_false, Bool.true_or, Bool.false_or, beq_self_eq_true, Int.toNat_natCast, Nat.reduceAdd, Nat.reduceSub, Nat.reduceMul, Nat.reduceBEq, Nat.reduceBNe, Nat.reduceLT, Nat.reduceLeDiff, Nat.reduceEqDiff, Int.reduceNeg, Int.reduceToNat, Int.reduceLT, Int.reduceLE, ea, eb, encM_eq]
        all_goals first | omega | skip
        · rename_i h
          exact (sameEs_false_at ha' (by simp only [sameM]; simp only [Bool.not_eq_true'] at h; rw [h]; rfl)).symm
        · rename_i g h
          exact (sameEs_false_at ha' (by simp only [sameM]; simp only [Bool.not_eq_true'] at h; rw [h]; simp)).symm
        · rename_i g h
          refine ⟨i + 1, ⟨by omega, fun j hj => ?_⟩, by omega, ?_⟩
          · by_cases hji : j = i
            · subst hji; simp only [Bool.not_eq_false'] at g h; simp only [sameM, g, h]; rfl
            · exact h3 j (by omega)
          · refine Weak.sub id ?_ ?_ ?_ ?_ ?_ <;> simp (maxSteps := 2000000) only [push_cast, ne_eq, id_eq, Bool.or_true, Bool.or_false, Bool.true_or, Bool.false_or, beq_self_eq_true, Int.toNat_natCast, Nat.reduceAdd, Nat.reduceSub, Nat.reduceMul, Nat.reduceBEq, Nat.reduceBNe, Nat.reduceLT, Nat.reduceLeDiff, Nat.reduceEqDiff, Int.reduceNeg, Int.reduceToNat, Int.reduceLT, Int.reduceLE]
            rw [wrap64 (by omega) (by omega)]
      · (try simp (maxSteps := 2000000) only [push_cast, ne_eq, id_eq, Bool.or_true, Bool.or_false, Bool.true_or, Bool.false_or, beq_self_eq_true, Int.toNat_natCast, Nat.reduceAdd, Nat.reduceSub, Nat.reduceMul, Nat.reduceBEq, Nat.reduceBNe, Nat.reduceLT, Nat.reduceLeDiff, Nat.reduceEqDiff, Int.reduceNeg, Int.reduceToNat, Int.reduceLT, Int.reduceLE]) <;> repeat' first | (with_reducible refine bsplit_intro (fun _ => ?_) (fun _ => ?_)) <;> try simp (maxSteps := 2000000) only [push_cast, ne_eq, id_eq, Bool.or_true, Bool.or_false, Bool.true_or, Bool.false_or, beq_self_eq_true, Int.toNat_natCast, Nat.reduceAdd, Nat.reduceSub, Nat.reduceMul, Nat.reduceBEq, Nat.reduceBNe, Nat.reduceLT, Nat.reduceLeDiff, Nat.reduceEqDiff, Int.reduceNeg, Int.reduceToNat, Int.reduceLT, Int.reduceLE] | (refine ordB_intro2 (by simp (maxSteps := 2000000) only [push_cast, ne_eq, id_eq, Bool.or_true, Bool.or_false, Bool.true_or, Bool.false_or, beq_self_eq_true, Int.toNat_natCast, Nat.reduceAdd, Nat.reduceSub, Nat.reduceMul, Nat.reduceBEq, Nat.reduceBNe, Nat.reduceLT, Nat.reduceLeDiff, Nat.reduceEqDiff, Int.reduceNeg, Int.reduceToNat, Int.reduceLT, Int.reduceLE, skOf]; rfl) ?_; kernel_rfl) | with_reducible refine And.intro ?_ ?_
        have : i = a.length := by simp at ha; omega
        exact (sameEs_of hl fun j hj => h3 j (by omega)).symm

/-! nothing is left to do -/
noncomputable def settledBy (f : GW → Bool) : List GW → Bool
  | [] => true
  | v :: l => (v.image.pending.length == 0 && f v) && settledBy f l
theorem settledBy_spec {f : GW → Bool} : ∀ {l : List GW}, settledBy f l = true ↔ ∀ i, i < l.length → (l.getD i zW).image.pending.length = 0 ∧ f (l.getD i zW) = true
  | [] => by simp [settledBy]
  | v :: l => by
    simp only [settledBy, Bool.and_eq_true, beq_iff_eq, settledBy_spec (l := l)]
    constructor
    · intro h i hi
      cases i with
      | zero => simpa using h.1
      | succ i => simpa using h.2 i (by simpa using hi)
    · intro h
      exact ⟨by simpa using h 0 (by simp), fun i hi => by simpa using h (i + 1) (by simpa using hi)⟩
theorem settledBy_false {f : GW → Bool} {l : List GW} {i : Nat} (hi : i < l.length) (h : (l.getD i zW).image.pending.length ≠ 0 ∨ f (l.getD i zW) = false) : settledBy f l = false := by
  cases hs : settledBy f l with
  | false => rfl
  | true =>
    have := settledBy_spec.1 hs i hi
    rcases h with h | h
    · exact absurd this.1 h
    · rw [h] at this; cases this.2

theorem c_Settled (s : GS) (l : List GW) : PCall Tryz.prog 17 [.agg (encS s), .slice (l.map encW) false] (.val (.bool (settledBy (fun v => sameEs v.head s.map) l))) := by
  refine PCall.of_awp Tryz.func17 rfl Tryz.ntmps17 (by kernel_rfl) (by simp) (congrArg Array.toList Tryz.results17) (AWp.sz fun H Hb => VC.sound mixed (by kernel_rfl) ?_)
  have h1 := H 1; simp (maxSteps := 2000000) only [push_cast, ne_eq, id_eq, Bool.or_true, Bool.or_false, Bool.true_or, Bool.false_or, beq_self_eq_true, Int.toNat_natCast, Nat.reduceAdd, Nat.reduceSub, Nat.reduceMul, Nat.reduceBEq, Nat.reduceBNe, Nat.reduceLT, Nat.reduceLeDiff, Nat.reduceEqDiff, Int.reduceNeg, Int.reduceToNat, Int.reduceLT, Int.reduceLE] at h1
  (try simp (maxSteps := 2000000) only [push_cast, ne_eq, id_eq, Bool.or_true, Bool.or_false, Bool.true_or, Bool.false_or, beq_self_eq_true, Int.toNat_natCast, Nat.reduceAdd, Nat.reduceSub, Nat.reduceMul, Nat.reduceBEq, Nat.reduceBNe, Nat.reduceLT, Nat.reduceLeDiff, Nat.reduceEqDiff, Int.reduceNeg, Int.reduceToNat, Int.reduceLT, Int.reduceLE, encS]) <;> repeat' first | (with_reducible refine bsplit_intro (fun _ => ?_) (fun _ => ?_)) <;> try simp (maxSteps := 2000000) only [push_cast, ne_eq, id_eq, Bool.or_true, Bool.or_false, Bool.true_or, Bool.false_or, beq_self_eq_true, Int.toNat_natCast, Nat.reduceAdd, Nat.reduceSub, Nat.reduceMul, Nat.reduceBEq, Nat.reduceBNe, Nat.reduceLT, Nat.reduceLeDiff, Nat.reduceEqDiff, Int.reduceNeg, Int.reduceToNat, Int.reduceLT, Int.reduceLE, encS] | (refine ordB_intro2 (by simp (maxSteps := 2000000) only [push_cast, ne_eq, id_eq, Bool.or_true, Bool.or_false, Bool.true_or, Bool.false_or, beq_self_eq_true, Int.toNat_natCast, Nat.reduceAdd, Nat.reduceSub, Nat.reduceMul, Nat.reduceBEq, Nat.reduceBNe, Nat.reduceLT, Nat.reduceLeDiff, Nat.reduceEqDiff, Int.reduceNeg, Int.reduceToNat, Int.reduceLT, Int.reduceLE, skOf, encS]; rfl) ?_; kernel_rfl) | with_reducible refine And.intro ?_ ?_
  refine AWp.loopI mixed (by kernel_rfl) (ι := Nat) (fun i => i ≤ l.length ∧ ∀ j, j < i → (l.getD j zW).image.pending.length = 0 ∧ sameEs (l.getD j zW).head s.map = true) (fun i => ⟨[(9, .val (.int .i64 i)), (8, .val (.int .i64 l.length)), (7, .slice (l.map encW) false), (2, .ref 0 0 0 3)], [(0, .rows [encS s] 3)], 1⟩) (fun i => l.length - i) 0 (by simp) ?_ fun i hi => ?_
  · refine Weak.sub id ?_ ?_ ?_ ?_ ?_ <;> simp (maxSteps := 2000000) only [push_cast, ne_eq, id_eq, Bool.or_true, Bool.or_false, Bool.true_or, Bool.false_or, beq_self_eq_true, Int.toNat_natCast, Nat.reduceAdd, Nat.reduceSub, Nat.reduceMul, Nat.reduceBEq, Nat.reduceBNe, Nat.reduceLT, Nat.reduceLeDiff, Nat.reduceEqDiff, Int.reduceNeg, Int.reduceToNat, Int.reduceLT, Int.reduceLE, encS]
  · obtain ⟨h2, h3⟩ := hi
    simp (maxSteps := 2000000) only [push_cast, ne_eq, id_eq, Bool.or_true, Bool.or_false, Bool.true_or, Bool.false_or, beq_self_eq_true, Int.toNat_natCast, Nat.reduceAdd, Nat.reduceSub, Nat.reduceMul, Nat.reduceBEq, Nat.reduceBNe, Nat.reduceLT, Nat.reduceLeDiff, Nat.reduceEqDiff, Int.reduceNeg, Int.reduceToNat, Int.reduceLT, Int.reduceLE]
    refine bsplit_intro (fun ha => ?_) (fun ha => ?_)
    · have ha' : i < l.length := by simpa using ha
      have ea := nr_encW ha'
      (try simp (maxSteps := 2000000) only [push_cast, ne_eq, id_eq, Bool.or_true, Bool.or_false, Bool.true_or, Bool.false_or, beq_self_eq_true, Int.toNat_natCast, Nat.reduceAdd, Nat.reduceSub, Nat.reduceMul, Nat.reduceBEq, Nat.reduceBNe, Nat.reduceLT, Nat.reduceLeDiff, Nat.reduceEqDiff, Int.reduceNeg, Int.reduceToNat, Int.reduceLT, Int.reduceLE, ea, encW, encS]) <;> repeat' first | (with_reducible refine bsplit_intro (fun _ => ?_) (fun _ => ?_)) <;> try simp (maxSteps := 2000000) only [push_cast, ne_eq, id_eq, Bool.or_true, Bool.or_false, Bool.true_or, Bool.false_or, beq_self_eq_true, Int.toNat_natCast, Nat.reduceAdd, Nat.reduceSub, Nat.reduceMul, Nat.reduceBEq, Nat.reduceBNe, Nat.reduceLT, Nat.reduceLeDiff, Nat.reduceEqDiff, Int.reduceNeg, Int.reduceToNat, Int.reduceLT, Int.reduceLE, ea, encW, encS] | (refine ordB_intro2 (by simp (maxSteps := 2000000) only [push_cast, ne_eq, id_eq, Bool.or_true, Bool.or_false, Bool.true_or, Bool.false_or, beq_self_eq_true, Int.toNat_natCast, Nat.reduceAdd, Nat.reduceSub, Nat.reduceMul, Nat.reduceBEq, Nat.reduceBNe, Nat.reduceLT, Nat.reduceLeDiff, Nat.reduceEqDiff, Int.reduceNeg, Int.reduceToNat, Int.reduceLT, Int.reduceLE, skOf, ea, encW, encS]; rfl) ?_; kernel_rfl) | with_reducible refine And.intro ?_ ?_ | (with_reducible show RunXS _ _ _ _ _ _ _ _; refine RunXS.call (by simp (maxSteps := 2000000) only [push_cast, ne_eq, id_eq, Bool.or_true, Bool.or_false, Bool.true_or, Bool.false_or, beq_self_eq_true, Int.toNat_natCast, Nat.reduceAdd, Nat.reduceSub, Nat.reduceMul, Nat.reduceBEq, Nat.reduceBNe, Nat.reduceLT, Nat.reduceLeDiff, Nat.reduceEqDiff, Int.reduceNeg, Int.reduceToNat, Int.reduceLT, Int.reduceLE, ea, encW, encS]; exact c_same ..) (by first | exact .inl rfl | exact .inr ⟨_, _, _, rfl, rfl, rfl⟩) rfl (by first | rfl | simp (maxSteps := 2000000) only [push_cast, ne_eq, id_eq, Bool.or_true, Bool.or_false, Bool.true_or, Bool.false_or, beq_self_eq_true, Int.toNat_natCast, Nat.reduceAdd, Nat.reduceSub, Nat.reduceMul, Nat.reduceBEq, Nat.reduceBNe, Nat.reduceLT, Nat.reduceLeDiff, Nat.reduceEqDiff, Int.reduceNeg, Int.reduceToNat, Int.reduceLT, Int.reduceLE, ea, encW, encS]) ?_) <;> try simp (maxSteps := 2000000) only [push_cast, ne_eq, id_eq, Bool.or_true, Bool.or_false, Bool.true_or, Bool.false_or, beq_self_eq_true, Int.toNat_natCast, Nat.reduceAdd, Nat.reduceSub, Nat.reduceMul, Nat.reduceBEq, Nat.reduceBNe, Nat.reduceLT, Nat.reduceLeDiff, Nat.reduceEqDiff, Int.reduceNeg, Int.reduceToNat, Int.reduceLT, Int.reduceLE, ea, encW, encS]
      all_goals first | omega | skip
      · rename_i h
        exact (settledBy_false ha' (.inl (by have := of_decide_eq_true h; omega))).symm
      · rename_i g h
        exact (settledBy_false ha' (.inr (by simpa using h))).symm
      · rename_i g h
        refine ⟨i + 1, ⟨by omega, fun j hj => ?_⟩, by omega, ?_⟩
        · by_cases hji : j = i
          · subst hji; exact ⟨by have := of_decide_eq_false g; omega, by simpa using h⟩
          · exact h3 j (by omega)
        · refine Weak.sub id ?_ ?_ ?_ ?_ ?_ <;> simp (maxSteps := 2000000) only [push_cast, ne_eq, id_eq, Bool.or_true, Bool.or_false, Bool.true_or, Bool.false_or, beq_self_eq_true, Int.toNat_natCast, Nat.reduceAdd, Nat.reduceSub, Nat.reduceMul, Nat.reduceBEq, Nat.reduceBNe, Nat.reduceLT, Nat.reduceLeDiff, Nat.reduceEqDiff, Int.reduceNeg, Int.reduceToNat, Int.reduceLT, Int.reduceLE, encS]
          rw [wrap64 (by omega) (by omega)]
    · (try simp (maxSteps := 2000000) only [push_cast, ne_eq, id_eq, Bool.or_true, Bool.or_false, Bool.true_or, Bool.false_or, beq_self_eq_true, Int.toNat_natCast, Nat.reduceAdd, Nat.reduceSub, Nat.reduceMul, Nat.reduceBEq, Nat.reduceBNe, Nat.reduceLT, Nat.reduceLeDiff, Nat.reduceEqDiff, Int.reduceNeg, Int.reduceToNat, Int.reduceLT, Int.reduceLE]) <;> repeat' first | (with_reducible refine bsplit_intro (fun _ => ?_) (fun _ => ?_)) <;> try simp (maxSteps := 2000000) only [push_cast, ne_eq, id_eq, Bool.or_true, Bool.or_false, Bool.true_or, Bool.false_or, beq_self_eq_true, Int.toNat_natCast, Nat.reduceAdd, Nat.reduceSub, Nat.reduceMul, Nat.reduceBEq, Nat.reduceBNe, Nat.reduceLT, Nat.reduceLeDiff, Nat.reduceEqDiff, Int.reduceNeg, Int.reduceToNat, Int.reduceLT, Int.reduceLE] | (refine ordB_intro2 (by simp (maxSteps := 2000000) only [push_cast, ne_eq, id_eq, Bool.or_true, Bool.or_false, Bool.true_or, Bool.false_or, beq_self_eq_true, Int.toNat_natCast, Nat.reduceAdd, Nat.reduceSub, Nat.reduceMul, Nat.reduceBEq, Nat.reduceBNe, Nat.reduceLT, Nat.reduceLeDiff, Nat.reduceEqDiff, Int.reduceNeg, Int.reduceToNat, Int.reduceLT, Int.reduceLE, skOf]; rfl) ?_; kernel_rfl) | with_reducible refine And.intro ?_ ?_
      have : i = l.length := by simp at ha; omega
      exact (settledBy_spec.2 fun j hj => h3 j (by omega)).symm

theorem c_refSettled (s : GS) (l : List GW) : PCall Tryz.prog 18 [.agg (encS s), .slice (l.map encW) false] (.val (.bool (settledBy (fun v => sameEs s.map v.head) l))) := by
  refine PCall.of_awp Tryz.func18 rfl Tryz.ntmps18 (by kernel_rfl) (by simp) (congrArg Array.toList Tryz.results18) (AWp.sz fun H Hb => VC.sound mixed (by kernel_rfl) ?_)
  have h1 := H 1; simp (maxSteps := 2000000) only [push_cast, ne_eq, id_eq, Bool.or_true, Bool.or_false, Bool.true_or, Bool.false_or, beq_self_eq_true, Int.toNat_natCast, Nat.reduceAdd, Nat.reduceSub, Nat.reduceMul, Nat.reduceBEq, Nat.reduceBNe, Nat.reduceLT, Nat.reduceLeDiff, Nat.reduceEqDiff, Int.reduceNeg, Int.reduceToNat, Int.reduceLT, Int.reduceLE] at h1
  (try simp (maxSteps := 2000000) only [push_cast, ne_eq, id_eq, Bool.or_true, Bool.or_false, Bool.true_or, Bool.false_or, beq_self_eq_true, Int.toNat_natCast, Nat.reduceAdd, Nat.reduceSub, Nat.reduceMul, Nat.reduceBEq, Nat.reduceBNe, Nat.reduceLT, Nat.reduceLeDiff, Nat.reduceEqDiff, Int.reduceNeg, Int.reduceToNat, Int.reduceLT, Int.reduceLE, encS]) <;> repeat' first | (with_reducible refine bsplit_intro (fun _ => ?_) (fun _ => ?_)) <;> try simp (maxSteps := 2000000) only [push_cast, ne_eq, id_eq, Bool.or_true, Bool.or_false, Bool.true_or, Bool.false_or, beq_self_eq_true, Int.toNat_natCast, Nat.reduceAdd, Nat.reduceSub, Nat.reduceMul, Nat.reduceBEq, Nat.reduceBNe, Nat.reduceLT, Nat.reduceLeDiff, Nat.reduceEqDiff, Int.reduceNeg, Int.reduceToNat, Int.reduceLT, Int.reduceLE, encS] | (refine ordB_intro2 (by simp (maxSteps := 2000000) only [push_cast, ne_eq, id_eq, Bool.or_true, Bool.or_false, Bool.true_or, Bool.false_or, beq_self_eq_true, Int.toNat_natCast, Nat.reduceAdd, Nat.reduceSub, Nat.reduceMul, Nat.reduceBEq, Nat.reduceBNe, Nat.reduceLT, Nat.reduceLeDiff, Nat.reduceEqDiff, Int.reduceNeg, Int.reduceToNat, Int.reduceLT, Int.reduceLE, skOf, encS]; rfl) ?_; kernel_rfl) | with_reducible refine And.intro ?_ ?_
  refine AWp.loopI mixed (by kernel_rfl) (ι := Nat) (fun i => i ≤ l.length ∧ ∀ j, j < i → (l.getD j zW).image.pending.length = 0 ∧ sameEs s.map (l.getD j zW).head = true) (fun i => ⟨[(5, .val (.int .i64 i)), (1, .slice (l.map encW) false), (2, .ref 0 0 0 3)], [(0, .rows [encS s] 3)], 1⟩) (fun i => l.length - i) 0 (by simp) ?_ fun i hi => ?_
  · refine Weak.sub id ?_ ?_ ?_ ?_ ?_ <;> simp (maxSteps := 2000000) only [push_cast, ne_eq, id_eq, Bool.or_true, Bool.or_false, Bool.true_or, Bool.false_or, beq_self_eq_true, Int.toNat_natCast, Nat.reduceAdd, Nat.reduceSub, Nat.reduceMul, Nat.reduceBEq, Nat.reduceBNe, Nat.reduceLT, Nat.reduceLeDiff, Nat.reduceEqDiff, Int.reduceNeg, Int.reduceToNat, Int.reduceLT, Int.reduceLE, encS]
  · obtain ⟨h2, h3⟩ := hi
    simp (maxSteps := 2000000) only [push_cast, ne_eq, id_eq, Bool.or_true, Bool.or_false, Bool.true_or, Bool.false_or, beq_self_eq_true, Int.toNat_natCast, Nat.reduceAdd, Nat.reduceSub, Nat.reduceMul, Nat.reduceBEq, Nat.reduceBNe, Nat.reduceLT, Nat.reduceLeDiff, Nat.reduceEqDiff, Int.reduceNeg, Int.reduceToNat, Int.reduceLT, Int.reduceLE]
    refine bsplit_intro (fun ha => ?_) (fun ha => ?_)
    · have ha' : i < l.length := by simpa using ha
      have ea := nr_encW ha'
      (try simp (maxSteps := 2000000) only [push_cast, ne_eq, id_eq, Bool.or_true, Bool.or_false, Bool.true_or, Bool.false_or, beq_self_eq_true, Int.toNat_natCast, Nat.reduceAdd, Nat.reduceSub, Nat.reduceMul, Nat.reduceBEq, Nat.reduceBNe, Nat.reduceLT, Nat.reduceLeDiff, Nat.reduceEqDiff, Int.reduceNeg, Int.reduceToNat, Int.reduceLT, Int.reduceLE, ea, encW, encS]) <;> repeat' first | (with_reducible refine bsplit_intro (fun _ => ?_) (fun _ => ?_)) <;> try simp (maxSteps := 2000000) only [push_cast, ne_eq, id_eq, Bool.or_true, Bool.or_false, Bool.true_or, Bool.false_or, beq_self_eq_true, Int.toNat_natCast, Nat.reduceAdd, Nat.reduceSub, Nat.reduceMul, Nat.reduceBEq, Nat.reduceBNe, Nat.reduceLT, Nat.reduceLeDiff, Nat.reduceEqDiff, Int.reduceNeg, Int.reduceToNat, Int.reduceLT, Int.reduceLE, ea, encW, encS] | (refine ordB_intro2 (by simp (maxSteps := 2000000) only [push_cast, ne_eq, id_eq, Bool.or_true, Bool.or_false, Bool.true_or, Bool.false_or, beq_self_eq_true, Int.toNat_natCast, Nat.reduceAdd, Nat.reduceSub, Nat.reduceMul, Nat.reduceBEq, Nat.reduceBNe, Nat.reduceLT, Nat.reduceLeDiff, Nat.reduceEqDiff, Int.reduceNeg, Int.reduceToNat, Int.reduceLT, Int.reduceLE, skOf, ea, encW, encS]; rfl) ?_; kernel_rfl) | with_reducible refine And.intro ?_ ?_ | (with_reducible show RunXS _ _ _ _ _ _ _ _; refine RunXS.call (by simp (maxSteps := 2000000) only [push_cast, ne_eq, id_eq, Bool.or_true, Bool.or_false, Bool.true_or, Bool.false_or, beq_self_eq_true, Int.toNat_natCast, Nat.reduceAdd, Nat.reduceSub, Nat.reduceMul, Nat.reduceBEq, Nat.reduceBNe, Nat.reduceLT, Nat.reduceLeDiff, Nat.reduceEqDiff, Int.reduceNeg, Int.reduceToNat, Int.reduceLT, Int.reduceLE, ea, encW, encS]; exact c_SameEntries ..) (by first | exact .inl rfl | exact .inr ⟨_, _, _, rfl, rfl, rfl⟩) rfl (by first | rfl | simp (maxSteps := 2000000) only [push_cast, ne_eq, id_eq, Bool.or_true, Bool.or_false, Bool.true_or, Bool.false_or, beq_self_eq_true, Int.toNat_natCast, Nat.reduceAdd, Nat.reduceSub, Nat.reduceMul, Nat.reduceBEq, Nat.reduceBNe, Nat.reduceLT, Nat.reduceLeDiff, Nat.reduceEqDiff, Int.reduceNeg, Int.reduceToNat, Int.reduceLT, Int.reduceLE, ea, encW, encS]) ?_) <;> try simp (maxSteps := 2000000) only [push_cast, ne_eq, id_eq, Bool.or_true, Bool.or_false, Bool.true_or, Bool.false_or, beq_self_eq_true, Int.toNat_natCast, Nat.reduceAdd, Nat.reduceSub, Nat.reduceMul, Nat.reduceBEq, Nat.reduceBNe, Nat.reduceLT, Nat.reduceLeDiff, Nat.reduceEqDiff, Int.reduceNeg, Int.reduceToNat, Int.reduceLT, Int.reduceLE, ea, encW, encS]
      all_goals first | omega | skip
      · rename_i h
        exact (settledBy_false ha' (.inl (by have := of_decide_eq_true h; omega))).symm
      · rename_i g h
        exact (settledBy_false ha' (.inr (by simpa using h))).symm
      · rename_i g h
        refine ⟨i + 1, ⟨by omega, fun j hj => ?_⟩, by omega, ?_⟩
        · by_cases hji : j = i
          · subst hji; exact ⟨by have := of_decide_eq_false g; omega, by simpa using h⟩
          · exact h3 j (by omega)
        · refine Weak.sub id ?_ ?_ ?_ ?_ ?_ <;> simp (maxSteps := 2000000) only [push_cast, ne_eq, id_eq, Bool.or_true, Bool.or_false, Bool.true_or, Bool.false_or, beq_self_eq_true, Int.toNat_natCast, Nat.reduceAdd, Nat.reduceSub, Nat.reduceMul, Nat.reduceBEq, Nat.reduceBNe, Nat.reduceLT, Nat.reduceLeDiff, Nat.reduceEqDiff, Int.reduceNeg, Int.reduceToNat, Int.reduceLT, Int.reduceLE, encS]
          rw [wrap64 (by omega) (by omega)]
    · (try simp (maxSteps := 2000000) only [push_cast, ne_eq, id_eq, Bool.or_true, Bool.or_false, Bool.true_or, Bool.false_or, beq_self_eq_true, Int.toNat_natCast, Nat.reduceAdd, Nat.reduceSub, Nat.reduceMul, Nat.reduceBEq, Nat.reduceBNe, Nat.reduceLT, Nat.reduceLeDiff, Nat.reduceEqDiff, Int.reduceNeg, Int.reduceToNat, Int.reduceLT, Int.reduceLE]) <;> repeat' first | (with_reducible refine bsplit_intro (fun _ => ?_) (fun _ => ?_)) <;> try simp (maxSteps := 2000000) only [push_cast, ne_eq, id_eq, Bool.or_true, Bool.or_false, Bool.true_or, Bool.false_or, beq_self_eq_true, Int.toNat_natCast, Nat.reduceAdd, Nat.reduceSub, Nat.reduceMul, Nat.reduceBEq, Nat.reduceBNe, Nat.reduceLT, Nat.reduceLeDiff, Nat.reduceEqDiff, Int.reduceNeg, Int.reduceToNat, Int.reduceLT, Int.reduceLE] | (refine ordB_intro2 (by simp (maxSteps := 2000000) only [push_cast, ne_eq, id_eq, Bool.or_true, Bool.or_false, Bool.true_or, Bool.false_or, beq_self_eq_true, Int.toNat_natCast, Nat.reduceAdd, Nat.reduceSub, Nat.reduceMul, Nat.reduceBEq, Nat.reduceBNe, Nat.reduceLT, Nat.reduceLeDiff, Nat.reduceEqDiff, Int.reduceNeg, Int.reduceToNat, Int.reduceLT, Int.reduceLE, skOf]; rfl) ?_; kernel_rfl) | with_reducible refine And.intro ?_ ?_
      have : i = l.length := by simp at ha; omega
      exact (settledBy_spec.2 fun j hj => h3 j (by omega)).symm

/-! what is alike is alike the other way round -/
theorem numI_zero {a b : Int} (h : numI a b = 0) : a = b := by unfold numI at h; split at h <;> (try split at h) <;> omega
theorem numI_self (a : Int) : numI a a = 0 := by simp [numI]
theorem cmpL_zero : ∀ {a b : List UInt8}, cmpL a b = 0 → a = b
  | [], [], _ => rfl
  | [], _ :: _, h => by simp [cmpL] at h
  | _ :: _, [], h => by simp [cmpL] at h
  | x :: a, y :: b, h => by
    simp only [cmpL] at h
    split at h
    · rename_i e; subst e; rw [cmpL_zero h]
    · split at h <;> simp at h
theorem cmpL_self : ∀ a : List UInt8, cmpL a a = 0
  | [] => rfl
  | x :: a => by simp [cmpL, cmpL_self a]
theorem cmpB_zero {a b : ByteArray} (h : cmpB a b = 0) : a = b := bl_inj (cmpL_zero h)
theorem cmpB_self (a : ByteArray) : cmpB a a = 0 := cmpL_self _
theorem cmpBy_swap {α : Type} {f g : α → α → Int} : ∀ {a b : List α}, (∀ x ∈ a, ∀ y ∈ b, f x y = 0 → g y x = 0) → cmpBy f a b = 0 → cmpBy g b a = 0
  | [], [], _, _ => rfl
  | [], _ :: _, _, h => by simp [cmpBy] at h
  | _ :: _, [], _, h => by simp [cmpBy] at h
  | x :: a, y :: b, hf, h => by
    simp only [cmpBy] at h ⊢
    split at h
    · rename_i e
      rw [if_pos (hf x (by simp) y (by simp) e)]
      exact cmpBy_swap (fun x hx y hy => hf x (by simp [hx]) y (by simp [hy])) h
    · rename_i e; exact absurd h e
theorem cmpV_swap : ∀ (n m : Nat) (v u : GV), SizeOf.sizeOf v ≤ n → SizeOf.sizeOf u ≤ m → cmpV n v u = 0 → cmpV m u v = 0 := by
  intro n
  induction n with
  | zero => intro m v u h; cases v; simp at h
  | succ n ih =>
    intro m v u hv hu h
    cases m with
    | zero => cases u; simp at hu
    | succ m =>
      rw [cmpV_succ] at h ⊢
      by_cases hk : v.kind = u.kind
      · rw [if_neg (by simp [hk])] at h
        rw [if_neg (by simp [hk]), ← hk]
        split
        · rename_i h2; rw [if_pos h2] at h; unfold boolI at h ⊢; split at h
          · rename_i e; simp [e]
          · split at h <;> simp at h
        rename_i h2; rw [if_neg h2] at h
        split
        · rename_i h3; rw [if_pos h3] at h; rw [numI_zero h]; exact numI_self _
        rename_i h3; rw [if_neg h3] at h
        split
        · rename_i h4; rw [if_pos h4] at h; rw [cmpB_zero h]; exact cmpB_self _
        rename_i h4; rw [if_neg h4] at h
        split
        · rename_i h5; rw [if_pos h5] at h
          exact cmpBy_swap (fun x hx y hy e => ih m x y (by have := GV.list_lt hx; omega) (by have := GV.list_lt hy; omega) e) h
        rename_i h5; rw [if_neg h5] at h
        split
        · rename_i h6; rw [if_pos h6] at h
          refine cmpBy_swap (fun x hx y hy e => ?_) h
          simp only [cmpP] at e ⊢
          split at e
          · rename_i e0
            rw [cmpB_zero e0, if_pos (cmpB_self _)]
            exact ih m x.2 y.2 (by have := GV.obj_lt hx; omega) (by have := GV.obj_lt hy; omega) e
          · rename_i e0; exact absurd e e0
        rfl
      · rw [if_pos hk] at h
        exact absurd (numI_zero h) hk
theorem sameM_swap {p q : GE} (h : sameM p q = true) : sameM q p = true := by
  simp only [sameM, Bool.and_eq_true, beq_iff_eq] at h ⊢
  exact ⟨h.1.symm, cmpV_swap _ _ _ _ (Nat.le_refl _) (Nat.le_refl _) h.2⟩
theorem sameEs_swap : ∀ {a b : List GE}, sameEs a b = true → sameEs b a = true
  | [], [], _ => rfl
  | p :: a, q :: b, h => by simp only [sameEs, Bool.and_eq_true] at h ⊢; exact ⟨sameM_swap h.1, sameEs_swap h.2⟩
  | [], _ :: _, h => by simp [sameEs] at h
  | _ :: _, [], h => by simp [sameEs] at h
theorem sameEs_comm (a b : List GE) : sameEs a b = sameEs b a := by
  cases h : sameEs b a with
  | true => exact sameEs_swap h
  | false =>
    cases k : sameEs a b with
    | false => rfl
    | true => rw [sameEs_swap k] at h; cases h
end Go.Ab
