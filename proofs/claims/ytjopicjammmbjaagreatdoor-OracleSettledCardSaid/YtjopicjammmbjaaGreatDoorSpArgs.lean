/- Values, mutators, logs, views as arguments of a row. Written by a program. -/
import Derived.Test.YtjopicjammmbjaaGreatDoorSpRead
import Derived.Test.YtjopicjammmbjaaGreatDoorProg
import Derived.KernelRfl
set_option maxHeartbeats 4000000
set_option maxRecDepth 20000
set_option linter.unusedVariables false
set_option linter.unusedSimpArgs false
namespace Go.Ab
open Go.RowKit Go.Proofs
theorem cell_Kind : Tryz.prog.cellsOf 59 = 1 := by kernel_rfl
theorem cell_bool : Tryz.prog.cellsOf 4 = 1 := by kernel_rfl
theorem cell_int64 : Tryz.prog.cellsOf 2 = 1 := by kernel_rfl
theorem cell_string : Tryz.prog.cellsOf 9 = 1 := by kernel_rfl
theorem cell_LValue : Tryz.prog.cellsOf 60 = 1 := by kernel_rfl
theorem cell_LMember : Tryz.prog.cellsOf 61 = 1 := by kernel_rfl
theorem cell_Value : Tryz.prog.cellsOf 63 = 6 := by kernel_rfl
theorem cell_Member : Tryz.prog.cellsOf 104 = 7 := by kernel_rfl
theorem cell_Entry : Tryz.prog.cellsOf 70 = 7 := by kernel_rfl
theorem cell_MutKind : Tryz.prog.cellsOf 58 = 1 := by kernel_rfl
theorem cell_LMutator : Tryz.prog.cellsOf 64 = 1 := by kernel_rfl
theorem cell_Mutator : Tryz.prog.cellsOf 66 = 19 := by kernel_rfl
theorem cell_uint64 : Tryz.prog.cellsOf 23 = 1 := by kernel_rfl
theorem cell_Errno : Tryz.prog.cellsOf 27 = 1 := by kernel_rfl
theorem cell_Numbered : Tryz.prog.cellsOf 85 = 20 := by kernel_rfl
theorem cell_Ran : Tryz.prog.cellsOf 68 = 23 := by kernel_rfl
theorem cell_LEntry : Tryz.prog.cellsOf 26 = 1 := by kernel_rfl
theorem cell_LNumbered : Tryz.prog.cellsOf 49 = 1 := by kernel_rfl
theorem cell_LRan : Tryz.prog.cellsOf 22 = 1 := by kernel_rfl
theorem cell_Image : Tryz.prog.cellsOf 51 = 6 := by kernel_rfl
theorem cell_View : Tryz.prog.cellsOf 53 = 8 := by kernel_rfl
theorem cell_LView : Tryz.prog.cellsOf 44 = 1 := by kernel_rfl
theorem cell_Store : Tryz.prog.cellsOf 43 = 3 := by kernel_rfl
section
variable {H : Type} {enc : TypeId × Value → H} {w : World} {sp : Nat → Bool} {held : Bool}
theorem rd_M (n : Nat) (ih : ∀ m, m < n → ∀ (cs : List Value) (x : DataW H × List MemPlace), DataW.trod enc Tryz.prog w 0 sp held m 63 cs = some x → ∃ y : GV, RR w (encV y) cs) : ∀ (cs : List Value) (x : DataW H × List MemPlace), DataW.trod enc Tryz.prog w 0 sp held n 104 cs = some x → ∃ y : GE, RR w (encM y) cs := by
  intro cs x h
  obtain ⟨m, rfl, hl, hf⟩ := rr_field Tryz.underlying104 h
  rw [cell_Member] at hl
  obtain ⟨y0, h0⟩ := hf 0 _ rfl
  obtain ⟨a0, r0⟩ := rr_str Tryz.underlying9 h0
  change RR w _ ((cs.drop 0).take (Tryz.prog.cellsOf 9)) at r0
  rw [cell_string] at r0
  obtain ⟨y1, h1⟩ := hf 1 _ rfl
  obtain ⟨a1, r1⟩ := ih m (by omega) _ _ h1
  change RR w _ ((cs.drop 1).take (Tryz.prog.cellsOf 63)) at r1
  rw [cell_Value] at r1
  refine ⟨(a0, a1), ?_⟩
  have e := RR.step (off := 0) (k := 1) r0 (RR.step (off := 1) (k := 6) r1 (RR.fin hl))
  rw [encM_eq]
  simpa using e
theorem rd_V : ∀ (n : Nat) (cs : List Value) (x : DataW H × List MemPlace), DataW.trod enc Tryz.prog w 0 sp held n 63 cs = some x → ∃ y : GV, RR w (encV y) cs := by
  intro n
  induction n using Nat.strongRecOn with
  | _ n ih =>
  intro cs x h
  obtain ⟨m, rfl, hl, hf⟩ := rr_field Tryz.underlying63 h
  rw [cell_Value] at hl
  obtain ⟨y0, h0⟩ := hf 0 _ rfl
  obtain ⟨a0, r0⟩ := rr_int Tryz.underlying59 h0
  change RR w _ ((cs.drop 0).take (Tryz.prog.cellsOf 59)) at r0
  rw [cell_Kind] at r0
  obtain ⟨y1, h1⟩ := hf 1 _ rfl
  obtain ⟨a1, r1⟩ := rr_bool Tryz.underlying4 h1
  change RR w _ ((cs.drop 1).take (Tryz.prog.cellsOf 4)) at r1
  rw [cell_bool] at r1
  obtain ⟨y2, h2⟩ := hf 2 _ rfl
  obtain ⟨a2, r2⟩ := rr_int Tryz.underlying2 h2
  change RR w _ ((cs.drop 2).take (Tryz.prog.cellsOf 2)) at r2
  rw [cell_int64] at r2
  obtain ⟨y3, h3⟩ := hf 3 _ rfl
  obtain ⟨a3, r3⟩ := rr_str Tryz.underlying9 h3
  change RR w _ ((cs.drop 3).take (Tryz.prog.cellsOf 9)) at r3
  rw [cell_string] at r3
  obtain ⟨y4, h4⟩ := hf 4 _ rfl
  obtain ⟨a4, r4⟩ := rr_slice encV Tryz.underlying60 cell_Value (by decide) encV_length (fun m' cs x hm h => ih m' (by omega) cs x h) h4
  change RR w _ ((cs.drop 4).take (Tryz.prog.cellsOf 60)) at r4
  rw [cell_LValue] at r4
  obtain ⟨y5, h5⟩ := hf 5 _ rfl
  obtain ⟨a5, r5⟩ := rr_slice encM Tryz.underlying61 cell_Member (by decide) encM_len (fun m' cs x hm h => rd_M m' (fun m'' hm'' => ih m'' (by omega)) cs x h) h5
  change RR w _ ((cs.drop 5).take (Tryz.prog.cellsOf 61)) at r5
  rw [cell_LMember] at r5
  refine ⟨.mk a0 a1 a2 a3 a4 a5, ?_⟩
  have e := (RR.step (off := 0) (k := 1) r0 (RR.step (off := 1) (k := 1) r1 (RR.step (off := 2) (k := 1) r2 (RR.step (off := 3) (k := 1) r3 (RR.step (off := 4) (k := 1) r4 (RR.step (off := 5) (k := 1) r5 (RR.fin hl)))))))
  rw [encV_eq]
  simpa [List.append_assoc, GV.kind, GV.b, GV.n, GV.s, GV.list, GV.obj, GM.kind, GM.key, GM.to, GM.n, GM.had, GM.was, GM.has, GM.value, GM.list, encI] using e
theorem rd_E : ∀ (n : Nat) (cs : List Value) (x : DataW H × List MemPlace), DataW.trod enc Tryz.prog w 0 sp held n 70 cs = some x → ∃ y : GE, RR w (encM y) cs := by
  intro n
  intro cs x h
  obtain ⟨m, rfl, hl, hf⟩ := rr_field Tryz.underlying70 h
  rw [cell_Entry] at hl
  obtain ⟨y0, h0⟩ := hf 0 _ rfl
  obtain ⟨a0, r0⟩ := rr_str Tryz.underlying9 h0
  change RR w _ ((cs.drop 0).take (Tryz.prog.cellsOf 9)) at r0
  rw [cell_string] at r0
  obtain ⟨y1, h1⟩ := hf 1 _ rfl
  obtain ⟨a1, r1⟩ := rd_V _ _ _ h1
  change RR w _ ((cs.drop 1).take (Tryz.prog.cellsOf 63)) at r1
  rw [cell_Value] at r1
  refine ⟨(a0, a1), ?_⟩
  have e := (RR.step (off := 0) (k := 1) r0 (RR.step (off := 1) (k := 6) r1 (RR.fin hl)))
  rw [encM_eq]
  simpa [List.append_assoc, GV.kind, GV.b, GV.n, GV.s, GV.list, GV.obj, GM.kind, GM.key, GM.to, GM.n, GM.had, GM.was, GM.has, GM.value, GM.list, encI] using e
theorem rd_U : ∀ (n : Nat) (cs : List Value) (x : DataW H × List MemPlace), DataW.trod enc Tryz.prog w 0 sp held n 66 cs = some x → ∃ y : GM, RR w (encU y) cs := by
  intro n
  induction n using Nat.strongRecOn with
  | _ n ih =>
  intro cs x h
  obtain ⟨m, rfl, hl, hf⟩ := rr_field Tryz.underlying66 h
  rw [cell_Mutator] at hl
  obtain ⟨y0, h0⟩ := hf 0 _ rfl
  obtain ⟨a0, r0⟩ := rr_int Tryz.underlying58 h0
  change RR w _ ((cs.drop 0).take (Tryz.prog.cellsOf 58)) at r0
  rw [cell_MutKind] at r0
  obtain ⟨y1, h1⟩ := hf 1 _ rfl
  obtain ⟨a1, r1⟩ := rr_str Tryz.underlying9 h1
  change RR w _ ((cs.drop 1).take (Tryz.prog.cellsOf 9)) at r1
  rw [cell_string] at r1
  obtain ⟨y2, h2⟩ := hf 2 _ rfl
  obtain ⟨a2, r2⟩ := rr_str Tryz.underlying9 h2
  change RR w _ ((cs.drop 2).take (Tryz.prog.cellsOf 9)) at r2
  rw [cell_string] at r2
  obtain ⟨y3, h3⟩ := hf 3 _ rfl
  obtain ⟨a3, r3⟩ := rr_int Tryz.underlying2 h3
  change RR w _ ((cs.drop 3).take (Tryz.prog.cellsOf 2)) at r3
  rw [cell_int64] at r3
  obtain ⟨y4, h4⟩ := hf 4 _ rfl
  obtain ⟨a4, r4⟩ := rr_bool Tryz.underlying4 h4
  change RR w _ ((cs.drop 4).take (Tryz.prog.cellsOf 4)) at r4
  rw [cell_bool] at r4
  obtain ⟨y5, h5⟩ := hf 5 _ rfl
  obtain ⟨a5, r5⟩ := rd_V _ _ _ h5
  change RR w _ ((cs.drop 5).take (Tryz.prog.cellsOf 63)) at r5
  rw [cell_Value] at r5
  obtain ⟨y6, h6⟩ := hf 6 _ rfl
  obtain ⟨a6, r6⟩ := rr_bool Tryz.underlying4 h6
  change RR w _ ((cs.drop 11).take (Tryz.prog.cellsOf 4)) at r6
  rw [cell_bool] at r6
  obtain ⟨y7, h7⟩ := hf 7 _ rfl
  obtain ⟨a7, r7⟩ := rd_V _ _ _ h7
  change RR w _ ((cs.drop 12).take (Tryz.prog.cellsOf 63)) at r7
  rw [cell_Value] at r7
  obtain ⟨y8, h8⟩ := hf 8 _ rfl
  obtain ⟨a8, r8⟩ := rr_slice encU Tryz.underlying64 cell_Mutator (by decide) encU_length (fun m' cs x hm h => ih m' (by omega) cs x h) h8
  change RR w _ ((cs.drop 18).take (Tryz.prog.cellsOf 64)) at r8
  rw [cell_LMutator] at r8
  refine ⟨.mk a0 a1 a2 a3 a4 a5 a6 a7 a8, ?_⟩
  have e := (RR.step (off := 0) (k := 1) r0 (RR.step (off := 1) (k := 1) r1 (RR.step (off := 2) (k := 1) r2 (RR.step (off := 3) (k := 1) r3 (RR.step (off := 4) (k := 1) r4 (RR.step (off := 5) (k := 6) r5 (RR.step (off := 11) (k := 1) r6 (RR.step (off := 12) (k := 6) r7 (RR.step (off := 18) (k := 1) r8 (RR.fin hl))))))))))
  rw [encU_eq]
  simpa [List.append_assoc, GV.kind, GV.b, GV.n, GV.s, GV.list, GV.obj, GM.kind, GM.key, GM.to, GM.n, GM.had, GM.was, GM.has, GM.value, GM.list, encI] using e
theorem rd_N : ∀ (n : Nat) (cs : List Value) (x : DataW H × List MemPlace), DataW.trod enc Tryz.prog w 0 sp held n 85 cs = some x → ∃ y : GN, RR w (encN y) cs := by
  intro n
  intro cs x h
  obtain ⟨m, rfl, hl, hf⟩ := rr_field Tryz.underlying85 h
  rw [cell_Numbered] at hl
  obtain ⟨y0, h0⟩ := hf 0 _ rfl
  obtain ⟨a0, r0⟩ := rr_int Tryz.underlying23 h0
  change RR w _ ((cs.drop 0).take (Tryz.prog.cellsOf 23)) at r0
  rw [cell_uint64] at r0
  obtain ⟨y1, h1⟩ := hf 1 _ rfl
  obtain ⟨a1, r1⟩ := rd_U _ _ _ h1
  change RR w _ ((cs.drop 1).take (Tryz.prog.cellsOf 66)) at r1
  rw [cell_Mutator] at r1
  refine ⟨⟨a0, a1⟩, ?_⟩
  have e := (RR.step (off := 0) (k := 1) r0 (RR.step (off := 1) (k := 19) r1 (RR.fin hl)))
  rw [encN_eq]
  simpa [List.append_assoc, GV.kind, GV.b, GV.n, GV.s, GV.list, GV.obj, GM.kind, GM.key, GM.to, GM.n, GM.had, GM.was, GM.has, GM.value, GM.list, encI] using e
theorem rd_R : ∀ (n : Nat) (cs : List Value) (x : DataW H × List MemPlace), DataW.trod enc Tryz.prog w 0 sp held n 68 cs = some x → ∃ y : GR, RR w (encR y) cs := by
  intro n
  intro cs x h
  obtain ⟨m, rfl, hl, hf⟩ := rr_field Tryz.underlying68 h
  rw [cell_Ran] at hl
  obtain ⟨y0, h0⟩ := hf 0 _ rfl
  obtain ⟨a0, r0⟩ := rr_int Tryz.underlying23 h0
  change RR w _ ((cs.drop 0).take (Tryz.prog.cellsOf 23)) at r0
  rw [cell_uint64] at r0
  obtain ⟨y1, h1⟩ := hf 1 _ rfl
  obtain ⟨a1, r1⟩ := rr_int Tryz.underlying23 h1
  change RR w _ ((cs.drop 1).take (Tryz.prog.cellsOf 23)) at r1
  rw [cell_uint64] at r1
  obtain ⟨y2, h2⟩ := hf 2 _ rfl
  obtain ⟨a2, r2⟩ := rr_int Tryz.underlying23 h2
  change RR w _ ((cs.drop 2).take (Tryz.prog.cellsOf 23)) at r2
  rw [cell_uint64] at r2
  obtain ⟨y3, h3⟩ := hf 3 _ rfl
  obtain ⟨a3, r3⟩ := rd_U _ _ _ h3
  change RR w _ ((cs.drop 3).take (Tryz.prog.cellsOf 66)) at r3
  rw [cell_Mutator] at r3
  obtain ⟨y4, h4⟩ := hf 4 _ rfl
  obtain ⟨a4, r4⟩ := rr_int Tryz.underlying27 h4
  change RR w _ ((cs.drop 22).take (Tryz.prog.cellsOf 27)) at r4
  rw [cell_Errno] at r4
  refine ⟨⟨a0, a1, a2, a3, a4⟩, ?_⟩
  have e := (RR.step (off := 0) (k := 1) r0 (RR.step (off := 1) (k := 1) r1 (RR.step (off := 2) (k := 1) r2 (RR.step (off := 3) (k := 19) r3 (RR.step (off := 22) (k := 1) r4 (RR.fin hl))))))
  rw [encR_eq]
  simpa [List.append_assoc, GV.kind, GV.b, GV.n, GV.s, GV.list, GV.obj, GM.kind, GM.key, GM.to, GM.n, GM.had, GM.was, GM.has, GM.value, GM.list, encI] using e
theorem rd_I : ∀ (n : Nat) (cs : List Value) (x : DataW H × List MemPlace), DataW.trod enc Tryz.prog w 0 sp held n 51 cs = some x → ∃ y : GI, RR w (encI y) cs := by
  intro n
  intro cs x h
  obtain ⟨m, rfl, hl, hf⟩ := rr_field Tryz.underlying51 h
  rw [cell_Image] at hl
  obtain ⟨y0, h0⟩ := hf 0 _ rfl
  obtain ⟨a0, r0⟩ := rr_int Tryz.underlying23 h0
  change RR w _ ((cs.drop 0).take (Tryz.prog.cellsOf 23)) at r0
  rw [cell_uint64] at r0
  obtain ⟨y1, h1⟩ := hf 1 _ rfl
  obtain ⟨a1, r1⟩ := rr_int Tryz.underlying23 h1
  change RR w _ ((cs.drop 1).take (Tryz.prog.cellsOf 23)) at r1
  rw [cell_uint64] at r1
  obtain ⟨y2, h2⟩ := hf 2 _ rfl
  obtain ⟨a2, r2⟩ := rr_int Tryz.underlying23 h2
  change RR w _ ((cs.drop 2).take (Tryz.prog.cellsOf 23)) at r2
  rw [cell_uint64] at r2
  obtain ⟨y3, h3⟩ := hf 3 _ rfl
  obtain ⟨a3, r3⟩ := rr_int Tryz.underlying23 h3
  change RR w _ ((cs.drop 3).take (Tryz.prog.cellsOf 23)) at r3
  rw [cell_uint64] at r3
  obtain ⟨y4, h4⟩ := hf 4 _ rfl
  obtain ⟨a4, r4⟩ := rr_slice encM Tryz.underlying26 cell_Entry (by decide) encM_len (fun m' cs x hm h => rd_E m' cs x h) h4
  change RR w _ ((cs.drop 4).take (Tryz.prog.cellsOf 26)) at r4
  rw [cell_LEntry] at r4
  obtain ⟨y5, h5⟩ := hf 5 _ rfl
  obtain ⟨a5, r5⟩ := rr_slice encN Tryz.underlying49 cell_Numbered (by decide) encN_length (fun m' cs x hm h => rd_N m' cs x h) h5
  change RR w _ ((cs.drop 5).take (Tryz.prog.cellsOf 49)) at r5
  rw [cell_LNumbered] at r5
  refine ⟨⟨a0, a1, a2, a3, a4, a5⟩, ?_⟩
  have e := (RR.step (off := 0) (k := 1) r0 (RR.step (off := 1) (k := 1) r1 (RR.step (off := 2) (k := 1) r2 (RR.step (off := 3) (k := 1) r3 (RR.step (off := 4) (k := 1) r4 (RR.step (off := 5) (k := 1) r5 (RR.fin hl)))))))
  rw [encI]
  simpa [List.append_assoc, GV.kind, GV.b, GV.n, GV.s, GV.list, GV.obj, GM.kind, GM.key, GM.to, GM.n, GM.had, GM.was, GM.has, GM.value, GM.list, encI] using e
theorem rd_W : ∀ (n : Nat) (cs : List Value) (x : DataW H × List MemPlace), DataW.trod enc Tryz.prog w 0 sp held n 53 cs = some x → ∃ y : GW, RR w (encW y) cs := by
  intro n
  intro cs x h
  obtain ⟨m, rfl, hl, hf⟩ := rr_field Tryz.underlying53 h
  rw [cell_View] at hl
  obtain ⟨y0, h0⟩ := hf 0 _ rfl
  obtain ⟨a0, r0⟩ := rd_I _ _ _ h0
  change RR w _ ((cs.drop 0).take (Tryz.prog.cellsOf 51)) at r0
  rw [cell_Image] at r0
  obtain ⟨y1, h1⟩ := hf 1 _ rfl
  obtain ⟨a1, r1⟩ := rr_slice encM Tryz.underlying26 cell_Entry (by decide) encM_len (fun m' cs x hm h => rd_E m' cs x h) h1
  change RR w _ ((cs.drop 6).take (Tryz.prog.cellsOf 26)) at r1
  rw [cell_LEntry] at r1
  obtain ⟨y2, h2⟩ := hf 2 _ rfl
  obtain ⟨a2, r2⟩ := rr_int Tryz.underlying23 h2
  change RR w _ ((cs.drop 7).take (Tryz.prog.cellsOf 23)) at r2
  rw [cell_uint64] at r2
  refine ⟨⟨a0, a1, a2⟩, ?_⟩
  have e := (RR.step (off := 0) (k := 6) r0 (RR.step (off := 6) (k := 1) r1 (RR.step (off := 7) (k := 1) r2 (RR.fin hl))))
  rw [encW]
  simpa [List.append_assoc, GV.kind, GV.b, GV.n, GV.s, GV.list, GV.obj, GM.kind, GM.key, GM.to, GM.n, GM.had, GM.was, GM.has, GM.value, GM.list, encI] using e
theorem rd_S : ∀ (n : Nat) (cs : List Value) (x : DataW H × List MemPlace), DataW.trod enc Tryz.prog w 0 sp held n 43 cs = some x → ∃ y : GS, RR w (encS y) cs := by
  intro n
  intro cs x h
  obtain ⟨m, rfl, hl, hf⟩ := rr_field Tryz.underlying43 h
  rw [cell_Store] at hl
  obtain ⟨y0, h0⟩ := hf 0 _ rfl
  obtain ⟨a0, r0⟩ := rr_int Tryz.underlying23 h0
  change RR w _ ((cs.drop 0).take (Tryz.prog.cellsOf 23)) at r0
  rw [cell_uint64] at r0
  obtain ⟨y1, h1⟩ := hf 1 _ rfl
  obtain ⟨a1, r1⟩ := rr_slice encM Tryz.underlying26 cell_Entry (by decide) encM_len (fun m' cs x hm h => rd_E m' cs x h) h1
  change RR w _ ((cs.drop 1).take (Tryz.prog.cellsOf 26)) at r1
  rw [cell_LEntry] at r1
  obtain ⟨y2, h2⟩ := hf 2 _ rfl
  obtain ⟨a2, r2⟩ := rr_slice encR Tryz.underlying22 cell_Ran (by decide) encR_length (fun m' cs x hm h => rd_R m' cs x h) h2
  change RR w _ ((cs.drop 2).take (Tryz.prog.cellsOf 22)) at r2
  rw [cell_LRan] at r2
  refine ⟨⟨a0, a1, a2⟩, ?_⟩
  have e := (RR.step (off := 0) (k := 1) r0 (RR.step (off := 1) (k := 1) r1 (RR.step (off := 2) (k := 1) r2 (RR.fin hl))))
  rw [encS]
  simpa [List.append_assoc, GV.kind, GV.b, GV.n, GV.s, GV.list, GV.obj, GM.kind, GM.key, GM.to, GM.n, GM.had, GM.was, GM.has, GM.value, GM.list, encI] using e
theorem rd_Ws (n : Nat) (cs : List Value) (x : DataW H × List MemPlace) (h : DataW.trod enc Tryz.prog w 0 sp held n 44 cs = some x) : ∃ l : List GW, RR w [.slice (l.map encW) false] cs :=
  rr_slice encW Tryz.underlying44 cell_View (by decide) encW_length (fun m' cs x hm h => rd_W m' cs x h) h
theorem rd_Rs (n : Nat) (cs : List Value) (x : DataW H × List MemPlace) (h : DataW.trod enc Tryz.prog w 0 sp held n 22 cs = some x) : ∃ l : List GR, RR w [.slice (l.map encR) false] cs :=
  rr_slice encR Tryz.underlying22 cell_Ran (by decide) encR_length (fun m' cs x hm h => rd_R m' cs x h) h
theorem rd_Ns (n : Nat) (cs : List Value) (x : DataW H × List MemPlace) (h : DataW.trod enc Tryz.prog w 0 sp held n 49 cs = some x) : ∃ l : List GN, RR w [.slice (l.map encN) false] cs :=
  rr_slice encN Tryz.underlying49 cell_Numbered (by decide) encN_length (fun m' cs x hm h => rd_N m' cs x h) h
end
end Go.Ab
