/- The types of this translation, as the evaluator asks for them. Written by a program (wip/tools/titab.py). -/
import Derived.Test.YtjopicjammmbjaaGreatDoorAbSeal
import Derived.Test.YtjopicjammmbjaaGreatDoorProg
import Derived.KernelRfl
set_option maxHeartbeats 4000000
set_option maxRecDepth 20000
set_option linter.unusedVariables false
set_option linter.unusedSimpArgs false
namespace Go.Ab
open Go.Proofs
theorem tiAt {P : Program} : ∀ {l : List (Nat × TI)}, l.map (fun p => tiOf P p.1) = l.map (fun p => some p.2) → ∀ {k t : Nat} {x : TI}, l[k]? = some (t, x) → tiOf P t = some x
  | [], _, k, t, x, h => by simp at h
  | p :: l, h, 0, t, x, hk => by simp at hk; subst hk; simpa using (List.cons.inj h).1
  | p :: l, h, k + 1, t, x, hk => tiAt (List.cons.inj h).2 (by simpa using hk)
def tiL0 : List (Nat × TI) := [
  (0, ⟨1, false, [(.tuple #[])], 0, .other⟩),
  (1, ⟨1, false, [.nilFunc], 8, .func⟩),
  (2, ⟨1, false, [(.int .i64 0)], 8, (.int .i64)⟩),
  (3, ⟨1, false, [(.int .i64 0)], 8, (.int .i64)⟩),
  (4, ⟨1, false, [(.bool false)], 1, .bool⟩),
  (5, ⟨1, false, [(.int .u8 0)], 1, (.int .u8)⟩),
  (6, ⟨1, false, [(.int .u8 0)], 1, (.int .u8)⟩),
  (7, ⟨4, true, [(.int .i64 0), (.int .i64 0), (.bool false), (.int .u8 0)], 24, (.struct [(0, (1, false)), (1, (1, false)), (2, (1, false)), (3, (1, false))])⟩),
  (8, ⟨4, true, [(.int .i64 0), (.int .i64 0), (.bool false), (.int .u8 0)], 24, (.struct [(0, (1, false)), (1, (1, false)), (2, (1, false)), (3, (1, false))])⟩),
  (9, ⟨1, false, [(.string ByteArray.empty)], 16, .str⟩),
  (10, ⟨1, false, [(.string ByteArray.empty)], 16, .str⟩),
  (11, ⟨1, false, [(.string ByteArray.empty)], 16, .str⟩),
  (12, ⟨1, false, [(.int .u64 0)], 8, (.int .u64)⟩),
  (13, ⟨2, true, [(.string ByteArray.empty), (.int .u64 0)], 24, (.struct [(0, (1, false)), (1, (1, false))])⟩),
  (14, ⟨2, true, [(.string ByteArray.empty), (.int .u64 0)], 24, (.struct [(0, (1, false)), (1, (1, false))])⟩),
  (15, ⟨1, false, [(.pointer none)], 8, (.ptr 326)⟩),
  (16, ⟨1, false, [(.pointer none)], 8, (.ptr 329)⟩),
  (17, ⟨1, false, [(.pointer none)], 8, (.ptr 336)⟩),
  (18, ⟨1, true, [(.pointer none)], 8, (.struct [(0, (1, false))])⟩),
  (19, ⟨1, true, [(.pointer none)], 8, (.struct [(0, (1, false))])⟩),
  (20, ⟨1, false, [.nilIface], 16, .iface⟩),
  (21, ⟨1, false, [(.int .i32 0)], 4, (.int .i32)⟩),
  (22, ⟨1, false, [(.slice none 0 0)], 24, (.slice 68)⟩),
  (23, ⟨1, false, [(.int .u64 0)], 8, (.int .u64)⟩),
  (24, ⟨1, false, [.nilFunc], 8, .func⟩),
  (25, ⟨1, false, [.nilFunc], 8, .func⟩),
  (26, ⟨1, false, [(.slice none 0 0)], 24, (.slice 70)⟩),
  (27, ⟨1, false, [(.int .i64 0)], 8, (.int .i64)⟩),
  (28, ⟨1, false, [(.tuple #[(.slice none 0 0), (.int .i64 0)])], 0, .other⟩),
  (29, ⟨1, false, [.nilFunc], 8, .func⟩),
  (30, ⟨1, false, [.nilFunc], 8, .func⟩),
  (31, ⟨1, false, [.nilFunc], 8, .func⟩),
  (32, ⟨1, false, [.nilFunc], 8, .func⟩),
  (33, ⟨1, true, [(.slice none 0 0)], 24, (.struct [(0, (1, false))])⟩),
  (34, ⟨1, true, [(.slice none 0 0)], 24, (.struct [(0, (1, false))])⟩),
  (35, ⟨1, false, [(.pointer none)], 8, (.ptr 34)⟩),
  (36, ⟨1, false, [.nilFunc], 8, .func⟩),
  (37, ⟨1, false, [.nilFunc], 8, .func⟩),
  (38, ⟨1, false, [(.tuple #[(.int .i64 0), (.int .i64 0)])], 0, .other⟩),
  (39, ⟨1, false, [.nilFunc], 8, .func⟩)]
theorem tiAll0 : tiL0.map (fun p => tiOf Tryz.prog p.1) = tiL0.map (fun p => some p.2) := by kernel_rfl
theorem ti0 : tiOf Tryz.prog 0 = some ⟨1, false, [(.tuple #[])], 0, .other⟩ := tiAt tiAll0 (k := 0) rfl
theorem ti1 : tiOf Tryz.prog 1 = some ⟨1, false, [.nilFunc], 8, .func⟩ := tiAt tiAll0 (k := 1) rfl
theorem ti2 : tiOf Tryz.prog 2 = some ⟨1, false, [(.int .i64 0)], 8, (.int .i64)⟩ := tiAt tiAll0 (k := 2) rfl
theorem ti3 : tiOf Tryz.prog 3 = some ⟨1, false, [(.int .i64 0)], 8, (.int .i64)⟩ := tiAt tiAll0 (k := 3) rfl
theorem ti4 : tiOf Tryz.prog 4 = some ⟨1, false, [(.bool false)], 1, .bool⟩ := tiAt tiAll0 (k := 4) rfl
theorem ti5 : tiOf Tryz.prog 5 = some ⟨1, false, [(.int .u8 0)], 1, (.int .u8)⟩ := tiAt tiAll0 (k := 5) rfl
theorem ti6 : tiOf Tryz.prog 6 = some ⟨1, false, [(.int .u8 0)], 1, (.int .u8)⟩ := tiAt tiAll0 (k := 6) rfl
theorem ti7 : tiOf Tryz.prog 7 = some ⟨4, true, [(.int .i64 0), (.int .i64 0), (.bool false), (.int .u8 0)], 24, (.struct [(0, (1, false)), (1, (1, false)), (2, (1, false)), (3, (1, false))])⟩ := tiAt tiAll0 (k := 7) rfl
theorem ti8 : tiOf Tryz.prog 8 = some ⟨4, true, [(.int .i64 0), (.int .i64 0), (.bool false), (.int .u8 0)], 24, (.struct [(0, (1, false)), (1, (1, false)), (2, (1, false)), (3, (1, false))])⟩ := tiAt tiAll0 (k := 8) rfl
theorem ti9 : tiOf Tryz.prog 9 = some ⟨1, false, [(.string ByteArray.empty)], 16, .str⟩ := tiAt tiAll0 (k := 9) rfl
theorem ti10 : tiOf Tryz.prog 10 = some ⟨1, false, [(.string ByteArray.empty)], 16, .str⟩ := tiAt tiAll0 (k := 10) rfl
theorem ti11 : tiOf Tryz.prog 11 = some ⟨1, false, [(.string ByteArray.empty)], 16, .str⟩ := tiAt tiAll0 (k := 11) rfl
theorem ti12 : tiOf Tryz.prog 12 = some ⟨1, false, [(.int .u64 0)], 8, (.int .u64)⟩ := tiAt tiAll0 (k := 12) rfl
theorem ti13 : tiOf Tryz.prog 13 = some ⟨2, true, [(.string ByteArray.empty), (.int .u64 0)], 24, (.struct [(0, (1, false)), (1, (1, false))])⟩ := tiAt tiAll0 (k := 13) rfl
theorem ti14 : tiOf Tryz.prog 14 = some ⟨2, true, [(.string ByteArray.empty), (.int .u64 0)], 24, (.struct [(0, (1, false)), (1, (1, false))])⟩ := tiAt tiAll0 (k := 14) rfl
theorem ti15 : tiOf Tryz.prog 15 = some ⟨1, false, [(.pointer none)], 8, (.ptr 326)⟩ := tiAt tiAll0 (k := 15) rfl
theorem ti16 : tiOf Tryz.prog 16 = some ⟨1, false, [(.pointer none)], 8, (.ptr 329)⟩ := tiAt tiAll0 (k := 16) rfl
theorem ti17 : tiOf Tryz.prog 17 = some ⟨1, false, [(.pointer none)], 8, (.ptr 336)⟩ := tiAt tiAll0 (k := 17) rfl
theorem ti18 : tiOf Tryz.prog 18 = some ⟨1, true, [(.pointer none)], 8, (.struct [(0, (1, false))])⟩ := tiAt tiAll0 (k := 18) rfl
theorem ti19 : tiOf Tryz.prog 19 = some ⟨1, true, [(.pointer none)], 8, (.struct [(0, (1, false))])⟩ := tiAt tiAll0 (k := 19) rfl
theorem ti20 : tiOf Tryz.prog 20 = some ⟨1, false, [.nilIface], 16, .iface⟩ := tiAt tiAll0 (k := 20) rfl
theorem ti21 : tiOf Tryz.prog 21 = some ⟨1, false, [(.int .i32 0)], 4, (.int .i32)⟩ := tiAt tiAll0 (k := 21) rfl
theorem ti22 : tiOf Tryz.prog 22 = some ⟨1, false, [(.slice none 0 0)], 24, (.slice 68)⟩ := tiAt tiAll0 (k := 22) rfl
theorem ti23 : tiOf Tryz.prog 23 = some ⟨1, false, [(.int .u64 0)], 8, (.int .u64)⟩ := tiAt tiAll0 (k := 23) rfl
theorem ti24 : tiOf Tryz.prog 24 = some ⟨1, false, [.nilFunc], 8, .func⟩ := tiAt tiAll0 (k := 24) rfl
theorem ti25 : tiOf Tryz.prog 25 = some ⟨1, false, [.nilFunc], 8, .func⟩ := tiAt tiAll0 (k := 25) rfl
theorem ti26 : tiOf Tryz.prog 26 = some ⟨1, false, [(.slice none 0 0)], 24, (.slice 70)⟩ := tiAt tiAll0 (k := 26) rfl
theorem ti27 : tiOf Tryz.prog 27 = some ⟨1, false, [(.int .i64 0)], 8, (.int .i64)⟩ := tiAt tiAll0 (k := 27) rfl
theorem ti28 : tiOf Tryz.prog 28 = some ⟨1, false, [(.tuple #[(.slice none 0 0), (.int .i64 0)])], 0, .other⟩ := tiAt tiAll0 (k := 28) rfl
theorem ti29 : tiOf Tryz.prog 29 = some ⟨1, false, [.nilFunc], 8, .func⟩ := tiAt tiAll0 (k := 29) rfl
theorem ti30 : tiOf Tryz.prog 30 = some ⟨1, false, [.nilFunc], 8, .func⟩ := tiAt tiAll0 (k := 30) rfl
theorem ti31 : tiOf Tryz.prog 31 = some ⟨1, false, [.nilFunc], 8, .func⟩ := tiAt tiAll0 (k := 31) rfl
theorem ti32 : tiOf Tryz.prog 32 = some ⟨1, false, [.nilFunc], 8, .func⟩ := tiAt tiAll0 (k := 32) rfl
theorem ti33 : tiOf Tryz.prog 33 = some ⟨1, true, [(.slice none 0 0)], 24, (.struct [(0, (1, false))])⟩ := tiAt tiAll0 (k := 33) rfl
theorem ti34 : tiOf Tryz.prog 34 = some ⟨1, true, [(.slice none 0 0)], 24, (.struct [(0, (1, false))])⟩ := tiAt tiAll0 (k := 34) rfl
theorem ti35 : tiOf Tryz.prog 35 = some ⟨1, false, [(.pointer none)], 8, (.ptr 34)⟩ := tiAt tiAll0 (k := 35) rfl
theorem ti36 : tiOf Tryz.prog 36 = some ⟨1, false, [.nilFunc], 8, .func⟩ := tiAt tiAll0 (k := 36) rfl
theorem ti37 : tiOf Tryz.prog 37 = some ⟨1, false, [.nilFunc], 8, .func⟩ := tiAt tiAll0 (k := 37) rfl
theorem ti38 : tiOf Tryz.prog 38 = some ⟨1, false, [(.tuple #[(.int .i64 0), (.int .i64 0)])], 0, .other⟩ := tiAt tiAll0 (k := 38) rfl
theorem ti39 : tiOf Tryz.prog 39 = some ⟨1, false, [.nilFunc], 8, .func⟩ := tiAt tiAll0 (k := 39) rfl
def tiL1 : List (Nat × TI) := [
  (40, ⟨1, false, [(.tuple #[(.int .i64 0), (.int .i64 0)])], 0, .other⟩),
  (41, ⟨1, false, [.nilFunc], 8, .func⟩),
  (42, ⟨3, true, [(.int .u64 0), (.slice none 0 0), (.slice none 0 0)], 56, (.struct [(0, (1, false)), (1, (1, false)), (2, (1, false))])⟩),
  (43, ⟨3, true, [(.int .u64 0), (.slice none 0 0), (.slice none 0 0)], 56, (.struct [(0, (1, false)), (1, (1, false)), (2, (1, false))])⟩),
  (44, ⟨1, false, [(.slice none 0 0)], 24, (.slice 53)⟩),
  (45, ⟨1, false, [.nilFunc], 8, .func⟩),
  (46, ⟨1, false, [.nilFunc], 8, .func⟩),
  (47, ⟨1, false, [.nilFunc], 8, .func⟩),
  (48, ⟨1, false, [.nilFunc], 8, .func⟩),
  (49, ⟨1, false, [(.slice none 0 0)], 24, (.slice 85)⟩),
  (50, ⟨6, true, [(.int .u64 0), (.int .u64 0), (.int .u64 0), (.int .u64 0), (.slice none 0 0), (.slice none 0 0)], 80, (.struct [(0, (1, false)), (1, (1, false)), (2, (1, false)), (3, (1, false)), (4, (1, false)), (5, (1, false))])⟩),
  (51, ⟨6, true, [(.int .u64 0), (.int .u64 0), (.int .u64 0), (.int .u64 0), (.slice none 0 0), (.slice none 0 0)], 80, (.struct [(0, (1, false)), (1, (1, false)), (2, (1, false)), (3, (1, false)), (4, (1, false)), (5, (1, false))])⟩),
  (52, ⟨8, true, [(.int .u64 0), (.int .u64 0), (.int .u64 0), (.int .u64 0), (.slice none 0 0), (.slice none 0 0), (.slice none 0 0), (.int .u64 0)], 112, (.struct [(0, (6, true)), (6, (1, false)), (7, (1, false))])⟩),
  (53, ⟨8, true, [(.int .u64 0), (.int .u64 0), (.int .u64 0), (.int .u64 0), (.slice none 0 0), (.slice none 0 0), (.slice none 0 0), (.int .u64 0)], 112, (.struct [(0, (6, true)), (6, (1, false)), (7, (1, false))])⟩),
  (54, ⟨1, false, [.nilFunc], 8, .func⟩),
  (55, ⟨1, false, [.nilFunc], 8, .func⟩),
  (56, ⟨1, false, [.nilFunc], 8, .func⟩),
  (57, ⟨1, false, [.nilFunc], 8, .func⟩),
  (58, ⟨1, false, [(.int .i64 0)], 8, (.int .i64)⟩),
  (59, ⟨1, false, [(.int .i64 0)], 8, (.int .i64)⟩),
  (60, ⟨1, false, [(.slice none 0 0)], 24, (.slice 63)⟩),
  (61, ⟨1, false, [(.slice none 0 0)], 24, (.slice 104)⟩),
  (62, ⟨6, true, [(.int .i64 0), (.bool false), (.int .i64 0), (.string ByteArray.empty), (.slice none 0 0), (.slice none 0 0)], 88, (.struct [(0, (1, false)), (1, (1, false)), (2, (1, false)), (3, (1, false)), (4, (1, false)), (5, (1, false))])⟩),
  (63, ⟨6, true, [(.int .i64 0), (.bool false), (.int .i64 0), (.string ByteArray.empty), (.slice none 0 0), (.slice none 0 0)], 88, (.struct [(0, (1, false)), (1, (1, false)), (2, (1, false)), (3, (1, false)), (4, (1, false)), (5, (1, false))])⟩),
  (64, ⟨1, false, [(.slice none 0 0)], 24, (.slice 66)⟩),
  (65, ⟨19, true, [(.int .i64 0), (.string ByteArray.empty), (.string ByteArray.empty), (.int .i64 0), (.bool false), (.int .i64 0), (.bool false), (.int .i64 0), (.string ByteArray.empty), (.slice none 0 0), (.slice none 0 0), (.bool false), (.int .i64 0), (.bool false), (.int .i64 0), (.string ByteArray.empty), (.slice none 0 0), (.slice none 0 0), (.slice none 0 0)], 264, (.struct [(0, (1, false)), (1, (1, false)), (2, (1, false)), (3, (1, false)), (4, (1, false)), (5, (6, true)), (11, (1, false)), (12, (6, true)), (18, (1, false))])⟩),
  (66, ⟨19, true, [(.int .i64 0), (.string ByteArray.empty), (.string ByteArray.empty), (.int .i64 0), (.bool false), (.int .i64 0), (.bool false), (.int .i64 0), (.string ByteArray.empty), (.slice none 0 0), (.slice none 0 0), (.bool false), (.int .i64 0), (.bool false), (.int .i64 0), (.string ByteArray.empty), (.slice none 0 0), (.slice none 0 0), (.slice none 0 0)], 264, (.struct [(0, (1, false)), (1, (1, false)), (2, (1, false)), (3, (1, false)), (4, (1, false)), (5, (6, true)), (11, (1, false)), (12, (6, true)), (18, (1, false))])⟩),
  (67, ⟨23, true, [(.int .u64 0), (.int .u64 0), (.int .u64 0), (.int .i64 0), (.string ByteArray.empty), (.string ByteArray.empty), (.int .i64 0), (.bool false), (.int .i64 0), (.bool false), (.int .i64 0), (.string ByteArray.empty), (.slice none 0 0), (.slice none 0 0), (.bool false), (.int .i64 0), (.bool false), (.int .i64 0), (.string ByteArray.empty), (.slice none 0 0), (.slice none 0 0), (.slice none 0 0), (.int .i64 0)], 296, (.struct [(0, (1, false)), (1, (1, false)), (2, (1, false)), (3, (19, true)), (22, (1, false))])⟩),
  (68, ⟨23, true, [(.int .u64 0), (.int .u64 0), (.int .u64 0), (.int .i64 0), (.string ByteArray.empty), (.string ByteArray.empty), (.int .i64 0), (.bool false), (.int .i64 0), (.bool false), (.int .i64 0), (.string ByteArray.empty), (.slice none 0 0), (.slice none 0 0), (.bool false), (.int .i64 0), (.bool false), (.int .i64 0), (.string ByteArray.empty), (.slice none 0 0), (.slice none 0 0), (.slice none 0 0), (.int .i64 0)], 296, (.struct [(0, (1, false)), (1, (1, false)), (2, (1, false)), (3, (19, true)), (22, (1, false))])⟩),
  (69, ⟨7, true, [(.string ByteArray.empty), (.int .i64 0), (.bool false), (.int .i64 0), (.string ByteArray.empty), (.slice none 0 0), (.slice none 0 0)], 104, (.struct [(0, (1, false)), (1, (6, true))])⟩),
  (70, ⟨7, true, [(.string ByteArray.empty), (.int .i64 0), (.bool false), (.int .i64 0), (.string ByteArray.empty), (.slice none 0 0), (.slice none 0 0)], 104, (.struct [(0, (1, false)), (1, (6, true))])⟩),
  (71, ⟨0, true, [], 0, (.arr 0 1)⟩),
  (72, ⟨1, false, [(.pointer none)], 8, (.ptr 154)⟩),
  (73, ⟨1, true, [(.pointer none)], 8, (.struct [(0, (0, true)), (0, (1, false))])⟩),
  (74, ⟨1, true, [(.pointer none)], 8, (.struct [(0, (0, true)), (0, (1, false))])⟩),
  (75, ⟨1, false, [(.tuple #[(.agg #[(.pointer none)]), (.int .i64 0)])], 0, .other⟩),
  (76, ⟨1, false, [.nilFunc], 8, .func⟩),
  (77, ⟨1, false, [.nilFunc], 8, .func⟩),
  (78, ⟨1, false, [.nilFunc], 8, .func⟩),
  (79, ⟨1, false, [(.tuple #[(.pointer none), (.int .i64 0)])], 0, .other⟩)]
theorem tiAll1 : tiL1.map (fun p => tiOf Tryz.prog p.1) = tiL1.map (fun p => some p.2) := by kernel_rfl
theorem ti40 : tiOf Tryz.prog 40 = some ⟨1, false, [(.tuple #[(.int .i64 0), (.int .i64 0)])], 0, .other⟩ := tiAt tiAll1 (k := 0) rfl
theorem ti41 : tiOf Tryz.prog 41 = some ⟨1, false, [.nilFunc], 8, .func⟩ := tiAt tiAll1 (k := 1) rfl
theorem ti42 : tiOf Tryz.prog 42 = some ⟨3, true, [(.int .u64 0), (.slice none 0 0), (.slice none 0 0)], 56, (.struct [(0, (1, false)), (1, (1, false)), (2, (1, false))])⟩ := tiAt tiAll1 (k := 2) rfl
theorem ti43 : tiOf Tryz.prog 43 = some ⟨3, true, [(.int .u64 0), (.slice none 0 0), (.slice none 0 0)], 56, (.struct [(0, (1, false)), (1, (1, false)), (2, (1, false))])⟩ := tiAt tiAll1 (k := 3) rfl
theorem ti44 : tiOf Tryz.prog 44 = some ⟨1, false, [(.slice none 0 0)], 24, (.slice 53)⟩ := tiAt tiAll1 (k := 4) rfl
theorem ti45 : tiOf Tryz.prog 45 = some ⟨1, false, [.nilFunc], 8, .func⟩ := tiAt tiAll1 (k := 5) rfl
theorem ti46 : tiOf Tryz.prog 46 = some ⟨1, false, [.nilFunc], 8, .func⟩ := tiAt tiAll1 (k := 6) rfl
theorem ti47 : tiOf Tryz.prog 47 = some ⟨1, false, [.nilFunc], 8, .func⟩ := tiAt tiAll1 (k := 7) rfl
theorem ti48 : tiOf Tryz.prog 48 = some ⟨1, false, [.nilFunc], 8, .func⟩ := tiAt tiAll1 (k := 8) rfl
theorem ti49 : tiOf Tryz.prog 49 = some ⟨1, false, [(.slice none 0 0)], 24, (.slice 85)⟩ := tiAt tiAll1 (k := 9) rfl
theorem ti50 : tiOf Tryz.prog 50 = some ⟨6, true, [(.int .u64 0), (.int .u64 0), (.int .u64 0), (.int .u64 0), (.slice none 0 0), (.slice none 0 0)], 80, (.struct [(0, (1, false)), (1, (1, false)), (2, (1, false)), (3, (1, false)), (4, (1, false)), (5, (1, false))])⟩ := tiAt tiAll1 (k := 10) rfl
theorem ti51 : tiOf Tryz.prog 51 = some ⟨6, true, [(.int .u64 0), (.int .u64 0), (.int .u64 0), (.int .u64 0), (.slice none 0 0), (.slice none 0 0)], 80, (.struct [(0, (1, false)), (1, (1, false)), (2, (1, false)), (3, (1, false)), (4, (1, false)), (5, (1, false))])⟩ := tiAt tiAll1 (k := 11) rfl
theorem ti52 : tiOf Tryz.prog 52 = some ⟨8, true, [(.int .u64 0), (.int .u64 0), (.int .u64 0), (.int .u64 0), (.slice none 0 0), (.slice none 0 0), (.slice none 0 0), (.int .u64 0)], 112, (.struct [(0, (6, true)), (6, (1, false)), (7, (1, false))])⟩ := tiAt tiAll1 (k := 12) rfl
theorem ti53 : tiOf Tryz.prog 53 = some ⟨8, true, [(.int .u64 0), (.int .u64 0), (.int .u64 0), (.int .u64 0), (.slice none 0 0), (.slice none 0 0), (.slice none 0 0), (.int .u64 0)], 112, (.struct [(0, (6, true)), (6, (1, false)), (7, (1, false))])⟩ := tiAt tiAll1 (k := 13) rfl
theorem ti54 : tiOf Tryz.prog 54 = some ⟨1, false, [.nilFunc], 8, .func⟩ := tiAt tiAll1 (k := 14) rfl
theorem ti55 : tiOf Tryz.prog 55 = some ⟨1, false, [.nilFunc], 8, .func⟩ := tiAt tiAll1 (k := 15) rfl
theorem ti56 : tiOf Tryz.prog 56 = some ⟨1, false, [.nilFunc], 8, .func⟩ := tiAt tiAll1 (k := 16) rfl
theorem ti57 : tiOf Tryz.prog 57 = some ⟨1, false, [.nilFunc], 8, .func⟩ := tiAt tiAll1 (k := 17) rfl
theorem ti58 : tiOf Tryz.prog 58 = some ⟨1, false, [(.int .i64 0)], 8, (.int .i64)⟩ := tiAt tiAll1 (k := 18) rfl
theorem ti59 : tiOf Tryz.prog 59 = some ⟨1, false, [(.int .i64 0)], 8, (.int .i64)⟩ := tiAt tiAll1 (k := 19) rfl
theorem ti60 : tiOf Tryz.prog 60 = some ⟨1, false, [(.slice none 0 0)], 24, (.slice 63)⟩ := tiAt tiAll1 (k := 20) rfl
theorem ti61 : tiOf Tryz.prog 61 = some ⟨1, false, [(.slice none 0 0)], 24, (.slice 104)⟩ := tiAt tiAll1 (k := 21) rfl
theorem ti62 : tiOf Tryz.prog 62 = some ⟨6, true, [(.int .i64 0), (.bool false), (.int .i64 0), (.string ByteArray.empty), (.slice none 0 0), (.slice none 0 0)], 88, (.struct [(0, (1, false)), (1, (1, false)), (2, (1, false)), (3, (1, false)), (4, (1, false)), (5, (1, false))])⟩ := tiAt tiAll1 (k := 22) rfl
theorem ti63 : tiOf Tryz.prog 63 = some ⟨6, true, [(.int .i64 0), (.bool false), (.int .i64 0), (.string ByteArray.empty), (.slice none 0 0), (.slice none 0 0)], 88, (.struct [(0, (1, false)), (1, (1, false)), (2, (1, false)), (3, (1, false)), (4, (1, false)), (5, (1, false))])⟩ := tiAt tiAll1 (k := 23) rfl
theorem ti64 : tiOf Tryz.prog 64 = some ⟨1, false, [(.slice none 0 0)], 24, (.slice 66)⟩ := tiAt tiAll1 (k := 24) rfl
theorem ti65 : tiOf Tryz.prog 65 = some ⟨19, true, [(.int .i64 0), (.string ByteArray.empty), (.string ByteArray.empty), (.int .i64 0), (.bool false), (.int .i64 0), (.bool false), (.int .i64 0), (.string ByteArray.empty), (.slice none 0 0), (.slice none 0 0), (.bool false), (.int .i64 0), (.bool false), (.int .i64 0), (.string ByteArray.empty), (.slice none 0 0), (.slice none 0 0), (.slice none 0 0)], 264, (.struct [(0, (1, false)), (1, (1, false)), (2, (1, false)), (3, (1, false)), (4, (1, false)), (5, (6, true)), (11, (1, false)), (12, (6, true)), (18, (1, false))])⟩ := tiAt tiAll1 (k := 25) rfl
theorem ti66 : tiOf Tryz.prog 66 = some ⟨19, true, [(.int .i64 0), (.string ByteArray.empty), (.string ByteArray.empty), (.int .i64 0), (.bool false), (.int .i64 0), (.bool false), (.int .i64 0), (.string ByteArray.empty), (.slice none 0 0), (.slice none 0 0), (.bool false), (.int .i64 0), (.bool false), (.int .i64 0), (.string ByteArray.empty), (.slice none 0 0), (.slice none 0 0), (.slice none 0 0)], 264, (.struct [(0, (1, false)), (1, (1, false)), (2, (1, false)), (3, (1, false)), (4, (1, false)), (5, (6, true)), (11, (1, false)), (12, (6, true)), (18, (1, false))])⟩ := tiAt tiAll1 (k := 26) rfl
theorem ti67 : tiOf Tryz.prog 67 = some ⟨23, true, [(.int .u64 0), (.int .u64 0), (.int .u64 0), (.int .i64 0), (.string ByteArray.empty), (.string ByteArray.empty), (.int .i64 0), (.bool false), (.int .i64 0), (.bool false), (.int .i64 0), (.string ByteArray.empty), (.slice none 0 0), (.slice none 0 0), (.bool false), (.int .i64 0), (.bool false), (.int .i64 0), (.string ByteArray.empty), (.slice none 0 0), (.slice none 0 0), (.slice none 0 0), (.int .i64 0)], 296, (.struct [(0, (1, false)), (1, (1, false)), (2, (1, false)), (3, (19, true)), (22, (1, false))])⟩ := tiAt tiAll1 (k := 27) rfl
theorem ti68 : tiOf Tryz.prog 68 = some ⟨23, true, [(.int .u64 0), (.int .u64 0), (.int .u64 0), (.int .i64 0), (.string ByteArray.empty), (.string ByteArray.empty), (.int .i64 0), (.bool false), (.int .i64 0), (.bool false), (.int .i64 0), (.string ByteArray.empty), (.slice none 0 0), (.slice none 0 0), (.bool false), (.int .i64 0), (.bool false), (.int .i64 0), (.string ByteArray.empty), (.slice none 0 0), (.slice none 0 0), (.slice none 0 0), (.int .i64 0)], 296, (.struct [(0, (1, false)), (1, (1, false)), (2, (1, false)), (3, (19, true)), (22, (1, false))])⟩ := tiAt tiAll1 (k := 28) rfl
theorem ti69 : tiOf Tryz.prog 69 = some ⟨7, true, [(.string ByteArray.empty), (.int .i64 0), (.bool false), (.int .i64 0), (.string ByteArray.empty), (.slice none 0 0), (.slice none 0 0)], 104, (.struct [(0, (1, false)), (1, (6, true))])⟩ := tiAt tiAll1 (k := 29) rfl
theorem ti70 : tiOf Tryz.prog 70 = some ⟨7, true, [(.string ByteArray.empty), (.int .i64 0), (.bool false), (.int .i64 0), (.string ByteArray.empty), (.slice none 0 0), (.slice none 0 0)], 104, (.struct [(0, (1, false)), (1, (6, true))])⟩ := tiAt tiAll1 (k := 30) rfl
theorem ti71 : tiOf Tryz.prog 71 = some ⟨0, true, [], 0, (.arr 0 1)⟩ := tiAt tiAll1 (k := 31) rfl
theorem ti72 : tiOf Tryz.prog 72 = some ⟨1, false, [(.pointer none)], 8, (.ptr 154)⟩ := tiAt tiAll1 (k := 32) rfl
theorem ti73 : tiOf Tryz.prog 73 = some ⟨1, true, [(.pointer none)], 8, (.struct [(0, (0, true)), (0, (1, false))])⟩ := tiAt tiAll1 (k := 33) rfl
theorem ti74 : tiOf Tryz.prog 74 = some ⟨1, true, [(.pointer none)], 8, (.struct [(0, (0, true)), (0, (1, false))])⟩ := tiAt tiAll1 (k := 34) rfl
theorem ti75 : tiOf Tryz.prog 75 = some ⟨1, false, [(.tuple #[(.agg #[(.pointer none)]), (.int .i64 0)])], 0, .other⟩ := tiAt tiAll1 (k := 35) rfl
theorem ti76 : tiOf Tryz.prog 76 = some ⟨1, false, [.nilFunc], 8, .func⟩ := tiAt tiAll1 (k := 36) rfl
theorem ti77 : tiOf Tryz.prog 77 = some ⟨1, false, [.nilFunc], 8, .func⟩ := tiAt tiAll1 (k := 37) rfl
theorem ti78 : tiOf Tryz.prog 78 = some ⟨1, false, [.nilFunc], 8, .func⟩ := tiAt tiAll1 (k := 38) rfl
theorem ti79 : tiOf Tryz.prog 79 = some ⟨1, false, [(.tuple #[(.pointer none), (.int .i64 0)])], 0, .other⟩ := tiAt tiAll1 (k := 39) rfl
def tiL2 : List (Nat × TI) := [
  (80, ⟨1, false, [.nilFunc], 8, .func⟩),
  (81, ⟨1, false, [(.tuple #[(.agg #[(.pointer none)]), (.int .i64 0), (.int .i64 0)])], 0, .other⟩),
  (82, ⟨1, false, [.nilFunc], 8, .func⟩),
  (83, ⟨1, false, [.nilFunc], 8, .func⟩),
  (84, ⟨20, true, [(.int .u64 0), (.int .i64 0), (.string ByteArray.empty), (.string ByteArray.empty), (.int .i64 0), (.bool false), (.int .i64 0), (.bool false), (.int .i64 0), (.string ByteArray.empty), (.slice none 0 0), (.slice none 0 0), (.bool false), (.int .i64 0), (.bool false), (.int .i64 0), (.string ByteArray.empty), (.slice none 0 0), (.slice none 0 0), (.slice none 0 0)], 272, (.struct [(0, (1, false)), (1, (19, true))])⟩),
  (85, ⟨20, true, [(.int .u64 0), (.int .i64 0), (.string ByteArray.empty), (.string ByteArray.empty), (.int .i64 0), (.bool false), (.int .i64 0), (.bool false), (.int .i64 0), (.string ByteArray.empty), (.slice none 0 0), (.slice none 0 0), (.bool false), (.int .i64 0), (.bool false), (.int .i64 0), (.string ByteArray.empty), (.slice none 0 0), (.slice none 0 0), (.slice none 0 0)], 272, (.struct [(0, (1, false)), (1, (19, true))])⟩),
  (86, ⟨2, true, [(.pointer none), (.int .u64 0)], 16, (.struct [(0, (1, true)), (1, (1, false))])⟩),
  (87, ⟨2, true, [(.pointer none), (.int .u64 0)], 16, (.struct [(0, (1, true)), (1, (1, false))])⟩),
  (88, ⟨1, false, [(.slice none 0 0)], 24, (.slice 87)⟩),
  (89, ⟨1, false, [.nilFunc], 8, .func⟩),
  (90, ⟨1, false, [.nilFunc], 8, .func⟩),
  (91, ⟨1, false, [.nilFunc], 8, .func⟩),
  (92, ⟨1, false, [.nilFunc], 8, .func⟩),
  (93, ⟨1, false, [(.slice none 0 0)], 24, (.slice 3)⟩),
  (94, ⟨1, false, [(.tuple #[(.pointer none), (.slice none 0 0)])], 0, .other⟩),
  (95, ⟨1, false, [.nilFunc], 8, .func⟩),
  (96, ⟨1, false, [(.pointer none)], 8, (.ptr 115)⟩),
  (97, ⟨1, false, [.nilFunc], 8, .func⟩),
  (98, ⟨1, false, [.nilFunc], 8, .func⟩),
  (99, ⟨1, false, [.nilFunc], 8, .func⟩),
  (100, ⟨1, false, [.nilFunc], 8, .func⟩),
  (101, ⟨1, false, [.nilFunc], 8, .func⟩),
  (102, ⟨1, false, [.nilFunc], 8, .func⟩),
  (103, ⟨1, false, [.nilFunc], 8, .func⟩),
  (104, ⟨7, true, [(.string ByteArray.empty), (.int .i64 0), (.bool false), (.int .i64 0), (.string ByteArray.empty), (.slice none 0 0), (.slice none 0 0)], 104, (.struct [(0, (1, false)), (1, (6, true))])⟩),
  (105, ⟨1, false, [.nilFunc], 8, .func⟩),
  (106, ⟨1, false, [(.map none)], 8, (.map 23 23)⟩),
  (107, ⟨1, false, [.nilFunc], 8, .func⟩),
  (108, ⟨1, false, [(.map none)], 8, (.map 23 93)⟩),
  (109, ⟨1, false, [.nilFunc], 8, .func⟩),
  (110, ⟨1, false, [.nilFunc], 8, .func⟩),
  (111, ⟨1, false, [.nilFunc], 8, .func⟩),
  (112, ⟨1, false, [(.map none)], 8, (.map 9 123)⟩),
  (113, ⟨1, false, [(.slice none 0 0)], 24, (.slice 1)⟩),
  (114, ⟨3, true, [(.pointer none), (.map none), (.slice none 0 0)], 40, (.struct [(0, (1, true)), (1, (1, false)), (2, (1, false))])⟩),
  (115, ⟨3, true, [(.pointer none), (.map none), (.slice none 0 0)], 40, (.struct [(0, (1, true)), (1, (1, false)), (2, (1, false))])⟩),
  (116, ⟨1, false, [.nilFunc], 8, .func⟩),
  (117, ⟨1, false, [(.slice none 0 0)], 24, (.slice 9)⟩),
  (118, ⟨1, false, [.nilFunc], 8, .func⟩),
  (119, ⟨1, false, [.nilFunc], 8, .func⟩)]
theorem tiAll2 : tiL2.map (fun p => tiOf Tryz.prog p.1) = tiL2.map (fun p => some p.2) := by kernel_rfl
theorem ti80 : tiOf Tryz.prog 80 = some ⟨1, false, [.nilFunc], 8, .func⟩ := tiAt tiAll2 (k := 0) rfl
theorem ti81 : tiOf Tryz.prog 81 = some ⟨1, false, [(.tuple #[(.agg #[(.pointer none)]), (.int .i64 0), (.int .i64 0)])], 0, .other⟩ := tiAt tiAll2 (k := 1) rfl
theorem ti82 : tiOf Tryz.prog 82 = some ⟨1, false, [.nilFunc], 8, .func⟩ := tiAt tiAll2 (k := 2) rfl
theorem ti83 : tiOf Tryz.prog 83 = some ⟨1, false, [.nilFunc], 8, .func⟩ := tiAt tiAll2 (k := 3) rfl
theorem ti84 : tiOf Tryz.prog 84 = some ⟨20, true, [(.int .u64 0), (.int .i64 0), (.string ByteArray.empty), (.string ByteArray.empty), (.int .i64 0), (.bool false), (.int .i64 0), (.bool false), (.int .i64 0), (.string ByteArray.empty), (.slice none 0 0), (.slice none 0 0), (.bool false), (.int .i64 0), (.bool false), (.int .i64 0), (.string ByteArray.empty), (.slice none 0 0), (.slice none 0 0), (.slice none 0 0)], 272, (.struct [(0, (1, false)), (1, (19, true))])⟩ := tiAt tiAll2 (k := 4) rfl
theorem ti85 : tiOf Tryz.prog 85 = some ⟨20, true, [(.int .u64 0), (.int .i64 0), (.string ByteArray.empty), (.string ByteArray.empty), (.int .i64 0), (.bool false), (.int .i64 0), (.bool false), (.int .i64 0), (.string ByteArray.empty), (.slice none 0 0), (.slice none 0 0), (.bool false), (.int .i64 0), (.bool false), (.int .i64 0), (.string ByteArray.empty), (.slice none 0 0), (.slice none 0 0), (.slice none 0 0)], 272, (.struct [(0, (1, false)), (1, (19, true))])⟩ := tiAt tiAll2 (k := 5) rfl
theorem ti86 : tiOf Tryz.prog 86 = some ⟨2, true, [(.pointer none), (.int .u64 0)], 16, (.struct [(0, (1, true)), (1, (1, false))])⟩ := tiAt tiAll2 (k := 6) rfl
theorem ti87 : tiOf Tryz.prog 87 = some ⟨2, true, [(.pointer none), (.int .u64 0)], 16, (.struct [(0, (1, true)), (1, (1, false))])⟩ := tiAt tiAll2 (k := 7) rfl
theorem ti88 : tiOf Tryz.prog 88 = some ⟨1, false, [(.slice none 0 0)], 24, (.slice 87)⟩ := tiAt tiAll2 (k := 8) rfl
theorem ti89 : tiOf Tryz.prog 89 = some ⟨1, false, [.nilFunc], 8, .func⟩ := tiAt tiAll2 (k := 9) rfl
theorem ti90 : tiOf Tryz.prog 90 = some ⟨1, false, [.nilFunc], 8, .func⟩ := tiAt tiAll2 (k := 10) rfl
theorem ti91 : tiOf Tryz.prog 91 = some ⟨1, false, [.nilFunc], 8, .func⟩ := tiAt tiAll2 (k := 11) rfl
theorem ti92 : tiOf Tryz.prog 92 = some ⟨1, false, [.nilFunc], 8, .func⟩ := tiAt tiAll2 (k := 12) rfl
theorem ti93 : tiOf Tryz.prog 93 = some ⟨1, false, [(.slice none 0 0)], 24, (.slice 3)⟩ := tiAt tiAll2 (k := 13) rfl
theorem ti94 : tiOf Tryz.prog 94 = some ⟨1, false, [(.tuple #[(.pointer none), (.slice none 0 0)])], 0, .other⟩ := tiAt tiAll2 (k := 14) rfl
theorem ti95 : tiOf Tryz.prog 95 = some ⟨1, false, [.nilFunc], 8, .func⟩ := tiAt tiAll2 (k := 15) rfl
theorem ti96 : tiOf Tryz.prog 96 = some ⟨1, false, [(.pointer none)], 8, (.ptr 115)⟩ := tiAt tiAll2 (k := 16) rfl
theorem ti97 : tiOf Tryz.prog 97 = some ⟨1, false, [.nilFunc], 8, .func⟩ := tiAt tiAll2 (k := 17) rfl
theorem ti98 : tiOf Tryz.prog 98 = some ⟨1, false, [.nilFunc], 8, .func⟩ := tiAt tiAll2 (k := 18) rfl
theorem ti99 : tiOf Tryz.prog 99 = some ⟨1, false, [.nilFunc], 8, .func⟩ := tiAt tiAll2 (k := 19) rfl
theorem ti100 : tiOf Tryz.prog 100 = some ⟨1, false, [.nilFunc], 8, .func⟩ := tiAt tiAll2 (k := 20) rfl
theorem ti101 : tiOf Tryz.prog 101 = some ⟨1, false, [.nilFunc], 8, .func⟩ := tiAt tiAll2 (k := 21) rfl
theorem ti102 : tiOf Tryz.prog 102 = some ⟨1, false, [.nilFunc], 8, .func⟩ := tiAt tiAll2 (k := 22) rfl
theorem ti103 : tiOf Tryz.prog 103 = some ⟨1, false, [.nilFunc], 8, .func⟩ := tiAt tiAll2 (k := 23) rfl
theorem ti104 : tiOf Tryz.prog 104 = some ⟨7, true, [(.string ByteArray.empty), (.int .i64 0), (.bool false), (.int .i64 0), (.string ByteArray.empty), (.slice none 0 0), (.slice none 0 0)], 104, (.struct [(0, (1, false)), (1, (6, true))])⟩ := tiAt tiAll2 (k := 24) rfl
theorem ti105 : tiOf Tryz.prog 105 = some ⟨1, false, [.nilFunc], 8, .func⟩ := tiAt tiAll2 (k := 25) rfl
theorem ti106 : tiOf Tryz.prog 106 = some ⟨1, false, [(.map none)], 8, (.map 23 23)⟩ := tiAt tiAll2 (k := 26) rfl
theorem ti107 : tiOf Tryz.prog 107 = some ⟨1, false, [.nilFunc], 8, .func⟩ := tiAt tiAll2 (k := 27) rfl
theorem ti108 : tiOf Tryz.prog 108 = some ⟨1, false, [(.map none)], 8, (.map 23 93)⟩ := tiAt tiAll2 (k := 28) rfl
theorem ti109 : tiOf Tryz.prog 109 = some ⟨1, false, [.nilFunc], 8, .func⟩ := tiAt tiAll2 (k := 29) rfl
theorem ti110 : tiOf Tryz.prog 110 = some ⟨1, false, [.nilFunc], 8, .func⟩ := tiAt tiAll2 (k := 30) rfl
theorem ti111 : tiOf Tryz.prog 111 = some ⟨1, false, [.nilFunc], 8, .func⟩ := tiAt tiAll2 (k := 31) rfl
theorem ti112 : tiOf Tryz.prog 112 = some ⟨1, false, [(.map none)], 8, (.map 9 123)⟩ := tiAt tiAll2 (k := 32) rfl
theorem ti113 : tiOf Tryz.prog 113 = some ⟨1, false, [(.slice none 0 0)], 24, (.slice 1)⟩ := tiAt tiAll2 (k := 33) rfl
theorem ti114 : tiOf Tryz.prog 114 = some ⟨3, true, [(.pointer none), (.map none), (.slice none 0 0)], 40, (.struct [(0, (1, true)), (1, (1, false)), (2, (1, false))])⟩ := tiAt tiAll2 (k := 34) rfl
theorem ti115 : tiOf Tryz.prog 115 = some ⟨3, true, [(.pointer none), (.map none), (.slice none 0 0)], 40, (.struct [(0, (1, true)), (1, (1, false)), (2, (1, false))])⟩ := tiAt tiAll2 (k := 35) rfl
theorem ti116 : tiOf Tryz.prog 116 = some ⟨1, false, [.nilFunc], 8, .func⟩ := tiAt tiAll2 (k := 36) rfl
theorem ti117 : tiOf Tryz.prog 117 = some ⟨1, false, [(.slice none 0 0)], 24, (.slice 9)⟩ := tiAt tiAll2 (k := 37) rfl
theorem ti118 : tiOf Tryz.prog 118 = some ⟨1, false, [.nilFunc], 8, .func⟩ := tiAt tiAll2 (k := 38) rfl
theorem ti119 : tiOf Tryz.prog 119 = some ⟨1, false, [.nilFunc], 8, .func⟩ := tiAt tiAll2 (k := 39) rfl
def tiL3 : List (Nat × TI) := [
  (120, ⟨1, false, [.nilFunc], 8, .func⟩),
  (121, ⟨1, false, [.nilFunc], 8, .func⟩),
  (122, ⟨7, true, [(.bool false), (.int .i64 0), (.bool false), (.int .i64 0), (.string ByteArray.empty), (.slice none 0 0), (.slice none 0 0)], 96, (.struct [(0, (1, false)), (1, (6, true))])⟩),
  (123, ⟨7, true, [(.bool false), (.int .i64 0), (.bool false), (.int .i64 0), (.string ByteArray.empty), (.slice none 0 0), (.slice none 0 0)], 96, (.struct [(0, (1, false)), (1, (6, true))])⟩),
  (124, ⟨1, false, [(.tuple #[(.agg #[(.int .i64 0), (.bool false), (.int .i64 0), (.string ByteArray.empty), (.slice none 0 0), (.slice none 0 0)]), (.bool false)])], 0, .other⟩),
  (125, ⟨1, false, [.nilFunc], 8, .func⟩),
  (126, ⟨1, false, [.nilFunc], 8, .func⟩),
  (127, ⟨1, false, [(.tuple #[(.agg #[(.pointer none)]), (.bool false)])], 0, .other⟩),
  (128, ⟨1, false, [.nilFunc], 8, .func⟩),
  (129, ⟨1, false, [(.slice none 0 0)], 24, (.slice 72)⟩),
  (130, ⟨1, false, [.nilFunc], 8, .func⟩),
  (131, ⟨1, false, [.nilFunc], 8, .func⟩),
  (132, ⟨1, false, [.nilFunc], 8, .func⟩),
  (133, ⟨1, false, [.nilFunc], 8, .func⟩),
  (134, ⟨1, false, [.nilFunc], 8, .func⟩),
  (135, ⟨1, false, [.nilFunc], 8, .func⟩),
  (136, ⟨1, false, [.nilFunc], 8, .func⟩),
  (137, ⟨1, false, [.nilFunc], 8, .func⟩),
  (138, ⟨1, false, [.nilFunc], 8, .func⟩),
  (139, ⟨1, false, [.nilFunc], 8, .func⟩),
  (140, ⟨1, false, [.nilFunc], 8, .func⟩),
  (141, ⟨1, false, [.nilFunc], 8, .func⟩),
  (142, ⟨1, false, [.nilFunc], 8, .func⟩),
  (143, ⟨1, false, [.nilFunc], 8, .func⟩),
  (144, ⟨1, false, [.nilFunc], 8, .func⟩),
  (145, ⟨1, false, [.nilFunc], 8, .func⟩),
  (146, ⟨1, false, [.nilFunc], 8, .func⟩),
  (147, ⟨1, false, [.nilFunc], 8, .func⟩),
  (148, ⟨1, false, [(.tuple #[(.pointer none), (.pointer none)])], 0, .other⟩),
  (149, ⟨1, false, [.nilFunc], 8, .func⟩),
  (150, ⟨1, false, [.nilFunc], 8, .func⟩),
  (151, ⟨1, false, [(.tuple #[(.pointer none), (.bool false)])], 0, .other⟩),
  (152, ⟨1, false, [.nilFunc], 8, .func⟩),
  (153, ⟨7, true, [(.slice none 0 0), (.slice none 0 0), (.int .i64 0), (.int .i64 0), (.string ByteArray.empty), (.string ByteArray.empty), (.bool false)], 104, (.struct [(0, (1, false)), (1, (1, false)), (2, (1, false)), (3, (1, false)), (4, (1, false)), (5, (1, false)), (6, (1, false))])⟩),
  (154, ⟨7, true, [(.slice none 0 0), (.slice none 0 0), (.int .i64 0), (.int .i64 0), (.string ByteArray.empty), (.string ByteArray.empty), (.bool false)], 104, (.struct [(0, (1, false)), (1, (1, false)), (2, (1, false)), (3, (1, false)), (4, (1, false)), (5, (1, false)), (6, (1, false))])⟩),
  (155, ⟨1, false, [.nilFunc], 8, .func⟩),
  (156, ⟨1, false, [.nilFunc], 8, .func⟩),
  (157, ⟨1, false, [.nilFunc], 8, .func⟩),
  (158, ⟨1, false, [.nilFunc], 8, .func⟩),
  (159, ⟨1, false, [(.pointer none)], 8, (.ptr 164)⟩)]
theorem tiAll3 : tiL3.map (fun p => tiOf Tryz.prog p.1) = tiL3.map (fun p => some p.2) := by kernel_rfl
theorem ti120 : tiOf Tryz.prog 120 = some ⟨1, false, [.nilFunc], 8, .func⟩ := tiAt tiAll3 (k := 0) rfl
theorem ti121 : tiOf Tryz.prog 121 = some ⟨1, false, [.nilFunc], 8, .func⟩ := tiAt tiAll3 (k := 1) rfl
theorem ti122 : tiOf Tryz.prog 122 = some ⟨7, true, [(.bool false), (.int .i64 0), (.bool false), (.int .i64 0), (.string ByteArray.empty), (.slice none 0 0), (.slice none 0 0)], 96, (.struct [(0, (1, false)), (1, (6, true))])⟩ := tiAt tiAll3 (k := 2) rfl
theorem ti123 : tiOf Tryz.prog 123 = some ⟨7, true, [(.bool false), (.int .i64 0), (.bool false), (.int .i64 0), (.string ByteArray.empty), (.slice none 0 0), (.slice none 0 0)], 96, (.struct [(0, (1, false)), (1, (6, true))])⟩ := tiAt tiAll3 (k := 3) rfl
theorem ti124 : tiOf Tryz.prog 124 = some ⟨1, false, [(.tuple #[(.agg #[(.int .i64 0), (.bool false), (.int .i64 0), (.string ByteArray.empty), (.slice none 0 0), (.slice none 0 0)]), (.bool false)])], 0, .other⟩ := tiAt tiAll3 (k := 4) rfl
theorem ti125 : tiOf Tryz.prog 125 = some ⟨1, false, [.nilFunc], 8, .func⟩ := tiAt tiAll3 (k := 5) rfl
theorem ti126 : tiOf Tryz.prog 126 = some ⟨1, false, [.nilFunc], 8, .func⟩ := tiAt tiAll3 (k := 6) rfl
theorem ti127 : tiOf Tryz.prog 127 = some ⟨1, false, [(.tuple #[(.agg #[(.pointer none)]), (.bool false)])], 0, .other⟩ := tiAt tiAll3 (k := 7) rfl
theorem ti128 : tiOf Tryz.prog 128 = some ⟨1, false, [.nilFunc], 8, .func⟩ := tiAt tiAll3 (k := 8) rfl
theorem ti129 : tiOf Tryz.prog 129 = some ⟨1, false, [(.slice none 0 0)], 24, (.slice 72)⟩ := tiAt tiAll3 (k := 9) rfl
theorem ti130 : tiOf Tryz.prog 130 = some ⟨1, false, [.nilFunc], 8, .func⟩ := tiAt tiAll3 (k := 10) rfl
theorem ti131 : tiOf Tryz.prog 131 = some ⟨1, false, [.nilFunc], 8, .func⟩ := tiAt tiAll3 (k := 11) rfl
theorem ti132 : tiOf Tryz.prog 132 = some ⟨1, false, [.nilFunc], 8, .func⟩ := tiAt tiAll3 (k := 12) rfl
theorem ti133 : tiOf Tryz.prog 133 = some ⟨1, false, [.nilFunc], 8, .func⟩ := tiAt tiAll3 (k := 13) rfl
theorem ti134 : tiOf Tryz.prog 134 = some ⟨1, false, [.nilFunc], 8, .func⟩ := tiAt tiAll3 (k := 14) rfl
theorem ti135 : tiOf Tryz.prog 135 = some ⟨1, false, [.nilFunc], 8, .func⟩ := tiAt tiAll3 (k := 15) rfl
theorem ti136 : tiOf Tryz.prog 136 = some ⟨1, false, [.nilFunc], 8, .func⟩ := tiAt tiAll3 (k := 16) rfl
theorem ti137 : tiOf Tryz.prog 137 = some ⟨1, false, [.nilFunc], 8, .func⟩ := tiAt tiAll3 (k := 17) rfl
theorem ti138 : tiOf Tryz.prog 138 = some ⟨1, false, [.nilFunc], 8, .func⟩ := tiAt tiAll3 (k := 18) rfl
theorem ti139 : tiOf Tryz.prog 139 = some ⟨1, false, [.nilFunc], 8, .func⟩ := tiAt tiAll3 (k := 19) rfl
theorem ti140 : tiOf Tryz.prog 140 = some ⟨1, false, [.nilFunc], 8, .func⟩ := tiAt tiAll3 (k := 20) rfl
theorem ti141 : tiOf Tryz.prog 141 = some ⟨1, false, [.nilFunc], 8, .func⟩ := tiAt tiAll3 (k := 21) rfl
theorem ti142 : tiOf Tryz.prog 142 = some ⟨1, false, [.nilFunc], 8, .func⟩ := tiAt tiAll3 (k := 22) rfl
theorem ti143 : tiOf Tryz.prog 143 = some ⟨1, false, [.nilFunc], 8, .func⟩ := tiAt tiAll3 (k := 23) rfl
theorem ti144 : tiOf Tryz.prog 144 = some ⟨1, false, [.nilFunc], 8, .func⟩ := tiAt tiAll3 (k := 24) rfl
theorem ti145 : tiOf Tryz.prog 145 = some ⟨1, false, [.nilFunc], 8, .func⟩ := tiAt tiAll3 (k := 25) rfl
theorem ti146 : tiOf Tryz.prog 146 = some ⟨1, false, [.nilFunc], 8, .func⟩ := tiAt tiAll3 (k := 26) rfl
theorem ti147 : tiOf Tryz.prog 147 = some ⟨1, false, [.nilFunc], 8, .func⟩ := tiAt tiAll3 (k := 27) rfl
theorem ti148 : tiOf Tryz.prog 148 = some ⟨1, false, [(.tuple #[(.pointer none), (.pointer none)])], 0, .other⟩ := tiAt tiAll3 (k := 28) rfl
theorem ti149 : tiOf Tryz.prog 149 = some ⟨1, false, [.nilFunc], 8, .func⟩ := tiAt tiAll3 (k := 29) rfl
theorem ti150 : tiOf Tryz.prog 150 = some ⟨1, false, [.nilFunc], 8, .func⟩ := tiAt tiAll3 (k := 30) rfl
theorem ti151 : tiOf Tryz.prog 151 = some ⟨1, false, [(.tuple #[(.pointer none), (.bool false)])], 0, .other⟩ := tiAt tiAll3 (k := 31) rfl
theorem ti152 : tiOf Tryz.prog 152 = some ⟨1, false, [.nilFunc], 8, .func⟩ := tiAt tiAll3 (k := 32) rfl
theorem ti153 : tiOf Tryz.prog 153 = some ⟨7, true, [(.slice none 0 0), (.slice none 0 0), (.int .i64 0), (.int .i64 0), (.string ByteArray.empty), (.string ByteArray.empty), (.bool false)], 104, (.struct [(0, (1, false)), (1, (1, false)), (2, (1, false)), (3, (1, false)), (4, (1, false)), (5, (1, false)), (6, (1, false))])⟩ := tiAt tiAll3 (k := 33) rfl
theorem ti154 : tiOf Tryz.prog 154 = some ⟨7, true, [(.slice none 0 0), (.slice none 0 0), (.int .i64 0), (.int .i64 0), (.string ByteArray.empty), (.string ByteArray.empty), (.bool false)], 104, (.struct [(0, (1, false)), (1, (1, false)), (2, (1, false)), (3, (1, false)), (4, (1, false)), (5, (1, false)), (6, (1, false))])⟩ := tiAt tiAll3 (k := 34) rfl
theorem ti155 : tiOf Tryz.prog 155 = some ⟨1, false, [.nilFunc], 8, .func⟩ := tiAt tiAll3 (k := 35) rfl
theorem ti156 : tiOf Tryz.prog 156 = some ⟨1, false, [.nilFunc], 8, .func⟩ := tiAt tiAll3 (k := 36) rfl
theorem ti157 : tiOf Tryz.prog 157 = some ⟨1, false, [.nilFunc], 8, .func⟩ := tiAt tiAll3 (k := 37) rfl
theorem ti158 : tiOf Tryz.prog 158 = some ⟨1, false, [.nilFunc], 8, .func⟩ := tiAt tiAll3 (k := 38) rfl
theorem ti159 : tiOf Tryz.prog 159 = some ⟨1, false, [(.pointer none)], 8, (.ptr 164)⟩ := tiAt tiAll3 (k := 39) rfl
def tiL4 : List (Nat × TI) := [
  (160, ⟨1, false, [.nilFunc], 8, .func⟩),
  (161, ⟨1, false, [.nilFunc], 8, .func⟩),
  (162, ⟨1, false, [(.slice none 0 0)], 24, (.slice 35)⟩),
  (163, ⟨2, true, [(.pointer none), (.slice none 0 0)], 32, (.struct [(0, (1, false)), (1, (1, false))])⟩),
  (164, ⟨2, true, [(.pointer none), (.slice none 0 0)], 32, (.struct [(0, (1, false)), (1, (1, false))])⟩),
  (165, ⟨1, false, [(.tuple #[(.int .i64 0), (.bool false)])], 0, .other⟩),
  (166, ⟨1, false, [.nilFunc], 8, .func⟩),
  (167, ⟨1, false, [.nilFunc], 8, .func⟩),
  (168, ⟨1, false, [.nilFunc], 8, .func⟩),
  (169, ⟨1, false, [.nilFunc], 8, .func⟩),
  (170, ⟨1, false, [.nilFunc], 8, .func⟩),
  (171, ⟨1, false, [.nilFunc], 8, .func⟩),
  (172, ⟨1, false, [.nilFunc], 8, .func⟩),
  (173, ⟨1, false, [.nilFunc], 8, .func⟩),
  (174, ⟨1, false, [.nilFunc], 8, .func⟩),
  (175, ⟨1, false, [.nilFunc], 8, .func⟩),
  (176, ⟨1, true, [(.int .i64 0)], 8, (.struct [(0, (1, false))])⟩),
  (177, ⟨1, true, [(.int .i64 0)], 8, (.struct [(0, (1, false))])⟩),
  (178, ⟨1, false, [.nilFunc], 8, .func⟩),
  (179, ⟨1, false, [.nilFunc], 8, .func⟩),
  (180, ⟨1, false, [.nilFunc], 8, .func⟩),
  (181, ⟨1, false, [.nilFunc], 8, .func⟩),
  (182, ⟨1, false, [.nilFunc], 8, .func⟩),
  (183, ⟨1, false, [.nilFunc], 8, .func⟩),
  (184, ⟨1, false, [.nilFunc], 8, .func⟩),
  (185, ⟨1, false, [(.tuple #[(.string ByteArray.empty), (.int .i64 0)])], 0, .other⟩),
  (186, ⟨1, false, [.nilFunc], 8, .func⟩),
  (187, ⟨1, false, [.nilFunc], 8, .func⟩),
  (188, ⟨1, false, [.nilFunc], 8, .func⟩),
  (189, ⟨1, false, [.nilFunc], 8, .func⟩),
  (190, ⟨1, false, [(.int .u64 0)], 8, (.int .u64)⟩),
  (191, ⟨1, false, [.nilFunc], 8, .func⟩),
  (192, ⟨1, false, [.nilFunc], 8, .func⟩),
  (193, ⟨1, false, [(.tuple #[(.agg #[(.string ByteArray.empty), (.int .i64 0), (.bool false), (.int .i64 0), (.string ByteArray.empty), (.slice none 0 0), (.slice none 0 0)]), (.bool false)])], 0, .other⟩),
  (194, ⟨1, false, [.nilFunc], 8, .func⟩),
  (195, ⟨1, false, [.nilFunc], 8, .func⟩),
  (196, ⟨1, false, [.nilFunc], 8, .func⟩),
  (197, ⟨1, false, [.nilFunc], 8, .func⟩),
  (198, ⟨1, false, [.nilFunc], 8, .func⟩),
  (199, ⟨1, false, [.nilFunc], 8, .func⟩)]
theorem tiAll4 : tiL4.map (fun p => tiOf Tryz.prog p.1) = tiL4.map (fun p => some p.2) := by kernel_rfl
theorem ti160 : tiOf Tryz.prog 160 = some ⟨1, false, [.nilFunc], 8, .func⟩ := tiAt tiAll4 (k := 0) rfl
theorem ti161 : tiOf Tryz.prog 161 = some ⟨1, false, [.nilFunc], 8, .func⟩ := tiAt tiAll4 (k := 1) rfl
theorem ti162 : tiOf Tryz.prog 162 = some ⟨1, false, [(.slice none 0 0)], 24, (.slice 35)⟩ := tiAt tiAll4 (k := 2) rfl
theorem ti163 : tiOf Tryz.prog 163 = some ⟨2, true, [(.pointer none), (.slice none 0 0)], 32, (.struct [(0, (1, false)), (1, (1, false))])⟩ := tiAt tiAll4 (k := 3) rfl
theorem ti164 : tiOf Tryz.prog 164 = some ⟨2, true, [(.pointer none), (.slice none 0 0)], 32, (.struct [(0, (1, false)), (1, (1, false))])⟩ := tiAt tiAll4 (k := 4) rfl
theorem ti165 : tiOf Tryz.prog 165 = some ⟨1, false, [(.tuple #[(.int .i64 0), (.bool false)])], 0, .other⟩ := tiAt tiAll4 (k := 5) rfl
theorem ti166 : tiOf Tryz.prog 166 = some ⟨1, false, [.nilFunc], 8, .func⟩ := tiAt tiAll4 (k := 6) rfl
theorem ti167 : tiOf Tryz.prog 167 = some ⟨1, false, [.nilFunc], 8, .func⟩ := tiAt tiAll4 (k := 7) rfl
theorem ti168 : tiOf Tryz.prog 168 = some ⟨1, false, [.nilFunc], 8, .func⟩ := tiAt tiAll4 (k := 8) rfl
theorem ti169 : tiOf Tryz.prog 169 = some ⟨1, false, [.nilFunc], 8, .func⟩ := tiAt tiAll4 (k := 9) rfl
theorem ti170 : tiOf Tryz.prog 170 = some ⟨1, false, [.nilFunc], 8, .func⟩ := tiAt tiAll4 (k := 10) rfl
theorem ti171 : tiOf Tryz.prog 171 = some ⟨1, false, [.nilFunc], 8, .func⟩ := tiAt tiAll4 (k := 11) rfl
theorem ti172 : tiOf Tryz.prog 172 = some ⟨1, false, [.nilFunc], 8, .func⟩ := tiAt tiAll4 (k := 12) rfl
theorem ti173 : tiOf Tryz.prog 173 = some ⟨1, false, [.nilFunc], 8, .func⟩ := tiAt tiAll4 (k := 13) rfl
theorem ti174 : tiOf Tryz.prog 174 = some ⟨1, false, [.nilFunc], 8, .func⟩ := tiAt tiAll4 (k := 14) rfl
theorem ti175 : tiOf Tryz.prog 175 = some ⟨1, false, [.nilFunc], 8, .func⟩ := tiAt tiAll4 (k := 15) rfl
theorem ti176 : tiOf Tryz.prog 176 = some ⟨1, true, [(.int .i64 0)], 8, (.struct [(0, (1, false))])⟩ := tiAt tiAll4 (k := 16) rfl
theorem ti177 : tiOf Tryz.prog 177 = some ⟨1, true, [(.int .i64 0)], 8, (.struct [(0, (1, false))])⟩ := tiAt tiAll4 (k := 17) rfl
theorem ti178 : tiOf Tryz.prog 178 = some ⟨1, false, [.nilFunc], 8, .func⟩ := tiAt tiAll4 (k := 18) rfl
theorem ti179 : tiOf Tryz.prog 179 = some ⟨1, false, [.nilFunc], 8, .func⟩ := tiAt tiAll4 (k := 19) rfl
theorem ti180 : tiOf Tryz.prog 180 = some ⟨1, false, [.nilFunc], 8, .func⟩ := tiAt tiAll4 (k := 20) rfl
theorem ti181 : tiOf Tryz.prog 181 = some ⟨1, false, [.nilFunc], 8, .func⟩ := tiAt tiAll4 (k := 21) rfl
theorem ti182 : tiOf Tryz.prog 182 = some ⟨1, false, [.nilFunc], 8, .func⟩ := tiAt tiAll4 (k := 22) rfl
theorem ti183 : tiOf Tryz.prog 183 = some ⟨1, false, [.nilFunc], 8, .func⟩ := tiAt tiAll4 (k := 23) rfl
theorem ti184 : tiOf Tryz.prog 184 = some ⟨1, false, [.nilFunc], 8, .func⟩ := tiAt tiAll4 (k := 24) rfl
theorem ti185 : tiOf Tryz.prog 185 = some ⟨1, false, [(.tuple #[(.string ByteArray.empty), (.int .i64 0)])], 0, .other⟩ := tiAt tiAll4 (k := 25) rfl
theorem ti186 : tiOf Tryz.prog 186 = some ⟨1, false, [.nilFunc], 8, .func⟩ := tiAt tiAll4 (k := 26) rfl
theorem ti187 : tiOf Tryz.prog 187 = some ⟨1, false, [.nilFunc], 8, .func⟩ := tiAt tiAll4 (k := 27) rfl
theorem ti188 : tiOf Tryz.prog 188 = some ⟨1, false, [.nilFunc], 8, .func⟩ := tiAt tiAll4 (k := 28) rfl
theorem ti189 : tiOf Tryz.prog 189 = some ⟨1, false, [.nilFunc], 8, .func⟩ := tiAt tiAll4 (k := 29) rfl
theorem ti190 : tiOf Tryz.prog 190 = some ⟨1, false, [(.int .u64 0)], 8, (.int .u64)⟩ := tiAt tiAll4 (k := 30) rfl
theorem ti191 : tiOf Tryz.prog 191 = some ⟨1, false, [.nilFunc], 8, .func⟩ := tiAt tiAll4 (k := 31) rfl
theorem ti192 : tiOf Tryz.prog 192 = some ⟨1, false, [.nilFunc], 8, .func⟩ := tiAt tiAll4 (k := 32) rfl
theorem ti193 : tiOf Tryz.prog 193 = some ⟨1, false, [(.tuple #[(.agg #[(.string ByteArray.empty), (.int .i64 0), (.bool false), (.int .i64 0), (.string ByteArray.empty), (.slice none 0 0), (.slice none 0 0)]), (.bool false)])], 0, .other⟩ := tiAt tiAll4 (k := 33) rfl
theorem ti194 : tiOf Tryz.prog 194 = some ⟨1, false, [.nilFunc], 8, .func⟩ := tiAt tiAll4 (k := 34) rfl
theorem ti195 : tiOf Tryz.prog 195 = some ⟨1, false, [.nilFunc], 8, .func⟩ := tiAt tiAll4 (k := 35) rfl
theorem ti196 : tiOf Tryz.prog 196 = some ⟨1, false, [.nilFunc], 8, .func⟩ := tiAt tiAll4 (k := 36) rfl
theorem ti197 : tiOf Tryz.prog 197 = some ⟨1, false, [.nilFunc], 8, .func⟩ := tiAt tiAll4 (k := 37) rfl
theorem ti198 : tiOf Tryz.prog 198 = some ⟨1, false, [.nilFunc], 8, .func⟩ := tiAt tiAll4 (k := 38) rfl
theorem ti199 : tiOf Tryz.prog 199 = some ⟨1, false, [.nilFunc], 8, .func⟩ := tiAt tiAll4 (k := 39) rfl
def tiL5 : List (Nat × TI) := [
  (200, ⟨1, false, [.nilFunc], 8, .func⟩),
  (201, ⟨1, false, [.nilFunc], 8, .func⟩),
  (202, ⟨1, false, [(.tuple #[(.pointer none), (.int .i64 0)])], 0, .other⟩),
  (203, ⟨1, false, [.nilFunc], 8, .func⟩),
  (204, ⟨1, false, [.nilFunc], 8, .func⟩),
  (205, ⟨1, false, [.nilFunc], 8, .func⟩),
  (206, ⟨1, false, [.nilFunc], 8, .func⟩),
  (207, ⟨1, false, [.nilFunc], 8, .func⟩),
  (208, ⟨1, false, [.nilFunc], 8, .func⟩),
  (209, ⟨1, false, [.nilFunc], 8, .func⟩),
  (210, ⟨1, false, [.nilFunc], 8, .func⟩),
  (211, ⟨1, false, [(.slice none 0 0)], 24, (.slice 214)⟩),
  (212, ⟨1, false, [.nilFunc], 8, .func⟩),
  (213, ⟨2, true, [(.int .i64 0), .nilFunc], 16, (.struct [(0, (1, false)), (1, (1, false))])⟩),
  (214, ⟨2, true, [(.int .i64 0), .nilFunc], 16, (.struct [(0, (1, false)), (1, (1, false))])⟩),
  (215, ⟨1, false, [(.tuple #[(.agg #[(.bool false), (.int .i64 0), (.bool false), (.int .i64 0), (.string ByteArray.empty), (.slice none 0 0), (.slice none 0 0)]), (.bool false)])], 0, .other⟩),
  (216, ⟨1, false, [.nilFunc], 8, .func⟩),
  (217, ⟨1, false, [.nilFunc], 8, .func⟩),
  (218, ⟨1, false, [.nilFunc], 8, .func⟩),
  (219, ⟨1, false, [(.tuple #[(.string ByteArray.empty), (.bool false)])], 0, .other⟩),
  (220, ⟨1, false, [.nilFunc], 8, .func⟩),
  (221, ⟨1, false, [.nilFunc], 8, .func⟩),
  (222, ⟨1, false, [(.int .i64 0)], 8, (.int .i64)⟩),
  (223, ⟨1, false, [(.tuple #[(.int .i64 0), (.int .i64 0)])], 0, .other⟩),
  (224, ⟨1, false, [.nilFunc], 8, .func⟩),
  (225, ⟨1, false, [.nilFunc], 8, .func⟩),
  (226, ⟨1, false, [.nilFunc], 8, .func⟩),
  (227, ⟨1, false, [.nilFunc], 8, .func⟩),
  (228, ⟨1, false, [.nilFunc], 8, .func⟩),
  (229, ⟨1, false, [(.int .u32 0)], 4, (.int .u32)⟩),
  (230, ⟨1, false, [.nilFunc], 8, .func⟩),
  (231, ⟨1, false, [.nilFunc], 8, .func⟩),
  (232, ⟨1, false, [.nilFunc], 8, .func⟩),
  (233, ⟨1, false, [.nilFunc], 8, .func⟩),
  (234, ⟨1, false, [.nilFunc], 8, .func⟩),
  (235, ⟨1, false, [.nilFunc], 8, .func⟩),
  (236, ⟨1, false, [.nilFunc], 8, .func⟩),
  (237, ⟨1, false, [.nilFunc], 8, .func⟩),
  (238, ⟨1, false, [.nilFunc], 8, .func⟩),
  (239, ⟨1, false, [.nilFunc], 8, .func⟩)]
theorem tiAll5 : tiL5.map (fun p => tiOf Tryz.prog p.1) = tiL5.map (fun p => some p.2) := by kernel_rfl
theorem ti200 : tiOf Tryz.prog 200 = some ⟨1, false, [.nilFunc], 8, .func⟩ := tiAt tiAll5 (k := 0) rfl
theorem ti201 : tiOf Tryz.prog 201 = some ⟨1, false, [.nilFunc], 8, .func⟩ := tiAt tiAll5 (k := 1) rfl
theorem ti202 : tiOf Tryz.prog 202 = some ⟨1, false, [(.tuple #[(.pointer none), (.int .i64 0)])], 0, .other⟩ := tiAt tiAll5 (k := 2) rfl
theorem ti203 : tiOf Tryz.prog 203 = some ⟨1, false, [.nilFunc], 8, .func⟩ := tiAt tiAll5 (k := 3) rfl
theorem ti204 : tiOf Tryz.prog 204 = some ⟨1, false, [.nilFunc], 8, .func⟩ := tiAt tiAll5 (k := 4) rfl
theorem ti205 : tiOf Tryz.prog 205 = some ⟨1, false, [.nilFunc], 8, .func⟩ := tiAt tiAll5 (k := 5) rfl
theorem ti206 : tiOf Tryz.prog 206 = some ⟨1, false, [.nilFunc], 8, .func⟩ := tiAt tiAll5 (k := 6) rfl
theorem ti207 : tiOf Tryz.prog 207 = some ⟨1, false, [.nilFunc], 8, .func⟩ := tiAt tiAll5 (k := 7) rfl
theorem ti208 : tiOf Tryz.prog 208 = some ⟨1, false, [.nilFunc], 8, .func⟩ := tiAt tiAll5 (k := 8) rfl
theorem ti209 : tiOf Tryz.prog 209 = some ⟨1, false, [.nilFunc], 8, .func⟩ := tiAt tiAll5 (k := 9) rfl
theorem ti210 : tiOf Tryz.prog 210 = some ⟨1, false, [.nilFunc], 8, .func⟩ := tiAt tiAll5 (k := 10) rfl
theorem ti211 : tiOf Tryz.prog 211 = some ⟨1, false, [(.slice none 0 0)], 24, (.slice 214)⟩ := tiAt tiAll5 (k := 11) rfl
theorem ti212 : tiOf Tryz.prog 212 = some ⟨1, false, [.nilFunc], 8, .func⟩ := tiAt tiAll5 (k := 12) rfl
theorem ti213 : tiOf Tryz.prog 213 = some ⟨2, true, [(.int .i64 0), .nilFunc], 16, (.struct [(0, (1, false)), (1, (1, false))])⟩ := tiAt tiAll5 (k := 13) rfl
theorem ti214 : tiOf Tryz.prog 214 = some ⟨2, true, [(.int .i64 0), .nilFunc], 16, (.struct [(0, (1, false)), (1, (1, false))])⟩ := tiAt tiAll5 (k := 14) rfl
theorem ti215 : tiOf Tryz.prog 215 = some ⟨1, false, [(.tuple #[(.agg #[(.bool false), (.int .i64 0), (.bool false), (.int .i64 0), (.string ByteArray.empty), (.slice none 0 0), (.slice none 0 0)]), (.bool false)])], 0, .other⟩ := tiAt tiAll5 (k := 15) rfl
theorem ti216 : tiOf Tryz.prog 216 = some ⟨1, false, [.nilFunc], 8, .func⟩ := tiAt tiAll5 (k := 16) rfl
theorem ti217 : tiOf Tryz.prog 217 = some ⟨1, false, [.nilFunc], 8, .func⟩ := tiAt tiAll5 (k := 17) rfl
theorem ti218 : tiOf Tryz.prog 218 = some ⟨1, false, [.nilFunc], 8, .func⟩ := tiAt tiAll5 (k := 18) rfl
theorem ti219 : tiOf Tryz.prog 219 = some ⟨1, false, [(.tuple #[(.string ByteArray.empty), (.bool false)])], 0, .other⟩ := tiAt tiAll5 (k := 19) rfl
theorem ti220 : tiOf Tryz.prog 220 = some ⟨1, false, [.nilFunc], 8, .func⟩ := tiAt tiAll5 (k := 20) rfl
theorem ti221 : tiOf Tryz.prog 221 = some ⟨1, false, [.nilFunc], 8, .func⟩ := tiAt tiAll5 (k := 21) rfl
theorem ti222 : tiOf Tryz.prog 222 = some ⟨1, false, [(.int .i64 0)], 8, (.int .i64)⟩ := tiAt tiAll5 (k := 22) rfl
theorem ti223 : tiOf Tryz.prog 223 = some ⟨1, false, [(.tuple #[(.int .i64 0), (.int .i64 0)])], 0, .other⟩ := tiAt tiAll5 (k := 23) rfl
theorem ti224 : tiOf Tryz.prog 224 = some ⟨1, false, [.nilFunc], 8, .func⟩ := tiAt tiAll5 (k := 24) rfl
theorem ti225 : tiOf Tryz.prog 225 = some ⟨1, false, [.nilFunc], 8, .func⟩ := tiAt tiAll5 (k := 25) rfl
theorem ti226 : tiOf Tryz.prog 226 = some ⟨1, false, [.nilFunc], 8, .func⟩ := tiAt tiAll5 (k := 26) rfl
theorem ti227 : tiOf Tryz.prog 227 = some ⟨1, false, [.nilFunc], 8, .func⟩ := tiAt tiAll5 (k := 27) rfl
theorem ti228 : tiOf Tryz.prog 228 = some ⟨1, false, [.nilFunc], 8, .func⟩ := tiAt tiAll5 (k := 28) rfl
theorem ti229 : tiOf Tryz.prog 229 = some ⟨1, false, [(.int .u32 0)], 4, (.int .u32)⟩ := tiAt tiAll5 (k := 29) rfl
theorem ti230 : tiOf Tryz.prog 230 = some ⟨1, false, [.nilFunc], 8, .func⟩ := tiAt tiAll5 (k := 30) rfl
theorem ti231 : tiOf Tryz.prog 231 = some ⟨1, false, [.nilFunc], 8, .func⟩ := tiAt tiAll5 (k := 31) rfl
theorem ti232 : tiOf Tryz.prog 232 = some ⟨1, false, [.nilFunc], 8, .func⟩ := tiAt tiAll5 (k := 32) rfl
theorem ti233 : tiOf Tryz.prog 233 = some ⟨1, false, [.nilFunc], 8, .func⟩ := tiAt tiAll5 (k := 33) rfl
theorem ti234 : tiOf Tryz.prog 234 = some ⟨1, false, [.nilFunc], 8, .func⟩ := tiAt tiAll5 (k := 34) rfl
theorem ti235 : tiOf Tryz.prog 235 = some ⟨1, false, [.nilFunc], 8, .func⟩ := tiAt tiAll5 (k := 35) rfl
theorem ti236 : tiOf Tryz.prog 236 = some ⟨1, false, [.nilFunc], 8, .func⟩ := tiAt tiAll5 (k := 36) rfl
theorem ti237 : tiOf Tryz.prog 237 = some ⟨1, false, [.nilFunc], 8, .func⟩ := tiAt tiAll5 (k := 37) rfl
theorem ti238 : tiOf Tryz.prog 238 = some ⟨1, false, [.nilFunc], 8, .func⟩ := tiAt tiAll5 (k := 38) rfl
theorem ti239 : tiOf Tryz.prog 239 = some ⟨1, false, [.nilFunc], 8, .func⟩ := tiAt tiAll5 (k := 39) rfl
def tiL6 : List (Nat × TI) := [
  (240, ⟨1, false, [.nilFunc], 8, .func⟩),
  (241, ⟨1, false, [.nilFunc], 8, .func⟩),
  (242, ⟨1, false, [.nilFunc], 8, .func⟩),
  (243, ⟨1, false, [.nilFunc], 8, .func⟩),
  (244, ⟨1, false, [.nilFunc], 8, .func⟩),
  (245, ⟨1, false, [(.tuple #[(.string ByteArray.empty), (.int .i64 0)])], 0, .other⟩),
  (246, ⟨1, false, [.nilFunc], 8, .func⟩),
  (247, ⟨1, false, [.nilFunc], 8, .func⟩),
  (248, ⟨1, false, [.nilFunc], 8, .func⟩),
  (249, ⟨1, false, [(.pointer none)], 8, (.ptr 252)⟩),
  (250, ⟨1, false, [(.slice none 0 0)], 24, (.slice 5)⟩),
  (251, ⟨2, true, [(.pointer none), (.slice none 0 0)], 32, (.struct [(0, (1, false)), (1, (1, false))])⟩),
  (252, ⟨2, true, [(.pointer none), (.slice none 0 0)], 32, (.struct [(0, (1, false)), (1, (1, false))])⟩),
  (253, ⟨4, true, [(.bool false), (.pointer none), (.slice none 0 0), (.int .i64 0)], 48, (.struct [(0, (1, false)), (1, (2, true)), (3, (1, false))])⟩),
  (254, ⟨4, true, [(.bool false), (.pointer none), (.slice none 0 0), (.int .i64 0)], 48, (.struct [(0, (1, false)), (1, (2, true)), (3, (1, false))])⟩),
  (255, ⟨1, false, [.nilFunc], 8, .func⟩),
  (256, ⟨1, false, [.nilFunc], 8, .func⟩),
  (257, ⟨1, false, [(.pointer none)], 8, (.ptr 254)⟩),
  (258, ⟨1, false, [.nilFunc], 8, .func⟩),
  (259, ⟨1, false, [.nilFunc], 8, .func⟩),
  (260, ⟨1, false, [(.int .u64 0)], 8, (.int .u64)⟩),
  (261, ⟨1, false, [.nilFunc], 8, .func⟩),
  (262, ⟨1, false, [.nilFunc], 8, .func⟩),
  (263, ⟨1, false, [.nilFunc], 8, .func⟩),
  (264, ⟨1, false, [(.pointer none)], 8, (.ptr 3)⟩),
  (265, ⟨1, false, [.nilFunc], 8, .func⟩),
  (266, ⟨1, false, [.nilFunc], 8, .func⟩),
  (267, ⟨1, false, [.nilFunc], 8, .func⟩),
  (268, ⟨1, false, [(.tuple #[(.slice none 0 0), (.slice none 0 0)])], 0, .other⟩),
  (269, ⟨1, false, [.nilFunc], 8, .func⟩),
  (270, ⟨1, false, [.nilFunc], 8, .func⟩),
  (271, ⟨1, false, [.nilFunc], 8, .func⟩),
  (272, ⟨1, false, [.nilFunc], 8, .func⟩),
  (273, ⟨1, false, [.nilFunc], 8, .func⟩),
  (274, ⟨1, false, [.nilFunc], 8, .func⟩),
  (275, ⟨1, false, [.nilFunc], 8, .func⟩),
  (276, ⟨1, false, [.nilFunc], 8, .func⟩),
  (277, ⟨1, false, [.nilFunc], 8, .func⟩),
  (278, ⟨1, false, [.nilFunc], 8, .func⟩),
  (279, ⟨1, false, [.nilFunc], 8, .func⟩)]
theorem tiAll6 : tiL6.map (fun p => tiOf Tryz.prog p.1) = tiL6.map (fun p => some p.2) := by kernel_rfl
theorem ti240 : tiOf Tryz.prog 240 = some ⟨1, false, [.nilFunc], 8, .func⟩ := tiAt tiAll6 (k := 0) rfl
theorem ti241 : tiOf Tryz.prog 241 = some ⟨1, false, [.nilFunc], 8, .func⟩ := tiAt tiAll6 (k := 1) rfl
theorem ti242 : tiOf Tryz.prog 242 = some ⟨1, false, [.nilFunc], 8, .func⟩ := tiAt tiAll6 (k := 2) rfl
theorem ti243 : tiOf Tryz.prog 243 = some ⟨1, false, [.nilFunc], 8, .func⟩ := tiAt tiAll6 (k := 3) rfl
theorem ti244 : tiOf Tryz.prog 244 = some ⟨1, false, [.nilFunc], 8, .func⟩ := tiAt tiAll6 (k := 4) rfl
theorem ti245 : tiOf Tryz.prog 245 = some ⟨1, false, [(.tuple #[(.string ByteArray.empty), (.int .i64 0)])], 0, .other⟩ := tiAt tiAll6 (k := 5) rfl
theorem ti246 : tiOf Tryz.prog 246 = some ⟨1, false, [.nilFunc], 8, .func⟩ := tiAt tiAll6 (k := 6) rfl
theorem ti247 : tiOf Tryz.prog 247 = some ⟨1, false, [.nilFunc], 8, .func⟩ := tiAt tiAll6 (k := 7) rfl
theorem ti248 : tiOf Tryz.prog 248 = some ⟨1, false, [.nilFunc], 8, .func⟩ := tiAt tiAll6 (k := 8) rfl
theorem ti249 : tiOf Tryz.prog 249 = some ⟨1, false, [(.pointer none)], 8, (.ptr 252)⟩ := tiAt tiAll6 (k := 9) rfl
theorem ti250 : tiOf Tryz.prog 250 = some ⟨1, false, [(.slice none 0 0)], 24, (.slice 5)⟩ := tiAt tiAll6 (k := 10) rfl
theorem ti251 : tiOf Tryz.prog 251 = some ⟨2, true, [(.pointer none), (.slice none 0 0)], 32, (.struct [(0, (1, false)), (1, (1, false))])⟩ := tiAt tiAll6 (k := 11) rfl
theorem ti252 : tiOf Tryz.prog 252 = some ⟨2, true, [(.pointer none), (.slice none 0 0)], 32, (.struct [(0, (1, false)), (1, (1, false))])⟩ := tiAt tiAll6 (k := 12) rfl
theorem ti253 : tiOf Tryz.prog 253 = some ⟨4, true, [(.bool false), (.pointer none), (.slice none 0 0), (.int .i64 0)], 48, (.struct [(0, (1, false)), (1, (2, true)), (3, (1, false))])⟩ := tiAt tiAll6 (k := 13) rfl
theorem ti254 : tiOf Tryz.prog 254 = some ⟨4, true, [(.bool false), (.pointer none), (.slice none 0 0), (.int .i64 0)], 48, (.struct [(0, (1, false)), (1, (2, true)), (3, (1, false))])⟩ := tiAt tiAll6 (k := 14) rfl
theorem ti255 : tiOf Tryz.prog 255 = some ⟨1, false, [.nilFunc], 8, .func⟩ := tiAt tiAll6 (k := 15) rfl
theorem ti256 : tiOf Tryz.prog 256 = some ⟨1, false, [.nilFunc], 8, .func⟩ := tiAt tiAll6 (k := 16) rfl
theorem ti257 : tiOf Tryz.prog 257 = some ⟨1, false, [(.pointer none)], 8, (.ptr 254)⟩ := tiAt tiAll6 (k := 17) rfl
theorem ti258 : tiOf Tryz.prog 258 = some ⟨1, false, [.nilFunc], 8, .func⟩ := tiAt tiAll6 (k := 18) rfl
theorem ti259 : tiOf Tryz.prog 259 = some ⟨1, false, [.nilFunc], 8, .func⟩ := tiAt tiAll6 (k := 19) rfl
theorem ti260 : tiOf Tryz.prog 260 = some ⟨1, false, [(.int .u64 0)], 8, (.int .u64)⟩ := tiAt tiAll6 (k := 20) rfl
theorem ti261 : tiOf Tryz.prog 261 = some ⟨1, false, [.nilFunc], 8, .func⟩ := tiAt tiAll6 (k := 21) rfl
theorem ti262 : tiOf Tryz.prog 262 = some ⟨1, false, [.nilFunc], 8, .func⟩ := tiAt tiAll6 (k := 22) rfl
theorem ti263 : tiOf Tryz.prog 263 = some ⟨1, false, [.nilFunc], 8, .func⟩ := tiAt tiAll6 (k := 23) rfl
theorem ti264 : tiOf Tryz.prog 264 = some ⟨1, false, [(.pointer none)], 8, (.ptr 3)⟩ := tiAt tiAll6 (k := 24) rfl
theorem ti265 : tiOf Tryz.prog 265 = some ⟨1, false, [.nilFunc], 8, .func⟩ := tiAt tiAll6 (k := 25) rfl
theorem ti266 : tiOf Tryz.prog 266 = some ⟨1, false, [.nilFunc], 8, .func⟩ := tiAt tiAll6 (k := 26) rfl
theorem ti267 : tiOf Tryz.prog 267 = some ⟨1, false, [.nilFunc], 8, .func⟩ := tiAt tiAll6 (k := 27) rfl
theorem ti268 : tiOf Tryz.prog 268 = some ⟨1, false, [(.tuple #[(.slice none 0 0), (.slice none 0 0)])], 0, .other⟩ := tiAt tiAll6 (k := 28) rfl
theorem ti269 : tiOf Tryz.prog 269 = some ⟨1, false, [.nilFunc], 8, .func⟩ := tiAt tiAll6 (k := 29) rfl
theorem ti270 : tiOf Tryz.prog 270 = some ⟨1, false, [.nilFunc], 8, .func⟩ := tiAt tiAll6 (k := 30) rfl
theorem ti271 : tiOf Tryz.prog 271 = some ⟨1, false, [.nilFunc], 8, .func⟩ := tiAt tiAll6 (k := 31) rfl
theorem ti272 : tiOf Tryz.prog 272 = some ⟨1, false, [.nilFunc], 8, .func⟩ := tiAt tiAll6 (k := 32) rfl
theorem ti273 : tiOf Tryz.prog 273 = some ⟨1, false, [.nilFunc], 8, .func⟩ := tiAt tiAll6 (k := 33) rfl
theorem ti274 : tiOf Tryz.prog 274 = some ⟨1, false, [.nilFunc], 8, .func⟩ := tiAt tiAll6 (k := 34) rfl
theorem ti275 : tiOf Tryz.prog 275 = some ⟨1, false, [.nilFunc], 8, .func⟩ := tiAt tiAll6 (k := 35) rfl
theorem ti276 : tiOf Tryz.prog 276 = some ⟨1, false, [.nilFunc], 8, .func⟩ := tiAt tiAll6 (k := 36) rfl
theorem ti277 : tiOf Tryz.prog 277 = some ⟨1, false, [.nilFunc], 8, .func⟩ := tiAt tiAll6 (k := 37) rfl
theorem ti278 : tiOf Tryz.prog 278 = some ⟨1, false, [.nilFunc], 8, .func⟩ := tiAt tiAll6 (k := 38) rfl
theorem ti279 : tiOf Tryz.prog 279 = some ⟨1, false, [.nilFunc], 8, .func⟩ := tiAt tiAll6 (k := 39) rfl
def tiL7 : List (Nat × TI) := [
  (280, ⟨1, false, [.nilFunc], 8, .func⟩),
  (281, ⟨1, false, [.nilFunc], 8, .func⟩),
  (282, ⟨3, true, [(.string ByteArray.empty), (.string ByteArray.empty), (.bool false)], 40, (.struct [(0, (1, false)), (1, (1, false)), (2, (1, false))])⟩),
  (283, ⟨3, true, [(.string ByteArray.empty), (.string ByteArray.empty), (.bool false)], 40, (.struct [(0, (1, false)), (1, (1, false)), (2, (1, false))])⟩),
  (284, ⟨1, false, [(.pointer none)], 8, (.ptr 260)⟩),
  (285, ⟨1, false, [.nilFunc], 8, .func⟩),
  (286, ⟨1, false, [.nilFunc], 8, .func⟩),
  (287, ⟨1, false, [.nilFunc], 8, .func⟩),
  (288, ⟨1, false, [.nilFunc], 8, .func⟩),
  (290, ⟨2, true, [(.int .u8 0), (.int .u8 0)], 2, (.struct [(0, (1, false)), (1, (1, false))])⟩),
  (291, ⟨2, true, [(.int .u8 0), (.int .u8 0)], 2, (.struct [(0, (1, false)), (1, (1, false))])⟩),
  (292, ⟨32, true, [(.int .u8 0), (.int .u8 0), (.int .u8 0), (.int .u8 0), (.int .u8 0), (.int .u8 0), (.int .u8 0), (.int .u8 0), (.int .u8 0), (.int .u8 0), (.int .u8 0), (.int .u8 0), (.int .u8 0), (.int .u8 0), (.int .u8 0), (.int .u8 0), (.int .u8 0), (.int .u8 0), (.int .u8 0), (.int .u8 0), (.int .u8 0), (.int .u8 0), (.int .u8 0), (.int .u8 0), (.int .u8 0), (.int .u8 0), (.int .u8 0), (.int .u8 0), (.int .u8 0), (.int .u8 0), (.int .u8 0), (.int .u8 0)], 32, (.arr 16 291)⟩),
  (293, ⟨1, false, [.nilIface], 16, .iface⟩),
  (294, ⟨1, false, [.nilIface], 16, .iface⟩),
  (295, ⟨1, false, [(.tuple #[(.int .i64 0), .nilIface])], 0, .other⟩),
  (296, ⟨1, false, [.nilFunc], 8, .func⟩),
  (297, ⟨1, false, [.nilFunc], 8, .func⟩),
  (298, ⟨1, false, [.nilFunc], 8, .func⟩),
  (299, ⟨24, true, [(.int .u8 0), (.int .u8 0), (.int .u8 0), (.int .u8 0), (.int .u8 0), (.int .u8 0), (.int .u8 0), (.int .u8 0), (.int .u8 0), (.int .u8 0), (.int .u8 0), (.int .u8 0), (.int .u8 0), (.int .u8 0), (.int .u8 0), (.int .u8 0), (.int .u8 0), (.int .u8 0), (.int .u8 0), (.int .u8 0), (.int .u8 0), (.int .u8 0), (.int .u8 0), (.int .u8 0)], 24, (.arr 24 5)⟩),
  (300, ⟨1, false, [.nilFunc], 8, .func⟩),
  (301, ⟨1, false, [(.tuple #[(.slice none 0 0), (.string ByteArray.empty)])], 0, .other⟩),
  (302, ⟨1, false, [.nilFunc], 8, .func⟩),
  (303, ⟨1, false, [(.map none)], 8, (.map 21 21)⟩),
  (304, ⟨1, false, [.nilFunc], 8, .func⟩),
  (305, ⟨1, false, [.nilFunc], 8, .func⟩),
  (306, ⟨1, false, [.nilFunc], 8, .func⟩),
  (307, ⟨1, false, [.nilFunc], 8, .func⟩),
  (308, ⟨1, false, [.nilFunc], 8, .func⟩),
  (309, ⟨1, false, [.nilFunc], 8, .func⟩),
  (310, ⟨1, false, [.nilFunc], 8, .func⟩),
  (311, ⟨1, false, [(.tuple #[(.int .i32 0), (.bool false)])], 0, .other⟩),
  (312, ⟨1, false, [.nilFunc], 8, .func⟩),
  (313, ⟨1, false, [(.pointer none)], 8, .other⟩),
  (314, ⟨1, false, [.nilFunc], 8, .func⟩),
  (315, ⟨1, false, [.nilFunc], 8, .func⟩),
  (316, ⟨20, true, [(.int .u64 0), (.int .u64 0), (.int .u64 0), (.int .u64 0), (.int .u64 0), (.int .u64 0), (.int .u64 0), (.int .u64 0), (.int .u64 0), (.int .u64 0), (.int .u64 0), (.int .u64 0), (.int .u64 0), (.int .u64 0), (.int .u64 0), (.int .u64 0), (.int .u64 0), (.int .u64 0), (.int .u64 0), (.int .u64 0)], 160, (.arr 20 23)⟩),
  (317, ⟨65, true, [(.int .u8 0), (.int .u8 0), (.int .u8 0), (.int .u8 0), (.int .u8 0), (.int .u8 0), (.int .u8 0), (.int .u8 0), (.int .u8 0), (.int .u8 0), (.int .u8 0), (.int .u8 0), (.int .u8 0), (.int .u8 0), (.int .u8 0), (.int .u8 0), (.int .u8 0), (.int .u8 0), (.int .u8 0), (.int .u8 0), (.int .u8 0), (.int .u8 0), (.int .u8 0), (.int .u8 0), (.int .u8 0), (.int .u8 0), (.int .u8 0), (.int .u8 0), (.int .u8 0), (.int .u8 0), (.int .u8 0), (.int .u8 0), (.int .u8 0), (.int .u8 0), (.int .u8 0), (.int .u8 0), (.int .u8 0), (.int .u8 0), (.int .u8 0), (.int .u8 0), (.int .u8 0), (.int .u8 0), (.int .u8 0), (.int .u8 0), (.int .u8 0), (.int .u8 0), (.int .u8 0), (.int .u8 0), (.int .u8 0), (.int .u8 0), (.int .u8 0), (.int .u8 0), (.int .u8 0), (.int .u8 0), (.int .u8 0), (.int .u8 0), (.int .u8 0), (.int .u8 0), (.int .u8 0), (.int .u8 0), (.int .u8 0), (.int .u8 0), (.int .u8 0), (.int .u8 0), (.int .u8 0)], 65, (.arr 65 5)⟩),
  (318, ⟨1, false, [.nilFunc], 8, .func⟩),
  (319, ⟨1, false, [(.tuple #[(.int .i32 0), (.int .i64 0)])], 0, .other⟩),
  (320, ⟨1, false, [.nilFunc], 8, .func⟩)]
theorem tiAll7 : tiL7.map (fun p => tiOf Tryz.prog p.1) = tiL7.map (fun p => some p.2) := by kernel_rfl
theorem ti280 : tiOf Tryz.prog 280 = some ⟨1, false, [.nilFunc], 8, .func⟩ := tiAt tiAll7 (k := 0) rfl
theorem ti281 : tiOf Tryz.prog 281 = some ⟨1, false, [.nilFunc], 8, .func⟩ := tiAt tiAll7 (k := 1) rfl
theorem ti282 : tiOf Tryz.prog 282 = some ⟨3, true, [(.string ByteArray.empty), (.string ByteArray.empty), (.bool false)], 40, (.struct [(0, (1, false)), (1, (1, false)), (2, (1, false))])⟩ := tiAt tiAll7 (k := 2) rfl
theorem ti283 : tiOf Tryz.prog 283 = some ⟨3, true, [(.string ByteArray.empty), (.string ByteArray.empty), (.bool false)], 40, (.struct [(0, (1, false)), (1, (1, false)), (2, (1, false))])⟩ := tiAt tiAll7 (k := 3) rfl
theorem ti284 : tiOf Tryz.prog 284 = some ⟨1, false, [(.pointer none)], 8, (.ptr 260)⟩ := tiAt tiAll7 (k := 4) rfl
theorem ti285 : tiOf Tryz.prog 285 = some ⟨1, false, [.nilFunc], 8, .func⟩ := tiAt tiAll7 (k := 5) rfl
theorem ti286 : tiOf Tryz.prog 286 = some ⟨1, false, [.nilFunc], 8, .func⟩ := tiAt tiAll7 (k := 6) rfl
theorem ti287 : tiOf Tryz.prog 287 = some ⟨1, false, [.nilFunc], 8, .func⟩ := tiAt tiAll7 (k := 7) rfl
theorem ti288 : tiOf Tryz.prog 288 = some ⟨1, false, [.nilFunc], 8, .func⟩ := tiAt tiAll7 (k := 8) rfl
theorem ti290 : tiOf Tryz.prog 290 = some ⟨2, true, [(.int .u8 0), (.int .u8 0)], 2, (.struct [(0, (1, false)), (1, (1, false))])⟩ := tiAt tiAll7 (k := 9) rfl
theorem ti291 : tiOf Tryz.prog 291 = some ⟨2, true, [(.int .u8 0), (.int .u8 0)], 2, (.struct [(0, (1, false)), (1, (1, false))])⟩ := tiAt tiAll7 (k := 10) rfl
theorem ti292 : tiOf Tryz.prog 292 = some ⟨32, true, [(.int .u8 0), (.int .u8 0), (.int .u8 0), (.int .u8 0), (.int .u8 0), (.int .u8 0), (.int .u8 0), (.int .u8 0), (.int .u8 0), (.int .u8 0), (.int .u8 0), (.int .u8 0), (.int .u8 0), (.int .u8 0), (.int .u8 0), (.int .u8 0), (.int .u8 0), (.int .u8 0), (.int .u8 0), (.int .u8 0), (.int .u8 0), (.int .u8 0), (.int .u8 0), (.int .u8 0), (.int .u8 0), (.int .u8 0), (.int .u8 0), (.int .u8 0), (.int .u8 0), (.int .u8 0), (.int .u8 0), (.int .u8 0)], 32, (.arr 16 291)⟩ := tiAt tiAll7 (k := 11) rfl
theorem ti293 : tiOf Tryz.prog 293 = some ⟨1, false, [.nilIface], 16, .iface⟩ := tiAt tiAll7 (k := 12) rfl
theorem ti294 : tiOf Tryz.prog 294 = some ⟨1, false, [.nilIface], 16, .iface⟩ := tiAt tiAll7 (k := 13) rfl
theorem ti295 : tiOf Tryz.prog 295 = some ⟨1, false, [(.tuple #[(.int .i64 0), .nilIface])], 0, .other⟩ := tiAt tiAll7 (k := 14) rfl
theorem ti296 : tiOf Tryz.prog 296 = some ⟨1, false, [.nilFunc], 8, .func⟩ := tiAt tiAll7 (k := 15) rfl
theorem ti297 : tiOf Tryz.prog 297 = some ⟨1, false, [.nilFunc], 8, .func⟩ := tiAt tiAll7 (k := 16) rfl
theorem ti298 : tiOf Tryz.prog 298 = some ⟨1, false, [.nilFunc], 8, .func⟩ := tiAt tiAll7 (k := 17) rfl
theorem ti299 : tiOf Tryz.prog 299 = some ⟨24, true, [(.int .u8 0), (.int .u8 0), (.int .u8 0), (.int .u8 0), (.int .u8 0), (.int .u8 0), (.int .u8 0), (.int .u8 0), (.int .u8 0), (.int .u8 0), (.int .u8 0), (.int .u8 0), (.int .u8 0), (.int .u8 0), (.int .u8 0), (.int .u8 0), (.int .u8 0), (.int .u8 0), (.int .u8 0), (.int .u8 0), (.int .u8 0), (.int .u8 0), (.int .u8 0), (.int .u8 0)], 24, (.arr 24 5)⟩ := tiAt tiAll7 (k := 18) rfl
theorem ti300 : tiOf Tryz.prog 300 = some ⟨1, false, [.nilFunc], 8, .func⟩ := tiAt tiAll7 (k := 19) rfl
theorem ti301 : tiOf Tryz.prog 301 = some ⟨1, false, [(.tuple #[(.slice none 0 0), (.string ByteArray.empty)])], 0, .other⟩ := tiAt tiAll7 (k := 20) rfl
theorem ti302 : tiOf Tryz.prog 302 = some ⟨1, false, [.nilFunc], 8, .func⟩ := tiAt tiAll7 (k := 21) rfl
theorem ti303 : tiOf Tryz.prog 303 = some ⟨1, false, [(.map none)], 8, (.map 21 21)⟩ := tiAt tiAll7 (k := 22) rfl
theorem ti304 : tiOf Tryz.prog 304 = some ⟨1, false, [.nilFunc], 8, .func⟩ := tiAt tiAll7 (k := 23) rfl
theorem ti305 : tiOf Tryz.prog 305 = some ⟨1, false, [.nilFunc], 8, .func⟩ := tiAt tiAll7 (k := 24) rfl
theorem ti306 : tiOf Tryz.prog 306 = some ⟨1, false, [.nilFunc], 8, .func⟩ := tiAt tiAll7 (k := 25) rfl
theorem ti307 : tiOf Tryz.prog 307 = some ⟨1, false, [.nilFunc], 8, .func⟩ := tiAt tiAll7 (k := 26) rfl
theorem ti308 : tiOf Tryz.prog 308 = some ⟨1, false, [.nilFunc], 8, .func⟩ := tiAt tiAll7 (k := 27) rfl
theorem ti309 : tiOf Tryz.prog 309 = some ⟨1, false, [.nilFunc], 8, .func⟩ := tiAt tiAll7 (k := 28) rfl
theorem ti310 : tiOf Tryz.prog 310 = some ⟨1, false, [.nilFunc], 8, .func⟩ := tiAt tiAll7 (k := 29) rfl
theorem ti311 : tiOf Tryz.prog 311 = some ⟨1, false, [(.tuple #[(.int .i32 0), (.bool false)])], 0, .other⟩ := tiAt tiAll7 (k := 30) rfl
theorem ti312 : tiOf Tryz.prog 312 = some ⟨1, false, [.nilFunc], 8, .func⟩ := tiAt tiAll7 (k := 31) rfl
theorem ti313 : tiOf Tryz.prog 313 = some ⟨1, false, [(.pointer none)], 8, .other⟩ := tiAt tiAll7 (k := 32) rfl
theorem ti314 : tiOf Tryz.prog 314 = some ⟨1, false, [.nilFunc], 8, .func⟩ := tiAt tiAll7 (k := 33) rfl
theorem ti315 : tiOf Tryz.prog 315 = some ⟨1, false, [.nilFunc], 8, .func⟩ := tiAt tiAll7 (k := 34) rfl
theorem ti316 : tiOf Tryz.prog 316 = some ⟨20, true, [(.int .u64 0), (.int .u64 0), (.int .u64 0), (.int .u64 0), (.int .u64 0), (.int .u64 0), (.int .u64 0), (.int .u64 0), (.int .u64 0), (.int .u64 0), (.int .u64 0), (.int .u64 0), (.int .u64 0), (.int .u64 0), (.int .u64 0), (.int .u64 0), (.int .u64 0), (.int .u64 0), (.int .u64 0), (.int .u64 0)], 160, (.arr 20 23)⟩ := tiAt tiAll7 (k := 35) rfl
theorem ti317 : tiOf Tryz.prog 317 = some ⟨65, true, [(.int .u8 0), (.int .u8 0), (.int .u8 0), (.int .u8 0), (.int .u8 0), (.int .u8 0), (.int .u8 0), (.int .u8 0), (.int .u8 0), (.int .u8 0), (.int .u8 0), (.int .u8 0), (.int .u8 0), (.int .u8 0), (.int .u8 0), (.int .u8 0), (.int .u8 0), (.int .u8 0), (.int .u8 0), (.int .u8 0), (.int .u8 0), (.int .u8 0), (.int .u8 0), (.int .u8 0), (.int .u8 0), (.int .u8 0), (.int .u8 0), (.int .u8 0), (.int .u8 0), (.int .u8 0), (.int .u8 0), (.int .u8 0), (.int .u8 0), (.int .u8 0), (.int .u8 0), (.int .u8 0), (.int .u8 0), (.int .u8 0), (.int .u8 0), (.int .u8 0), (.int .u8 0), (.int .u8 0), (.int .u8 0), (.int .u8 0), (.int .u8 0), (.int .u8 0), (.int .u8 0), (.int .u8 0), (.int .u8 0), (.int .u8 0), (.int .u8 0), (.int .u8 0), (.int .u8 0), (.int .u8 0), (.int .u8 0), (.int .u8 0), (.int .u8 0), (.int .u8 0), (.int .u8 0), (.int .u8 0), (.int .u8 0), (.int .u8 0), (.int .u8 0), (.int .u8 0), (.int .u8 0)], 65, (.arr 65 5)⟩ := tiAt tiAll7 (k := 36) rfl
theorem ti318 : tiOf Tryz.prog 318 = some ⟨1, false, [.nilFunc], 8, .func⟩ := tiAt tiAll7 (k := 37) rfl
theorem ti319 : tiOf Tryz.prog 319 = some ⟨1, false, [(.tuple #[(.int .i32 0), (.int .i64 0)])], 0, .other⟩ := tiAt tiAll7 (k := 38) rfl
theorem ti320 : tiOf Tryz.prog 320 = some ⟨1, false, [.nilFunc], 8, .func⟩ := tiAt tiAll7 (k := 39) rfl
def tiL8 : List (Nat × TI) := [
  (321, ⟨1, false, [.nilFunc], 8, .func⟩),
  (322, ⟨1, false, [(.pointer none)], 8, (.ptr 5)⟩),
  (323, ⟨32, true, [(.int .u8 0), (.int .u8 0), (.int .u8 0), (.int .u8 0), (.int .u8 0), (.int .u8 0), (.int .u8 0), (.int .u8 0), (.int .u8 0), (.int .u8 0), (.int .u8 0), (.int .u8 0), (.int .u8 0), (.int .u8 0), (.int .u8 0), (.int .u8 0), (.int .u8 0), (.int .u8 0), (.int .u8 0), (.int .u8 0), (.int .u8 0), (.int .u8 0), (.int .u8 0), (.int .u8 0), (.int .u8 0), (.int .u8 0), (.int .u8 0), (.int .u8 0), (.int .u8 0), (.int .u8 0), (.int .u8 0), (.int .u8 0)], 32, (.arr 32 5)⟩),
  (324, ⟨64, true, [(.int .u8 0), (.int .u8 0), (.int .u8 0), (.int .u8 0), (.int .u8 0), (.int .u8 0), (.int .u8 0), (.int .u8 0), (.int .u8 0), (.int .u8 0), (.int .u8 0), (.int .u8 0), (.int .u8 0), (.int .u8 0), (.int .u8 0), (.int .u8 0), (.int .u8 0), (.int .u8 0), (.int .u8 0), (.int .u8 0), (.int .u8 0), (.int .u8 0), (.int .u8 0), (.int .u8 0), (.int .u8 0), (.int .u8 0), (.int .u8 0), (.int .u8 0), (.int .u8 0), (.int .u8 0), (.int .u8 0), (.int .u8 0), (.int .u8 0), (.int .u8 0), (.int .u8 0), (.int .u8 0), (.int .u8 0), (.int .u8 0), (.int .u8 0), (.int .u8 0), (.int .u8 0), (.int .u8 0), (.int .u8 0), (.int .u8 0), (.int .u8 0), (.int .u8 0), (.int .u8 0), (.int .u8 0), (.int .u8 0), (.int .u8 0), (.int .u8 0), (.int .u8 0), (.int .u8 0), (.int .u8 0), (.int .u8 0), (.int .u8 0), (.int .u8 0), (.int .u8 0), (.int .u8 0), (.int .u8 0), (.int .u8 0), (.int .u8 0), (.int .u8 0), (.int .u8 0)], 64, (.arr 64 5)⟩),
  (325, ⟨4, true, [(.pointer none), (.pointer none), (.pointer none), (.string ByteArray.empty)], 40, (.struct [(0, (1, false)), (1, (1, false)), (2, (1, false)), (3, (1, false))])⟩),
  (326, ⟨4, true, [(.pointer none), (.pointer none), (.pointer none), (.string ByteArray.empty)], 40, (.struct [(0, (1, false)), (1, (1, false)), (2, (1, false)), (3, (1, false))])⟩),
  (327, ⟨0, true, [], 0, (.arr 0 16)⟩),
  (328, ⟨0, true, [], 0, (.struct [(0, (0, true))])⟩),
  (329, ⟨0, true, [], 0, (.struct [(0, (0, true))])⟩),
  (330, ⟨1, false, [(.int .u8 0)], 1, (.int .u8)⟩),
  (331, ⟨1, false, [(.int .u8 0)], 1, (.int .u8)⟩),
  (332, ⟨1, false, [.nilFunc], 8, .func⟩),
  (333, ⟨1, false, [(.int .i32 0)], 4, (.int .i32)⟩),
  (334, ⟨1, false, [(.int .i32 0)], 4, (.int .i32)⟩),
  (335, ⟨11, true, [(.int .u64 0), (.int .u64 0), (.int .u32 0), (.int .u8 0), (.int .u8 0), (.int .u8 0), (.int .u8 0), .nilFunc, (.pointer none), (.int .i32 0), (.int .i32 0)], 48, (.struct [(0, (1, false)), (1, (1, false)), (2, (1, false)), (3, (1, false)), (4, (1, false)), (5, (1, false)), (6, (1, false)), (7, (1, false)), (8, (1, false)), (9, (1, false)), (10, (1, false))])⟩),
  (336, ⟨11, true, [(.int .u64 0), (.int .u64 0), (.int .u32 0), (.int .u8 0), (.int .u8 0), (.int .u8 0), (.int .u8 0), .nilFunc, (.pointer none), (.int .i32 0), (.int .i32 0)], 48, (.struct [(0, (1, false)), (1, (1, false)), (2, (1, false)), (3, (1, false)), (4, (1, false)), (5, (1, false)), (6, (1, false)), (7, (1, false)), (8, (1, false)), (9, (1, false)), (10, (1, false))])⟩)]
theorem tiAll8 : tiL8.map (fun p => tiOf Tryz.prog p.1) = tiL8.map (fun p => some p.2) := by kernel_rfl
theorem ti321 : tiOf Tryz.prog 321 = some ⟨1, false, [.nilFunc], 8, .func⟩ := tiAt tiAll8 (k := 0) rfl
theorem ti322 : tiOf Tryz.prog 322 = some ⟨1, false, [(.pointer none)], 8, (.ptr 5)⟩ := tiAt tiAll8 (k := 1) rfl
theorem ti323 : tiOf Tryz.prog 323 = some ⟨32, true, [(.int .u8 0), (.int .u8 0), (.int .u8 0), (.int .u8 0), (.int .u8 0), (.int .u8 0), (.int .u8 0), (.int .u8 0), (.int .u8 0), (.int .u8 0), (.int .u8 0), (.int .u8 0), (.int .u8 0), (.int .u8 0), (.int .u8 0), (.int .u8 0), (.int .u8 0), (.int .u8 0), (.int .u8 0), (.int .u8 0), (.int .u8 0), (.int .u8 0), (.int .u8 0), (.int .u8 0), (.int .u8 0), (.int .u8 0), (.int .u8 0), (.int .u8 0), (.int .u8 0), (.int .u8 0), (.int .u8 0), (.int .u8 0)], 32, (.arr 32 5)⟩ := tiAt tiAll8 (k := 2) rfl
theorem ti324 : tiOf Tryz.prog 324 = some ⟨64, true, [(.int .u8 0), (.int .u8 0), (.int .u8 0), (.int .u8 0), (.int .u8 0), (.int .u8 0), (.int .u8 0), (.int .u8 0), (.int .u8 0), (.int .u8 0), (.int .u8 0), (.int .u8 0), (.int .u8 0), (.int .u8 0), (.int .u8 0), (.int .u8 0), (.int .u8 0), (.int .u8 0), (.int .u8 0), (.int .u8 0), (.int .u8 0), (.int .u8 0), (.int .u8 0), (.int .u8 0), (.int .u8 0), (.int .u8 0), (.int .u8 0), (.int .u8 0), (.int .u8 0), (.int .u8 0), (.int .u8 0), (.int .u8 0), (.int .u8 0), (.int .u8 0), (.int .u8 0), (.int .u8 0), (.int .u8 0), (.int .u8 0), (.int .u8 0), (.int .u8 0), (.int .u8 0), (.int .u8 0), (.int .u8 0), (.int .u8 0), (.int .u8 0), (.int .u8 0), (.int .u8 0), (.int .u8 0), (.int .u8 0), (.int .u8 0), (.int .u8 0), (.int .u8 0), (.int .u8 0), (.int .u8 0), (.int .u8 0), (.int .u8 0), (.int .u8 0), (.int .u8 0), (.int .u8 0), (.int .u8 0), (.int .u8 0), (.int .u8 0), (.int .u8 0), (.int .u8 0)], 64, (.arr 64 5)⟩ := tiAt tiAll8 (k := 3) rfl
theorem ti325 : tiOf Tryz.prog 325 = some ⟨4, true, [(.pointer none), (.pointer none), (.pointer none), (.string ByteArray.empty)], 40, (.struct [(0, (1, false)), (1, (1, false)), (2, (1, false)), (3, (1, false))])⟩ := tiAt tiAll8 (k := 4) rfl
theorem ti326 : tiOf Tryz.prog 326 = some ⟨4, true, [(.pointer none), (.pointer none), (.pointer none), (.string ByteArray.empty)], 40, (.struct [(0, (1, false)), (1, (1, false)), (2, (1, false)), (3, (1, false))])⟩ := tiAt tiAll8 (k := 5) rfl
theorem ti327 : tiOf Tryz.prog 327 = some ⟨0, true, [], 0, (.arr 0 16)⟩ := tiAt tiAll8 (k := 6) rfl
theorem ti328 : tiOf Tryz.prog 328 = some ⟨0, true, [], 0, (.struct [(0, (0, true))])⟩ := tiAt tiAll8 (k := 7) rfl
theorem ti329 : tiOf Tryz.prog 329 = some ⟨0, true, [], 0, (.struct [(0, (0, true))])⟩ := tiAt tiAll8 (k := 8) rfl
theorem ti330 : tiOf Tryz.prog 330 = some ⟨1, false, [(.int .u8 0)], 1, (.int .u8)⟩ := tiAt tiAll8 (k := 9) rfl
theorem ti331 : tiOf Tryz.prog 331 = some ⟨1, false, [(.int .u8 0)], 1, (.int .u8)⟩ := tiAt tiAll8 (k := 10) rfl
theorem ti332 : tiOf Tryz.prog 332 = some ⟨1, false, [.nilFunc], 8, .func⟩ := tiAt tiAll8 (k := 11) rfl
theorem ti333 : tiOf Tryz.prog 333 = some ⟨1, false, [(.int .i32 0)], 4, (.int .i32)⟩ := tiAt tiAll8 (k := 12) rfl
theorem ti334 : tiOf Tryz.prog 334 = some ⟨1, false, [(.int .i32 0)], 4, (.int .i32)⟩ := tiAt tiAll8 (k := 13) rfl
theorem ti335 : tiOf Tryz.prog 335 = some ⟨11, true, [(.int .u64 0), (.int .u64 0), (.int .u32 0), (.int .u8 0), (.int .u8 0), (.int .u8 0), (.int .u8 0), .nilFunc, (.pointer none), (.int .i32 0), (.int .i32 0)], 48, (.struct [(0, (1, false)), (1, (1, false)), (2, (1, false)), (3, (1, false)), (4, (1, false)), (5, (1, false)), (6, (1, false)), (7, (1, false)), (8, (1, false)), (9, (1, false)), (10, (1, false))])⟩ := tiAt tiAll8 (k := 14) rfl
theorem ti336 : tiOf Tryz.prog 336 = some ⟨11, true, [(.int .u64 0), (.int .u64 0), (.int .u32 0), (.int .u8 0), (.int .u8 0), (.int .u8 0), (.int .u8 0), .nilFunc, (.pointer none), (.int .i32 0), (.int .i32 0)], 48, (.struct [(0, (1, false)), (1, (1, false)), (2, (1, false)), (3, (1, false)), (4, (1, false)), (5, (1, false)), (6, (1, false)), (7, (1, false)), (8, (1, false)), (9, (1, false)), (10, (1, false))])⟩ := tiAt tiAll8 (k := 15) rfl
attribute [push_cast] ti0 ti1 ti2 ti3 ti4 ti5 ti6 ti7 ti8 ti9 ti10 ti11 ti12 ti13 ti14 ti15 ti16 ti17 ti18 ti19 ti20 ti21 ti22 ti23 ti24 ti25 ti26 ti27 ti28 ti29 ti30 ti31 ti32 ti33 ti34 ti35 ti36 ti37 ti38 ti39 ti40 ti41 ti42 ti43 ti44 ti45 ti46 ti47 ti48 ti49 ti50 ti51 ti52 ti53 ti54 ti55 ti56 ti57 ti58 ti59 ti60 ti61 ti62 ti63 ti64 ti65 ti66 ti67 ti68 ti69 ti70 ti71 ti72 ti73 ti74 ti75 ti76 ti77 ti78 ti79 ti80 ti81 ti82 ti83 ti84 ti85 ti86 ti87 ti88 ti89 ti90 ti91 ti92 ti93 ti94 ti95 ti96 ti97 ti98 ti99
attribute [push_cast] ti100 ti101 ti102 ti103 ti104 ti105 ti106 ti107 ti108 ti109 ti110 ti111 ti112 ti113 ti114 ti115 ti116 ti117 ti118 ti119 ti120 ti121 ti122 ti123 ti124 ti125 ti126 ti127 ti128 ti129 ti130 ti131 ti132 ti133 ti134 ti135 ti136 ti137 ti138 ti139 ti140 ti141 ti142 ti143 ti144 ti145 ti146 ti147 ti148 ti149 ti150 ti151 ti152 ti153 ti154 ti155 ti156 ti157 ti158 ti159 ti160 ti161 ti162 ti163 ti164 ti165 ti166 ti167 ti168 ti169 ti170 ti171 ti172 ti173 ti174 ti175 ti176 ti177 ti178 ti179 ti180 ti181 ti182 ti183 ti184 ti185 ti186 ti187 ti188 ti189 ti190 ti191 ti192 ti193 ti194 ti195 ti196 ti197 ti198 ti199
attribute [push_cast] ti200 ti201 ti202 ti203 ti204 ti205 ti206 ti207 ti208 ti209 ti210 ti211 ti212 ti213 ti214 ti215 ti216 ti217 ti218 ti219 ti220 ti221 ti222 ti223 ti224 ti225 ti226 ti227 ti228 ti229 ti230 ti231 ti232 ti233 ti234 ti235 ti236 ti237 ti238 ti239 ti240 ti241 ti242 ti243 ti244 ti245 ti246 ti247 ti248 ti249 ti250 ti251 ti252 ti253 ti254 ti255 ti256 ti257 ti258 ti259 ti260 ti261 ti262 ti263 ti264 ti265 ti266 ti267 ti268 ti269 ti270 ti271 ti272 ti273 ti274 ti275 ti276 ti277 ti278 ti279 ti280 ti281 ti282 ti283 ti284 ti285 ti286 ti287 ti288 ti290 ti291 ti292 ti293 ti294 ti295 ti296 ti297 ti298 ti299 ti300
attribute [push_cast] ti301 ti302 ti303 ti304 ti305 ti306 ti307 ti308 ti309 ti310 ti311 ti312 ti313 ti314 ti315 ti316 ti317 ti318 ti319 ti320 ti321 ti322 ti323 ti324 ti325 ti326 ti327 ti328 ti329 ti330 ti331 ti332 ti333 ti334 ti335 ti336
theorem mixed : Tryz.prog.follows .mixedOrders = true := by kernel_rfl
end Go.Ab
