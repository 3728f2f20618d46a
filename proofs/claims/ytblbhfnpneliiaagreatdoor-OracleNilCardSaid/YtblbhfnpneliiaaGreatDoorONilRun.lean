/- OracleNil: the runs, whatever the act and what it came to. -/
import Derived.Test.YtblbhfnpneliiaaGreatDoorExKnown
import Derived.Test.YtblbhfnpneliiaaGreatDoorExLaw
namespace Go.Proofs.YtblbhfnpneliiaaGreatDoor.oracleNil
open Go.ChangeShapes Go.WideShapes Go.ChangeAt Go.RowKit Go.Ex

def kAct : List CK := [.int .i64, .int .i64, .int .i64, .int .i64, .int .u8, .int .i64, .str, .str, .int .i64, .bool, .int .i64, .bool, .int .i64, .str, .slc, .slc, .bool, .int .i64, .bool, .int .i64, .str, .slc, .slc, .slc, .int .i64, .str, .str, .bool]
def kTold : List CK := [.int .i64, .int .u64, .int .i64, .int .i64, .int .i64, .bool, .slc]
noncomputable def tAct : List TypeId := (Tryz.prog.cellTypes Tryz.prog.depth 72).getD []
noncomputable def tTold : List TypeId := (Tryz.prog.cellTypes Tryz.prog.depth 77).getD []
theorem hAct : Tryz.prog.cellTypes Tryz.prog.depth 72 = some tAct := by kernel_rfl
theorem hTold : Tryz.prog.cellTypes Tryz.prog.depth 77 = some tTold := by kernel_rfl
theorem bAct : allKB Tryz.prog tAct kAct = true := by kernel_rfl
theorem bTold : allKB Tryz.prog tTold kTold = true := by kernel_rfl
theorem nAct : Tryz.prog.cellsOf 72 = tAct.length := by kernel_rfl
theorem nTold : Tryz.prog.cellsOf 77 = tTold.length := by kernel_rfl
set_option maxRecDepth 100000 in
theorem act {W : World} {r : Reach} {base : Nat} {v : Value} (h : Value.okWide Tryz.prog W r base 72 v) : ∃ c : Nat → Value, v = .agg (mkV c kAct 0).toArray :=
  struct_cells Tryz.underlying72 (ts := tAct) (ks := kAct) hAct bAct nAct h
set_option maxRecDepth 100000 in
theorem told {W : World} {r : Reach} {base : Nat} {v : Value} (h : Value.okWide Tryz.prog W r base 77 v) : ∃ c : Nat → Value, v = .agg (mkV c kTold 0).toArray :=
  struct_cells Tryz.underlying77 (ts := tTold) (ks := kTold) hTold bTold nTold h

/-- The act's cells, its client apart. -/
def acts (c : Nat → Value) (who : Int) : List Value := cellK (.int .i64) (c 0) :: .int .i64 who :: mkV c (kAct.drop 2) 2
def args (c d : Nat → Value) (who : Int) : List X := [.agg (mapV (acts c who)), .agg (mapV (mkV d kTold 0))]
theorem enters8 : Go.Ab.entersB Tryz.prog 8 = true := by kernel_rfl
theorem run_zero (c d : Nat → Value) : isTrue (call0 Tryz.prog 420 118 5000 8 (args c d (Int.ofNat 0))) = true := by kernel_rfl
theorem run_pos (c d : Nat → Value) (m : Nat) : isTrue (call0 Tryz.prog 420 118 5000 8 (args c d (Int.ofNat (Nat.succ m)))) = true := by kernel_rfl
theorem run_neg (c d : Nat → Value) (m : Nat) : isTrue (call0 Tryz.prog 420 118 5000 8 (args c d (Int.negSucc m))) = true := by kernel_rfl
theorem run_any (c d : Nat → Value) (who : Int) : isTrue (call0 Tryz.prog 420 118 5000 8 (args c d who)) = true := by
  cases who with
  | ofNat n => cases n with
    | zero => exact run_zero c d
    | succ m => exact run_pos c d m
  | negSucc m => exact run_neg c d m
theorem walk (c d : Nat → Value) (w : World) : Calls Tryz.prog 8 #[.agg (mkV c kAct 0).toArray, .agg (mkV d kTold 0).toArray] w fun e w' => e = .returned (.bool true) ∧ Below w.heap.size w w' :=
  calls_true (xs := args c d (intC (c 1))) (vs := [.agg (mkV c kAct 0).toArray, .agg (mkV d kTold 0).toArray]) mixedX rcOk enters8
    (by
      have h1 : acts c (intC (c 1)) = mkV c kAct 0 := rfl
      simp only [args, h1, concL, conc, concL_mapV, Option.map_some]) (run_any c d _) w

end Go.Proofs.YtblbhfnpneliiaaGreatDoor.oracleNil
