/- The exact evaluator, part 20: a function that recovers, where nothing is to be recovered. -/
import Derived.Test.YtblbhfnpneliiaaGreatDoorExProg
import Derived.RecoverIn
import Derived.WideLaws
namespace Go.Ex
open Go.RowKit

theorem rc_ok {P : Program} {f : FuncId} {fn : Func} {r e d b i0 i3 i4 : Nat} {T T0 T1 T2 T4 : TypeId} {s0 s3 s4 : String} {rest : Code} (hf : P.funcs[f]? = some fn)
    (hb : fn.body = some (.seq (.region i0 #[⟨some r, .call ⟨.builtin .recover, #[], #[]⟩, T0, s0, #[], none⟩] false) (.block b (.seq (.region i3 #[⟨some e, .binOp .eql T (.tmp r) (.const .nilIface) T1, T2, s3, #[], none⟩] false) (.cond (.tmp e) (.region i4 #[⟨some d, .assign (.tmp r), T4, s4, #[], none⟩] false) rest)))))
    (hres : fn.results = #[]) (hT : P.underlying T = some (.interface (P.methodsAt T))) (hr : r < fn.ntmps) (he : e < fn.ntmps) (args : Array Value) (w : World) :
    CallsDIn Fence.wide 0 P f args .returning w fun e u w' => (∃ v, e = .returned v) ∧ u = .returning ∧ w' = w := by
  refine callsDIn_of_wpSIn hf hb trivial fun c0 cs hu => ?_
  have hrec : recoverD (c0 :: cs) = none := by simp [recoverD, hu]
  have hc0 : ({ c0 with mode := .returning } : Frame) = c0 := by rw [← hu]
  have hsz : ∀ v, ({ tmps := args ++ Array.replicate (fn.ntmps - args.size) undef, defers := [] } : Act).put (some r) v = { tmps := (args ++ Array.replicate (fn.ntmps - args.size) undef).setIfInBounds r v, defers := [] } := fun v => rfl
  have hlen : fn.ntmps ≤ (args ++ Array.replicate (fn.ntmps - args.size) undef).size := by simp; omega
  generalize (args ++ Array.replicate (fn.ntmps - args.size) undef) = t at *
  refine wpSIn_seq (wpSIn_region ?_)
  have h1 : (execOp (Act.eval { tmps := t, defers := [] }) ⟨some r, .call ⟨.builtin .recover, #[], #[]⟩, T0, s0, #[], none⟩).run P w = .ok .recover w := by
    simp [execOp, resolve, invoke, builtin]
  have hab : ∀ g, Oper.about P w (Act.eval { tmps := t, defers := [] }) ⟨some r, .call ⟨.builtin .recover, #[], #[]⟩, T0, s0, #[], none⟩ = some g → Fence.wide.fn g := fun _ _ => trivial
  have hrg : List.range (#[(⟨some r, .call ⟨.builtin .recover, #[], #[]⟩, T0, s0, #[], none⟩ : Oper)]).size = [0] := rfl
  rw [hrg]
  simp only [wpOpsSIn, List.getElem?_toArray, List.getElem?_cons_zero, Region.wanted, if_true, h1, hrec, Exit.thenS]
  refine ⟨hab, ?_⟩
  refine wpSIn_of_wpIn rfl (wpIn_block (wpIn_seq (wpIn_region ?_)))
  have hv : (Act.put { tmps := t, defers := [] } (some r) .nilIface).eval (.tmp r) = .nilIface := by
    simp [Act.put, Act.eval, Array.getD, show r < t.size by omega]
  have h2 : (execOp (Act.eval (Act.put { tmps := t, defers := [] } (some r) .nilIface)) ⟨some e, .binOp .eql T (.tmp r) (.const .nilIface) T1, T2, s3, #[], none⟩).run P w = .ok (.value (.bool true)) w := by
    have hk : (Act.put { tmps := t, defers := [] } (some r) .nilIface).eval (.const .nilIface) = .nilIface := rfl
    have hg : (eqGuard .eql T (.tmp r) (.const .nilIface) .nilIface .nilIface).run P w = .ok () w := by simp [eqGuard]
    simp only [execOp, hv, hk, Sem.run_bind, hg, run_eql_nil_nil w T hT, Result.andThen, Sem.run_pure]
  have hrg2 : List.range (#[(⟨some e, .binOp .eql T (.tmp r) (.const .nilIface) T1, T2, s3, #[], none⟩ : Oper)]).size = [0] := rfl
  rw [hrg2]
  simp only [wpOpsIn, List.getElem?_toArray, List.getElem?_cons_zero, Region.wanted, if_true, Oper.wpIn]
  refine ⟨fun _ _ => trivial, ?_⟩
  rw [Oper.semAt_eq _ _ _ (by simp), h2]
  refine wpIn_cond_true (by simp [Act.put, Act.eval, Array.getD, show e < t.size by omega]) (wpIn_region ?_)
  have hrg3 : List.range (#[(⟨some d, .assign (.tmp r), T4, s4, #[], none⟩ : Oper)]).size = [0] := rfl
  rw [hrg3]
  simp only [wpOpsIn, List.getElem?_toArray, List.getElem?_cons_zero, Region.wanted, if_true, Oper.wpIn]
  refine ⟨fun _ _ => trivial, ?_⟩
  rw [Oper.semAt_eq _ _ _ (by simp)]
  simp only [execOp, Sem.run_pure]
  rw [Oper.uponIn_value]
  simp only [Exit.inBlock, bodyPostS]
  have hv3 : (results fn (((Act.put { tmps := t, defers := [] } (some r) .nilIface).put (some e) (.bool true)).put (some d) (((Act.put { tmps := t, defers := [] } (some r) .nilIface).put (some e) (.bool true)).eval (.tmp r))).tmps).run P w = .ok (.tuple #[]) w := by simp [results, hres]
  refine ⟨rfl, .returning, by rw [hc0], .tuple #[], hv3, ?_⟩
  simp
end Go.Ex
