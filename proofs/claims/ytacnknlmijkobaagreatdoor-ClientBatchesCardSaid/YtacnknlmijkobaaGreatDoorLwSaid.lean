/- ClientBatches: the law answers true, whatever its input. -/
import Derived.Test.YtacnknlmijkobaaGreatDoorV14
import Derived.Test.YtacnknlmijkobaaGreatDoorLwK
import Derived.Test.YtacnknlmijkobaaGreatDoorLwG
import Derived.Test.YtacnknlmijkobaaGreatDoorLwFacts
import Derived.Test.YtacnknlmijkobaaGreatDoorCards
import Derived.Test.YtacnknlmijkobaaGreatDoorTie
set_option linter.unusedVariables false
set_option linter.unusedSimpArgs false
set_option maxHeartbeats 4000000
set_option maxRecDepth 20000
set_option linter.unusedVariables false
set_option linter.unusedSimpArgs false
namespace Go.Proofs.YtacnknlmijkobaaGreatDoor.clientBatches
open Go.ChangeShapes Go.WideShapes Go.ChangeAt Go.RowKit Go.Ab
theorem own:ownKnob Tryz.prog.godebug=none:=by kernel_rfl
set_option maxRecDepth 100000 in
theorem rows:∀ t ∈ Tryz.f3.params.toList,t<Tryz.prog.types.size:=by
 rw[Tryz.params3]
 intro t ht
 simp at ht
 subst ht
 exact Nat.lt_of_lt_of_le (by decide) (Nat.le_of_ble_eq_true (show(Nat.ble (3+1) Tryz.prog.types.size)=true by kernel_rfl))
theorem kids:Kids Tryz.prog (· <Tryz.prog.types.size):=kids_rows j1 j2
theorem full:∀ t e,t<Tryz.prog.types.size→Tryz.prog.underlying t=some (.slice e)→0<Tryz.prog.cellsOf e:=slices_full_of Tryz.prog (by kernel_rfl)
theorem result:Tryz.f3.resultTypes=#[4]:=by kernel_rfl
theorem gin{W:World}(hL:laidMetH Tryz.prog Rows.clientBatchesRow.laid W):GIn Tryz.prog W fun k=>k<W.heap.size:=gin8 hL
theorem calls_law{W:World}{a b c:Int}(ha:Go.Ab.okP (.int .i64 a))(hb:Go.Ab.okP (.int .i64 b))(hc:Go.Ab.okP (.int .i64 c))(hg:GIn Tryz.prog W fun k=>k<W.heap.size):Calls Tryz.prog 3 #[.int .i64 a,.int .i64 b,.int .i64 c] W fun e W'=>e=.returned (.bool true)∧Below W.heap.size W W':=by
 have h:=Go.Ab.law_batches a b c
 unfold Go.Ab.A0 at h
 refine(h.2 W _ [_,_,_] hg (fun k hk=>hk) rfl fun i hi=>?_).mono fun e W' ⟨v,I',he,hv,_,_,_,hb⟩=>?_
 ·match i,hi with
  |0,_=>exact .val _ ha
  |1,_=>exact .val _ hb
  |2,_=>exact .val _ hc
 ·subst he
  exact⟨by rw[hv.val_inv],hb⟩
set_option maxRecDepth 100000 in
theorem contract(H:Type)(enc:TypeId×Value→H)(W:World)(base:Nat)(args:Array Value)(ds gs:List (DataW H))(before:List MemPlace)
  (hval:∀ (j:Nat) t v,Tryz.f3.params[j]? =some t→args[j]? =some v→Value.okWide Tryz.prog W .any base t v)
  (hW:DataW.Whole enc Tryz.prog Tryz.f3.params.toList Rows.clientBatchesSpec.vars false W args.toList ds gs before) (hL:laidMetH Tryz.prog Rows.clientBatchesRow.laid W):
  Calls Tryz.prog 3 args W fun e W'=>∃ v,e=.returned v∧Rows.clientBatchesSpec.post enc Tryz.prog Tryz.f3 false true false false W args v W':=by
 have hW':=hW
 obtain⟨p,q,hA0,hV,rfl,hfz,hnd⟩:=hW
 have hA:DataW.TrodAll enc Tryz.prog W 0 (fun _=>true) true Tryz.f3.params.toList args.toList ds p:=hA0
 rw[Tryz.params3] at hA hval
 obtain⟨v0,vs0,d0,ds0,p0,q0,hargs,rfl,rfl,h0,r0⟩:=trodAll_cons hA
 obtain⟨v1,vs1,d1,ds1,p1,q1,rfl,rfl,rfl,h1,r1⟩:=trodAll_cons r0
 obtain⟨v2,vs2,d2,ds2,p2,q2,rfl,rfl,rfl,h2,r2⟩:=trodAll_cons r1
 obtain⟨rfl,rfl,rfl⟩:=trodAll_nil r2
 obtain rfl:args=#[v0,v1,v2]:=by cases args;simp_all
 obtain⟨rfl,rfl⟩:=trodVars_none hV
 obtain⟨n0,rfl,rfl,rfl,w0⟩:=open_int Tryz.underlying3 (hval 0 3 v0 rfl rfl) h0
 obtain⟨n1,rfl,rfl,rfl,w1⟩:=open_int Tryz.underlying3 (hval 1 3 v1 rfl rfl) h1
 obtain⟨n2,rfl,rfl,rfl,w2⟩:=open_int Tryz.underlying3 (hval 2 3 v2 rfl rfl) h2
 simp only[Lit.wf,Bool.and_eq_true,decide_eq_true_eq,IntKind.min,IntKind.max,IntKind.signed,IntKind.bits] at w0 w1 w2
 simp at w0 w1 w2
 refine(calls_law (by simp[Go.Ab.okP,Go.Ab.D2,Go.Ab.D3];omega) (by simp[Go.Ab.okP,Go.Ab.D2,Go.Ab.D3];omega) (by simp[Go.Ab.okP,Go.Ab.D2,Go.Ab.D3];omega) (gin hL)).mono fun e W' ⟨he,hb⟩=>?_
 subst he
 exact⟨_,rfl,post_true kids full rows rfl result Tryz.underlying4 rfl hW' hb⟩
def zeros:Array Value:=#[.int .i64 0,.int .i64 0,.int .i64 0]
def tys(n:String):Option TypeId:=if n== "*errors.errorString" then some 451 else none
noncomputable def lw(os:Os):World:=laidWorldE Tryz.prog tys Rows.clientBatchesRow.laid os
theorem laid_met(os:Os):laidMet Tryz.prog Rows.clientBatchesRow.laid ((lw os).forCall (fun _ _=>0) ⟨#[],zeros,[]⟩).memory:=
 laidMet_of_run3 8 (by kernel_rfl) (by kernel_rfl) (by kernel_rfl)
theorem reads(os:Os){H:Type}(enc:TypeId×Value→H):∃ x,DataW.whole enc Tryz.prog ((lw os).forCall (fun _ _=>0) ⟨#[],zeros,[]⟩).memory Tryz.f3.params.toList Rows.clientBatchesSpec.vars false zeros.toList 8=some x:=
 Option.isSome_iff_exists.1 (by kernel_rfl)
set_option maxRecDepth 100000 in
theorem lifted(os:Os)(started:os.Started)(H:Type)(enc:TypeId×Value→H)(F:Stop.Interp):
  ReturnsInHanded {} Tryz.checked os 3 .any ((OpenSpec.ofChange Rows.clientBatchesSpec).preRow enc Tryz.prog Tryz.f3 Rows.clientBatchesRow.domain false Rows.clientBatchesRow.laid) (((OpenSpec.ofChange Rows.clientBatchesSpec).at F).post enc Tryz.prog Tryz.f3 false true false false):=by
 obtain⟨x,hx⟩:=reads os enc
 refine returnsInHanded_of_row (C:=Tryz.checked) (s:=OpenSpec.ofChange Rows.clientBatchesSpec) own started (by kernel_rfl) Tryz.func3
  (witness_row_at (enc:=enc) (C:=Tryz.checked) false (lw os) zeros rfl (by kernel_rfl) (by kernel_rfl) (by kernel_rfl)
   (OpenSpec.preRow_of_cond 8 hx (by kernel_rfl) (fun k hk=>by cases hk) (by kernel_rfl) (laid_met os))) ?_
 intro W base args ds gs before hval hW _ _ _ hL _ _
 exact contract H enc W base args ds gs before hval hW hL
set_option maxRecDepth 1000000 in
theorem said:Rows.ClientBatchesSaid:=
 OpenClaim.holds_of_cond 3 Tryz.f3 rfl rfl rfl rfl rfl rfl rfl ⟨rfl,rfl,rfl,rfl,rfl⟩ rfl rfl rfl rfl rfl (by kernel_rfl) Tryz.func3 closed
  (of_decide_eq_true (by kernel_rfl)) (by unfold Func.isWrapper;first|(rw[if_pos (by decide+kernel)];kernel_rfl)|(rw[if_neg (by decide+kernel)];exact⟨rfl,rfl⟩))
  (fun os started H enc _ F=>by rw[OpenClaim.pre_eq_preRow];exact lifted os started H enc F)
theorem plain(f:FuncId)(fn:Func)(hf:Tryz.pinned.checked.prog.funcNamed "commonplace/commonplacelaw25.ClientBatches"=some f)(hfn:Tryz.pinned.checked.prog.funcs[f]? =some fn):
  true=Tryz.pinned.checked.prog.looks []∧∀ (j:Nat) t,fn.params[j]? =some t→Tryz.pinned.checked.prog.wantsStandIn t=false:=by
 obtain rfl:f=3:=Option.some.inj ((show Tryz.prog.funcNamed "commonplace/commonplacelaw25.ClientBatches"=some 3 by kernel_rfl).symm.trans hf)|>.symm
 obtain rfl:fn=Tryz.f3:=(Option.some.inj (Tryz.func3.symm.trans hfn)).symm
 refine⟨by kernel_rfl,fun j t ht=>?_⟩
 rw[Tryz.params3] at ht
 have:=Array.mem_of_getElem? ht
 simp at this
 subst this
 exact(show Tryz.prog.wantsStandIn 3=false by kernel_rfl)
end Go.Proofs.YtacnknlmijkobaaGreatDoor.clientBatches
