/- ClientImages: the law answers true, whatever its input is of bulk at most 1048576. -/
import Derived.Test.YtmobnaefbcegbaaGreatDoorV17
import Derived.Test.YtmobnaefbcegbaaGreatDoorLwFacts
import Derived.Test.YtmobnaefbcegbaaGreatDoorCards
import Derived.Test.YtmobnaefbcegbaaGreatDoorTie
set_option maxHeartbeats 4000000
set_option linter.all false
namespace Go.Proofs.YtmobnaefbcegbaaGreatDoor.clientImages
open Go.ChangeShapes Go.WideShapes Go.ChangeAt Go.RowKit Go.Ab
theorem own:ownKnob Tryz.prog.godebug=none:=by kernel_rfl
set_option maxRecDepth 100000 in
theorem rows:∀ t ∈ Tryz.f3.params.toList,t<Tryz.prog.types.size:=by
 rw[Tryz.params3]
 intro t ht
 simp at ht
 subst ht
 exact Nat.lt_of_lt_of_le (by decide) (Nat.le_of_ble_eq_true (show(Nat.ble (26+1) Tryz.prog.types.size)=true by kernel_rfl))
theorem kids:Kids Tryz.prog (· <Tryz.prog.types.size):=kids_rows j1 j2
theorem full:∀ t e,t<Tryz.prog.types.size→Tryz.prog.underlying t=some (.slice e)→0<Tryz.prog.cellsOf e:=slices_full_of Tryz.prog (by kernel_rfl)
theorem result:Tryz.f3.resultTypes=#[4]:=by kernel_rfl
theorem gin{W:World}(hL:laidMetH Tryz.prog rQ.laid W):GIn Tryz.prog W fun k=>k<W.heap.size:=gin8 hL
theorem agg_of{W:World}{r:Reach}{base:Nat}{t:TypeId}{fs:Array Field}{v:Value}(hu:Tryz.prog.underlying t=some (.struct fs))(h:Value.okWide Tryz.prog W r base t v):∃ cs,v=.agg cs:=by
 simp only[Value.okWide,hu] at h
 obtain⟨cs,h,_⟩:=h
 exact⟨cs,h⟩
set_option maxRecDepth 100000 in
theorem contract(H:Type)(enc:TypeId×Value→H)(W:World)(base:Nat)(args:Array Value)(ds gs:List (DataW H))(before:List MemPlace)
  (hval:∀ (j:Nat) t v,Tryz.f3.params[j]? =some t→args[j]? =some v→Value.okWide Tryz.prog W .any base t v)
  (hW:DataW.Whole enc Tryz.prog Tryz.f3.params.toList Rows.clientImagesSpec.vars false W args.toList ds gs before) (hk:Rows.uptoSmall H (ds++gs)=true) (hL:laidMetH Tryz.prog rQ.laid W):
  Calls Tryz.prog 3 args W fun e W'=>∃ v,e=.returned v∧Rows.clientImagesSpec.post enc Tryz.prog Tryz.f3 false true false false W args v W':=by
 have hW':=hW
 obtain⟨p,q,hA0,hV,rfl,hfz,hnd⟩:=hW
 have hA:DataW.TrodAll enc Tryz.prog W 0 (fun _=>true) true Tryz.f3.params.toList args.toList ds p:=hA0
 rw[Tryz.params3] at hA hval
 obtain⟨v0,vs0,d0,ds0,p0,q0,hargs,rfl,rfl,h0,r0⟩:=trodAll_cons hA
 obtain⟨rfl,rfl,rfl⟩:=trodAll_nil r0
 obtain rfl:args=#[v0]:=by cases args;simp_all
 obtain⟨rfl,rfl⟩:=trodVars_none hV
 have hb:Rows.uptoBulkAll ([d0]++[])≤1048576:=of_decide_eq_true hk
 simp only[List.append_nil,Rows.uptoBulkAll] at hb
 obtain⟨cs,rfl⟩:=agg_of Tryz.underlying26 (hval 0 26 v0 rfl rfl)
 obtain⟨k0,t0⟩:=h0
 obtain⟨c,k,a,n,B,L,rl,hl⟩:=Go.Ab.rdb_I k0 _ _ t0 (by show Rows.uptoBulk d0≤_;omega)
 have hr:Go.Ab.RR W [.agg (Go.Ab.imL c k a n B L)] [.agg cs]:=Go.Ab.RR.one (by
  have:=Go.Ab.Rep.agg (w:=W) (I:=fun k=>k<W.heap.size) (mu:=fun _=>none) _ cs.toList rl.1 rl.2
  simpa using this)
 have h:=Go.Ab.law_images hl
 unfold Go.Ab.A0 at h
 refine(h.2 W _ [_] (gin hL) (fun k hk=>hk) rfl hr.2).mono fun e W' ⟨v,I',he,hv,_,_,_,hb⟩=>?_
 subst he
 rw[hv.val_inv]
 exact⟨_,rfl,post_true kids full rows rfl result Tryz.underlying4 rfl hW' hb⟩
def zeros:Array Value:=#[.agg #[.int .u64 0,.int .u64 0,.int .u64 0,.int .u64 0,.slice none 0 0,.slice none 0 0]]
def tys(n:String):Option TypeId:=if n== "*errors.errorString" then some 494 else none
noncomputable def lw(os:Os):World:=laidWorldE Tryz.prog tys rQ.laid os
theorem laid_met(os:Os):laidMet Tryz.prog rQ.laid ((lw os).forCall (fun _ _=>0) ⟨#[],zeros,[]⟩).memory:=
 laidMet_of_run3 8 (by kernel_rfl) (by kernel_rfl) (by kernel_rfl)
theorem reads(os:Os){H:Type}(enc:TypeId×Value→H):∃ x,DataW.whole enc Tryz.prog ((lw os).forCall (fun _ _=>0) ⟨#[],zeros,[]⟩).memory Tryz.f3.params.toList Rows.clientImagesSpec.vars false zeros.toList 8=some x∧Rows.uptoSmall H (x.1++x.2.1)=true:=by
 have h:(DataW.whole enc Tryz.prog ((lw os).forCall (fun _ _=>0) ⟨#[],zeros,[]⟩).memory Tryz.f3.params.toList Rows.clientImagesSpec.vars false zeros.toList 8).any (fun x=>Rows.uptoSmall H (x.1++x.2.1))=true:=by kernel_rfl
 exact(Option.any_eq_true _ _).1 h
set_option maxRecDepth 100000 in
theorem lifted(os:Os)(started:os.Started)(H:Type)(enc:TypeId×Value→H)(F:Stop.Interp):
  ReturnsInHanded {} Tryz.checked os 3 .any ((Rows.OpenSpec.upto Rows.clientImagesSpec).preRow enc Tryz.prog Tryz.f3 rQ.domain false rQ.laid) (((Rows.OpenSpec.upto Rows.clientImagesSpec).at F).post enc Tryz.prog Tryz.f3 false true false false):=by
 obtain⟨x,hx,hs⟩:=reads os enc
 refine returnsInHanded_of_row (C:=Tryz.checked) (s:=Rows.OpenSpec.upto Rows.clientImagesSpec) own started (by kernel_rfl) Tryz.func3
  (witness_row_at (enc:=enc) (C:=Tryz.checked) false (lw os) zeros rfl (by kernel_rfl) (by kernel_rfl) (by kernel_rfl)
   (OpenSpec.preRow_of_cond 8 hx (by kernel_rfl) (fun k hk=>by cases hk;exact hs) (by kernel_rfl) (laid_met os))) ?_
 intro W base args ds gs before hval hW _ hcond _ hL _ _
 exact contract H enc W base args ds gs before hval hW (hcond _ rfl) hL
set_option maxRecDepth 1000000 in
theorem said:Rows.ClientImagesUptoSaid:=
 OpenClaim.holds_of_cond 3 Tryz.f3 rfl rfl rfl rfl rfl rfl rfl ⟨rfl,rfl,rfl,rfl,rfl⟩ rfl rfl rfl rfl rfl (by kernel_rfl) Tryz.func3 closed
  (of_decide_eq_true (by kernel_rfl)) (by unfold Func.isWrapper;first|(rw[if_pos (by decide+kernel)];kernel_rfl)|(rw[if_neg (by decide+kernel)];exact⟨rfl,rfl⟩))
  (fun os started H enc _ F=>by rw[OpenClaim.pre_eq_preRow];exact lifted os started H enc F)
theorem plain(f:FuncId)(fn:Func)(hf:pQ.funcNamed "commonplace/commonplacelaw25.ClientImages"=some f)(hfn:pQ.funcs[f]? =some fn):
  true=pQ.looks []∧∀ (j:Nat) t,fn.params[j]? =some t→pQ.wantsStandIn t=false:=by
 obtain rfl:f=3:=Option.some.inj ((show Tryz.prog.funcNamed "commonplace/commonplacelaw25.ClientImages"=some 3 by kernel_rfl).symm.trans hf)|>.symm
 obtain rfl:fn=Tryz.f3:=(Option.some.inj (Tryz.func3.symm.trans hfn)).symm
 refine⟨by kernel_rfl,fun j t ht=>?_⟩
 rw[Tryz.params3] at ht
 have:=Array.mem_of_getElem? ht
 simp at this
 subst this
 exact(show Tryz.prog.wantsStandIn 26=false by kernel_rfl)
end Go.Proofs.YtmobnaefbcegbaaGreatDoor.clientImages
