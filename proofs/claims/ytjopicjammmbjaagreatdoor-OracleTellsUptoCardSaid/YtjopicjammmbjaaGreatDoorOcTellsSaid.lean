/- OracleTells: the law answers true, whatever its input is of bulk at most 1048576. -/
import Derived.Test.YtjopicjammmbjaaGreatDoorV15
import Derived.Test.YtjopicjammmbjaaGreatDoorOcTellsFacts
import Derived.Test.YtjopicjammmbjaaGreatDoorCards
import Derived.Test.YtjopicjammmbjaaGreatDoorTie
set_option maxHeartbeats 4000000
set_option maxRecDepth 20000
set_option linter.unusedVariables false
set_option linter.unusedSimpArgs false
set_option linter.unusedVariables false
set_option linter.unusedSimpArgs false
namespace Go.Proofs.YtjopicjammmbjaaGreatDoor.oracleTells
open Go.ChangeShapes Go.WideShapes Go.ChangeAt Go.RowKit Go.Ab
theorem own:ownKnob Tryz.prog.godebug=none:=by kernel_rfl
set_option maxRecDepth 100000 in
theorem rows:∀ t ∈ Tryz.f3.params.toList,t<Tryz.prog.types.size:=by
 rw[Tryz.params3]
 intro t ht
 simp at ht
 rcases ht with rfl|rfl
 ·exact Nat.lt_of_lt_of_le (by decide) (Nat.le_of_ble_eq_true (show(Nat.ble (22+1) Tryz.prog.types.size)=true by kernel_rfl))
 ·exact Nat.lt_of_lt_of_le (by decide) (Nat.le_of_ble_eq_true (show(Nat.ble (23+1) Tryz.prog.types.size)=true by kernel_rfl))
theorem kids:Kids Tryz.prog (· <Tryz.prog.types.size):=kids_rows j1 j2
theorem full:∀ t e,t<Tryz.prog.types.size→Tryz.prog.underlying t=some (.slice e)→0<Tryz.prog.cellsOf e:=slices_full_of Tryz.prog (by kernel_rfl)
theorem result:Tryz.f3.resultTypes=#[4]:=by kernel_rfl
theorem gin{W:World}(hL:laidMetH Tryz.prog Rows.oracleTellsUptoRow.laid W):GIn Tryz.prog W fun k=>k<W.heap.size:=gin5 hL
theorem agg_of{W:World}{r:Reach}{base:Nat}{t:TypeId}{fs:Array Field}{v:Value}(hu:Tryz.prog.underlying t=some (.struct fs))(h:Value.okWide Tryz.prog W r base t v):∃ cs,v=.agg cs:=by
 simp only[Value.okWide,hu] at h
 obtain⟨cs,h,_⟩:=h
 exact⟨cs,h⟩
theorem slice_of{W:World}{r:Reach}{base:Nat}{t e:TypeId}{v:Value}(hu:Tryz.prog.underlying t=some (.slice e))(h:Value.okWide Tryz.prog W r base t v):v.cells.toList=[v]:=by
 cases v<;>first|rfl|skip
 simp[Value.okWide,hu,Cell.okWide,Cell.ok] at h
theorem rep_agg{W:World}{ds:List Go.Ab.D}{cs:Array Value}(h:Go.Ab.RR W ds cs.toList):Go.Ab.Rep W (fun k=>k<W.heap.size) (fun _=>none) (.agg ds) (.agg cs):=by
 have:=Go.Ab.Rep.agg (w:=W) (I:=fun k=>k<W.heap.size) (mu:=fun _=>none) ds cs.toList h.1 h.2
 simpa using this
set_option maxRecDepth 100000 in
theorem contract(H:Type)(enc:TypeId×Value→H)(W:World)(base:Nat)(args:Array Value)(ds gs:List (DataW H))(before:List MemPlace)
  (hval:∀ (j:Nat) t v,Tryz.f3.params[j]? =some t→args[j]? =some v→Value.okWide Tryz.prog W .any base t v)
  (hW:DataW.Whole enc Tryz.prog Tryz.f3.params.toList Rows.oracleTellsSpec.vars false W args.toList ds gs before) (hk:Rows.uptoSmall H (ds++gs)=true) (hL:laidMetH Tryz.prog Rows.oracleTellsUptoRow.laid W):
  Calls Tryz.prog 3 args W fun e W'=>∃ v,e=.returned v∧Rows.oracleTellsSpec.post enc Tryz.prog Tryz.f3 false true false false W args v W':=by
 have hW':=hW
 obtain⟨p,q,hA0,hV,rfl,hfz,hnd⟩:=hW
 have hA:DataW.TrodAll enc Tryz.prog W 0 (fun _=>true) true Tryz.f3.params.toList args.toList ds p:=hA0
 rw[Tryz.params3] at hA hval
 obtain⟨v0,vs0,d0,ds0,p0,q0,hargs,rfl,rfl,h0,r0⟩:=trodAll_cons hA
 obtain⟨v1,vs1,d1,ds1,p1,q1,rfl,rfl,rfl,h1,r1⟩:=trodAll_cons r0
 obtain⟨v2,vs2,d2,ds2,p2,q2,rfl,rfl,rfl,h2,r2⟩:=trodAll_cons r1
 obtain⟨rfl,rfl,rfl⟩:=trodAll_nil r2
 obtain rfl:args=#[v0,v1,v2]:=by cases args;simp_all
 obtain⟨rfl,rfl⟩:=trodVars_none hV
 have hb:Rows.uptoBulkAll ([d0,d1,d2]++[])≤1048576:=of_decide_eq_true hk
 simp only[List.append_nil,Rows.uptoBulkAll] at hb
 have e0:=slice_of Tryz.underlying22 (hval 0 22 v0 rfl rfl)
 obtain⟨n1,rfl,rfl,rfl,w1⟩:=open_int Tryz.underlying23 (hval 1 23 v1 rfl rfl) h1
 obtain⟨n2,rfl,rfl,rfl,w2⟩:=open_int Tryz.underlying23 (hval 2 23 v2 rfl rfl) h2
 obtain⟨n0,t0⟩:=h0
 obtain⟨l,rl,hl⟩:=Go.Ab.rdb_Rs n0 _ _ t0 (by show Rows.uptoBulk d0≤_;omega)
 rw[e0] at rl
 simp only[Lit.wf,Bool.and_eq_true,decide_eq_true_eq,IntKind.min,IntKind.max,IntKind.signed,IntKind.bits] at w1 w2
 simp at w1 w2
 obtain⟨v,rfl⟩:∃ v:Nat,n1=v:=⟨n1.toNat,by omega⟩
 have hr:Go.Ab.RR W [.slice (l.map Go.Ab.CI) false,.val (.int .u64 v),.val (.int .u64 n2)] [v0,.int .u64 v,.int .u64 n2]:=
  Go.Ab.Bp.append (ds:=[_]) (vs:=[_]) rl (Go.Ab.Bp.append (ds:=[_]) (vs:=[_]) (Go.Ab.RR.one (.val _ (by simp[Go.Ab.okP,Go.Ab.E9,Go.Ab.Ea];omega))) (Go.Ab.RR.one (.val _ (by simp[Go.Ab.okP,Go.Ab.E9,Go.Ab.Ea];omega))))
 refine(Go.Ab.A02 (Go.Ab.law_Tells Go.Ab.l_known hl v (by omega) n2) (gin hL) hr).mono fun e W' ⟨he,hb⟩=>?_
 subst he
 exact⟨_,rfl,post_true kids full rows rfl result Tryz.underlying4 rfl hW' hb⟩
def zeros:Array Value:=#[.slice none 0 0,.int .u64 0,.int .u64 0]
def tys(_:String):Option TypeId:=none
noncomputable def lw(os:Os):World:=laidWorldE Tryz.prog tys Rows.oracleTellsUptoRow.laid os
theorem laid_met(os:Os):laidMet Tryz.prog Rows.oracleTellsUptoRow.laid ((lw os).forCall (fun _ _=>0) ⟨#[],zeros,[]⟩).memory:=
 laidMet_of_run3 8 (by kernel_rfl) (by kernel_rfl) (by kernel_rfl)
theorem reads(os:Os){H:Type}(enc:TypeId×Value→H):∃ x,DataW.whole enc Tryz.prog ((lw os).forCall (fun _ _=>0) ⟨#[],zeros,[]⟩).memory Tryz.f3.params.toList Rows.oracleTellsSpec.vars false zeros.toList 8=some x∧Rows.uptoSmall H (x.1++x.2.1)=true:=by
 have h:(DataW.whole enc Tryz.prog ((lw os).forCall (fun _ _=>0) ⟨#[],zeros,[]⟩).memory Tryz.f3.params.toList Rows.oracleTellsSpec.vars false zeros.toList 8).any (fun x=>Rows.uptoSmall H (x.1++x.2.1))=true:=by kernel_rfl
 exact(Option.any_eq_true _ _).1 h
set_option maxRecDepth 100000 in
theorem lifted(os:Os)(started:os.Started)(H:Type)(enc:TypeId×Value→H)(F:Stop.Interp):
  ReturnsInHanded {} Tryz.checked os 3 .any ((Rows.OpenSpec.upto Rows.oracleTellsSpec).preRow enc Tryz.prog Tryz.f3 Rows.oracleTellsUptoRow.domain false Rows.oracleTellsUptoRow.laid) (((Rows.OpenSpec.upto Rows.oracleTellsSpec).at F).post enc Tryz.prog Tryz.f3 false true false false):=by
 obtain⟨x,hx,hs⟩:=reads os enc
 refine returnsInHanded_of_row (C:=Tryz.checked) (s:=Rows.OpenSpec.upto Rows.oracleTellsSpec) own started (by kernel_rfl) Tryz.func3
  (witness_row_at (enc:=enc) (C:=Tryz.checked) false (lw os) zeros rfl (by kernel_rfl) (by kernel_rfl) (by kernel_rfl)
   (OpenSpec.preRow_of_cond 8 hx (by kernel_rfl) (fun k hk=>by cases hk;exact hs) (by kernel_rfl) (laid_met os))) ?_
 intro W base args ds gs before hval hW _ hcond _ hL _ _
 exact contract H enc W base args ds gs before hval hW (hcond _ rfl) hL
set_option maxRecDepth 1000000 in
theorem said:Rows.OracleTellsUptoSaid:=
 OpenClaim.holds_of_cond 3 Tryz.f3 rfl rfl rfl rfl rfl rfl rfl ⟨rfl,rfl,rfl,rfl,rfl⟩ rfl rfl rfl rfl rfl (by kernel_rfl) Tryz.func3 closed
  (of_decide_eq_true (by kernel_rfl)) (by unfold Func.isWrapper;first|(rw[if_pos (by decide+kernel)];kernel_rfl)|(rw[if_neg (by decide+kernel)];exact⟨rfl,rfl⟩))
  (fun os started H enc _ F=>by rw[OpenClaim.pre_eq_preRow];exact lifted os started H enc F)
theorem plain(f:FuncId)(fn:Func)(hf:Tryz.pinned.checked.prog.funcNamed "commonplace/commonplacelaw30.OracleTells"=some f)(hfn:Tryz.pinned.checked.prog.funcs[f]? =some fn):
  true=Tryz.pinned.checked.prog.looks []∧∀ (j:Nat) t,fn.params[j]? =some t→Tryz.pinned.checked.prog.wantsStandIn t=false:=by
 obtain rfl:f=3:=Option.some.inj ((show Tryz.prog.funcNamed "commonplace/commonplacelaw30.OracleTells"=some 3 by kernel_rfl).symm.trans hf)|>.symm
 obtain rfl:fn=Tryz.f3:=(Option.some.inj (Tryz.func3.symm.trans hfn)).symm
 refine⟨by kernel_rfl,fun j t ht=>?_⟩
 rw[Tryz.params3] at ht
 have:=Array.mem_of_getElem? ht
 simp at this
 rcases this with rfl|rfl
 ·exact(show Tryz.prog.wantsStandIn 22=false by kernel_rfl)
 ·exact(show Tryz.prog.wantsStandIn 23=false by kernel_rfl)
end Go.Proofs.YtjopicjammmbjaaGreatDoor.oracleTells
