/- The layer by which the program is walked, and what its functions do: part 14 of 15. -/
import Derived.Test.YtiobcncfjaoniaaGreatDoorV12
set_option maxHeartbeats 4000000
set_option maxRecDepth 20000
set_option linter.unusedVariables false
set_option linter.unusedSimpArgs false
set_option linter.unnecessarySimpa false
set_option linter.unusedSectionVars false
namespace Go.Ab
open Go.Proofs Go.Proofs.Tryz Go.RowKit
def Wl(a c:Code)(t:List UInt8):Hp:=[(7,.loop [(2,.ptr [.ref 1 0 0 4] 0)] 23 .ready none [11,12] a c),(1,wkB Bq 4 t.length (t.length:Nat)),(4,byB 4 t)]
theorem Uf{a c:Code}(o:List (ByteArray×GV))(hol:o.length<=1048576)(hok:∀ x ∈ o,x.1.size<=1048576/\Qw x.2)(X:Nat->List UInt8)(hXl:∀ i,(X i).length<=1073741824)(hXn:∀ i,X i≠[])
  (hXs:∀ i,i<o.length->X i++bL (if i=0 then⟨#[]⟩ else⟨#[44]⟩)++tvm (o.getD i zM)=X (i+1))
  (hY:∀ (s:ByteArray) (x:GV) (t u:List UInt8),t++bL s++58::tv x=u->t≠[]->u.length<=1073741824->∀ cs f,(cs=[.ptr (A4 x) 0]∨(cs=[]/\f=64))->WrT f cs x->Dx prog 7 [.val (.string s),.func (.func f) [] cs] (Wl a c t) (.val (.bool true)) (Wl a c u)):
  A2 prog 113 [.yld 7,.ptr [.slice (o.map A6) false] 0] (Wl a c (X 0)) (.tup []) (Wl a c (X o.length)):=by
 have oL:=Ar (f:=A6) Aj o
 unfold Wl at*
 refine Zd [] func113 rfl ntmps113 results113 ?_
 (have z:=oL;(try push_cast[z])<;>repeat' (first|apply Zi<;>intro _|exact Zo|with_reducible apply Za)<;>try push_cast[z])
 refine Zl (fun i=>i<=o.length) (fun i=>⟨[(7,.val (.int .i64 i)),(6,.val (.int .i64 o.length)),(5,.slice (o.map A6) false),(0,.yld 7)],[(7,.loop [(2,.ptr [.ref 1 0 0 4] 0)] 23 .ready none [11,12] a c),(1,wkB Bq 4 (X i).length ((X i).length:Nat)),(4,byB 4 (X i))],400⟩) (fun i=>o.length-i) 0 (by simp) ?_ fun i hi=>?_
 ·apply Zw<;>push_cast
 ·push_cast
  refine Al (fun ha=>?_) (fun ha=>?_)
  ·have hi':i<o.length:=by simpa using ha
   have e1:=Bv hi'
   obtain⟨hks,hx⟩:=hok _ (Ak (d:=zM) hi')
   have hXs:=hXs i hi'
   have hXi1:=hXl (i+1)
   have hXin:=hXn i
   generalize o.getD i zM=x at*
   obtain⟨k,x⟩:=x
   have hq:=Sp k hks
   simp only at*
   have hB:=He i (by omega)
   have w1:IntKind.i64.wrap (↑i+1)=↑i+1:=Aa (by omega) (by omega)
   generalize(if i=0 then(⟨#[]⟩:ByteArray) else⟨#[44]⟩)=sep at*
   have hsz:sep.size+(FA k).size<=1073741824:=by
    have h:=congrArg List.length hXs
    simp only[tvm,A04,A0g] at h
    have h1:(bL sep).length=sep.size:=rfl
    have h2:(DW k).length=(FA k).size:=rfl
    omega
   have hXs':X i++bL (sep++FA k)++58::tv x=X (i+1):=by
    rw[<-hXs]
    simp[bL,tvm,DW,ByteArray.data_append,Array.toList_append]
   have hy:=hY (sep++FA k) x (X i) (X (i+1)) hXs' hXin hXi1
   rcases hx with⟨f,h1,h2⟩|⟨h1,h2⟩
   ·have h3:=hy _ f (.inl rfl) h2
    (have z:=Za e1<|Za oL<|Za w1 @Ah;(try push_cast[z])<;>repeat' (first|apply Zi<;>intro _|refine Zc hB ?_|refine Zc (hq ..) ?_|refine Zc h1 ?_|exact Zo|with_reducible apply Za|(with_reducible show A1 _ _ _ _ _ _ _ _;refine A1.yield 7 (BG [(7,7),(1,1),(4,4)]) rfl ?_ (by(try push_cast[z]);exact h3 ..) ?_ (by first|exact .inl rfl|exact .inr ⟨_,_,_,rfl,rfl,rfl⟩) ?_ ?_ ?_ ?_;(· push_cast[z]);(· push_cast[z]<;>(with_unfolding_all exact A9 _));(· push_cast[z]<;>(with_unfolding_all exact A9 _));(· push_cast[z]<;>(with_unfolding_all exact A9 _));(· push_cast[z]<;>(with_unfolding_all exact A9 _));try push_cast[z])|fail)<;>try push_cast[z])
    all_goals first|omega|(show _<=_;omega)|skip
    refine⟨i+1,hi',by omega,?_⟩
    apply Zr [(4,940)] rfl<;>push_cast
    all_goals first|rfl|trace_state
   ·have h3:=hy _ _ (.inr ⟨rfl,rfl⟩) h2
    (have z:=Za e1<|Za oL<|Za w1 @Ah;(try push_cast[z])<;>repeat' (first|apply Zi<;>intro _|refine Zc hB ?_|refine Zc (hq ..) ?_|refine Zc h1 ?_|exact Zo|with_reducible apply Za|(with_reducible show A1 _ _ _ _ _ _ _ _;refine A1.yield 7 (BG [(7,7),(1,1),(4,4)]) rfl ?_ (by(try push_cast[z]);exact h3 ..) ?_ (by first|exact .inl rfl|exact .inr ⟨_,_,_,rfl,rfl,rfl⟩) ?_ ?_ ?_ ?_;(· push_cast[z]);(· push_cast[z]<;>(with_unfolding_all exact A9 _));(· push_cast[z]<;>(with_unfolding_all exact A9 _));(· push_cast[z]<;>(with_unfolding_all exact A9 _));(· push_cast[z]<;>(with_unfolding_all exact A9 _));try push_cast[z])|fail)<;>try push_cast[z])
    all_goals first|omega|(show _<=_;omega)|skip
    refine⟨i+1,hi',by omega,?_⟩
    apply Zr [(4,940)] rfl<;>push_cast
    all_goals first|rfl|trace_state
  ·have hi':i=o.length:=by simp at ha;omega
   subst hi'
   (have z:=oL;(try push_cast[z])<;>repeat' (first|apply Zi<;>intro _|exact Zo|with_reducible apply Za)<;>try push_cast[z])
   all_goals first|omega|skip
   apply Zw<;>push_cast
theorem c_own5(a0:D)(ha:a0=Qm∨a0=Bq)(v:GV)(hs:Sm v)(hk:v.kind=6)(ih:∀ x ∈ v.obj,Qw x.2)(t u:List UInt8)(hu:t++tv v=u)(hl:u.length<=1073741824):
  A2 prog 62 [.ref 1 0 0 4,.ptr (A4 v) 0] [(1,wkB a0 4 t.length (t.length:Nat)),(4,byB 4 t)] (.tup []) [(1,wkB Bq 4 u.length (u.length:Nat)),(4,byB 4 u)]:=by
 have e:tv v=123::(DC (v.obj.map tvm)++[125]):=by rw[FW,hk];rfl
 rw[e] at hu
 have hll:=hs.obj_le
 have hok:∀ x ∈ v.obj,x.1.size<=1048576/\Qw x.2:=fun x hx=>⟨hs.key x hx,ih x hx⟩
 rw[A7,hk]
 clear e hk hs ih
 generalize v.obj=o at*
 have oL:=Ar (f:=A6) Aj o
 have hul:t.length+1+(DC (o.map tvm)).length+1=u.length:=by rw[<-hu];simp;omega
 obtain⟨X,hX⟩:∃ X:Nat->List UInt8,∀ i,X i=t++123::DC ((o.take i).map tvm):=⟨_,fun _=>rfl⟩
 have hXl:∀ i,(X i).length+1<=u.length:=fun i=>by
  have:=QS tvm o i
  rw[hX];simp only[A04,A0g];omega
 have hXn:∀ i,X i≠[]:=fun i=>by rw[hX];simp
 have hX0:t++bL ⟨#[123]⟩=X 0:=by rw[hX];simp[DC,bL]
 have hXe:X o.length++bL ⟨#[125]⟩=u:=by rw[hX,<-hu,A1j];simp[bL]
 have hXs:∀ i,i<o.length->X i++bL (if i=0 then⟨#[]⟩ else⟨#[44]⟩)++tvm (o.getD i zM)=X (i+1):=fun i hi=>by
  rw[hX,hX,N0 tvm o i hi]
  have ex:o.getD i zM=o[i]:=by rw[A02,A0b hi];rfl
  rw[ex]
  by_cases h0:i=0
  ·simp[h0,bL]
  ·simp[h0,bL]
 have hJ:=j1 a0 ha t (X 0) ⟨#[123]⟩ hX0 (hXn 0) (by have:=hXl 0;omega)
 have hJ3:=j1 Bq (.inr rfl) (X o.length) u ⟨#[125]⟩ hXe (by rw[<-hu];simp) hl
 clear hX hX0 hXe hu
 have hM:=P4 o
 refine A2.of_awpW func62 rfl ntmps62 (by kernel_rfl) (by simp) (congrArg Array.toList results62) ?_
 refine BA.seqV [8] mixed (by kernel_rfl) ?_
 ((try push_cast)<;>repeat' (first|apply Zi<;>intro _|exact Zp|with_reducible apply Za)<;>try push_cast)
 refine BA.seqV [] mixed (by kernel_rfl) ?_
 (have z:=oL;(try push_cast[z])<;>repeat' (first|apply Zi<;>intro _|refine Zs [(1,1),(4,4),(3,24)] hJ ?_|exact Zo|with_reducible apply Za)<;>try push_cast[z])
 refine BA.seq ?_
 refine BA.seqV [] mixed (by kernel_rfl) ?_
 (have z:=oL;(try push_cast[z])<;>repeat' (first|apply Zi<;>intro _|refine Zc hM ?_|exact Zo|with_reducible apply Za)<;>try push_cast[z])
 refine BA.block ?_
 refine BA.range (y:=7) (BG [(7,64),(1,1),(4,36)]) (env:=[(2,.ptr [.ref 1 0 0 4] 0)]) (ds:=[.yld 7,.ptr [.slice (o.map A6) false] 0]) rfl (Uf o hll hok X (fun i=>by have:=hXl i;omega) hXn hXs ?hY) rfl rfl ?_ ?_ ?_ ?_ ?_ ?_ ?_
 case hY=>
  intro s x t u hu hne hl cs f hcs hw
  have hs1:(t++bL s++bL ⟨#[58]⟩).length<=1073741824:=by
   have:=congrArg List.length hu
   simp only[A04,A0g] at this|-
   show _+_+1<=_
   omega
  have hJ2:=j2 t _ s ⟨#[58]⟩ rfl hne hs1
  have h3:=hw (t++bL s++bL ⟨#[58]⟩) u (by rw[<-hu];simp[bL]) (by simp[hne]) hl
  generalize t++bL s++bL ⟨#[58]⟩=Y at*
  unfold Wl
  rcases hcs with rfl|⟨rfl,rfl⟩
  ·refine Dx.of_awp (by decide) rfl (by decide) ?_
   simp only[A1D,A1M,A1i,A1K,A0h,A0d]
   refine Zy ?_
   (have z:=@Ef.eq_1;(try push_cast[z])<;>repeat' (first|apply Zi<;>intro _|exact Zo|with_reducible apply Za)<;>try push_cast[z])
   refine Zy ?_
   (have z:=@Ee.eq_1;(try push_cast[z])<;>repeat' (first|apply Zi<;>intro _|refine Zs [(1,1),(4,4),(3,40)] hJ2 ?_|refine Zt [(1,1),(4,52)] h3 ?_|exact Zo|with_reducible apply Za)<;>try push_cast[z])
   apply Zr [(4,76)] rfl<;>push_cast
   all_goals first|rfl|trace_state
  ·refine Dx.of_awp (by decide) rfl (by decide) ?_
   simp only[A1D,A1M,A1i,A1K,A0h,A0d]
   refine Zy ?_
   (have z:=@Ef.eq_1;(try push_cast[z])<;>repeat' (first|apply Zi<;>intro _|exact Zo|with_reducible apply Za)<;>try push_cast[z])
   refine Zy ?_
   (have z:=@Ee.eq_1;(try push_cast[z])<;>repeat' (first|apply Zi<;>intro _|refine Zs [(1,1),(4,4),(3,40)] hJ2 ?_|refine Zt [(1,1),(4,52)] h3 ?_|exact Zo|with_reducible apply Za)<;>try push_cast[z])
   apply Zr [(4,76)] rfl<;>push_cast
   all_goals first|rfl|trace_state
 ·push_cast
 ·push_cast
 ·push_cast[C3]
 ·push_cast[B3]
 ·push_cast
 ·push_cast
 ·push_cast
  refine BA.vc [] mixed (by kernel_rfl) ?_
  (have z:=trivial;(try push_cast)<;>repeat' (first|apply Zi<;>intro _|refine Zs [(1,1),(4,76),(3,88)] hJ3 ?_|exact Zp|with_reducible apply Za)<;>try push_cast)
  apply Zr [(4,100)] rfl<;>push_cast
  all_goals first|rfl|trace_state
inductive Pl:GV->Prop where
 |mk (v:GV) (hk:v.kind=1∨v.kind=3∨v.kind=4∨v.kind=5∨v.kind=6) (hl:∀ x ∈ v.list,Pl x) (ho:∀ p ∈ v.obj,Pl p.2):Pl v
theorem c_own6(v:GV)(hk:v.kind=6):A0 prog 27 [.agg (A4 v)] (.func (.func 62) [] [.ptr (A4 v) 0]):=by
 rw[A7,hk]
 refine Zf [0] func27 rfl ntmps27 results27 ?_
 ((try push_cast)<;>repeat' (first|apply Zi<;>intro _|exact Zp|with_reducible apply Za)<;>try push_cast)
theorem Pz(v:GV)(hs:Sm v)(hp:Pl v):Qw v:=by
 obtain⟨_,hk,hl,ho⟩:=hp
 rcases hk with hk|hk|hk|hk|hk
 ·exact W9 v hk
 ·exact Yv v hs hk
 ·exact W8 v hs hk
 ·exact Wa v hs hk fun x hx=>Pz x (hs.list x hx) (hl x hx)
 ·exact .inl ⟨_,c_own6 v hk,fun t u hu _ hz=>c_own5 Bq (.inr rfl) v hs hk (fun x hx=>Pz x.2 (hs.obj x hx) (ho x hx)) t u hu hz⟩
termination_by SizeOf.sizeOf v
decreasing_by
 ·exact GV.list_lt hx
 ·exact GV.obj_lt hx
abbrev wrQ:List (Nat×Value):=[(0,.bool true)]
abbrev wrV:List Value:=[.bool true,.pointer none,.slice none 0 0,.int .i64 0]
abbrev wrE:List D:=[.val (.bool true),Qm,.gref 1 0,.val (.int .i64 0)]
theorem XE:prog.built tWr wrQ=some wrV.toArray:=by kernel_rfl
theorem wr_on:∀ v ∈ wrV,v.oneCell'=true:=by decide
theorem wr_s01(v:Value)(i:Nat)(h:i<wrV.length):s01 v (.slice none 0 0) (nd wrE i) (nv wrV i):=by
 have h4:i=0∨i=1∨i=2∨i=3:=by
  have:wrV.length=4:=rfl
  omega
 rcases h4 with rfl|rfl|rfl|rfl
 ·exact⟨rfl,trivial⟩
 ·exact⟨rfl,trivial⟩
 ·exact⟨rfl,none,0,rfl⟩
 ·exact⟨rfl,by simp only[okP,D1,D2];omega⟩
theorem wr_ok:∀ x ∈ [Value.bool false,.pointer none,.slice none 0 0,.int .i64 0],okP x:=by
 intro x hx
 simp only[A0q,A0Y,or_false] at hx
 rcases hx with rfl|rfl|rfl|rfl<;>first|trivial|(simp only[okP,D1,D2];omega)
theorem c_Text(v:GV)(hs:Sm v)(hp:Pl v)(hk:v.kind=6)(hm:Bj v 1=0)(hl:(tv v).length<=1073741824):A0 prog 11 [.agg (A4 v)] (.tup [.val (.string ⟨(tv v).toArray⟩),.val (.int .i64 0)]):=by
 have hM:=U9 v hs
 rw[hm] at hM
 have hO:=c_own6 v hk
 have hW:=c_own5 Qm (.inl rfl) v hs hk (by cases hp with|mk _ _ _ ho=>exact fun x hx=>Pz x.2 (hs.obj x hx) (ho x hx)) [] (tv v) (by simp) hl
 have hne:tv v≠[]:=by rw[FW,hk];simp
 have hS:=c_String (tv v) ((tv v).length:Nat) hne hl
 unfold wkH at hS
 obtain⟨x1,x2,x3,x4⟩:=An v
 generalize tv v=u at*
 generalize A4 v=V at*
 simp only[A0v,Int.ofNat_zero,Int.natCast_zero] at hW
 refine A0.of_awpW func11 rfl ntmps11 (by kernel_rfl) (by simp) (congrArg Array.toList results11) ?_
 refine BA.seqV [] mixed (by kernel_rfl) ?_
 (have z:=Za x1<|Za x2<|Za x3 x4;(try push_cast[z])<;>repeat' (first|apply Zi<;>intro _|refine Zc hM ?_|exact Zo|with_reducible apply Za)<;>try push_cast[z])
 refine BA.seqV [] mixed (by kernel_rfl) ?_
 (have z:=Za x1<|Za x2<|Za x3 x4;(try push_cast[z])<;>repeat' (first|apply Zi<;>intro _|refine Zc hM ?_|exact Zo|with_reducible apply Za)<;>try push_cast[z])
 refine BA.seq (AWp.w (AWp.regX (by kernel_rfl) ?_))
 refine A1.of_doesX (S7 (fun _=>rfl) XE) (.inl rfl) ?_
 refine A1.of_doesX (KC ti92 wr_ok) (.inl rfl) ?_
 refine A1.of_doesX (S2 (Te:=5) (es':=wrE) (us:=wrV) ti92 rfl (by push_cast;rfl) (by push_cast;rfl) rfl rfl (by push_cast) wr_on wr_s01) (.inl rfl) ?_
 refine A1.go ?_
 push_cast
 refine BA.vc [] mixed (by kernel_rfl) ?_
 (have z:=Za x1<|Za x2<|Za x3 x4;(try push_cast[z])<;>repeat' (first|apply Zi<;>intro _|refine Zc hO ?_|refine Zt [(1,72),(4,80)] hW ?_|refine Zs [(1,72),(4,108)] hS ?_|exact Zo|with_reducible apply Za)<;>try push_cast[z])
 all_goals trace_state
abbrev rdN(s:ByteArray)(i m:Nat):Blk:=.rows [[.val (.string s),.val (.int .i64 i),.mref m]] 3
theorem Ss(s:ByteArray):A2 prog 183 [.val (.string s)] [] (.ref 0 0 0 3) [(0,rdN s 0 2),(2,.map (CZ 0 17) 17)]:=by
 refine Zd [] func183 rfl ntmps183 results183 ?_
 ((try push_cast)<;>repeat' (first|apply Zi<;>intro _|exact Zp|with_reducible apply Za)<;>try push_cast)
 all_goals first|omega|skip
 refine Zl (fun i=>i<=10) (fun i=>⟨[(4,.val (.int .u8 (48+i))),(3,.ref 32 0 0 3)],[(32,rdN s 0 56),(56,.map (CZ 32 (7+i)) (7+i))],400⟩) (fun i=>10-i) 0 (by simp) ?_ fun i hi=>?_
 ·simp only[CZ,JX,A1t,List.take_zero,A0j,A0G]
  apply Zw<;>push_cast
 ·obtain⟨j,hj⟩:∃ j,j=i+1:=⟨_,rfl⟩
  have h10:i=0∨i=1∨i=2∨i=3∨i=4∨i=5∨i=6∨i=7∨i=8∨i=9∨i=10:=by omega
  rcases h10 with rfl|rfl|rfl|rfl|rfl|rfl|rfl|rfl|rfl|rfl|rfl
  case inr.inr.inr.inr.inr.inr.inr.inr.inr.inr=>
   simp only[CZ,JX,A1t,List.take_nil,A0j,A0G]
   ((try push_cast)<;>repeat' (first|apply Zi<;>intro _|exact Zp|with_reducible apply Za)<;>try push_cast)
   all_goals first|omega|skip
   apply Zr [(0,32),(2,56)] rfl<;>push_cast
  all_goals
   simp only[CZ,JX,A1t,List.take_zero,A0j,A0G]
   ((try push_cast)<;>repeat' (first|apply Zi<;>intro _|exact Zp|with_reducible apply Za)<;>try push_cast)
   all_goals first|omega|skip
   refine⟨j,by omega,by omega,?_⟩
   subst hj
   simp only[CZ,JX,A1t,List.take_zero,A0j,A0G,Nat.reduceAdd]
   apply Zw<;>push_cast
   all_goals first|decide|rfl|skip
   all_goals trace_state
theorem LR(b n:Nat)(r:Nat->Nat):((CZ b n).map fun p=>(p.1,p.2.1,AT r p.2.2))=CZ (r b) n:=by
 simp only[CZ,A13]
 refine A14 fun p _=>?_
 simp[Function.comp,AT,BX]
theorem TG(r:Nat->Nat):(Cu.map fun p=>(p.1,p.2.1,AT r p.2.2))=CZ (r 1) 17:=by
 unfold Cu
 exact LR 1 17 r
abbrev psH(V:List D)(n:Int):Hp:=[(3,.rows [V] 6),(5,.rows [[.val (.int .i64 n)]] 1),(7,.rows [[.val (.int .i64 0)]] 1)]
theorem r_parN(V:List D)(n:Int)(x1:Af V=true)(x2:V.length=6):Qs prog 182 [.ref 3 0 0 6,.ref 5 0 0 1,.ref 7 0 0 1] none (psH V n) (psH V n):=by
 refine Qs.of_awp (t:=6) func182 rfl ntmps182 (by kernel_rfl) (by simp) (by decide) (congrArg Array.toList results182) ?_
 change AWp _ _ _ _ ⟨(6,.val .nilIface)::Bh 0 [.ref 3 0 0 6,.ref 5 0 0 1,.ref 7 0 0 1],psH V n,4⟩
 refine Zy ?_
 push_cast
 refine A1.nilNil (by push_cast) (by push_cast) (fun a w h1 h2=>?_) ?_
 ·have u:=run_underlying (P:=prog) underlying20
  simp only[execOp,h1,h2,eqGuard,binOp]
  unfold Op.equal Op.maxDepth Op.equalIn
  simp[u]
 ·(have z:=Za x1 x2;(try push_cast[z])<;>repeat' (first|apply Zi<;>intro _|exact Zo|with_reducible apply Za)<;>try push_cast[z])
  apply Zw<;>push_cast [x1,x2]
theorem c_Parse(n:Nat)(x:List UInt8)(v:GV)(hv:Dz n x v)(hn:n<=63)(hz:x.length<=1048576):
  A2 prog 118 [.val (.string ⟨x.toArray⟩)] [] (.tup [.agg (A4 v),.val (.int .i64 x.length),.val (.int .i64 0)]) []:=by
 obtain⟨s,hs⟩:∃ s:ByteArray,s=⟨x.toArray⟩:=⟨_,rfl⟩
 have hb:bl s=x:=by rw[hs];simp[bl]
 have hss:s.size=x.length:=by rw[<-Xs,hb]
 have hA:At s 0 x []:=⟨by rw[hb];simp,by simp[hss]⟩
 have h1:=hv.2 s 0 [] 1 hA (by intro c hc;cases hc) (by omega) (by omega)
 rw[A1a,<-hss] at h1
 have h2:=c_skipE s
 have hN:=Ss s
 obtain⟨x1,x2,x3,x4⟩:=An v
 rw[<-hs,<-hss]
 generalize A4 v=V at*
 have x5:V.drop 6=[]:=A0m (by omega)
 have b0:decide ((s.size:Int)<s.size)=false:=decide_eq_false (by omega)
 refine A2.of_awp_catch [_] func118 rfl ntmps118 (by kernel_rfl) (by simp) (by decide) (congrArg Array.toList results118) (BG [(3,8),(5,16),(7,24)]) [.ref 3 0 0 6,.ref 5 0 0 1,.ref 7 0 0 1]
  [(2,.ref 3 0 0 6),(3,.ref 5 0 0 1),(4,.ref 7 0 0 1),(0,.val (.string s))] [(3,.rows [[.val (.int .i64 0),.val (.bool false),.val (.int .i64 0),.val (.string ByteArray.empty),.slice [] true,.slice [] true]] 6),(5,.rows [[.val (.int .i64 0)]] 1),(7,.rows [[.val (.int .i64 0)]] 1)] (.tup [.agg V,.val (.int .i64 s.size),.val (.int .i64 0)]) [] ?_
 refine Zy ?_
 ((try push_cast)<;>repeat' (first|apply Zi<;>intro _|exact Zp|with_reducible apply Za)<;>try push_cast)
 refine(show Pa _ _ _ _ _ _ _ _ _ _ _ _ _ _ _ _ _ from⟨?_,?_,?_,?_,?_,?_,?_,?_,?_,?_⟩)
 ·push_cast
 ·push_cast
 ·push_cast
 ·push_cast[C3]
 ·push_cast
 ·push_cast[B3]
 ·push_cast
 ·push_cast
 ·refine Zy ?_
  (have z:=Za x1<|Za x2<|Za x3<|Za x4<|Za x5<|Za b0<|Za @TG @LR;(try push_cast[z])<;>repeat' (first|apply Zi<;>intro _|refine Zs [] hN ?_|refine Zs [(1,16),(3,18)] h1 ?_|refine Zs [(1,16),(3,18)] h2 ?_|exact Zo|with_reducible apply Za)<;>try push_cast[z])
  all_goals first|omega|skip
  refine(show P9 _ _ _ _ _ _ _ _ from⟨BG [],[.ref 3 0 0 6,.ref 5 0 0 1,.ref 7 0 0 1],_,_,r_parN V s.size x1 x2,?_,?_,?_,?_,?_,.tup [.agg V,.val (.int .i64 s.size),.val (.int .i64 0)],?_,?_⟩)
  ·push_cast
  ·push_cast
  ·push_cast[B3,x1,x5,A0R]
  ·push_cast[x1]
  ·push_cast[x1]
  ·push_cast[x1,x2,x3,x4,x5,A0R]
  ·push_cast[x1]
   apply Zw<;>push_cast [x1,x2,x3]
 ·push_cast
  apply Zw<;>push_cast [x1,x2,x3]
def Qp(x:List UInt8)(v:GV):Prop:=A0 prog 11 [.agg (A4 v)] (.tup [.val (.string ⟨x.toArray⟩),.val (.int .i64 0)])
theorem c_Exact(n:Nat)(x:List UInt8)(v:GV)(hv:Dz n x v)(hn:n<=63)(hz:x.length<=1048576)(ht:Qp x v):
  A0 prog 68 [.val (.string ⟨x.toArray⟩)] (.tup [.agg (A4 v),.val (.int .i64 0)]):=by
 have hP:=c_Parse n x v hv hn hz
 unfold Qp at ht
 obtain⟨x1,x2,x3,x4⟩:=An v
 generalize A4 v=V at*
 have x5:V.drop 6=[]:=A0m (by omega)
 generalize(⟨x.toArray⟩:ByteArray)=s at*
 refine Zf [] func68 rfl ntmps68 results68 ?_
 (have z:=Za x1<|Za x2<|Za x3<|Za x4 x5;(try push_cast[z])<;>repeat' (first|apply Zi<;>intro _|refine Zs [] hP ?_|refine Zc (ht ..) ?_|exact Zo|with_reducible apply Za)<;>try push_cast[z])
 all_goals first|omega|skip
 all_goals trace_state
theorem odd_O(o:List (ByteArray×GV)):FD (vO o)=false:=by simp[FD,vO,GV.kind,GV.b,GV.n,GV.s,GV.list,GV.obj,LD]
theorem odd_L(l:List GV):FD (vL l)=false:=by simp[FD,vL,GV.kind,GV.b,GV.n,GV.s,GV.list,GV.obj,LD]
theorem odd_I(n:Int):FD (vI n)=false:=by simp[FD,vI,GV.kind,GV.b,GV.n,GV.s,GV.list,GV.obj,LD]
theorem odd_T(s:ByteArray):FD (vT s)=false:=by simp[FD,vT,GV.kind,GV.b,GV.n,GV.s,GV.list,GV.obj]
theorem may_N(d:Nat)(h:d<=64):Bj Bn d=0:=by
 rw[EV,Nb];simp[Bn,GV.kind];omega
theorem YU(n:Int)(d:Nat)(h:d<=64):Bj (vI n) d=0:=by
 rw[EV,odd_I];simp[vI,GV.kind];omega
theorem UO(s:ByteArray)(d:Nat)(h:d<=64)(hs:AH s=true):Bj (vT s) d=0:=by
 rw[EV,odd_T];simp[vT,GV.kind,GV.s,hs];omega
theorem may_L(l:List GV)(d:Nat)(h:d<=64)(hl:∀ v ∈ l,Bj v (d+1)=0):Bj (vL l) d=0:=by
 have:∀ m:List GV,(∀ v ∈ m,Bj v (d+1)=0)->Ea m (d+1)=0:=by
  intro m
  induction m with
  |nil=>intro _;simp[Ea]
  |cons v m ih=>intro hm;simp[Ea,hm v (by simp),ih fun w hw=>hm w (by simp[hw])]
 rw[EV,odd_L];simp[vL,GV.kind,GV.list,this l hl];omega
theorem Ry(k l:ByteArray)(v u:GV)(d:Nat)(h:d<=64)(hk:AH k=true)(hl:AH l=true)(hkl:ltS k l=true)(hv:Bj v (d+1)=0)(hu:Bj u (d+1)=0):Bj (vO [(k,v),(l,u)]) d=0:=by
 rw[EV,odd_O];simp[vO,GV.kind,GV.obj,FY,hk,hl,hkl,hv,hu];omega
theorem TJ:AH tN=true/\AH tK=true/\AH Gd=true/\AH Gb=true/\AH tBy=true/\AH Cg=true/\AH Cr=true/\AH E8=true/\AH E7=true/\AH tId=true/\AH CR=true/\AH Dh=true/\AH Gc=true:=by
 refine⟨?_,?_,?_,?_,?_,?_,?_,?_,?_,?_,?_,?_,?_⟩<;>kernel_rfl
theorem YT(m:SMu)(d:Nat)(h:d<=60):Bj m.args d=0:=by
 obtain⟨q1,q2,q3,q4,q5,q6,q7,q8,q9,q10,q11,q12,q13⟩:=TJ
 cases m with
 |inc n=>exact Ry _ _ _ _ _ (by omega) q5 q6 (by decide) (YU _ _ (by omega)) (UO _ _ (by omega) q1)
 |put=>exact Ry _ _ _ _ _ (by omega) q6 q7 (by decide) (UO _ _ (by omega) q2) (may_N _ (by omega))
theorem may_o(m:SMu)(d:Nat)(h:d<=59):Bj m.o d=0:=by
 obtain⟨q1,q2,q3,q4,q5,q6,q7,q8,q9,q10,q11,q12,q13⟩:=TJ
 refine Ry _ _ _ _ _ (by omega) q8 q9 (by decide) (YT m _ (by omega)) ?_
 cases m with
 |inc n=>exact UO _ _ (by omega) q3
 |put=>exact UO _ _ (by omega) q4
theorem may_puO(c:Nat)(l:List SN):Bj (puO c l) 1=0:=by
 obtain⟨q1,q2,q3,q4,q5,q6,q7,q8,q9,q10,q11,q12,q13⟩:=TJ
 refine Ry _ _ _ _ _ (by omega) q12 q13 (by decide) (YU _ _ (by omega)) (may_L _ _ (by omega) fun v hv=>?_)
 obtain⟨x,hx,rfl⟩:=A0i.1 hv
 exact Ry _ _ _ _ _ (by omega) q10 q11 (by decide) (YU _ _ (by omega)) (may_o x.2 _ (by omega))
theorem pl_I(n:Int):Pl (vI n):=.mk _ (.inr (.inl rfl)) (fun _ h=>by cases h) (fun _ h=>by cases h)
theorem pl_N:Pl Bn:=.mk _ (.inl rfl) (fun _ h=>by cases h) (fun _ h=>by cases h)
theorem pl_T(s:ByteArray):Pl (vT s):=.mk _ (.inr (.inr (.inl rfl))) (fun _ h=>by cases h) (fun _ h=>by cases h)
theorem pl_L(l:List GV)(h:∀ v ∈ l,Pl v):Pl (vL l):=.mk _ (.inr (.inr (.inr (.inl rfl)))) h (fun _ h=>by cases h)
theorem Yn{a b:ByteArray×GV}(ha:Pl a.2)(hb:Pl b.2):Pl (vO [a,b]):=.mk _ (.inr (.inr (.inr (.inr rfl)))) (fun _ h=>by cases h) fun p hp=>by
 rcases A0q.1 hp with rfl|hp
 ·exact ha
 ·cases A0a.1 hp;exact hb
theorem pl_o(m:SMu):Pl m.o:=by
 refine Yn ?_ (pl_T _)
 cases m with
 |inc n=>exact Yn (pl_I n) (pl_T _)
 |put=>exact Yn (pl_T _) pl_N
theorem pl_puO(c:Nat)(l:List SN):Pl (puO c l):=Yn (pl_I _) (pl_L _ fun v hv=>by
 obtain⟨x,hx,rfl⟩:=A0i.1 hv
 exact Yn (pl_I _) (pl_o x.2))
theorem Gr(k x l y:List UInt8):(Ty k x l y).length=k.length+x.length+l.length+y.length+9:=by
 simp[Ty,txt];omega
theorem ZC(m:SMu)(hm:m.ok):(tv m.args).length<=40:=by
 obtain⟨q1,q2,q3,q4,q5,q6,q7,q8,q9,q10,q11,q12,q13⟩:=DV
 cases m with
 |inc n=>
  show(tv (vO [(tBy,vI n),(Cg,vT tN)])).length<=_
  rw[Vu _ _ _ _ _ _ q5 q6,tv_I,XI _ _ q1,Gr]
  have:=Lib.itoa_length_le n hm.1 hm.2
  simp[txt];omega
 |put=>
  show(tv (vO [(Cg,vT tK),(Cr,Bn)])).length<=_
  rw[Vu _ _ _ _ _ _ q6 q7,tv_N,XI _ _ q2,Gr]
  simp[txt]
theorem len_o(m:SMu)(hm:m.ok):(tv m.o).length<=64:=by
 obtain⟨q1,q2,q3,q4,q5,q6,q7,q8,q9,q10,q11,q12,q13⟩:=DV
 have:=ZC m hm
 show(tv (vO [(E8,m.args),(E7,vT m.name)])).length<=_
 rw[Vu _ _ _ _ _ _ q8 q9,Gr]
 cases m with
 |inc n=>rw [show tv (vT (SMu.inc n).name)=_ from XI _ _ q3];simp[txt];omega
 |put=>rw [show tv (vT SMu.put.name)=_ from XI _ _ q4];simp[txt];omega
theorem len_snO(x:SN)(h1:BI x.1)(h2:x.2.ok):(tv (snO x)).length<=105:=by
 obtain⟨q1,q2,q3,q4,q5,q6,q7,q8,q9,q10,q11,q12,q13⟩:=DV
 have h3:=len_o x.2 h2
 have:=Lib.itoa_length_le x.1 (by omega) (by have:=h1.2;omega)
 show(tv (vO [(tId,vI x.1),(CR,x.2.o)])).length<=_
 rw[Vu _ _ _ _ _ _ q10 q11,tv_I,Gr]
 simp;omega
theorem Wz(l:List (List UInt8))(b:Nat)(h:∀ x ∈ l,x.length<=b):(EZ l).length<=l.length*(b+1)+1:=by
 induction l with
 |nil=>simp [EZ]
 |cons x l ih=>
  have h1:=h x (by simp)
  have h2:=ih fun y hy=>h y (by simp[hy])
  simp only[EZ,A0g,A04,A0B]
  omega
theorem ZB(l:List (List UInt8))(b:Nat)(h:∀ x ∈ l,x.length<=b):(MN l).length<=l.length*(b+1)+2:=by
 cases l with
 |nil=>simp [MN]
 |cons x l=>
  have h1:=h x (by simp)
  have h2:=Wz l b fun y hy=>h y (by simp[hy])
  simp only[MN,A0g,A04,A0B]
  omega
theorem PO(c:Nat)(l:List SN)(h:Hk c l):(tv (puO c l)).length<=8000:=by
 obtain⟨q1,q2,q3,q4,q5,q6,q7,q8,q9,q10,q11,q12,q13⟩:=DV
 have h1:=Lib.itoa_length_le c (by omega) (by have:=h.1.2;omega)
 have h2:=ZB ((l.map snO).map tv) 105 fun x hx=>by
  obtain⟨v,hv,rfl⟩:=A0i.1 hx
  obtain⟨y,hy,rfl⟩:=A0i.1 hv
  exact len_snO y (h.2.2 y hy).1 (h.2.2 y hy).2
 have h3:=h.2.1
 simp only[A07] at h2
 show(tv (vO [(Dh,vI c),(Gc,vL (l.map snO))])).length<=_
 rw[Vu _ _ _ _ _ _ q12 q13,tv_I,tv_L,Gr]
 simp only[A0g,A0v]
 omega
theorem QD(c:Nat)(l:List SN)(h:Hk c l):Qp (tv (puO c l)) (puO c l):=
 c_Text (puO c l) (sm_puO c l h) (pl_puO c l) rfl (may_puO c l) (by have:=PO c l h;omega)
def K3(r:Int)(n:Nat):Int:=r.fdiv (2^min n IntKind.u32.bits)
def crOdd(r:Int):Bool:=bits .and .u32 r 1==1
def crStep(r:Int):Int:=if crOdd r then bits .xor .u32 (K3 r 1) 3988292384 else K3 r 1
def crI:Nat->Int->Int
 |0,r=>r
 |n+1,r=>crStep (crI n r)
theorem GD{n:Int}(h:0<=n)(k:n<4294967296):IntKind.u32.wrap n=n:=by
 simp[IntKind.wrap,IntKind.bits,IntKind.signed];omega
theorem Fg{l:List D}:Af l=true↔∀ x ∈ l,x.pure=true:=by
 induction l with
 |nil=>simp [Af]
 |cons a l ih=>simp [Af,ih]
theorem To{l:List D}(h:Af l=true)(n:Nat):Af (l.take n)=true:=Fg.2 fun x hx=>Fg.1 h x (A1e hx)
theorem Tp{l:List D}(h:Af l=true)(n:Nat):Af (l.drop n)=true:=Fg.2 fun x hx=>Fg.1 h x (A0D hx)
theorem c_fill(low:Nat)(hl:low<16)(T:List D)(hT:T.length=16)(hp:Af T=true):A2 prog 224 [.val (.int .u32 low),.ref 1 0 0 16] [(1,.rows [T] 16)] (.tup []) [(1,.rows [AC T low [.val (.int .u32 (crI 4 low))]] 16)]:=by
 refine Zd [] func224 rfl ntmps224 results224 ?_
 (have z:=Za hT hp;(try push_cast[z])<;>repeat' (first|apply Zi<;>intro _|exact Zo|with_reducible apply Za)<;>try push_cast[z])
 refine Zl (fun i=>i<=4) (fun i=>⟨[(6,.val (.int .i64 i)),(3,.val (.int .u32 (crI i low))),(0,.val (.int .u32 low)),(1,.ref 1 0 0 16)],[(1,.rows [T] 16)],400⟩) (fun i=>4-i) 0 (by simp) ?_ fun i hi=>?_
 ·apply Zw<;>push_cast [hp]
  all_goals first|rfl|skip
 ·have w1:IntKind.i64.wrap (↑i+1)=↑i+1:=Aa (by omega) (by omega)
  have e0:(bits .and .u32 (crI i low) 1==1)=crOdd (crI i low):=rfl
  have e1:(crI i low).fdiv (2^min 1 IntKind.u32.bits)=K3 (crI i low) 1:=rfl
  have hs:crI (i+1) low=if crOdd (crI i low) then bits .xor .u32 (K3 (crI i low) 1) 3988292384 else K3 (crI i low) 1:=rfl
  by_cases hi4:i<4
  ·have b0:decide ((i:Int)<4)=true:=decide_eq_true (by omega)
   (have z:=Za hT<|Za hp<|Za w1<|Za b0<|Za e0 e1;(try push_cast[z])<;>repeat' (first|apply Zi<;>intro _|exact Zo|with_reducible apply Za)<;>try push_cast[z])
   all_goals first|omega|skip
   all_goals
    refine⟨i+1,hi4,by omega,?_⟩
    rw[hs]
    apply Zw<;>push_cast [hp,e1]
    all_goals first|(rw[if_pos (by assumption)])|(rw[if_neg (by simp;assumption)])|skip
  ·obtain rfl:i=4:=by omega
   (have z:=Za hT hp;(try push_cast[z])<;>repeat' (first|apply Zi<;>intro _|exact Zo|with_reducible apply Za)<;>try push_cast[z])
   all_goals first|omega|skip
   rw[Nat.mul_one]
   have hps:Af (AC T low [.val (.int .u32 (crI 4 low))])=true:=by
    have h1:=CJ (T.take low) ([D.val (.int .u32 (crI 4 low))]++T.drop (low+1))
    unfold AC
    rw[A17,h1,CJ,To hp,Tp hp]
    rfl
   generalize AC T low [.val (.int .u32 (crI 4 low))]=U at*
   apply Zw<;>push_cast [hps]
def crL:List Int:=(List.range 16).map fun i:Nat=>crI 4 (i:Int)
def Pe(n:Int):D:=.val (.int .u32 n)
theorem Uu(l:List Int):(l.map Pe).all Bc=true:=A0w.2 fun x hx=>by
 obtain⟨y,_,rfl⟩:=A0i.1 hx;rfl
def crT(i:Nat):List D:=(crL.take i).map Pe++List.replicate (16-i) (Pe 0)
theorem Jp(i:Nat):Af (crT i)=true:=Fg.2 fun x hx=>by
 rcases A1o.1 hx with h|h
 ·obtain⟨y,_,rfl⟩:=A0i.1 h;rfl
 ·rw[List.eq_of_mem_replicate h];rfl
theorem Mj(i:Nat)(h:i<=16):(crT i).length=16:=by
 simp[crT,crL];omega
theorem crT_set(i:Nat)(h:i<16):AC (crT i) i [.val (.int .u32 (crI 4 i))]=crT (i+1):=by
 have e1:(crL.take i).length=i:=by simp[crL];omega
 have e2:(crT i).take i=(crL.take i).map Pe:=by unfold crT;rw[A1H (by rw[A07,e1])]
 have e3:(crT i).drop (i+1)=List.replicate (16-(i+1)) (Pe 0):=by
  unfold crT
  rw[<-List.drop_drop,List.drop_left' (by rw[A07,e1]),List.drop_replicate,Nat.sub_sub]
 have e4:crL.take (i+1)=crL.take i++[crI 4 i]:=by
  rw[List.take_add_one]
  congr 1
  have:crL[i]? =some (crI 4 (i:Int)):=by simp only[crL,A0u,A1T h];rfl
  rw[this];rfl
 unfold AC
 rw[A17,e2,e3]
 unfold crT
 rw[e4,A0F,A0c]
 rfl
theorem c_steps:A0 prog 179 [] (.agg (crL.map Pe)):=by
 refine Zf [] func179 rfl ntmps179 results179 ?_
 ((try push_cast)<;>repeat' (first|apply Zi<;>intro _|exact Zp|with_reducible apply Za)<;>try push_cast)
 all_goals first|omega|skip
 refine Zl (fun i=>i<=16) (fun i=>⟨[(5,.val (.int .u32 i)),(2,.func (.func 224) [] [.ref 8 0 0 16]),(0,.ref 0 0 0 16),(1,.ref 8 0 0 16)],[(8,.rows [crT i] 16),(0,.rows [crT 0] 16)],400⟩) (fun i=>16-i) 0 (by simp) ?_ fun i hi=>?_
 ·have e0:crT 0=[.val (.int .u32 0),.val (.int .u32 0),.val (.int .u32 0),.val (.int .u32 0),.val (.int .u32 0),.val (.int .u32 0),.val (.int .u32 0),.val (.int .u32 0),.val (.int .u32 0),.val (.int .u32 0),.val (.int .u32 0),.val (.int .u32 0),.val (.int .u32 0),.val (.int .u32 0),.val (.int .u32 0),.val (.int .u32 0)]:=rfl
  rw[e0]
  apply Zw<;>push_cast
 ·have oT:=Jp i
  have oZ:=Jp 0
  have lT:=Mj i hi
  have lZ:=Mj 0 (by omega)
  by_cases h16:i<16
  ·have hF:=c_fill i h16 (crT i) lT oT
   rw[crT_set i h16] at hF
   have oT2:=Jp (i+1)
   have b0:decide ((i:Int)<16)=true:=decide_eq_true (by omega)
   have w1:IntKind.u32.wrap (↑i+1)=↑i+1:=GD (by omega) (by omega)
   (have z:=Za oT<|Za oZ<|Za lT<|Za lZ<|Za b0<|Za w1 oT2;(try push_cast[z])<;>repeat' (first|apply Zi<;>intro _|refine Zt [(1,8)] hF ?_|exact Zo|with_reducible apply Za)<;>try push_cast[z])
   all_goals first|omega|skip
   refine⟨i+1,h16,by omega,?_⟩
   apply Zw<;>push_cast [oT2,oZ]
  ·obtain rfl:i=16:=by omega
   have e16:crT 16=crL.map Pe:=by
    unfold crT
    rw[A05 (by simp[crL])]
    simp
   have b0:decide (((16:Nat):Int)<16)=false:=by decide
   generalize crT 0=Z at*
   rw[e16] at oT lT|-
   have aT:=Uu crL
   generalize crL.map Pe=T at*
   have d1:T.take 16=T:=A05 (by omega)
   have d2:T.drop 16=[]:=A0m (by omega)
   have d3:Z.drop 16=[]:=A0m (by omega)
   (have z:=Za oT<|Za oZ<|Za lT<|Za lZ<|Za b0<|Za d1<|Za d2<|Za d3 aT;(try push_cast[z])<;>repeat' (first|apply Zi<;>intro _|exact Zo|with_reducible apply Za)<;>try push_cast[z])
   all_goals first|omega|skip
   all_goals trace_state
theorem c_each(l:List UInt8):A0 prog 180 [.slice (l.map byD) false] (.func (.func 225) [] [.ptr [.slice (l.map byD) false] 0]):=by
 have oL:=AN l
 refine Zf [0] func180 rfl ntmps180 results180 ?_
 (have z:=oL;(try push_cast[z])<;>repeat' (first|apply Zi<;>intro _|exact Zo|with_reducible apply Za)<;>try push_cast[z])
def crD:List D:=crL.map Pe
theorem crD_16:crT 16=crD:=by
 unfold crT crD
 rw[A05 (by simp[crL])]
 simp
theorem Sc:Af crD=true:=by rw[<-crD_16];exact Jp 16
theorem U5:crD.length=16:=by simp[crD,crL]
theorem crD_all:crD.all Bc=true:=Uu crL
theorem c_steps':A0 prog 179 [] (.agg crD):=c_steps
def Sb(r:Int):Int:=crL.getD (bits .and .u32 r 15).toNat 0
def FZ(r:Int):Int:=bits .xor .u32 (K3 r 4) (Sb r)
def Q0(r:Int)(x:UInt8):Int:=FZ (FZ (bits .xor .u32 r (x.toNat:Int)))
def Jr(l:List UInt8)(r:Int):Int:=l.foldl Q0 r
theorem and15(r:Int):0<=bits .and .u32 r 15/\bits .and .u32 r 15<16:=by
 have h:(BitVec.ofInt 32 r&&&BitVec.ofInt 32 15).toNat<16:=by
  rw[BitVec.toNat_and]
  exact Nat.lt_of_le_of_lt Nat.and_le_right (by decide)
 unfold bits
 show 0<=IntKind.u32.wrap ((BitVec.ofInt 32 r&&&BitVec.ofInt 32 15).toNat:Int)/\IntKind.u32.wrap ((BitVec.ofInt 32 r&&&BitVec.ofInt 32 15).toNat:Int)<16
 rw[GD (by omega) (by omega)]
 omega
theorem YQ(r:Int):nd crD (bits .and .u32 r 15).toNat=.val (.int .u32 (Sb r)):=by
 have h:=and15 r
 have hl:(bits .and .u32 r 15).toNat<crL.length:=by simp[crL];omega
 simp only[nd,crD,Sb,A02,A0u,A0b hl]
 rfl
def crH(a c:Code)(r:Int):Hp:=[(7,.loop [(5,.ref 3 0 0 16),(6,.ref 1 0 0 1)] 34 .ready none [13] a c),(1,.rows [[.val (.int .u32 r)]] 1),(3,.rows [crD] 16)]
theorem c_each1{a c:Code}(l:List UInt8)(hl:l.length<=1048576)(r:Int)(hY:∀ (x:UInt8) (r:Int),Dx prog 7 [.val (.int .u8 (x.toNat:Int))] (crH a c r) (.val (.bool true)) (crH a c (Q0 r x))):
  A2 prog 225 [.yld 7,.ptr [.slice (l.map byD) false] 0] (crH a c r) (.tup []) (crH a c (Jr l r)):=by
 have oL:=AN l
 have e0:(l.map byD).length=l.length:=A07 byD
 have oT:=Sc
 unfold crH at*
 generalize crD=T at*
 refine Zd [] func225 rfl ntmps225 results225 ?_
 (have z:=Za oL<|Za e0 oT;(try push_cast[z])<;>repeat' (first|apply Zi<;>intro _|exact Zo|with_reducible apply Za)<;>try push_cast[z])
 refine Zl (fun i=>i<=l.length) (fun i=>⟨[(7,.val (.int .i64 i)),(6,.val (.int .i64 l.length)),(5,.slice (l.map byD) false),(0,.yld 7)],[(7,.loop [(5,.ref 3 0 0 16),(6,.ref 1 0 0 1)] 34 .ready none [13] a c),(1,.rows [[.val (.int .u32 (Jr (l.take i) r))]] 1),(3,.rows [T] 16)],400⟩) (fun i=>l.length-i) 0 (by simp) ?_ fun i hi=>?_
 ·apply Zw<;>push_cast [oL,oT]
  all_goals first|rfl|skip
 ·push_cast
  refine Al (fun ha=>?_) (fun ha=>?_)
  ·have hi':i<l.length:=by simpa using ha
   have e1:=JR hi'
   have et:Jr (l.take (i+1)) r=Q0 (Jr (l.take i) r) (l.getD i 0):=by
    unfold Jr
    rw[A1y hi',A1F,A02,A0b hi']
    rfl
   have hy:=hY (l.getD i 0) (Jr (l.take i) r)
   rw[<-et] at hy
   have w1:IntKind.i64.wrap (↑i+1)=↑i+1:=Aa (by omega) (by omega)
   rw[MC] at e1
   generalize(l.getD i 0).toNat=x at*
   generalize hr2:Jr (l.take (i+1)) r=r2 at*
   generalize Jr (l.take i) r=r1 at*
   (have z:=Za e1<|Za oL<|Za w1<|Za oT e0;(try push_cast[z])<;>repeat' (first|apply Zi<;>intro _|exact Zo|with_reducible apply Za|(with_reducible show A1 _ _ _ _ _ _ _ _;refine A1.yield 7 (BG [(7,7),(1,1),(3,3)]) rfl ?_ (by(try push_cast[z]);exact hy ..) ?_ (by first|exact .inl rfl|exact .inr ⟨_,_,_,rfl,rfl,rfl⟩) ?_ ?_ ?_ ?_;(· push_cast[z]);(· push_cast[z]<;>(with_unfolding_all exact A9 _));(· push_cast[z]<;>(with_unfolding_all exact A9 _));(· push_cast[z]<;>(with_unfolding_all exact A9 _));(· push_cast[z]<;>(with_unfolding_all exact A9 _));try push_cast[z])|fail)<;>try push_cast[z])
   all_goals first|omega|skip
   refine⟨i+1,hi',by omega,?_⟩
   rw[hr2]
   apply Zw<;>push_cast [oL,oT]
  ·have hi':i=l.length:=by simp at ha;omega
   subst hi'
   rw[A1j]
   (have z:=Za oL oT;(try push_cast[z])<;>repeat' (first|apply Zi<;>intro _|exact Zo|with_reducible apply Za)<;>try push_cast[z])
   all_goals first|omega|skip
   apply Zw<;>push_cast [oT]
def Jq(l:List UInt8):Int:=bits .xor .u32 4294967295 (Jr l (bits .xor .u32 4294967295 0))
theorem c_More0(l:List UInt8)(hl:l.length<=1048576):A0 prog 114 [.val (.int .u32 0),.slice (l.map byD) false] (.val (.int .u32 (Jq l))):=by
 have oL:=AN l
 have hS:=c_steps'
 have hE:=c_each l
 have oT:=Sc
 have lT:=U5
 have aT:=crD_all
 have d1:crD.take 16=crD:=A05 (by omega)
 have d2:crD.drop 16=[]:=A0m (by omega)
 refine A0.of_awpW func114 rfl ntmps114 (by kernel_rfl) (by simp) (congrArg Array.toList results114) ?_
 refine BA.seqV [] mixed (by kernel_rfl) ?_
 ((try push_cast)<;>repeat' (first|apply Zi<;>intro _|exact Zp|with_reducible apply Za)<;>try push_cast)
 refine BA.seqV [] mixed (by kernel_rfl) ?_
 (have z:=Za oT<|Za lT<|Za aT<|Za d1 d2;(try push_cast[z])<;>repeat' (first|apply Zi<;>intro _|refine Zc hS ?_|exact Zo|with_reducible apply Za)<;>try push_cast[z])
 refine BA.seqV [] mixed (by kernel_rfl) ?_
 (have z:=Za oT lT;(try push_cast[z])<;>repeat' (first|apply Zi<;>intro _|exact Zo|with_reducible apply Za)<;>try push_cast[z])
 refine BA.seq ?_
 refine BA.seqV [] mixed (by kernel_rfl) ?_
 (have z:=Za oT oL;(try push_cast[z])<;>repeat' (first|apply Zi<;>intro _|refine Zc hE ?_|exact Zo|with_reducible apply Za)<;>try push_cast[z])
 refine BA.block ?_
 refine BA.range (y:=7) (BG [(7,80),(1,48),(3,16)]) (env:=[(5,.ref 3 0 0 16),(6,.ref 1 0 0 1)]) (ds:=[.yld 7,.ptr [.slice (l.map byD) false] 0]) rfl (c_each1 l hl (bits .xor .u32 4294967295 0) ?hY) rfl rfl ?_ ?_ ?_ ?_ ?_ ?_ ?_
 case hY=>
  intro x r
  unfold crH
  refine Dx.of_awp (by decide) rfl (by decide) ?_
  simp only[A1D,A1M,A1i,A1K,A0h,A0d]
  refine Zy ?_
  (have z:=@Ef.eq_1;(try push_cast[z])<;>repeat' (first|apply Zi<;>intro _|exact Zo|with_reducible apply Za)<;>try push_cast[z])
  refine Zy ?_
  have wx:IntKind.u32.wrap (x.toNat:Int)=x.toNat:=by have:=x.toNat_lt;exact GD (by omega) (by omega)
  have er:Q0 r x=FZ (FZ (bits .xor .u32 r (x.toNat:Int))):=rfl
  rw[er]
  generalize hr1:bits .xor .u32 r (x.toNat:Int)=r1 at*
  have n1:=YQ r1
  have a1:=and15 r1
  have n2:=YQ (FZ r1)
  have a2:=and15 (FZ r1)
  have e1:bits .xor .u32 (r1.fdiv (2^min 4 IntKind.u32.bits)) (Sb r1)=FZ r1:=rfl
  have e2:bits .xor .u32 ((FZ r1).fdiv (2^min 4 IntKind.u32.bits)) (Sb (FZ r1))=FZ (FZ r1):=rfl
  have m1:(bits .and .u32 r1 15).toNat<16:=by omega
  have m2:(bits .and .u32 (FZ r1) 15).toNat<16:=by omega
  (have z:=Za @Ee.eq_1<|Za oT<|Za lT<|Za wx<|Za hr1<|Za n1<|Za n2<|Za e1<|Za e2 @Nat.mul_one;(try push_cast[z])<;>repeat' (first|apply Zi<;>intro _|exact Zo|with_reducible apply Za)<;>try push_cast[z])
  all_goals first|omega|skip
  apply Zw<;>push_cast [oT]
 ·push_cast[oL]
 ·push_cast[oL]
 ·push_cast[C3,oL]
 ·push_cast[B3,oT]
  rfl
 ·push_cast[oT]
 ·push_cast[oT]
 ·push_cast[oT]
  refine BA.vc [] mixed (by kernel_rfl) ?_
  (have z:=oT;(try push_cast[z])<;>repeat' (first|apply Zi<;>intro _|exact Zo|with_reducible apply Za)<;>try push_cast[z])
  all_goals first|omega|skip
  rfl
theorem c_Sum(l:List UInt8)(hl:l.length<=1048576):A0 prog 66 [.slice (l.map byD) false] (.val (.int .u32 (Jq l))):=by
 have oL:=AN l
 have h:=c_More0 l hl
 refine Zf [] func66 rfl ntmps66 results66 ?_
 (have z:=oL;(try push_cast[z])<;>repeat' (first|apply Zi<;>intro _|refine Zc h ?_|exact Zo|with_reducible apply Za)<;>try push_cast[z])
theorem NX(l:List UInt8):0<=Jq l/\Jq l<4294967296:=by
 have:∀ a b,0<=bits .xor .u32 a b/\bits .xor .u32 a b<4294967296:=fun a b=>by
  have:=EN .u32 ((BitVec.ofInt 32 a^^^BitVec.ofInt 32 b).toNat:Int)
  simp only[D1,D2] at this
  unfold bits
  show 0<=IntKind.u32.wrap _/\IntKind.u32.wrap _<4294967296
  exact⟨this.1,by have h2:=this.2;exact Int.lt_of_le_of_lt h2 (by decide)⟩
 exact this _ _
def EL(n:Nat)(i:Nat):UInt8:=UInt8.ofNat (n/2^(8*i)%256)
def Cs(n:Nat)(i:Nat):List UInt8:=(List.range i).map (EL n)
theorem Vz(n i:Nat):Cs n (i+1)=Cs n i++[EL n i]:=by simp[Cs,List.range_succ]
theorem QJ(n i:Nat):(EL n i).toNat=n/2^(8*i)%256:=by
 unfold EL
 rw[UInt8.toNat_ofNat']
 omega
theorem wrapU8(n:Nat):IntKind.u8.wrap (n:Int)=((n%256:Nat):Int):=by
 simp[IntKind.wrap,IntKind.bits,IntKind.signed]
def F0(A:List (List D))(k:Nat):List (List D):=A++List.replicate k [.val (.int .u8 0)]
theorem WQ(A B:List (List D))(k:Nat)(h:B.length<=k):AC (F0 A k) A.length B=F0 (A++B) (k-B.length):=by
 unfold AC F0
 rw[List.take_left,<-List.drop_drop,List.drop_left,List.drop_replicate,A0c]
theorem HR(l:List UInt8)(k:Nat):A3 (F0 (l.map byD) k)=true:=by
 unfold F0
 induction l with
 |nil=>
  induction k with
  |zero=>rfl
  |succ k ih=>simp only[A0G,A0h,List.replicate_succ,A3] at ih|-;rw[ih];rfl
 |cons x l ih=>simp only[A0j,A0d,A3,ih];rfl
theorem Jl(A:List (List D))(k:Nat):(F0 A k).length=A.length+k:=by simp[F0]
def QT(l:List UInt8):List UInt8:=l++Cs (Jq l).toNat 4
theorem c_Seal(l:List UInt8)(hl:l.length<=1048576)(h0:0<l.length):A0 prog 31 [.slice (l.map byD) false] (.slice ((QT l).map byD) false):=by
 have oL:=AN l
 have e0:(l.map byD).length=l.length:=A07 byD
 have hS:=c_Sum l hl
 have hr:=NX l
 have w4:IntKind.i64.wrap (↑l.length+4)=↑l.length+4:=Aa (by omega) (by omega)
 unfold QT
 obtain⟨n,hn⟩:∃ n:Nat,Jq l=n:=⟨(Jq l).toNat,by omega⟩
 rw[hn] at hS hr|-
 rw[Int.toNat_natCast]
 obtain⟨m,hm⟩:∃ m,m=l.length+4:=⟨_,rfl⟩
 have w5:((↑l.length+4:Int)).toNat=m:=by omega
 have b0:decide (l.length<=m)=true:=decide_eq_true (by omega)
 have s0:l.map byD++List.drop l.length (List.replicate m [D.val (.int .u8 0)])=F0 (l.map byD) 4:=by
  unfold F0
  rw[List.drop_replicate,hm,A1v]
 have oF:=HR l 4
 have lF:=Jl (l.map byD) 4
 have lR:(List.replicate m [D.val (.int .u8 0)]).length=m:=A1k
 refine Zf [] func31 rfl ntmps31 results31 ?_
 (have z:=Za oL<|Za e0<|Za w4<|Za w5<|Za b0<|Za s0<|Za oF<|Za lF lR;(try push_cast[z])<;>repeat' (first|apply Zi<;>intro _|refine Zc hS ?_|exact Zo|with_reducible apply Za)<;>try push_cast[z])
 all_goals first|omega|exact Jv _|exact byD_one _|skip
 refine Zl (fun i=>i<=4) (fun i=>⟨[(15,.val (.int .i64 i)),(4,.val (.int .u32 n)),(3,.sref 32 0 (l.length+i) m 1)],[(32,.rows (F0 ((l++Cs n i).map byD) (4-i)) 1)],400⟩) (fun i=>4-i) 0 (by simp) ?_ fun i hi=>?_
 ·have:l++Cs n 0=l:=by simp[Cs]
  rw[this]
  apply Zw<;>push_cast [oF]
 ·have oG:=HR (l++Cs n i) (4-i)
  have lA:((l++Cs n i).map byD).length=l.length+i:=by simp[Cs]
  have lG:=Jl ((l++Cs n i).map byD) (4-i)
  rw[lA] at lG
  by_cases h4:i<4
  ·have oH:=HR (l++Cs n (i+1)) (4-(i+1))
   have sG:=WQ ((l++Cs n i).map byD) [byD (EL n i)] (4-i) (by simp;omega)
   have e2:(l++Cs n i).map byD++[byD (EL n i)]=(l++Cs n (i+1)).map byD:=by rw[Vz];simp
   rw[lA,e2,A17,Nat.sub_sub,MC] at sG
   have w8:IntKind.i64.wrap (8*↑i)=8*↑i:=Aa (by omega) (by omega)
   have w1:IntKind.i64.wrap (↑i+1)=↑i+1:=Aa (by omega) (by omega)
   have hv:IntKind.u8.wrap ((n:Int).fdiv (2^min (8*(i:Int)).toNat IntKind.u32.bits))=((EL n i).toNat:Int):=by
    have e3:min (8*(i:Int)).toNat IntKind.u32.bits=8*i:=by
     have:IntKind.u32.bits=32:=rfl
     rw[this];omega
    rw[e3,QJ,<-wrapU8]
    congr 1
    have:((2:Int)^(8*i))=((2^(8*i):Nat):Int):=by push_cast
    rw[this,Int.fdiv_eq_ediv_of_nonneg _ (Int.natCast_nonneg _)]
    rfl
   have b1:decide ((i:Int)<4)=true:=decide_eq_true (by omega)
   have b2:decide (l.length+i+1<=m)=true:=decide_eq_true (by omega)
   generalize F0 ((l++Cs n i).map byD) (4-i)=X at*
   generalize hY:F0 ((l++Cs n (i+1)).map byD) (4-(i+1))=Y at*
   (have z:=Za oG<|Za lG<|Za w8<|Za w1<|Za hv<|Za b1<|Za b2<|Za sG oH;(try push_cast[z])<;>repeat' (first|apply Zi<;>intro _|exact Zo|with_reducible apply Za)<;>try push_cast[z])
   all_goals first|omega|(simp;done)|(intro y hy d hd;cases A0a.1 hy;cases A0a.1 hd;rfl)|skip
   refine⟨i+1,h4,by omega,?_⟩
   rw[hY]
   apply Zw<;>push_cast [oH,A1m]
  ·obtain rfl:i=4:=by omega
   have e3:F0 ((l++Cs n 4).map byD) (4-4)=(l++Cs n 4).map byD:=by simp[F0]
   have oH:=AN (l++Cs n 4)
   rw[e3] at oG lG|-
   generalize l++Cs n 4=L at*
   (have z:=Za oG<|Za lG oH;(try push_cast[z])<;>repeat' (first|apply Zi<;>intro _|exact Zo|with_reducible apply Za)<;>try push_cast[z])
   all_goals first|omega|skip
   rw[if_pos ⟨A08 _,by omega,by omega⟩,A05 (by omega)]
   refine(show lo (D.slice _ _) (D.slice _ _) from ?_)
   simp only[EE,BC,true_and]
   exact fun h=>(by cases h)
def Ft(n:Nat)(i:Nat):Nat:=n%2^(8*i)
theorem orAdd(n:Nat)(i:Nat)(hi:i<4):bits .or .u32 (Ft n i:Int) (IntKind.u32.wrap (((EL n i).toNat:Int)*2^min (8*(i:Int)).toNat IntKind.u32.bits))=(Ft n (i+1):Int):=by
 have e3:min (8*(i:Int)).toNat IntKind.u32.bits=8*i:=by
  have:IntKind.u32.bits=32:=rfl
  rw[this];omega
 have e4:((2:Int)^(8*i))=((2^(8*i):Nat):Int):=by push_cast
 have hp:2^(8*i)<=2^24:=Nat.pow_le_pow_right (by omega) (by omega)
 have hpp:0<2^(8*i):=Nat.pow_pos (by omega)
 have hb:(EL n i).toNat<256:=(EL n i).toNat_lt
 have hs:Ft n (i+1)=Ft n i+2^(8*i)*(EL n i).toNat:=by
  unfold Ft
  rw[QJ,show 8*(i+1)=8*i+8 by omega,Nat.pow_add,Nat.mod_mul]
 have hlt:Ft n i<2^(8*i):=Nat.mod_lt _ hpp
 have h2:Ft n (i+1)<2^32:=by
  have:Ft n (i+1)<2^(8*(i+1)):=Nat.mod_lt _ (Nat.pow_pos (by omega))
  exact A0P this (Nat.pow_le_pow_right (by omega) (by omega))
 have h3:2^(8*i)*(EL n i).toNat<2^32:=by omega
 rw[e3,e4,<-Int.natCast_mul,Nat.mul_comm,GD (by omega) (by have:(2:Nat)^32=4294967296:=rfl;omega),hs]
 unfold bits
 show IntKind.u32.wrap ((BitVec.ofInt 32 (Ft n i:Int) |||BitVec.ofInt 32 ((2^(8*i)*(EL n i).toNat:Nat):Int)).toNat:Int)=_
 have f1:(BitVec.ofInt 32 (Ft n i:Int)).toNat=Ft n i:=by
  rw[BitVec.toNat_ofInt]
  have:(2:Nat)^32=4294967296:=rfl
  omega
 have f2:(BitVec.ofInt 32 ((2^(8*i)*(EL n i).toNat:Nat):Int)).toNat=2^(8*i)*(EL n i).toNat:=by
  rw[BitVec.toNat_ofInt]
  have:(2:Nat)^32=4294967296:=rfl
  omega
 have f3:(BitVec.ofInt 32 (Ft n i:Int) |||BitVec.ofInt 32 ((2^(8*i)*(EL n i).toNat:Nat):Int)).toNat=Ft n i+2^(8*i)*(EL n i).toNat:=by
  rw[BitVec.toNat_or,f1,f2,Nat.or_comm,<-Nat.two_pow_add_eq_or_of_lt hlt,Nat.add_comm]
 rw[f3,GD (by omega) (by have:(2:Nat)^32=4294967296:=rfl;omega)]
theorem c_Open(l:List UInt8)(hl:l.length<=1048576)(h0:0<l.length):A0 prog 181 [.slice ((QT l).map byD) false] (.tup [.slice (l.map byD) false,.val (.bool true)]):=by
 have oL:=AN l
 have e0:(l.map byD).length=l.length:=A07 byD
 have hS:=c_Sum l hl
 have hr:=NX l
 unfold QT
 obtain⟨n,hn⟩:∃ n:Nat,Jq l=n:=⟨(Jq l).toNat,by omega⟩
 rw[hn] at hS hr|-
 rw[Int.toNat_natCast]
 have hL4:(Cs n 4).length=4:=by simp[Cs]
 obtain⟨m,hm⟩:∃ m,m=l.length+4:=⟨_,rfl⟩
 have lL:((l++Cs n 4).map byD).length=m:=by simp[hL4,hm]
 have aA:=Jv (l++Cs n 4)
 have oA:=AN (l++Cs n 4)
 have oB:=AN (Cs n 4)
 have lB:((Cs n 4).map byD).length=4:=by simp[hL4]
 have t1:((l++Cs n 4).map byD).take l.length=l.map byD:=by rw[A0F,A1H e0]
 have t2:((l++Cs n 4).map byD).drop l.length=(Cs n 4).map byD:=by rw[A0F,List.drop_left' e0]
 have t3:((Cs n 4).map byD).take (m-l.length)=(Cs n 4).map byD:=A05 (by omega)
 have w4:IntKind.i64.wrap (↑m-4)=↑l.length:=(Aa (by omega) (by omega)).trans (by omega)
 have b0:decide ((m:Int)<4)=false:=decide_eq_false (by omega)
 generalize(l++Cs n 4).map byD=A at*
 refine Zf [] func181 rfl ntmps181 results181 ?_
 (have z:=Za oA<|Za oL<|Za oB<|Za lL<|Za lB<|Za t1<|Za t2<|Za t3<|Za w4 b0;(try push_cast[z])<;>repeat' (first|apply Zi<;>intro _|exact Zo|with_reducible apply Za)<;>try push_cast[z])
 all_goals first|omega|exact aA|skip
 have e1:∀ i,i<4->nr ((Cs n 4).map byD) i=[.val (.int .u8 ((EL n i).toNat:Int))]:=fun i hi=>by
  rw[JR (by omega),MC]
  congr 4
  simp[Cs,A02,A1T hi]
 generalize(Cs n 4).map byD=B at*
 refine Zl (fun i=>i<=4) (fun i=>⟨[(24,.val (.int .i64 i)),(23,.val (.int .i64 4)),(22,.slice B false),(6,.val (.int .u32 (Ft n i))),(4,.slice (l.map byD) false)],[],400⟩) (fun i=>4-i) 0 (by simp) ?_ fun i hi=>?_
 ·have:Ft n 0=0:=by unfold Ft;rw[Nat.mul_zero,Nat.pow_zero];omega
  rw[this]
  apply Zw<;>push_cast [oL,oB]
 ·by_cases h4:i<4
  ·have e2:=e1 i h4
   have e3:=orAdd n i h4
   have w1:IntKind.i64.wrap (↑i+1)=↑i+1:=Aa (by omega) (by omega)
   have w8:IntKind.i64.wrap (8*↑i)=8*↑i:=Aa (by omega) (by omega)
   have hb:(EL n i).toNat<256:=(EL n i).toNat_lt
   have wx:IntKind.u32.wrap ((EL n i).toNat:Int)=((EL n i).toNat:Int):=GD (by omega) (by omega)
   have b1:decide ((i:Int)<4)=true:=decide_eq_true (by omega)
   generalize hq:Ft n (i+1)=q at*
   (have z:=Za oL<|Za oB<|Za lB<|Za e2<|Za e3<|Za w1<|Za w8<|Za wx b1;(try push_cast[z])<;>repeat' (first|apply Zi<;>intro _|exact Zo|with_reducible apply Za)<;>try push_cast[z])
   all_goals first|omega|skip
   refine⟨i+1,h4,by omega,?_⟩
   rw[hq]
   apply Zw<;>push_cast [oL,oB]
  ·obtain rfl:i=4:=by omega
   have e5:Ft n 4=n:=by
    unfold Ft
    exact Nat.mod_eq_of_lt (by have:(2:Nat)^(8*4)=4294967296:=rfl;omega)
   have b2:((n:Int) !=n)=false:=by simp
   have b3:decide (l.length<=0)=false:=decide_eq_false (by omega)
   rw[e5]
   (have z:=Za oL<|Za oB<|Za lB<|Za b2<|Za b3 e0;(try push_cast[z])<;>repeat' (first|apply Zi<;>intro _|refine Zc hS ?_|exact Zo|with_reducible apply Za)<;>try push_cast[z])
   all_goals first|omega|exact Jv _|skip
   all_goals trace_state
def EF(x:List UInt8):List UInt8:=QT (1::x)
theorem c_firstN:A0 prog 30 [.slice [[.func (.func 29) [.val (.int .u8 1)] []]] false] (.val (.int .i64 0)):=
 Vk [(29,[.val (.int .u8 1)],[])] (by simp) fun x hx=>by
  cases A0a.1 hx
  exact⟨Su,rfl,rfl⟩
theorem c_Frame(x:List UInt8)(hx:x.length<=1048575)(h0:0<x.length):A0 prog 12 [.val (.int .u8 1),.slice (x.map byD) false] (.tup [.slice ((EF x).map byD) false,.val (.int .i64 0)]):=by
 have oX:=AN x
 have h1:=c_firstN
 have h2:=c_joined x (by omega) h0
 have h3:=c_Seal (1::x) (by simp;omega) (by simp)
 have oY:=AN (1::x)
 have oZ:=AN (EF x)
 change A0 _ _ _ (.slice ((EF x).map byD) false) at h3
 generalize(1::x).map byD=Y at*
 refine Zf [] func12 rfl ntmps12 results12 ?_
 (have z:=Za oX<|Za oY oZ;(try push_cast[z])<;>repeat' (first|apply Zi<;>intro _|refine Zq h1 ?_ ?_|refine Zc h2 ?_|refine Zc h3 ?_|exact Zo|with_reducible apply Za)<;>try push_cast[z])
 all_goals first|omega|skip
 all_goals trace_state
theorem c_body1(x:List UInt8):A0 prog 116 [.ptr [.val (.int .u8 1),.slice (x.map byD) false] 0,.ptr [.val (.int .u8 1)] 0] (.val (.int .i64 0)):=by
 have oX:=AN x
 have h:=c_like1
 refine Zf [] func116 rfl ntmps116 results116 ?_
 (have z:=oX;(try push_cast[z])<;>repeat' (first|apply Zi<;>intro _|refine Zc h ?_|exact Zo|with_reducible apply Za)<;>try push_cast[z])
theorem c_first2(x:List UInt8):A0 prog 30 [.slice [[.func (.func 29) [.val (.int .u8 1)] []],[.func (.func 116) [] [.ptr [.val (.int .u8 1),.slice (x.map byD) false] 0,.ptr [.val (.int .u8 1)] 0]]] false] (.val (.int .i64 0)):=
 Vk [(29,[.val (.int .u8 1)],[]),(116,[],[.ptr [.val (.int .u8 1),.slice (x.map byD) false] 0,.ptr [.val (.int .u8 1)] 0])] (by simp) fun y hy=>by
  simp only[A0q,A0Y,or_false] at hy
  have oX:=AN x
  rcases hy with rfl|rfl
  ·exact⟨Su,rfl,rfl⟩
  ·exact⟨c_body1 x,rfl,by simp[Af,D.pure,oX]⟩
theorem c_read(x:List UInt8)(hx:x.length<=1048575):A0 prog 115 [.slice ((EF x).map byD) false] (.tup [.agg [.val (.int .u8 1),.slice (x.map byD) false],.val (.int .i64 0)]):=by
 have oX:=AN x
 have h3:=c_Open (1::x) (by simp;omega) (by simp)
 change A0 _ _ [.slice ((EF x).map byD) false] _ at h3
 have oZ:=AN (EF x)
 have eY:(1::x).map byD=byD 1::x.map byD:=rfl
 rw[eY,MC] at h3
 generalize(EF x).map byD=Z at*
 have aY:=Jv (1::x)
 rw[eY,MC] at aY
 have bq:((↑x.length+1:Int)==0)=false:=beq_false_of_ne (by omega)
 have e0:(x.map byD).length=x.length:=A07 byD
 have tk:(x.map byD).take ((↑x.length+1:Int).toNat-1)=x.map byD:=A05 (by omega)
 refine Zf [] func115 rfl ntmps115 results115 ?_
 (have z:=Za oX<|Za oZ<|Za bq<|Za tk e0;(try push_cast[z])<;>repeat' (first|apply Zi<;>intro _|refine Zc h3 ?_|exact Zo|with_reducible apply Za)<;>try push_cast[z])
 all_goals first|omega|exact aY|exact id|skip
 all_goals trace_state
theorem c_Body(x:List UInt8)(hx:x.length<=1048575):A0 prog 67 [.val (.int .u8 1),.slice ((EF x).map byD) false] (.tup [.slice (x.map byD) false,.val (.int .i64 0)]):=by
 have oX:=AN x
 have h1:=c_read x hx
 have h2:=c_first2 x
 have oZ:=AN (EF x)
 generalize(EF x).map byD=Z at*
 refine Zf [0,64] func67 rfl ntmps67 results67 ?_
 (have z:=Za oX oZ;(try push_cast[z])<;>repeat' (first|apply Zi<;>intro _|refine Zc h1 ?_|refine Zq h2 ?_ ?_|exact Zo|with_reducible apply Za)<;>try push_cast[z])
 all_goals first|omega|skip
 all_goals trace_state
end Go.Ab
namespace Go.Proofs
open Go.Proofs Go.Proofs.Tryz Go.RowKit Go.Shelf
def Tryz.sPI_ren:Go.Shelf.Ren:=⟨fun|174=>278|247=>314|245=>315|287=>344|279=>345|280=>346|281=>347|282=>348|321=>361|322=>362|316=>363|171=>365|205=>364|243=>371|246=>111|283=>170|284=>171|285=>172|286=>173|129=>159|317=>217|318=>218|319=>219|320=>220|337=>268|338=>269|n=>n,fun|9=>9|3=>3|2=>2|75=>211|85=>373|4=>4|167=>428|5=>5|53=>33|175=>429|46=>203|168=>431|37=>36|0=>0|210=>450|21=>21|127=>149|145=>456|143=>454|171=>260|173=>262|212=>326|51=>151|20=>20|213=>327|232=>404|233=>405|80=>96|n=>n,fun|15=>7|16=>8|17=>3|18=>4|19=>5|n=>n⟩
theorem Tryz.sPI:Go.Proofs.LaysC.n174 prog Tryz.sPI_ren:= {
 mixed:=by kernel_rfl
 f129:=func159.trans (congrArg some (by kernel_rfl))
 f171:=func365.trans (congrArg some (by kernel_rfl))
 f174:=func278.trans (congrArg some (by kernel_rfl))
 f205:=func364.trans (congrArg some (by kernel_rfl))
 f243:=func371.trans (congrArg some (by kernel_rfl))
 f245:=func315.trans (congrArg some (by kernel_rfl))
 f246:=func111.trans (congrArg some (by kernel_rfl))
 f247:=func314.trans (congrArg some (by kernel_rfl))
 f279:=func345.trans (congrArg some (by kernel_rfl))
 f280:=func346.trans (congrArg some (by kernel_rfl))
 f281:=func347.trans (congrArg some (by kernel_rfl))
 f282:=func348.trans (congrArg some (by kernel_rfl))
 f283:=func170.trans (congrArg some (by kernel_rfl))
 f284:=func171.trans (congrArg some (by kernel_rfl))
 f285:=func172.trans (congrArg some (by kernel_rfl))
 f286:=func173.trans (congrArg some (by kernel_rfl))
 f287:=func344.trans (congrArg some (by kernel_rfl))
 f316:=func363.trans (congrArg some (by kernel_rfl))
 f317:=func217.trans (congrArg some (by kernel_rfl))
 f318:=func218.trans (congrArg some (by kernel_rfl))
 f319:=func219.trans (congrArg some (by kernel_rfl))
 f320:=func220.trans (congrArg some (by kernel_rfl))
 f321:=func361.trans (congrArg some (by kernel_rfl))
 f322:=func362.trans (congrArg some (by kernel_rfl))
 f337:=func268.trans (congrArg some (by kernel_rfl))
 f338:=func269.trans (congrArg some (by kernel_rfl))
 t0:=underlying0
 a0:=isAgg0
 z0:=sizeOf0
 v0:=zeroValue0
 t2:=underlying2
 a2:=isAgg2
 z2:=sizeOf2
 v2:=zeroValue2
 t3:=underlying3
 a3:=isAgg3
 z3:=sizeOf3
 v3:=zeroValue3
 t4:=underlying4
 a4:=isAgg4
 z4:=sizeOf4
 v4:=zeroValue4
 t5:=underlying5
 a5:=isAgg5
 z5:=sizeOf5
 v5:=zeroValue5
 t9:=underlying9
 a9:=isAgg9
 z9:=sizeOf9
 v9:=zeroValue9
 t20:=underlying20
 a20:=isAgg20
 z20:=sizeOf20
 v20:=zeroValue20
 t21:=underlying21
 a21:=isAgg21
 z21:=sizeOf21
 v21:=zeroValue21
 t37:=underlying36
 a37:=isAgg36
 z37:=sizeOf36
 v37:=zeroValue36
 t46:=underlying203
 a46:=isAgg203
 z46:=sizeOf203
 v46:=zeroValue203
 t51:=underlying151
 a51:=isAgg151
 z51:=sizeOf151
 v51:=zeroValue151
 t53:=underlying33
 a53:=isAgg33
 z53:=sizeOf33
 v53:=zeroValue33
 t75:=underlying211
 a75:=isAgg211
 z75:=sizeOf211
 v75:=zeroValue211
 t85:=underlying373
 a85:=isAgg373
 z85:=sizeOf373
 v85:=zeroValue373
 t127:=underlying149
 a127:=isAgg149
 z127:=sizeOf149
 v127:=zeroValue149
 t143:=underlying454
 a143:=isAgg454
 z143:=sizeOf454
 v143:=zeroValue454
 t145:=underlying456
 a145:=isAgg456
 z145:=sizeOf456
 v145:=zeroValue456
 t167:=underlying428
 a167:=isAgg428
 z167:=sizeOf428
 v167:=zeroValue428
 t168:=underlying431
 a168:=isAgg431
 z168:=sizeOf431
 v168:=zeroValue431
 t171:=underlying260
 a171:=isAgg260
 z171:=sizeOf260
 v171:=zeroValue260
 t173:=underlying262
 a173:=isAgg262
 z173:=sizeOf262
 v173:=zeroValue262
 t175:=underlying429
 a175:=isAgg429
 z175:=sizeOf429
 v175:=zeroValue429
 t210:=underlying450
 a210:=isAgg450
 z210:=sizeOf450
 v210:=zeroValue450
 t212:=underlying326
 a212:=isAgg326
 z212:=sizeOf326
 v212:=zeroValue326
 t213:=underlying327
 a213:=isAgg327
 z213:=sizeOf327
 t232:=underlying404
 a232:=isAgg404
 z232:=sizeOf404
 v232:=zeroValue404
 t233:=underlying405
 a233:=isAgg405
 z233:=sizeOf405
 v233:=zeroValue405
 g15:=by kernel_rfl
 g16:=by kernel_rfl
 g17:=by kernel_rfl
 g18:=by kernel_rfl
 g19:=by kernel_rfl
 t80:=underlying96
 a80:=isAgg96
 z80:=sizeOf96
 v80:=zeroValue96
 i0:=by kernel_rfl
 i2:=by kernel_rfl
 i3:=by kernel_rfl
 i4:=by kernel_rfl
 i5:=by kernel_rfl
 i9:=by kernel_rfl
 i20:=by kernel_rfl
 i21:=by kernel_rfl
 i37:=by kernel_rfl
 i46:=by kernel_rfl
 i51:=by kernel_rfl
 i53:=by kernel_rfl
 i75:=by kernel_rfl
 i80:=by kernel_rfl
 i85:=by kernel_rfl
 i127:=by kernel_rfl
 i143:=by kernel_rfl
 i145:=by kernel_rfl
 i167:=by kernel_rfl
 i168:=by kernel_rfl
 i171:=by kernel_rfl
 i173:=by kernel_rfl
 i175:=by kernel_rfl
 i210:=by kernel_rfl
 i212:=by kernel_rfl
 i232:=by kernel_rfl
 i233:=by kernel_rfl
 m15:=by kernel_rfl
 m16:=by kernel_rfl
 m17:=by kernel_rfl
 m18:=by kernel_rfl
 m19:=by kernel_rfl
 c0:=by kernel_rfl
 c2:=by kernel_rfl
 c3:=by kernel_rfl
 c4:=by kernel_rfl
 c5:=by kernel_rfl
 c9:=by kernel_rfl
 c20:=by kernel_rfl
 c21:=by kernel_rfl
 c37:=by kernel_rfl
 c46:=by kernel_rfl
 c51:=by kernel_rfl
 c53:=by kernel_rfl
 c75:=by kernel_rfl
 c80:=by kernel_rfl
 c85:=by kernel_rfl
 c127:=by kernel_rfl
 c143:=by kernel_rfl
 c145:=by kernel_rfl
 c167:=by kernel_rfl
 c168:=by kernel_rfl
 c171:=by kernel_rfl
 c173:=by kernel_rfl
 c175:=by kernel_rfl
 c210:=by kernel_rfl
 c212:=by kernel_rfl
 c213:=by kernel_rfl
 c232:=by kernel_rfl
 c233:=by kernel_rfl}
end Go.Proofs
namespace Go.Ab
open Go.Proofs Go.Proofs.Tryz Go.RowKit Go.Shelf
theorem pint_ok:Qv:=fun n h0 h1=>
 A0.of_vals (us:=[.string ⟨(Lib.itoa n).toArray⟩,.int .i64 10,.int .i64 64]) (by kernel_rfl) rfl fun w I hg ho=>⟨.tuple #[.int .i64 n,.nilIface],fun _=>Rc (by simp only[okP,D1,D2];omega) trivial,by
  have hl:=Lib.itoa_length_le n h0 h1
  have:=Any.strconv_ParseInt_10_at64_ok Tryz.sPI ⟨(Lib.itoa n).toArray⟩ (by show(Lib.itoa n).toArray.size<=_;rw[A0y];omega) n (Tr n h0 h1) w
  exact this.mono fun e w' ⟨he,hw⟩=>⟨he,by
   rcases hw with rfl|⟨t,rfl⟩
   ·exact Below.refl _ _
   ·exact Lib.below_freeze ((Below.drew (Below.refl _ w)).alloc (A08 _) _) (p:=⟨w.heap.size,_,none⟩) (A08 _) 1⟩⟩
def puF(c:Nat)(l:List SN):List UInt8:=EF (tv (puO c l))
theorem tv_pos(c:Nat)(l:List SN):0<(tv (puO c l)).length:=by
 have:tv (puO c l)=123::(DC ((puO c l).obj.map tvm)++[125]):=by rw[FW];rfl
 rw[this];simp
theorem SB(c:Nat)(l:List SN)(h:Hk c l):A0 prog 5 [.agg (Fl c l)] (.tup [.slice ((puF c l).map byD) false,.val (.int .i64 0)]):=by
 have hM:=ZJ c l h
 have hO:=WH c l h
 have hT:=QD c l h
 have hz:=PO c l h
 have hF:=c_Frame (tv (puO c l)) (by omega) (tv_pos c l)
 change A0 _ _ _ (.tup [.slice ((puF c l).map byD) false,_]) at hF
 have hc:=conv_sb (P:=prog) (a:=9) (b:=36) (e:=5) underlying9 underlying36 underlying5 ⟨(tv (puO c l)).toArray⟩ (by show(tv (puO c l)).toArray.size<=_;rw[A0y];omega)
 have oF:=AN (puF c l)
 have oT:=AN (tv (puO c l))
 have oL:A3 ((l.map snN).map Bl)=true:=DL _
 unfold Qp at hT
 obtain⟨u1,u2,u3,u4⟩:=An (puO c l)
 generalize puF c l=F at*
 generalize tv (puO c l)=x at*
 generalize A4 (puO c l)=V at*
 unfold Fl at*
 generalize(l.map snN).map Bl=L at*
 refine Zf [] func5 rfl ntmps5 results5 ?_
 (have z:=Za u1<|Za u2<|Za u3<|Za u4<|Za oF<|Za oT oL;(try push_cast[z])<;>repeat' (first|apply Zi<;>intro _|refine Zc hM ?_|refine Zc hO ?_|refine Zc hT ?_|refine Zc hF ?_|exact Zo|with_reducible apply Za|((with_reducible show A1 _ _ _ _ _ _ _ _);refine A1.conv (hc) (by first|exact .inl rfl|exact .inr ⟨_,_,_,rfl,rfl,rfl⟩) (by first|(push_cast[z];done)|((try push_cast[z]);rfl)) ?_)<;>try push_cast[z]|fail)<;>try push_cast[z])
 all_goals first|omega|skip
 all_goals trace_state
theorem c_open(hU:HA)(c:Nat)(l:List SN)(h:Hk c l):A0 prog 34 [.slice ((puF c l).map byD) false] (.tup [.agg (A4 (puO c l)),.val (.int .i64 0)]):=by
 have hz:=PO c l h
 have hB:=c_Body (tv (puO c l)) (by omega)
 change A0 _ _ [_,.slice ((puF c l).map byD) false] _ at hB
 have hX:=c_Exact 5 (tv (puO c l)) (puO c l) (v_puO hU pint_ok c l h) (by omega) (by omega) (QD c l h)
 have hc:=conv_bs (P:=prog) (a:=36) (b:=9) (e:=5) underlying36 underlying5 underlying9 (tv (puO c l)) false
 have oF:=AN (puF c l)
 have oT:=AN (tv (puO c l))
 obtain⟨u1,u2,u3,u4⟩:=An (puO c l)
 generalize puF c l=F at*
 generalize tv (puO c l)=x at*
 generalize A4 (puO c l)=V at*
 refine Zf [] func34 rfl ntmps34 results34 ?_
 (have z:=Za u1<|Za u2<|Za u3<|Za u4<|Za oF oT;(try push_cast[z])<;>repeat' (first|apply Zi<;>intro _|refine Zc hB ?_|refine Zc hX ?_|exact Zo|with_reducible apply Za|((with_reducible show A1 _ _ _ _ _ _ _ _);refine A1.conv (hc) (by first|exact .inl rfl|exact .inr ⟨_,_,_,rfl,rfl,rfl⟩) (by first|(push_cast[z];done)|((try push_cast[z]);rfl)) ?_)<;>try push_cast[z]|fail)<;>try push_cast[z])
 all_goals first|omega|skip
 all_goals trace_state
theorem c_is(v:GV):A2 prog 119 [.ref 1 0 0 23,.agg (A4 v),.val (.int .i64 v.kind)] [] (.val (.bool true)) []:=by
 rw[A7]
 refine Zd [] func119 rfl ntmps119 results119 ?_
 ((try push_cast)<;>repeat' (first|apply Zi<;>intro _|exact Zp|with_reducible apply Za)<;>try push_cast)
 apply Zw<;>push_cast
theorem K6(n:Nat)(h:BI n):A2 prog 120 [.ref 1 0 0 23,.agg (A4 (vI n))] [] (.val (.int .u64 n)) []:=by
 have hI:=c_is (vI n)
 have w1:IntKind.u64.wrap (n:Int)=n:=by have:=h.2;simp[IntKind.wrap,IntKind.bits,IntKind.signed];omega
 rw[RW] at*
 change A2 _ _ [_,_,.val (.int .i64 3)] _ _ _ at hI
 refine Zd [] func120 rfl ntmps120 results120 ?_
 (have z:=w1;(try push_cast[z])<;>repeat' (first|apply Zi<;>intro _|refine Zs [(1,1)] hI ?_|exact Zo|with_reducible apply Za)<;>try push_cast[z])
 apply Zw<;>push_cast
abbrev rdR(c:Nat)(l:D)(i:Nat)(U:List D):Blk:=.rows [.val (.int .i64 0):: .val (.int .u64 c)::l:: .val (.int .u64 i)::U] 23
abbrev ptF(f:Nat):D:=.func (.func f) [.ref 1 0 0 23] []
theorem P3(k1 k2:ByteArray)(v u:GV)(f1 f2:Nat)(c0 c1 c2 i0 i1 i2:Nat)(l0 l1 l2:List (List D))(t0 t1 t2:Bool)(U0 U1 U2:List D)(p0:A3 l0=true)(p1:A3 l1=true)(p2:A3 l2=true)(q0:Af U0=true)(q1:Af U1=true)(q2:Af U2=true)
  (h1:A2 prog f1 [.ref 1 0 0 23,.agg (A4 v)] [(1,rdR c0 (.slice l0 t0) i0 U0)] (.tup []) [(1,rdR c1 (.slice l1 t1) i1 U1)]) (h2:A2 prog f2 [.ref 1 0 0 23,.agg (A4 u)] [(1,rdR c1 (.slice l1 t1) i1 U1)] (.tup []) [(1,rdR c2 (.slice l2 t2) i2 U2)]):
  A2 prog 69 [.ref 1 0 0 23,.agg (A4 (vO [(k1,v),(k2,u)])),.sref 3 0 2 2 2] [(1,rdR c0 (.slice l0 t0) i0 U0),(3,.rows [[.val (.string k1),ptF f1],[.val (.string k2),ptF f2]] 2)] (.tup []) [(1,rdR c2 (.slice l2 t2) i2 U2)]:=by
 have hI:=c_is (vO [(k1,v),(k2,u)])
 rw[M1] at*
 change A2 _ _ [_,_,.val (.int .i64 6)] _ _ _ at hI
 simp only[A0j,A0G,Ah] at*
 obtain⟨x1,x2,x3,x4⟩:=An v
 obtain⟨y1,y2,y3,y4⟩:=An u
 generalize A4 v=V at*
 generalize A4 u=W at*
 have w1:IntKind.i64.wrap 1=1:=by decide
 have w2:IntKind.i64.wrap 2=2:=by decide
 refine Zd [] func69 rfl ntmps69 results69 ?_
 (have z:=Za x1<|Za x2<|Za x3<|Za x4<|Za y1<|Za y2<|Za y3<|Za y4<|Za p0<|Za p1<|Za p2<|Za q0<|Za q1 q2;(try push_cast[z])<;>repeat' (first|apply Zi<;>intro _|refine Zs [(1,1)] hI ?_|exact Zo|with_reducible apply Za)<;>try push_cast[z])
 all_goals first|omega|skip
 refine Zl (fun i=>i<=2) (fun i=>⟨[(25,.val (.int .i64 i)),(24,.val (.int .i64 2)),(23,.sref 3 0 2 2 2),(0,.ref 1 0 0 23),(2,.sref 3 0 2 2 2),(4,.ref 8 0 0 6)],[(1,rdR c0 (.slice l0 t0) i0 U0),(3,.rows [[.val (.string k1),ptF f1],[.val (.string k2),ptF f2]] 2),(8,vB 6 (.slice [] false) (.slice [.val (.string k1)::V,.val (.string k2)::W] false))],400⟩) (fun i=>2-i) 0 (by simp) ?_ fun i hi=>?_
 ·apply Zw<;>push_cast [x1,y1,p0,q0]
  all_goals first|rfl|trace_state
 ·obtain rfl|rfl|rfl:i=0∨i=1∨i=2:=by omega
  ·simp only[Int.ofNat_zero,Int.natCast_zero]
   (have z:=Za x1<|Za x2<|Za x3<|Za x4<|Za y1<|Za y2<|Za y3<|Za y4<|Za p0<|Za p1<|Za p2<|Za q0<|Za q1<|Za q2<|Za w1 w2;(try push_cast[z])<;>repeat' (first|apply Zi<;>intro _|exact Zo|with_reducible apply Za)<;>try push_cast[z])
   all_goals first|omega|skip
   refine⟨1,by decide,by decide,?_⟩
   apply Zw<;>push_cast [x1,y1,p0,q0,w1,w2]
   all_goals first|rfl|trace_state
  ·(have z:=Za x1<|Za x2<|Za x3<|Za x4<|Za y1<|Za y2<|Za y3<|Za y4<|Za p0<|Za p1<|Za p2<|Za q0<|Za q1<|Za q2<|Za w1 w2;(try push_cast[z])<;>repeat' (first|apply Zi<;>intro _|exact Zo|with_reducible apply Za)<;>try push_cast[z])
   all_goals first|omega|skip
   refine⟨2,by decide,by decide,?_⟩
   apply Zw<;>push_cast [x1,y1,p0,q0,w1,w2]
   all_goals first|rfl|trace_state
  ·(have z:=Za x1<|Za x2<|Za x3<|Za x4<|Za y1<|Za y2<|Za y3<|Za y4<|Za p0<|Za p1<|Za p2<|Za q0<|Za q1<|Za q2<|Za w1 w2;(try push_cast[z])<;>repeat' (first|apply Zi<;>intro _|exact Zo|with_reducible apply Za)<;>try push_cast[z])
   all_goals first|omega|skip
   refine Zl (fun i=>i<=2) (fun i=>match i with
    |0=>⟨[(45,.val (.int .i64 0)),(44,.val (.int .i64 2)),(43,.sref 3 0 2 2 2),(0,.ref 1 0 0 23),(4,.ref 8 0 0 6)],[(1,rdR c0 (.slice l0 t0) i0 U0),(3,.rows [[.val (.string k1),ptF f1],[.val (.string k2),ptF f2]] 2),(8,vB 6 (.slice [] false) (.slice [.val (.string k1)::V,.val (.string k2)::W] false))],600⟩
    |1=>⟨[(45,.val (.int .i64 1)),(44,.val (.int .i64 2)),(43,.sref 3 0 2 2 2),(0,.ref 1 0 0 23),(4,.ref 8 0 0 6)],[(1,rdR c1 (.slice l1 t1) i1 U1),(3,.rows [[.val (.string k1),ptF f1],[.val (.string k2),ptF f2]] 2),(8,vB 6 (.slice [] false) (.slice [.val (.string k1)::V,.val (.string k2)::W] false))],600⟩
    |_=>⟨[(45,.val (.int .i64 2)),(44,.val (.int .i64 2)),(43,.sref 3 0 2 2 2),(0,.ref 1 0 0 23),(4,.ref 8 0 0 6)],[(1,rdR c2 (.slice l2 t2) i2 U2),(3,.rows [[.val (.string k1),ptF f1],[.val (.string k2),ptF f2]] 2),(8,vB 6 (.slice [] false) (.slice [.val (.string k1)::V,.val (.string k2)::W] false))],600⟩) (fun i=>2-i) 0 (by simp) ?_ fun i hi=>?_
   ·apply Zw<;>push_cast [x1,y1,p0,q0,p1,q1,p2,q2,w1,w2]
    all_goals first|rfl|trace_state
   ·obtain rfl|rfl|rfl:i=0∨i=1∨i=2:=by omega
    ·simp only
     (have z:=Za x1<|Za x2<|Za x3<|Za x4<|Za y1<|Za y2<|Za y3<|Za y4<|Za p0<|Za p1<|Za p2<|Za q0<|Za q1<|Za q2<|Za w1 w2;(try push_cast[z])<;>repeat' (first|apply Zi<;>intro _|refine Zt [(1,1)] h1 ?_|exact Zo|with_reducible apply Za)<;>try push_cast[z])
     all_goals first|omega|skip
     refine⟨1,by decide,by decide,?_⟩
     simp only
     apply Zw<;>push_cast [x1,y1,p0,q0,p1,q1,p2,q2,w1,w2]
     all_goals first|rfl|trace_state
    ·simp only
     (have z:=Za x1<|Za x2<|Za x3<|Za x4<|Za y1<|Za y2<|Za y3<|Za y4<|Za p0<|Za p1<|Za p2<|Za q0<|Za q1<|Za q2<|Za w1 w2;(try push_cast[z])<;>repeat' (first|apply Zi<;>intro _|refine Zt [(1,1)] h2 ?_|exact Zo|with_reducible apply Za)<;>try push_cast[z])
     all_goals first|omega|skip
     refine⟨2,by decide,by decide,?_⟩
     simp only
     apply Zw<;>push_cast [x1,y1,p0,q0,p1,q1,p2,q2,w1,w2]
     all_goals first|rfl|trace_state
    ·simp only
     (have z:=Za x1<|Za x2<|Za x3<|Za x4<|Za y1<|Za y2<|Za y3<|Za y4<|Za p0<|Za p1<|Za p2<|Za q0<|Za q1<|Za q2<|Za w1 w2;(try push_cast[z])<;>repeat' (first|apply Zi<;>intro _|exact Zo|with_reducible apply Za)<;>try push_cast[z])
     all_goals first|omega|skip
     apply Zw<;>push_cast [x1,y1,p0,q0,p1,q1,p2,q2,w1,w2]
theorem Ue(k1 k2:ByteArray)(v u:GV)(f1 f2:Nat)(c0 c1 c2 i0 i1 i2:Nat)(n:Nat)(G:List (List D))(U0 U1 U2:List D)(p0:A3 G=true)(q0:Af U0=true)(q1:Af U1=true)(q2:Af U2=true)
  (h1:A2 prog f1 [.ref 1 0 0 23,.agg (A4 v)] [(1,rdR c0 (.gref 4 n) i0 U0),(4,.grow G 20)] (.tup []) [(1,rdR c1 (.gref 4 n) i1 U1),(4,.grow G 20)]) (h2:A2 prog f2 [.ref 1 0 0 23,.agg (A4 u)] [(1,rdR c1 (.gref 4 n) i1 U1),(4,.grow G 20)] (.tup []) [(1,rdR c2 (.gref 4 n) i2 U2),(4,.grow G 20)]):
  A2 prog 69 [.ref 1 0 0 23,.agg (A4 (vO [(k1,v),(k2,u)])),.sref 3 0 2 2 2] [(1,rdR c0 (.gref 4 n) i0 U0),(4,.grow G 20),(3,.rows [[.val (.string k1),ptF f1],[.val (.string k2),ptF f2]] 2)] (.tup []) [(1,rdR c2 (.gref 4 n) i2 U2),(4,.grow G 20)]:=by
 have hI:=c_is (vO [(k1,v),(k2,u)])
 rw[M1] at*
 change A2 _ _ [_,_,.val (.int .i64 6)] _ _ _ at hI
 simp only[A0j,A0G,Ah] at*
 obtain⟨x1,x2,x3,x4⟩:=An v
 obtain⟨y1,y2,y3,y4⟩:=An u
 generalize A4 v=V at*
 generalize A4 u=W at*
 have w1:IntKind.i64.wrap 1=1:=by decide
 have w2:IntKind.i64.wrap 2=2:=by decide
 refine Zd [] func69 rfl ntmps69 results69 ?_
 (have z:=Za x1<|Za x2<|Za x3<|Za x4<|Za y1<|Za y2<|Za y3<|Za y4<|Za p0<|Za q0<|Za q1 q2;(try push_cast[z])<;>repeat' (first|apply Zi<;>intro _|refine Zs [(1,1)] hI ?_|exact Zo|with_reducible apply Za)<;>try push_cast[z])
 all_goals first|omega|skip
 refine Zl (fun i=>i<=2) (fun i=>⟨[(25,.val (.int .i64 i)),(24,.val (.int .i64 2)),(23,.sref 3 0 2 2 2),(0,.ref 1 0 0 23),(2,.sref 3 0 2 2 2),(4,.ref 8 0 0 6)],[(1,rdR c0 (.gref 4 n) i0 U0),(4,.grow G 20),(3,.rows [[.val (.string k1),ptF f1],[.val (.string k2),ptF f2]] 2),(8,vB 6 (.slice [] false) (.slice [.val (.string k1)::V,.val (.string k2)::W] false))],400⟩) (fun i=>2-i) 0 (by simp) ?_ fun i hi=>?_
 ·apply Zw<;>push_cast [x1,y1,p0,q0]
  all_goals first|rfl|trace_state
 ·obtain rfl|rfl|rfl:i=0∨i=1∨i=2:=by omega
  ·simp only[Int.ofNat_zero,Int.natCast_zero]
   (have z:=Za x1<|Za x2<|Za x3<|Za x4<|Za y1<|Za y2<|Za y3<|Za y4<|Za p0<|Za q0<|Za q1<|Za q2<|Za w1 w2;(try push_cast[z])<;>repeat' (first|apply Zi<;>intro _|exact Zo|with_reducible apply Za)<;>try push_cast[z])
   all_goals first|omega|skip
   refine⟨1,by decide,by decide,?_⟩
   apply Zw<;>push_cast [x1,y1,p0,q0,w1,w2]
   all_goals first|rfl|trace_state
  ·(have z:=Za x1<|Za x2<|Za x3<|Za x4<|Za y1<|Za y2<|Za y3<|Za y4<|Za p0<|Za q0<|Za q1<|Za q2<|Za w1 w2;(try push_cast[z])<;>repeat' (first|apply Zi<;>intro _|exact Zo|with_reducible apply Za)<;>try push_cast[z])
   all_goals first|omega|skip
   refine⟨2,by decide,by decide,?_⟩
   apply Zw<;>push_cast [x1,y1,p0,q0,w1,w2]
   all_goals first|rfl|trace_state
  ·(have z:=Za x1<|Za x2<|Za x3<|Za x4<|Za y1<|Za y2<|Za y3<|Za y4<|Za p0<|Za q0<|Za q1<|Za q2<|Za w1 w2;(try push_cast[z])<;>repeat' (first|apply Zi<;>intro _|exact Zo|with_reducible apply Za)<;>try push_cast[z])
   all_goals first|omega|skip
   refine Zl (fun i=>i<=2) (fun i=>match i with
    |0=>⟨[(45,.val (.int .i64 0)),(44,.val (.int .i64 2)),(43,.sref 3 0 2 2 2),(0,.ref 1 0 0 23),(4,.ref 8 0 0 6)],[(1,rdR c0 (.gref 4 n) i0 U0),(4,.grow G 20),(3,.rows [[.val (.string k1),ptF f1],[.val (.string k2),ptF f2]] 2),(8,vB 6 (.slice [] false) (.slice [.val (.string k1)::V,.val (.string k2)::W] false))],600⟩
    |1=>⟨[(45,.val (.int .i64 1)),(44,.val (.int .i64 2)),(43,.sref 3 0 2 2 2),(0,.ref 1 0 0 23),(4,.ref 8 0 0 6)],[(1,rdR c1 (.gref 4 n) i1 U1),(4,.grow G 20),(3,.rows [[.val (.string k1),ptF f1],[.val (.string k2),ptF f2]] 2),(8,vB 6 (.slice [] false) (.slice [.val (.string k1)::V,.val (.string k2)::W] false))],600⟩
    |_=>⟨[(45,.val (.int .i64 2)),(44,.val (.int .i64 2)),(43,.sref 3 0 2 2 2),(0,.ref 1 0 0 23),(4,.ref 8 0 0 6)],[(1,rdR c2 (.gref 4 n) i2 U2),(4,.grow G 20),(3,.rows [[.val (.string k1),ptF f1],[.val (.string k2),ptF f2]] 2),(8,vB 6 (.slice [] false) (.slice [.val (.string k1)::V,.val (.string k2)::W] false))],600⟩) (fun i=>2-i) 0 (by simp) ?_ fun i hi=>?_
   ·apply Zw<;>push_cast [x1,y1,p0,q0,q1,q2,w1,w2]
    all_goals first|rfl|trace_state
   ·obtain rfl|rfl|rfl:i=0∨i=1∨i=2:=by omega
    ·simp only
     (have z:=Za x1<|Za x2<|Za x3<|Za x4<|Za y1<|Za y2<|Za y3<|Za y4<|Za p0<|Za q0<|Za q1<|Za q2<|Za w1 w2;(try push_cast[z])<;>repeat' (first|apply Zi<;>intro _|refine Zt [(1,1),(4,4)] h1 ?_|exact Zo|with_reducible apply Za)<;>try push_cast[z])
     all_goals first|omega|skip
     refine⟨1,by decide,by decide,?_⟩
     simp only
     apply Zr [(4,1324)] rfl<;>push_cast [x1,y1,p0,q0,q1,q2,w1,w2]
     all_goals first|rfl|trace_state
    ·simp only
     (have z:=Za x1<|Za x2<|Za x3<|Za x4<|Za y1<|Za y2<|Za y3<|Za y4<|Za p0<|Za q0<|Za q1<|Za q2<|Za w1 w2;(try push_cast[z])<;>repeat' (first|apply Zi<;>intro _|refine Zt [(1,1),(4,4)] h2 ?_|exact Zo|with_reducible apply Za)<;>try push_cast[z])
     all_goals first|omega|skip
     refine⟨2,by decide,by decide,?_⟩
     simp only
     apply Zr [(4,1324)] rfl<;>push_cast [x1,y1,p0,q0,q1,q2,w1,w2]
     all_goals first|rfl|trace_state
    ·simp only
     (have z:=Za x1<|Za x2<|Za x3<|Za x4<|Za y1<|Za y2<|Za y3<|Za y4<|Za p0<|Za q0<|Za q1<|Za q2<|Za w1 w2;(try push_cast[z])<;>repeat' (first|apply Zi<;>intro _|exact Zo|with_reducible apply Za)<;>try push_cast[z])
     all_goals first|omega|skip
     apply Zw<;>push_cast [x1,y1,p0,q0,q1,q2,w1,w2]
theorem Xb(c c0 i:Nat)(h:BI c)(l:List (List D))(t:Bool)(U:List D)(p:A3 l=true)(q:Af U=true):A2 prog 70 [.ref 1 0 0 23,.agg (A4 (vI c))] [(1,rdR c0 (.slice l t) i U)] (.tup []) [(1,rdR c (.slice l t) i U)]:=by
 have hN:=K6 c h
 obtain⟨x1,x2,x3,x4⟩:=An (vI c)
 generalize A4 (vI c)=V at*
 refine Zd [] func70 rfl ntmps70 results70 ?_
 (have z:=Za p<|Za q<|Za x1<|Za x2<|Za x3 x4;(try push_cast[z])<;>repeat' (first|apply Zi<;>intro _|refine Zs [(1,1)] hN ?_|exact Zo|with_reducible apply Za)<;>try push_cast[z])
 all_goals first|omega|skip
 apply Zw<;>push_cast [p,q,x1]
theorem c_rId(c i i0:Nat)(h:BI i)(l:List (List D))(t:Bool)(U:List D)(p:A3 l=true)(q:Af U=true):A2 prog 122 [.ref 1 0 0 23,.agg (A4 (vI i))] [(1,rdR c (.slice l t) i0 U)] (.tup []) [(1,rdR c (.slice l t) i U)]:=by
 have hN:=K6 i h
 obtain⟨x1,x2,x3,x4⟩:=An (vI i)
 generalize A4 (vI i)=V at*
 refine Zd [] func122 rfl ntmps122 results122 ?_
 (have z:=Za p<|Za q<|Za x1<|Za x2<|Za x3 x4;(try push_cast[z])<;>repeat' (first|apply Zi<;>intro _|refine Zs [(1,1)] hN ?_|exact Zo|with_reducible apply Za)<;>try push_cast[z])
 all_goals first|omega|skip
 apply Zw<;>push_cast [p,q,x1]
theorem c_rIdG(c i i0 n:Nat)(h:BI i)(G:List (List D))(U:List D)(p:A3 G=true)(q:Af U=true):A2 prog 122 [.ref 1 0 0 23,.agg (A4 (vI i))] [(1,rdR c (.gref 4 n) i0 U),(4,.grow G 20)] (.tup []) [(1,rdR c (.gref 4 n) i U),(4,.grow G 20)]:=by
 have hN:=K6 i h
 obtain⟨x1,x2,x3,x4⟩:=An (vI i)
 generalize A4 (vI i)=V at*
 refine Zd [] func122 rfl ntmps122 results122 ?_
 (have z:=Za p<|Za q<|Za x1<|Za x2<|Za x3 x4;(try push_cast[z])<;>repeat' (first|apply Zi<;>intro _|refine Zs [(1,1)] hN ?_|exact Zo|with_reducible apply Za)<;>try push_cast[z])
 all_goals first|omega|skip
 apply Zw<;>push_cast [p,q,x1]
def XA:Prop:=∀ m:SMu,m.ok->A0 prog 188 [.agg (A4 m.o)] (.tup [.agg (Ap m.m),.val (.int .i64 0)])
theorem c_rMut(hO:XA)(m:SMu)(hm:m.ok)(c i:Nat)(l:List (List D))(t:Bool)(U:List D)(p:A3 l=true)(q:Af U=true)(q2:U.length=19):A2 prog 123 [.ref 1 0 0 23,.agg (A4 m.o)] [(1,rdR c (.slice l t) i U)] (.tup []) [(1,rdR c (.slice l t) i (Ap m.m))]:=by
 have hF:=hO m hm
 obtain⟨x1,x2,x3,x4⟩:=An m.o
 obtain⟨y1,y2,y3,y4⟩:=H7 m.m
 have q5:U.drop 19=[]:=A0m (by omega)
 generalize A4 m.o=V at*
 generalize Ap m.m=W at*
 refine Zd [] func123 rfl ntmps123 results123 ?_
 (have z:=Za p<|Za q<|Za q2<|Za q5<|Za x1<|Za x2<|Za x3<|Za x4<|Za y1<|Za y2<|Za y3 y4;(try push_cast[z])<;>repeat' (first|apply Zi<;>intro _|refine Zc hF ?_|exact Zo|with_reducible apply Za)<;>try push_cast[z])
 all_goals first|omega|skip
 apply Zw<;>push_cast [p,q,x1,y1,y2,q5,A0R]
theorem c_rMutG(hO:XA)(m:SMu)(hm:m.ok)(c i n:Nat)(G:List (List D))(U:List D)(p:A3 G=true)(q:Af U=true)(q2:U.length=19):A2 prog 123 [.ref 1 0 0 23,.agg (A4 m.o)] [(1,rdR c (.gref 4 n) i U),(4,.grow G 20)] (.tup []) [(1,rdR c (.gref 4 n) i (Ap m.m)),(4,.grow G 20)]:=by
 have hF:=hO m hm
 obtain⟨x1,x2,x3,x4⟩:=An m.o
 obtain⟨y1,y2,y3,y4⟩:=H7 m.m
 have q5:U.drop 19=[]:=A0m (by omega)
 generalize A4 m.o=V at*
 generalize Ap m.m=W at*
 refine Zd [] func123 rfl ntmps123 results123 ?_
 (have z:=Za p<|Za q<|Za q2<|Za q5<|Za x1<|Za x2<|Za x3<|Za x4<|Za y1<|Za y2<|Za y3 y4;(try push_cast[z])<;>repeat' (first|apply Zi<;>intro _|refine Zc hF ?_|exact Zo|with_reducible apply Za)<;>try push_cast[z])
 all_goals first|omega|skip
 apply Zw<;>push_cast [p,q,x1,y1,y2,q5,A0R]
def itR(c:Nat)(L:List SN):Nat->Hp
 |0=>[(1,rdR c (.slice [] true) 0 (Ap (GM.mk 0 ByteArray.empty ByteArray.empty 0 false zV false zV [])))]
 |j+1=>[(1,rdR c (.gref 4 (j+1)) (L.getD j zS).1 (Ap (L.getD j zS).2.m)),(4,.grow ((L.take (j+1)).map fun x=>Bl (snN x)) 20)]
def itH(a b:Code)(c:Nat)(L:List SN)(i:Nat):Hp:=(7,.loop [(2,.ptr [.ref 1 0 0 23] 0)] 46 .ready none [11] a b)::itR c L i
theorem Jf(a b:Code)(c:Nat)(L:List SN):itH a b c L 0=[(7,.loop [(2,.ptr [.ref 1 0 0 23] 0)] 46 .ready none [11] a b),(1,rdR c (.slice [] true) 0 (Ap (GM.mk 0 ByteArray.empty ByteArray.empty 0 false zV false zV [])))]:=rfl
theorem Du(a b:Code)(c:Nat)(L:List SN)(j:Nat):itH a b c L (j+1)=[(7,.loop [(2,.ptr [.ref 1 0 0 23] 0)] 46 .ready none [11] a b),(1,rdR c (.gref 4 (j+1)) (L.getD j zS).1 (Ap (L.getD j zS).2.m)),(4,.grow ((L.take (j+1)).map fun x=>Bl (snN x)) 20)]:=rfl
theorem c_items(V:List D)(x1:Af V=true)(x2:V.length=6)(x3:V.all Bc=true):A0 prog 121 [.agg V] (.func (.func 187) [] [.ptr V 0]):=by
 refine Zf [0] func121 rfl ntmps121 results121 ?_
 (have z:=Za x1<|Za x2 x3;(try push_cast[z])<;>repeat' (first|apply Zi<;>intro _|exact Zo|with_reducible apply Za)<;>try push_cast[z])
theorem Sy{a b:Code}(c:Nat)(L:List SN)(hl:L.length<=64)(hY:∀ i,i<L.length->Dx prog 7 [.agg (A4 (snO (L.getD i zS)))] (itH a b c L i) (.val (.bool true)) (itH a b c L (i+1))):
  A2 prog 187 [.yld 7,.ptr (A4 (vL (L.map snO))) 0] (itH a b c L 0) (.tup []) (itH a b c L L.length):=by
 rw[ZV]
 have oL:=Fm (L.map snO)
 have e0:((L.map snO).map A4).length=L.length:=by simp
 have e1:∀ i,i<L.length->nr ((L.map snO).map A4) i=A4 (snO (L.getD i zS)):=fun i hi=>by
  simp[nr,A02,hi]
 generalize(L.map snO).map A4=X at*
 have z1:=Au (GM.mk 0 ByteArray.empty ByteArray.empty 0 false zV false zV [])
 conv=>arg 4;rw[Jf]
 refine Zd [] func187 rfl ntmps187 results187 ?_
 (have z:=Za oL<|Za e0 z1;(try push_cast[z])<;>repeat' (first|apply Zi<;>intro _|exact Zo|with_reducible apply Za)<;>try push_cast[z])
 all_goals first|omega|skip
 refine Zl (fun i=>i<=L.length) (fun i=>⟨[(8,.val (.int .i64 i)),(7,.val (.int .i64 L.length)),(6,.slice X false),(0,.yld 7)],itH a b c L i,400⟩) (fun i=>L.length-i) 0 (by simp) ?_ fun i hi=>?_
 ·rw[Jf]
  apply Zw<;>push_cast [oL,z1]
 ·by_cases h4:i<L.length
  ·have e2:=e1 i h4
   have hy:=hY i h4
   have b1:decide ((i:Int)<L.length)=true:=decide_eq_true (by omega)
   have w1:IntKind.i64.wrap (↑i+1)=↑i+1:=Aa (by omega) (by omega)
   obtain⟨x1,x2,x3,x4⟩:=An (snO (L.getD i zS))
   generalize A4 (snO (L.getD i zS))=V at*
   cases i with
   |zero=>
    rw[Du] at hy
    rw[Jf] at*
    have y1:=Au (L.getD 0 zS).2.m
    have t1:A3 ((L.take (0+1)).map fun x=>Bl (snN x))=true:=Ar (fun x=>Cq (snN x)) _
    have b0:decide ((0:Int)<L.length)=true:=decide_eq_true (by omega)
    have w0:IntKind.i64.wrap 1=1:=by decide
    (have z:=Za oL<|Za e0<|Za z1<|Za e2<|Za b0<|Za w0<|Za x1<|Za x2<|Za x3<|Za x4<|Za y1 t1;(try push_cast[z])<;>repeat' (first|apply Zi<;>intro _|exact Zo|with_reducible apply Za|(with_reducible show A1 _ _ _ _ _ _ _ _;refine A1.yield 7 (BG [(7,7),(1,1)]) rfl ?_ (by(try push_cast[z]);exact hy ..) ?_ (by first|exact .inl rfl|exact .inr ⟨_,_,_,rfl,rfl,rfl⟩) ?_ ?_ ?_ ?_;(· push_cast[z]);(· push_cast[z]<;>(with_unfolding_all exact A9 _));(· push_cast[z]<;>(with_unfolding_all exact A9 _));(· push_cast[z]<;>(with_unfolding_all exact A9 _));(· push_cast[z]<;>(with_unfolding_all exact A9 _));try push_cast[z])|fail)<;>try push_cast[z])
    all_goals first|omega|skip
    refine⟨1,h4,by omega,?_⟩
    rw[Du]
    apply Zr [(4,860)] rfl<;>push_cast [y1,t1,oL]
    all_goals first|rfl|trace_state
   |succ j=>
    rw[Du] at hy
    rw[Du] at hy
    rw[Du] at*
    have y0:=Au (L.getD j zS).2.m
    have y1:=Au (L.getD (j+1) zS).2.m
    have t0:A3 ((L.take (j+1)).map fun x=>Bl (snN x))=true:=Ar (fun x=>Cq (snN x)) _
    have t1:A3 ((L.take (j+1+1)).map fun x=>Bl (snN x))=true:=Ar (fun x=>Cq (snN x)) _
    have b0:decide ((↑j+1:Int)<L.length)=true:=decide_eq_true (by omega)
    have w0:IntKind.i64.wrap (↑j+1+1)=↑j+1+1:=Aa (by omega) (by omega)
    have w9:((↑j+1:Int)).toNat=j+1:=by omega
    (have z:=Za oL<|Za e0<|Za z1<|Za e2<|Za b0<|Za w0<|Za w9<|Za x1<|Za x2<|Za x3<|Za x4<|Za y0<|Za y1<|Za t0 t1;(try push_cast[z])<;>repeat' (first|apply Zi<;>intro _|exact Zo|with_reducible apply Za|(with_reducible show A1 _ _ _ _ _ _ _ _;refine A1.yield 7 (BG [(7,7),(1,1),(4,4)]) rfl ?_ (by(try push_cast[z]);exact hy ..) ?_ (by first|exact .inl rfl|exact .inr ⟨_,_,_,rfl,rfl,rfl⟩) ?_ ?_ ?_ ?_;(· push_cast[z]);(· push_cast[z]<;>(with_unfolding_all exact A9 _));(· push_cast[z]<;>(with_unfolding_all exact A9 _));(· push_cast[z]<;>(with_unfolding_all exact A9 _));(· push_cast[z]<;>(with_unfolding_all exact A9 _));try push_cast[z])|fail)<;>try push_cast[z])
    all_goals first|omega|skip
    refine⟨j+1+1,h4,by omega,?_⟩
    rw[Du]
    apply Zr [(4,860)] rfl<;>push_cast [y1,t1,oL]
    all_goals first|rfl|trace_state
  ·obtain rfl:i=L.length:=by omega
   have b0:decide ((L.length:Int)<L.length)=false:=decide_eq_false (by omega)
   cases hn:L.length with
   |zero=>
    rw[hn] at*
    rw[Jf]
    (have z:=Za oL<|Za e0<|Za z1 hn;(try push_cast[z])<;>repeat' (first|apply Zi<;>intro _|exact Zo|with_reducible apply Za)<;>try push_cast[z])
    apply Zw<;>push_cast [z1]
    all_goals first|rfl|trace_state
   |succ j=>
    rw[hn] at*
    rw[Du]
    have y0:=Au (L.getD j zS).2.m
    have t0:A3 ((L.take (j+1)).map fun x=>Bl (snN x))=true:=Ar (fun x=>Cq (snN x)) _
    have b1:decide ((↑j+1:Int)<↑j+1)=false:=decide_eq_false (by omega)
    (have z:=Za oL<|Za e0<|Za z1<|Za b1<|Za y0 t0;(try push_cast[z])<;>repeat' (first|apply Zi<;>intro _|exact Zo|with_reducible apply Za)<;>try push_cast[z])
    apply Zw<;>push_cast [y0,t0]
    all_goals first|rfl|trace_state
theorem c_itemsZ{a b:Code}(c:Nat)(L:List SN)(hn:L=[]):A2 prog 187 [.yld 7,.ptr (A4 (vL (L.map snO))) 0] ((7,.loop [(2,.ptr [.ref 1 0 0 23] 0)] 46 .ready none [11] a b)::[(1,rdR c (.slice [] true) 0 (Ap (GM.mk 0 ByteArray.empty ByteArray.empty 0 false zV false zV [])))]) (.tup []) ((7,.loop [(2,.ptr [.ref 1 0 0 23] 0)] 46 .ready none [11] a b)::[(1,rdR c (.slice [] true) 0 (Ap (GM.mk 0 ByteArray.empty ByteArray.empty 0 false zV false zV [])))]):=by
 subst hn
 exact Sy (a:=a) (b:=b) c [] (by simp) (fun i hi=>by simp at hi)
theorem c_itemsS{a b:Code}(c:Nat)(L:List SN)(hl:L.length<=64)(j:Nat)(hn:L.length=j+1)(hY:∀ i,i<L.length->Dx prog 7 [.agg (A4 (snO (L.getD i zS)))] (itH a b c L i) (.val (.bool true)) (itH a b c L (i+1))):
  A2 prog 187 [.yld 7,.ptr (A4 (vL (L.map snO))) 0] ((7,.loop [(2,.ptr [.ref 1 0 0 23] 0)] 46 .ready none [11] a b)::[(1,rdR c (.slice [] true) 0 (Ap (GM.mk 0 ByteArray.empty ByteArray.empty 0 false zV false zV [])))]) (.tup []) ((7,.loop [(2,.ptr [.ref 1 0 0 23] 0)] 46 .ready none [11] a b)::[(1,rdR c (.gref 4 (j+1)) (L.getD j zS).1 (Ap (L.getD j zS).2.m)),(4,.grow ((L.take (j+1)).map fun x=>Bl (snN x)) 20)]):=by
 have h:=Sy c L hl hY
 rw[hn] at h
 exact h
theorem KS:Ap (GM.mk 0 ByteArray.empty ByteArray.empty 0 false zV false zV [])=[.val (.int .i64 0),.val (.string ByteArray.empty),.val (.string ByteArray.empty),.val (.int .i64 0),.val (.bool false),.val (.int .i64 0),.val (.bool false),.val (.int .i64 0),.val (.string ByteArray.empty),.slice [] false,.slice [] false,.val (.bool false),.val (.int .i64 0),.val (.bool false),.val (.int .i64 0),.val (.string ByteArray.empty),.slice [] false,.slice [] false,.slice [] false]:=by
 rw[AY];rfl
theorem c_rList(hO:XA)(c:Nat)(L:List SN)(hl:L.length<=64)(hx:∀ x ∈ L,BI x.1/\x.2.ok):
  A2 prog 71 [.ref 1 0 0 23,.agg (A4 (vL (L.map snO)))] [(1,rdR c (.slice [] true) 0 (Ap (GM.mk 0 ByteArray.empty ByteArray.empty 0 false zV false zV [])))] (.tup []) [(1,rdR c (.slice (L.map fun x=>Bl (snN x)) false) (match L.length with|0=>0|j+1=>(L.getD j zS).1) (match L.length with|0=>Ap (GM.mk 0 ByteArray.empty ByteArray.empty 0 false zV false zV [])|j+1=>Ap (L.getD j zS).2.m))]:=by
 have hI:=c_is (vL (L.map snO))
 change A2 _ _ [_,_,.val (.int .i64 5)] _ _ _ at hI
 obtain⟨x1,x2,x3,x4⟩:=An (vL (L.map snO))
 have hT:=c_items (A4 (vL (L.map snO))) x1 x2 x3
 have z1:=Au (GM.mk 0 ByteArray.empty ByteArray.empty 0 false zV false zV [])
 refine A2.of_awpW func71 rfl ntmps71 (by kernel_rfl) (by simp) (congrArg Array.toList results71) ?_
 refine BA.seqV [8] mixed (by kernel_rfl) ?_
 (have z:=Za x1<|Za x2<|Za x3<|Za x4 z1;(try push_cast[z])<;>repeat' (first|apply Zi<;>intro _|exact Zo|with_reducible apply Za)<;>try push_cast[z])
 refine BA.seqV [] mixed (by kernel_rfl) ?_
 (have z:=Za x1<|Za x2<|Za x3<|Za x4 z1;(try push_cast[z])<;>repeat' (first|apply Zi<;>intro _|refine Zs [(1,1)] hI ?_|exact Zo|with_reducible apply Za)<;>try push_cast[z])
 refine BA.seqV [] mixed (by kernel_rfl) ?_
 (have z:=Za x1<|Za x2<|Za x3<|Za x4 z1;(try push_cast[z])<;>repeat' (first|apply Zi<;>intro _|refine Zc hT ?_|exact Zo|with_reducible apply Za)<;>try push_cast[z])
 refine BA.block ?_
 cases hn:L.length with
 |zero=>
  refine BA.range (y:=7) (BG [(7,72),(1,1)]) (env:=[(2,.ptr [.ref 1 0 0 23] 0)]) (ds:=[.yld 7,.ptr (A4 (vL (L.map snO))) 0]) rfl (c_itemsZ c L (A0x hn)) rfl rfl ?_ ?_ ?_ ?_ ?_ ?_ ?_
  ·push_cast[x1,x3]
  ·push_cast[x1]
  ·push_cast[C3]
  ·push_cast[B3,z1]
  ·push_cast[z1]
  ·push_cast[z1]
  ·have hn0:=A0x hn
   subst hn0
   push_cast[z1]
   apply Zw<;>push_cast [z1]
   all_goals first|rfl|exact id|trace_state
 |succ j=>
  have y0:=Au (L.getD j zS).2.m
  have t0:A3 ((L.take (j+1)).map fun x=>Bl (snN x))=true:=Ar (fun x=>Cq (snN x)) _
  refine BA.range (y:=7) (BG [(7,72),(1,1)]) (env:=[(2,.ptr [.ref 1 0 0 23] 0)]) (ds:=[.yld 7,.ptr (A4 (vL (L.map snO))) 0]) rfl (c_itemsS c L hl j hn ?hY) rfl rfl ?_ ?_ ?_ ?_ ?_ ?_ ?_
  case hY=>
   intro i hi
   obtain⟨g1,g2⟩:=hx _ (Ak (d:=zS) hi)
   have zl:=Bp (GM.mk 0 ByteArray.empty ByteArray.empty 0 false zV false zV [])
   obtain⟨v1,v2,v3,v4⟩:=An (snO (L.getD i zS))
   obtain⟨w1,w2,w3,w4⟩:=H7 (L.getD i zS).2.m
   cases i with
   |zero=>
    have hR:=P3 tId CR (vI (L.getD 0 zS).1) (L.getD 0 zS).2.o 122 123 c c c 0 (L.getD 0 zS).1 (L.getD 0 zS).1 [] [] [] true true true (Ap (GM.mk 0 ByteArray.empty ByteArray.empty 0 false zV false zV [])) (Ap (GM.mk 0 ByteArray.empty ByteArray.empty 0 false zV false zV [])) (Ap (L.getD 0 zS).2.m) rfl rfl rfl z1 z1 (Au _)
     (c_rId c _ 0 g1 [] true _ rfl z1) (c_rMut hO _ g2 c _ [] true _ rfl z1 zl)
    change A2 _ _ [_,.agg (A4 (snO (L.getD 0 zS))),_] _ _ _ at hR
    unfold itH itR
    refine Dx.of_awp (by decide) rfl (by decide) ?_
    simp only[A1D,A1M,A1i,A1K,A0h,A0d]
    refine Zy ?_
    (have z:=Za @Ef.eq_1<|Za v1<|Za v2<|Za v3<|Za v4 z1;(try push_cast[z])<;>repeat' (first|apply Zi<;>intro _|exact Zo|with_reducible apply Za)<;>try push_cast[z])
    refine Zy ?_
    rw[KS] at*
    (have z:=Za @Ee.eq_1<|Za v1<|Za v2<|Za v3<|Za v4<|Za w1<|Za w2<|Za w3 w4;(try push_cast[z])<;>repeat' (first|apply Zi<;>intro _|refine Zs [(1,1),(3,128)] hR ?_|exact Zo|with_reducible apply Za)<;>try push_cast[z])
    ·intro y hy;cases hy
    ·intro y hy;cases A0a.1 hy;rw[A0g,w2]
    ·have ht:(L.take (0+1)).map (fun x=>Bl (snN x))=[.val (.int .u64 ((L.getD 0 zS).1:Nat))::Ap (L.getD 0 zS).2.m]:=by
      cases L with
      |nil=>simp at hi
      |cons x l=>rfl
     rw[ht]
     apply Zr [(4,272)] rfl<;>push_cast [w1]
     all_goals first|rfl|trace_state
   |succ k=>
    have u0:=Au (L.getD k zS).2.m
    have ul:=Bp (L.getD k zS).2.m
    have u5:(Ap (L.getD k zS).2.m).drop 19=[]:=A0m (by rw[ul];exact A08 _)
    have r0:A3 ((L.take (k+1)).map fun x=>Bl (snN x))=true:=Ar (fun x=>Cq (snN x)) _
    have rl:((L.take (k+1)).map fun x=>Bl (snN x)).length=k+1:=by simp;omega
    have ra:∀ y ∈ (L.take (k+1)).map (fun x=>Bl (snN x)),y.length=20:=fun y hy=>by obtain⟨x,_,rfl⟩:=A0i.1 hy;exact KA _
    have ht:(L.take (k+1+1)).map (fun x=>Bl (snN x))=(L.take (k+1)).map (fun x=>Bl (snN x))++[.val (.int .u64 ((L.getD (k+1) zS).1:Nat))::Ap (L.getD (k+1) zS).2.m]:=by
     rw[List.take_add_one,A0F]
     simp[A02,A0b hi]
     rfl
    have hR:=Ue tId CR (vI (L.getD (k+1) zS).1) (L.getD (k+1) zS).2.o 122 123 c c c 0 (L.getD (k+1) zS).1 (L.getD (k+1) zS).1 (k+1) ((L.take (k+1)).map fun x=>Bl (snN x)) (Ap (GM.mk 0 ByteArray.empty ByteArray.empty 0 false zV false zV [])) (Ap (GM.mk 0 ByteArray.empty ByteArray.empty 0 false zV false zV [])) (Ap (L.getD (k+1) zS).2.m) r0 z1 z1 (Au _)
     (c_rIdG c _ 0 _ g1 _ _ r0 z1) (c_rMutG hO _ g2 c _ _ _ _ r0 z1 zl)
    change A2 _ _ [_,.agg (A4 (snO (L.getD (k+1) zS))),_] _ _ _ at hR
    rw[Du,Du,ht]
    refine Dx.of_awp (by decide) rfl (by decide) ?_
    simp only[A1D,A1M,A1i,A1K,A0h,A0d]
    refine Zy ?_
    (have z:=Za @Ef.eq_1<|Za v1<|Za v2<|Za v3<|Za v4<|Za z1<|Za u0<|Za u5 r0;(try push_cast[z])<;>repeat' (first|apply Zi<;>intro _|exact Zo|with_reducible apply Za)<;>try push_cast[z])
    refine Zy ?_
    rw[KS] at*
    (have z:=Za @Ee.eq_1<|Za v1<|Za v2<|Za v3<|Za v4<|Za w1<|Za w2<|Za w3<|Za w4<|Za u0<|Za ul<|Za u5<|Za r0 rl;(try push_cast[z])<;>repeat' (first|apply Zi<;>intro _|refine Zs [(1,1),(4,4),(3,128)] hR ?_|exact Zo|with_reducible apply Za)<;>try push_cast[z])
    ·omega
    ·omega
    ·intro y hy;cases A0a.1 hy;rw[A0g,w2]
    ·intro z hz d hd
     cases A0a.1 hz
     rcases A0q.1 hd with rfl|hd
     ·rfl
     ·exact A0w.1 w3 d hd
    ·apply Zr [(4,272)] rfl<;>push_cast [w1,r0,rl]
     all_goals first|rfl|trace_state
  ·push_cast[x1,x3]
  ·push_cast[x1]
  ·push_cast[C3]
  ·push_cast[B3,z1,y0,t0]
  ·push_cast[z1,y0,t0]
  ·push_cast[z1,y0,t0]
  ·have htk:L.take (j+1)=L:=A05 (by omega)
   have lT:((L.take (j+1)).map fun x=>Bl (snN x)).length=j+1:=by rw[A07,htk,hn]
   rw[htk] at t0 lT
   rw[htk]
   push_cast[z1,y0,t0]
   refine Aw.trans (Aw.fzB (b:=84) (x:=.grow (L.map fun x=>Bl (snN x)) 20) rfl) ?_
   push_cast[y0,t0,lT]
   apply Zw<;>push_cast [y0,t0,lT]
   all_goals first|rfl|exact id|trace_state
theorem c_rWhole(hO:XA)(c:Nat)(L:List SN)(h:Hk c L):∃ (i:Nat) (U:List D),Af U=true/\U.length=19/\
  A2 prog 35 [.ref 1 0 0 23,.agg (A4 (puO c L))] [(1,rdR 0 (.slice [] true) 0 (Ap (GM.mk 0 ByteArray.empty ByteArray.empty 0 false zV false zV [])))] (.tup []) [(1,rdR c (.slice (L.map fun x=>Bl (snN x)) false) i U)]:=by
 obtain⟨i,U,hU1,hU2,hL⟩:∃ (i:Nat) (U:List D),Af U=true/\U.length=19/\A2 prog 71 [.ref 1 0 0 23,.agg (A4 (vL (L.map snO)))] [(1,rdR c (.slice [] true) 0 (Ap (GM.mk 0 ByteArray.empty ByteArray.empty 0 false zV false zV [])))] (.tup []) [(1,rdR c (.slice (L.map fun x=>Bl (snN x)) false) i U)]:=by
  have hL:=c_rList hO c L h.2.1 h.2.2
  cases hn:L.length with
  |zero=>rw [hn] at hL;exact⟨_,_,Au _,Bp _,hL⟩
  |succ j=>rw [hn] at hL;exact⟨_,_,Au _,Bp _,hL⟩
 refine⟨i,U,hU1,hU2,?_⟩
 have z1:=Au (GM.mk 0 ByteArray.empty ByteArray.empty 0 false zV false zV [])
 have t1:A3 (L.map fun x=>Bl (snN x))=true:=Ar (fun x=>Cq (snN x)) _
 have hR:=P3 Dh Gc (vI c) (vL (L.map snO)) 70 71 0 c c 0 0 i [] [] (L.map fun x=>Bl (snN x)) true true false _ _ U rfl rfl t1 z1 z1 hU1 (Xb c 0 0 h.1 [] true _ rfl z1) hL
 change A2 _ _ [_,.agg (A4 (puO c L)),_] _ _ _ at hR
 obtain⟨v1,v2,v3,v4⟩:=An (puO c L)
 generalize A4 (puO c L)=V at*
 generalize(L.map fun x=>Bl (snN x))=X at*
 generalize Ap (GM.mk 0 ByteArray.empty ByteArray.empty 0 false zV false zV [])=Z0 at*
 refine Zd [] func35 rfl ntmps35 results35 ?_
 (have z:=Za v1<|Za v2<|Za v3<|Za v4<|Za z1<|Za t1 hU1;(try push_cast[z])<;>repeat' (first|apply Zi<;>intro _|refine Zs [(1,1),(3,80)] hR ?_|exact Zo|with_reducible apply Za)<;>try push_cast[z])
 apply Zw<;>push_cast [v1,t1,hU1]
theorem c_Decode(hU:HA)(hO:XA)(c:Nat)(L:List SN)(h:Hk c L):A0 prog 16 [.slice ((puF c L).map byD) false] (.tup [.agg (Fl c L),.val (.int .i64 0)]):=by
 have hP:=c_open hU c L h
 obtain⟨i,U,hU1,hU2,hW⟩:=c_rWhole hO c L h
 have hM:=ZJ c L h
 have oF:=AN (puF c L)
 have t1:A3 (L.map fun x=>Bl (snN x))=true:=Ar (fun x=>Cq (snN x)) _
 obtain⟨v1,v2,v3,v4⟩:=An (puO c L)
 unfold Fl at*
 rw[A13] at*
 change A0 _ _ [.agg [.val (.int .u64 c),.slice (L.map fun x=>Bl (snN x)) false]] _ at hM
 show A0 _ _ _ (.tup [.agg [.val (.int .u64 c),.slice (L.map fun x=>Bl (snN x)) false],_])
 rw[KS] at hW
 generalize A4 (puO c L)=V at*
 generalize puF c L=F at*
 generalize(L.map fun x=>Bl (snN x))=X at*
 refine Zf [] func16 rfl ntmps16 results16 ?_
 (have z:=Za v1<|Za v2<|Za v3<|Za v4<|Za t1<|Za hU1<|Za hU2 oF;(try push_cast[z])<;>repeat' (first|apply Zi<;>intro _|refine Zc hP ?_|refine Zs [(1,104)] hW ?_|refine Zc hM ?_|exact Zo|with_reducible apply Za)<;>try push_cast[z])
theorem KW(a b:ByteArray×GV):A0 prog 93 [.slice [A6 a,A6 b] false,.val (.string a.1)] (.tup [.agg (A4 a.2),.val (.bool true)]):=by
 rw[Ah,Ah]
 obtain⟨x1,x2,x3,x4⟩:=An a.2
 obtain⟨y1,y2,y3,y4⟩:=An b.2
 generalize A4 a.2=V at*
 generalize A4 b.2=U at*
 refine Zf [] func93 rfl ntmps93 results93 ?_
 (have z:=Za x1 y1;(try push_cast[z])<;>repeat' (first|apply Zi<;>intro _|exact Zo|with_reducible apply Za)<;>try push_cast[z])
 refine Zl (fun _=>True) (fun _=>⟨[(11,.val (.int .i64 0)),(10,.val (.int .i64 2)),(9,.slice [.val (.string a.1)::V,.val (.string b.1)::U] false),(1,.val (.string a.1)),(4,.ref 0 0 0 6)],[(0,vB 0 (.slice [] true) (.slice [] true))],400⟩) (fun _=>0) 0 trivial ?_ fun _ _=>?_
 ·apply Zw<;>push_cast [x1,y1]
  all_goals first|rfl|trace_state
 ·(have z:=Za x1<|Za x2<|Za x3<|Za x4<|Za y1<|Za y2<|Za y3 y4;(try push_cast[z])<;>repeat' (first|apply Zi<;>intro _|exact Zo|with_reducible apply Za)<;>try push_cast[z])
  all_goals first|omega|skip
  all_goals trace_state
theorem Q9(a b:ByteArray×GV)(hab:decide (a.1=b.1)=false):A0 prog 93 [.slice [A6 a,A6 b] false,.val (.string b.1)] (.tup [.agg (A4 b.2),.val (.bool true)]):=by
 rw[Ah,Ah]
 obtain⟨x1,x2,x3,x4⟩:=An a.2
 obtain⟨y1,y2,y3,y4⟩:=An b.2
 generalize A4 a.2=V at*
 generalize A4 b.2=U at*
 have w1:IntKind.i64.wrap 1=1:=by decide
 refine Zf [] func93 rfl ntmps93 results93 ?_
 (have z:=Za x1 y1;(try push_cast[z])<;>repeat' (first|apply Zi<;>intro _|exact Zo|with_reducible apply Za)<;>try push_cast[z])
 refine Zl (fun i=>i<=1) (fun i=>⟨[(11,.val (.int .i64 i)),(10,.val (.int .i64 2)),(9,.slice [.val (.string a.1)::V,.val (.string b.1)::U] false),(1,.val (.string b.1)),(4,.ref 0 0 0 6)],[(0,vB 0 (.slice [] true) (.slice [] true))],400⟩) (fun i=>1-i) 0 (by simp) ?_ fun i hi=>?_
 ·apply Zw<;>push_cast [x1,y1]
  all_goals first|rfl|trace_state
 ·obtain rfl|rfl:i=0∨i=1:=by omega
  ·(have z:=Za x1<|Za x2<|Za x3<|Za x4<|Za y1<|Za y2<|Za y3<|Za y4<|Za @hab w1;(try push_cast[z])<;>repeat' (first|apply Zi<;>intro _|exact Zo|with_reducible apply Za)<;>try push_cast[z])
   all_goals first|omega|skip
   refine⟨1,by decide,by decide,?_⟩
   apply Zw<;>push_cast [x1,y1,w1]
   all_goals first|rfl|trace_state
  ·(have z:=Za x1<|Za x2<|Za x3<|Za x4<|Za y1<|Za y2<|Za y3<|Za y4<|Za @hab w1;(try push_cast[z])<;>repeat' (first|apply Zi<;>intro _|exact Zo|with_reducible apply Za)<;>try push_cast[z])
   all_goals first|omega|skip
   all_goals trace_state
theorem c_mtext1(k:ByteArray)(s:ByteArray)(b:ByteArray×GV):A0 prog 90 [.slice [A6 (k,vT s),A6 b] false,.val (.string k)] (.val (.string s)):=by
 have hF:=KW (k,vT s) b
 have hm:=DP 9
 simp only[NG] at hF
 have o1:=Aj (k,vT s)
 have o2:=Aj b
 generalize A6 (k,vT s)=A at*
 generalize A6 b=B at*
 refine Zf [] func90 rfl ntmps90 results90 ?_
 (have z:=Za o1 o2;(try push_cast[z])<;>repeat' (first|apply Zi<;>intro _|refine Zc hF ?_|refine Zc (hm ..) ?_|exact Zo|with_reducible apply Za)<;>try push_cast[z])
 all_goals trace_state
theorem Sv(k:ByteArray)(s:ByteArray)(a:ByteArray×GV)(h:decide (a.1=k)=false):A0 prog 90 [.slice [A6 a,A6 (k,vT s)] false,.val (.string k)] (.val (.string s)):=by
 have hF:=Q9 a (k,vT s) h
 have hm:=DP 9
 simp only[NG] at hF
 have o1:=Aj (k,vT s)
 have o2:=Aj a
 generalize A6 (k,vT s)=A at*
 generalize A6 a=B at*
 refine Zf [] func90 rfl ntmps90 results90 ?_
 (have z:=Za o1 o2;(try push_cast[z])<;>repeat' (first|apply Zi<;>intro _|refine Zc hF ?_|refine Zc (hm ..) ?_|exact Zo|with_reducible apply Za)<;>try push_cast[z])
 all_goals trace_state
end Go.Ab
