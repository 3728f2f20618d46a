/- The layer by which the program is walked, and what its functions do: part 7 of 16. -/
import Derived.Test.YtjopicjammmbjaaGreatDoorV5
import Derived.RecoverIn
import Derived.ChangeArms
import Derived.DataReads
import Derived.Test.YtjopicjammmbjaaGreatDoorRows
import Derived.RangeFuncNested
import Derived.RangeFuncCalls
import Derived.Lib.OthersKept
import Derived.Sort.KeysCollected
import Derived.Shelf.Unicode.ValidAny
import Derived.Shelf.Unicode.DecodeAny
import Derived.Shelf.Strconv.Itoa4
import Derived.Shelf.Small.Wraps
import Derived.Shelf.Strings.Prefix
import Derived.Lib.AppendIntMem
import Derived.Lib.ItoaLen
import Derived.Shelf.Strings.BuilderK
import Derived.Shelf.Strings.BuilderRune
import Derived.WalkMore
import Derived.Lib.Walk
import Derived.Lib.Strings
import Derived.Laws.Strings3
import Derived.Lib.DecodeN
set_option maxHeartbeats 4000000
set_option maxRecDepth 20000
set_option linter.unusedVariables false
set_option linter.unusedSimpArgs false
set_option linter.unnecessarySimpa false
namespace Go.Ab
open Go.RowKit
section
variable{P:Program}{ops:Array Oper}{nx:Nat}{l:List Oper}{pos:Nat}{acc:List Eff}{s:St}{K:List Eff->St->Prop}
theorem Af.does{dst:Option Tmp}{op:Op}{T:TypeId}{ps:String}{af:Array Edge}{e:Eff}(h:B8 P ⟨dst,op,T,ps,af,none⟩ (2*(nx+4*pos)) (evO P s.env.get) (Ai s.hp) e)(hk:GoS P ops nx l (pos+1) (e::acc) (s.app dst e) K):Af P ops nx (⟨dst,op,T,ps,af,none⟩::l) pos acc s K:=by
 rw[Dl] at hk;rw[Cg]
 unfold Cj
 exact .inl ⟨e,BT.plain rfl h,by have:=Go.run hk;unfold Cj at this;exact this⟩
theorem Af.assert{dst:Option Tmp}{x:Operand}{T xt t:TypeId}{ps:String}{af:Array Edge}{d:D}(hx:evO P s.env.get x=.iface t d)(hr:∀ v w,(Instr.typeAssert (.iface t v) xt t true).run P w=.ok (.tuple #[v,.bool true]) w)
  (hk:GoS P ops nx l (pos+1) (⟨.tup [d,.val (.bool true)],[],[]⟩::acc) (s.app dst ⟨.tup [d,.val (.bool true)],[],[]⟩) K):Af P ops nx (⟨dst,.typeAssert x xt t true,T,ps,af,none⟩::l) pos acc s K:=by
 refine Af.does (B8.quiet fun _ _ _ _ I mu _ a w _ hxs _=>?_) hk
 have hxr:=hxs x (by simp[Op.operands])
 rw[hx] at hxr
 generalize he:a.eval x=v at hxr
 cases hxr with
 |iface _ _ u h=>
 refine⟨.tuple #[u,.bool true],by simp only[execOp,he,A0m,hr,Result.andThen,Sem.run_map,A0w],.tup _ [u,.bool true] rfl fun i hi=>?_⟩
 match i,hi with
 |0,_=>exact h
 |1,_=>exact .val _ trivial
theorem Af.ifNil{dst:Option Tmp}{x y:Operand}{T t1 t2 t:TypeId}{ps:String}{af:Array Edge}{d:D}(hx:evO P s.env.get x=.iface t d)(hy:evO P s.env.get y=.val .nilIface)(hr:∀ (a:Act) v w,a.eval x=.iface t v->a.eval y=.nilIface->(execOp a.eval ⟨dst,.binOp .eql t1 x y t2,T,ps,af,none⟩).run P w=.ok (.value (.bool false)) w)
  (hk:GoS P ops nx l (pos+1) (⟨.val (.bool false),[],[]⟩::acc) (s.app dst ⟨.val (.bool false),[],[]⟩) K):Af P ops nx (⟨dst,.binOp .eql t1 x y t2,T,ps,af,none⟩::l) pos acc s K:=by
 refine Af.does (B8.quiet fun _ _ _ _ I mu _ a w _ hxs _=>?_) hk
 have hxr:=hxs x (by simp[Op.operands])
 have hyr:=hxs y (by simp[Op.operands])
 rw[hx] at hxr
 rw[hy] at hyr
 have hyv:=hyr.val_inv
 generalize he:a.eval x=v at hxr
 cases hxr with
 |iface _ _ u h=>exact ⟨.bool false,hr a u w he hyv,.val _ trivial⟩
theorem Af.nilNil{dst:Option Tmp}{x y:Operand}{T t1 t2:TypeId}{ps:String}{af:Array Edge}(hx:evO P s.env.get x=.val .nilIface)(hy:evO P s.env.get y=.val .nilIface)(hr:∀ (a:Act) w,a.eval x=.nilIface->a.eval y=.nilIface->(execOp a.eval ⟨dst,.binOp .eql t1 x y t2,T,ps,af,none⟩).run P w=.ok (.value (.bool true)) w)
  (hk:GoS P ops nx l (pos+1) (⟨.val (.bool true),[],[]⟩::acc) (s.app dst ⟨.val (.bool true),[],[]⟩) K):Af P ops nx (⟨dst,.binOp .eql t1 x y t2,T,ps,af,none⟩::l) pos acc s K:=by
 refine Af.does (B8.quiet fun _ _ _ _ I mu _ a w _ hxs _=>?_) hk
 have hxr:=hxs x (by simp[Op.operands])
 have hyr:=hxs y (by simp[Op.operands])
 rw[hx] at hxr
 rw[hy] at hyr
 exact⟨.bool true,hr a w hxr.val_inv hyr.val_inv,.val _ trivial⟩
end
def RecU(w:World)(I:Nat->Prop)(mu:Nat->Option Value):Option D->FrameMode->FrameMode->Prop
 |none,u,u'=>u=.returning/\u'=.returning
 |some d,u,u'=>∃ v,Rep w I mu d v/\u=.panicking [{v,recovered:=false}]/\u'=.panicking [{v,recovered:=true}]
theorem wpIn_n{n m:Nat}{P:Program}{c:Code}{Q:Exit->Act->World->Prop}{a:Act}{w:World}(h:c.wpIn Fence.wide n P Q a w):c.wpIn Fence.wide m P Q a w:=
 fun b k cs h1 h2 _=>h b k cs h1 h2 (fun d hd=>by cases hd)
def UW(P:Program)(f:FuncId)(cs:List D)(o:Option D)(H H':Hp):Prop:=
 Bc P f=true/\∀ (w:World) (M0:Nat->Prop) (G:Gh) (I:Nat->Prop) (mu:Nat->Option Value) (vs:List Value) (u u':FrameMode),GA P w M0 G->G.dl=[]->Aq w M0 G (frN 4) I mu (Ai H) w->Bp w I mu cs vs->RecU w I mu o u u'->
  CallsDIn Fence.wide 0 P f vs.toArray u w fun e u'' w'=>u''=u'/\∃ v I' mu',e=.returned v/\Aq w M0 G (frN 4) I' mu' (Ai H') w'
def recD:Option D->D
 |none=>.val .nilIface
 |some d=>d
theorem UW.of_awp{P:Program}{nt:Nat}{f:FuncId}{fn:Func}{B:Code}{ds:List D}{o:Option D}{H H':Hp}{id t:Nat}{ts:Array TypeId}{T:TypeId}{ps:String}{af:Array Edge}(hf:P.funcs[f]? =some fn)
  (hb:fn.body=some (.seq (.region id #[⟨some t,.call {callee:=.builtin .recover,args:=#[],argTypes:=ts},T,ps,af,none⟩] false) B)) (hn:fn.ntmps=nt) (hent:Bc P f=true) (hlen:ds.length<=nt) (ht:t<nt) {rs:List ResultVar} (hrs:fn.results.toList=rs)
  (h:AWp P nt B (Ny P rs (.tup []) H') ⟨(t,recD o)::Bq 0 ds,H,4⟩):UW P f ds o H H':=by
 subst hrs
 refine⟨hent,fun w M0 G0 I mu vs u u' hga hdl hw hrep hu=>?_⟩
 let G:Gh:=⟨G0.st,G0.nm,[],Fence.wide,1,.inl rfl⟩
 refine callsDIn_of_wpSIn (n:=0) hf hb trivial fun c₀ cs hc₀=>?_
 obtain⟨v,c₁,hv,hrec,hc₁⟩:∃ (v:Value) (c₁:Frame),Rep w I mu (recD o) v/\(match recoverD (c₀::cs) with|some (x,cs')=>x=v/\cs'=c₁::cs|none=>v=.nilIface/\c₁=c₀)/\c₁= {c₀ with mode:=u'}:=by
  cases o with
  |none=>
   obtain⟨rfl,rfl⟩:=hu
   refine⟨.nilIface,c₀,.val _ trivial,?_,?_⟩
   ·simp[recoverD,hc₀]
   ·rw[<-hc₀]
  |some d=>
   obtain⟨v,hv,rfl,rfl⟩:=hu
   refine⟨v,{c₀ with mode:=.panicking [{v,recovered:=true}]},hv,?_,rfl⟩
   simp[recoverD,hc₀]
 have hrun:(execOp ({tmps:=vs.toArray++Array.replicate (fn.ntmps-vs.toArray.size) undef,defers:=[]}:Act).eval ⟨some t,.call {callee:=.builtin .recover,args:=#[],argTypes:=ts},T,ps,af,none⟩).run P w=.ok .recover w:=by
  simp only[execOp,resolve,A0m,A0w,Result.andThen,invoke]
  rfl
 have hsize:(vs.toArray++Array.replicate (fn.ntmps-vs.toArray.size) undef).size=nt:=by
  have:=hrep.1;simp[hn];omega
 have hbody:Code.wpSIn Fence.wide 0 P B (bodyPostS P fn c₀ cs fun e u'' w'=>u''=u'/\∃ v I' mu',e=.returned v/\Aq w M0 G0 (frN 4) I' mu' (Ai H') w') (({tmps:=vs.toArray++Array.replicate (fn.ntmps-vs.toArray.size) undef,defers:=[]}:Act).put (some t) v) (c₁::cs) w:=by
  refine wpSIn_of_wpIn rfl (wpIn_n (n:=1) (wpIn_mono (h w M0 G hga I mu _ w ⟨by rw[F0];exact hsize,BR.refl _ _ _ _,fun t'=>?_,⟨hw.blk,hw.loc,hw.inj,hw.fresh,hw.lt,hw.os,hw.tape,hw.output,hw.grown,hw.old,hw.iold,hw.inew,hw.keep,hw.used⟩⟩) ?_))
  ·have:=Kh (env:=(Bq 0 ds).get) (dst:=some t) (d:=recD o) (v:=v) hsize (fun t'' h=>by cases h;exact ht) (fun t''=>Fu hrep _ t'') hv {tmps:=vs.toArray++Array.replicate (fn.ntmps-vs.toArray.size) undef,defers:=[]} rfl t'
   show Rep w I mu (Env.get ((t,recD o)::Bq 0 ds) t') _
   simp only[Env.get]
   by_cases hh:t=t'
   ·subst hh;simp only[beq_self_eq_true,cond_true];simpa using this
   ·have h2:(t==t')=false:=by simpa using hh
    simp only[h2,cond_false]
    rw[if_neg (by simpa using hh)] at this;exact this
  ·rintro e a' w' ⟨x,s',I',mu',hq,he,r'⟩
   have hd':a'.defers=[]:=by
    obtain⟨rs,d0,d1,_⟩:=r'.defers
    rw[d0 rfl] at d1;exact d1
   have fin:∀ d,Jx P s' fn.results.toList=some d->Ar ⟨[(0,d)],s'.hp,s'.nx⟩ ⟨[(0,.tup [])],H',4⟩->a'.defers=[]/\∃ u'',c₁::cs= {c₀ with mode:=u''}::cs/\∃ v,(results fn a'.tmps).run P w'=.ok v w'/\(u''=u'/\∃ v' I' mu',Ending.returned v=.returned v'/\Aq w M0 G0 (frN 4) I' mu' (Ai H') w'):=by
    intro d hd hwk
    obtain⟨v',q1,q2⟩:=Hj (P:=P) (a:=a') (w:=w') (I:=I') (mu:=mu') (w0:=w) (M0:=M0) (I0:=G) (fr:=frN s'.nx) (nt:=nt) (s:=s') r' fn hd
    obtain⟨I3,mu3,R3⟩:=hwk w M0 G 1 I' mu' {tmps:=#[v'],defers:=[]} w' ⟨rfl,BR.refl _ _ _ _,fun t=>by
     cases t with
     |zero=>simpa [St.fs,Env.get] using q2
     |succ t=>simp [St.fs,Env.get];exact .any _,r'.w⟩
    exact⟨hd',u',by rw[hc₁],v',q1,rfl,v',I3,mu3,rfl,⟨R3.w.blk,R3.w.loc,R3.w.inj,R3.w.fresh,R3.w.lt,R3.w.os,R3.w.tape,R3.w.output,R3.w.grown,R3.w.old,R3.w.iold,R3.w.inew,R3.w.keep,R3.w.used⟩⟩
   cases x<;>cases e<;>simp only[Ga] at he<;>simp only[Ny] at hq
   case normal.normal=>
    obtain⟨d,hd,hfr⟩:=hq
    exact fin d hd hfr
   case ret.ret=>
    obtain⟨d,hd,hfr⟩:=hq
    exact fin d hd hfr
 refine wpSIn_seq (wpSIn_region ?_)
 show wpOpsSIn Fence.wide 0 P _ _ [0] _ _ _
 simp only[wpOpsSIn,A1g,A0P,Region.wanted,if_true,hrun]
 refine⟨fun _ _=>trivial,?_⟩
 cases hr:recoverD (c₀::cs) with
 |none=>
  rw[hr] at hrec
  obtain⟨h1,h2⟩:=hrec
  rw[h1,h2] at hbody
  exact hbody
 |some p=>
  obtain⟨x,cs'⟩:=p
  rw[hr] at hrec
  obtain⟨h1,h2⟩:=hrec
  subst h1 h2
  exact hbody
end Go.Ab
namespace Go.Ab
open Go.Proofs Go.Proofs.Tryz
abbrev wD(c:Int):D:=.iface 177 (.agg [.val (.int .i64 c)])
theorem JJ(c:Int):A3 prog 112 [.val (.bool true),.val (.int .i64 c)] (.tup []):=by
 refine Zf [] func112 rfl ntmps112 results112 ?_
 ((try push_cast)<;>repeat' (first|apply Zi<;>intro _|exact Zp|with_reducible apply Za)<;>try push_cast)
theorem Q9(c:Int):Fg prog 112 [.val (.bool false),.val (.int .i64 c)] (wD c):=by
 refine Fg.of_awp func112 rfl ntmps112 (by kernel_rfl) (by simp) (AWp.sz fun H Hb=>Zy ?_)
 (have z:=trivial;(try push_cast)<;>repeat' (first|apply Zi<;>intro _|exact Zp|with_reducible apply Za|(with_reducible show Af _ _ _ _ _ _ _ _;refine Af.panicOp (by(try push_cast);rfl) ?_)|fail)<;>try push_cast)
 ·kernel_rfl
 ·exact⟨An _,rfl⟩
theorem QL:A3 prog 115 [.val (.int .i64 0)] (.tup []):=by
 refine Zf [] func115 rfl ntmps115 results115 ?_
 (have z:=trivial;(try push_cast)<;>repeat' (first|apply Zi<;>intro _|refine Zc (JJ ..) ?_|exact Zp|with_reducible apply Za)<;>try push_cast)
theorem Z3(c:Int)(hc:c≠0):Fg prog 115 [.val (.int .i64 c)] (wD c):=by
 have b1:(c==0)=false:=by simpa using hc
 refine Fg.of_awp func115 rfl ntmps115 (by kernel_rfl) (by simp) (AWp.sz fun H Hb=>Zy ?_)
 (have z:=b1;(try push_cast[z])<;>repeat' (first|apply Zi<;>intro _|exact Zo|with_reducible apply Za|(with_reducible show Af _ _ _ _ _ _ _ _;refine Af.pan (by(try push_cast[z]);exact Q9 ..) rfl (by first|rfl|push_cast [z]) rfl ?_)<;>try push_cast[z]|fail)<;>try push_cast[z])
 exact⟨An _,rfl⟩
mutual
def AQ:GM->Nat
 |.mk _ _ _ _ _ _ _ _ l=>1+Bf l
def Bf:List GM->Nat
 |[]=>0
 |m::l=>AQ m+Bf l
end
theorem EY(m:GM):AQ m=1+Bf m.list:=by cases m;simp[AQ,GM.list]
theorem Fy:∀ (a b:List GM),Bf (a++b)=Bf a+Bf b
 |[],b=>by simp[Bf]
 |x::a,b=>by simp only[A07,Bf,Fy a b];omega
theorem CV{l:List GM}{i:Nat}(h:i<l.length):Bf (l.take (i+1))=Bf (l.take i)+AQ (l.getD i zU)/\Bf (l.take (i+1))<=Bf l:=by
 have e:l.getD i zU=l[i]:=by rw[A03,A06 h];rfl
 have h1:Bf (l.take (i+1))=Bf (l.take i)+AQ (l.getD i zU):=by
  rw[A20,A06 h,Fy,e];simp[Bf]
 refine⟨h1,?_⟩
 conv=>rhs;rw[<-A0R (i+1) l,Fy]
 omega
theorem Gg:∀ l:List GM,l.length<=Bf l
 |[]=>by simp
 |m::l=>by have:=Gg l;have:=EY m;simp only[Bf,A0g];omega
theorem VN(m:GM)(hz:AQ m<=1099511627776):A3 prog 70 [.agg (Aj m)] (.val (.int .i64 (AQ m:Nat))):=by
 have hrec:∀ x,SizeOf.sizeOf x<SizeOf.sizeOf m->AQ x<=1099511627776->A3 prog 70 [.agg (Aj x)] (.val (.int .i64 (AQ x:Nat))):=fun x hx h=>VN x h
 have hln:=Gg m.list
 rw[EY] at hz|-
 rw[Ae,A0 m.was,A0 m.value]
 simp only[A07,A09,A05]
 refine Zf [0] func70 rfl ntmps70 results70 ?_
 ((try push_cast)<;>repeat' (first|apply Zi<;>intro _|exact Zp|with_reducible apply Za)<;>try push_cast)
 refine Zl (fun i=>i<=m.list.length) (fun i=>⟨[(9,.val (.int .i64 i)),(8,.val (.int .i64 m.list.length)),(7,.slice (m.list.map Aj) false),(3,.val (.int .i64 ((1+Bf (m.list.take i):Nat):Int)))],[],200⟩) (fun i=>m.list.length-i) 0 (by simp) ?_ fun i hi=>?_
 ·apply Zw<;>push_cast
  simp[Bf]
 ·push_cast
  refine A6 (fun ha=>?_) (fun ha=>?_)
  ·have hi':i<m.list.length:=by simpa using ha
   have e1:=Cd hi'
   obtain⟨t1,t2⟩:=CV hi'
   have hr:=hrec (m.list.getD i zU) (GM.list_lt (Ad hi')) (by omega)
   (have z:=e1;(try push_cast[z])<;>repeat' (first|apply Zi<;>intro _|refine Zc (hr ..) ?_|exact Zo|with_reducible apply Za)<;>try push_cast[z])
   all_goals first|omega|skip
   refine⟨i+1,hi',by omega,?_⟩
   apply Zw<;>push_cast
   refine⟨A9 (by omega) (by omega),?_⟩
   rw[t1,A1G,<-Int.add_assoc]
   exact A9 (by omega) (by omega)
  ·have hi':i=m.list.length:=by simp at ha;omega
   subst hi'
   ((try push_cast)<;>repeat' (first|apply Zi<;>intro _|exact Zp|with_reducible apply Za)<;>try push_cast)
   all_goals first|omega|skip
   rw[A0Q]
termination_by SizeOf.sizeOf m
end Go.Ab
namespace Go.Ab
open Go.RowKit
abbrev RR(w:World)(ds:List D)(cs:List Value):Prop:=Bp w (fun k=>k<w.heap.size) (fun _=>none) ds cs
section
variable{H:Type}{enc:TypeId×Value->H}{P:Program}{w:World}{sp:Nat->Bool}{held:Bool}{n:Nat}{t:TypeId}{cs:List Value}{x:DataW H×List MemPlace}
theorem RR.one{d:D}{v:Value}(h:Rep w (fun k=>k<w.heap.size) (fun _=>none) d v):RR w [d] [v]:=by
 refine⟨rfl,fun i hi=>?_⟩
 have e:i=0:=by simp at hi;omega
 subst e;exact h
theorem RR.nil:RR w [] []:=⟨rfl,fun i hi=>by simp at hi⟩
theorem RR.step{ds es:List D}{off k:Nat}(h:RR w ds ((cs.drop off).take k))(g:RR w es (cs.drop (off+k))):RR w (ds++es) (cs.drop off):=by
 have e:cs.drop off=(cs.drop off).take k++cs.drop (off+k):=by rw[<-List.drop_drop];exact(A0R k _).symm
 rw[e];exact Bp.append h g
theorem RR.fin{off:Nat}(h:cs.length=off):RR w [] (cs.drop off):=by
 rw[A0B (by omega)];exact RR.nil
theorem rr_int{k:IntKind}(ht:P.underlying t=some (.int k))(h:DataW.trod enc P w 0 sp held n t cs=some x):∃ m,RR w [.val (.int k m)] cs:=by
 obtain⟨m,rfl,_,hw⟩:=DataW.trod_int ht h
 refine⟨m,RR.one (.val _ ?_)⟩
 simp only[Lit.wf,A0c,decide_eq_true_eq] at hw
 cases k<;>simpa [okP,E9,Ea,IntKind.min,IntKind.max,IntKind.signed,IntKind.bits] using hw
theorem LF{α:Type}{p:Nat->α->Prop}:∀ n,(∀ i,i<n->∃ x,p i x)->∃ l:List α,l.length=n/\∀ i x,l[i]? =some x->p i x
 |0,_=>⟨[],rfl,fun i x h=>by simp at h⟩
 |n+1,h=>by
  obtain⟨l,h1,h2⟩:=LF n fun i hi=>h i (by omega)
  obtain⟨x,hx⟩:=h n (by omega)
  refine⟨l++[x],by simp[h1],fun i y hy=>?_⟩
  by_cases hi:i<n
  ·rw[A0x (by omega)] at hy;exact h2 i y hy
  ·rw[A0r (by omega)] at hy
   have:i-l.length=0:=by
    rcases A0M (i-l.length) with h|h
    ·exact h
    ·rw[List.getElem?_eq_none (by simp;omega)] at hy;cases hy
   rw[this] at hy
   simp at hy
   subst hy
   have:i=n:=by omega
   subst this;exact hx
end
end Go.Ab
namespace Go.Ab
open Go.Proofs Go.Proofs.Tryz Go.RowKit
theorem Xp:prog.cellsOf 59=1:=by kernel_rfl
theorem L7:prog.cellsOf 4=1:=by kernel_rfl
theorem Nm:prog.cellsOf 2=1:=by kernel_rfl
theorem Eq:prog.cellsOf 9=1:=by kernel_rfl
theorem SX:prog.cellsOf 60=1:=by kernel_rfl
theorem QI:prog.cellsOf 61=1:=by kernel_rfl
theorem Ec:prog.cellsOf 63=6:=by kernel_rfl
theorem LG:prog.cellsOf 104=7:=by kernel_rfl
theorem Np:prog.cellsOf 70=7:=by kernel_rfl
theorem QH:prog.cellsOf 58=1:=by kernel_rfl
theorem NE:prog.cellsOf 64=1:=by kernel_rfl
theorem GO:prog.cellsOf 66=19:=by kernel_rfl
theorem Fs:prog.cellsOf 23=1:=by kernel_rfl
theorem UG:prog.cellsOf 27=1:=by kernel_rfl
theorem No:prog.cellsOf 68=23:=by kernel_rfl
theorem SY:prog.cellsOf 26=1:=by kernel_rfl
theorem Xo:prog.cellsOf 22=1:=by kernel_rfl
theorem UF:prog.cellsOf 43=3:=by kernel_rfl
section
variable{H:Type}{enc:TypeId×Value->H}{w:World}{sp:Nat->Bool}{held:Bool}
end
end Go.Ab
namespace Go.Ab
open Go.Proofs.YtjopicjammmbjaaGreatDoor Go.RowKit
def bk{H:Type}(x:DataW H×List MemPlace):Nat:=Rows.uptoBulk x.1
theorem UU{H:Type}:∀ es:List (DataW H×List MemPlace),Rows.uptoBulkAll (es.map (·.1))=(es.map bk).sum
 |[]=>by simp[Rows.uptoBulkAll]
 |e::es=>by simp[Rows.uptoBulkAll,UU es,bk]
theorem bk_slice{H:Type}(es:List (DataW H×List MemPlace))(r:List (DataW H))(q:List MemPlace):(es.map bk).sum+1<=bk (.slice (es.map (·.1)) r,q):=by
 show _<=Rows.uptoBulk (.slice _ _)
 rw[Rows.uptoBulk,UU]
 omega
theorem bk_agg{H:Type}(es:List (DataW H×List MemPlace))(q:List MemPlace):bk (.agg (es.map (·.1)),q)=(es.map bk).sum+1:=by
 show Rows.uptoBulk (.agg _)=_
 rw[Rows.uptoBulk,UU]
theorem Qi{α:Type}{f:α->Nat}{l:List α}{x:α}(h:x ∈ l):f x<=(l.map f).sum:=by
 induction l with
 |nil=>cases h
 |cons y l ih=>
  simp only[A0k,A1S]
  rcases A0o.1 h with rfl|h
  ·omega
  ·have:=ih h;omega
theorem Y7{α β:Type}{g:α->Nat}{b:β->Nat}:∀ {l:List α} {es:List β},l.length=es.length->(∀(i:Nat) y,l[i]? =some y->∃ z,es[i]? =some z/\g y+1<=b z)->l.length+(l.map g).sum<=(es.map b).sum
 |[],[],_,_=>by simp
 |[],_::_,h,_=>by simp at h
 |_::_,[],h,_=>by simp at h
 |y::l,z::es,h,hh=>by
  have h0:=hh 0 y rfl
  obtain⟨z',e,hz⟩:=h0
  obtain rfl:z=z':=by simpa using e
  have:=Y7 (l:=l) (es:=es) (by simpa using h) fun i y hy=>by simpa using hh (i+1) y (by simpa using hy)
  simp only[A0k,A1S,A0g]
  omega
section
variable{H:Type}{enc:TypeId×Value->H}{P:Program}{w:World}{sp:Nat->Bool}{held:Bool}{n:Nat}{t:TypeId}{cs:List Value}{x:DataW H×List MemPlace}
theorem Gq{k:IntKind}(ht:P.underlying t=some (.int k))(h:DataW.trod enc P w 0 sp held n t cs=some x):∃ m,RR w [.val (.int k m)] cs/\(Lit.int k m).wf=true/\bk x=1:=by
 obtain⟨m,rfl,rfl,hw⟩:=DataW.trod_int ht h
 obtain⟨m',h'⟩:=rr_int ht h
 refine⟨m,RR.one (.val _ ?_),hw,by first|rfl|simp only[bk,Rows.uptoBulk]⟩
 simp only[Lit.wf,A0c,decide_eq_true_eq] at hw
 cases k<;>simpa [okP,E9,Ea,IntKind.min,IntKind.max,IntKind.signed,IntKind.bits] using hw
theorem PZ(ht:P.underlying t=some .bool)(h:DataW.trod enc P w 0 sp held n t cs=some x):∃ b,RR w [.val (.bool b)] cs/\bk x=1:=by
 obtain⟨b,rfl,rfl⟩:=DataW.trod_bool ht h
 exact⟨b,RR.one (.val _ trivial),by first|rfl|simp only[bk,Rows.uptoBulk]⟩
theorem Mq(ht:P.underlying t=some .string)(h:DataW.trod enc P w 0 sp held n t cs=some x):∃ s,RR w [.val (.string s)] cs/\bk x=s.size+1:=by
 obtain⟨s,rfl,rfl,hw⟩:=DataW.trod_string ht h
 exact⟨s,RR.one (.val _ hw),by first|rfl|simp only[bk,Rows.uptoBulk,A0T,ByteArray.size]⟩
theorem FP{α:Type}(f:α->List D)(g:α->Nat)(p:α->Prop){e:TypeId}{sz:Nat}(ht:P.underlying t=some (.slice e))(hsz:P.cellsOf e=sz)(hpos:0<sz)(hlen:∀ x,(f x).length=sz)
  (hel:∀ m cs x,m<n->DataW.trod enc P w 0 sp held m e cs=some x->∃ y,RR w (f y) cs/\g y+1<=bk x/\(bk x<=1048576->p y)) (h:DataW.trod enc P w 0 sp held n t cs=some x):∃ l:List α,RR w [.slice (l.map f) false] cs/\l.length+(l.map g).sum+1<=bk x/\(bk x<=1048576->∀ y ∈ l,p y):=by
 rcases DataW.trod_slice ht h with⟨rfl,rfl⟩|⟨a,len,cap,elems,rest,m,rfl,rfl,rfl,_,hlc,hcap,hl,hx,_,_⟩
 ·refine⟨[],RR.one (.slice [] false none 0 0 0 0 (fun _ _=>.nilFunc) (fun h=>absurd h (by simp)) (A0e _) (fun _=>rfl) (A0t _) (fun i h=>absurd h (by simp)) (fun i j h=>absurd h (by simp)) (fun i j h=>absurd h (by simp))),Nat.le_of_eq (by show 0+0+1=Rows.uptoBulk _;rw[Rows.uptoBulk]),fun _ y hy=>by cases hy⟩
 ·have one:∀ i,i<len->∃ y:α,∃ ci,w.cells? 0 (a.add (i*sz)) sz=some ci/\RR w (f y) ci/\∃ z,elems[i]? =some z/\g y+1<=bk z/\(bk z<=1048576->p y):=by
   intro i hi
   have h1:=hx i hi
   rw[A06 (by omega),Option.bind_eq_some_iff] at h1
   obtain⟨ci,h2,h3⟩:=h1
   rw[hsz] at h2
   obtain⟨y,hy,hy2,hy3⟩:=hel m ci _ (by omega) h3
   exact⟨y,ci,h2,hy,_,A06 (by omega),hy2,hy3⟩
  obtain⟨l,hll,hl2⟩:=LF len one
  have cell:∀ i j y,l[i]? =some y->j<sz->∃ v,w.cell? ⟨a.block,a.off+(i*sz+j),none⟩=some v/\Rep w (fun k=>k<w.heap.size) (fun _=>none) (nd (f y) j) v:=by
   intro i j y hy hj
   obtain⟨ci,h1,h2,-⟩:=hl2 i y hy
   obtain⟨_,h4,h5⟩:=World.cells?_some h1
   have h6:=h5 j hj
   have hlt:j<ci.length:=by omega
   rw[A06 hlt] at h6
   refine⟨ci[j],?_,?_⟩
   ·rw[<-h6]
    have e1:((a.add (i*sz)).add j).block=a.block:=by unfold Addr.add;split<;>(try split)<;>rfl
    have e2:((a.add (i*sz)).add j).off=a.off+(i*sz+j):=by unfold Addr.add;split<;>(try split)<;>simp_all<;>omega
    have e3:((a.add (i*sz)).add j).spot=none:=by
     cases hs:((a.add (i*sz)).add j).spot with
     |none=>rfl
     |some q=>
      exfalso
      simp only[World.cell?,hs,Option.isSome_some,if_true] at h6
      split at h6<;>cases h6
    generalize(a.add (i*sz)).add j=A at e1 e2 e3
    obtain⟨b,o,s⟩:=A
    simp only at e1 e2 e3
    subst e1 e2 e3
    rfl
   ·have:=h2.2 j (by rw[hlen];exact hj)
    have e:nv ci j=ci[j]:=by simp[nv,A03,hlt]
    rw[e] at this;exact this
  have get:∀ i,i<len->∃ y,l[i]? =some y:=fun i hi=>⟨l[i]'(by omega),A06 (by omega)⟩
  have hnr:∀ i y,l[i]? =some y->nr (l.map f) i=f y:=fun i y hy=>by simp[nr,A03,hy]
  have hz:∀ i y,l[i]? =some y->∃ z,elems[i]? =some z/\g y+1<=bk z/\(bk z<=1048576->p y):=fun i y hy=>by
   obtain⟨_,_,_,hz⟩:=hl2 i y hy
   exact hz
  have hsum:=Y7 (l:=l) (es:=elems) (by omega) fun i y hy=>by
   obtain⟨z,z1,z2,-⟩:=hz i y hy
   exact⟨z,z1,z2⟩
  have hbk:(elems.map bk).sum+1<=bk (.slice (elems.map (·.1)) (rest.map (·.1)),MemPlace.row a ((elems.length+rest.length)*P.cellsOf e)++(elems++rest).flatMap (·.2)):=bk_slice elems _ _
  refine⟨l,RR.one ?_,by omega,fun hb y hy=>?_⟩
  rotate_left
  ·obtain⟨i,hi⟩:=List.getElem?_of_mem hy
   obtain⟨z,z1,-,z3⟩:=hz i y hi
   have:=Qi (f:=bk) (A1L z1)
   exact z3 (by omega)
  have hA:0<len->(some a=some (⟨a.block,a.off,none⟩:Addr))/\a.block<w.heap.size:=by
   intro h0
   obtain⟨y,hy⟩:=get 0 h0
   obtain⟨ci,h1,h2,-⟩:=hl2 0 y hy
   obtain⟨_,h4,h5⟩:=World.cells?_some h1
   have h6:=h5 0 hpos
   rw[A06 (by omega)] at h6
   have e0:(a.add (0*sz)).add 0=a:=by simp[Addr.add]
   rw[e0] at h6
   constructor
   ·cases hs:a.spot with
    |none=>obtain ⟨b,o,s⟩:=a;simp only at hs;subst hs;rfl
    |some q=>
     exfalso
     simp only[World.cell?,hs,Option.isSome_some,if_true] at h6
     split at h6<;>cases h6
   ·by_cases hb:a.block<w.heap.size
    ·exact hb
    ·exfalso
     have:w.heap[a.block]? =none:=Array.getElem?_eq_none (by omega)
     simp[World.cell?,this] at h6
  have:=Rep.slice (w:=w) (I:=fun k=>k<w.heap.size) (mu:=fun _=>none) (l.map f) false (some a) a.block a.off sz cap (fun i j=>(w.cell? ⟨a.block,a.off+(i*sz+j),none⟩).getD undef)
   (fun h0=>by rw[A0b,hll] at h0;exact⟨(hA h0).1,fun _=>(hA h0).2⟩) (by rw[A0b,hll];exact hlc) (fun h=>by cases h) hcap
   (fun i hi=>by rw[A0b,hll] at hi;obtain⟨y,hy⟩:=get i hi;rw[hnr i y hy];exact hlen y)
   (fun i j hi hj=>by rw[A0b,hll] at hi;obtain⟨y,hy⟩:=get i hi;obtain⟨v,h1,_⟩:=cell i j y hy hj;rw[h1];rfl)
   (fun i j hi hj=>by rw[A0b,hll] at hi;obtain⟨y,hy⟩:=get i hi;obtain⟨v,h1,h2⟩:=cell i j y hy hj;rw[hnr i y hy,h1];exact h2)
  rw[A0b,hll] at this
  exact this
theorem FQ{fs:Array Field}(ht:P.underlying t=some (.struct fs))(h:DataW.trod enc P w 0 sp held n t cs=some x):∃ (m:Nat) (xs:List (DataW H×List MemPlace)),n=m+1/\cs.length=P.cellsOf t/\bk x=(xs.map bk).sum+1/\xs.length=fs.size/\∀ (i:Nat) (f:Field),fs[i]? =some f->DataW.trod enc P w 0 sp held m f.type ((cs.drop f.offset).take (P.cellsOf f.type))=xs[i]?:=by
 obtain⟨xs,m,rfl,rfl,hl,hxl,hf⟩:=DataW.trod_struct ht h
 exact⟨m,xs,rfl,hl,bk_agg xs _,hxl,hf⟩
end
def Tells{σ:Type}(n:Nat)(P:Program)(g:Nat)(lb:Array Value)(enc:σ->Array Value)(next:σ->σ)(live:σ->Prop)(s0 z:σ)(Kw:σ->World->Prop):Prop:=
 ∀(l:Nat) (J:σ->World->Prop),(∀ s W,J s W->Kw s W)->(∀ s W W',J s W->Below W.heap.size W W'->J s W')->
  (∀ s W,J s W->live s->YieldAt Fence.wide (n-1) P l (enc s) W fun e W'=>e=.returned (.bool true)/\J (next s) W')->
  ∀ W,J s0 W->CallsIn Fence.wide n P g (#[.func (.yield l) #[] #[]]++lb) W fun e W'=>(∃ v,e=.returned v)/\J z W'
variable{n:Nat}{P:Program}
theorem XW{σ:Type}{g:Operand}{ps:Array Tmp}{assign body:Code}{Q:Exit->Act->World->Prop}{a:Act}{w:World}
  {gf:Nat} {lb:Array Value} (hg:a.eval g=.func (.func gf) #[] lb) (eg:∀ args w,(callFunc gf args).run P w=.ok (.enter gf args) w)
  {enc:σ->Array Value} {next:σ->σ} {live:σ->Prop} {s0 z:σ} {Kw:σ->World->Prop} (hseq:Tells (n-1) P gf lb enc next live s0 z Kw) (hps:∀ s,(enc s).size=ps.size)
  (I:σ->World->Prop) (hK:∀ s W,I s W->Kw s W) (hIb:∀ s W W',I s W->Below W.heap.size W W'->I s W') (hIp:∀ s W l r o,w.heap.size<=l->W.heap[l]? =some (.loop r)->I s W->I s (W.putObj l o)) (h0:I s0 w) (a₁:σ->Act)
  (hassign:∀ (l:Nat) (s:σ) (W:World) (K:Act->World->Prop),K (a₁ s) W->
   assign.wpIn (Fence.wide.inRound l) (n-1-1) P (Exit.then K (fun _ _ _=>False)) {tmps:=(ps.zip (enc s)).foldl (fun t (p,v)=>t.setIfInBounds p v) a.tmps,defers:=[]} W)
  (hbody:∀ (l:Nat) (s:σ) (W:World),I s W->live s->body.wpIn (Fence.wide.inRound l) (n-1-1) P (fun e _ W'=>e=.normal/\KeepsOthers W W'/\I (next s) W') (a₁ s) W)
  (hdone:∀ (D:Nat) (W:World),w.heap.size<=D->I z W->W.heap[D]? =some (.deferred (some []))->Q .normal {a with defers:= {target:=.collected D,args:=#[]}::a.defers} W):
  (Code.rangeFunc g ps assign body).wpIn Fence.wide n P Q a w:=by
 refine wpIn_rangeFunc ?_
 intro fn hfn
 obtain⟨rec,hrec⟩:∃ rec:LoopState->Option Code->Loop,rec=fun st pe=> {state:=st,pending:=pe,fn,tmps:=a.tmps,params:=ps,assign,body,defers:=w.heap.size}:=⟨_,rfl⟩
 obtain⟨W1,hW1⟩:∃ W1,(w.alloc (.deferred (some []))).alloc (.loop (rec .ready none))=W1:=⟨_,rfl⟩
 have hL1:W1.heap[w.heap.size+1]? =some (.loop (rec .ready none)):=by
  rw[<-hW1];have:=World.alloc_heap_new (w.alloc (.deferred (some []))) (.loop (rec .ready none));rwa[World.size_alloc] at this
 have hK1:W1.heap[w.heap.size]? =some (.deferred (some [])):=by
  rw[<-hW1];exact(Below.heap_alloc _ _ _ (by simp)).trans (World.alloc_heap_new w _)
 have hI1:I s0 W1:=by rw[<-hW1];exact hIb _ _ _ (hIb _ _ _ h0 ((Below.refl _ w).alloc (A0e _) _)) ((Below.refl _ _).alloc (A0e _) _)
 refine⟨w.heap.size+1,[{target:=.collected w.heap.size,args:=#[]}],W1,{target:=.fn (.func gf) lb,args:=#[.func (.yield (w.heap.size+1)) #[] #[]]},W1,gf,
  #[.func (.yield (w.heap.size+1)) #[] #[]]++lb,W1,?_,?_,?_,?_,fun h=>(by cases h),?_⟩
 ·rw[<-hW1,hrec];exact run_enterLoop_outer _ _ _ _ _
 ·simp only[resolve,hg]
  simp[go_sem]
 ·intro f' _;trivial
 ·simp[invoke,go_sem,eg]
 ·refine(hseq (w.heap.size+1) (fun s W=>I s W/\W.heap[w.heap.size+1]? =some (.loop (rec .ready none))/\W.heap[w.heap.size]? =some (.deferred (some [])))
   (fun s W h=>hK s W h.1) (fun s W W' h hb=>⟨hIb _ _ _ h.1 hb,(hb.block _ (A0F.1 h.2.1).1).trans h.2.1,(hb.block _ (A0F.1 h.2.2).1).trans h.2.2⟩) ?_ W1 ⟨hI1,hL1,hK1⟩).mono ?_
  ·rintro s W ⟨hi,hl,hk⟩ hlive
   have hy:=run_yield (P:=P) (args:=enc s) hl (by rw[hrec];exact hps s)
   rw[hrec] at hy
   refine⟨fn,_,assign,body,hy,roundIn_of_wpIn hfn (hassign _ s W _ ⟨_,run_beginRound hl (by rw[hrec]),?_⟩)⟩
   have hlt:w.heap.size+1<W.heap.size:=(A0F.1 hl).1
   have hl2:(W.putObj (w.heap.size+1) (.loop {rec .ready none with state:=.busy})).heap[w.heap.size+1]? =some (.loop {rec .ready none with state:=.busy}):=World.putObj_heap_same hlt
   have hk2:(W.putObj (w.heap.size+1) (.loop {rec .ready none with state:=.busy})).heap[w.heap.size]? =some (.deferred (some [])):=(World.putObj_heap_other (by omega)).trans hk
   refine wpIn_mono (hbody _ s _ (hIp _ _ _ _ _ (by omega) hl hi) hlive) ?_
   rintro e a3 W3 ⟨rfl,hk3,hi3⟩
   have hl3:=hk3.same _ _ hl2 rfl
   have hr:=run_endRound (P:=P) none hl3
   have hlt3:=(A0F.1 hl3).1
   refine⟨_,_,hr,rfl,hIp _ _ _ _ _ (by omega) hl3 hi3,?_,(World.putObj_heap_other (by omega)).trans (hk3.same _ _ hk2 rfl)⟩
   rw[World.putObj_heap_same hlt3,hrec]
   rfl
  ·rintro e W2 ⟨⟨v,rfl⟩,hi,hl,hk⟩
   refine⟨none,_,by have:=run_endLoop (P:=P) hl (by rw[hrec];simp);rw[hrec] at this;exact this,hdone _ _ (A0e _) (hIp _ _ _ _ _ (by omega) hl hi) ((World.putObj_heap_other (by omega)).trans hk)⟩
theorem A4.sref_grow{P:Program}{f:FuncId}{ds:List D}{n sz m:Nat}{es es':List (List D)}(h:A4 P f (.gref 1 n::ds) [(1,.grow (es.take n) sz)] (.gref 0 m) [(0,.grow es' sz)])(hpd:Av ds=true)(hpe:Am es=true)(hpu:Am es'=true)(hn:n<=es.length)(hm:es.length<=9223372036854775807):
  A4 P f (.sref 1 0 n es.length sz::ds) [(1,.rows es sz)] (.gref 0 m) [(0,.grow es' sz)]:=by
 unfold A4 at h|-
 obtain⟨hent,h⟩:=h
 refine⟨hent,fun w M0 G I mu vs hga hdl hw hr=>?_⟩
 have hb1:Ai [(1,Blk.rows es sz)] 1=some (.rows es sz):=rfl
 obtain⟨k,T,us,h1,h2,h3,h4,h5⟩:=hw.blk 1 _ hb1
 have hloc:=hw.loc 1 _ _ k hb1 h1 rfl
 let mu2:Nat->Option Value:=fun b=>if b=1 then some (.slice (some ⟨k,0,none⟩) n es.length) else mu b
 let G2:Gh:=⟨G.st,fun b=>if b=1 then none else G.nm b,[],Fence.wide,0,.inl rfl⟩
 have htl:(es.take n).length=n:=by simp;omega
 have hlk:∀ b x,Ai [(1,Blk.grow (es.take n) sz)] b=some x->b=1/\x=.grow (es.take n) sz:=fun b x hx=>by
  simp only[Ai] at hx
  by_cases hb:1=b
  ·subst hb;simp at hx;exact⟨rfl,hx.symm⟩
  ·have:(1==b)=false:=by simpa using hb
   simp[this] at hx
 have hl1:∀ v j,mu2 1=some v->Ap v=some j->j=k:=fun v j hv hj=>by
  simp only[mu2,if_true,A04] at hv
  subst hv
  simp only[Ap] at hj
  split at hj
  ·cases hj
  ·simpa using hj.symm
 have hW:Aq w M0 G2 (frN 4) I mu2 (Ai [(1,Blk.grow (es.take n) sz)]) w:=by
  refine⟨fun b x hx=>?_,fun b x v j hx hv hj=>?_,fun b c x y v u j hx hy _ _ _ _=>?_,fun b hb=>?_,hw.lt,hw.os,hw.tape,hw.output,hw.grown,hw.old,hw.iold,hw.inew,fun b x hb hx=>?_,fun b x hx hb=>?_⟩
  ·obtain⟨rfl,rfl⟩:=hlk b x hx
   refine⟨some ⟨k,0,none⟩,es.length,T,us,by simp only[mu2,if_true,htl],fun i hi=>?_,by simpa[maxLen] using hm,?_⟩
   ·have hi':i<n:=by rw[htl] at hi;exact hi
    have:nr (es.take n) i=nr es i:=by simp[nr,A03,A1C,hi']
    rw[this];exact h4 i (by omega)
   ·rcases A0M es.length with h0|h0
    ·exact .inl ⟨h0,by rw[A0G.1 h0];simp⟩
    ·refine .inr ⟨k,h0,rfl,h2,by rw[htl];exact hn,h3,fun i j hi hj=>?_⟩
     have hi':i<n:=by rw[htl] at hi;exact hi
     have:nr (es.take n) i=nr es i:=by simp[nr,A03,A1C,hi']
     rw[this]
     have h6:=h5 i j (by omega) hj
     exact h6.unmu (Co (HO hpe i) j)
  ·obtain⟨rfl,rfl⟩:=hlk b x hx
   have:=hl1 v j hv hj
   subst this;exact hloc
  ·rw[(hlk b x hx).1,(hlk c y hy).1]
  ·have:=hw.fresh b hb
   have h2:=hb.1
   simp only[mu2]
   rw[if_neg (by omega)];exact this
  ·have hx':(if b=1 then none else G.nm b)=some x:=hx
   split at hx'
   ·cases hx'
   ·rename_i hne
    simp only[mu2,if_neg hne]
    exact hw.keep b x hb hx'
  ·obtain⟨rfl,rfl⟩:=hlk b x hx
   have:=hb.1;omega
 have hargs:Bp w I mu2 (.gref 1 n::ds) vs:=by
  obtain⟨g1,g2⟩:=hr
  refine⟨g1,fun i hi=>?_⟩
  cases i with
  |zero=>
   have:=g2 0 (by simp)
   simp only[nd,A0K] at this|-
   generalize nv vs 0=v at this
   cases this with
   |sref _ _ _ _ _ k' hk=>
    rw[h1] at hk
    simp only[A04,A0N,A17,and_true] at hk
    subst hk
    have:=Rep.gref (w:=w) (I:=I) (mu:=mu2) 1 n (some ⟨k,0,none⟩) es.length (by simp[mu2])
    simpa using this
  |succ i=>
   have h6:=g2 (i+1) hi
   have h7:=Co hpd i
   simp only[nd,A1R] at h6|-
   exact h6.unmu h7
 refine(h w M0 G2 I mu2 vs hga rfl hW hargs).mono fun e w' ⟨v,I',mu',he,hv,R⟩=>?_
 let mu3:Nat->Option Value:=fun b=>if b=1 then mu 1 else mu' b
 have hl0:∀ b x,Ai [(0,Blk.grow es' sz)] b=some x->b=0/\x=.grow es' sz:=fun b x hx=>by
  simp only[Ai] at hx
  by_cases hb:0=b
  ·subst hb;simp at hx;exact⟨rfl,hx.symm⟩
  ·have:(0==b)=false:=by simpa using hb
   simp[this] at hx
 have h30:mu3 0=mu' 0:=by simp[mu3]
 refine⟨v,I',mu3,he,?_,⟨fun b x hx=>?_,fun b x u j hx hu hj=>?_,fun b c x y u u' j hx hy _ _ _ _=>?_,fun b hb=>?_,R.lt,R.os,R.tape,R.output,R.grown,R.old,R.iold,R.inew,fun b x hb hx=>?_,fun b x hx hb=>?_⟩⟩
 ·cases hv with
  |gref _ _ A cap hk=>exact .gref 0 m A cap (by rw[h30];exact hk)
 ·obtain⟨rfl,rfl⟩:=hl0 b x hx
  obtain⟨A,cap,T',us',g1,g2,g3,g4⟩:=R.blk 0 _ hx
  refine⟨A,cap,T',us',by rw[h30];exact g1,g2,g3,?_⟩
  rcases g4 with g4|⟨k',q0,q1,q2,q3,q4,q5⟩
  ·exact .inl g4
  ·exact .inr ⟨k',q0,q1,q2,q3,q4,fun i j hi hj=>(q5 i j hi hj).unmu (Co (HO hpu i) j)⟩
 ·obtain⟨rfl,rfl⟩:=hl0 b x hx
  rw[h30] at hu
  exact R.loc 0 _ u j hx hu hj
 ·rw[(hl0 b x hx).1,(hl0 c y hy).1]
 ·have h2:=hb.1
  simp only[mu3]
  rw[if_neg (by omega)]
  exact R.fresh b hb
 ·by_cases hb1:b=1
  ·subst hb1
   simp only[mu3,if_true]
   exact hw.keep 1 x hb hx
  ·simp only[mu3,if_neg hb1]
   exact R.keep b x hb (by show(if b=1 then none else G.nm b)=_;rw[if_neg hb1];exact hx)
 ·obtain⟨rfl,rfl⟩:=hl0 b x hx
  exact R.used 0 _ hx hb
def Au(ks:List ByteArray):List ByteArray:=((ks.map (·.data.toList)).mergeSort (fun x y=>decide (x<=y))).map fun l=>⟨l.toArray⟩
theorem MC{a b:List (List UInt8)}(h:a.Perm b):a.mergeSort (fun x y=>decide (x<=y))=b.mergeSort (fun x y=>decide (x<=y)):=by
 have tr:∀ x y z:List UInt8,decide (x<=y)=true->decide (y<=z)=true->decide (x<=z)=true:=fun x y z h1 h2=>decide_eq_true (List.le_trans (of_decide_eq_true h1) (of_decide_eq_true h2))
 have tl:∀ x y:List UInt8,(decide (x<=y) ||decide (y<=x))=true:=fun x y=>by
  rcases List.le_total x y with h|h<;>simp [h]
 refine List.Perm.eq_of_pairwise (le:=fun x y:List UInt8=>decide (x<=y)) (fun x y _ _ h1 h2=>List.le_antisymm (of_decide_eq_true h1) (of_decide_eq_true h2)) (List.pairwise_mergeSort tr tl a) (List.pairwise_mergeSort tr tl b) ((List.mergeSort_perm a _).trans (h.trans (List.mergeSort_perm b _).symm))
def Nx(P:Program)(f g:FuncId)(K:TypeId):Prop:=∀ (Bm b nn:Nat) (D0:DataW Unit) (R:Value->Option (DataW Unit×List MemPlace)) (w:World),Bm<w.heap.size->w.cell? ⟨Bm,0,none⟩=some (.map (some b))->w.ownsMap P K R b nn D0->Maps.size D0<=maxLen->Maps.size D0*16<=140737488355328->
 Calls P f #[.func (.func g) #[] #[.pointer (some ⟨Bm,0,none⟩)]] w fun e w'=>∃ (v:Value) (ss:List (List UInt8)),e=.returned v/\ss.Perm (strKeys D0)/\w'.ownsRow w.heap.size K 1 v ss.length ((ss.mergeSort (fun x y=>decide (x<=y))).map Proofs.encStr)/\(v=.slice none 0 0↔ss=[])/\Below w.heap.size w w'
theorem A4.of_sorted{P:Program}{f g:FuncId}{K:TypeId}(he:Bc P f=true)(hu:P.underlying K=some .string)(hc:Nx P f g K)(es:List (Value×Nat×D))(ck:Nat)(ks:List ByteArray)(hks:es.map (·.1)=ks.map Value.string)
  (hb:∀ y ∈ es,y.2.1<ck) (hbn:(es.map (·.2.1)).Nodup) (hkn:ks.Nodup) (hsz:∀ k ∈ ks,k.size<=9223372036854775807) (hlen:ks.length<=1048576):
  A4 P f [.func (.func g) [] [.ref 3 0 0 1]] [(1,.map es ck),(3,.rows [[.mref 1]] 1)] (.slice ((Au ks).map fun k=>[.val (.string k)]) false) [(1,.map es ck),(3,.rows [[.mref 1]] 1)]:=by
 unfold A4
 refine⟨he,fun w M0 G I mu vs hga hdl hw hr=>?_⟩
 obtain⟨km,l,m1,m2,m3,m4,m5⟩:=hw.blk 1 _ rfl
 obtain⟨kb,T,us,b1,b2,b3,b4,b5⟩:=hw.blk 3 (.rows [[.mref 1]] 1) rfl
 have hlkb:=(hw.loc 3 _ _ kb rfl b1 rfl).2.2
 obtain⟨u,rfl⟩:∃ u,us=[u]:=by
  match us,b3 with
  |[u],_=>exact ⟨u,rfl⟩
 have hu0:=b5 0 0 (by simp) (by simp)
 simp only[nr,nd,nv,A0K,A1X,A1m] at hu0
 cases hu0 with
 |mref _ k' hk'=>
 rw[m1] at hk'
 simp only[A04,A1Y] at hk'
 subst hk'
 obtain⟨g1,g2⟩:=hr
 obtain⟨v0,rfl⟩:∃ v,vs=[v]:=by
  match vs,g1 with
  |[v],_=>exact ⟨v,rfl⟩
 have hv0:=g2 0 (by simp)
 simp only[nd,nv,A0K] at hv0
 cases hv0 with
 |func _ _ _ us vs hl1 hl2 h h'=>
 obtain rfl:us=[]:=A0G.1 hl1
 obtain⟨v1,rfl⟩:∃ v,vs=[v]:=by
  match vs,hl2 with
  |[v],_=>exact ⟨v,rfl⟩
 have hv1:=h' 0 (by simp)
 simp only[nd,nv,A0K] at hv1
 cases hv1 with
 |ref _ _ _ _ k' hk'=>
 rw[b1] at hk'
 simp only[A04,A0N,A17,and_true] at hk'
 subst hk'
 simp only[A1X,A1m,A1b]
 let R:Value->Option (DataW Unit×List MemPlace):=fun _=>some (.nil,[])
 have hkey:∀ x ∈ l,∃ k ∈ ks,x.key=.string k:=fun x hx=>by
  have:x.key ∈ es.map (·.1):=by rw[<-m3];exact A0j.2 ⟨x,hx,rfl⟩
  rw[hks] at this
  obtain⟨k,hk,h⟩:=A0j.1 this
  exact⟨k,hk,h.symm⟩
 have hrd:∀ x ∈ l,∀ k,k ∈ ks->x.key=.string k->WideElems.rd P K R x=some (.string k.data.toList,.nil):=fun x hx k hk h=>by
  have hm:k.size<=maxLen:=hsz k hk
  simp only[WideElems.rd,keyOf,hu,mapKey,h,if_pos hm,A1w,R,A0U]
 have hfit:WideElems.Fit P K R l.toArray ck:=by
  refine⟨?_,⟨?_,?_,?_⟩,?_⟩
  ·have:=congrArg List.length m3
   have h2:=congrArg List.length hks
   simp only[A0b] at this h2
   simp only[A0H,maxLen];omega
  ·intro x hx
   have:x.born ∈ es.map (·.2.1):=by rw[<-m4];exact A0j.2 ⟨x,hx,rfl⟩
   obtain⟨y,hy,h⟩:=A0j.1 this
   rw[<-h];exact hb y hy
  ·show(l.map (·.born)).Nodup
   rw[m4];exact hbn
  ·show(l.map (·.key)).Nodup
   rw[m3,hks]
   exact List.Pairwise.map Value.string (fun a b h=>by simpa using h) hkn
  ·intro x hx
   obtain⟨k,hk,h⟩:=hkey x hx
   exact⟨_,hrd x hx k hk h⟩
 have hlk:l.length=ks.length:=by
  have:=congrArg List.length m3
  have h2:=congrArg List.length hks
  simp only[A0b] at this h2
  omega
 have hown:w.ownsMap P K R km l.length (.map ((l.map (WideElems.rg P K R)).foldr DataW.insert [])):=⟨l.toArray,ck,m2,hfit,by simp,rfl⟩
 have hmap:l.map (fun x=>strOf (WideElems.rg P K R x).1)=ks.map (·.data.toList):=by
  have:∀ (l:List MapEntry) (ks:List ByteArray),(∀ x ∈ l,∀ k,k ∈ ks->x.key=.string k->WideElems.rd P K R x=some (.string k.data.toList,.nil))->l.map (·.key)=ks.map Value.string->l.map (fun x=>strOf (WideElems.rg P K R x).1)=ks.map (·.data.toList):=by
   intro l
   induction l with
   |nil=>intro ks _ h;cases ks with
    |nil=>rfl
    |cons k ks=>simp at h
   |cons x l ih=>
    intro ks hr h
    cases ks with
    |nil=>simp at h
    |cons k ks=>
     simp only[A0k,List.cons.injEq] at h|-
     refine⟨?_,ih ks (fun y hy k' hk'=>hr y (A0l _ hy) k' (A0l _ hk')) h.2⟩
     simp only[WideElems.rg,hr x (A0C ..) k (A0C ..) h.1,A0D,strOf]
  exact this l ks hrd (by rw[m3,hks])
 have hperm:(strKeys (DataW.map ((l.map (WideElems.rg P K R)).foldr DataW.insert []))).Perm (ks.map (·.data.toList)):=by
  rw[<-hmap]
  have h1:=WideShapes.sorted_perm (l.map (WideElems.rg P K R))
  have h2:=h1.map (fun p=>strOf p.1)
  rw[A1o] at h2
  exact h2
 have hsize:Maps.size (DataW.map ((l.map (WideElems.rg P K R)).foldr DataW.insert []))=ks.length:=by
  rw[Maps.size_eq,(WideShapes.sorted_perm _).length_eq,A0b,hlk]
 have hcell:w.cell? ⟨kb,0,none⟩=some (.map (some km)):=by
  simp[World.cell?,b2]
 refine(hc kb km l.length _ R w hlkb hcell hown (by rw[hsize];simp only[maxLen];omega) (by rw[hsize];omega)).mono fun e w' ⟨v,ss,hev,hss,⟨ho1,ho⟩,hnil,hbel⟩=>?_
 have hmerge:ss.mergeSort (fun x y=>decide (x<=y))=(ks.map (·.data.toList)).mergeSort (fun x y=>decide (x<=y)):=MC (hss.trans hperm)
 have hsl:ss.length=ks.length:=by rw[(hss.trans hperm).length_eq,A0b]
 have hSl:(Au ks).length=ks.length:=by simp[Au]
 have hcells:∀ i,i<(Au ks).length->((ss.mergeSort (fun x y=>decide (x<=y))).map Proofs.encStr)[i]? =some (.string ((Au ks).getD i default)):=fun i hi=>by
  rw[hmerge]
  simp only[Au,A0A,A03]
  have hi':i<((ks.map (·.data.toList)).mergeSort (fun x y=>decide (x<=y))).length:=by simpa[Au] using hi
  rw[A06 hi']
  rfl
 have hstr:∀ i,i<(Au ks).length->okP (.string ((Au ks).getD i default)):=fun i hi=>by
  have hm:(Au ks).getD i default ∈ Au ks:=by
   rw[A03,A06 hi];exact A18 hi
  obtain⟨a,ha,hae⟩:=A0j.1 hm
  have ha':=(List.mergeSort_perm _ _).mem_iff.1 ha
  obtain⟨k,hk,rfl⟩:=A0j.1 ha'
  have:(⟨(k.data.toList).toArray⟩:ByteArray)=k:=by simp
  rw[<-hae,this]
  exact hsz k hk
 have key:∀ I':Nat->Prop,(∀ k,I k->I' k)->(∀ k,I' k->I k∨w.heap.size<=k)->(∀ k,I' k->k<w'.heap.size)->Rep w' I' mu (.slice ((Au ks).map fun k=>[.val (.string k)]) false) v->∃ v I' mu',e=.returned v/\Rep w' I' mu' (.slice ((Au ks).map fun k=>[.val (.string k)]) false) v/\Aq w M0 G (frN 4) I' mu' (Ai [(1,.map es ck),(3,.rows [[.mref 1]] 1)]) w':=
  fun I' a1 a2 a3 hv=>⟨v,I',mu,hev,hv,hw.below a1 a2 a3 hbel⟩
 rcases ho with⟨rfl,h0⟩|⟨gb,cap,cur,rfl,h1,h2,h3,h4,h5,h6⟩
 ·have hz:Au ks=[]:=A0J (by omega)
  refine key I (fun _ h=>h) (fun _ h=>.inl h) (fun k hk=>A1f (hw.lt k hk) hbel.size) ?_
  rw[hz]
  exact .slice [] false none 0 0 1 0 (fun _ _=>undef) (fun h=>absurd h (by simp)) (A0e _) (fun h=>by cases h) (by decide) (fun i hi=>absurd hi (by simp)) (fun i j hi=>absurd hi (by simp)) (fun i j hi=>absurd hi (by simp))
 ·refine key (fun k=>I k∨k=gb) (fun _ h=>.inl h) (fun k h=>h.elim .inl fun h=>.inr (by omega)) (fun k h=>?_) ?_
  ·rcases h with h|rfl
   ·exact A1f (hw.lt k h) hbel.size
   ·exact(A0F.1 h2).1
  ·have hl2:ss.length=((Au ks).map fun k=>[D.val (.string k)]).length:=by rw[A0b,hSl,hsl]
   rw[hl2]
   have hL:((Au ks).map fun k=>[D.val (.string k)]).length=(Au ks).length:=A0b ..
   have hnr:∀ i,i<(Au ks).length->nr ((Au ks).map fun k=>[D.val (.string k)]) i=[.val (.string ((Au ks).getD i default))]:=fun i hi=>by
    simp only[nr,A03,A0A,A06 hi,A0U,A0D]
   have:=Rep.slice (w:=w') (I:=fun k=>I k∨k=gb) (mu:=mu) ((Au ks).map fun k=>[D.val (.string k)]) false (some ⟨gb,0,none⟩) gb 0 1 cap (fun i j=>.string ((Au ks).getD i default)) (fun _=>⟨rfl,fun _=>.inr rfl⟩) (by rw[<-hl2];exact h3) (fun h=>by cases h) h4
    (fun i hi=>by rw[hL] at hi;rw[hnr i hi];rfl)
    (fun i j hi hj=>by
     rw[hL] at hi
     obtain rfl:j=0:=by omega
     have h7:=hcells i hi
     rw[<-h6,A1C] at h7
     have hlt:i<ss.length*1:=by omega
     rw[if_pos hlt] at h7
     simp only[World.cell?,h2,A1m,Nat.mul_one,A1b]
     rw[<-Array.getElem?_toList]
     simpa using h7)
    (fun i j hi hj=>by
     rw[hL] at hi
     obtain rfl:j=0:=by omega
     rw[hnr i hi]
     exact .val _ (hstr i hi))
   exact this
theorem A3.of_calls{P:Program}{f:FuncId}{ds:List D}{r:D}(he:Bc P f=true)(hr:r.pure=true)
  (h:∀ (w:World) (I:Nat->Prop) (vs:List Value),GIn P w I->(∀ k,I k->k<w.heap.size)->Bp w I (fun _=>none) ds vs->∃ v,(∀ w':World,Rep w' (fun _=>False) (fun _=>none) r v)/\Calls P f vs.toArray w fun e w'=>e=.returned v/\Below w.heap.size w w'):A3 P f ds r:=by
 unfold A3
 refine⟨he,fun w I vs hg hI hl hv=>?_⟩
 obtain⟨v,hrv,hc⟩:=h w I vs hg hI ⟨hl,hv⟩
 refine hc.mono fun e w' ⟨he,hb⟩=>⟨v,I,he,?_,fun _ h=>h,fun _ h=>.inl h,fun k hk=>A1f (hI k hk) hb.size,hb⟩
 exact(hrv w').mono (fun _ h=>h.elim) (fun _ h=>h.elim) (fun _ _ h=>h)
theorem Bp.vals{w:World}{I:Nat->Prop}{mu:Nat->Option Value}:∀ {us vs:List Value},Bp w I mu (us.map .val) vs->vs=us
 |[],vs,h=>A0G.1 h.1
 |u::us,[],h=>by have:=h.1;simp at this
 |u::us,v::vs,h=>by
  have h0:=h.2 0 (by simp)
  simp only[nd,nv,A0k,A0K] at h0
  cases h0 with
  |val _ _=>
   rw[Bp.vals (us:=us) (vs:=vs) ⟨by have:=h.1;simpa using this,fun i hi=>by
    have:=h.2 (i+1) (by simpa using hi)
    simpa[nd,nv] using this⟩]
theorem Bp.oks{w:World}{I:Nat->Prop}{mu:Nat->Option Value}{us vs:List Value}(h:Bp w I mu (us.map .val) vs):∀ u ∈ us,okP u:=by
 intro u hu
 obtain⟨i,hi,rfl⟩:=A16.1 hu
 have:=h.2 i (by simpa using hi)
 simp only[nd,A03,A0A,A06 hi,A0U,A0D] at this
 generalize us[i]=u at this
 generalize nv vs i=x at this
 cases this with
 |val _ ok=>exact ok
theorem JT{w:World}{v:Value}(h:okP v):Rep w (fun _=>False) (fun _=>none) (.val v) v:=.val v h
theorem JU{w:World}{u v:Value}(h:okP u)(h':okP v):Rep w (fun _=>False) (fun _=>none) (.tup [.val u,.val v]) (.tuple #[u,v]):=
 .tup [.val u,.val v] [u,v] rfl fun i hi=>by
  match i,hi with
  |0,_=>exact Rep.val (w:=w) u h
  |1,_=>exact Rep.val (w:=w) v h'
theorem A3.of_vals{P:Program}{f:FuncId}{us:List Value}{r:D}(he:Bc P f=true)(hr:r.pure=true)
  (h:∀ (w:World) (I:Nat->Prop),GIn P w I->(∀ u ∈ us,okP u)->∃ v,(∀ w':World,Rep w' (fun _=>False) (fun _=>none) r v)/\Calls P f us.toArray w fun e w'=>e=.returned v/\Below w.heap.size w w'):A3 P f (us.map .val) r:=
 A3.of_calls he hr fun w I vs hg hI hv=>by
  obtain⟨v,h1,h2⟩:=h w I hg hv.oks
  rw[hv.vals]
  exact⟨v,h1,h2⟩
theorem A4.args{P:Program}{f:FuncId}{ds ds':List D}{H H':Hp}{r:D}(h:A4 P f ds H r H')(hl:loL ds' ds):A4 P f ds' H r H':=by
 unfold A4 at h|-
 exact⟨h.1,fun w M0 G I mu vs hga hdl hw hr=>h.2 w M0 G I mu vs hga hdl hw (by
  obtain⟨h1,h2⟩:=Ce hl
  exact⟨hr.1.trans h1,fun i hi=>(hr.2 i (by omega)).lo (h2 i (by omega))⟩)⟩
def LI(P:Program)(f g:FuncId):Prop:=∀ (Bm:Nat) (w:World),Bm<w.heap.size->w.cell? ⟨Bm,0,none⟩=some (.map none)->
 Calls P f #[.func (.func g) #[] #[.pointer (some ⟨Bm,0,none⟩)]] w fun e w'=>e=.returned (.slice none 0 0)/\Below w.heap.size w w'
theorem A4.of_sortedN{P:Program}{f g:FuncId}(he:Bc P f=true)(hc:LI P f g):
  A4 P f [.func (.func g) [] [.ref 3 0 0 1]] [(3,.rows [[.val (.map none)]] 1)] (.slice [] true) [(3,.rows [[.val (.map none)]] 1)]:=by
 unfold A4
 refine⟨he,fun w M0 G I mu vs hga hdl hw hr=>?_⟩
 obtain⟨kb,T,us,b1,b2,b3,b4,b5⟩:=hw.blk 3 (.rows [[.val (.map none)]] 1) rfl
 have hlkb:=(hw.loc 3 _ _ kb rfl b1 rfl).2.2
 obtain⟨u,rfl⟩:∃ u,us=[u]:=by
  match us,b3 with
  |[u],_=>exact ⟨u,rfl⟩
 have hu0:=b5 0 0 (by simp) (by simp)
 simp only[nr,nd,nv,A0K,A1X,A1m] at hu0
 cases hu0 with
 |val _ _=>
 obtain⟨g1,g2⟩:=hr
 obtain⟨v0,rfl⟩:∃ v,vs=[v]:=by
  match vs,g1 with
  |[v],_=>exact ⟨v,rfl⟩
 have hv0:=g2 0 (by simp)
 simp only[nd,nv,A0K] at hv0
 cases hv0 with
 |func _ _ _ us vs hl1 hl2 h h'=>
 obtain rfl:us=[]:=A0G.1 hl1
 obtain⟨v1,rfl⟩:∃ v,vs=[v]:=by
  match vs,hl2 with
  |[v],_=>exact ⟨v,rfl⟩
 have hv1:=h' 0 (by simp)
 simp only[nd,nv,A0K] at hv1
 cases hv1 with
 |ref _ _ _ _ k' hk'=>
 rw[b1] at hk'
 simp only[A04,A0N,A17,and_true] at hk'
 subst hk'
 simp only[A1X,A1m,A1b]
 have hcell:w.cell? ⟨kb,0,none⟩=some (.map none):=by simp[World.cell?,b2]
 refine(hc kb w hlkb hcell).mono fun e w' ⟨hev,hbel⟩=>⟨_,I,mu,hev,?_,hw.below (fun _ h=>h) (fun _ h=>.inl h) (fun k hk=>A1f (hw.lt k hk) hbel.size) hbel⟩
 exact .slice [] true none 0 0 1 0 (fun _ _=>undef) (fun h=>absurd h (by simp)) (A0e _) (fun _=>rfl) (by decide) (fun i hi=>absurd hi (by simp)) (fun i j hi=>absurd hi (by simp)) (fun i j hi=>absurd hi (by simp))
end Go.Ab
namespace Go.Proofs
open Go.Proofs Go.Proofs.Tryz Go.RowKit Go.Shelf
def Tryz.sValid_ren:Go.Shelf.Ren:=⟨fun|196=>220|259=>240|n=>n,fun|9=>9|4=>4|3=>3|5=>5|12=>12|119=>289|0=>0|46=>190|139=>292|138=>291|53=>23|n=>n,fun|3=>1|4=>2|n=>n⟩
theorem Tryz.sValid:Go.Proofs.Lays.n196 prog Tryz.sValid_ren:= {
 mixed:=by kernel_rfl
 f196:=func220.trans (congrArg some (by kernel_rfl))
 f259:=func240.trans (congrArg some (by kernel_rfl))
 t0:=underlying0
 a0:=isAgg0
 z0:=sizeOf0
 v0:=zeroValue0
 t3:=underlying3
 a3:=isAgg3
 z3:=sizeOf3
 v3:=zeroValue3
 t4:=underlying4
 a4:=isAgg4
 z4:=sizeOf4
 v4:=zeroValue4
 t5:=underlying5
 a5:=isAgg5
 z5:=sizeOf5
 v5:=zeroValue5
 t9:=underlying9
 a9:=isAgg9
 z9:=sizeOf9
 v9:=zeroValue9
 t12:=underlying12
 a12:=isAgg12
 z12:=sizeOf12
 v12:=zeroValue12
 t46:=underlying190
 a46:=isAgg190
 z46:=sizeOf190
 v46:=zeroValue190
 t53:=underlying23
 a53:=isAgg23
 z53:=sizeOf23
 v53:=zeroValue23
 t119:=underlying289
 a119:=isAgg289
 z119:=sizeOf289
 t138:=underlying291
 a138:=isAgg291
 z138:=sizeOf291
 v138:=zeroValue291
 t139:=underlying292
 a139:=isAgg292
 z139:=sizeOf292
 v139:=zeroValue292
 g3:=by kernel_rfl
 g4:=by kernel_rfl}
def Tryz.sDecode_ren:Go.Shelf.Ren:=⟨fun|197=>267|260=>272|n=>n,fun|9=>9|21=>21|3=>3|4=>4|5=>5|105=>319|119=>289|0=>0|46=>190|139=>292|138=>291|n=>n,fun|3=>1|4=>2|n=>n⟩
theorem Tryz.sDecode:Go.Proofs.Lays.n197 prog Tryz.sDecode_ren:= {
 mixed:=by kernel_rfl
 f197:=func267.trans (congrArg some (by kernel_rfl))
 f260:=func272.trans (congrArg some (by kernel_rfl))
 t0:=underlying0
 a0:=isAgg0
 z0:=sizeOf0
 v0:=zeroValue0
 t3:=underlying3
 a3:=isAgg3
 z3:=sizeOf3
 v3:=zeroValue3
 t4:=underlying4
 a4:=isAgg4
 z4:=sizeOf4
 v4:=zeroValue4
 t5:=underlying5
 a5:=isAgg5
 z5:=sizeOf5
 v5:=zeroValue5
 t9:=underlying9
 a9:=isAgg9
 z9:=sizeOf9
 v9:=zeroValue9
 t21:=underlying21
 a21:=isAgg21
 z21:=sizeOf21
 v21:=zeroValue21
 t46:=underlying190
 a46:=isAgg190
 z46:=sizeOf190
 v46:=zeroValue190
 t105:=underlying319
 a105:=isAgg319
 z105:=sizeOf319
 v105:=zeroValue319
 t119:=underlying289
 a119:=isAgg289
 z119:=sizeOf289
 t138:=underlying291
 a138:=isAgg291
 z138:=sizeOf291
 v138:=zeroValue291
 t139:=underlying292
 a139:=isAgg292
 z139:=sizeOf292
 v139:=zeroValue292
 g3:=by kernel_rfl
 g4:=by kernel_rfl}
def Tryz.sItoa_ren:Go.Shelf.Ren:=⟨fun|173=>226|246=>243|283=>250|284=>251|285=>252|286=>253|129=>173|317=>262|318=>263|319=>264|320=>265|337=>270|338=>271|n=>n,fun|2=>2|3=>3|9=>9|4=>4|171=>299|0=>0|53=>23|37=>250|5=>5|173=>301|212=>316|51=>229|20=>20|213=>317|46=>190|232=>323|233=>324|n=>n,fun|17=>3|18=>4|19=>5|n=>n⟩
theorem Tryz.sItoa:Go.Proofs.LaysM.n173 prog Tryz.sItoa_ren:= {
 mixed:=by kernel_rfl
 f129:=func173.trans (congrArg some (by kernel_rfl))
 f173:=func226.trans (congrArg some (by kernel_rfl))
 f246:=func243.trans (congrArg some (by kernel_rfl))
 f283:=func250.trans (congrArg some (by kernel_rfl))
 f284:=func251.trans (congrArg some (by kernel_rfl))
 f285:=func252.trans (congrArg some (by kernel_rfl))
 f286:=func253.trans (congrArg some (by kernel_rfl))
 f317:=func262.trans (congrArg some (by kernel_rfl))
 f318:=func263.trans (congrArg some (by kernel_rfl))
 f319:=func264.trans (congrArg some (by kernel_rfl))
 f320:=func265.trans (congrArg some (by kernel_rfl))
 f337:=func270.trans (congrArg some (by kernel_rfl))
 f338:=func271.trans (congrArg some (by kernel_rfl))
 t0:=underlying0
 a0:=isAgg0
 z0:=sizeOf0
 v0:=zeroValue0
 t2:=underlying2
 a2:=isAgg2
 z2:=sizeOf2
 v2:=zeroValue2
 t3:=underlying3
 a3:=isAgg3
 z3:=sizeOf3
 v3:=zeroValue3
 t4:=underlying4
 a4:=isAgg4
 z4:=sizeOf4
 v4:=zeroValue4
 t5:=underlying5
 a5:=isAgg5
 z5:=sizeOf5
 v5:=zeroValue5
 t9:=underlying9
 a9:=isAgg9
 z9:=sizeOf9
 v9:=zeroValue9
 t20:=underlying20
 a20:=isAgg20
 z20:=sizeOf20
 v20:=zeroValue20
 t37:=underlying250
 a37:=isAgg250
 z37:=sizeOf250
 v37:=zeroValue250
 t46:=underlying190
 a46:=isAgg190
 z46:=sizeOf190
 v46:=zeroValue190
 t51:=underlying229
 a51:=isAgg229
 z51:=sizeOf229
 v51:=zeroValue229
 t53:=underlying23
 a53:=isAgg23
 z53:=sizeOf23
 v53:=zeroValue23
 t171:=underlying299
 a171:=isAgg299
 z171:=sizeOf299
 v171:=zeroValue299
 t173:=underlying301
 a173:=isAgg301
 z173:=sizeOf301
 v173:=zeroValue301
 t212:=underlying316
 a212:=isAgg316
 z212:=sizeOf316
 v212:=zeroValue316
 t213:=underlying317
 a213:=isAgg317
 z213:=sizeOf317
 t232:=underlying323
 a232:=isAgg323
 z232:=sizeOf323
 v232:=zeroValue323
 t233:=underlying324
 a233:=isAgg324
 z233:=sizeOf324
 v233:=zeroValue324
 g17:=by kernel_rfl
 g18:=by kernel_rfl
 g19:=by kernel_rfl
 i0:=by kernel_rfl
 i2:=by kernel_rfl
 i3:=by kernel_rfl
 i4:=by kernel_rfl
 i5:=by kernel_rfl
 i9:=by kernel_rfl
 i20:=by kernel_rfl
 i37:=by kernel_rfl
 i46:=by kernel_rfl
 i51:=by kernel_rfl
 i53:=by kernel_rfl
 i171:=by kernel_rfl
 i173:=by kernel_rfl
 i212:=by kernel_rfl
 i232:=by kernel_rfl
 i233:=by kernel_rfl
 m17:=by kernel_rfl
 m18:=by kernel_rfl
 m19:=by kernel_rfl}
def Tryz.sCut_ren:Go.Shelf.Ren:=⟨fun|103=>161|210=>204|206=>205|n=>n,fun|9=>9|4=>4|24=>219|3=>3|n=>n,fun|n=>n⟩
theorem Tryz.sCut:Go.Proofs.Lays.n103 prog Tryz.sCut_ren:= {
 mixed:=by kernel_rfl
 f103:=func161.trans (congrArg some (by kernel_rfl))
 f206:=func205.trans (congrArg some (by kernel_rfl))
 f210:=func204.trans (congrArg some (by kernel_rfl))
 t3:=underlying3
 a3:=isAgg3
 z3:=sizeOf3
 v3:=zeroValue3
 t4:=underlying4
 a4:=isAgg4
 z4:=sizeOf4
 v4:=zeroValue4
 t9:=underlying9
 a9:=isAgg9
 z9:=sizeOf9
 v9:=zeroValue9
 t24:=underlying219
 a24:=isAgg219
 z24:=sizeOf219
 v24:=zeroValue219}
def Tryz.sBool_ren:Go.Shelf.Ren:=⟨fun|121=>224|214=>242|n=>n,fun|4=>4|9=>9|n=>n,fun|n=>n⟩
theorem Tryz.sBool:Go.Proofs.Lays.n121 prog Tryz.sBool_ren:= {
 mixed:=by kernel_rfl
 f121:=func224.trans (congrArg some (by kernel_rfl))
 f214:=func242.trans (congrArg some (by kernel_rfl))
 t4:=underlying4
 a4:=isAgg4
 z4:=sizeOf4
 v4:=zeroValue4
 t9:=underlying9
 a9:=isAgg9
 z9:=sizeOf9
 v9:=zeroValue9}
def Tryz.sHas_ren:Go.Shelf.Ren:=⟨fun|99=>162|206=>205|n=>n,fun|9=>9|4=>4|3=>3|n=>n,fun|n=>n⟩
theorem Tryz.sHas:Go.Proofs.Lays.n99 prog Tryz.sHas_ren:= {
 mixed:=by kernel_rfl
 f99:=func162.trans (congrArg some (by kernel_rfl))
 f206:=func205.trans (congrArg some (by kernel_rfl))
 t3:=underlying3
 a3:=isAgg3
 z3:=sizeOf3
 v3:=zeroValue3
 t4:=underlying4
 a4:=isAgg4
 z4:=sizeOf4
 v4:=zeroValue4
 t9:=underlying9
 a9:=isAgg9
 z9:=sizeOf9
 v9:=zeroValue9}
end Go.Proofs
namespace Go.Ab
open Go.Proofs Go.Proofs.Tryz Go.RowKit Go.Shelf
theorem Qy{l:List Value}{T:TypeId}{fz:Nat×Nat}{w:World}{g i:Nat}{v:Value}(h:w.heap[g]? =some (.cells l.toArray T fz))(hi:l[i]? =some v):w.cell? ⟨g,i,none⟩=some v:=by
 simp[World.cell?,h,hi]
theorem at_of{α:Type}{f g:Nat->α}{n:Nat}(h:(List.range n).map f=(List.range n).map g){i:Nat}(hi:i<n):f i=g i:=by
 have:=congrArg (fun l=>l[i]?) h
 simpa[A0A,List.getElem?_range hi] using this
theorem first_ok{c:Nat}(h:c<256):HJ[c]? =some (.int .u8 (Lib.firstT c)):=at_of (f:=fun c=>HJ[c]?) (g:=fun c=>some (.int .u8 (Lib.firstT c))) (n:=256) (by kernel_rfl) h
theorem lo_ok{c:Nat}(h:c<16):Du[2*c]? =some (.int .u8 (Lib.accLo c)):=at_of (f:=fun c=>Du[2*c]?) (g:=fun c=>some (.int .u8 (Lib.accLo c))) (n:=16) (by kernel_rfl) h
theorem hi_ok{c:Nat}(h:c<16):Du[2*c+1]? =some (.int .u8 (Lib.accHi c)):=at_of (f:=fun c=>Du[2*c+1]?) (g:=fun c=>some (.int .u8 (Lib.accHi c))) (n:=16) (by kernel_rfl) h
theorem H5{P:Program}{g3 g4:Nat}{w:World}{I:Nat->Prop}(h3:LN P g3=some HJ)(h4:LN P g4=some Du)(h:GIn P w I):Lib.Utf8Tabs g3 g4 w:=by
 obtain⟨_,T,fz,h5⟩:=h g3 _ h3
 obtain⟨_,T',fz',h6⟩:=h g4 _ h4
 exact⟨fun c hc=>Qy h5 (first_ok hc),fun i hi=>⟨Qy h6 (lo_ok hi),Qy h6 (hi_ok hi)⟩⟩
theorem Z0:Q5=Lib.pow10Tab.map fun z=>Value.int .u64 z:=by kernel_rfl
theorem Y5{P:Program}{g:Nat}{w:World}{I:Nat->Prop}(hg:P.globalNamed "internal/strconv.uint64pow10"=some g)(h3:LN P g=some Q5)(h:GIn P w I):Lib.TabIs P w "internal/strconv.uint64pow10" .u64 Lib.pow10Tab:=by
 obtain⟨_,T,fz,h5⟩:=h g _ h3
 unfold Lib.TabIs World.var?
 rw[hg,A1w,h5,Z0]
def B1(s:ByteArray):Bool:=Lib.validD s.data.toList
theorem NF(s:ByteArray):A3 prog 220 [.val (.string s)] (.val (.bool (B1 s))):=
 A3.of_vals (us:=[.string s]) (by kernel_rfl) rfl fun w I hg ho=>⟨.bool (B1 s),fun _=>JT trivial,Any.utf8_ValidString Tryz.sValid s w (ho _ (A0d.2 rfl)) (H5 (by kernel_rfl) (by kernel_rfl) hg)⟩
theorem Un(n:Int)(h0: -9223372036854775808<=n)(h1:n<=9223372036854775807):(Lib.itoa n).length<=9223372036854775807:=A0L (Lib.itoa_length_le n h0 h1) (by decide)
theorem T8(n:Int)(h0: -9223372036854775808<=n)(h1:n<=9223372036854775807):A3 prog 226 [.val (.int .i64 n),.val (.int .i64 10)] (.val (.string ⟨(Lib.itoa n).toArray⟩)):=
 A3.of_vals (us:=[.int .i64 n,.int .i64 10]) (by kernel_rfl) rfl fun w I hg ho=>⟨.string ⟨(Lib.itoa n).toArray⟩,fun _=>JT (Un n h0 h1),by
  obtain⟨g,hg1,hg2⟩:∃ g,prog.globalNamed "internal/strconv.uint64pow10"=some g/\LN prog g=some Q5:=⟨(prog.globalNamed "internal/strconv.uint64pow10").getD 0,by kernel_rfl,by kernel_rfl⟩
  refine(Any.strconv_FormatInt_10 Tryz.sItoa n h0 h1 w (Y5 hg1 hg2 hg)).mono fun e w' ⟨he,k,os,hw⟩=>⟨he,?_⟩
  subst hw
  exact Lib.below_grow _ w (A0e _) k os⟩
theorem QN(b:Bool):A3 prog 224 [.val (.bool b)] (.val (.string ⟨(Lib.formatBool b).toArray⟩)):=
 A3.of_vals (us:=[.bool b]) (by kernel_rfl) rfl fun w I hg ho=>⟨.string ⟨(Lib.formatBool b).toArray⟩,fun _=>JT (Mx (by cases b<;>rfl)),by
  refine(Any.strconv_FormatBool Tryz.sBool b w).mono fun e w' ⟨he,hw⟩=>⟨he,?_⟩
  subst hw;exact Below.refl _ _⟩
theorem T7(s p:ByteArray):A3 prog 162 [.val (.string s),.val (.string p)] (.val (.bool (Lib.hasPrefix s.data.toList p.data.toList))):=
 A3.of_vals (us:=[.string s,.string p]) (by kernel_rfl) rfl fun w I hg ho=>⟨.bool (Lib.hasPrefix s.data.toList p.data.toList),fun _=>JT trivial,by
  refine(Any.strings_HasPrefix Tryz.sHas s p w).mono fun e w' ⟨he,hw⟩=>⟨he,?_⟩
  subst hw;exact Below.refl _ _⟩
theorem T9(s p:ByteArray):A3 prog 161 [.val (.string s),.val (.string p)] (.tup [.val (.string ⟨(Lib.trimPrefix s.data.toList p.data.toList).toArray⟩),.val (.bool (Lib.hasPrefix s.data.toList p.data.toList))]):=
 A3.of_vals (us:=[.string s,.string p]) (by kernel_rfl) rfl fun w I hg ho=>⟨.tuple #[.string ⟨(Lib.trimPrefix s.data.toList p.data.toList).toArray⟩,.bool (Lib.hasPrefix s.data.toList p.data.toList)],fun _=>JU (by
  have h:=ho (.string s) (by simp)
  simp only[okP] at h|-
  show(Lib.trimPrefix s.data.toList p.data.toList).toArray.size<=_
  have:(Lib.trimPrefix s.data.toList p.data.toList).length<=s.data.toList.length:=by
   unfold Lib.trimPrefix;split
   ·rw[A0n];omega
   ·exact A0e _
  have h2:s.data.toList.length=s.size:=A0T
  rw[A0H]
  omega) trivial,by
  refine(Any.strings_CutPrefix Tryz.sCut s p w).mono fun e w' ⟨he,hw⟩=>⟨he,?_⟩
  subst hw;exact Below.refl _ _⟩
end Go.Ab
namespace Go.Proofs
open Go.Proofs Go.Proofs.Tryz Go.RowKit Go.Shelf
def Tryz.bRen:Go.Shelf.Ren:=⟨fun|166=>241|167=>254|168=>257|169=>259|240=>249|242=>268|276=>261|278=>273|n=>n,fun|0=>0|3=>3|4=>4|5=>5|9=>9|20=>20|21=>21|37=>250|46=>190|51=>229|70=>249|72=>252|75=>294|80=>231|164=>313|n=>n,fun n=>n⟩
theorem Tryz.sWs:Lays.n166 prog Tryz.bRen:= {
 mixed:=by kernel_rfl
 f166:=func241.trans (congrArg some (by kernel_rfl))
 f240:=func249.trans (congrArg some (by kernel_rfl))
 f276:=func261.trans (congrArg some (by kernel_rfl))
 t0:=underlying0
 a0:=isAgg0
 z0:=sizeOf0
 v0:=zeroValue0
 t3:=underlying3
 a3:=isAgg3
 z3:=sizeOf3
 v3:=zeroValue3
 t4:=underlying4
 a4:=isAgg4
 z4:=sizeOf4
 v4:=zeroValue4
 t9:=underlying9
 a9:=isAgg9
 z9:=sizeOf9
 v9:=zeroValue9
 t20:=underlying20
 a20:=isAgg20
 z20:=sizeOf20
 v20:=zeroValue20
 t37:=underlying250
 a37:=isAgg250
 z37:=sizeOf250
 v37:=zeroValue250
 t70:=underlying249
 a70:=isAgg249
 z70:=sizeOf249
 v70:=zeroValue249
 t72:=underlying252
 a72:=isAgg252
 z72:=sizeOf252
 v72:=zeroValue252
 t75:=underlying294
 a75:=isAgg294
 z75:=sizeOf294
 v75:=zeroValue294
 t164:=underlying313
 a164:=isAgg313
 z164:=sizeOf313
 v164:=zeroValue313}
theorem Tryz.sWb:Lays.n167 prog Tryz.bRen:= {
 mixed:=by kernel_rfl
 f167:=func254.trans (congrArg some (by kernel_rfl))
 f240:=func249.trans (congrArg some (by kernel_rfl))
 f276:=func261.trans (congrArg some (by kernel_rfl))
 t0:=underlying0
 a0:=isAgg0
 z0:=sizeOf0
 v0:=zeroValue0
 t4:=underlying4
 a4:=isAgg4
 z4:=sizeOf4
 v4:=zeroValue4
 t5:=underlying5
 a5:=isAgg5
 z5:=sizeOf5
 v5:=zeroValue5
 t9:=underlying9
 a9:=isAgg9
 z9:=sizeOf9
 v9:=zeroValue9
 t20:=underlying20
 a20:=isAgg20
 z20:=sizeOf20
 v20:=zeroValue20
 t37:=underlying250
 a37:=isAgg250
 z37:=sizeOf250
 v37:=zeroValue250
 t70:=underlying249
 a70:=isAgg249
 z70:=sizeOf249
 v70:=zeroValue249
 t72:=underlying252
 a72:=isAgg252
 z72:=sizeOf252
 v72:=zeroValue252
 t75:=underlying294
 a75:=isAgg294
 z75:=sizeOf294
 v75:=zeroValue294
 t164:=underlying313
 a164:=isAgg313
 z164:=sizeOf313
 v164:=zeroValue313}
theorem Tryz.sWr:Lays.n168 prog Tryz.bRen:= {
 mixed:=by kernel_rfl
 f168:=func257.trans (congrArg some (by kernel_rfl))
 f240:=func249.trans (congrArg some (by kernel_rfl))
 f242:=func268.trans (congrArg some (by kernel_rfl))
 f276:=func261.trans (congrArg some (by kernel_rfl))
 f278:=func273.trans (congrArg some (by kernel_rfl))
 t0:=underlying0
 a0:=isAgg0
 z0:=sizeOf0
 v0:=zeroValue0
 t3:=underlying3
 a3:=isAgg3
 z3:=sizeOf3
 v3:=zeroValue3
 t4:=underlying4
 a4:=isAgg4
 z4:=sizeOf4
 v4:=zeroValue4
 t5:=underlying5
 a5:=isAgg5
 z5:=sizeOf5
 v5:=zeroValue5
 t9:=underlying9
 a9:=isAgg9
 z9:=sizeOf9
 v9:=zeroValue9
 t20:=underlying20
 a20:=isAgg20
 z20:=sizeOf20
 v20:=zeroValue20
 t21:=underlying21
 a21:=isAgg21
 z21:=sizeOf21
 v21:=zeroValue21
 t37:=underlying250
 a37:=isAgg250
 z37:=sizeOf250
 v37:=zeroValue250
 t46:=underlying190
 a46:=isAgg190
 z46:=sizeOf190
 v46:=zeroValue190
 t51:=underlying229
 a51:=isAgg229
 z51:=sizeOf229
 v51:=zeroValue229
 t70:=underlying249
 a70:=isAgg249
 z70:=sizeOf249
 v70:=zeroValue249
 t72:=underlying252
 a72:=isAgg252
 z72:=sizeOf252
 v72:=zeroValue252
 t75:=underlying294
 a75:=isAgg294
 z75:=sizeOf294
 v75:=zeroValue294
 t164:=underlying313
 a164:=isAgg313
 z164:=sizeOf313
 v164:=zeroValue313}
def Tryz.sSt_ren:Go.Shelf.Ren:=⟨fun|169=>259|n=>n,fun|70=>249|9=>9|0=>0|72=>252|37=>250|127=>322|3=>3|5=>5|n=>n,fun|n=>n⟩
theorem Tryz.sSt:Go.Proofs.Lays.n169 prog Tryz.sSt_ren:= {
 mixed:=by kernel_rfl
 f169:=func259.trans (congrArg some (by kernel_rfl))
 t0:=underlying0
 a0:=isAgg0
 z0:=sizeOf0
 v0:=zeroValue0
 t3:=underlying3
 a3:=isAgg3
 z3:=sizeOf3
 v3:=zeroValue3
 t9:=underlying9
 a9:=isAgg9
 z9:=sizeOf9
 v9:=zeroValue9
 t37:=underlying250
 a37:=isAgg250
 z37:=sizeOf250
 v37:=zeroValue250
 t70:=underlying249
 a70:=isAgg249
 z70:=sizeOf249
 v70:=zeroValue249
 t72:=underlying252
 a72:=isAgg252
 z72:=sizeOf252
 v72:=zeroValue252
 t127:=underlying322
 a127:=isAgg322
 z127:=sizeOf322
 v127:=zeroValue322}
theorem Tryz.xB:Builder.Extra prog Tryz.bRen:= {
 sizeBuilder:=by kernel_rfl
 liesBuilder:=by kernel_rfl
 t5:=underlying5
 a5:=isAgg5
 z5:=sizeOf5
 v5:=zeroValue5
 infoByte:=by kernel_rfl
 cellsByte:=by kernel_rfl
 sizeByte:=by kernel_rfl
 neB5:=by decide}
theorem Tryz.xSt:Builder.Extra prog Tryz.sSt_ren:= {
 sizeBuilder:=by kernel_rfl
 liesBuilder:=by kernel_rfl
 t5:=underlying5
 a5:=isAgg5
 z5:=sizeOf5
 v5:=zeroValue5
 infoByte:=by kernel_rfl
 cellsByte:=by kernel_rfl
 sizeByte:=by kernel_rfl
 neB5:=by decide}
abbrev Tryz.bld(B b:Nat)(l:List UInt8)(w:World):Prop:=Lib.IsBuilderF 252 5 B b (Lib.byteCells l) w
theorem Tryz.bWs(B b:Nat)(l:List UInt8)(s:ByteArray)(w:World)(h:Tryz.bld B b l w)(hlen:l.length+s.size<=140737488355328)(hBw:B<=w.heap.size):
  Calls prog 241 #[.pointer (some ⟨b,0,none⟩),.string s] w fun e w'=>e=.returned (.tuple #[.int .i64 s.size,.nilIface])/\Tryz.bld B b (l++s.data.toList) w'/\Below B w w'/\Lib.OthersKept 5 (some b) w w':=by
 refine(Any.Builder_WriteString_k Tryz.sWs Tryz.xB B b _ s w h (by rw[Lib.byteCells_length];exact hlen) hBw).mono fun e w' h=>⟨h.1,?_,h.2.2⟩
 have h2:=h.2.1
 rw[show Lib.byteCells l++Lib.strCells s=Lib.byteCells (l++s.data.toList) from by rw[Lib.byteCells_append];rfl] at h2
 exact .inr h2
theorem Tryz.bWb(B b:Nat)(l:List UInt8)(c:UInt8)(w:World)(h:Tryz.bld B b l w)(hlen:l.length+1<=140737488355328)(hBw:B<=w.heap.size):
  Calls prog 254 #[.pointer (some ⟨b,0,none⟩),.int .u8 c.toNat] w fun e w'=>e=.returned .nilIface/\Tryz.bld B b (l++[c]) w'/\Below B w w'/\Lib.OthersKept 5 (some b) w w':=by
 refine(Any.Builder_WriteByte_k Tryz.sWb Tryz.xB B b _ c.toNat w h (by rw[Lib.byteCells_length];exact hlen) hBw).mono fun e w' h=>⟨h.1,?_,h.2.2⟩
 have h2:=h.2.1
 rw[show Lib.byteCells l++[Value.int .u8 c.toNat]=Lib.byteCells (l++[c]) from by rw[Lib.byteCells_append];rfl] at h2
 exact .inr h2
theorem Tryz.bWr(B b:Nat)(l:List UInt8)(r:Nat)(hr:r<=1114111)(w:World)(h:Tryz.bld B b l w)(hlen:l.length+4<=140737488355328)(hBw:B<=w.heap.size):
  Calls prog 257 #[.pointer (some ⟨b,0,none⟩),.int .i32 r] w fun e w'=>e=.returned (.tuple #[.int .i64 (Lib.runeCells r).length,.nilIface])/\Tryz.bld B b (l++Lib.encodeRune r) w'/\Below B w w'/\Lib.OthersKept 5 (some b) w w':=by
 refine(Any.Builder_WriteRune_k Tryz.sWr Tryz.xB B b _ r (by omega) (by omega) w h (by rw[Lib.byteCells_length];exact hlen) hBw).mono fun e w' h=>⟨h.1,?_,h.2.2⟩
 have h2:=h.2.1
 rw[<-Lib.byteCells_encodeRune,<-Lib.byteCells_append] at h2
 exact .inr h2
theorem Tryz.bSt(B b:Nat)(l:List UInt8)(w:World)(h:Tryz.bld B b l w)(hBw:B<=w.heap.size):
  Calls prog 259 #[.pointer (some ⟨b,0,none⟩)] w fun e w'=>e=.returned (.string ⟨l.toArray⟩)/\Below B w w'/\Lib.OthersKept 5 (some b) w w':=
 (Any.Builder_String_any_k Tryz.sSt Tryz.xSt B b l w h hBw).mono fun e w' h=>⟨h.1,h.2.2⟩
def bAt(s:ByteArray)(i:Nat):Nat:=(s.data.toList.getD i 0).toNat
theorem DA{s:ByteArray}{i:Nat}(h:i<s.size):s[i].toNat=bAt s i:=by
 have:i<s.data.toList.length:=h
 unfold bAt
 rw[A03,A06 this];rfl
theorem D8(s:ByteArray)(i:Nat):bAt s i<256:=UInt8.toNat_lt _
def atN(n b0 b1 b2 b3:Nat):Nat×Nat:=if n=0 then(0,0) else if(Lib.decodeN n b0 b1 b2 b3).1=65533/\(Lib.decodeN n b0 b1 b2 b3).2=1 then(0,0) else Lib.decodeN n b0 b1 b2 b3
def atR(s:ByteArray)(i:Nat):Nat×Nat:=atN (s.size-i) (bAt s i) (bAt s (i+1)) (bAt s (i+2)) (bAt s (i+3))
theorem ret2{a b c d:Int}(h1:a=c)(h2:b=d):Ending.returned (.tuple #[.int .i64 a,.int .i64 b])=Ending.returned (.tuple #[.int .i64 c,.int .i64 d]):=by rw[h1,h2]
section
variable{n b0 b1 b2 b3:Nat}(hn:n≠0)
include hn
theorem at1_ok(h0:b0<128):atN n b0 b1 b2 b3=(b0,1):=by
 have h:Lib.decodeN n b0 b1 b2 b3=(b0,1):=by
  unfold Lib.decodeN
  repeat' split
  all_goals first|(exfalso;omega)|(apply Prod.ext<;>simp only<;>omega)
 unfold atN;rw[if_neg hn,h];rw[if_neg (by simp only;omega)]
theorem at1_bad(h0:128<=b0)(h1:b0<192):atN n b0 b1 b2 b3=(0,0):=by
 have h:Lib.decodeN n b0 b1 b2 b3=(65533,1):=by
  unfold Lib.decodeN
  repeat' split
  all_goals first|rfl|(exfalso;omega)
 unfold atN;rw[if_neg hn,h];rfl
theorem at5_bad(h0:248<=b0)(h1:b0<256):atN n b0 b1 b2 b3=(0,0):=by
 have h:Lib.decodeN n b0 b1 b2 b3=(65533,1):=by
  unfold Lib.decodeN
  repeat' split
  all_goals first|rfl|(exfalso;omega)
 unfold atN;rw[if_neg hn,h];rfl
theorem XO(h0:192<=b0)(h1:b0<224)(h:n<2):atN n b0 b1 b2 b3=(0,0):=by
 have h:Lib.decodeN n b0 b1 b2 b3=(65533,1):=by
  unfold Lib.decodeN
  repeat' split
  all_goals first|rfl|(exfalso;omega)
 unfold atN;rw[if_neg hn,h];rfl
theorem at2_bad(h0:192<=b0)(h1:b0<224)(h:¬(128<=b1/\b1<192)):atN n b0 b1 b2 b3=(0,0):=by
 have h:Lib.decodeN n b0 b1 b2 b3=(65533,1):=by
  unfold Lib.decodeN
  repeat' split
  all_goals first|rfl|(exfalso;omega)
 unfold atN;rw[if_neg hn,h];rfl
theorem at2_lo(h0:192<=b0)(h1:b0<224)(c1:(128<=b1/\b1<192))(h:(64*(b0-192)+(b1-128))<128):atN n b0 b1 b2 b3=(0,0):=by
 have h:Lib.decodeN n b0 b1 b2 b3=(65533,1):=by
  unfold Lib.decodeN
  repeat' split
  all_goals first|rfl|(exfalso;omega)
 unfold atN;rw[if_neg hn,h];rfl
theorem at2_ok(h0:192<=b0)(h1:b0<224)(h:2<=n)(c1:(128<=b1/\b1<192))(h2:¬(64*(b0-192)+(b1-128))<128):atN n b0 b1 b2 b3=((64*(b0-192)+(b1-128)),2):=by
 have h:Lib.decodeN n b0 b1 b2 b3=((64*(b0-192)+(b1-128)),2):=by
  unfold Lib.decodeN
  repeat' split
  all_goals first|(exfalso;omega)|(apply Prod.ext<;>simp only<;>omega)
 unfold atN;rw[if_neg hn,h];rw[if_neg (by simp only;omega)]
theorem XN(h0:224<=b0)(h1:b0<240)(h:n<3):atN n b0 b1 b2 b3=(0,0):=by
 have h:Lib.decodeN n b0 b1 b2 b3=(65533,1):=by
  unfold Lib.decodeN
  repeat' split
  all_goals first|rfl|(exfalso;omega)
 unfold atN;rw[if_neg hn,h];rfl
theorem at3_bad1(h0:224<=b0)(h1:b0<240)(h:¬(128<=b1/\b1<192)):atN n b0 b1 b2 b3=(0,0):=by
 have h:Lib.decodeN n b0 b1 b2 b3=(65533,1):=by
  unfold Lib.decodeN
  repeat' split
  all_goals first|rfl|(exfalso;omega)
 unfold atN;rw[if_neg hn,h];rfl
theorem at3_bad2(h0:224<=b0)(h1:b0<240)(h:¬(128<=b2/\b2<192)):atN n b0 b1 b2 b3=(0,0):=by
 have h:Lib.decodeN n b0 b1 b2 b3=(65533,1):=by
  unfold Lib.decodeN
  repeat' split
  all_goals first|rfl|(exfalso;omega)
 unfold atN;rw[if_neg hn,h];rfl
theorem at3_lo(h0:224<=b0)(h1:b0<240)(c1:(128<=b1/\b1<192))(c2:(128<=b2/\b2<192))(h:(64*(64*(b0-224)+(b1-128))+(b2-128))<2048∨(55296<=(64*(64*(b0-224)+(b1-128))+(b2-128))/\(64*(64*(b0-224)+(b1-128))+(b2-128))<57344)):atN n b0 b1 b2 b3=(0,0):=by
 have h:Lib.decodeN n b0 b1 b2 b3=(65533,1):=by
  unfold Lib.decodeN
  repeat' split
  all_goals first|rfl|(exfalso;omega)
 unfold atN;rw[if_neg hn,h];rfl
theorem at3_ok(h0:224<=b0)(h1:b0<240)(h:3<=n)(c1:(128<=b1/\b1<192))(c2:(128<=b2/\b2<192))(h2:¬((64*(64*(b0-224)+(b1-128))+(b2-128))<2048∨(55296<=(64*(64*(b0-224)+(b1-128))+(b2-128))/\(64*(64*(b0-224)+(b1-128))+(b2-128))<57344))):atN n b0 b1 b2 b3=((64*(64*(b0-224)+(b1-128))+(b2-128)),3):=by
 have h:Lib.decodeN n b0 b1 b2 b3=((64*(64*(b0-224)+(b1-128))+(b2-128)),3):=by
  unfold Lib.decodeN
  repeat' split
  all_goals first|(exfalso;omega)|(apply Prod.ext<;>simp only<;>omega)
 unfold atN;rw[if_neg hn,h];rw[if_neg (by simp only;omega)]
theorem XM(h0:240<=b0)(h1:b0<248)(h:n<4):atN n b0 b1 b2 b3=(0,0):=by
 have h:Lib.decodeN n b0 b1 b2 b3=(65533,1):=by
  unfold Lib.decodeN
  repeat' split
  all_goals first|rfl|(exfalso;omega)
 unfold atN;rw[if_neg hn,h];rfl
theorem at4_bad1(h0:240<=b0)(h1:b0<248)(h:¬(128<=b1/\b1<192)):atN n b0 b1 b2 b3=(0,0):=by
 have h:Lib.decodeN n b0 b1 b2 b3=(65533,1):=by
  unfold Lib.decodeN
  repeat' split
  all_goals first|rfl|(exfalso;omega)
 unfold atN;rw[if_neg hn,h];rfl
theorem at4_bad2(h0:240<=b0)(h1:b0<248)(h:¬(128<=b2/\b2<192)):atN n b0 b1 b2 b3=(0,0):=by
 have h:Lib.decodeN n b0 b1 b2 b3=(65533,1):=by
  unfold Lib.decodeN
  repeat' split
  all_goals first|rfl|(exfalso;omega)
 unfold atN;rw[if_neg hn,h];rfl
theorem at4_bad3(h0:240<=b0)(h1:b0<248)(h:¬(128<=b3/\b3<192)):atN n b0 b1 b2 b3=(0,0):=by
 have h:Lib.decodeN n b0 b1 b2 b3=(65533,1):=by
  unfold Lib.decodeN
  repeat' split
  all_goals first|rfl|(exfalso;omega)
 unfold atN;rw[if_neg hn,h];rfl
theorem at4_lo(h0:240<=b0)(h1:b0<248)(c1:(128<=b1/\b1<192))(c2:(128<=b2/\b2<192))(c3:(128<=b3/\b3<192))(h:(64*(64*(64*(b0-240)+(b1-128))+(b2-128))+(b3-128))<65536∨1114111<(64*(64*(64*(b0-240)+(b1-128))+(b2-128))+(b3-128))):atN n b0 b1 b2 b3=(0,0):=by
 have h:Lib.decodeN n b0 b1 b2 b3=(65533,1):=by
  unfold Lib.decodeN
  repeat' split
  all_goals first|rfl|(exfalso;omega)
 unfold atN;rw[if_neg hn,h];rfl
theorem at4_ok(h0:240<=b0)(h1:b0<248)(h:4<=n)(c1:(128<=b1/\b1<192))(c2:(128<=b2/\b2<192))(c3:(128<=b3/\b3<192))(h2:¬((64*(64*(64*(b0-240)+(b1-128))+(b2-128))+(b3-128))<65536∨1114111<(64*(64*(64*(b0-240)+(b1-128))+(b2-128))+(b3-128)))):atN n b0 b1 b2 b3=((64*(64*(64*(b0-240)+(b1-128))+(b2-128))+(b3-128)),4):=by
 have h:Lib.decodeN n b0 b1 b2 b3=((64*(64*(64*(b0-240)+(b1-128))+(b2-128))+(b3-128)),4):=by
  unfold Lib.decodeN
  repeat' split
  all_goals first|(exfalso;omega)|(apply Prod.ext<;>simp only<;>omega)
 unfold atN;rw[if_neg hn,h];rw[if_neg (by simp only;omega)]
end
theorem w_At0(s:ByteArray)(i:Nat)(w:World)(hs:s.size<=4611686018427387904)(hi:s.size<=i)(hi2:i<=4611686018427387904):
  Calls prog 193 #[.string s,.int .i64 i] w fun e w'=>e=.returned (.tuple #[.int .i64 (atR s i).1,.int .i64 (atR s i).2])/\w'=w:=by
 have tyS:=underlying9
 have tyI:=underlying3
 have tyB:=underlying5
 have hR:atR s i=(0,0):=by unfold atR atN;rw[if_pos (by omega)]
 rw[hR]
 go_enter func193,ntmps193
 go_wp2
 go_ret2
 exact⟨rfl,rfl⟩
theorem w_At1(s:ByteArray)(i:Nat)(w:World)(hs:s.size<=4611686018427387904)(hi:i<s.size)(h0:bAt s i<128):
  Calls prog 193 #[.string s,.int .i64 i] w fun e w'=>e=.returned (.tuple #[.int .i64 (atR s i).1,.int .i64 (atR s i).2])/\w'=w:=by
 have tyS:=underlying9
 have tyI:=underlying3
 have tyB:=underlying5
 have hb:=DA hi
 have hlt:=D8 s i
 have hR:atR s i=(bAt s i,1):=at1_ok (by omega) h0
 rw[hR]
 generalize bAt s i=b0 at*
 go_enter func193,ntmps193
 go_wp2
 go_ret2
 exact⟨rfl,rfl⟩
theorem w_At1b(s:ByteArray)(i:Nat)(w:World)(hs:s.size<=4611686018427387904)(hi:i<s.size)(h0:128<=bAt s i)(h1:bAt s i<192):
  Calls prog 193 #[.string s,.int .i64 i] w fun e w'=>e=.returned (.tuple #[.int .i64 (atR s i).1,.int .i64 (atR s i).2])/\w'=w:=by
 have tyS:=underlying9
 have tyI:=underlying3
 have tyB:=underlying5
 have hb:=DA hi
 have hlt:=D8 s i
 have hR:atR s i=(0,0):=at1_bad (by omega) h0 h1
 rw[hR]
 generalize bAt s i=b0 at*
 go_enter func193,ntmps193
 go_wp2
 go_ret2
 exact⟨rfl,rfl⟩
theorem w_At5(s:ByteArray)(i:Nat)(w:World)(hs:s.size<=4611686018427387904)(hi:i<s.size)(h0:248<=bAt s i):
  Calls prog 193 #[.string s,.int .i64 i] w fun e w'=>e=.returned (.tuple #[.int .i64 (atR s i).1,.int .i64 (atR s i).2])/\w'=w:=by
 have tyS:=underlying9
 have tyI:=underlying3
 have tyB:=underlying5
 have hb:=DA hi
 have hlt:=D8 s i
 have hR:atR s i=(0,0):=at5_bad (by omega) h0 (D8 s i)
 rw[hR]
 generalize bAt s i=b0 at*
 go_enter func193,ntmps193
 go_wp2
 go_ret2
 exact⟨rfl,rfl⟩
theorem w_At2s(s:ByteArray)(i:Nat)(w:World)(hs:s.size<=4611686018427387904)(hi:i<s.size)(h0:192<=bAt s i)(h1:bAt s i<224)(hn:s.size<i+2):
  Calls prog 193 #[.string s,.int .i64 i] w fun e w'=>e=.returned (.tuple #[.int .i64 (atR s i).1,.int .i64 (atR s i).2])/\w'=w:=by
 have tyS:=underlying9
 have tyI:=underlying3
 have tyB:=underlying5
 have hb:=DA hi
 have hlt:=D8 s i
 have hR:atR s i=(0,0):=XO (by omega) h0 h1 (by omega)
 rw[hR]
 generalize bAt s i=b0 at*
 go_enter func193,ntmps193
 go_wp2
 go_ret2
 exact⟨rfl,rfl⟩
theorem w_At3s(s:ByteArray)(i:Nat)(w:World)(hs:s.size<=4611686018427387904)(hi:i<s.size)(h0:224<=bAt s i)(h1:bAt s i<240)(hn:s.size<i+3):
  Calls prog 193 #[.string s,.int .i64 i] w fun e w'=>e=.returned (.tuple #[.int .i64 (atR s i).1,.int .i64 (atR s i).2])/\w'=w:=by
 have tyS:=underlying9
 have tyI:=underlying3
 have tyB:=underlying5
 have hb:=DA hi
 have hlt:=D8 s i
 have hR:atR s i=(0,0):=XN (by omega) h0 h1 (by omega)
 rw[hR]
 generalize bAt s i=b0 at*
 go_enter func193,ntmps193
 go_wp2
 go_ret2
 exact⟨rfl,rfl⟩
theorem w_At4s(s:ByteArray)(i:Nat)(w:World)(hs:s.size<=4611686018427387904)(hi:i<s.size)(h0:240<=bAt s i)(h1:bAt s i<248)(hn:s.size<i+4):
  Calls prog 193 #[.string s,.int .i64 i] w fun e w'=>e=.returned (.tuple #[.int .i64 (atR s i).1,.int .i64 (atR s i).2])/\w'=w:=by
 have tyS:=underlying9
 have tyI:=underlying3
 have tyB:=underlying5
 have hb:=DA hi
 have hlt:=D8 s i
 have hR:atR s i=(0,0):=XM (by omega) h0 h1 (by omega)
 rw[hR]
 generalize bAt s i=b0 at*
 go_enter func193,ntmps193
 go_wp2
 go_ret2
 exact⟨rfl,rfl⟩
def relA2(b0 b1 b2 b3:Nat)(r j:Value):Prop:=(j=.int .i64 1/\r=.int .i64 ((b0:Int)-192))∨(j=.int .i64 2/\r=.int .i64 (64*((b0:Int)-192)+b1-128)/\(128<=b1/\b1<192))
theorem w_At2(s:ByteArray)(i:Nat)(w:World)(hs:s.size<=4611686018427387904)(hi:i<s.size)(h0:192<=bAt s i)(h1:bAt s i<224)(hn:i+2<=s.size):
  Calls prog 193 #[.string s,.int .i64 i] w fun e w'=>e=.returned (.tuple #[.int .i64 (atR s i).1,.int .i64 (atR s i).2])/\w'=w:=by
 have tyS:=underlying9
 have tyI:=underlying3
 have tyB:=underlying5
 have hb:=DA hi
 have hlt:=D8 s i
 have hb1:=DA (s:=s) (i:=i+1) (by omega)
 have l1:=D8 s (i+1)
 obtain⟨N,hN⟩:∃ N,s.size-i=N:=⟨_,rfl⟩
 have hN0:N≠0:=by omega
 have hNk:2<=N:=by omega
 unfold atR
 rw[hN]
 clear hN
 generalize bAt s i=b0 at*
 generalize bAt s (i+1)=b1 at*
 generalize bAt s (i+2)=b2 at*
 generalize bAt s (i+3)=b3 at*
 obtain⟨x,hx⟩:∃ x,atN N b0 b1 b2 b3=x:=⟨_,rfl⟩
 rw[hx]
 have qd:decide ((b0:Int)<224)=true:=decide_eq_true (by omega)
 go_enter func193,ntmps193
 go_wp2
 go_loop [8,10] (fun r j=>relA2 b0 b1 b2 b3 r j) (fun _ j=>(2-intOf j).toNat)
 case atStart=>exact .inl ⟨rfl,rfl⟩
 case round=>
  rcases hrel with⟨rfl,rfl⟩|⟨rfl,rfl,c1⟩
  ·by_cases c1:128<=b1/\b1<192
   ·obtain⟨d1,d2⟩:=c1
    have c1:128<=b1/\b1<192:=⟨d1,d2⟩
    go_wp2
    go_round
    case rel=>first|exact .inr (⟨rfl,rfl,c1⟩)|((repeat apply Exists.intro);first|exact ⟨.inr (⟨rfl,rfl,c1⟩),rfl,rfl,rfl,rfl⟩|exact ⟨.inr (⟨rfl,rfl,c1⟩),rfl⟩|exact ⟨.inr (⟨rfl,rfl,c1⟩),rfl,rfl⟩|exact ⟨.inr (⟨rfl,rfl,c1⟩),rfl,rfl,rfl⟩|exact ⟨.inr (⟨rfl,rfl,c1⟩),rfl,rfl,rfl,rfl,rfl⟩)|(refine⟨trivial,?_⟩;(repeat apply Exists.intro);exact⟨.inr (⟨rfl,rfl,c1⟩),rfl⟩)
    case measure=>first|(simp[intOf];done)|(simp[intOf];omega)
   ·have hR:=@at2_bad N b0 b1 b2 b3 hN0 h0 h1 c1
    rw[hx] at hR
    subst hR
    rcases A0v b1 128 with d1|d1
    ·go_wp2
     go_ret2
     exact⟨rfl,rfl⟩
    ·have d2:192<=b1:=by omega
     go_wp2
     go_ret2
     exact⟨rfl,rfl⟩
  ·by_cases cc:(64*(b0-192)+(b1-128))<128
   ·have hR:=@at2_lo N b0 b1 b2 b3 hN0 h0 h1 c1 cc
    rw[hx] at hR
    subst hR
    obtain⟨e1a,e1b⟩:=c1
    go_wp2
    go_ret2
    exact⟨rfl,rfl⟩
   ·have n0:=cc
    clear cc
    have hR:=@at2_ok N b0 b1 b2 b3 hN0 h0 h1 hNk c1 n0
    rw[hx] at hR
    subst hR
    obtain⟨e1a,e1b⟩:=c1
    go_wp2
    go_ret2
    exact⟨ret2 (by omega) rfl,rfl⟩
def relA3(b0 b1 b2 b3:Nat)(r j:Value):Prop:=(j=.int .i64 1/\r=.int .i64 ((b0:Int)-224))∨(j=.int .i64 2/\r=.int .i64 (64*((b0:Int)-224)+b1-128)/\(128<=b1/\b1<192))∨(j=.int .i64 3/\r=.int .i64 (64*(64*((b0:Int)-224)+b1-128)+b2-128)/\(128<=b1/\b1<192)/\(128<=b2/\b2<192))
theorem w_At3(s:ByteArray)(i:Nat)(w:World)(hs:s.size<=4611686018427387904)(hi:i<s.size)(h0:224<=bAt s i)(h1:bAt s i<240)(hn:i+3<=s.size):
  Calls prog 193 #[.string s,.int .i64 i] w fun e w'=>e=.returned (.tuple #[.int .i64 (atR s i).1,.int .i64 (atR s i).2])/\w'=w:=by
 have tyS:=underlying9
 have tyI:=underlying3
 have tyB:=underlying5
 have hb:=DA hi
 have hlt:=D8 s i
 have hb1:=DA (s:=s) (i:=i+1) (by omega)
 have l1:=D8 s (i+1)
 have hb2:=DA (s:=s) (i:=i+2) (by omega)
 have l2:=D8 s (i+2)
 obtain⟨N,hN⟩:∃ N,s.size-i=N:=⟨_,rfl⟩
 have hN0:N≠0:=by omega
 have hNk:3<=N:=by omega
 unfold atR
 rw[hN]
 clear hN
 generalize bAt s i=b0 at*
 generalize bAt s (i+1)=b1 at*
 generalize bAt s (i+2)=b2 at*
 generalize bAt s (i+3)=b3 at*
 obtain⟨x,hx⟩:∃ x,atN N b0 b1 b2 b3=x:=⟨_,rfl⟩
 rw[hx]
 have qd:decide ((b0:Int)<240)=true:=decide_eq_true (by omega)
 go_enter func193,ntmps193
 go_wp2
 go_loop [8,10] (fun r j=>relA3 b0 b1 b2 b3 r j) (fun _ j=>(3-intOf j).toNat)
 case atStart=>exact .inl ⟨rfl,rfl⟩
 case round=>
  rcases hrel with⟨rfl,rfl⟩|⟨rfl,rfl,c1⟩|⟨rfl,rfl,c1,c2⟩
  ·by_cases c1:128<=b1/\b1<192
   ·obtain⟨d1,d2⟩:=c1
    have c1:128<=b1/\b1<192:=⟨d1,d2⟩
    go_wp2
    go_round
    case rel=>first|exact .inr (.inl ⟨rfl,rfl,c1⟩)|((repeat apply Exists.intro);first|exact ⟨.inr (.inl ⟨rfl,rfl,c1⟩),rfl,rfl,rfl,rfl⟩|exact ⟨.inr (.inl ⟨rfl,rfl,c1⟩),rfl⟩|exact ⟨.inr (.inl ⟨rfl,rfl,c1⟩),rfl,rfl⟩|exact ⟨.inr (.inl ⟨rfl,rfl,c1⟩),rfl,rfl,rfl⟩|exact ⟨.inr (.inl ⟨rfl,rfl,c1⟩),rfl,rfl,rfl,rfl,rfl⟩)|(refine⟨trivial,?_⟩;(repeat apply Exists.intro);exact⟨.inr (.inl ⟨rfl,rfl,c1⟩),rfl⟩)
    case measure=>first|(simp[intOf];done)|(simp[intOf];omega)
   ·have hR:=@at3_bad1 N b0 b1 b2 b3 hN0 h0 h1 c1
    rw[hx] at hR
    subst hR
    rcases A0v b1 128 with d1|d1
    ·go_wp2
     go_ret2
     exact⟨rfl,rfl⟩
    ·have d2:192<=b1:=by omega
     go_wp2
     go_ret2
     exact⟨rfl,rfl⟩
  ·by_cases c2:128<=b2/\b2<192
   ·obtain⟨d1,d2⟩:=c2
    have c2:128<=b2/\b2<192:=⟨d1,d2⟩
    obtain⟨e1a,e1b⟩:=c1
    have c1:128<=b1/\b1<192:=⟨e1a,e1b⟩
    go_wp2
    go_round
    case rel=>first|exact .inr (.inr (⟨rfl,rfl,c1,c2⟩))|((repeat apply Exists.intro);first|exact ⟨.inr (.inr (⟨rfl,rfl,c1,c2⟩)),rfl,rfl,rfl,rfl⟩|exact ⟨.inr (.inr (⟨rfl,rfl,c1,c2⟩)),rfl⟩|exact ⟨.inr (.inr (⟨rfl,rfl,c1,c2⟩)),rfl,rfl⟩|exact ⟨.inr (.inr (⟨rfl,rfl,c1,c2⟩)),rfl,rfl,rfl⟩|exact ⟨.inr (.inr (⟨rfl,rfl,c1,c2⟩)),rfl,rfl,rfl,rfl,rfl⟩)|(refine⟨trivial,?_⟩;(repeat apply Exists.intro);exact⟨.inr (.inr (⟨rfl,rfl,c1,c2⟩)),rfl⟩)
    case measure=>first|(simp[intOf];done)|(simp[intOf];omega)
   ·have hR:=@at3_bad2 N b0 b1 b2 b3 hN0 h0 h1 c2
    rw[hx] at hR
    subst hR
    obtain⟨e1a,e1b⟩:=c1
    rcases A0v b2 128 with d1|d1
    ·go_wp2
     go_ret2
     exact⟨rfl,rfl⟩
    ·have d2:192<=b2:=by omega
     go_wp2
     go_ret2
     exact⟨rfl,rfl⟩
  ·by_cases cc:(64*(64*(b0-224)+(b1-128))+(b2-128))<2048
   ·have hR:=@at3_lo N b0 b1 b2 b3 hN0 h0 h1 c1 c2 (.inl cc)
    rw[hx] at hR
    subst hR
    obtain⟨e1a,e1b⟩:=c1
    obtain⟨e2a,e2b⟩:=c2
    go_wp2
    go_ret2
    exact⟨rfl,rfl⟩
   ·have n0:=cc
    clear cc
    by_cases cc:55296<=(64*(64*(b0-224)+(b1-128))+(b2-128))/\(64*(64*(b0-224)+(b1-128))+(b2-128))<57344
    ·have hR:=@at3_lo N b0 b1 b2 b3 hN0 h0 h1 c1 c2 (.inr cc)
     rw[hx] at hR
     subst hR
     obtain⟨e1a,e1b⟩:=c1
     obtain⟨e2a,e2b⟩:=c2
     go_wp2
     go_ret2
     exact⟨rfl,rfl⟩
    ·have n1:=cc
     clear cc
     have hR:=@at3_ok N b0 b1 b2 b3 hN0 h0 h1 hNk c1 c2 (fun h=>h.elim n0 n1)
     rw[hx] at hR
     subst hR
     obtain⟨e1a,e1b⟩:=c1
     obtain⟨e2a,e2b⟩:=c2
     have n2:(64*(64*(b0-224)+(b1-128))+(b2-128))<55296∨57344<=(64*(64*(b0-224)+(b1-128))+(b2-128)):=by omega
     clear n1
     rcases n2 with n1|n1
     all_goals
      go_wp2
      go_ret2
      exact⟨ret2 (by omega) rfl,rfl⟩
def relA4(b0 b1 b2 b3:Nat)(r j:Value):Prop:=(j=.int .i64 1/\r=.int .i64 ((b0:Int)-240))∨(j=.int .i64 2/\r=.int .i64 (64*((b0:Int)-240)+b1-128)/\(128<=b1/\b1<192))∨(j=.int .i64 3/\r=.int .i64 (64*(64*((b0:Int)-240)+b1-128)+b2-128)/\(128<=b1/\b1<192)/\(128<=b2/\b2<192))∨(j=.int .i64 4/\r=.int .i64 (64*(64*(64*((b0:Int)-240)+b1-128)+b2-128)+b3-128)/\(128<=b1/\b1<192)/\(128<=b2/\b2<192)/\(128<=b3/\b3<192))
theorem w_At4(s:ByteArray)(i:Nat)(w:World)(hs:s.size<=4611686018427387904)(hi:i<s.size)(h0:240<=bAt s i)(h1:bAt s i<248)(hn:i+4<=s.size):
  Calls prog 193 #[.string s,.int .i64 i] w fun e w'=>e=.returned (.tuple #[.int .i64 (atR s i).1,.int .i64 (atR s i).2])/\w'=w:=by
 have tyS:=underlying9
 have tyI:=underlying3
 have tyB:=underlying5
 have hb:=DA hi
 have hlt:=D8 s i
 have hb1:=DA (s:=s) (i:=i+1) (by omega)
 have l1:=D8 s (i+1)
 have hb2:=DA (s:=s) (i:=i+2) (by omega)
 have l2:=D8 s (i+2)
 have hb3:=DA (s:=s) (i:=i+3) (by omega)
 have l3:=D8 s (i+3)
 obtain⟨N,hN⟩:∃ N,s.size-i=N:=⟨_,rfl⟩
 have hN0:N≠0:=by omega
 have hNk:4<=N:=by omega
 unfold atR
 rw[hN]
 clear hN
 generalize bAt s i=b0 at*
 generalize bAt s (i+1)=b1 at*
 generalize bAt s (i+2)=b2 at*
 generalize bAt s (i+3)=b3 at*
 obtain⟨x,hx⟩:∃ x,atN N b0 b1 b2 b3=x:=⟨_,rfl⟩
 rw[hx]
 have qd:decide ((b0:Int)<248)=true:=decide_eq_true (by omega)
 go_enter func193,ntmps193
 go_wp2
 go_loop [8,10] (fun r j=>relA4 b0 b1 b2 b3 r j) (fun _ j=>(4-intOf j).toNat)
 case atStart=>exact .inl ⟨rfl,rfl⟩
 case round=>
  rcases hrel with⟨rfl,rfl⟩|⟨rfl,rfl,c1⟩|⟨rfl,rfl,c1,c2⟩|⟨rfl,rfl,c1,c2,c3⟩
  ·by_cases c1:128<=b1/\b1<192
   ·obtain⟨d1,d2⟩:=c1
    have c1:128<=b1/\b1<192:=⟨d1,d2⟩
    go_wp2
    go_round
    case rel=>first|exact .inr (.inl ⟨rfl,rfl,c1⟩)|((repeat apply Exists.intro);first|exact ⟨.inr (.inl ⟨rfl,rfl,c1⟩),rfl,rfl,rfl,rfl⟩|exact ⟨.inr (.inl ⟨rfl,rfl,c1⟩),rfl⟩|exact ⟨.inr (.inl ⟨rfl,rfl,c1⟩),rfl,rfl⟩|exact ⟨.inr (.inl ⟨rfl,rfl,c1⟩),rfl,rfl,rfl⟩|exact ⟨.inr (.inl ⟨rfl,rfl,c1⟩),rfl,rfl,rfl,rfl,rfl⟩)|(refine⟨trivial,?_⟩;(repeat apply Exists.intro);exact⟨.inr (.inl ⟨rfl,rfl,c1⟩),rfl⟩)
    case measure=>first|(simp[intOf];done)|(simp[intOf];omega)
   ·have hR:=@at4_bad1 N b0 b1 b2 b3 hN0 h0 h1 c1
    rw[hx] at hR
    subst hR
    rcases A0v b1 128 with d1|d1
    ·go_wp2
     go_ret2
     exact⟨rfl,rfl⟩
    ·have d2:192<=b1:=by omega
     go_wp2
     go_ret2
     exact⟨rfl,rfl⟩
  ·by_cases c2:128<=b2/\b2<192
   ·obtain⟨d1,d2⟩:=c2
    have c2:128<=b2/\b2<192:=⟨d1,d2⟩
    obtain⟨e1a,e1b⟩:=c1
    have c1:128<=b1/\b1<192:=⟨e1a,e1b⟩
    go_wp2
    go_round
    case rel=>first|exact .inr (.inr (.inl ⟨rfl,rfl,c1,c2⟩))|((repeat apply Exists.intro);first|exact ⟨.inr (.inr (.inl ⟨rfl,rfl,c1,c2⟩)),rfl,rfl,rfl,rfl⟩|exact ⟨.inr (.inr (.inl ⟨rfl,rfl,c1,c2⟩)),rfl⟩|exact ⟨.inr (.inr (.inl ⟨rfl,rfl,c1,c2⟩)),rfl,rfl⟩|exact ⟨.inr (.inr (.inl ⟨rfl,rfl,c1,c2⟩)),rfl,rfl,rfl⟩|exact ⟨.inr (.inr (.inl ⟨rfl,rfl,c1,c2⟩)),rfl,rfl,rfl,rfl,rfl⟩)|(refine⟨trivial,?_⟩;(repeat apply Exists.intro);exact⟨.inr (.inr (.inl ⟨rfl,rfl,c1,c2⟩)),rfl⟩)
    case measure=>first|(simp[intOf];done)|(simp[intOf];omega)
   ·have hR:=@at4_bad2 N b0 b1 b2 b3 hN0 h0 h1 c2
    rw[hx] at hR
    subst hR
    obtain⟨e1a,e1b⟩:=c1
    rcases A0v b2 128 with d1|d1
    ·go_wp2
     go_ret2
     exact⟨rfl,rfl⟩
    ·have d2:192<=b2:=by omega
     go_wp2
     go_ret2
     exact⟨rfl,rfl⟩
  ·by_cases c3:128<=b3/\b3<192
   ·obtain⟨d1,d2⟩:=c3
    have c3:128<=b3/\b3<192:=⟨d1,d2⟩
    obtain⟨e1a,e1b⟩:=c1
    have c1:128<=b1/\b1<192:=⟨e1a,e1b⟩
    obtain⟨e2a,e2b⟩:=c2
    have c2:128<=b2/\b2<192:=⟨e2a,e2b⟩
    go_wp2
    go_round
    case rel=>first|exact .inr (.inr (.inr (⟨rfl,rfl,c1,c2,c3⟩)))|((repeat apply Exists.intro);first|exact ⟨.inr (.inr (.inr (⟨rfl,rfl,c1,c2,c3⟩))),rfl,rfl,rfl,rfl⟩|exact ⟨.inr (.inr (.inr (⟨rfl,rfl,c1,c2,c3⟩))),rfl⟩|exact ⟨.inr (.inr (.inr (⟨rfl,rfl,c1,c2,c3⟩))),rfl,rfl⟩|exact ⟨.inr (.inr (.inr (⟨rfl,rfl,c1,c2,c3⟩))),rfl,rfl,rfl⟩|exact ⟨.inr (.inr (.inr (⟨rfl,rfl,c1,c2,c3⟩))),rfl,rfl,rfl,rfl,rfl⟩)|(refine⟨trivial,?_⟩;(repeat apply Exists.intro);exact⟨.inr (.inr (.inr (⟨rfl,rfl,c1,c2,c3⟩))),rfl⟩)
    case measure=>first|(simp[intOf];done)|(simp[intOf];omega)
   ·have hR:=@at4_bad3 N b0 b1 b2 b3 hN0 h0 h1 c3
    rw[hx] at hR
    subst hR
    obtain⟨e1a,e1b⟩:=c1
    obtain⟨e2a,e2b⟩:=c2
    rcases A0v b3 128 with d1|d1
    ·go_wp2
     go_ret2
     exact⟨rfl,rfl⟩
    ·have d2:192<=b3:=by omega
     go_wp2
     go_ret2
     exact⟨rfl,rfl⟩
  ·by_cases cc:(64*(64*(64*(b0-240)+(b1-128))+(b2-128))+(b3-128))<65536
   ·have hR:=@at4_lo N b0 b1 b2 b3 hN0 h0 h1 c1 c2 c3 (.inl cc)
    rw[hx] at hR
    subst hR
    obtain⟨e1a,e1b⟩:=c1
    obtain⟨e2a,e2b⟩:=c2
    obtain⟨e3a,e3b⟩:=c3
    go_wp2
    go_ret2
    exact⟨rfl,rfl⟩
   ·have n0:=cc
    clear cc
    by_cases cc:1114111<(64*(64*(64*(b0-240)+(b1-128))+(b2-128))+(b3-128))
    ·have hR:=@at4_lo N b0 b1 b2 b3 hN0 h0 h1 c1 c2 c3 (.inr cc)
     rw[hx] at hR
     subst hR
     obtain⟨e1a,e1b⟩:=c1
     obtain⟨e2a,e2b⟩:=c2
     obtain⟨e3a,e3b⟩:=c3
     go_wp2
     go_ret2
     exact⟨rfl,rfl⟩
    ·have n1:=cc
     clear cc
     have hR:=@at4_ok N b0 b1 b2 b3 hN0 h0 h1 hNk c1 c2 c3 (fun h=>h.elim n0 n1)
     rw[hx] at hR
     subst hR
     obtain⟨e1a,e1b⟩:=c1
     obtain⟨e2a,e2b⟩:=c2
     obtain⟨e3a,e3b⟩:=c3
     go_wp2
     go_ret2
     exact⟨ret2 (by omega) rfl,rfl⟩
theorem w_At(s:ByteArray)(i:Nat)(w:World)(hs:s.size<=4611686018427387904)(hi:i<=4611686018427387904):
  Calls prog 193 #[.string s,.int .i64 i] w fun e w'=>e=.returned (.tuple #[.int .i64 (atR s i).1,.int .i64 (atR s i).2])/\w'=w:=by
 by_cases h:s.size<=i
 ·exact w_At0 s i w hs h hi
 ·have h:i<s.size:=by omega
  by_cases a1:bAt s i<128
  ·exact w_At1 s i w hs h a1
  ·by_cases a2:bAt s i<192
   ·exact w_At1b s i w hs h (by omega) a2
   ·by_cases a3:bAt s i<224
    ·by_cases hn:i+2<=s.size
     ·exact w_At2 s i w hs h (by omega) a3 hn
     ·exact w_At2s s i w hs h (by omega) a3 (by omega)
    ·by_cases a4:bAt s i<240
     ·by_cases hn:i+3<=s.size
      ·exact w_At3 s i w hs h (by omega) a4 hn
      ·exact w_At3s s i w hs h (by omega) a4 (by omega)
     ·by_cases a5:bAt s i<248
      ·by_cases hn:i+4<=s.size
       ·exact w_At4 s i w hs h (by omega) a5 hn
       ·exact w_At4s s i w hs h (by omega) a5 (by omega)
      ·exact w_At5 s i w hs h (by omega)
theorem atR_le(s:ByteArray)(i:Nat):(atR s i).1<=1114111/\(atR s i).2<=4:=by
 unfold atR atN
 have hb:=D8 s i
 generalize bAt s i=b0 at*
 unfold Lib.decodeN
 repeat' split
 all_goals(simp only;omega)
end Go.Proofs
namespace Go.Ab
open Go.Proofs Go.Proofs.Tryz Go.RowKit
theorem r_At(s:ByteArray)(i:Nat)(hs:s.size<=4611686018427387904)(hi:i<=4611686018427387904):A3 prog 193 [.val (.string s),.val (.int .i64 i)] (.tup [.val (.int .i64 (atR s i).1),.val (.int .i64 (atR s i).2)]):=
 A3.of_vals (us:=[.string s,.int .i64 i]) (by kernel_rfl) rfl fun w I hg ho=>by
  obtain⟨a,b⟩:=atR_le s i
  refine⟨_,fun w'=>JU (u:=.int .i64 (atR s i).1) (v:=.int .i64 (atR s i).2) (by simp only[okP,E9,Ea];omega) (by simp only[okP,E9,Ea];omega),(w_At s i w hs hi).mono fun e w' ⟨he,hw⟩=>⟨he,?_⟩⟩
  subst hw;exact Below.refl _ _
inductive GT where
 |nil
 |node (es:List GE) (kids:List GT) (height count:Int) (first last:ByteArray) (thin:Bool)
namespace GT
def es:GT->List GE|nil=>[]|node e _ _ _ _ _ _=>e
def kids:GT->List GT|nil=>[]|node _ k _ _ _ _ _=>k
def height:GT->Int|nil=>0|node _ _ h _ _ _ _=>h
def count:GT->Int|nil=>0|node _ _ _ c _ _ _=>c
def first:GT->ByteArray|nil=>ByteArray.empty|node _ _ _ _ f _ _=>f
def last:GT->ByteArray|nil=>ByteArray.empty|node _ _ _ _ _ l _=>l
def thin:GT->Bool|nil=>false|node _ _ _ _ _ _ t=>t
end GT
mutual
def Ag:GT->D
 |.nil=>.val (.pointer none)
 |.node e k h c f l t=>.ptr [.slice (e.map Ac) false,.slice (Pr k) false,.val (.int .i64 h),.val (.int .i64 c),.val (.string f),.val (.string l),.val (.bool t)] 0
def Pr:List GT->List (List D)
 |[]=>[]
 |t::l=>[Ag t]::Pr l
end
def Ak(t:GT):List D:=[Ag t]
theorem Pq:∀ l:List GT,Pr l=l.map Ak
 |[]=>rfl
 |t::l=>by simp[Pr,Pq l,Ak]
theorem At:Ag .nil=.val (.pointer none):=by simp only[Ag]
theorem AZ(e:List GE)(k:List GT)(h c:Int)(f l:ByteArray)(t:Bool):Ag (.node e k h c f l t)=.ptr [.slice (e.map Ac) false,.slice (k.map Ak) false,.val (.int .i64 h),.val (.int .i64 c),.val (.string f),.val (.string l),.val (.bool t)] 0:=by
 simp only[Ag,Pq]
mutual
theorem A5:∀ t:GT,(Ag t).pure=true
 |.nil=>by simp only[Ag,D.pure]
 |.node e k h c f l t=>by simp only[Ag,D.pure,Av,A7,N4 k,A0X]
theorem N4:∀ l:List GT,Am (Pr l)=true
 |[]=>rfl
 |t::l=>by simp only[Pr,Am,Av,A5 t,N4 l,A0X]
end
theorem Pv(t:GT):Av (Ak t)=true:=by simp only[Ak,Av,A5,A0X]
theorem Ci(l:List GT):Am (l.map Ak)=true:=AA Pv l
theorem SJ(t:GT):(Ak t).length=1:=rfl
theorem B9{l:List GT}{i:Nat}(h:i<l.length):nr (l.map Ak) i=Ak (l.getD i .nil):=DL .nil h
theorem N5(t:GT):BF (Ag t)=true:=by cases t<;>simp only[Ag]<;>rfl
attribute [push_cast] N5 A5 Pv Ci SJ
abbrev C8:=Bool×GV
def CB(s:C8):List D:=.val (.bool s.1)::Aa s.2
theorem CA(b:Bool)(v:GV):CB (b,v)=.val (.bool b)::Aa v:=rfl
theorem Dv(s:C8):Av (CB s)=true:=by simp only[CB,Av,D.pure,Bh,A0X]
theorem Wh(s:C8):(CB s).all BF=true:=by simp only[CB,List.all_cons,N2,A22];rfl
theorem JQ(s:C8):(CB s).length=7:=by simp[CB,AS]
abbrev CE:=ByteArray×Nat×C8
def Ck(e:CE):Value×Nat×D:=(.string e.1,e.2.1,.agg (CB e.2.2))
theorem encC_mk(k:ByteArray)(n:Nat)(s:C8):Ck (k,n,s)=(.string k,n,.agg (CB s)):=rfl
def BQ(k:ByteArray):List CE->Nat->Option (Nat×C8)
 |[],_=>none
 |e::es,i=>if k=e.1 then some (i,e.2.2) else BQ k es (i+1)
theorem AO(k:ByteArray):∀ (es:List CE) (i:Nat),EE .str (.string k) (es.map Ck) i=some ((BQ k es i).map fun p=>(p.1,.agg (CB p.2)))
 |[],i=>rfl
 |e::es,i=>by
  simp only[A0k,EE,Ck,keq,BQ]
  by_cases h:k=e.1
  ·simp[h]
  ·simp only[h,decide_false,if_false]
   exact AO k es (i+1)
def JG(es:List CE)(ck:Nat)(k:ByteArray)(s:C8):List CE×Nat:=
 match BQ k es 0 with
 |some (i,_)=>(es.modify i fun e=>(e.1,e.2.1,s),ck)
 |none=>(es++[(k,ck,s)],ck+1)
def UH(es:List CE)(k:ByteArray):List CE:=
 match BQ k es 0 with
 |some (i,_)=>es.eraseIdx i
 |none=>es
theorem Jv(es:List CE)(i:Nat)(s:C8):JR (es.map Ck) i (.agg (CB s))=(es.modify i fun e=>(e.1,e.2.1,s)).map Ck:=by
 apply A1z
 intro j
 simp only[JR,A1K,A0A]
 by_cases h:i=j
 ·subst h;cases es[i]? <;>simp [Ck]
 ·simp[h]
theorem Uw(es:List CE)(i:Nat):(es.map Ck).eraseIdx i=(es.eraseIdx i).map Ck:=(CJ Ck es i).symm
theorem KK(es:List CE)(ck:Nat)(k:ByteArray)(s:C8):es.map Ck++[(.string k,ck,.agg (CB s))]=(es++[(k,ck,s)]).map Ck:=by simp[Ck]
structure Bt where
 k:ByteArray
 was:Bool
 old:C8
def Bj(u:Bt):D:=.func (.func 159) [] [.ptr [.val (.bool u.was)] 0,.ptr (CB u.old) 0,.ptr [.ref 1 0 0 3] 0,.ptr [.val (.string u.k)] 0]
structure OV where
 below:GT
 chg:Option (List CE×Nat)
 und:Option (List Bt)
namespace OV
def chgD(o:OV):D:=match o.chg with
 |none=>.val (.map none)
 |some _=>.mref 2
def chgB(o:OV):Blk:=match o.chg with
 |none=>.junk
 |some (es,ck)=>.map (es.map Ck) ck
def undD(o:OV):D:=match o.und with
 |none=>.slice [] true
 |some l=>.gref 4 l.length
def undB(o:OV):Blk:=match o.und with
 |none=>.junk
 |some l=>.grow (l.map fun u=>[Bj u]) 1
end OV
namespace OV
def step(o:OV)(k:ByteArray)(s:C8):OV:=
 let m:=o.chg.getD ([],0)
 let old:=BQ k m.1 0
 ⟨o.below,some (JG m.1 m.2 k s),some (o.und.getD []++[⟨k,old.isSome,(old.map (·.2)).getD (false,zV)⟩])⟩
end OV
def ovH(o:OV):Hp:=[(1,.rows [[Ag o.below,o.chgD,o.undD]] 3),(2,o.chgB),(4,o.undB)]
theorem KL(b:GT):ovH ⟨b,none,none⟩=[(1,.rows [[Ag b,.val (.map none),.slice [] true]] 3),(2,.junk),(4,.junk)]:=rfl
theorem Ho(b:GT)(es:List CE)(ck:Nat):ovH ⟨b,some (es,ck),none⟩=[(1,.rows [[Ag b,.mref 2,.slice [] true]] 3),(2,.map (es.map Ck) ck),(4,.junk)]:=rfl
theorem JA(b:GT)(l:List Bt):ovH ⟨b,none,some l⟩=[(1,.rows [[Ag b,.val (.map none),.gref 4 l.length]] 3),(2,.junk),(4,.grow (l.map fun u=>[Bj u]) 1)]:=rfl
theorem Dw(b:GT)(es:List CE)(ck:Nat)(l:List Bt):ovH ⟨b,some (es,ck),some l⟩=[(1,.rows [[Ag b,.mref 2,.gref 4 l.length]] 3),(2,.map (es.map Ck) ck),(4,.grow (l.map fun u=>[Bj u]) 1)]:=rfl
theorem Tx(s:C8):(CB s).take 7=CB s:=A0f (by rw[JQ];exact A0e _)
theorem RI(r:Nat->Nat)(es:List CE):(es.map Ck).map (fun p=>(p.1,p.2.1,B3 r p.2.2))=es.map Ck:=by
 rw[A1o]
 refine A1p fun e _=>?_
 simp only[Function.comp,Ck]
 rw[FO r _ (by simp only[D.pure,Dv])]
theorem Vn(n:Nat)(es:List CE):((es.map Ck).all fun p=>ltD n p.2.2)=true:=by
 rw[A0p]
 intro p hp
 obtain⟨e,_,rfl⟩:=A0j.1 hp
 exact Ht n _ (by simp only[Ck,D.pure,Dv])
theorem KF(r:Nat->Nat)(h:r 1=1)(u:Bt):B3 r (Bj u)=Bj u:=by
 simp only[Bj,B3,Ca,h,C0 r _ (Dv _)]
theorem MI(n:Nat)(u:Bt):ltD n (Bj u)=true:=by
 simp only[Bj,ltD,ltL,okN,CF n _ (Dv _)];rfl
theorem TW(r:Nat->Nat)(h:r 1=1)(l:List Bt):DB r (l.map fun u=>[Bj u])=l.map fun u=>[Bj u]:=by
 rw[Ei,A1o]
 refine A1p fun u _=>?_
 simp only[Function.comp,Ca,KF r h]
theorem P6(n:Nat):∀ l:List Bt,EJ n (l.map fun u=>[Bj u])=true
 |[]=>rfl
 |u::l=>by simp only[A0k,EJ,ltL,MI,P6 n l,A0X]
theorem SA(hp:Nat->Option Blk)(n:Nat)(u:Bt):frz hp n (Bj u)=Bj u:=by
 match n with
 |0=>rfl
 |1=>rfl
 |n+2=>rfl
theorem Xb(hp:Nat->Option Blk)(n:Nat)(l:List Bt):(l.map fun u=>[Bj u]).map (fun r=>r.map (frz hp n))=l.map fun u=>[Bj u]:=by
 rw[A1o]
 refine A1p fun u _=>?_
 simp only[Function.comp,A0k,A0S,SA]
theorem SB(hp:Nat->Option Blk)(n:Nat)(es:List CE):(es.map Ck).map (fun p=>(p.1,p.2.1,frz hp n p.2.2))=es.map Ck:=by
 rw[A1o]
 refine A1p fun e _=>?_
 simp only[Function.comp,Ck]
 rw[Eo hp n _ (by simp only[D.pure,Dv])]
attribute [push_cast] encC_mk SA Xb SB
attribute [push_cast] Dv Wh JQ Tx RI Vn TW P6 KF MI
theorem c_Mark(o:OV):A4 prog 74 [.ref 1 0 0 3] (ovH o) (.val (.int .i64 ((o.und.getD []).length:Nat))) (ovH o):=by
 obtain⟨b,c,u⟩:=o
 rcases c with _|⟨es,ck⟩<;>rcases u with _|u<;>simp only[KL,Ho,JA,Dw,Option.getD_none,A0D,A0i]
 all_goals
  refine Zb [] func74 rfl ntmps74 results74 fun H Hb=>?_
  ((try push_cast)<;>repeat' (first|apply Zi<;>intro _|exact Zp|with_reducible apply Za)<;>try push_cast)
  all_goals first|(apply Zw<;>push_cast)|(have hb4:=Hb 4 _ rfl;push_cast at hb4;exact hb4.1)
theorem step_nn(b:GT)(k:ByteArray)(s:C8):OV.step ⟨b,none,none⟩ k s=⟨b,some ([(k,0,s)],1),some [⟨k,false,(false,zV)⟩]⟩:=rfl
theorem step_ns(b:GT)(k:ByteArray)(s:C8)(u:List Bt):OV.step ⟨b,none,some u⟩ k s=⟨b,some ([(k,0,s)],1),some (u++[⟨k,false,(false,zV)⟩])⟩:=rfl
theorem Rv{b:GT}{k:ByteArray}{s:C8}{es:List CE}{ck:Nat}(h:BQ k es 0=none)(u:Option (List Bt)):OV.step ⟨b,some (es,ck),u⟩ k s=⟨b,some (es++[(k,ck,s)],ck+1),some (u.getD []++[⟨k,false,(false,zV)⟩])⟩:=by simp[OV.step,JG,h]
theorem Ru{b:GT}{k:ByteArray}{s old:C8}{es:List CE}{ck i:Nat}(h:BQ k es 0=some (i,old))(u:Option (List Bt)):OV.step ⟨b,some (es,ck),u⟩ k s=⟨b,some (es.modify i fun e=>(e.1,e.2.1,s),ck),some (u.getD []++[⟨k,true,old⟩])⟩:=by simp[OV.step,JG,h]
theorem DD(k:ByteArray):lo (D.func (.func 159) [] [.ptr [.val (.bool false)] 0,.ptr [.val (.bool false),.val (.int .i64 0),.val (.bool false),.val (.int .i64 0),.val (.string ByteArray.empty),.slice [] true,.slice [] true] 0,.ptr [.ref 1 0 0 3] 0,.ptr [.val (.string k)] 0]) (Bj ⟨k,false,(false,zV)⟩)=True:=by
 simp[Bj,CB,zV,Aa,Ki,Kk,lo,loL,E5]
theorem En(k:ByteArray)(old:C8):lo (D.func (.func 159) [] [.ptr [.val (.bool true)] 0,.ptr (CB old) 0,.ptr [.ref 1 0 0 3] 0,.ptr [.val (.string k)] 0]) (Bj ⟨k,true,old⟩)=True:=eq_true (An _)
theorem c_step(o:OV)(k:ByteArray)(s:C8)(hn:(o.und.getD []).length<1073741824):A4 prog 118 [.ref 1 0 0 3,.val (.string k),.agg (CB s)] (ovH o) (.tup []) (ovH (o.step k s)):=by
 obtain⟨b,c,u⟩:=o
 cases c with
 |none=>
  cases u with
  |none=>
   rw[KL,step_nn,Dw]
   refine Zd [8,16,24,32,184,192] func118 rfl ntmps118 results118 ?_
   ((try push_cast)<;>repeat' (first|apply Zi<;>intro _|exact Zp|with_reducible apply Za)<;>try push_cast)
   all_goals first|(simp;done)|skip
   apply Zr [(2,80),(4,272)] rfl<;>push_cast [DD]
  |some u=>
   simp only[A0D] at hn
   rw[JA,step_ns,Dw]
   refine Zd [8,16,24,32,184,192] func118 rfl ntmps118 results118 ?_
   ((try push_cast)<;>repeat' (first|apply Zi<;>intro _|exact Zp|with_reducible apply Za)<;>try push_cast)
   all_goals first|omega|(simp[BF];done)|skip
   apply Zr [(2,80),(4,272)] rfl<;>push_cast [DD,En,A12,A08,List.all_append]
 |some c=>
  obtain⟨es,ck⟩:=c
  cases hf:BQ k es 0 with
  |none=>
   rw[Rv hf]
   cases u with
   |none=>
    rw[Ho,Dw]
    refine Zd [8,16,24,144,152] func118 rfl ntmps118 results118 ?_
    (have z:=Za @AO<|Za hf @KK;(try push_cast[z])<;>repeat' (first|apply Zi<;>intro _|exact Zo|with_reducible apply Za)<;>try push_cast[z])
    all_goals first|(simp;done)|skip
    apply Zr [(4,232)] rfl<;>push_cast [DD,En,Option.getD_none]
   |some u=>
    simp only[A0D] at hn|-
    rw[Dw,Dw]
    refine Zd [8,16,24,144,152] func118 rfl ntmps118 results118 ?_
    (have z:=Za @AO<|Za hf @KK;(try push_cast[z])<;>repeat' (first|apply Zi<;>intro _|exact Zo|with_reducible apply Za)<;>try push_cast[z])
    all_goals first|omega|(simp[BF];done)|skip
    apply Zr [(4,232)] rfl<;>push_cast [DD,En,A12,A08,List.all_append]
  |some p=>
   obtain⟨i,old⟩:=p
   rw[Ru hf]
   cases u with
   |none=>
    rw[Ho,Dw]
    refine Zd [8,16,24,144,152] func118 rfl ntmps118 results118 ?_
    (have z:=Za @AO<|Za hf @Jv;(try push_cast[z])<;>repeat' (first|apply Zi<;>intro _|exact Zo|with_reducible apply Za)<;>try push_cast[z])
    all_goals first|(simp;done)|skip
    apply Zr [(4,232)] rfl<;>push_cast [DD,En,Option.getD_none]
   |some u=>
    simp only[A0D] at hn|-
    rw[Dw,Dw]
    refine Zd [8,16,24,144,152] func118 rfl ntmps118 results118 ?_
    (have z:=Za @AO<|Za hf @Jv;(try push_cast[z])<;>repeat' (first|apply Zi<;>intro _|exact Zo|with_reducible apply Za)<;>try push_cast[z])
    all_goals first|omega|(simp[BF];done)|skip
    apply Zr [(4,232)] rfl<;>push_cast [DD,En,A12,A08,List.all_append]
theorem Bx(t:GT):A3 prog 127 [Ag t] (.val (.int .i64 t.height)):=by
 cases t with
 |nil=>
  rw[At]
  refine Zf [] func127 rfl ntmps127 results127 ?_
  ((try push_cast)<;>repeat' (first|apply Zi<;>intro _|exact Zp|with_reducible apply Za)<;>try push_cast)
  all_goals simp[GT.height]
 |node e k h c f l th=>
  rw[AZ]
  refine Zf [] func127 rfl ntmps127 results127 ?_
  ((try push_cast)<;>repeat' (first|apply Zi<;>intro _|exact Zp|with_reducible apply Za)<;>try push_cast)
  all_goals simp[GT.height]
theorem LZ(t:GT):A3 prog 58 [Ag t] (.val (.int .i64 t.count)):=by
 cases t with
 |nil=>
  rw[At]
  refine Zf [] func58 rfl ntmps58 results58 ?_
  ((try push_cast)<;>repeat' (first|apply Zi<;>intro _|exact Zp|with_reducible apply Za)<;>try push_cast)
  all_goals simp[GT.count]
 |node e k h c f l th=>
  rw[AZ]
  refine Zf [] func58 rfl ntmps58 results58 ?_
  ((try push_cast)<;>repeat' (first|apply Zi<;>intro _|exact Zp|with_reducible apply Za)<;>try push_cast)
  all_goals simp[GT.count]
theorem VU(t:GT):A3 prog 175 [Ag t] (.val (.string t.first)):=by
 cases t with
 |nil=>
  rw[At]
  refine Zf [] func175 rfl ntmps175 results175 ?_
  ((try push_cast)<;>repeat' (first|apply Zi<;>intro _|exact Zp|with_reducible apply Za)<;>try push_cast)
  all_goals first|rfl|simp [GT.first]|skip
 |node e k h c f l th=>
  rw[AZ]
  refine Zf [] func175 rfl ntmps175 results175 ?_
  ((try push_cast)<;>repeat' (first|apply Zi<;>intro _|exact Zp|with_reducible apply Za)<;>try push_cast)
  all_goals simp[GT.first]
end Go.Ab
