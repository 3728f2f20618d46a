/- The layer by which the program is walked, and what its functions do: part 11 of 15. -/
import Derived.Test.YtacnknlmijkobaaGreatDoorV9
import Derived.Lib.Builder
import Derived.Lib.AppendStr
import Derived.RangeFuncNested
import Derived.RangeFuncCalls
import Derived.Lib.OthersKept
import Derived.Shelf.Strings.BuilderK
import Derived.Shelf.Strings.BuilderRune
import Derived.WalkMore
import Derived.Lib.Walk
import Derived.Lib.Strings
import Derived.Laws.Strings3
import Derived.Lib.DecodeN
import Derived.RangeFuncBound
import Derived.Shelf.Abstract
import Derived.Shelf.RegionOpen
import Derived.OwnWalkIn
import Derived.TacticsInMore
import Derived.LoopNIn
import Derived.LoopIn
import Derived.Maps.OwnIn
set_option maxHeartbeats 4000000
set_option maxRecDepth 20000
set_option linter.unusedVariables false
set_option linter.unusedSimpArgs false
set_option linter.unnecessarySimpa false
namespace Go.Ab
open Go.Proofs Go.Proofs.Tryz
abbrev quB(a o n:Nat):Blk:=.rows [[.val (.int .u64 a),.gsub 5 o n 20]] 2
structure He(X:List (List D))(o n:Nat)(L:List SN):Prop where
 pure:A6 X=true
 le:o+n<=X.length
 len:L.length=n
 n1:n<=1048576
 row:∀ i,i<n->nr X (o+i)=Bq (L.getD i (0,.put))
theorem He.each{X:List (List D)}{o n:Nat}{L:List SN}(h:He X o n L):A2 prog 43 [.gsub 5 o n 20,.func (.func 39) [] []] [(5,.grow X 20)] (.sref 0 0 n n 20) [(5,.grow X 20),(0,.rows (L.map Bq) 20)]:=c_qEach L X o n h.pure h.le h.len h.n1 h.row
theorem He.take{X:List (List D)}{o n:Nat}{L:List SN}(h:He X o n L){c:Nat}(hc:c<=n):He X o c (L.take c):=
 ⟨h.pure,by have:=h.le;omega,by rw[A0z,h.len];omega,by have:=h.n1;omega,fun i hi=>by
  rw[h.row i (by omega)]
  simp only[A02,A0n hi]⟩
theorem c_qAll{X:List (List D)}{a o n:Nat}{L:List SN}(h:He X o n L):A2 prog 30 [.ref 3 0 0 2] [(3,quB a o n),(5,.grow X 20)] (.sref 0 0 n n 20) [(3,quB a o n),(5,.grow X 20),(0,.rows (L.map Bq) 20)]:=by
 have hE:=h.each
 have oX:=h.pure
 have oL:=By L
 refine Zd [] func30 rfl ntmps30 results30 ?_
 (have z:=oX;(try push_cast[z])<;>repeat' (first|apply Zi<;>intro _|refine Zs [(5,5)] hE ?_|exact Zo|with_reducible apply Za)<;>try push_cast[z])
 all_goals first|omega|skip
 apply Zr [(0,64)] rfl<;>push_cast [oX,oL]
theorem SJ{X:List (List D)}{a o n:Nat}{L:List SN}(h:He X o n L)(nn:Int)(below:Nat)(c:Nat)(hc:c<=n)
  (h1:∀ i,i<c->(i:Int)<nn/\(L.getD i (0,.put)).1<below) (h2:(c:Int)<nn->c<n->below<=(L.getD c (0,.put)).1):
  A2 prog 21 [.ref 3 0 0 2,.val (.int .i64 nn),.val (.int .u64 below)] [(3,quB a o n),(5,.grow X 20)] (.sref 0 0 c c 20) [(3,quB a o n),(5,.grow X 20),(0,.rows ((L.take c).map Bq) 20)]:=by
 have hE:=(h.take hc).each
 obtain⟨oX,ho,hl,hn,hr⟩:=h
 have oL:=By (L.take c)
 refine Zd [] func21 rfl ntmps21 results21 ?_
 (have z:=oX;(try push_cast[z])<;>repeat' (first|apply Zi<;>intro _|exact Zo|with_reducible apply Za)<;>try push_cast[z])
 all_goals first|omega|skip
 refine Zl (fun i=>i<=c) (fun i=>⟨[(7,.val (.int .i64 i)),(2,.val (.int .u64 below)),(1,.val (.int .i64 nn)),(0,.ref 3 0 0 2)],[(3,quB a o n),(5,.grow X 20)],68⟩) (fun i=>c+1-i) 0 (A0D _) ?_ fun i hi=>?_
 ·apply Zw<;>push_cast [oX]
 ·rcases A14 i c with hic|hic
  ·obtain⟨g1,g2⟩:=h1 i hic
   have e1:=hr i (by omega)
   rw[Eo] at e1
   have c1:decide ((i:Int)<nn)=true:=decide_eq_true g1
   have c2:decide ((i:Int)<n)=true:=decide_eq_true (by omega)
   have c3:decide (((L.getD i (0,.put)).1:Int)<below)=true:=decide_eq_true (by omega)
   have w1:IntKind.i64.wrap ((i:Int)+1)=(i:Int)+1:=A9 (by omega) (by omega)
   (have z:=Za oX<|Za e1<|Za c1<|Za c2<|Za c3 w1;(try push_cast[z])<;>repeat' (first|apply Zi<;>intro _|exact Zo|with_reducible apply Za)<;>try push_cast[z])
   all_goals first|omega|skip
   refine⟨i+1,by omega,by omega,?_⟩
   apply Zw<;>push_cast [oX]
  ·obtain rfl:i=c:=by omega
   by_cases g1:(i:Int)<nn
   ·have c1:decide ((i:Int)<nn)=true:=decide_eq_true g1
    by_cases g2:i<n
    ·have g3:=h2 g1 g2
     have e1:=hr i (by omega)
     rw[Eo] at e1
     have c2:decide ((i:Int)<n)=true:=decide_eq_true (by omega)
     have c3:decide (((L.getD i (0,.put)).1:Int)<below)=false:=decide_eq_false (by omega)
     (have z:=Za oX<|Za e1<|Za c1<|Za c2 c3;(try push_cast[z])<;>repeat' (first|apply Zi<;>intro _|refine Zs [(5,5)] hE ?_|exact Zo|with_reducible apply Za)<;>try push_cast[z])
     all_goals first|omega|skip
     apply Zr [(0,376)] rfl<;>push_cast [oX,oL]
    ·have c2:decide ((i:Int)<n)=false:=decide_eq_false (by omega)
     (have z:=Za oX<|Za c1 c2;(try push_cast[z])<;>repeat' (first|apply Zi<;>intro _|refine Zs [(5,5)] hE ?_|exact Zo|with_reducible apply Za)<;>try push_cast[z])
     all_goals first|omega|skip
     apply Zr [(0,376)] rfl<;>push_cast [oX,oL]
   ·have c1:decide ((i:Int)<nn)=false:=decide_eq_false g1
    (have z:=Za oX c1;(try push_cast[z])<;>repeat' (first|apply Zi<;>intro _|refine Zs [(5,5)] hE ?_|exact Zo|with_reducible apply Za)<;>try push_cast[z])
    all_goals first|omega|skip
    apply Zr [(0,376)] rfl<;>push_cast [oX,oL]
end Go.Ab
namespace Go.Ab
open Go.RowKit
def Jl(hp:Nat->Option Blk):Hp->Prop
 |[]=>True
 |p::r=>hp p.1=some p.2/\Jl hp r
theorem J4{hp:Nat->Option Blk}:∀ {H:Hp},Jl hp H->∀ b x,Ad H b=some x->b ∈ H.map (·.1)/\hp b=some x
 |(c,y)::r,h,b,x,hx=>by
  simp only[Ad] at hx
  by_cases e:c=b
  ·subst e
   simp at hx
   subst hx
   exact⟨by simp,h.1⟩
  ·have e':(c==b)=false:=by simpa using e
   rw[e'] at hx
   obtain⟨h1,h2⟩:=J4 h.2 b x hx
   exact⟨A0p _ h1,h2⟩
theorem P4{P:Program}{id:Nat}{ev:Operand->D}{hp:Nat->Option Blk}{dst:Option Tmp}{T:TypeId}{pos:String}{af:Array Edge}{gd:Option (Nat×Bool)}{f:FuncId}{args:Array Operand}{ts:Array TypeId}{ds:List D}{r:D}(Hq:Hp)
  (hq:Jl hp Hq) (ha:loL ((args.toList.map ev).map (frz (Ad Hq) 4)) ds) (hpu:Ag ds=true) (hf:DC r=true) (hc:A0 P f ds r):
  AC P ⟨dst,.call {callee:=.value (.func f),args:=args,argTypes:=ts},T,pos,af,gd⟩ id ev hp ⟨r,[],Hq.map (·.1)⟩:=by
 intro w0 M0 I0 fr I mu h a w hga hw hid hxs hb K Q hK
 have hargs:=Bc.args (w:=w) (I:=I) (mu:=mu) (ev:=ev) (a:=a) (args:=args) fun y hy=>hxs y (by simp[Op.operands,Call.operands];exact .inr (by simpa using hy))
 have hs:∀ b x,Ad Hq b=some x->h b=some x:=fun b x hx=>by
  obtain⟨h1,h2⟩:=J4 hq b x hx
  exact(hb b h1).trans h2
 have hwq:=hw.sub hs
 let J:Nat->Prop:=fun k=>I k∨∃ b x v,Ad Hq b=some x/\mu b=some v/\Ae v=some k
 have hIJ:∀ k,I k->J k:=fun k hk=>.inl hk
 have hJ:∀ b x v k,Ad Hq b=some x->mu b=some v->Ae v=some k->J k:=fun b x v k h1 h2 h3=>.inr ⟨b,x,v,h1,h2,h3⟩
 have hJl:∀ k,J k->k<w.heap.size:=by
  rintro k (hk|⟨b,x,v,h1,h2,h3⟩)
  ·exact hw.lt k hk
  ·exact(hwq.loc b x v k h1 h2 h3).2.2
 have hall:Bc w J mu ds (args.toList.map a.eval):=by
  obtain⟨l1,l2⟩:=BD ha
  refine⟨by rw[<-l1];simpa using hargs.1,fun i hi=>?_⟩
  rw[<-l1] at hi
  have hi':i<(args.toList.map ev).length:=by simpa using hi
  have:=l2 i hi
  rw[CT hi'] at this
  exact(Rep.frz hwq hIJ hJ 4 _ _ (hargs.2 i hi')).lo this
 have hall':=hall.unmu (mu':=fun _=>none) hpu
 unfold A0 at hc
 have hcall:=hc.2 w J _ ((hga.at hw).mono hIJ) hJl hall'.1 hall'.2
 have hrun:(execOp a.eval ⟨dst,.call {callee:=.value (.func f),args:=args,argTypes:=ts},T,pos,af,gd⟩).run P w=.ok (.enter f (args.toList.map a.eval).toArray) w:=by
  have e1:args.map a.eval=(args.toList.map a.eval).toArray:=by apply Array.ext';simp
  simp only[execOp,resolve,Act.eval,Deferred.ofValue,A0e,A0j,Result.andThen,invoke]
  have e2:#[]++args.map a.eval++ #[]=(args.toList.map a.eval).toArray:=by rw[e1];simp
  exact(congrArg (fun z=>(callFunc f z).run P w) e2).trans (AZ hc.1 _ w)
 refine C6 hrun ?_
 refine hcall.mono fun e w' ⟨v,I',he,hv,h1,h2,h3,h4⟩=>?_
 subst he
 have hext:Ext I mu w I mu w':=⟨fun _ h=>h,fun _ _ h=>h,fun k hk=>h4.block k (hw.lt k hk)⟩
 exact hK v w' I mu hext ((hw.below (fun _ h=>h) (fun _ h=>.inl h) (fun k hk=>A0R (hw.lt k hk) h4.size) h4).less fun b hb=>hb.1) (hv.flat hf)
theorem VV(hp:Nat->Option Blk):Jl hp []=True:=rfl
theorem Tl(hp:Nat->Option Blk)(p:Nat×Blk)(r:Hp):Jl hp (p::r)=(hp p.1=some p.2/\Jl hp r):=rfl
attribute [push_cast] VV Tl
noncomputable section
variable{P:Program}{ops:Array Oper}{nx:Nat}{dst:Option Tmp}{T:TypeId}{ps:String}{af:Array Edge}{gd:Option (Nat×Bool)}{f:FuncId}{args:Array Operand}{ts:Array TypeId}{ds:List D}{r:D}{l:List Oper}{pos:Nat}{acc:List Eff}{s:St}{K:List Eff->St->Prop}
theorem A1.lend(Hq:Hp)(bs:List Nat)(hbs:Hq.map (·.1)=bs)(hc:A0 P f ds r)(hg:gd=none∨∃ j want t,gd=some (j,want)/\AT ops j=some t/\gOf (s.env.get t) want=some true)(hq:Jl (Ad s.hp) Hq)(ha:loL ((args.toList.map (evO P s.env.get)).map (frz (Ad Hq) 4)) ds)(hpu:Ag ds=true)(hf:DC r=true)
  (hk:GoS P ops nx l (pos+1) (⟨r,[],bs⟩::acc) (s.app dst ⟨r,[],bs⟩) K):A1 P ops nx (⟨dst,.call {callee:=.value (.func f),args:=args,argTypes:=ts},T,ps,af,gd⟩::l) pos acc s K:=by
 subst hbs
 rw[Cb] at hk;rw[Bj]
 unfold Bz
 refine .inl ⟨_,?_,by have:=Go.run hk;unfold Bz at this;exact this⟩
 rcases hg with rfl|⟨j,want,t,rfl,ht,hg⟩
 ·exact Bd.plain rfl (P4 Hq hq ha hpu hf hc)
 ·exact Bd.guard_true rfl ht hg (P4 Hq hq ha hpu hf hc)
end
section
variable{P:Program}{ops:Array Oper}{nx:Nat}{dst:Option Tmp}{T:TypeId}{ps:String}{af:Array Edge}{gd:Option (Nat×Bool)}{l:List Oper}{pos:Nat}{acc:List Eff}{s:St}{K:List Eff->St->Prop}{f:FuncId}{args:Array Operand}{ts:Array TypeId}
def Ps(P:Program)(f:FuncId)(ds:List D)(r:D):Prop:=
 ∀(w:World) (I:Nat->Prop) (mu:Nat->Option Value) (vs:List Value),(∀ k,I k->k<w.heap.size)->Bc w I mu ds vs->
  ∃ u w' I',(callFunc f vs.toArray).run P w=.ok (.value u) w'/\Rep w' I' mu r u/\(∀ k,I k->I' k)/\(∀ k,I' k->I k∨w.heap.size<=k)/\(∀ k,I' k->k<w'.heap.size)/\Below w.heap.size w w'
theorem P7{id:Nat}{ev:Operand->D}{hp:Nat->Option Blk}{ds:List D}{r:D}(ha:args.toList.map ev=ds)(hc:Ps P f ds r):AC P ⟨dst,.call {callee:=.value (.func f),args:=args,argTypes:=ts},T,ps,af,gd⟩ id ev hp ⟨r,[],[]⟩:=by
 subst ha
 intro w0 M0 I0 fr I mu h a w hga hw hid hx hb K Q hK
 have hargs:=Bc.args (w:=w) (I:=I) (mu:=mu) (ev:=ev) (a:=a) (args:=args) fun y hy=>hx y (by simp[Op.operands,Call.operands];exact .inr (by simpa using hy))
 obtain⟨u,w',I',hrun,hv,h1,h2,h3,h4⟩:=hc w I mu _ hw.lt hargs
 have e1:args.map a.eval=(args.toList.map a.eval).toArray:=by apply Array.ext';simp
 have e2:#[]++args.map a.eval++ #[]=(args.toList.map a.eval).toArray:=by rw[e1];simp
 refine DG (w':=w') (v:=u) (by
  simp only[execOp,resolve,Act.eval,Deferred.ofValue,A0e,A0j,Result.andThen,invoke]
  exact(congrArg (fun z=>(callFunc f z).run P w) e2).trans hrun) ?_
 have hext:Ext I mu w I' mu w':=⟨h1,fun _ _ h=>h,fun k hk=>h4.block k (hw.lt k hk)⟩
 exact hK u w' I' mu hext ((hw.below h1 h2 h3 h4).less fun b hb=>hb.1) hv
theorem A1.extG{ds:List D}{r:D}(hc:Ps P f ds r)(hg:gd=none∨∃ j want t,gd=some (j,want)/\AT ops j=some t/\gOf (s.env.get t) want=some true)(ha:args.toList.map (evO P s.env.get)=ds)
  (hk:GoS P ops nx l (pos+1) (⟨r,[],[]⟩::acc) (s.app dst ⟨r,[],[]⟩) K):A1 P ops nx (⟨dst,.call {callee:=.value (.func f),args:=args,argTypes:=ts},T,ps,af,gd⟩::l) pos acc s K:=by
 rw[Bj]
 rw[Cb] at hk
 unfold Bz
 refine .inl ⟨_,?_,by have:=Go.run hk;unfold Bz at this;exact this⟩
 rcases hg with rfl|⟨j,want,t,rfl,ht,hg⟩
 ·exact Bd.plain rfl (P7 ha hc)
 ·exact Bd.guard_true rfl ht hg (P7 ha hc)
theorem Ps.of{k:FuncId}{fn:Func}{e:Array Value->Sem Value}{ds:List D}{r:D}(hf:P.funcs[k]? =some fn)(hn:(fn.name== "runtime.NumGoroutine")=false)(hb:fn.body.isNone=true)(h1:Extern.findNext fn=none)(h2:Extern.find fn=some e)
  (h:∀ (w:World) (I:Nat->Prop) (mu:Nat->Option Value) (vs:List Value),(∀ k,I k->k<w.heap.size)->Bc w I mu ds vs->
   ∃ v w' I',(e vs.toArray).run P w=.ok v w'/\Rep w' I' mu r v/\(∀ k,I k->I' k)/\(∀ k,I' k->I k∨w.heap.size<=k)/\(∀ k,I' k->k<w'.heap.size)/\Below w.heap.size w w'):Ps P k ds r:=by
 intro w I mu vs hI hr
 obtain⟨v,w',I',g1,g2⟩:=h w I mu vs hI hr
 refine⟨v,w',I',?_,g2⟩
 have hn':fn.name≠ "runtime.NumGoroutine":=by simpa using hn
 have hb':fn.body=none:=by simpa using hb
 simp[callFunc,hf,hn',hb',h1,h2,g1,Result.andThen]
end
def s01(v u:Value):D->Value->Prop
 |.val x,y=>y=x/\okP x
 |.ref 0 i off sz,y=>∃ k,v=.pointer (some ⟨k,0,none⟩)/\y=.pointer (some ⟨k,i*sz+off,none⟩)
 |.gref 1 len,y=>y=u/\∃ A cap,u=.slice A len cap
 |_,_=>False
def Ds(b g:Nat):D->D
 |.ref 0 i off sz=>.ref b i off sz
 |.gref 1 len=>.gref g len
 |d=>d
def is01:D->Prop
 |.val _=>True
 |.ref 0 _ _ _=>True
 |.gref 1 _=>True
 |_=>False
def isG:D->Bool
 |.gref _ _=>true
 |_=>false
theorem s01_out{w:World}{I:Nat->Prop}{mu:Nat->Option Value}{b g:Nat}{v u:Value}(hv:mu b=some v)(hu:mu g=some u){d:D}{y:Value}(h:s01 v u d y):Rep w I mu (Ds b g d) y:=by
 unfold s01 at h
 split at h
 ·obtain⟨rfl,h⟩:=h;exact .val _ h
 ·obtain⟨k,rfl,rfl⟩:=h;exact .ref _ _ _ _ k hv
 ·obtain⟨rfl,A,cap,rfl⟩:=h;exact .gref _ _ A cap hu
 ·exact h.elim
theorem s01_in{w:World}{I:Nat->Prop}{mu:Nat->Option Value}{b g:Nat}{v u:Value}(hv:mu b=some v)(hu:mu g=some u){d:D}{y:Value}(hd:is01 d)(h:Rep w I mu (Ds b g d) y):s01 v u d y:=by
 unfold is01 at hd
 split at hd
 ·exact⟨h.val_inv,h.val_ok⟩
 ·simp only[Ds] at h
  cases h with
  |ref _ _ _ _ k hk=>rw [hv] at hk;cases hk;exact⟨k,rfl,rfl⟩
 ·simp only[Ds] at h
  cases h with
  |gref _ _ A cap hk=>rw [hu] at hk;cases hk;exact⟨rfl,A,cap,rfl⟩
 ·exact hd.elim
theorem We{v u u':Value}{d:D}{y:Value}(hd:isG d=false)(h:s01 v u d y):s01 v u' d y:=by
 unfold s01 at h|-
 split at h<;>first|exact h|(simp[isG] at hd)
theorem YX(b g:Nat)(d:D):AN (Ds b g d)=AN d:=by
 unfold Ds
 split<;>rfl
def prR(T:TypeId)(es:List D)(v u:Value)(o:Option Obj):Prop:=
 ∃(k:Nat) (us:List Value),v=.pointer (some ⟨k,0,none⟩)/\o=some (.cells us.toArray T (0,0))/\us.length=es.length/\∀ i,i<es.length->s01 v u (nd es i) (nv us i)
def prG(T:TypeId)(t:List UInt8)(v _u:Value)(o:Option Obj):Prop:=
 (v=.slice none 0 0/\t=[])∨∃ (g cap:Nat) (cur:Array Value),v=.slice (some ⟨g,0,none⟩) t.length cap/\0<cap/\o=some (.cells cur T (0,0))/\t.length<=cap/\cap<=maxLen/\cur.size=cap/\cur.toList.take t.length=Lib.byteCells t
section
variable{P:Program}{ops:Array Oper}{nx:Nat}{dst:Option Tmp}{T:TypeId}{ps:String}{af:Array Edge}{gd:Option (Nat×Bool)}{l:List Oper}{pos:Nat}{acc:List Eff}{s:St}{K:List Eff->St->Prop}{op:Op}{id:Nat}{ev:Operand->D}{hp:Nat->Option Blk}{e:Eff}
theorem A1.of_does(hd:AC P ⟨dst,op,T,ps,af,gd⟩ (2*(nx+4*pos)) (evO P s.env.get) (Ad s.hp) e)(hg:gd=none∨∃ j want t,gd=some (j,want)/\AT ops j=some t/\gOf (s.env.get t) want=some true)
  (hk:GoS P ops nx l (pos+1) (e::acc) (s.app dst e) K):A1 P ops nx (⟨dst,op,T,ps,af,gd⟩::l) pos acc s K:=by
 rw[Bj]
 rw[Cb] at hk
 unfold Bz
 refine .inl ⟨_,?_,by have:=Go.run hk;unfold Bz at this;exact this⟩
 rcases hg with rfl|⟨j,want,t,rfl,ht,hg⟩
 ·exact Bd.plain rfl hd
 ·exact Bd.guard_true rfl ht hg hd
theorem Um{t:TypeId}{ti:TI}{a:Operand}{b g off sz:Nat}{T0:TypeId}{es:List D}{r:D}(ht:Ak P t=some ti)(hag:ti.ag=false)(ha:ev a=.ref b 0 off sz)(hb:hp b=some (.pr g (prR T0 es)))(ho:off<es.length)(hr:Ds b g (nd es off)=r):
  AC P ⟨dst,.load t a,T,ps,af,gd⟩ id ev hp ⟨r,[],[b]⟩:=by
 subst hr
 refine AC.of_runs (fun ρ=>Instr.loadAt t (ρ a)) (fun a w=>BL _ w) fun w0 M0 I0 fr I mu h ac w hw hid hx hbb=>?_
 have hxa:=hx a (by simp[Op.operands])
 rw[ha] at hxa
 obtain⟨v,u,h1,h2,_,_,k,us,rfl,h4,h5,h6⟩:=hw.blk b _ ((hbb b (by simp)).trans hb)
 show AA P (fun w=>(Instr.loadAt t (ac.eval a)).run P w) _ _ _ _ _ _ _ _ _ _ _
 generalize ac.eval a=va at*
 cases hxa with
 |ref _ _ _ _ k' hk=>
  rw[h1] at hk
  cases hk
  have h4':w.heap[k]? =some (.cells us.toArray T0 (0,0)):=h4
  have hcell:w.cell? ⟨k,off,none⟩=some (nv us off):=by
   simp only[World.cell?,h4',A1f,nv]
   rw[if_neg (by simp)]
   simp[A02,show off<us.length by omega]
  have hl:=(C0 (P:=P) (I:=I) (mu:=mu) ht w k 0 (es.map (Ds b g)) (fun j=>nv us j) (fun j hj=>by
    simp only[A06] at hj
    simp only[World.cell?,h4',A1f,nv,A1c]
    rw[if_neg (by simp)]
    simp[A02,show j<us.length by omega]) (fun j hj=>by
    simp only[A06] at hj
    have:=s01_out (w:=w) (I:=I) h1 h2 (h6 j hj)
    rwa[show nd (es.map (Ds b g)) j=Ds b g (nd es j) by simp[nd,A02,hj]]) off).2 hag (by simpa using ho)
  obtain⟨x,hl1,hl2⟩:=hl
  rw[show nd (es.map (Ds b g)) off=Ds b g (nd es off) by simp[nd,A02,ho]] at hl2
  exact AA.same hw x (by simpa[Instr.loadAt,Instr.sureAddr] using hl1) hl2
theorem Sn{t:TypeId}{ti:TI}{a x:Operand}{b g g' off sz:Nat}{T0:TypeId}{es:List D}{d:D}(ht:Ak P t=some ti)(hts:ti.sz=1)(hag:ti.ag=false)(ha:ev a=.ref b 0 off sz)(hb:hp b=some (.pr g (prR T0 es)))(ho:off<es.length)
  (hx:ev x=Ds b g' d) (hd:is01 d) (hone:AN d=true) (hg:g'=g∨(isG d=true/\∀ i,i≠off->i<es.length->isG (nd es i)=false)):
  AC P ⟨dst,.store t a x,T,ps,af,gd⟩ id ev hp ⟨.any,[(b,some (.pr g' (prR T0 (es.set off d))))],[b]⟩:=by
 refine AC.of_runs_u (fun ρ=>Instr.storeAt t (ρ a) (ρ x)) (fun a w=>Rr _ w) fun w0 M0 I0 fr I mu h ac w hw hid hxx hbb=>?_
 have hxa:=hxx a (by simp[Op.operands])
 have hxd:=hxx x (by simp[Op.operands])
 rw[ha] at hxa
 rw[hx] at hxd
 have hhb:=(hbb b (by simp)).trans hb
 obtain⟨v,u,h1,h2,hv0,hu0,k,us,rfl,h4,h5,h6⟩:=hw.blk b _ hhb
 show ∃ w' I' mu',(Instr.storeAt t (ac.eval a) (ac.eval x)).run P w=_/\_
 generalize ac.eval a=va at*
 generalize ac.eval x=vx at*
 have h4':w.heap[k]? =some (.cells us.toArray T0 (0,0)):=h4
 obtain⟨u',hu',hu'0,hall⟩:∃ u',mu g'=some u'/\u'≠undef/\∀ i,i≠off->i<es.length->s01 (.pointer (some ⟨k,0,none⟩)) u' (nd es i) (nv us i):=by
  rcases hg with rfl|⟨hgd,hg⟩
  ·exact⟨u,h2,hu0,fun i _ hi=>h6 i hi⟩
  ·cases d<;>simp [isG] at hgd
   rename_i c len
   unfold is01 at hd
   split at hd
   ·rename_i heq;cases heq
   ·rename_i heq;cases heq
   ·rename_i heq
    cases heq
    simp only[Ds] at hxd
    cases hxd with
    |gref _ _ A cap hk=>exact ⟨_,hk,by simp[undef],fun i h hi=>We (hg i h hi) (h6 i hi)⟩
   ·exact hd.elim
 have hin:=s01_in h1 hu' hd hxd
 have hvx:vx.oneCell'=true:=hxd.one (by rw[YX];exact hone)
 cases hxa with
 |ref _ _ _ _ k' hk=>
  rw[h1] at hk
  cases hk
  have hc1:vx.cells.toList=[vx]:=by cases vx<;>first|rfl|(simp[Value.oneCell'] at hvx)
  obtain⟨w',hrun,hheap,hwrote⟩:=BB (P:=P) (T:=T0) [vx] 0 off us w h4' (by simp;omega) (by simpa using hvx)
  simp only[A11] at hheap
  have hcz:vx.cells.size=ti.sz:=by rw[hts,<-A0T,hc1];rfl
  have:=hw.wrote (id:=id) hhb h1 rfl hwrote (.pr g' (prR T0 (es.set off d))) ⟨_,u',h1,hu',hv0,hu'0,k,Au us off [vx],rfl,by simpa[Ae] using hheap,by
   rw[B0 (by simp;omega),A0S];exact h5,fun i hi=>by
   rw[A0S] at hi
   rw[F8 (by simp;omega)]
   by_cases hio:i=off
   ·subst hio
    rw[if_neg (by omega),if_pos (by simp)]
    simpa[nd,nv,A02,hi] using hin
   ·have e1:nd (es.set off d) i=nd es i:=by simp[nd,A02,A1I,show ¬off=i by omega]
    rw[e1]
    by_cases hlt:i<off
    ·rw[if_pos hlt];exact hall i hio hi
    ·rw[if_neg hlt,if_neg (by simp;omega)];exact hall i hio hi⟩
  refine⟨w',I,mu,?_,this.2,this.1⟩
  simp[Instr.storeAt,Instr.sureAddr,storeVar,AS ht,hcz,hc1,hrun]
theorem Sr{t:TypeId}{qs:Array (Nat×Operand)}{vs:List (Nat×Value)}{us:Array Value}(hq:∀ a:Act,(qs.toList.map fun p=>(p.1,a.eval p.2))=vs)(hb:P.built t vs=some us):
  AC P ⟨dst,.build t qs,T,ps,af,gd⟩ id ev hp ⟨.val (.agg us),[],[]⟩:=by
 refine AC.of_runs (fun ρ=>Instr.build t (qs.toList.map fun p=>(p.1,ρ p.2)).toArray) (fun a w=>?_) fun w0 M0 I0 fr I mu h ac w hw hid hx hb'=>?_
 ·have:(qs.map fun(i,x)=>(i,a.eval x))=(qs.toList.map fun p=>(p.1,a.eval p.2)).toArray:=by apply Array.ext';simp
  simp only[execOp]
  rw[this]
  exact BL _ w
 ·refine AA.same hw (.agg us) ?_ (.val _ trivial)
  show(Instr.build t _).run P w=_
  rw[show(qs.toList.map fun p=>(p.1,ac.eval p.2))=vs from hq ac]
  exact run_build w t vs.toArray us (by simpa using hb)
theorem KX{t:TypeId}{ti:TI}(ht:Ak P t=some ti)(hok:∀ x ∈ ti.zero,okP x):AC P ⟨dst,.alloc t,T,ps,af,gd⟩ id ev hp ⟨.ref id 0 0 ti.sz,[(id,some (.pr id (prR t (ti.zero.map .val))))],[]⟩:=by
 refine AC.of_runs (fun _=>Instr.alloc t true (.tuple #[])) (fun a w=>BL _ w) fun w0 M0 I0 fr I mu h ac w hw hid hx hb'=>?_
 obtain⟨z,hz,hzl,_⟩:=Dp ht w
 have hza:z.cells=ti.zero.toArray:=by rw[<-hzl]
 have hn:(w.alloc (.cells ti.zero.toArray t)).heap[w.heap.size]? =some (.cells ti.zero.toArray t):=by show(w.heap.push _)[_]? =_;simp
 have:=hw.new hid (.cells ti.zero.toArray t) (.pointer (some ⟨w.heap.size,0,none⟩)) rfl (.pr id (prR t (ti.zero.map .val))) ⟨.pointer (some ⟨w.heap.size,0,none⟩),.pointer (some ⟨w.heap.size,0,none⟩),by simp[Ax],by simp[Ax],by simp[undef],by simp[undef],w.heap.size,ti.zero,rfl,hn,by simp,fun i hi=>by
  simp only[A06] at hi
  have e1:nd (ti.zero.map D.val) i=.val (nv ti.zero i):=by simp[nd,nv,A02,hi]
  rw[e1]
  refine⟨rfl,hok _ ?_⟩
  simp[nv,A02,hi]⟩
 refine⟨.pointer (some ⟨w.heap.size,0,none⟩),_,I,_,?_,this.2,this.1,by simpa using Rep.ref (w:=w.alloc (.cells ti.zero.toArray t)) (I:=I) id 0 0 ti.sz w.heap.size (by simp[Ax])⟩
 have e1:(newRow t ti.zero.toArray).run P w=.ok ⟨w.heap.size,0,none⟩ (w.alloc (.cells ti.zero.toArray t)):=by simp[newRow]
 simp only[Instr.alloc,newVar,A0e,hz,hza,e1,Result.andThen,A0j]
theorem Sl{t Te:TypeId}{ti:TI}{a x:Operand}{b g sz:Nat}{T0:TypeId}{es es':List D}{us:List Value}(ht:Ak P t=some ti)(hts:ti.sz=us.length)(ha:ev a=.ref b 0 0 sz)(hb:hp b=some (.pr g (prR T0 es)))(hl:es.length=us.length)(hl':es'.length=us.length)
  (hx:ev x=.val (.agg us.toArray)) (hone:∀ v ∈ us,v.oneCell'=true) (hs:∀ v i,i<us.length->s01 v (.slice none 0 0) (nd es' i) (nv us i)):
  AC P ⟨dst,.store t a x,T,ps,af,gd⟩ id ev hp ⟨.any,[(id,some (.pr id (prG Te []))),(b,some (.pr id (prR T0 es')))],[b]⟩:=by
 refine AC.of_runs_u (fun ρ=>Instr.storeAt t (ρ a) (ρ x)) (fun a w=>Rr _ w) fun w0 M0 I0 fr I mu h ac w hw hid hxx hbb=>?_
 have hxa:=hxx a (by simp[Op.operands])
 have hxd:=hxx x (by simp[Op.operands])
 rw[ha] at hxa
 rw[hx] at hxd
 have hxv:=hxd.val_inv
 have hhb:=(hbb b (by simp)).trans hb
 obtain⟨v,u,h1,h2,hv0,hu0,k,us0,rfl,h4,h5,h6⟩:=hw.blk b _ hhb
 show ∃ w' I' mu',(Instr.storeAt t (ac.eval a) (ac.eval x)).run P w=_/\_
 generalize ac.eval a=va at*
 rw[hxv]
 have h4':w.heap[k]? =some (.cells us0.toArray T0 (0,0)):=h4
 cases hxa with
 |ref _ _ _ _ k' hk=>
  rw[h1] at hk
  cases hk
  have hput:=hw.put (b0:=none) hid w (.slice none 0 0) (.pr id (prG Te [])) (fun k hk=>by simp[Ae] at hk) (A0a _) (fun _ _ _=>rfl) rfl rfl rfl ⟨.slice none 0 0,.slice none 0 0,by simp[Ax],by simp[Ax],by simp[undef],by simp[undef],.inl ⟨rfl,rfl⟩⟩
  have hbid:b≠id:=fun e=>hw.used b _ hhb (e▸hid)
  have hm1:Ax mu id (.slice none 0 0) b=some (.pointer (some ⟨k,0,none⟩)):=by simp[Ax,hbid,h1]
  obtain⟨w',hrun,hheap,hwrote⟩:=BB (P:=P) (T:=T0) us 0 0 us0 w h4' (by omega) hone
  simp only[A11] at hheap
  have:=hput.1.wrote (id:=id) (b:=b) (by rw[if_neg hbid];simpa using hhb) hm1 rfl hwrote (.pr id (prR T0 es')) ⟨_,.slice none 0 0,hm1,by simp[Ax],hv0,by simp[undef],k,Au us0 0 us,rfl,by simpa[Ae] using hheap,by
   rw[B0 (by omega)];omega,fun i hi=>by
   rw[F8 (by omega)]
   rw[if_neg (by omega),if_pos (by omega)]
   simpa using hs _ i (by omega)⟩
  refine⟨w',I,_,?_,⟨fun _ h=>h,hput.2.m,fun k hk=>this.2.w k hk⟩,?_⟩
  ·simp[Instr.storeAt,Instr.sureAddr,storeVar,AS ht,hts,Value.cells,hrun]
  ·have h2:=this.1.less (fr':=fun b=>fr b/\b≠id) (fun b hb=>⟨⟨hb.1,hb.2⟩,hb.2⟩)
   have e1:(fun c=>AO c (if c=id then some (Blk.pr id (prG Te [])) else if(none:Option Nat)=some c then none else h c) [(b,some (.pr id (prR T0 es')))])=fun c=>AO c (h c) [(id,some (.pr id (prG Te []))),(b,some (.pr id (prR T0 es')))]:=by
    funext c
    simp only[AO,A0r,A0Z]
    by_cases hc:c=id
    ·subst hc;simp
    ·have:¬id=c:=fun e=>hc e.symm
     simp[hc,this]
   rw[e1] at h2
   exact h2
theorem Un{t t':TypeId}{x:Operand}{b g i off sz:Nat}{T0:TypeId}{es:List D}(hx:ev x=.ref b i off sz)(hb:hp b=some (.pr g (prR T0 es)))
  (hc:∀ (w:World) (k:Nat) (us:Array Value),w.heap[k]? =some (.cells us T0 (0,0))->us.size=es.length->(convert t t' (.pointer (some ⟨k,i*sz+off,none⟩))).run P w=.ok (.pointer (some ⟨k,i*sz+off,none⟩)) w):
  AC P ⟨dst,.convert t t' x,T,ps,af,gd⟩ id ev hp ⟨.ref b i off sz,[],[b]⟩:=by
 refine AC.of_runs (fun ρ=>convert t t' (ρ x)) (fun a w=>BL _ w) fun w0 M0 I0 fr I mu h ac w hw hid hxx hbb=>?_
 have hxa:=hxx x (by simp[Op.operands])
 rw[hx] at hxa
 obtain⟨v,u,h1,h2,_,_,k,us,rfl,h4,h5,h6⟩:=hw.blk b _ ((hbb b (by simp)).trans hb)
 have h4':w.heap[k]? =some (.cells us.toArray T0 (0,0)):=h4
 show AA P (fun w=>(convert t t' (ac.eval x)).run P w) _ _ _ _ _ _ _ _ _ _ _
 generalize ac.eval x=va at*
 cases hxa with
 |ref _ _ _ _ k' hk=>
  rw[h1] at hk
  cases hk
  exact AA.same hw _ (hc w k us.toArray h4' (by simpa using h5)) (.ref b i off sz k h1)
theorem does_usd{ts:Array TypeId}{x:Operand}{g g0 len:Nat}{Te:TypeId}{tx:List UInt8}(hx:ev x=.gref g len)(hb:hp g=some (.pr g0 (prG Te tx)))(ht:tx≠[]):
  AC P ⟨dst,.call {callee:=.builtin .unsafeSliceData,args:=#[x],argTypes:=ts},T,ps,af,gd⟩ id ev hp ⟨.gel g 0 0 1,[],[g]⟩:=by
 refine AC.of_runs (fun ρ=>Builtin.unsafeSliceData_ ts T #[ρ x]) (fun a w=>?_) fun w0 M0 I0 fr I mu h ac w hw hid hxx hbb=>?_
 ·refine Eq.trans ?_ (BL (P:=P) (Builtin.unsafeSliceData_ ts T #[a.eval x]) w)
  simp only[execOp,resolve,A0e,A0j,Result.andThen,invoke]
  rw[show ∀ cs,builtin .unsafeSliceData ts T cs (#[x].map a.eval)=(do pure (.value (<-Builtin.unsafeSliceData_ ts T (#[x].map a.eval)))) from fun _=>rfl]
  rw[show #[x].map a.eval=#[a.eval x] by simp]
  simp only[A0e,A0j,Result.andThen]
 ·have hxa:=hxx x (by simp[Op.operands,Call.operands])
  rw[hx] at hxa
  obtain⟨v,u,h1,h2,_,_,hp⟩:=hw.blk g _ ((hbb g (by simp)).trans hb)
  show AA P (fun w=>(Builtin.unsafeSliceData_ ts T #[ac.eval x]).run P w) _ _ _ _ _ _ _ _ _ _ _
  generalize ac.eval x=va at*
  rcases hp with⟨_,rfl⟩|⟨k,cap,cur,rfl,hc0,_⟩
  ·exact absurd rfl ht
  ·cases hxa with
   |gref _ _ A cap' hk=>
    rw[h1] at hk
    cases hk
    exact AA.same hw _ (Lib.run_unsafeSliceData_row w ts T ⟨k,0,none⟩ _ _ (by omega)) (by simpa using Rep.gel (w:=w) (I:=I) g 0 0 1 k _ _ h1)
theorem Xg{pt it Te:TypeId}{x n:Operand}{g g0:Nat}{tx:List UInt8}(hpt:P.underlying pt=some (.pointer Te))(hce:P.cellsOf Te=1)(hx:ev x=.gel g 0 0 1)(hn:ev n=.val (.int .i64 tx.length))(hb:hp g=some (.pr g0 (prG Te tx)))(ht:tx≠[])(hl:tx.length<=1073741824):
  AC P ⟨dst,.call {callee:=.builtin .unsafeString,args:=#[x,n],argTypes:=#[pt,it]},T,ps,af,gd⟩ id ev hp ⟨.val (.string ⟨tx.toArray⟩),[(g,none),(id,some .junk)],[g]⟩:=by
 refine AC.of_runs (fun ρ=>Builtin.unsafeString_ #[pt,it] T #[ρ x,ρ n]) (fun a w=>?_) fun w0 M0 I0 fr I mu h ac w hw hid hxx hbb=>?_
 ·refine Eq.trans ?_ (BL (P:=P) (Builtin.unsafeString_ #[pt,it] T #[a.eval x,a.eval n]) w)
  simp only[execOp,resolve,A0e,A0j,Result.andThen,invoke]
  rw[show ∀ cs,builtin .unsafeString #[pt,it] T cs (#[x,n].map a.eval)=(do pure (.value (<-Builtin.unsafeString_ #[pt,it] T (#[x,n].map a.eval)))) from fun _=>rfl]
  rw[show #[x,n].map a.eval=#[a.eval x,a.eval n] by simp]
  simp only[A0e,A0j,Result.andThen]
 ·have hxa:=hxx x (by simp[Op.operands,Call.operands])
  have hxn:=hxx n (by simp[Op.operands,Call.operands])
  rw[hx] at hxa
  rw[hn] at hxn
  have hnv:=hxn.val_inv
  have hg:=(hbb g (by simp)).trans hb
  obtain⟨v,u,h1,h2,_,_,hp⟩:=hw.blk g _ hg
  show AA P (fun w=>(Builtin.unsafeString_ #[pt,it] T #[ac.eval x,ac.eval n]).run P w) _ _ _ _ _ _ _ _ _ _ _
  rw[hnv]
  generalize ac.eval x=va at*
  rcases hp with⟨_,rfl⟩|⟨k,cap,cur,rfl,hc0,ho,hlc,hcm,hcs,htk⟩
  ·exact absurd rfl ht
  ·have hloc:Ae (.slice (some ⟨k,0,none⟩) tx.length cap)=some k:=by simp[Ae];omega
   rw[hloc] at ho
   have ho':w.heap[k]? =some (.cells cur Te (0,0)):=ho
   cases hxa with
   |gel _ _ _ _ k' len' cap' hk=>
    rw[h1] at hk
    cases hk
    have hrun:=Lib.run_unsafeString_row (P:=P) w pt it T Te hpt hce k cur.size (by simp[World.shape?,ho']) tx ht (by omega) (by omega) (fun j y hj=>by
     have hlt:j<tx.length:=by
      rcases A14 j tx.length with h'|h'
      ·exact h'
      ·rw[List.getElem?_eq_none h'] at hj;cases hj
     have h7:(cur.toList.take tx.length)[j]? =some (.int .u8 y.toNat):=by rw[htk,Lib.byteCells,A0x,hj];rfl
     rw[A0n hlt] at h7
     have e0:((⟨k,0,none⟩:Addr).add j)=⟨k,j,none⟩:=by simp[Addr.add];try exact fun h=>h.symm
     rw[e0]
     simpa[World.cell?,ho'] using h7)
    have hfz:(w.freeze ⟨k,0,none⟩ tx.length).heap.size=w.heap.size/\(∀ j,j≠k->(w.freeze ⟨k,0,none⟩ tx.length).heap[j]? =w.heap[j]?)/\(w.freeze ⟨k,0,none⟩ tx.length).os=w.os/\(w.freeze ⟨k,0,none⟩ tx.length).tape=w.tape/\(w.freeze ⟨k,0,none⟩ tx.length).output=w.output:=by
     unfold World.freeze
     split
     ·exact⟨rfl,fun _ _=>rfl,rfl,rfl,rfl⟩
     ·refine⟨by simp,fun j hj=>?_,rfl,rfl,rfl⟩
      simp only[Array.getElem?_modify]
      rw[if_neg (fun e=>hj e.symm)]
    have hput:=hw.put (b0:=some g) hid (w.freeze ⟨k,0,none⟩ tx.length) (.slice none 0 0) .junk (fun k hk=>by simp[Ae] at hk) (by rw[hfz.1];exact A0a _) (fun j hj hne=>hfz.2.1 j fun e=>hne g _ _ rfl hg h1 (by rw[e];exact hloc)) hfz.2.2.1 hfz.2.2.2.1 hfz.2.2.2.2 trivial
    refine⟨_,_,I,_,by simpa using hrun,hput.2,?_,.val _ (by show _<=_;simp[ByteArray.size];omega)⟩
    have h2:=hput.1
    have e1:(fun c=>if c=id then some Blk.junk else if(some g:Option Nat)=some c then none else h c)=fun c=>AO c (h c) [(g,none),(id,some .junk)]:=by
     funext c;simp only[AO,A0r,A0Z,A03]
     by_cases hbi:c=id
     ·subst hbi;simp
     ·have:¬id=c:=fun h=>hbi h.symm
      simp[hbi,this]
    rw[e1] at h2
    exact h2
theorem N2(s:ByteArray):Lib.strCells s=Lib.byteCells s.data.toList:=rfl
theorem Yy{t u ty e:TypeId}{i:TypeInfo}(ht:P.underlying t=some (.slice e))(hu:P.underlying u=some .string)(hi:P.info? e=some i)(hz:i.zero=some (.int .u8 0))(hsize:i.size=1)(hby:i.bytes=1)
  {w:World} {v q:Value} {tx:List UInt8} (hv:prG e tx v q ((Ae v).bind fun k=>w.heap[k]?)) (s:ByteArray) (hne:tx++s.data.toList≠[]) (hl:tx.length+s.size<=1073741824):
  ∃ v' w',(Builtin.append_ #[t,u] ty #[v,.string s]).run P w=.ok v' w'/\(∀ q',prG e (tx++s.data.toList) v' q' ((Ae v').bind fun k=>w'.heap[k]?))/\v'≠undef/\
   (∀ k,Ae v'=some k->(w.heap.size<=k/\k<w'.heap.size)∨Ae v=some k)/\w.heap.size<=w'.heap.size/\(∀ j,j<w.heap.size->Ae v≠some j->w'.heap[j]? =w.heap[j]?)/\w'.os=w.os/\w'.tape=w.tape/\w'.output=w.output/\∃ A cap,v'=.slice A (tx.length+s.size) cap:=by
 have hsl:s.data.toList.length=s.size:=rfl
 have hll:(tx++s.data.toList).length=tx.length+s.size:=by rw[A04,hsl]
 have hpos:0<tx.length+s.size:=by rw[<-hll];exact A1M.2 hne
 have hbl:(Lib.byteCells (tx++s.data.toList)).length=tx.length+s.size:=by rw[Lib.byteCells_length,hll]
 have fin:∀ (g cap:Nat) (w':World) (cur:Array Value),w'.heap[g]? =some (.cells cur e (0,0))->tx.length+s.size<=cap->cap<=maxLen->cur.size=cap->cur.toList.take (tx.length+s.size)=Lib.byteCells (tx++s.data.toList)->
   (∀ q',prG e (tx++s.data.toList) (.slice (some ⟨g,0,none⟩) (tx.length+s.size) cap) q' ((Ae (.slice (some ⟨g,0,none⟩) (tx.length+s.size) cap)).bind fun k=>w'.heap[k]?)):=fun g cap w' cur h1 h2 h3 h4 h5 q'=>by
  refine .inr ⟨g,cap,cur,by rw[hll],by omega,?_,by rw[hll];exact h2,h3,h4,by rw[hll];exact h5⟩
  rw[show Ae (.slice (some ⟨g,0,none⟩) (tx.length+s.size) cap)=some g by simp[Ae];omega]
  exact h1
 rcases hv with⟨rfl,rfl⟩|⟨g,cap,cur,rfl,hc0,ho,hlc,hcm,hcs,htk⟩
 ·obtain⟨v',w',hrun,hown,hg,hnil⟩:=Lib.run_append_own_string (P:=P) w w.heap.size t u ty e i ht hu hi hz hsize hby (.slice none 0 0) 0 [] (World.ownsRow_nil _ _ _ _) s (by simp only[maxLen];omega) (by omega) (A0a _)
  simp only[A0t,A1c,A0m] at*
  rcases hown.2 with⟨rfl,h0⟩|⟨g,cap,cur,rfl,hbg,hgg,hnc,hcm,hcs,htake⟩
  ·omega
  ·refine⟨_,w',hrun,fin g cap w' cur hgg hnc hcm (by simpa using hcs) (by simpa[Lib.strCells_eq] using htake),by simp[undef],fun k hk=>?_,hg.size,fun j hj _=>hg.block j hj (by simp[Value.ownBlock]),hg.os,hg.tape,hg.output,_,_,rfl⟩
   have:k=g:=by
    simp only[Ae] at hk
    split at hk
    ·cases hk
    ·cases hk;rfl
   subst this
   exact .inl ⟨hbg,(A0k.1 hgg).1⟩
 ·have hloc:Ae (.slice (some ⟨g,0,none⟩) tx.length cap)=some g:=by simp[Ae];omega
  rw[hloc] at ho
  have ho':w.heap[g]? =some (.cells cur e (0,0)):=ho
  have e2:cur.toList.take tx.length++Lib.strCells s=Lib.byteCells (tx++s.data.toList):=by rw[htk,Lib.byteCells_append];rfl
  by_cases hroom:tx.length+s.size<=cap
  ·have hr:=Lib.run_append_room_string (P:=P) w t u ty e i ht hu hi hsize g tx.length cap cur ho' s hroom (by omega)
   refine⟨_,_,hr,fin g cap _ _ (setRow_heap w g cur _ e _ ho') hroom hcm ?_ ?_,by simp[undef],fun k hk=>.inr ?_,by simp,fun j hj hne=>setRow_other w g j _ (fun h=>hne (by rw[h];exact hloc)),rfl,rfl,rfl,_,_,rfl⟩
   ·simp only[A0y,A04,A0z,A0v,A0T,Lib.strCells_length]
    omega
   ·rw[e2,<-hbl]
    exact List.take_left
   ·have:k=g:=by
     simp only[Ae] at hk
     split at hk
     ·cases hk
     ·cases hk;rfl
    rw[this];exact hloc
  ·have holds:∀ j u,(Lib.byteCells tx)[j]? =some u->w.cell? ((⟨g,0,none⟩:Addr).add j)=some u:=fun j u hj=>by
    rw[<-htk] at hj
    have hlt:j<tx.length:=by
     rcases A14 j tx.length with h'|h'
     ·exact h'
     ·rw[List.getElem?_eq_none (by simp;omega)] at hj;cases hj
    rw[A0n hlt] at hj
    have e0:((⟨g,0,none⟩:Addr).add j)=⟨g,j,none⟩:=by simp[Addr.add];try exact fun h=>h.symm
    rw[e0]
    simpa[World.cell?,ho'] using hj
   have hr:=Lib.run_append_grow_string (P:=P) w t u ty e i (.int .u8 0) ht hu hi hz ⟨g,0,none⟩ tx.length cap (Lib.byteCells tx) (by rw[hsize,Lib.byteCells_length];simp) holds s (by omega) (by omega) (by rw[hby];exact growslice_fits (by omega) (by omega))
   have hge:=grownCap_ge w (tx.length+s.size) cap e
   have hgm:grownCap w (tx.length+s.size) cap e<=maxLen:=grownCap_le_maxLen w (tx.length+s.size) cap e (by simp only[maxLen];omega)
   refine⟨_,_,hr,fin w.heap.size _ _ _ (heap_alloc_new w.drew _) hge hgm ?_ ?_,by simp[undef],fun k hk=>.inl ?_,by simp,fun j hj _=>B8 w.drew _ hj,rfl,rfl,rfl,_,_,rfl⟩
   ·have hz1:(Value.int IntKind.u8 0).cells.size=1:=rfl
    simp only[Array.size_append,A0y,size_zeroCells,hz1,Lib.byteCells_length,Lib.strCells_length]
    omega
   ·simp only[Array.toList_append,A0b]
    rw[<-A0b,N2,<-Lib.byteCells_append,<-hbl]
    exact List.take_left
   ·have:k=w.heap.size:=by
     simp only[Ae] at hk
     split at hk
     ·cases hk
     ·cases hk;rfl
    subst this
    exact⟨A0a _,by simp⟩
theorem Xi{t u e:TypeId}{ti:TypeInfo}{x y:Operand}{g g0 len:Nat}{tx:List UInt8}{s:ByteArray}(ht:P.underlying t=some (.slice e))(hu:P.underlying u=some .string)(hi:P.info? e=some ti)(hz:ti.zero=some (.int .u8 0))(hsize:ti.size=1)(hby:ti.bytes=1)
  (hx:ev x=.gref g len) (hy:ev y=.val (.string s)) (hb:hp g=some (.pr g0 (prG e tx))) (hne:tx++s.data.toList≠[]) (hl:tx.length+s.size<=1073741824):
  AC P ⟨dst,.call {callee:=.builtin .append,args:=#[x,y],argTypes:=#[t,u]},T,ps,af,gd⟩ id ev hp ⟨.gref id (tx.length+s.size),[(g,none),(id,some (.pr id (prG e (tx++s.data.toList))))],[g]⟩:=by
 refine AC.of_runs (fun ρ=>Builtin.append_ #[t,u] T #[ρ x,ρ y]) (fun a w=>?_) fun w0 M0 I0 fr I mu h ac w hw hid hxx hbb=>?_
 ·refine Eq.trans ?_ (BL (P:=P) (Builtin.append_ #[t,u] T #[a.eval x,a.eval y]) w)
  simp only[execOp,resolve,A0e,A0j,Result.andThen,invoke]
  rw[show ∀ cs,builtin .append #[t,u] T cs (#[x,y].map a.eval)=(do pure (.value (<-Builtin.append_ #[t,u] T (#[x,y].map a.eval)))) from fun _=>rfl]
  rw[show #[x,y].map a.eval=#[a.eval x,a.eval y] by simp]
  simp only[A0e,A0j,Result.andThen]
 ·have hxa:=hxx x (by simp[Op.operands,Call.operands])
  have hxy:=hxx y (by simp[Op.operands,Call.operands])
  rw[hx] at hxa
  rw[hy] at hxy
  have hyv:=hxy.val_inv
  have hg:=(hbb g (by simp)).trans hb
  obtain⟨v,q,h1,h2,_,_,hp⟩:=hw.blk g _ hg
  show AA P (fun w=>(Builtin.append_ #[t,u] T #[ac.eval x,ac.eval y]).run P w) _ _ _ _ _ _ _ _ _ _ _
  rw[hyv]
  generalize ac.eval x=va at*
  have hva:va=v:=by
   cases hxa with
   |gref _ _ A cap hk=>rw [h1] at hk;cases hk;rfl
  subst hva
  obtain⟨v',w',hrun,hpr,hund,hk,hsz,hsame,hos,htp,hout,A,cap,hv'⟩:=Yy (P:=P) (ty:=T) ht hu hi hz hsize hby hp s hne hl
  have hput:=hw.put (b0:=some g) hid w' v' (.pr id (prG e (tx++s.data.toList))) (fun k hk'=>(hk k hk').imp (fun h=>h) fun h=>⟨g,_,_,rfl,hg,h1,h⟩) hsz (fun j hj hne=>hsame j hj (hne g _ _ rfl hg h1)) hos htp hout ⟨v',v',by simp[Ax],by simp[Ax],hund,hund,hpr v'⟩
  refine⟨v',w',I,_,hrun,hput.2,?_,?_⟩
  ·have h2:=hput.1
   have e1:(fun c=>if c=id then some (Blk.pr id (prG e (tx++s.data.toList))) else if(some g:Option Nat)=some c then none else h c)=fun c=>AO c (h c) [(g,none),(id,some (.pr id (prG e (tx++s.data.toList))))]:=by
    funext c;simp only[AO,A0r,A0Z,A03]
    by_cases hbi:c=id
    ·subst hbi;simp
    ·have:¬id=c:=fun h=>hbi h.symm
     simp[hbi,this]
   rw[e1] at h2
   exact h2
  ·rw[hv']
   exact .gref id _ A cap (by simp[Ax,hv'])
end
theorem AWp.regX{P:Program}{nt id:Nat}{l:List Oper}{Q:AE->St->Prop}{s:St}(hin:Jr nt l=true)(h:A1 P l.toArray s.nx l 0 [] s (fun E s'=>L4 l E (Q .normal ⟨s'.env,s'.hp,s.nx+4*l.length⟩) (RJ Q (s.nx+4*l.length) s'))):AWp P nt (.region id l.toArray false) Q s:=by
 rw[Bj] at h
 have hr:=h.out
 refine AWp.postW (AWp.same (AWp.region hin (Run.mono (fun E t h=>?_) hr)))
 obtain⟨s',h1,h2⟩:=h
 refine No h2 (fun h2=>⟨⟨s'.env,s'.hp,s.nx+4*l.length⟩,h1,rfl,_,Ar.refl _,h2⟩) fun h2=>?_
 have e1:s'.env.get Bn=t.env.get Bn:=congrFun (congrArg FSt.env h1) Bn
 refine⟨⟨(Bn,.any)::s'.env,s'.hp,s.nx+4*l.length⟩,?_,rfl,?_⟩
 ·have:=FSt.app_eq h1 (some Bn) ⟨.any,[],[]⟩
  simpa[St.app,E2,St.fs] using this
 ·rw[<-e1];exact h2
section
variable{P:Program}{ops:Array Oper}{nx:Nat}{dst:Option Tmp}{T:TypeId}{ps:String}{af:Array Edge}{gd:Option (Nat×Bool)}{l:List Oper}{pos:Nat}{acc:List Eff}{s:St}{K:List Eff->St->Prop}
theorem A1.loadR{t:TypeId}{ti:TI}{a:Operand}{b g off sz:Nat}{T0:TypeId}{es:List D}{r:D}(ht:Ak P t=some ti)(hag:ti.ag=false)(ha:evO P s.env.get a=.ref b 0 off sz)(hb:Ad s.hp b=some (.pr g (prR T0 es)))(ho:off<es.length)(hr:Ds b g (nd es off)=r)
  (hg:gd=none∨∃ j want t,gd=some (j,want)/\AT ops j=some t/\gOf (s.env.get t) want=some true) (hk:GoS P ops nx l (pos+1) (⟨r,[],[b]⟩::acc) (s.app dst ⟨r,[],[b]⟩) K):A1 P ops nx (⟨dst,.load t a,T,ps,af,gd⟩::l) pos acc s K:=
 .of_does (Um ht hag ha hb ho hr) hg hk
theorem A1.storeR(d:D)(g':Nat){t:TypeId}{ti:TI}{a x:Operand}{b g off sz:Nat}{T0:TypeId}{es:List D}(ht:Ak P t=some ti)(hts:ti.sz=1)(hag:ti.ag=false)(ha:evO P s.env.get a=.ref b 0 off sz)(hb:Ad s.hp b=some (.pr g (prR T0 es)))(ho:off<es.length)
  (hx:evO P s.env.get x=Ds b g' d) (hd:is01 d) (hone:AN d=true) (hgg:g'=g∨(isG d=true/\(es.set off (.val (.bool true))).any isG=false))
  (hg:gd=none∨∃ j want t,gd=some (j,want)/\AT ops j=some t/\gOf (s.env.get t) want=some true) (hk:GoS P ops nx l (pos+1) (⟨.any,[(b,some (.pr g' (prR T0 (es.set off d))))],[b]⟩::acc) (s.app dst ⟨.any,[(b,some (.pr g' (prR T0 (es.set off d))))],[b]⟩) K):
  A1 P ops nx (⟨dst,.store t a x,T,ps,af,gd⟩::l) pos acc s K:=
 .of_does (Sn ht hts hag ha hb ho hx hd hone (hgg.imp (fun h=>h) fun h=>⟨h.1,fun i h1 h2=>by
  have h3:=List.any_eq_false.1 h.2 (nd es i) (A1G (i:=i) (by rw[A1I];simp[nd,A02,h2,show ¬off=i from fun e=>h1 e.symm]))
  simpa using h3⟩)) hg hk
theorem A1.convR{t t':TypeId}{x:Operand}{b g i off sz:Nat}{T0:TypeId}{es:List D}(hx:evO P s.env.get x=.ref b i off sz)(hb:Ad s.hp b=some (.pr g (prR T0 es)))
  (hc:∀ (w:World) (k:Nat) (us:Array Value),w.heap[k]? =some (.cells us T0 (0,0))->us.size=es.length->(convert t t' (.pointer (some ⟨k,i*sz+off,none⟩))).run P w=.ok (.pointer (some ⟨k,i*sz+off,none⟩)) w)
  (hg:gd=none∨∃ j want t,gd=some (j,want)/\AT ops j=some t/\gOf (s.env.get t) want=some true) (hk:GoS P ops nx l (pos+1) (⟨.ref b i off sz,[],[b]⟩::acc) (s.app dst ⟨.ref b i off sz,[],[b]⟩) K):A1 P ops nx (⟨dst,.convert t t' x,T,ps,af,gd⟩::l) pos acc s K:=
 .of_does (Un hx hb hc) hg hk
theorem A1.neSame{tp te:TypeId}{ti:TypeInfo}{x y:Operand}{b i off sz:Nat}{t':TypeId}(ht:P.underlying tp=some (.pointer te))(hte:P.info? te=some ti)(hx:evO P s.env.get x=.ref b i off sz)(hy:evO P s.env.get y=.ref b i off sz)
  (hg:gd=none∨∃ j want t,gd=some (j,want)/\AT ops j=some t/\gOf (s.env.get t) want=some true) (hk:GoS P ops nx l (pos+1) (⟨.val (.bool false),[],[]⟩::acc) (s.app dst ⟨.val (.bool false),[],[]⟩) K):A1 P ops nx (⟨dst,.binOp .neq tp x y t',T,ps,af,gd⟩::l) pos acc s K:=by
 refine .of_does (e:=⟨.val (.bool false),[],[]⟩) ?_ hg hk
 refine AC.of_runs (fun ρ=>do eqGuard .neq tp x y (ρ x) (ρ y);binOp .neq tp (ρ x) (ρ y)) (fun a w=>BL _ w) fun w0 M0 I0 fr I mu h ac w hw hid hxx hbb=>?_
 have h1:=hxx x (by simp[Op.operands])
 have h2:=hxx y (by simp[Op.operands])
 rw[hx] at h1
 rw[hy] at h2
 show AA P (fun w=>(do eqGuard .neq tp x y (ac.eval x) (ac.eval y);binOp .neq tp (ac.eval x) (ac.eval y)).run P w) _ _ _ _ _ _ _ _ _ _ _
 generalize ac.eval x=vx at*
 generalize ac.eval y=vy at*
 cases h1 with
 |ref _ _ _ _ k hk=>
  cases h2 with
  |ref _ _ _ _ k' hk'=>
   rw[hk] at hk'
   cases hk'
   refine AA.same hw _ ?_ (.val (.bool false) trivial)
   have:=Lib.run_neq_ptr_same (P:=P) w ⟨k,i*sz+off,none⟩ ht hte
   simp only[A0e,eqGuard]
   simp[Result.andThen]
   exact this
theorem A1.usd{ts:Array TypeId}{x:Operand}{g g0 len:Nat}{Te:TypeId}{tx:List UInt8}(ht:tx≠[])(hx:evO P s.env.get x=.gref g len)(hb:Ad s.hp g=some (.pr g0 (prG Te tx)))
  (hg:gd=none∨∃ j want t,gd=some (j,want)/\AT ops j=some t/\gOf (s.env.get t) want=some true) (hk:GoS P ops nx l (pos+1) (⟨.gel g 0 0 1,[],[g]⟩::acc) (s.app dst ⟨.gel g 0 0 1,[],[g]⟩) K):
  A1 P ops nx (⟨dst,.call {callee:=.builtin .unsafeSliceData,args:=#[x],argTypes:=ts},T,ps,af,gd⟩::l) pos acc s K:=
 .of_does (does_usd hx hb ht) hg hk
theorem A1.ustr{pt it Te:TypeId}{x n:Operand}{g g0:Nat}{tx:List UInt8}(hpt:P.underlying pt=some (.pointer Te))(hce:P.cellsOf Te=1)(ht:tx≠[])(hl:tx.length<=1073741824)(hx:evO P s.env.get x=.gel g 0 0 1)(hn:evO P s.env.get n=.val (.int .i64 tx.length))(hb:Ad s.hp g=some (.pr g0 (prG Te tx)))
  (hg:gd=none∨∃ j want t,gd=some (j,want)/\AT ops j=some t/\gOf (s.env.get t) want=some true) (hk:GoS P ops nx l (pos+1) (⟨.val (.string ⟨tx.toArray⟩),[(g,none),(2*(nx+4*pos),some .junk)],[g]⟩::acc) (s.app dst ⟨.val (.string ⟨tx.toArray⟩),[(g,none),(2*(nx+4*pos),some .junk)],[g]⟩) K):
  A1 P ops nx (⟨dst,.call {callee:=.builtin .unsafeString,args:=#[x,n],argTypes:=#[pt,it]},T,ps,af,gd⟩::l) pos acc s K:=
 .of_does (Xg hpt hce hx hn hb ht hl) hg hk
theorem A1.appG{t u e:TypeId}{ti:TypeInfo}{x y:Operand}{g g0 len:Nat}{tx:List UInt8}{sx:ByteArray}(ht:P.underlying t=some (.slice e))(hu:P.underlying u=some .string)(hi:P.info? e=some ti)(hz:ti.zero=some (.int .u8 0))(hsize:ti.size=1)(hby:ti.bytes=1)(hne:tx++sx.data.toList≠[])(hl:tx.length+sx.size<=1073741824)
  (hx:evO P s.env.get x=.gref g len) (hy:evO P s.env.get y=.val (.string sx)) (hb:Ad s.hp g=some (.pr g0 (prG e tx)))
  (hg:gd=none∨∃ j want t,gd=some (j,want)/\AT ops j=some t/\gOf (s.env.get t) want=some true) (hk:GoS P ops nx l (pos+1) (⟨.gref (2*(nx+4*pos)) (tx.length+sx.size),[(g,none),(2*(nx+4*pos),some (.pr (2*(nx+4*pos)) (prG e (tx++sx.data.toList))))],[g]⟩::acc) (s.app dst ⟨.gref (2*(nx+4*pos)) (tx.length+sx.size),[(g,none),(2*(nx+4*pos),some (.pr (2*(nx+4*pos)) (prG e (tx++sx.data.toList))))],[g]⟩) K):
  A1 P ops nx (⟨dst,.call {callee:=.builtin .append,args:=#[x,y],argTypes:=#[t,u]},T,ps,af,gd⟩::l) pos acc s K:=
 .of_does (Xi ht hu hi hz hsize hby hx hy hb hne hl) hg hk
theorem A1.of_doesX{op:Op}{e:Eff}(hd:AC P ⟨dst,op,T,ps,af,gd⟩ (2*(nx+4*pos)) (evO P s.env.get) (Ad s.hp) e)(hg:gd=none∨∃ j want t,gd=some (j,want)/\AT ops j=some t/\gOf (s.env.get t) want=some true)
  (hk:A1 P ops nx l (pos+1) (e::acc) (s.app dst e) K):A1 P ops nx (⟨dst,op,T,ps,af,gd⟩::l) pos acc s K:=by
 rw[Bj] at hk|-
 unfold Bz at hk|-
 refine .inl ⟨_,?_,hk⟩
 rcases hg with rfl|⟨j,want,t,rfl,ht,hg⟩
 ·exact Bd.plain rfl hd
 ·exact Bd.guard_true rfl ht hg hd
end
theorem Wy(b g:Nat)(x:Value):Ds b g (.val x)=.val x:=rfl
theorem Wz(b g i off sz:Nat):Ds b g (.ref 0 i off sz)=.ref b i off sz:=rfl
theorem TO(b g len:Nat):Ds b g (.gref 1 len)=.gref g len:=rfl
attribute [push_cast] List.set_cons_zero List.set_cons_succ Wy Wz TO
theorem Mz{P:Program}{id:Nat}{ev:Operand->D}{hp:Nat->Option Blk}{dst:Option Tmp}{T:TypeId}{pos:String}{af:Array Edge}{gd:Option (Nat×Bool)}{f:FuncId}{args:Array Operand}{ts:Array TypeId}{ds:List D}{r:D}(Hq:Hp)
  (hq:Jl hp Hq) (ha:loL ((args.toList.map ev).map (frz (Ad Hq) 4)) ds) (hpu:Ag ds=true) (hc:A0 P f ds r):
  AC P ⟨dst,.call {callee:=.value (.func f),args:=args,argTypes:=ts},T,pos,af,gd⟩ id ev hp ⟨r,(Hq.map (·.1)).map fun c=>(c,none),Hq.map (·.1)⟩:=by
 intro w0 M0 I0 fr I mu h a w hga hw hid hxs hb K Q hK
 have hargs:=Bc.args (w:=w) (I:=I) (mu:=mu) (ev:=ev) (a:=a) (args:=args) fun y hy=>hxs y (by simp[Op.operands,Call.operands];exact .inr (by simpa using hy))
 have hs:∀ b x,Ad Hq b=some x->b ∈ Hq.map (·.1)/\h b=some x:=fun b x hx=>by
  obtain⟨h1,h2⟩:=J4 hq b x hx
  exact⟨h1,(hb b h1).trans h2⟩
 generalize Hq.map (·.1)=bs at*
 let hR:Nat->Option Blk:=fun b=>if b ∈ bs then h b else none
 have hRs:∀ b x,hR b=some x->h b=some x/\b ∈ bs:=by
  intro b x hx
  simp only[hR] at hx
  split at hx
  ·rename_i hm;exact⟨hx,hm⟩
  ·cases hx
 have hwR:Ap w0 M0 I0 fr I mu hR w:=hw.sub fun b x hx=>(hRs b x hx).1
 have hwq:Ap w0 M0 I0 fr I mu (Ad Hq) w:=hw.sub fun b x hx=>(hs b x hx).2
 let J:Nat->Prop:=fun k=>I k∨∃ b x v,hR b=some x/\mu b=some v/\Ae v=some k
 have hIJ:∀ k,I k->J k:=fun k hk=>.inl hk
 have hJ:∀ b x v k,Ad Hq b=some x->mu b=some v->Ae v=some k->J k:=fun b x v k h1 h2 h3=>.inr ⟨b,x,v,by simp only[hR,if_pos (hs b x h1).1];exact(hs b x h1).2,h2,h3⟩
 have hJl:∀ k,J k->k<w.heap.size:=by
  rintro k (hk|⟨b,x,v,h1,h2,h3⟩)
  ·exact hw.lt k hk
  ·exact(hwR.loc b x v k h1 h2 h3).2.2
 have hall:Bc w J mu ds (args.toList.map a.eval):=by
  obtain⟨l1,l2⟩:=BD ha
  refine⟨by rw[<-l1];simpa using hargs.1,fun i hi=>?_⟩
  rw[<-l1] at hi
  have hi':i<(args.toList.map ev).length:=by simpa using hi
  have:=l2 i hi
  rw[CT hi'] at this
  exact(Rep.frz hwq hIJ hJ 4 _ _ (hargs.2 i hi')).lo this
 have hall':=hall.unmu (mu':=fun _=>none) hpu
 unfold A0 at hc
 have hcall:=hc.2 w J _ ((hga.at hw).mono hIJ) hJl hall'.1 hall'.2
 have hrun:(execOp a.eval ⟨dst,.call {callee:=.value (.func f),args:=args,argTypes:=ts},T,pos,af,gd⟩).run P w=.ok (.enter f (args.toList.map a.eval).toArray) w:=by
  have e1:args.map a.eval=(args.toList.map a.eval).toArray:=by apply Array.ext';simp
  simp only[execOp,resolve,Act.eval,Deferred.ofValue,A0e,A0j,Result.andThen,invoke]
  have e2:#[]++args.map a.eval++ #[]=(args.toList.map a.eval).toArray:=by rw[e1];simp
  exact(congrArg (fun z=>(callFunc f z).run P w) e2).trans (AZ hc.1 _ w)
 refine C6 hrun ?_
 refine hcall.mono fun e w' ⟨v,I',he,hv,h1,h2,h3,h4⟩=>?_
 subst he
 have hbl:∀ k,k<w.heap.size->w'.heap[k]? =w.heap[k]?:=fun k hk=>h4.block k hk
 have hII:∀ k,I k->I' k:=fun k hk=>h1 k (hIJ k hk)
 have hext:Ext I mu w I' mu w':=⟨hII,fun _ _ h=>h,fun k hk=>hbl k (hw.lt k hk)⟩
 have hup:∀ b x,AO b (h b) (bs.map fun c=>(c,none))=some x->h b=some x/\b ∉ bs:=by
  intro b x hx
  rw[Hh] at hx
  split at hx
  ·cases hx
  ·rename_i hm;exact⟨hx,hm⟩
 refine hK v w' I' mu hext ⟨fun b x hx=>?_,fun b x u k hx hu hk=>?_,fun b c x y u u' k hx hy=>hw.inj b c x y u u' k (hup b x hx).1 (hup c y hy).1,fun b hb'=>hw.fresh b hb'.1,h3,h4.os.trans hw.os,h4.tape.trans hw.tape,h4.output.trans hw.output,A0L hw.grown h4.size,fun k hk hnm=>(hbl k (by have:=hw.grown;omega)).trans (hw.old k hk hnm),fun k hk=>hII k (hw.iold k hk),fun k hk=>?_,hw.keep,fun b x hx hb'=>hw.used b x (hup b x hx).1 hb'.1⟩ (hv.mono (fun _ _=>rfl) (fun _ h=>h) (fun _ _ h=>by cases h))
 ·obtain⟨g1,g2⟩:=hup b x hx
  exact(hw.blk b x g1).mono hext.w hext.i hext.m fun u k hu hk=>hbl k (hw.loc b x u k g1 hu hk).2.2
 ·obtain⟨g1,g2⟩:=hup b x hx
  have g3:=hw.loc b x u k g1 hu hk
  refine⟨g3.1,fun hI=>?_,A0R g3.2.2 h4.size⟩
  rcases h2 k hI with(h5|⟨c,y,v',q1,q2,q3⟩)|h5
  ·exact g3.2.1 h5
  ·have:=hw.inj b c x y u v' k g1 (hRs c y q1).1 hu q2 hk q3
   exact g2 (this▸(hRs c y q1).2)
  ·omega
 ·rcases h2 k hk with(h5|⟨c,y,v',q1,q2,q3⟩)|h5
  ·exact hw.inew k h5
  ·exact .inr (hwR.loc c y v' k q1 q2 q3).1
  ·exact .inr (.inr (A0L hw.grown h5))
noncomputable section
variable{P:Program}{ops:Array Oper}{nx:Nat}{dst:Option Tmp}{T:TypeId}{ps:String}{af:Array Edge}{gd:Option (Nat×Bool)}{f:FuncId}{args:Array Operand}{ts:Array TypeId}{ds:List D}{r:D}{l:List Oper}{pos:Nat}{acc:List Eff}{s:St}{K:List Eff->St->Prop}
theorem A1.giveF(Hq:Hp)(bs:List Nat)(hbs:Hq.map (·.1)=bs)(hc:A0 P f ds r)(hg:gd=none∨∃ j want t,gd=some (j,want)/\AT ops j=some t/\gOf (s.env.get t) want=some true)(hq:Jl (Ad s.hp) Hq)(ha:loL ((args.toList.map (evO P s.env.get)).map (frz (Ad Hq) 4)) ds)(hpu:Ag ds=true)
  (hk:GoS P ops nx l (pos+1) (⟨r,bs.map fun c=>(c,none),bs⟩::acc) (s.app dst ⟨r,bs.map fun c=>(c,none),bs⟩) K):A1 P ops nx (⟨dst,.call {callee:=.value (.func f),args:=args,argTypes:=ts},T,ps,af,gd⟩::l) pos acc s K:=by
 subst hbs
 rw[Cb] at hk;rw[Bj]
 unfold Bz
 refine .inl ⟨_,?_,by have:=Go.run hk;unfold Bz at this;exact this⟩
 rcases hg with rfl|⟨j,want,t,rfl,ht,hg⟩
 ·exact Bd.plain rfl (Mz Hq hq ha hpu hc)
 ·exact Bd.guard_true rfl ht hg (Mz Hq hq ha hpu hc)
end
end Go.Ab
namespace Go.Ab
open Go.Proofs Go.Proofs.Tryz
abbrev qgB(a g n:Nat):Blk:=.rows [[.val (.int .u64 a),.gref g n]] 2
abbrev qgH(a g n:Nat)(X:List (List D)):Hp:=[(3,qgB a g n),(g,.grow X 20)]
abbrev quH(a o n:Nat)(X:List (List D)):Hp:=[(3,quB a o n),(5,.grow X 20)]
theorem Es{y:List D}(hy:Ag y=true):∀ {X:List (List D)},A6 X=true->A6 (X++[y])=true
 |[],_=>by simp[A6,hy]
 |x::X,h=>by simp only[A6,A07] at h;simp only[A0c,A6,h.1,Es hy h.2,A0M]
theorem c_qAdd(a n:Nat)(X:List (List D))(u:SMu)(hX:A6 X=true)(hl:X.length=n)(hn:a+n<=1048576):
  A2 prog 18 [.ref 3 0 0 2,.agg (Ao u.m)] (qgH a 5 n X) (.tup [.val (.int .u64 ((a:Int)+n+1)),.val (.int .i64 0)]) (qgH a 0 (n+1) (X++[Bq (a+n+1,u)])):=by
 have hN:=HC a X false (by omega)
 rw[hl] at hN
 have hT:=c_twin ((a:Int)+n+1) u
 have er:Bq (a+n+1,u)=.val (.int .u64 ((a:Int)+n+1))::Ao u.m:=by rw[Eo];simp
 have oR:=Da (a+n+1,u)
 have oU:=Ay u.m
 have c1:decide ((4611686018427387903:Int)<(a:Int)+n+1)=false:=decide_eq_false (by omega)
 have oS:=Es oR hX
 rw[er] at*
 rw[Fe] at*
 generalize u.m=m at*
 refine Zd [] func18 rfl ntmps18 results18 ?_
 (have z:=Za hX<|Za hl<|Za oU c1;(try push_cast[z])<;>repeat' (first|apply Zi<;>intro _|refine Zc hT ?_|exact Zo|with_reducible apply Za|((with_reducible show A1 _ _ _ _ _ _ _ _);refine A1.lend (qgH a 5 n X) _ rfl (by exact hN ..) (by first|exact .inl rfl|exact .inr ⟨_,_,_,rfl,rfl,rfl⟩) ?_ ?_ ?_ (by first|rfl|push_cast [z]) ?_;(· push_cast[z]<;>(with_unfolding_all exact A8 _));(· push_cast[z]<;>first|exact fun _=>trivial|(with_unfolding_all exact A8 _));(· push_cast[z]);try push_cast[z])|fail)<;>try push_cast[z])
 all_goals first|omega|(intro y hy;cases A0d.1 hy;rfl)|(intro y hy d hd;cases A0d.1 hy;simp only[A0s,A1x,or_false] at hd;rcases hd with rfl|rfl|rfl|rfl|rfl|rfl|rfl|rfl|rfl|rfl|rfl|rfl|rfl|rfl|rfl|rfl|rfl|rfl|rfl|rfl<;>rfl)|skip
 apply Zr [(0,168)] rfl<;>push_cast [oS]
theorem Cn:∀ (n:Nat) (X:List (List D)),A6 X=true->A6 (X.take n)=true
 |0,_,_=>by simp[A6]
 |n+1,[],_=>by simp[A6]
 |n+1,x::X,h=>by
  simp only[A6,A07,A1j] at h|-;exact⟨h.1,Cn n X h.2⟩
theorem Co:∀ (n:Nat) (X:List (List D)),A6 X=true->A6 (X.drop n)=true
 |0,X,h=>by simpa using h
 |n+1,[],_=>by simp[A6]
 |n+1,x::X,h=>by
  simp only[A6,A07] at h
  rw[List.drop_succ_cons];exact Co n X h.2
theorem E7:∀ {a b:List (List D)},A6 a=true->A6 b=true->A6 (a++b)=true
 |[],_,_,h=>h
 |x::a,b,h,k=>by simp only[A6,A07,A0c] at h|-;exact⟨h.1,E7 h.2 k⟩
theorem c_qCut(a o n d:Nat)(X:List (List D))(hX:A6 X=true)(hl:o+n<=X.length)(hn:a+X.length<=1048576)(hd:d<=n):
  A2 prog 28 [.ref 3 0 0 2,.val (.int .u64 ((a:Int)+d))] (quH a o n X) (.val (.int .i64 0)) (quH (a+d) (o+d) (n-d) (Au X o (List.replicate d F1))):=by
 have hN:=HC a ((X.drop o).take n) false (by simp;omega)
 have lN:((X.drop o).take n).length=n:=by simp;omega
 rw[lN] at hN
 have c1:decide ((a:Int)+d<a)=false:=decide_eq_false (by omega)
 have c2:decide ((a:Int)+n+1<=(a:Int)+d)=false:=decide_eq_false (by omega)
 have w1:IntKind.u64.wrap ((a:Int)+d-a)=(d:Int):=by rw[show(a:Int)+d-a=d by omega];exact N1 (by omega) (by omega)
 have w2:IntKind.i64.wrap (d:Int)=(d:Int):=A9 (by omega) (by omega)
 have lS:(Au X o (List.replicate d F1)).length=X.length:=B0 (by simp;omega)
 have oS:A6 (Au X o (List.replicate d F1))=true:=by
  unfold Au
  refine E7 (Cn _ _ hX) (E7 ?_ (Co _ _ hX))
  clear lS hd c1 c2 w1 w2
  induction d with
  |zero=>rfl
  |succ d ih=>simp only[A1L,A6,ih,A1N];rfl
 refine Zd [] func28 rfl ntmps28 results28 ?_
 have oN:=Cn n _ (Co o X hX)
 (have z:=Za hX<|Za hl<|Za oN<|Za c1<|Za c2<|Za w1 w2;(try push_cast[z])<;>repeat' (first|apply Zi<;>intro _|exact Zo|with_reducible apply Za|((with_reducible show A1 _ _ _ _ _ _ _ _);refine A1.lend (quH a o n X) _ rfl (by exact hN ..) (by first|exact .inl rfl|exact .inr ⟨_,_,_,rfl,rfl,rfl⟩) ?_ ?_ ?_ (by first|rfl|push_cast [z]) ?_;(· push_cast[z]<;>(with_unfolding_all exact A8 _));(· push_cast[z]<;>first|exact fun _=>trivial|(with_unfolding_all exact A8 _));(· push_cast[z]);try push_cast[z])|fail)<;>try push_cast[z])
 all_goals first|omega|(show o+n<=(Au X o (List.replicate d F1)).length;omega)|(show(o:Int)+n<=(Au X o (List.replicate d F1)).length;omega)|skip
 apply Zw<;>push_cast [oS]
section
variable{b:GT}{q:OQ}{l:List GE}(h:FJ b q l)(hl:l.length+q.es.length<=1048576)(hls:∀ e ∈ l,e.1.size<=64)(p t:ByteArray)(hp:p.size<=1048576)(ht:t.size<=1048576)(hvs:∀ e ∈ q.view l,e.1.size<=64/\Sm e.2)(hE:A0 prog 309 [.val (.string p)] (.tup [.val (.string (endS p).1),.val (.bool (endS p).2)]))
include h hl hls hp ht hvs hE
variable(hvl:(q.view l).length<=1048576)
include hvl
end
section
variable{b:GT}{q:OQ}
end
theorem rw1_len(p:List CE×Nat)(u:Bw):p.1.length<=(rw1 p u).1.length+1:=by
 unfold rw1
 split
 ·unfold Jg
  split<;>simp
  omega
 ·unfold Ut
  split
  ·simp only[List.length_eraseIdx]
   split<;>omega
  ·exact Nat.le_succ _
theorem V0:∀ (n:Nat) (us:List Bw),us.length=n->∀ p:List CE×Nat,p.1.length<=(rwd p us).1.length+us.length
 |0,us,h,p=>by
  have:us=[]:=A0Q.1 h
  subst this
  simp[rwd]
 |n+1,us,h,p=>by
  have hne:us≠[]:=by intro e;subst e;simp at h
  obtain⟨a,u,rfl⟩:∃ a u,us=a++[u]:=⟨us.dropLast,us.getLast hne,(List.dropLast_concat_getLast hne).symm⟩
  rw[Yn]
  have h1:=V0 n a (by simpa using h) (rw1 p u)
  have h2:=rw1_len p u
  simp only[A04,A0g,A0t]
  omega
theorem es_le{q:OQ}(h:EA q.es q.ck)(e:N9 ⟨none,[]⟩ q):q.es.length<=q.us.length:=by
 obtain⟨ext,e1,e2,e3⟩:=e.ex
 have hu:q.us=ext:=by rw[e1];rfl
 have h1:=V0 _ ext rfl (q.es,q.ck)
 have h2:=Yo e2 (p:=(q.es,q.ck)) h
 have h3:(rwd (q.es,q.ck) ext).1=[]:=by
  cases hr:(rwd (q.es,q.ck) ext).1 with
  |nil=>rfl
  |cons x l=>
   obtain⟨k,n,s⟩:=x
   have h4:=NL h2.keys (k:=k) (n:=n) (s:=s) (by rw[hr];simp)
   rw[e3 k] at h4
   cases h4
 rw[h3] at h1
 rw[hu]
 simpa using h1
structure DoOk(b:GT)(l:List GE)(q:OQ)(n:Nat):Prop where
 ok:FJ b q l
 v:VOk (q.view l)
 ext:N9 ⟨none,[]⟩ q
 len:(q.view l).length+n<=4096
 us:q.us.length+8193*n<=524352
theorem Led.of_back{b:GT}{l:List GE}{q q':OQ}{n m:Nat}{L:List GE}(h:FJ b q l)(hL:Led b l q q' n L):Led b l q (q'.back q.us.length) m (q.view l):=by
 obtain⟨a1,a2,a3,a4⟩:=OQ.back_ok h hL.ok hL.ext
 refine⟨a1,a2,a3,?_⟩
 have:(q'.back q.us.length).us.length<=q.us.length:=by
  show(q'.us.take q.us.length).length<=_
  rw[A0z];omega
 omega
theorem Led.le{b:GT}{l:List GE}{q q':OQ}{n:Nat}{L:List GE}(h:FJ b q l)(hL:Led b l q q' n L):q.us.length<=q'.us.length:=(OQ.back_ok h hL.ok hL.ext).2.2.2
section
variable(hF:∀ v,Sm v->wtV v<=2097152->A0 prog 66 [.agg (A5 v)] (.val (.int .i64 (B1 v))))
include hF
end
noncomputable def TE(m:GM)(L:List GE):Int×List GE:=if WK B1 m≠0 then(WK B1 m,L) else((EK B1 m L).1,L3 m L)
theorem RR{L:List GE}{k:ByteArray}{v:GV}(h:Az k L=some v):(k,v) ∈ L:=by
 unfold Az at h
 cases hf:L.find? fun x=>decide (x.1=k) with
 |none=>rw [hf] at h;cases h
 |some e=>
  rw[hf] at h
  simp only[A15,A03] at h
  have h1:=List.mem_of_find?_eq_some hf
  have h2:=List.find?_some hf
  simp only[decide_eq_true_eq] at h2
  obtain⟨a,b⟩:=e
  subst h h2
  exact h1
theorem Wd{q:OQ}{l:List GE}(hl:VOk l)(hv:VOk (q.view l))(hk:(q.es.map (·.1)).Nodup):QK q.es l:=fun k v w h1 h2 h3=>by
 have h4:Az k (q.view l)=some v:=by
  show Az k (Gi q.es l)=_
  rw[CK k q.es l hk,h1];rfl
 have f1:=(Sc (hl.fit _ (RR h2))).1
 have f2:=(Sc (hv.fit _ (RR h4))).1
 exact same_eq f1 f2 h3
section
variable(hF:∀ v,Sm v->wtV v<=2097152->A0 prog 66 [.agg (A5 v)] (.val (.int .i64 (B1 v))))
include hF
end
end Go.Ab
namespace Go.Ab
open Go.RowKit
def Tells{σ:Type}(n:Nat)(P:Program)(g:Nat)(lb:Array Value)(enc:σ->Array Value)(next:σ->σ)(live:σ->Prop)(s0 z:σ)(Kw:σ->World->Prop):Prop:=
 ∀(l:Nat) (J:σ->World->Prop),(∀ s W,J s W->Kw s W)->(∀ s W W',J s W->Below W.heap.size W W'->J s W')->
  (∀ s W,J s W->live s->YieldAt Fence.wide (n-1) P l (enc s) W fun e W'=>e=.returned (.bool true)/\J (next s) W')->
  ∀ W,J s0 W->CallsIn Fence.wide n P g (#[.func (.yield l) #[] #[]]++lb) W fun e W'=>(∃ v,e=.returned v)/\J z W'
variable{n:Nat}{P:Program}
theorem Y5{σ:Type}{g:Operand}{ps:Array Tmp}{assign body:Code}{Q:Exit->Act->World->Prop}{a:Act}{w:World}
  {gf:Nat} {lb:Array Value} (hg:a.eval g=.func (.func gf) #[] lb) (eg:∀ args w,(callFunc gf args).run P w=.ok (.enter gf args) w)
  {enc:σ->Array Value} {next:σ->σ} {live:σ->Prop} {s0 z:σ} {Kw:σ->World->Prop} (hseq:Tells (n-1) P gf lb enc next live s0 z Kw) (hps:∀ s,(enc s).size=ps.size)
  (I:σ->World->Prop) (hK:∀ s W,I s W->Kw s W) (hIb:∀ s W W',I s W->Below W.heap.size W W'->I s W') (hIp:∀ s W l r o,w.heap.size<=l->W.heap[l]? =some (.loop r)->I s W->I s (W.putObj l o)) (h0:I s0 w) (a₁:σ->Act)
  (hassign:∀ (l:Nat) (s:σ) (W:World) (K:Act->World->Prop),K (a₁ s) W->
   assign.wpIn (Fence.wide.inRound l) (n-1-1) P (Exit.then K (fun _ _ _=>False)) {tmps:=(ps.zip (enc s)).foldl (fun t (p,v)=>t.setIfInBounds p v) a.tmps,defers:=[]} W)
  (hbody:∀ (l:Nat) (s:σ) (W:World),I s W->live s->body.wpIn (Fence.wide.inRound l) (n-1-1) P (fun e _ W'=>e=.normal/\KeepsOthers W W'/\I (next s) W') (a₁ s) W)
  (hdone:∀ (D:Nat) (W:World),w.heap.size<=D->I z W->W.heap[D]? =some (.deferred (some []))->Q .normal {a with defers:= {target:=.collected D,args:=#[]}::a.defers} W):
  (Code.rangeFunc g ps assign body).wpIn Fence.wide n P Q a w:=by
 refine wpIn_rangeFunc ?_
 intro fn hfn
 obtain⟨rec,hrec⟩:∃ rec:LoopState->Option Code->Loop,rec=fun st pe=> {state:=st,pending:=pe,fn,tmps:=a.tmps,params:=ps,assign,body,defers:=w.heap.size}:=⟨_,rfl⟩
 obtain⟨W1,hW1⟩:∃ W1,(w.alloc (.deferred (some []))).alloc (.loop (rec .ready none))=W1:=⟨_,rfl⟩
 have hL1:W1.heap[w.heap.size+1]? =some (.loop (rec .ready none)):=by
  rw[<-hW1];have:=World.alloc_heap_new (w.alloc (.deferred (some []))) (.loop (rec .ready none));rwa[World.size_alloc] at this
 have hK1:W1.heap[w.heap.size]? =some (.deferred (some [])):=by
  rw[<-hW1];exact(Below.heap_alloc _ _ _ (by simp)).trans (World.alloc_heap_new w _)
 have hI1:I s0 W1:=by rw[<-hW1];exact hIb _ _ _ (hIb _ _ _ h0 ((Below.refl _ w).alloc (A0a _) _)) ((Below.refl _ _).alloc (A0a _) _)
 refine⟨w.heap.size+1,[{target:=.collected w.heap.size,args:=#[]}],W1,{target:=.fn (.func gf) lb,args:=#[.func (.yield (w.heap.size+1)) #[] #[]]},W1,gf,
  #[.func (.yield (w.heap.size+1)) #[] #[]]++lb,W1,?_,?_,?_,?_,fun h=>(by cases h),?_⟩
 ·rw[<-hW1,hrec];exact run_enterLoop_outer _ _ _ _ _
 ·simp only[resolve,hg]
  simp[go_sem]
 ·intro f' _;trivial
 ·simp[invoke,go_sem,eg]
 ·refine(hseq (w.heap.size+1) (fun s W=>I s W/\W.heap[w.heap.size+1]? =some (.loop (rec .ready none))/\W.heap[w.heap.size]? =some (.deferred (some [])))
   (fun s W h=>hK s W h.1) (fun s W W' h hb=>⟨hIb _ _ _ h.1 hb,(hb.block _ (A0k.1 h.2.1).1).trans h.2.1,(hb.block _ (A0k.1 h.2.2).1).trans h.2.2⟩) ?_ W1 ⟨hI1,hL1,hK1⟩).mono ?_
  ·rintro s W ⟨hi,hl,hk⟩ hlive
   have hy:=run_yield (P:=P) (args:=enc s) hl (by rw[hrec];exact hps s)
   rw[hrec] at hy
   refine⟨fn,_,assign,body,hy,roundIn_of_wpIn hfn (hassign _ s W _ ⟨_,run_beginRound hl (by rw[hrec]),?_⟩)⟩
   have hlt:w.heap.size+1<W.heap.size:=(A0k.1 hl).1
   have hl2:(W.putObj (w.heap.size+1) (.loop {rec .ready none with state:=.busy})).heap[w.heap.size+1]? =some (.loop {rec .ready none with state:=.busy}):=World.putObj_heap_same hlt
   have hk2:(W.putObj (w.heap.size+1) (.loop {rec .ready none with state:=.busy})).heap[w.heap.size]? =some (.deferred (some [])):=(World.putObj_heap_other (by omega)).trans hk
   refine wpIn_mono (hbody _ s _ (hIp _ _ _ _ _ (by omega) hl hi) hlive) ?_
   rintro e a3 W3 ⟨rfl,hk3,hi3⟩
   have hl3:=hk3.same _ _ hl2 rfl
   have hr:=run_endRound (P:=P) none hl3
   have hlt3:=(A0k.1 hl3).1
   refine⟨_,_,hr,rfl,hIp _ _ _ _ _ (by omega) hl3 hi3,?_,(World.putObj_heap_other (by omega)).trans (hk3.same _ _ hk2 rfl)⟩
   rw[World.putObj_heap_same hlt3,hrec]
   rfl
  ·rintro e W2 ⟨⟨v,rfl⟩,hi,hl,hk⟩
   refine⟨none,_,by have:=run_endLoop (P:=P) hl (by rw[hrec];simp);rw[hrec] at this;exact this,hdone _ _ (A0a _) (hIp _ _ _ _ _ (by omega) hl hi) ((World.putObj_heap_other (by omega)).trans hk)⟩
end Go.Ab
namespace Go.Proofs
open Go.Proofs Go.Proofs.Tryz Go.RowKit Go.Shelf
def Tryz.bRen:Go.Shelf.Ren:=⟨fun|166=>208|167=>290|168=>293|169=>78|240=>285|242=>334|276=>327|278=>351|n=>n,fun|0=>0|3=>3|4=>4|5=>5|9=>9|20=>20|21=>21|37=>39|46=>258|51=>217|70=>147|72=>149|75=>302|80=>155|164=>291|n=>n,fun n=>n⟩
theorem Tryz.sWs:Lays.n166 prog Tryz.bRen:= {
 mixed:=by kernel_rfl
 f166:=func208.trans (congrArg some (by kernel_rfl))
 f240:=func285.trans (congrArg some (by kernel_rfl))
 f276:=func327.trans (congrArg some (by kernel_rfl))
 t0:=underlying0
 a0:=isAgg0
 z0:=sizeOf0
 v0:=zeroValue0
 t3:=underlying3
 a3:=isAgg3
 z3:=sizeOf3
 v3:=zeroValue3
 t4:=underlying4
 a4:=isAgg4
 z4:=sizeOf4
 v4:=zeroValue4
 t9:=underlying9
 a9:=isAgg9
 z9:=sizeOf9
 v9:=zeroValue9
 t20:=underlying20
 a20:=isAgg20
 z20:=sizeOf20
 v20:=zeroValue20
 t37:=underlying39
 a37:=isAgg39
 z37:=sizeOf39
 v37:=zeroValue39
 t70:=underlying147
 a70:=isAgg147
 z70:=sizeOf147
 v70:=zeroValue147
 t72:=underlying149
 a72:=isAgg149
 z72:=sizeOf149
 v72:=zeroValue149
 t75:=underlying302
 a75:=isAgg302
 z75:=sizeOf302
 v75:=zeroValue302
 t164:=underlying291
 a164:=isAgg291
 z164:=sizeOf291
 v164:=zeroValue291}
theorem Tryz.sWb:Lays.n167 prog Tryz.bRen:= {
 mixed:=by kernel_rfl
 f167:=func290.trans (congrArg some (by kernel_rfl))
 f240:=func285.trans (congrArg some (by kernel_rfl))
 f276:=func327.trans (congrArg some (by kernel_rfl))
 t0:=underlying0
 a0:=isAgg0
 z0:=sizeOf0
 v0:=zeroValue0
 t4:=underlying4
 a4:=isAgg4
 z4:=sizeOf4
 v4:=zeroValue4
 t5:=underlying5
 a5:=isAgg5
 z5:=sizeOf5
 v5:=zeroValue5
 t9:=underlying9
 a9:=isAgg9
 z9:=sizeOf9
 v9:=zeroValue9
 t20:=underlying20
 a20:=isAgg20
 z20:=sizeOf20
 v20:=zeroValue20
 t37:=underlying39
 a37:=isAgg39
 z37:=sizeOf39
 v37:=zeroValue39
 t70:=underlying147
 a70:=isAgg147
 z70:=sizeOf147
 v70:=zeroValue147
 t72:=underlying149
 a72:=isAgg149
 z72:=sizeOf149
 v72:=zeroValue149
 t75:=underlying302
 a75:=isAgg302
 z75:=sizeOf302
 v75:=zeroValue302
 t164:=underlying291
 a164:=isAgg291
 z164:=sizeOf291
 v164:=zeroValue291}
theorem Tryz.sWr:Lays.n168 prog Tryz.bRen:= {
 mixed:=by kernel_rfl
 f168:=func293.trans (congrArg some (by kernel_rfl))
 f240:=func285.trans (congrArg some (by kernel_rfl))
 f242:=func334.trans (congrArg some (by kernel_rfl))
 f276:=func327.trans (congrArg some (by kernel_rfl))
 f278:=func351.trans (congrArg some (by kernel_rfl))
 t0:=underlying0
 a0:=isAgg0
 z0:=sizeOf0
 v0:=zeroValue0
 t3:=underlying3
 a3:=isAgg3
 z3:=sizeOf3
 v3:=zeroValue3
 t4:=underlying4
 a4:=isAgg4
 z4:=sizeOf4
 v4:=zeroValue4
 t5:=underlying5
 a5:=isAgg5
 z5:=sizeOf5
 v5:=zeroValue5
 t9:=underlying9
 a9:=isAgg9
 z9:=sizeOf9
 v9:=zeroValue9
 t20:=underlying20
 a20:=isAgg20
 z20:=sizeOf20
 v20:=zeroValue20
 t21:=underlying21
 a21:=isAgg21
 z21:=sizeOf21
 v21:=zeroValue21
 t37:=underlying39
 a37:=isAgg39
 z37:=sizeOf39
 v37:=zeroValue39
 t46:=underlying258
 a46:=isAgg258
 z46:=sizeOf258
 v46:=zeroValue258
 t51:=underlying217
 a51:=isAgg217
 z51:=sizeOf217
 v51:=zeroValue217
 t70:=underlying147
 a70:=isAgg147
 z70:=sizeOf147
 v70:=zeroValue147
 t72:=underlying149
 a72:=isAgg149
 z72:=sizeOf149
 v72:=zeroValue149
 t75:=underlying302
 a75:=isAgg302
 z75:=sizeOf302
 v75:=zeroValue302
 t164:=underlying291
 a164:=isAgg291
 z164:=sizeOf291
 v164:=zeroValue291}
def Tryz.sSt_ren:Go.Shelf.Ren:=⟨fun|169=>78|n=>n,fun|70=>147|9=>9|0=>0|72=>149|37=>39|127=>215|3=>3|5=>5|n=>n,fun|n=>n⟩
theorem Tryz.sSt:Go.Proofs.Lays.n169 prog Tryz.sSt_ren:= {
 mixed:=by kernel_rfl
 f169:=func78.trans (congrArg some (by kernel_rfl))
 t0:=underlying0
 a0:=isAgg0
 z0:=sizeOf0
 v0:=zeroValue0
 t3:=underlying3
 a3:=isAgg3
 z3:=sizeOf3
 v3:=zeroValue3
 t9:=underlying9
 a9:=isAgg9
 z9:=sizeOf9
 v9:=zeroValue9
 t37:=underlying39
 a37:=isAgg39
 z37:=sizeOf39
 v37:=zeroValue39
 t70:=underlying147
 a70:=isAgg147
 z70:=sizeOf147
 v70:=zeroValue147
 t72:=underlying149
 a72:=isAgg149
 z72:=sizeOf149
 v72:=zeroValue149
 t127:=underlying215
 a127:=isAgg215
 z127:=sizeOf215
 v127:=zeroValue215}
theorem Tryz.xB:Builder.Extra prog Tryz.bRen:= {
 sizeBuilder:=by kernel_rfl
 liesBuilder:=by kernel_rfl
 t5:=underlying5
 a5:=isAgg5
 z5:=sizeOf5
 v5:=zeroValue5
 infoByte:=by kernel_rfl
 cellsByte:=by kernel_rfl
 sizeByte:=by kernel_rfl
 neB5:=by decide}
theorem Tryz.xSt:Builder.Extra prog Tryz.sSt_ren:= {
 sizeBuilder:=by kernel_rfl
 liesBuilder:=by kernel_rfl
 t5:=underlying5
 a5:=isAgg5
 z5:=sizeOf5
 v5:=zeroValue5
 infoByte:=by kernel_rfl
 cellsByte:=by kernel_rfl
 sizeByte:=by kernel_rfl
 neB5:=by decide}
abbrev Tryz.bld(B b:Nat)(l:List UInt8)(w:World):Prop:=Lib.IsBuilderF 149 5 B b (Lib.byteCells l) w
theorem Tryz.bWs(B b:Nat)(l:List UInt8)(s:ByteArray)(w:World)(h:Tryz.bld B b l w)(hlen:l.length+s.size<=140737488355328)(hBw:B<=w.heap.size):
  Calls prog 208 #[.pointer (some ⟨b,0,none⟩),.string s] w fun e w'=>e=.returned (.tuple #[.int .i64 s.size,.nilIface])/\Tryz.bld B b (l++s.data.toList) w'/\Below B w w'/\Lib.OthersKept 5 (some b) w w':=by
 refine(Any.Builder_WriteString_k Tryz.sWs Tryz.xB B b _ s w h (by rw[Lib.byteCells_length];exact hlen) hBw).mono fun e w' h=>⟨h.1,?_,h.2.2⟩
 have h2:=h.2.1
 rw[show Lib.byteCells l++Lib.strCells s=Lib.byteCells (l++s.data.toList) from by rw[Lib.byteCells_append];rfl] at h2
 exact .inr h2
theorem Tryz.bWb(B b:Nat)(l:List UInt8)(c:UInt8)(w:World)(h:Tryz.bld B b l w)(hlen:l.length+1<=140737488355328)(hBw:B<=w.heap.size):
  Calls prog 290 #[.pointer (some ⟨b,0,none⟩),.int .u8 c.toNat] w fun e w'=>e=.returned .nilIface/\Tryz.bld B b (l++[c]) w'/\Below B w w'/\Lib.OthersKept 5 (some b) w w':=by
 refine(Any.Builder_WriteByte_k Tryz.sWb Tryz.xB B b _ c.toNat w h (by rw[Lib.byteCells_length];exact hlen) hBw).mono fun e w' h=>⟨h.1,?_,h.2.2⟩
 have h2:=h.2.1
 rw[show Lib.byteCells l++[Value.int .u8 c.toNat]=Lib.byteCells (l++[c]) from by rw[Lib.byteCells_append];rfl] at h2
 exact .inr h2
theorem Tryz.bWr(B b:Nat)(l:List UInt8)(r:Nat)(hr:r<=1114111)(w:World)(h:Tryz.bld B b l w)(hlen:l.length+4<=140737488355328)(hBw:B<=w.heap.size):
  Calls prog 293 #[.pointer (some ⟨b,0,none⟩),.int .i32 r] w fun e w'=>e=.returned (.tuple #[.int .i64 (Lib.runeCells r).length,.nilIface])/\Tryz.bld B b (l++Lib.encodeRune r) w'/\Below B w w'/\Lib.OthersKept 5 (some b) w w':=by
 refine(Any.Builder_WriteRune_k Tryz.sWr Tryz.xB B b _ r (by omega) (by omega) w h (by rw[Lib.byteCells_length];exact hlen) hBw).mono fun e w' h=>⟨h.1,?_,h.2.2⟩
 have h2:=h.2.1
 rw[<-Lib.byteCells_encodeRune,<-Lib.byteCells_append] at h2
 exact .inr h2
theorem Tryz.bSt(B b:Nat)(l:List UInt8)(w:World)(h:Tryz.bld B b l w)(hBw:B<=w.heap.size):
  Calls prog 78 #[.pointer (some ⟨b,0,none⟩)] w fun e w'=>e=.returned (.string ⟨l.toArray⟩)/\Below B w w'/\Lib.OthersKept 5 (some b) w w':=
 (Any.Builder_String_any_k Tryz.sSt Tryz.xSt B b l w h hBw).mono fun e w' h=>⟨h.1,h.2.2⟩
section
variable{n b0 b1 b2 b3:Nat}(hn:n≠0)
include hn
end
end Go.Proofs
namespace Go.Ab
open Go.Proofs Go.Proofs.Tryz
theorem Lh{s:ByteArray}{i:Nat}(h:i<s.size):s.data.toList.drop i≠[]:=by
 have hl:s.data.toList.length=s.size:=rfl
 intro e
 have:=congrArg List.length e
 rw[A0v,A0t] at this
 omega
end Go.Ab
namespace Go.Proofs
open Go.Ab Go.Proofs Go.Proofs.Tryz Go.RowKit Go.Shelf
attribute [local go_sem] Oper.semAt_some
def rnA(s:ByteArray)(p:Nat):Nat×Nat:=Lib.decodeL (s.data.toList.drop p)
def LJ(s:ByteArray)(p:Nat):Array Value:=#[.int .i64 p,.int .i32 (rnA s p).1]
def rnK(s:ByteArray)(bx:Nat)(w0:World)(p:Nat)(W:World):Prop:=Below w0.heap.size w0 W/\W.cell? ⟨bx,0,none⟩=some (.string s)/\p<=s.size/\Lib.validD (s.data.toList.drop p)=true
theorem Rv(s:ByteArray)(p:Nat)(h:p<s.size):Lib.decodeGo (s.extract p s.size)=rnA s p:=by
 have hl:s.data.toList.length=s.size:=rfl
 have e:s.extract p s.size=⟨(s.data.toList.drop p).toArray⟩:=by
  apply ByteArray.ext
  rw[ByteArray.data_extract]
  apply Array.ext'
  rw[Array.toList_extract]
  show((s.data.toList.drop p).take (s.size-p))=_
  rw[A08 (by rw[A0v];omega)]
 rw[e]
 unfold Lib.decodeGo
 rw[if_neg ?_]
 ·rfl
 ·show ¬(s.data.toList.drop p).toArray.size=0
  rw[A0y,A0v];omega
theorem YA{s:ByteArray}{p:Nat}(h:p<s.size)(hv:Lib.validD (s.data.toList.drop p)=true):¬((rnA s p).1=65533/\(rnA s p).2=1)/\Lib.validD (s.data.toList.drop (p+(rnA s p).2))=true/\p+(rnA s p).2<=s.size/\1<=(rnA s p).2/\(rnA s p).1<=1114111:=by
 have hl:s.data.toList.length=s.size:=rfl
 rw[Lib.validD_step _ (Lh h)] at hv
 have h2:=Lib.decodeL_le _ (Lh h)
 have h3:=Lib.decodeL_width (s.data.toList.drop p)
 have h4:=Lib.decodeL_rune (s.data.toList.drop p)
 rw[A0v] at h2
 unfold rnA
 split at hv
 ·cases hv
 ·rename_i hc
  rw[A1R] at hv
  exact⟨hc,hv,by omega,by omega,h4⟩
set_option maxRecDepth 100000 in
set_option maxHeartbeats 1000000 in
theorem c_runes1(n:Nat)(s:ByteArray)(hs:s.size<=1048576)(bx:Nat)(w0:World)(hT:∀ W,Below w0.heap.size w0 W->Lib.Utf8Tabs (Tryz.sDecode_ren.g 3) (Tryz.sDecode_ren.g 4) W):
  Tells n prog 332 #[.pointer (some ⟨bx,0,none⟩)] (LJ s) (fun p=>p+(rnA s p).2) (fun p=>p<s.size) 0 s.size (rnK s bx w0):=by
 intro l J hK hJb hY W h0
 refine callsIn_of_wp func332 rfl trivial ?_
 simp only[ntmps332,A0y,A0g,A0t,Nat.reduceAdd,Nat.reduceSub,A1p,A1q,A1C,A1d,A0m,A0c]
 gi_wp2
 gi_loopw [3] (fun p wr=>∃ q:Nat,p=.int .i64 q/\J q wr) (fun p wr=>s.size-(intOf p).toNat)
 case atStart=>exact ⟨0,rfl,h0⟩
 case round=>
  obtain⟨q,rfl,hJ⟩:=hrel
  obtain⟨k1,k2,k3,k4⟩:=hK _ _ hJ
  by_cases hq:q<s.size
  ·obtain⟨v1,v2,v3,v4,v5⟩:=YA hq k4
   have hsl:=Rv s q hq
   have hD:=Any.utf8_DecodeRuneInString Tryz.sDecode (s.extract q s.size) wr (hT wr k1)
   rw[hsl] at hD
   have hY2:=fun W h=>hY q W h hq
   unfold LJ at hY2
   generalize rnA s q=x at*
   obtain⟨r,wd⟩:=x
   simp only at*
   have hv:¬((r:Int)=65533/\(wd:Int)=1):=by omega
   gi_wp2
   refine⟨trivial,fun h=>(by cases h),(callsIn_wide.2 hD).mono ?_⟩
   rintro e w2 ⟨rfl,hb⟩
   obtain⟨fn,tmps,assign,body,hy,hR⟩:=hY2 w2 (hJb q wr w2 hJ hb)
   rcases Decidable.em (r=65533) with rfl|hr
   ·have hw:¬((wd:Int)=1):=by omega
    have hw2:((wd:Int)==1)=false:=by simpa using hw
    change(Instr.yield l #[Value.int .i64 q,Value.int .i32 65533]).run _ _=_ at hy
    gi_wp2
    refine⟨fun h=>(by cases h),hR.mono ?_⟩
    rintro e w3 ⟨rfl,hJ3⟩
    gi_wp2
    go_roundw
    case rel=>exact ⟨q+wd,by simp,hJ3⟩
    case measure=>simp only[intOf];omega
   ·have hr2:¬((r:Int)=65533):=by omega
    gi_wp2
    refine⟨fun h=>(by cases h),hR.mono ?_⟩
    rintro e w3 ⟨rfl,hJ3⟩
    gi_wp2
    go_roundw
    case rel=>exact ⟨q+wd,by simp,hJ3⟩
    case measure=>simp only[intOf];omega
  ·obtain rfl:q=s.size:=by omega
   gi_wp2
   go_end0
   exact⟨⟨_,rfl⟩,hJ⟩
attribute [local go_sem] Oper.semAt_some
set_option maxHeartbeats 1000000 in
theorem Vu(n:Nat)(s:ByteArray)(w:World):
  CallsIn Fence.wide n prog 291 #[.string s] w fun e w'=>e=.returned (.func (.func 332) #[] #[.pointer (some ⟨w.heap.size,0,none⟩)])/\w'=w.alloc (.cells #[.string s] 9):=by
 refine callsIn_of_wp func291 rfl trivial ?_
 simp only[ntmps291,A0y,A0g,A0t,Nat.reduceAdd,Nat.reduceSub,A1p,A1q,A1C,A1d,A0m,A0c]
 gi_wp2
 go_ret
 exact⟨rfl,rfl⟩
set_option maxHeartbeats 1000000 in
theorem ML(n:Nat)(r:Nat)(w:World):
  CallsIn Fence.wide n prog 292 #[.int .i32 r] w fun e w'=>e=.returned (.bool (decide (32<=r/\r≠34/\r≠92)))/\w'=w:=by
 refine callsIn_of_wp func292 rfl trivial ?_
 simp only[ntmps292,A0y,A0g,A0t,Nat.reduceAdd,Nat.reduceSub,A1p,A1q,A1C,A1d,A0m,A0c]
 gi_wp2
 ·rename_i h1 h2
  obtain rfl:r=34:=by omega
  go_ret
  exact⟨rfl,rfl⟩
 ·rename_i h1 h2
  go_ret
  refine⟨?_,rfl⟩
  refine congrArg Ending.returned (?_:Value.bool ((r:Int) !=34&&(r:Int) !=92)=Value.bool (decide (32<=r/\r≠34/\r≠92)))
  congr 1
  rw[Bool.eq_iff_iff]
  simp
  omega
 ·rename_i h1
  go_ret
  refine⟨?_,rfl⟩
  have:decide (32<=r)=false:=decide_eq_false (by omega)
  rw[this]
  rfl
def letD:DataW Unit:=(((((((DataW.map []).put (.int .i32 34) (.lit (.int .i32 34))).put (.int .i32 92) (.lit (.int .i32 92))).put (.int .i32 8) (.lit (.int .i32 98))).put (.int .i32 9) (.lit (.int .i32 116))).put (.int .i32 10) (.lit (.int .i32 110))).put (.int .i32 12) (.lit (.int .i32 102))).put (.int .i32 13) (.lit (.int .i32 114))
abbrev Mb(b:Nat)(w:World):Prop:=w.ownsMap prog 21 (plainElem (H:=Unit) prog 21) b 7 letD
def Je(r:Nat):Option UInt8:=if r=8 then some 98 else if r=9 then some 116 else if r=10 then some 110 else if r=12 then some 102 else if r=13 then some 114 else if r=34 then some 34 else if r=92 then some 92 else none
theorem Vd:letD=.map [(.int .i32 8,.lit (.int .i32 98)),(.int .i32 9,.lit (.int .i32 116)),(.int .i32 10,.lit (.int .i32 110)),(.int .i32 12,.lit (.int .i32 102)),(.int .i32 13,.lit (.int .i32 114)),(.int .i32 34,.lit (.int .i32 34)),(.int .i32 92,.lit (.int .i32 92))]:=by
 rfl
theorem ZS(r:Nat):Maps.has letD (.int .i32 r)=(Je r).isSome:=by
 rw[Vd,Maps.has_eq]
 have h:∀ a:Nat,(Lit.sameKey (.int .i32 a) (.int .i32 r))=decide (r=a):=fun a=>by
  simp only[Lit.sameKey,true_and]
  exact decide_eq_decide.2 (by omega)
 have e:((([(Lit.int .i32 8,DataW.lit (H:=Unit) (.int .i32 98)),(.int .i32 9,.lit (.int .i32 116)),(.int .i32 10,.lit (.int .i32 110)),(.int .i32 12,.lit (.int .i32 102)),(.int .i32 13,.lit (.int .i32 114)),(.int .i32 34,.lit (.int .i32 34)),(.int .i32 92,.lit (.int .i32 92))]).any fun p=>p.1.sameKey (.int .i32 r)))=(decide (r=8) ||(decide (r=9) ||(decide (r=10) ||(decide (r=12) ||(decide (r=13) ||(decide (r=34) ||decide (r=92))))))):=by
  simp only[List.any_cons,List.any_nil,A1V]
  exact congr (congrArg _ (h 8)) (congr (congrArg _ (h 9)) (congr (congrArg _ (h 10)) (congr (congrArg _ (h 12)) (congr (congrArg _ (h 13)) (congr (congrArg _ (h 34)) (h 92))))))
 rw[e]
 unfold Je
 repeat' split
 all_goals simp_all
theorem letD_at(r:Nat)(c:Int)(h:letD.atKey (.int .i32 r) (.lit (.int .i32 0))=.lit (.int .i32 c))(b:UInt8)(hb:Je r=some b):c=b.toNat:=by
 rw[Vd] at h
 unfold Je at hb
 repeat' split at hb
 all_goals first
  |(cases hb;subst_vars;have:=DataW.lit.inj h;cases this;rfl)
  |cases hb
set_option maxHeartbeats 1000000 in
theorem XC(n:Nat)(w:World):
  CallsIn Fence.wide n prog 294 #[] w fun e w'=>e=.returned (.map (some w.heap.size))/\Mb w.heap.size w'/\Below w.heap.size w w':=by
 have hmm:=@run_makeMap prog
 have K:=Maps.int_keyed underlying21
 have hw:∀ a:Nat,a<=127->keyOf prog 21 (.int .i32 a)=some (.int .i32 a)/\plainElem (H:=Unit) prog 21 (.int .i32 a)=some (.lit (.int .i32 a),[]):=fun a ha=>by
  have:(Lit.int .i32 a).wf=true:=by simp[Lit.wf,IntKind.min,IntKind.max,IntKind.bits,IntKind.signed];omega
  exact⟨Maps.keyOf_int_mk underlying21 this,plainElem_int underlying21 this⟩
 have h0:=World.ownsMap_made w prog 21 (plainElem (H:=Unit) prog 21)
 obtain⟨w1,r1,h1,g1⟩:=h0.update K underlying354 (by decide) (hw 34 (by decide)).1 (hw 34 (by decide)).2
 obtain⟨w2,r2,h2,g2⟩:=h1.update K underlying354 (by decide) (hw 92 (by decide)).1 (hw 92 (by decide)).2
 obtain⟨w3,r3,h3,g3⟩:=h2.update K underlying354 (by decide) (hw 8 (by decide)).1 (hw 98 (by decide)).2
 obtain⟨w4,r4,h4,g4⟩:=h3.update K underlying354 (by decide) (hw 9 (by decide)).1 (hw 116 (by decide)).2
 obtain⟨w5,r5,h5,g5⟩:=h4.update K underlying354 (by decide) (hw 10 (by decide)).1 (hw 110 (by decide)).2
 obtain⟨w6,r6,h6,g6⟩:=h5.update K underlying354 (by decide) (hw 12 (by decide)).1 (hw 102 (by decide)).2
 obtain⟨w7,r7,h7,g7⟩:=h6.update K underlying354 (by decide) (hw 13 (by decide)).1 (hw 114 (by decide)).2
 refine callsIn_of_wp func294 rfl trivial ?_
 simp only[ntmps294,A0y,A0g,A0t,Nat.reduceAdd,Nat.reduceSub,A1p,A1q,A1C,A1d,A0m,A0c]
 simp only[Int.cast_ofNat_Int] at r1 r2 r3 r4 r5 r6 r7
 gi_wp2
 go_ret
 refine⟨rfl,h7,?_⟩
 have hlt:∀ {D:DataW Unit} {n:Nat} {a:World},a.ownsMap prog 21 (plainElem (H:=Unit) prog 21) w.heap.size n D->w.heap.size<a.heap.size:=fun ⟨_,_,h,_⟩=>(A0k.1 h).1
 have gb:∀ {a b:World},w.heap.size<a.heap.size->a.grownBy b (some w.heap.size)->Below w.heap.size a b:=fun {a b} hs g=>⟨g.os,g.tape,g.output,g.size,fun k hk=>g.block k (by omega) (by simp;omega)⟩
 exact(((((((((Below.refl _ w).alloc (A0a _) _).trans (gb (hlt h0) g1)).trans (gb (hlt h1) g2)).trans (gb (hlt h2) g3)).trans (gb (hlt h3) g4)).trans (gb (hlt h4) g5)).trans (gb (hlt h5) g6)).trans (gb (hlt h6) g7))
attribute [local go_sem] Oper.semAt_some
def X6(n:Nat):UInt8:=if n<10 then(48+n).toUInt8 else(87+n).toUInt8
def LH(l:List UInt8):List UInt8:=
 if 32<=(Lib.decodeL l).1/\(Lib.decodeL l).1≠34/\(Lib.decodeL l).1≠92 then Lib.encodeRune (Lib.decodeL l).1
 else match Je (Lib.decodeL l).1 with
  |some c=>[92,c]
  |none=>[92,117,48,48,X6 ((Lib.decodeL l).1/16),X6 ((Lib.decodeL l).1%16)]
def FT:Nat->List UInt8->List UInt8
 |0,_=>[]
 |n+1,l=>if l=[] then [] else LH l++FT n (l.drop (Lib.decodeL l).2)
theorem GO(n:Nat):FT n []=[]:=by cases n<;>simp [FT]
theorem K7:∀ (n m:Nat) (l:List UInt8),l.length<=n->l.length<=m->FT n l=FT m l
 |0,m,l,h,_=>by
  have:l=[]:=A0Q.1 (by omega)
  subst this;rw[GO,GO]
 |n+1,0,l,_,h=>by
  have:l=[]:=A0Q.1 (by omega)
  subst this;rw[GO,GO]
 |n+1,m+1,l,h,k=>by
  simp only[FT]
  have h1:=Lib.decodeL_width l
  split
  ·rfl
  ·rename_i hn
   have:0<l.length:=A1M.2 hn
   rw[K7 n m _ (by rw[A0v];omega) (by rw[A0v];omega)]
theorem Wu(l:List UInt8)(h:l≠[]):FT l.length l=LH l++FT (l.drop (Lib.decodeL l).2).length (l.drop (Lib.decodeL l).2):=by
 have h1:=Lib.decodeL_width l
 have h2:0<l.length:=A1M.2 h
 rw[K7 l.length (l.length-1+1) l (by omega) (by omega)]
 simp only[FT,if_neg h]
 rw[K7 (l.length-1) (l.drop (Lib.decodeL l).2).length _ (by rw[A0v];omega) (by omega)]
theorem Nl(l:List UInt8)(h:l≠[])(hv:¬((Lib.decodeL l).1=65533/\(Lib.decodeL l).2=1)):(LH l).length=KJ (Lib.decodeL l):=by
 have e:=Lib.encode_decode l h hv
 have hl:=Lib.decodeL_le l h
 unfold LH KJ
 generalize Lib.decodeL l=x at*
 obtain⟨r,wd⟩:=x
 simp only at*
 by_cases c:32<=r/\r≠34/\r≠92
 ·rw[if_pos c,e,A0z,if_neg (by omega),if_neg (by omega)]
  omega
 ·rw[if_neg c]
  unfold Je
  repeat' split
  all_goals first
   |rfl
   |(exfalso;simp_all;done)
   |(exfalso;omega)
   |skip
  all_goals
   rename_i hq hr
   rcases hr with rfl|rfl|rfl|rfl|rfl|rfl|rfl<;>simp at hq
theorem RF:∀ (n:Nat) (l:List UInt8),l.length<=n->Lib.validD l=true->(FT n l).length=HP n l
 |0,l,_,_=>rfl
 |n+1,l,h,hv=>by
  simp only[FT,HP]
  split
  ·rfl
  ·rename_i hn
   rw[Lib.validD_step l hn] at hv
   split at hv
   ·cases hv
   ·rename_i hc
    have h1:=Lib.decodeL_width l
    have h2:0<l.length:=A1M.2 hn
    rw[A04,Nl l hn hc,RF n _ (by rw[A0v];omega) hv]
def A00(s:ByteArray):ByteArray:=if AI s=true then⟨([34]++FT s.data.toList.length s.data.toList++[34]).toArray⟩ else ByteArray.empty
theorem Np(s:ByteArray):(A00 s).size=LN s:=by
 unfold A00 LN
 split
 ·rename_i h
  show([34]++FT s.data.toList.length s.data.toList++[34]).toArray.size=_
  rw[A0y,A04,A04,RF _ _ (A0a _) h]
  simp;omega
 ·rfl
def CM(W W':World):Prop:=∀ (k:Nat) (o:Obj),W.heap[k]? =some o->(∀ r,o≠Obj.loop r)->W'.heap[k]? =some o
theorem CM.below{W W':World}(h:Below W.heap.size W W'):CM W W':=fun k o hk _=>(h.block k (A0k.1 hk).1).trans hk
theorem CM.put{W:World}{l:Nat}{r:Loop}(o':Obj)(h:W.heap[l]? =some (Obj.loop r)):CM W (W.putObj l o'):=fun k o hk ho=>(World.putObj_heap_other (fun e=>by subst e;rw[h] at hk;exact ho r (Option.some.inj hk).symm)).trans hk
theorem GP{W W':World}(hk:CM W W'){B:Nat}{e:TypeId}{v:Value}{n:Nat}{xs:List Value}(h:W.ownsRowF B e 1 v n xs):W'.ownsRowF B e 1 v n xs:=by
 refine⟨h.1,?_⟩
 rcases h.2 with hn|⟨g,cap,cur,fz,hv,hbg,hg,rest⟩
 ·exact .inl hn
 ·exact .inr ⟨g,cap,cur,fz,hv,hbg,hk g _ hg (fun r e=>by cases e),rest⟩
theorem Ky{W W':World}(hk:CM W W'){B b:Nat}{l:List UInt8}(h:Tryz.bld B b l W):Tryz.bld B b l W':=by
 rcases h with⟨hB,v,hb,ho,hne⟩|⟨hB,v,hb,ho,hne⟩
 ·exact .inl ⟨hB,v,hk _ _ hb (fun r e=>by cases e),GP hk ho,hne⟩
 ·exact .inr ⟨hB,v,hk _ _ hb (fun r e=>by cases e),GP hk ho,hne⟩
theorem TX{W W':World}(hk:CM W W'){m:Nat}(h:Mb m W):Mb m W':=by
 obtain⟨es,c,hb,rest⟩:=h
 exact⟨es,c,hk _ _ hb (fun r e=>by cases e),rest⟩
theorem WT{W W':World}{b:Nat}(hk:Lib.OthersKept 5 (some b) W W'){m:Nat}(hm:m≠b)(h:Mb m W):Mb m W':=by
 obtain⟨es,c,hb,rest⟩:=h
 exact⟨es,c,hk _ _ hb (fun e=>hm (Option.some.inj e)) (fun _ _ e=>by cases e),rest⟩
theorem D6{B b:Nat}{l:List UInt8}{W:World}(h:Tryz.bld B b l W):b<W.heap.size:=by
 rcases h with⟨_,v,hb,_⟩|⟨_,v,hb,_⟩<;>exact (A0k.1 hb).1
theorem letM_ne{B b:Nat}{l:List UInt8}{W:World}{m:Nat}(h:Tryz.bld B b l W)(hm:Mb m W):m≠b:=by
 obtain⟨es,c,hb,_⟩:=hm
 rcases h with⟨_,v,hb2,_⟩|⟨_,v,hb2,_⟩<;>(intro e;subst e;rw[hb] at hb2;cases hb2)
theorem KA{W W':World}{b b4:Nat}{l:List UInt8}{B:Nat}(hB:Tryz.bld B b l W)(hk:Lib.OthersKept 5 (some b) W W')(h4:b4≠b){v:Value}(h:W.heap[b4]? =some (.cells #[v] 354 (0,0))):W'.heap[b4]? =some (.cells #[v] 354 (0,0)):=
 hk _ _ h (fun e=>h4 (Option.some.inj e)) (fun _ _ e=>by simp at e)
theorem box_kept{W W':World}{b bx:Nat}(hk:Lib.OthersKept 5 (some b) W W')(hx:bx≠b){v:Value}(h:W.heap[bx]? =some (.cells #[v] 9 (0,0))):W'.heap[bx]? =some (.cells #[v] 9 (0,0)):=
 hk _ _ h (fun e=>hx (Option.some.inj e)) (fun _ _ e=>by simp at e)
theorem KM{W W':World}{b:Nat}{l:List UInt8}{B:Nat}(hB:Tryz.bld B b l W)(hb:Below B W W')(hk:Lib.OthersKept 5 (some b) W W'):KeepsOthers W W':=
 ⟨hb.size,fun k o hk2 ho=>hk k o hk2 (fun e=>by
  cases e
  rcases hB with⟨_,v,hb2,_⟩|⟨_,v,hb2,_⟩<;>(rw[hk2] at hb2;cases hb2;cases ho)) (fun _ _ e=>by subst e;cases ho)⟩
def MapC(b4:Nat)(W:World):Prop:=W.heap[b4]? =some (.cells #[.map none] 354 (0,0))∨∃ m,W.heap[b4]? =some (.cells #[.map (some m)] 354 (0,0))/\Mb m W
theorem MapC.keepL{W W':World}(hk:CM W W'){b4:Nat}(h:MapC b4 W):MapC b4 W':=by
 rcases h with h|⟨m,h1,h2⟩
 ·exact .inl (hk _ _ h (fun r e=>by cases e))
 ·exact .inr ⟨m,hk _ _ h1 (fun r e=>by cases e),TX hk h2⟩
theorem BY{W W':World}(hk:CM W W'){b:Nat}{v:Value}{T:TypeId}(h:W.heap[b]? =some (.cells #[v] T (0,0))):W'.heap[b]? =some (.cells #[v] T (0,0)):=hk _ _ h (fun r e=>by cases e)
structure QN(s:ByteArray)(w0:World)(b4 b bx:Nat)(p:Nat)(W:World):Prop where
 text:∃ acc:List UInt8,Tryz.bld b b acc W/\[34]++FT s.data.toList.length s.data.toList=acc++FT (s.data.toList.drop p).length (s.data.toList.drop p)/\acc.length<=6*p+1
 below:Below w0.heap.size w0 W
 blt:w0.heap.size<=b
 ne4:b4≠b
 nex:bx≠b
 box:W.heap[bx]? =some (.cells #[.string s] 9 (0,0))
 map:MapC b4 W
 le:p<=s.size
 ok:Lib.validD (s.data.toList.drop p)=true
theorem QN.keepL{s:ByteArray}{w0:World}{b4 b bx p:Nat}{W W':World}(h:QN s w0 b4 b bx p W)(hk:CM W W')(hb:Below w0.heap.size w0 W'):QN s w0 b4 b bx p W':=by
 obtain⟨⟨acc,h1,h2,h3⟩,h4,q1,q2,q3,h5,h6,h7,h8⟩:=h
 exact⟨⟨acc,Ky hk h1,h2,h3⟩,hb,q1,q2,q3,BY hk h5,h6.keepL hk,h7,h8⟩
structure MZ(s:ByteArray)(w0:World)(b4 b bx:Nat)(W:World)(acc:List UInt8)(W':World):Prop where
 bld:Tryz.bld b b acc W'
 below:Below w0.heap.size w0 W'
 blt:w0.heap.size<=b
 ne4:b4≠b
 nex:bx≠b
 box:W'.heap[bx]? =some (.cells #[.string s] 9 (0,0))
 map:MapC b4 W'
 keep:KeepsOthers W W'
theorem QN.start{s:ByteArray}{w0:World}{b4 b bx p:Nat}{W:World}(h:QN s w0 b4 b bx p W):∃ acc:List UInt8,MZ s w0 b4 b bx W acc W/\[34]++FT s.data.toList.length s.data.toList=acc++FT (s.data.toList.drop p).length (s.data.toList.drop p)/\acc.length<=6*p+1:=by
 obtain⟨⟨acc,h1,h2,h3⟩,h4,q1,q2,q3,h5,h6,h7,h8⟩:=h
 exact⟨acc,⟨h1,h4,q1,q2,q3,h5,h6,KeepsOthers.refl _⟩,h2,h3⟩
theorem MZ.write{s:ByteArray}{w0:World}{b4 b bx:Nat}{W W1 W2:World}{acc acc':List UInt8}(h:MZ s w0 b4 b bx W acc W1)(hB:Tryz.bld b b acc' W2)(hb:Below b W1 W2)(hk:Lib.OthersKept 5 (some b) W1 W2):MZ s w0 b4 b bx W acc' W2:=by
 obtain⟨h1,h2,h3,h4,h5,h6,h7,h8⟩:=h
 refine⟨hB,h2.trans (hb.mono h3),h3,h4,h5,box_kept hk h5 h6,?_,h8.trans (KM h1 hb hk)⟩
 rcases h7 with h7|⟨m,m1,m2⟩
 ·exact .inl (KA h1 hk h4 h7)
 ·exact .inr ⟨m,KA h1 hk h4 m1,WT hk (letM_ne h1 m2) m2⟩
theorem MZ.letters{s:ByteArray}{w0:World}{b4 b bx:Nat}{W W1 W2:World}{acc:List UInt8}(h:MZ s w0 b4 b bx W acc W1)(h0:W1.heap[b4]? =some (.cells #[.map none] 354 (0,0)))(hb:Below W1.heap.size W1 W2){m:Nat}(hm:Mb m W2)(hx:bx≠b4)(hw4:w0.heap.size<=b4):
  MZ s w0 b4 b bx W acc (W2.setCell ⟨b4,0,none⟩ (.map (some m)))/\(W2.setCell ⟨b4,0,none⟩ (.map (some m))).heap[b4]? =some (.cells #[.map (some m)] 354 (0,0))/\Mb m (W2.setCell ⟨b4,0,none⟩ (.map (some m))):=by
 obtain⟨h1,h2,h3,h4,h5,h6,h7,h8⟩:=h
 have hk:=CM.below hb
 have e4:W2.heap[b4]? =some (.cells #[.map none] 354 (0,0)):=BY hk h0
 have o:∀ k,k≠b4->(W2.setCell ⟨b4,0,none⟩ (.map (some m))).heap[k]? =W2.heap[k]?:=fun k h=>Below.heap_setCell _ _ _ _ h
 have n4:(W2.setCell ⟨b4,0,none⟩ (.map (some m))).heap[b4]? =some (.cells #[.map (some m)] 354 (0,0)):=by
  simp[World.setCell,Array.getElem?_modify,e4]
 have hm':Mb m (W2.setCell ⟨b4,0,none⟩ (.map (some m))):=by
  obtain⟨es,c,hh,rest⟩:=hm
  exact⟨es,c,(o m (fun e=>by subst e;rw[hh] at e4;cases e4)).trans hh,rest⟩
 refine⟨⟨?_,?_,h3,h4,h5,(o _ hx).trans (BY hk h6),.inr ⟨m,n4,hm'⟩,?_⟩,n4,hm'⟩
 ·have hB:=Ky hk h1
  have hgb:∀ {v:Value} {l:List Value},W2.ownsRowF b 5 1 v l.length l->(W2.setCell ⟨b4,0,none⟩ (.map (some m))).ownsRowF b 5 1 v l.length l:=fun {v l} ho=>by
   refine⟨ho.1,?_⟩
   rcases ho.2 with hn|⟨g,cap,cur,fz,hv,hbg,hg,rest⟩
   ·exact .inl hn
   ·exact .inr ⟨g,cap,cur,fz,hv,hbg,(o g (fun e=>by subst e;rw[hg] at e4;simp at e4)).trans hg,rest⟩
  rcases hB with⟨hB,v,hb,ho,hne⟩|⟨hB,v,hb,ho,hne⟩
  ·exact .inl ⟨hB,v,(o b (fun e=>h4 e.symm)).trans hb,hgb ho,hne⟩
  ·exact .inr ⟨hB,v,(o b (fun e=>h4 e.symm)).trans hb,hgb ho,hne⟩
 ·exact(h2.trans (hb.mono h2.size)).setCell (p:=⟨b4,0,none⟩) hw4 _
 ·exact(h8.trans ⟨hb.size,fun k o hk2 _=>(hb.block k (A0k.1 hk2).1).trans hk2⟩).trans (KeepsOthers.setCell _ _ _)
theorem MZ.next{s:ByteArray}{w0:World}{b4 b bx p:Nat}{W W':World}{acc:List UInt8}(hp:p<s.size)(hv:Lib.validD (s.data.toList.drop p)=true)(e:[34]++FT s.data.toList.length s.data.toList=acc++FT (s.data.toList.drop p).length (s.data.toList.drop p))(hl:acc.length<=6*p+1){x:List UInt8}(hx:x=LH (s.data.toList.drop p))(h:MZ s w0 b4 b bx W (acc++x) W'):KeepsOthers W W'/\QN s w0 b4 b bx (p+(rnA s p).2) W':=by
 obtain⟨v1,v2,v3,v4,v5⟩:=YA hp hv
 subst hx
 obtain⟨h1,h2,h3,h4,h5,h6,h7,h8⟩:=h
 refine⟨h8,⟨⟨_,h1,?_,?_⟩,h2,h3,h4,h5,h6,h7,v3,v2⟩⟩
 ·rw[e,Wu _ (Lh hp),A1R,A0b]
  rfl
 ·rw[A04,Nl _ (Lh hp) v1]
  have:=(LG (s.data.toList.drop p)).2
  unfold rnA at*
  omega
theorem NN{m:Nat}{W:World}(h:Mb m W)(r:Nat)(hr:r<=1114111):∃ c:Int,(Instr.lookup 354 (.map (some m)) (.int .i32 r) true).run prog W=.ok (.tuple #[.int .i32 c,.bool (Je r).isSome]) W/\∀ b,Je r=some b->c=b.toNat:=by
 have hw:(Lit.int .i32 r).wf=true:=by simp[Lit.wf,IntKind.min,IntKind.max,IntKind.bits,IntKind.signed];omega
 obtain⟨v,ps,hrun,hv⟩:=h.look_ok (Maps.int_keyed underlying21) underlying354 (zeroValue21 W) (plainElem_int underlying21 (q:=.i32) (a:=0) (by decide)) (Maps.keyOf_int_mk underlying21 hw)
 obtain⟨c,rfl,hc,hwc⟩:=plainElem_int_inv underlying21 hv
 rw[ZS] at hrun
 exact⟨c,hrun,fun b hb=>letD_at r c (congrArg Prod.fst hc) b hb⟩
theorem Vn(m:Option Nat)(w:World):(binOp .eql 354 (.map m) (.map none)).run prog w=.ok (.bool m.isNone) w:=by
 have h:(Op.equal 354 (.map m) (.map none)).run prog w=.ok m.isNone w:=Gl (P:=prog) (w:=w) 9999 underlying354 m
 simp only[binOp,A0e,h,Result.andThen,A0j]
theorem and_15{r:Nat}(h:r<32):bits BinOp.and IntKind.i32 (r:Int) 15=((r%16:Nat):Int):=by
 have key:∀ i:Fin 32,bits BinOp.and IntKind.i32 (i.val:Int) 15=((i.val%16:Nat):Int):=by decide
 exact key ⟨r,h⟩
theorem Qe{i:Nat}(h:i<16)(h2:i<(⟨#[48,49,50,51,52,53,54,55,56,57,97,98,99,100,101,102]⟩:ByteArray).size):(⟨#[48,49,50,51,52,53,54,55,56,57,97,98,99,100,101,102]⟩:ByteArray)[i]'h2=X6 i:=by
 have key:∀ i:Fin 16,(⟨#[48,49,50,51,52,53,54,55,56,57,97,98,99,100,101,102]⟩:ByteArray)[i.val]'(by show i.val<16;exact i.isLt)=X6 i.val:=by decide
 exact key ⟨i,h⟩
theorem RV{r:Nat}{b:UInt8}(h:Je r=some b):Lib.encodeRune b.toNat=[b]/\b.toNat<=127:=by
 unfold Je at h
 repeat' split at h
 all_goals first
  |(cases h;exact⟨by decide,by decide⟩)
  |cases h
theorem NO{r:Nat}(h:Je r=none)(hs:¬(32<=r/\r≠34/\r≠92)):r<32:=by
 unfold Je at h
 repeat' split at h
 all_goals first
  |(cases h;done)
  |omega
set_option maxHeartbeats 1000000 in
theorem c_valid(n:Nat)(s:ByteArray)(w:World)(hs:s.size<=1048576)(hT:Lib.Utf8Tabs (Tryz.sValid_ren.g 3) (Tryz.sValid_ren.g 4) w):
  CallsIn Fence.wide n prog 168 #[.string s] w fun e w'=>e=.returned (.bool (AI s))/\Below w.heap.size w w':=by
 have hV:=Any.utf8_ValidString Tryz.sValid s w (A0L hs (by decide)) hT
 refine callsIn_of_wp func168 rfl trivial ?_
 simp only[ntmps168,A0y,A0g,A0t,Nat.reduceAdd,Nat.reduceSub,A1p,A1q,A1C,A1d,A0m,A0c]
 gi_wp2
 refine⟨trivial,fun h=>(by cases h),(callsIn_wide.2 hV).mono ?_⟩
 rintro e w2 ⟨rfl,hb⟩
 gi_wp2
 go_ret
 exact⟨rfl,hb⟩
end Go.Proofs
