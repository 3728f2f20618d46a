/- The layer by which the program is walked, and what its functions do: part 11 of 15. -/
import Derived.Test.YtiobcncfjaoniaaGreatDoorV9
import Derived.Lib.Builder
import Derived.Lib.AppendStr
import Derived.Sort.Grow
import Derived.RangeFuncNested
import Derived.RangeFuncCalls
import Derived.Lib.OthersKept
import Derived.Shelf.Strings.BuilderK
import Derived.Shelf.Strings.BuilderRune
import Derived.WalkMore
import Derived.Lib.Walk
import Derived.Lib.Strings
import Derived.Laws.Strings3
import Derived.Lib.DecodeN
import Derived.RangeFuncBound
import Derived.Shelf.Abstract
import Derived.Shelf.RegionOpen
import Derived.OwnWalkIn
import Derived.TacticsInMore
import Derived.LoopNIn
import Derived.LoopIn
import Derived.Maps.OwnIn
set_option maxHeartbeats 4000000
set_option maxRecDepth 20000
set_option linter.unusedVariables false
set_option linter.unusedSimpArgs false
set_option linter.unnecessarySimpa false
namespace Go.Ab
open Go.Proofs Go.Proofs.Tryz
abbrev tbO(c b:Nat):Hp:=[(5,tbL b),(11,nmL c b),(13,.grow (ntL b) 2),(15,.grow (owL c b) 2)]
def ppS(k c b n:Nat)(T:Nat->GT)(u:Nat->GM)(e:Nat->Int)(L:List (List D))(i:Nat):St:=
 ⟨[(28,.val (.int .i64 i)),(27,.val (.int .i64 n)),(26,.slice L false),(8,.ref 128 0 0 4),(6,.ref 88 0 0 2),(4,.ref 8 0 0 4),(0,.ref 1 0 0 3)],
  (128,.rows [[.val (.int .i64 i),.val (.int .i64 0),.val (.int .i64 0),.val (.bool false)]] 4)::(88,.rows [[.val (.int .u64 c),.slice L false]] 2)::(8,.rows [[.val (.int .i64 0),.val (.int .i64 0),.val (.int .i64 0),.val (.bool false)]] 4)::(svH k c T u e b++tbO c b),84⟩
theorem c_pushO(k c b n:Nat)(T:Nat->GT)(u u':Nat->GM)(e:Nat->Int)(F L:List (List D))(oF:A3 F=true)(hk:0<k)(hk2:k<=1024)(hb:0<b)(hbk:b<k)(hL:ItOk b n u' L)
  (hD:A0 prog 16 [.slice F false] (.tup [.agg [.val (.int .u64 c),.slice L false],.val (.int .i64 0)])):
  A2 prog 7 [.ref 1 0 0 3,.slice F false] (svH k c T u e b++tbO c b)
   (.tup [.agg [.val (.int .i64 b),.val (.int .i64 0),.val (.int .i64 0),.val (.bool true)],.val (.int .i64 0)]) (svH k c T u e b):=by
 obtain⟨oL,lL,hbn,hn,hit,q,v,hq1,hq2,hgap⟩:=hL
 have hlen:=Fy k T b
 have oX:=Bd (rgF k T b)
 have oR:=Dn c u e b
 have lR:=GL c u e b
 have lX:((rgF k T b).map fun t=>[A8 t]).length=k:=by simp[hlen]
 have et:((rgF k T b).map fun t=>[A8 t]).take k=(rgF k T b).map fun t=>[A8 t]:=A05 (by omega)
 have hreal:=Mv _ oX b (min (b+1) k) (raF c u e b) oR
 have hO:=Sq _ oX b (min (b+1) k) 0 (raF c u e b) oR (by omega) (by omega) (by omega) (by omega)
 have hLs:=KU c b (by omega)
 have hF:=Mt b
 have oN:=BS b
 have oO:=CA c b
 unfold svH rgB
 generalize hX:((rgF k T b).map fun t=>[A8 t])=X at*
 generalize hR:raF c u e b=R at*
 generalize hNL:ntL b=NL at*
 generalize hOL:owL c b=OL at*
 generalize hm:min (b+1) k=m at*
 have c0:(if k<=k/\k<=k/\k<=9223372036854775807 then D.slice X true else .sref 7 0 k k 1)=.slice X true:=if_pos ⟨A08 _,A08 _,by omega⟩
 refine Zd [] func7 rfl ntmps7 results7 ?_
 (have z:=Za oX<|Za oL<|Za oF<|Za lL<|Za lX<|Za et<|Za c0<|Za oR<|Za lR<|Za oN oO;(try push_cast[z])<;>repeat' (first|apply Zi<;>intro _|refine Zc hD ?_|exact Zo|with_reducible apply Za|((with_reducible show A1 _ _ _ _ _ _ _ _);refine A1.lend (svX k b m X R) _ rfl (by exact hreal ..) (by first|exact .inl rfl|exact .inr ⟨_,_,_,rfl,rfl,rfl⟩) ?_ ?_ ?_ (by first|rfl|push_cast [z]) ?_;(· push_cast[z]<;>(with_unfolding_all exact A9 _));(· push_cast[z]<;>first|exact fun _=>trivial|(with_unfolding_all exact A9 _));(· push_cast[z]);try push_cast[z])|fail)<;>try push_cast[z])
 refine AWp.scope (Zy ?_)
 (have z:=Za oX<|Za oL<|Za oF<|Za lL<|Za lX<|Za et<|Za c0<|Za oR<|Za lR<|Za oN oO;(try push_cast[z])<;>repeat' (first|apply Zi<;>intro _|refine Zc hD ?_|exact Zo|with_reducible apply Za|((with_reducible show A1 _ _ _ _ _ _ _ _);refine A1.lend (svX k b m X R) _ rfl (by exact hreal ..) (by first|exact .inl rfl|exact .inr ⟨_,_,_,rfl,rfl,rfl⟩) ?_ ?_ ?_ (by first|rfl|push_cast [z]) ?_;(· push_cast[z]<;>(with_unfolding_all exact A9 _));(· push_cast[z]<;>first|exact fun _=>trivial|(with_unfolding_all exact A9 _));(· push_cast[z]);try push_cast[z])|fail)<;>try push_cast[z])
 all_goals first|omega|skip
 refine Zl (fun j=>j<=b) (ppS k c b n T u e L) (fun j=>b+1-j) 0 (A0J _) ?_ fun j hj=>?_
 ·unfold ppS svH rgB tbO
  rw[hX,hR,hNL,hOL,hm]
  apply Zw<;>push_cast [oX,oL,oR,oN,oO]
 ·unfold ppS svH rgB tbO
  rw[hX,hR,hNL,hOL,hm]
  have c1:decide ((j:Int)<n)=true:=decide_eq_true (by omega)
  have w1:IntKind.u64.wrap ((b:Int)+1)=(b:Int)+1:=Hi (by omega) (by omega)
  have w2:IntKind.i64.wrap ((j:Int)+1)=(j:Int)+1:=Aa (by omega) (by omega)
  rcases A0O j b with hjb|hjb
  ·have e1:=hit j hjb
   have c2:decide ((j:Int)+1<=b)=true:=decide_eq_true (by omega)
   have oU:=Au (u' j)
   rw[AY,A7 (u' j).was,A7 (u' j).value] at*
   simp only[A0d,A0h,A0c] at*
   (have z:=Za oX<|Za oL<|Za lL<|Za lX<|Za et<|Za c0<|Za oR<|Za lR<|Za oN<|Za oO<|Za oU<|Za e1<|Za c1<|Za c2<|Za w1 w2;(try push_cast[z])<;>repeat' (first|apply Zi<;>intro _|refine Zs [(5,5),(11,11),(13,13),(15,15)] (hLs ..) ?_|exact Zo|with_reducible apply Za)<;>try push_cast[z])
   all_goals first|omega|skip
   refine⟨j+1,by omega,by omega,?_⟩
   apply Zw<;>push_cast [oX,oL,oR,oN,oO,w2]
  ·obtain rfl:j=b:=by omega
   have c2:decide ((q:Int)<=j)=false:=decide_eq_false (by omega)
   have c3:decide ((j:Int)+1<q)=true:=decide_eq_true (by omega)
   have oU:=Au v
   rw[AY,A7 v.was,A7 v.value] at*
   simp only[A0d,A0h,A0c] at*
   (have z:=Za oX<|Za oL<|Za lL<|Za lX<|Za et<|Za c0<|Za oR<|Za lR<|Za oN<|Za oO<|Za oU<|Za @hgap<|Za c1<|Za c2<|Za c3 w1;(try push_cast[z])<;>repeat' (first|apply Zi<;>intro _|refine Zs [(5,5),(11,11),(13,13),(15,15)] (hLs ..) ?_|refine Zs [(5,5),(11,11),(15,15)] hF ?_|exact Zo|with_reducible apply Za|((with_reducible show A1 _ _ _ _ _ _ _ _);refine A1.lend (svX k j m X R) _ rfl (by exact hO ..) (by first|exact .inl rfl|exact .inr ⟨_,_,_,rfl,rfl,rfl⟩) ?_ ?_ ?_ (by first|rfl|push_cast [z]) ?_;(· push_cast[z]<;>(with_unfolding_all exact A9 _));(· push_cast[z]<;>first|exact fun _=>trivial|(with_unfolding_all exact A9 _));(· push_cast[z]);try push_cast[z])|fail)<;>try push_cast[z])
   all_goals first|omega|skip
   apply Zw<;>push_cast [oX,oR]
end Go.Ab
namespace Go.Ab
open Go.RowKit
section
variable{P:Program}{ops:Array Oper}{nx:Nat}{dst:Option Tmp}{T:TypeId}{ps:String}{af:Array Edge}{gd:Option (Nat×Bool)}{l:List Oper}{pos:Nat}{acc:List Eff}{s:St}{K:List Eff->St->Prop}{f:FuncId}{args:Array Operand}{ts:Array TypeId}
def P8(P:Program)(f:FuncId)(ds:List D)(r:D):Prop:=
 ∀(w:World) (I:Nat->Prop) (mu:Nat->Option Value) (vs:List Value),(∀ k,I k->k<w.heap.size)->B8 w I mu ds vs->
  ∃ u w' I',(callFunc f vs.toArray).run P w=.ok (.value u) w'/\Rep w' I' mu r u/\(∀ k,I k->I' k)/\(∀ k,I' k->I k∨w.heap.size<=k)/\(∀ k,I' k->k<w'.heap.size)/\Below w.heap.size w w'
theorem NR{id:Nat}{ev:Operand->D}{hp:Nat->Option Blk}{ds:List D}{r:D}(ha:args.toList.map ev=ds)(hc:P8 P f ds r):AB P ⟨dst,.call {callee:=.value (.func f),args:=args,argTypes:=ts},T,ps,af,gd⟩ id ev hp ⟨r,[],[]⟩:=by
 subst ha
 intro w0 M0 I0 fr I mu h a w hga hw hid hx hb K Q hK
 have hargs:=B8.args (w:=w) (I:=I) (mu:=mu) (ev:=ev) (a:=a) (args:=args) fun y hy=>hx y (by simp[Op.operands,Call.operands];exact .inr (by simpa using hy))
 obtain⟨u,w',I',hrun,hv,h1,h2,h3,h4⟩:=hc w I mu _ hw.lt hargs
 have e1:args.map a.eval=(args.toList.map a.eval).toArray:=by apply Array.ext';simp
 have e2:#[]++args.map a.eval++ #[]=(args.toList.map a.eval).toArray:=by rw[e1];simp
 refine Cz (w':=w') (v:=u) (by
  simp only[execOp,resolve,Act.eval,Deferred.ofValue,A0e,A0k,Result.andThen,invoke]
  exact(congrArg (fun z=>(callFunc f z).run P w) e2).trans hrun) ?_
 have hext:Ext I mu w I' mu w':=⟨h1,fun _ _ h=>h,fun k hk=>h4.block k (hw.lt k hk)⟩
 exact hK u w' I' mu hext ((hw.below h1 h2 h3 h4).less fun b hb=>hb.1) hv
theorem A1.extG{ds:List D}{r:D}(hc:P8 P f ds r)(hg:gd=none∨∃ j want t,gd=some (j,want)/\AR ops j=some t/\gOf (s.env.get t) want=some true)(ha:args.toList.map (evO P s.env.get)=ds)
  (hk:GoS P ops nx l (pos+1) (⟨r,[],[]⟩::acc) (s.app dst ⟨r,[],[]⟩) K):A1 P ops nx (⟨dst,.call {callee:=.value (.func f),args:=args,argTypes:=ts},T,ps,af,gd⟩::l) pos acc s K:=by
 rw[Ba]
 rw[BY] at hk
 unfold Bs
 refine .inl ⟨_,?_,by have:=Go.run hk;unfold Bs at this;exact this⟩
 rcases hg with rfl|⟨j,want,t,rfl,ht,hg⟩
 ·exact B9.plain rfl (NR ha hc)
 ·exact B9.guard_true rfl ht hg (NR ha hc)
theorem P8.of{k:FuncId}{fn:Func}{e:Array Value->Sem Value}{ds:List D}{r:D}(hf:P.funcs[k]? =some fn)(hn:(fn.name== "runtime.NumGoroutine")=false)(hb:fn.body.isNone=true)(h1:Extern.findNext fn=none)(h2:Extern.find fn=some e)
  (h:∀ (w:World) (I:Nat->Prop) (mu:Nat->Option Value) (vs:List Value),(∀ k,I k->k<w.heap.size)->B8 w I mu ds vs->
   ∃ v w' I',(e vs.toArray).run P w=.ok v w'/\Rep w' I' mu r v/\(∀ k,I k->I' k)/\(∀ k,I' k->I k∨w.heap.size<=k)/\(∀ k,I' k->k<w'.heap.size)/\Below w.heap.size w w'):P8 P k ds r:=by
 intro w I mu vs hI hr
 obtain⟨v,w',I',g1,g2⟩:=h w I mu vs hI hr
 refine⟨v,w',I',?_,g2⟩
 have hn':fn.name≠ "runtime.NumGoroutine":=by simpa using hn
 have hb':fn.body=none:=by simpa using hb
 simp[callFunc,hf,hn',hb',h1,h2,g1,Result.andThen]
end
def s01(v u:Value):D->Value->Prop
 |.val x,y=>y=x/\okP x
 |.ref 0 i off sz,y=>∃ k,v=.pointer (some ⟨k,0,none⟩)/\y=.pointer (some ⟨k,i*sz+off,none⟩)
 |.gref 1 len,y=>y=u/\∃ A cap,u=.slice A len cap
 |_,_=>False
def Do(b g:Nat):D->D
 |.ref 0 i off sz=>.ref b i off sz
 |.gref 1 len=>.gref g len
 |d=>d
def ZM:D->Prop
 |.val _=>True
 |.ref 0 _ _ _=>True
 |.gref 1 _=>True
 |_=>False
def isG:D->Bool
 |.gref _ _=>true
 |_=>false
theorem s01_out{w:World}{I:Nat->Prop}{mu:Nat->Option Value}{b g:Nat}{v u:Value}(hv:mu b=some v)(hu:mu g=some u){d:D}{y:Value}(h:s01 v u d y):Rep w I mu (Do b g d) y:=by
 unfold s01 at h
 split at h
 ·obtain⟨rfl,h⟩:=h;exact .val _ h
 ·obtain⟨k,rfl,rfl⟩:=h;exact .ref _ _ _ _ k hv
 ·obtain⟨rfl,A,cap,rfl⟩:=h;exact .gref _ _ A cap hu
 ·exact h.elim
theorem s01_in{w:World}{I:Nat->Prop}{mu:Nat->Option Value}{b g:Nat}{v u:Value}(hv:mu b=some v)(hu:mu g=some u){d:D}{y:Value}(hd:ZM d)(h:Rep w I mu (Do b g d) y):s01 v u d y:=by
 unfold ZM at hd
 split at hd
 ·exact⟨h.val_inv,h.val_ok⟩
 ·simp only[Do] at h
  cases h with
  |ref _ _ _ _ k hk=>rw [hv] at hk;cases hk;exact⟨k,rfl,rfl⟩
 ·simp only[Do] at h
  cases h with
  |gref _ _ A cap hk=>rw [hu] at hk;cases hk;exact⟨rfl,A,cap,rfl⟩
 ·exact hd.elim
theorem VN{v u u':Value}{d:D}{y:Value}(hd:isG d=false)(h:s01 v u d y):s01 v u' d y:=by
 unfold s01 at h|-
 split at h<;>first|exact h|(simp[isG] at hd)
theorem YA(b g:Nat)(d:D):Bc (Do b g d)=Bc d:=by
 unfold Do
 split<;>rfl
def prR(T:TypeId)(es:List D)(v u:Value)(o:Option Obj):Prop:=
 ∃(k:Nat) (us:List Value),v=.pointer (some ⟨k,0,none⟩)/\o=some (.cells us.toArray T (0,0))/\us.length=es.length/\∀ i,i<es.length->s01 v u (nd es i) (nv us i)
def prG(T:TypeId)(t:List UInt8)(v _u:Value)(o:Option Obj):Prop:=
 (v=.slice none 0 0/\t=[])∨∃ (g cap:Nat) (cur:Array Value),v=.slice (some ⟨g,0,none⟩) t.length cap/\0<cap/\o=some (.cells cur T (0,0))/\t.length<=cap/\cap<=maxLen/\cur.size=cap/\cur.toList.take t.length=Lib.byteCells t
section
variable{P:Program}{ops:Array Oper}{nx:Nat}{dst:Option Tmp}{T:TypeId}{ps:String}{af:Array Edge}{gd:Option (Nat×Bool)}{l:List Oper}{pos:Nat}{acc:List Eff}{s:St}{K:List Eff->St->Prop}{op:Op}{id:Nat}{ev:Operand->D}{hp:Nat->Option Blk}{e:Eff}
theorem A1.of_does(hd:AB P ⟨dst,op,T,ps,af,gd⟩ (2*(nx+4*pos)) (evO P s.env.get) (Ac s.hp) e)(hg:gd=none∨∃ j want t,gd=some (j,want)/\AR ops j=some t/\gOf (s.env.get t) want=some true)
  (hk:GoS P ops nx l (pos+1) (e::acc) (s.app dst e) K):A1 P ops nx (⟨dst,op,T,ps,af,gd⟩::l) pos acc s K:=by
 rw[Ba]
 rw[BY] at hk
 unfold Bs
 refine .inl ⟨_,?_,by have:=Go.run hk;unfold Bs at this;exact this⟩
 rcases hg with rfl|⟨j,want,t,rfl,ht,hg⟩
 ·exact B9.plain rfl hd
 ·exact B9.guard_true rfl ht hg hd
theorem TY{t:TypeId}{ti:TI}{a:Operand}{b g off sz:Nat}{T0:TypeId}{es:List D}{r:D}(ht:Ag P t=some ti)(hag:ti.ag=false)(ha:ev a=.ref b 0 off sz)(hb:hp b=some (.pr g (prR T0 es)))(ho:off<es.length)(hr:Do b g (nd es off)=r):
  AB P ⟨dst,.load t a,T,ps,af,gd⟩ id ev hp ⟨r,[],[b]⟩:=by
 subst hr
 refine AB.of_runs (fun ρ=>Instr.loadAt t (ρ a)) (fun a w=>BH _ w) fun w0 M0 I0 fr I mu h ac w hw hid hx hbb=>?_
 have hxa:=hx a (by simp[Op.operands])
 rw[ha] at hxa
 obtain⟨v,u,h1,h2,_,_,k,us,rfl,h4,h5,h6⟩:=hw.blk b _ ((hbb b (by simp)).trans hb)
 show Ay P (fun w=>(Instr.loadAt t (ac.eval a)).run P w) _ _ _ _ _ _ _ _ _ _ _
 generalize ac.eval a=va at*
 cases hxa with
 |ref _ _ _ _ k' hk=>
  rw[h1] at hk
  cases hk
  have h4':w.heap[k]? =some (.cells us.toArray T0 (0,0)):=h4
  have hcell:w.cell? ⟨k,off,none⟩=some (nv us off):=by
   simp only[World.cell?,h4',A1f,nv]
   rw[if_neg (by simp)]
   simp[A02,show off<us.length by omega]
  have hl:=(BZ (P:=P) (I:=I) (mu:=mu) ht w k 0 (es.map (Do b g)) (fun j=>nv us j) (fun j hj=>by
    simp only[A07] at hj
    simp only[World.cell?,h4',A1f,nv,A1a]
    rw[if_neg (by simp)]
    simp[A02,show j<us.length by omega]) (fun j hj=>by
    simp only[A07] at hj
    have:=s01_out (w:=w) (I:=I) h1 h2 (h6 j hj)
    rwa[show nd (es.map (Do b g)) j=Do b g (nd es j) by simp[nd,A02,hj]]) off).2 hag (by simpa using ho)
  obtain⟨x,hl1,hl2⟩:=hl
  rw[show nd (es.map (Do b g)) off=Do b g (nd es off) by simp[nd,A02,ho]] at hl2
  exact Ay.same hw x (by simpa[Instr.loadAt,Instr.sureAddr] using hl1) hl2
theorem S3{t:TypeId}{ti:TI}{a x:Operand}{b g g' off sz:Nat}{T0:TypeId}{es:List D}{d:D}(ht:Ag P t=some ti)(hts:ti.sz=1)(hag:ti.ag=false)(ha:ev a=.ref b 0 off sz)(hb:hp b=some (.pr g (prR T0 es)))(ho:off<es.length)
  (hx:ev x=Do b g' d) (hd:ZM d) (hone:Bc d=true) (hg:g'=g∨(isG d=true/\∀ i,i≠off->i<es.length->isG (nd es i)=false)):
  AB P ⟨dst,.store t a x,T,ps,af,gd⟩ id ev hp ⟨.any,[(b,some (.pr g' (prR T0 (es.set off d))))],[b]⟩:=by
 refine AB.of_runs_u (fun ρ=>Instr.storeAt t (ρ a) (ρ x)) (fun a w=>QY _ w) fun w0 M0 I0 fr I mu h ac w hw hid hxx hbb=>?_
 have hxa:=hxx a (by simp[Op.operands])
 have hxd:=hxx x (by simp[Op.operands])
 rw[ha] at hxa
 rw[hx] at hxd
 have hhb:=(hbb b (by simp)).trans hb
 obtain⟨v,u,h1,h2,hv0,hu0,k,us,rfl,h4,h5,h6⟩:=hw.blk b _ hhb
 show ∃ w' I' mu',(Instr.storeAt t (ac.eval a) (ac.eval x)).run P w=_/\_
 generalize ac.eval a=va at*
 generalize ac.eval x=vx at*
 have h4':w.heap[k]? =some (.cells us.toArray T0 (0,0)):=h4
 obtain⟨u',hu',hu'0,hall⟩:∃ u',mu g'=some u'/\u'≠undef/\∀ i,i≠off->i<es.length->s01 (.pointer (some ⟨k,0,none⟩)) u' (nd es i) (nv us i):=by
  rcases hg with rfl|⟨hgd,hg⟩
  ·exact⟨u,h2,hu0,fun i _ hi=>h6 i hi⟩
  ·cases d<;>simp [isG] at hgd
   rename_i c len
   unfold ZM at hd
   split at hd
   ·rename_i heq;cases heq
   ·rename_i heq;cases heq
   ·rename_i heq
    cases heq
    simp only[Do] at hxd
    cases hxd with
    |gref _ _ A cap hk=>exact ⟨_,hk,by simp[undef],fun i h hi=>VN (hg i h hi) (h6 i hi)⟩
   ·exact hd.elim
 have hin:=s01_in h1 hu' hd hxd
 have hvx:vx.oneCell'=true:=hxd.one (by rw[YA];exact hone)
 cases hxa with
 |ref _ _ _ _ k' hk=>
  rw[h1] at hk
  cases hk
  have hc1:vx.cells.toList=[vx]:=by cases vx<;>first|rfl|(simp[Value.oneCell'] at hvx)
  obtain⟨w',hrun,hheap,hwrote⟩:=Bw (P:=P) (T:=T0) [vx] 0 off us w h4' (by simp;omega) (by simpa using hvx)
  simp only[A19] at hheap
  have hcz:vx.cells.size=ti.sz:=by rw[hts,<-A0Q,hc1];rfl
  have:=hw.wrote (id:=id) hhb h1 rfl hwrote (.pr g' (prR T0 (es.set off d))) ⟨_,u',h1,hu',hv0,hu'0,k,AC us off [vx],rfl,by simpa[Ae] using hheap,by
   rw[Bo (by simp;omega),A0N];exact h5,fun i hi=>by
   rw[A0N] at hi
   rw[ET (by simp;omega)]
   by_cases hio:i=off
   ·subst hio
    rw[if_neg (by omega),if_pos (by simp)]
    simpa[nd,nv,A02,hi] using hin
   ·have e1:nd (es.set off d) i=nd es i:=by simp[nd,A02,A1B,show ¬off=i by omega]
    rw[e1]
    by_cases hlt:i<off
    ·rw[if_pos hlt];exact hall i hio hi
    ·rw[if_neg hlt,if_neg (by simp;omega)];exact hall i hio hi⟩
  refine⟨w',I,mu,?_,this.2,this.1⟩
  simp[Instr.storeAt,Instr.sureAddr,storeVar,AV ht,hcz,hc1,hrun]
theorem S7{t:TypeId}{qs:Array (Nat×Operand)}{vs:List (Nat×Value)}{us:Array Value}(hq:∀ a:Act,(qs.toList.map fun p=>(p.1,a.eval p.2))=vs)(hb:P.built t vs=some us):
  AB P ⟨dst,.build t qs,T,ps,af,gd⟩ id ev hp ⟨.val (.agg us),[],[]⟩:=by
 refine AB.of_runs (fun ρ=>Instr.build t (qs.toList.map fun p=>(p.1,ρ p.2)).toArray) (fun a w=>?_) fun w0 M0 I0 fr I mu h ac w hw hid hx hb'=>?_
 ·have:(qs.map fun(i,x)=>(i,a.eval x))=(qs.toList.map fun p=>(p.1,a.eval p.2)).toArray:=by apply Array.ext';simp
  simp only[execOp]
  rw[this]
  exact BH _ w
 ·refine Ay.same hw (.agg us) ?_ (.val _ trivial)
  show(Instr.build t _).run P w=_
  rw[show(qs.toList.map fun p=>(p.1,ac.eval p.2))=vs from hq ac]
  exact run_build w t vs.toArray us (by simpa using hb)
theorem KC{t:TypeId}{ti:TI}(ht:Ag P t=some ti)(hok:∀ x ∈ ti.zero,okP x):AB P ⟨dst,.alloc t,T,ps,af,gd⟩ id ev hp ⟨.ref id 0 0 ti.sz,[(id,some (.pr id (prR t (ti.zero.map .val))))],[]⟩:=by
 refine AB.of_runs (fun _=>Instr.alloc t true (.tuple #[])) (fun a w=>BH _ w) fun w0 M0 I0 fr I mu h ac w hw hid hx hb'=>?_
 obtain⟨z,hz,hzl,_⟩:=Dk ht w
 have hza:z.cells=ti.zero.toArray:=by rw[<-hzl]
 have hn:(w.alloc (.cells ti.zero.toArray t)).heap[w.heap.size]? =some (.cells ti.zero.toArray t):=by show(w.heap.push _)[_]? =_;simp
 have:=hw.new hid (.cells ti.zero.toArray t) (.pointer (some ⟨w.heap.size,0,none⟩)) rfl (.pr id (prR t (ti.zero.map .val))) ⟨.pointer (some ⟨w.heap.size,0,none⟩),.pointer (some ⟨w.heap.size,0,none⟩),by simp[Ax],by simp[Ax],by simp[undef],by simp[undef],w.heap.size,ti.zero,rfl,hn,by simp,fun i hi=>by
  simp only[A07] at hi
  have e1:nd (ti.zero.map D.val) i=.val (nv ti.zero i):=by simp[nd,nv,A02,hi]
  rw[e1]
  refine⟨rfl,hok _ ?_⟩
  simp[nv,A02,hi]⟩
 refine⟨.pointer (some ⟨w.heap.size,0,none⟩),_,I,_,?_,this.2,this.1,by simpa using Rep.ref (w:=w.alloc (.cells ti.zero.toArray t)) (I:=I) id 0 0 ti.sz w.heap.size (by simp[Ax])⟩
 have e1:(newRow t ti.zero.toArray).run P w=.ok ⟨w.heap.size,0,none⟩ (w.alloc (.cells ti.zero.toArray t)):=by simp[newRow]
 simp only[Instr.alloc,newVar,A0e,hz,hza,e1,Result.andThen,A0k]
theorem S2{t Te:TypeId}{ti:TI}{a x:Operand}{b g sz:Nat}{T0:TypeId}{es es':List D}{us:List Value}(ht:Ag P t=some ti)(hts:ti.sz=us.length)(ha:ev a=.ref b 0 0 sz)(hb:hp b=some (.pr g (prR T0 es)))(hl:es.length=us.length)(hl':es'.length=us.length)
  (hx:ev x=.val (.agg us.toArray)) (hone:∀ v ∈ us,v.oneCell'=true) (hs:∀ v i,i<us.length->s01 v (.slice none 0 0) (nd es' i) (nv us i)):
  AB P ⟨dst,.store t a x,T,ps,af,gd⟩ id ev hp ⟨.any,[(id,some (.pr id (prG Te []))),(b,some (.pr id (prR T0 es')))],[b]⟩:=by
 refine AB.of_runs_u (fun ρ=>Instr.storeAt t (ρ a) (ρ x)) (fun a w=>QY _ w) fun w0 M0 I0 fr I mu h ac w hw hid hxx hbb=>?_
 have hxa:=hxx a (by simp[Op.operands])
 have hxd:=hxx x (by simp[Op.operands])
 rw[ha] at hxa
 rw[hx] at hxd
 have hxv:=hxd.val_inv
 have hhb:=(hbb b (by simp)).trans hb
 obtain⟨v,u,h1,h2,hv0,hu0,k,us0,rfl,h4,h5,h6⟩:=hw.blk b _ hhb
 show ∃ w' I' mu',(Instr.storeAt t (ac.eval a) (ac.eval x)).run P w=_/\_
 generalize ac.eval a=va at*
 rw[hxv]
 have h4':w.heap[k]? =some (.cells us0.toArray T0 (0,0)):=h4
 cases hxa with
 |ref _ _ _ _ k' hk=>
  rw[h1] at hk
  cases hk
  have hput:=hw.put (b0:=none) hid w (.slice none 0 0) (.pr id (prG Te [])) (fun k hk=>by simp[Ae] at hk) (A08 _) (fun _ _ _=>rfl) rfl rfl rfl ⟨.slice none 0 0,.slice none 0 0,by simp[Ax],by simp[Ax],by simp[undef],by simp[undef],.inl ⟨rfl,rfl⟩⟩
  have hbid:b≠id:=fun e=>hw.used b _ hhb (e▸hid)
  have hm1:Ax mu id (.slice none 0 0) b=some (.pointer (some ⟨k,0,none⟩)):=by simp[Ax,hbid,h1]
  obtain⟨w',hrun,hheap,hwrote⟩:=Bw (P:=P) (T:=T0) us 0 0 us0 w h4' (by omega) hone
  simp only[A19] at hheap
  have:=hput.1.wrote (id:=id) (b:=b) (by rw[if_neg hbid];simpa using hhb) hm1 rfl hwrote (.pr id (prR T0 es')) ⟨_,.slice none 0 0,hm1,by simp[Ax],hv0,by simp[undef],k,AC us0 0 us,rfl,by simpa[Ae] using hheap,by
   rw[Bo (by omega)];omega,fun i hi=>by
   rw[ET (by omega)]
   rw[if_neg (by omega),if_pos (by omega)]
   simpa using hs _ i (by omega)⟩
  refine⟨w',I,_,?_,⟨fun _ h=>h,hput.2.m,fun k hk=>this.2.w k hk⟩,?_⟩
  ·simp[Instr.storeAt,Instr.sureAddr,storeVar,AV ht,hts,Value.cells,hrun]
  ·have h2:=this.1.less (fr':=fun b=>fr b/\b≠id) (fun b hb=>⟨⟨hb.1,hb.2⟩,hb.2⟩)
   have e1:(fun c=>AO c (if c=id then some (Blk.pr id (prG Te [])) else if(none:Option Nat)=some c then none else h c) [(b,some (.pr id (prR T0 es')))])=fun c=>AO c (h c) [(id,some (.pr id (prG Te []))),(b,some (.pr id (prR T0 es')))]:=by
    funext c
    simp only[AO,A0t,A11]
    by_cases hc:c=id
    ·subst hc;simp
    ·have:¬id=c:=fun e=>hc e.symm
     simp[hc,this]
   rw[e1] at h2
   exact h2
theorem TZ{t t':TypeId}{x:Operand}{b g i off sz:Nat}{T0:TypeId}{es:List D}(hx:ev x=.ref b i off sz)(hb:hp b=some (.pr g (prR T0 es)))
  (hc:∀ (w:World) (k:Nat) (us:Array Value),w.heap[k]? =some (.cells us T0 (0,0))->us.size=es.length->(convert t t' (.pointer (some ⟨k,i*sz+off,none⟩))).run P w=.ok (.pointer (some ⟨k,i*sz+off,none⟩)) w):
  AB P ⟨dst,.convert t t' x,T,ps,af,gd⟩ id ev hp ⟨.ref b i off sz,[],[b]⟩:=by
 refine AB.of_runs (fun ρ=>convert t t' (ρ x)) (fun a w=>BH _ w) fun w0 M0 I0 fr I mu h ac w hw hid hxx hbb=>?_
 have hxa:=hxx x (by simp[Op.operands])
 rw[hx] at hxa
 obtain⟨v,u,h1,h2,_,_,k,us,rfl,h4,h5,h6⟩:=hw.blk b _ ((hbb b (by simp)).trans hb)
 have h4':w.heap[k]? =some (.cells us.toArray T0 (0,0)):=h4
 show Ay P (fun w=>(convert t t' (ac.eval x)).run P w) _ _ _ _ _ _ _ _ _ _ _
 generalize ac.eval x=va at*
 cases hxa with
 |ref _ _ _ _ k' hk=>
  rw[h1] at hk
  cases hk
  exact Ay.same hw _ (hc w k us.toArray h4' (by simpa using h5)) (.ref b i off sz k h1)
theorem ZY{ts:Array TypeId}{x:Operand}{g g0 len:Nat}{Te:TypeId}{tx:List UInt8}(hx:ev x=.gref g len)(hb:hp g=some (.pr g0 (prG Te tx)))(ht:tx≠[]):
  AB P ⟨dst,.call {callee:=.builtin .unsafeSliceData,args:=#[x],argTypes:=ts},T,ps,af,gd⟩ id ev hp ⟨.gel g 0 0 1,[],[g]⟩:=by
 refine AB.of_runs (fun ρ=>Builtin.unsafeSliceData_ ts T #[ρ x]) (fun a w=>?_) fun w0 M0 I0 fr I mu h ac w hw hid hxx hbb=>?_
 ·refine Eq.trans ?_ (BH (P:=P) (Builtin.unsafeSliceData_ ts T #[a.eval x]) w)
  simp only[execOp,resolve,A0e,A0k,Result.andThen,invoke]
  rw[show ∀ cs,builtin .unsafeSliceData ts T cs (#[x].map a.eval)=(do pure (.value (<-Builtin.unsafeSliceData_ ts T (#[x].map a.eval)))) from fun _=>rfl]
  rw[show #[x].map a.eval=#[a.eval x] by simp]
  simp only[A0e,A0k,Result.andThen]
 ·have hxa:=hxx x (by simp[Op.operands,Call.operands])
  rw[hx] at hxa
  obtain⟨v,u,h1,h2,_,_,hp⟩:=hw.blk g _ ((hbb g (by simp)).trans hb)
  show Ay P (fun w=>(Builtin.unsafeSliceData_ ts T #[ac.eval x]).run P w) _ _ _ _ _ _ _ _ _ _ _
  generalize ac.eval x=va at*
  rcases hp with⟨_,rfl⟩|⟨k,cap,cur,rfl,hc0,_⟩
  ·exact absurd rfl ht
  ·cases hxa with
   |gref _ _ A cap' hk=>
    rw[h1] at hk
    cases hk
    exact Ay.same hw _ (Lib.run_unsafeSliceData_row w ts T ⟨k,0,none⟩ _ _ (by omega)) (by simpa using Rep.gel (w:=w) (I:=I) g 0 0 1 k _ _ h1)
theorem WT{pt it Te:TypeId}{x n:Operand}{g g0:Nat}{tx:List UInt8}(hpt:P.underlying pt=some (.pointer Te))(hce:P.cellsOf Te=1)(hx:ev x=.gel g 0 0 1)(hn:ev n=.val (.int .i64 tx.length))(hb:hp g=some (.pr g0 (prG Te tx)))(ht:tx≠[])(hl:tx.length<=1073741824):
  AB P ⟨dst,.call {callee:=.builtin .unsafeString,args:=#[x,n],argTypes:=#[pt,it]},T,ps,af,gd⟩ id ev hp ⟨.val (.string ⟨tx.toArray⟩),[(g,none),(id,some .junk)],[g]⟩:=by
 refine AB.of_runs (fun ρ=>Builtin.unsafeString_ #[pt,it] T #[ρ x,ρ n]) (fun a w=>?_) fun w0 M0 I0 fr I mu h ac w hw hid hxx hbb=>?_
 ·refine Eq.trans ?_ (BH (P:=P) (Builtin.unsafeString_ #[pt,it] T #[a.eval x,a.eval n]) w)
  simp only[execOp,resolve,A0e,A0k,Result.andThen,invoke]
  rw[show ∀ cs,builtin .unsafeString #[pt,it] T cs (#[x,n].map a.eval)=(do pure (.value (<-Builtin.unsafeString_ #[pt,it] T (#[x,n].map a.eval)))) from fun _=>rfl]
  rw[show #[x,n].map a.eval=#[a.eval x,a.eval n] by simp]
  simp only[A0e,A0k,Result.andThen]
 ·have hxa:=hxx x (by simp[Op.operands,Call.operands])
  have hxn:=hxx n (by simp[Op.operands,Call.operands])
  rw[hx] at hxa
  rw[hn] at hxn
  have hnv:=hxn.val_inv
  have hg:=(hbb g (by simp)).trans hb
  obtain⟨v,u,h1,h2,_,_,hp⟩:=hw.blk g _ hg
  show Ay P (fun w=>(Builtin.unsafeString_ #[pt,it] T #[ac.eval x,ac.eval n]).run P w) _ _ _ _ _ _ _ _ _ _ _
  rw[hnv]
  generalize ac.eval x=va at*
  rcases hp with⟨_,rfl⟩|⟨k,cap,cur,rfl,hc0,ho,hlc,hcm,hcs,htk⟩
  ·exact absurd rfl ht
  ·have hloc:Ae (.slice (some ⟨k,0,none⟩) tx.length cap)=some k:=by simp[Ae];omega
   rw[hloc] at ho
   have ho':w.heap[k]? =some (.cells cur Te (0,0)):=ho
   cases hxa with
   |gel _ _ _ _ k' len' cap' hk=>
    rw[h1] at hk
    cases hk
    have hrun:=Lib.run_unsafeString_row (P:=P) w pt it T Te hpt hce k cur.size (by simp[World.shape?,ho']) tx ht (by omega) (by omega) (fun j y hj=>by
     have hlt:j<tx.length:=by
      rcases A0O j tx.length with h'|h'
      ·exact h'
      ·rw[List.getElem?_eq_none h'] at hj;cases hj
     have h7:(cur.toList.take tx.length)[j]? =some (.int .u8 y.toNat):=by rw[htk,Lib.byteCells,A0u,hj];rfl
     rw[A0r hlt] at h7
     have e0:((⟨k,0,none⟩:Addr).add j)=⟨k,j,none⟩:=by simp[Addr.add];try exact fun h=>h.symm
     rw[e0]
     simpa[World.cell?,ho'] using h7)
    have hfz:(w.freeze ⟨k,0,none⟩ tx.length).heap.size=w.heap.size/\(∀ j,j≠k->(w.freeze ⟨k,0,none⟩ tx.length).heap[j]? =w.heap[j]?)/\(w.freeze ⟨k,0,none⟩ tx.length).os=w.os/\(w.freeze ⟨k,0,none⟩ tx.length).tape=w.tape/\(w.freeze ⟨k,0,none⟩ tx.length).output=w.output:=by
     unfold World.freeze
     split
     ·exact⟨rfl,fun _ _=>rfl,rfl,rfl,rfl⟩
     ·refine⟨by simp,fun j hj=>?_,rfl,rfl,rfl⟩
      simp only[Array.getElem?_modify]
      rw[if_neg (fun e=>hj e.symm)]
    have hput:=hw.put (b0:=some g) hid (w.freeze ⟨k,0,none⟩ tx.length) (.slice none 0 0) .junk (fun k hk=>by simp[Ae] at hk) (by rw[hfz.1];exact A08 _) (fun j hj hne=>hfz.2.1 j fun e=>hne g _ _ rfl hg h1 (by rw[e];exact hloc)) hfz.2.2.1 hfz.2.2.2.1 hfz.2.2.2.2 trivial
    refine⟨_,_,I,_,by simpa using hrun,hput.2,?_,.val _ (by show _<=_;simp[ByteArray.size];omega)⟩
    have h2:=hput.1
    have e1:(fun c=>if c=id then some Blk.junk else if(some g:Option Nat)=some c then none else h c)=fun c=>AO c (h c) [(g,none),(id,some .junk)]:=by
     funext c;simp only[AO,A0t,A11,A03]
     by_cases hbi:c=id
     ·subst hbi;simp
     ·have:¬id=c:=fun h=>hbi h.symm
      simp[hbi,this]
    rw[e1] at h2
    exact h2
theorem MK(s:ByteArray):Lib.strCells s=Lib.byteCells s.data.toList:=rfl
theorem Ya{t u ty e:TypeId}{i:TypeInfo}(ht:P.underlying t=some (.slice e))(hu:P.underlying u=some .string)(hi:P.info? e=some i)(hz:i.zero=some (.int .u8 0))(hsize:i.size=1)(hby:i.bytes=1)
  {w:World} {v q:Value} {tx:List UInt8} (hv:prG e tx v q ((Ae v).bind fun k=>w.heap[k]?)) (s:ByteArray) (hne:tx++s.data.toList≠[]) (hl:tx.length+s.size<=1073741824):
  ∃ v' w',(Builtin.append_ #[t,u] ty #[v,.string s]).run P w=.ok v' w'/\(∀ q',prG e (tx++s.data.toList) v' q' ((Ae v').bind fun k=>w'.heap[k]?))/\v'≠undef/\
   (∀ k,Ae v'=some k->(w.heap.size<=k/\k<w'.heap.size)∨Ae v=some k)/\w.heap.size<=w'.heap.size/\(∀ j,j<w.heap.size->Ae v≠some j->w'.heap[j]? =w.heap[j]?)/\w'.os=w.os/\w'.tape=w.tape/\w'.output=w.output/\∃ A cap,v'=.slice A (tx.length+s.size) cap:=by
 have hsl:s.data.toList.length=s.size:=rfl
 have hll:(tx++s.data.toList).length=tx.length+s.size:=by rw[A04,hsl]
 have hpos:0<tx.length+s.size:=by rw[<-hll];exact A1J.2 hne
 have hbl:(Lib.byteCells (tx++s.data.toList)).length=tx.length+s.size:=by rw[Lib.byteCells_length,hll]
 have fin:∀ (g cap:Nat) (w':World) (cur:Array Value),w'.heap[g]? =some (.cells cur e (0,0))->tx.length+s.size<=cap->cap<=maxLen->cur.size=cap->cur.toList.take (tx.length+s.size)=Lib.byteCells (tx++s.data.toList)->
   (∀ q',prG e (tx++s.data.toList) (.slice (some ⟨g,0,none⟩) (tx.length+s.size) cap) q' ((Ae (.slice (some ⟨g,0,none⟩) (tx.length+s.size) cap)).bind fun k=>w'.heap[k]?)):=fun g cap w' cur h1 h2 h3 h4 h5 q'=>by
  refine .inr ⟨g,cap,cur,by rw[hll],by omega,?_,by rw[hll];exact h2,h3,h4,by rw[hll];exact h5⟩
  rw[show Ae (.slice (some ⟨g,0,none⟩) (tx.length+s.size) cap)=some g by simp[Ae];omega]
  exact h1
 rcases hv with⟨rfl,rfl⟩|⟨g,cap,cur,rfl,hc0,ho,hlc,hcm,hcs,htk⟩
 ·obtain⟨v',w',hrun,hown,hg,hnil⟩:=Lib.run_append_own_string (P:=P) w w.heap.size t u ty e i ht hu hi hz hsize hby (.slice none 0 0) 0 [] (World.ownsRow_nil _ _ _ _) s (by simp only[maxLen];omega) (by omega) (A08 _)
  simp only[A0v,A1a,A0h] at*
  rcases hown.2 with⟨rfl,h0⟩|⟨g,cap,cur,rfl,hbg,hgg,hnc,hcm,hcs,htake⟩
  ·omega
  ·refine⟨_,w',hrun,fin g cap w' cur hgg hnc hcm (by simpa using hcs) (by simpa[Lib.strCells_eq] using htake),by simp[undef],fun k hk=>?_,hg.size,fun j hj _=>hg.block j hj (by simp[Value.ownBlock]),hg.os,hg.tape,hg.output,_,_,rfl⟩
   have:k=g:=by
    simp only[Ae] at hk
    split at hk
    ·cases hk
    ·cases hk;rfl
   subst this
   exact .inl ⟨hbg,(A0l.1 hgg).1⟩
 ·have hloc:Ae (.slice (some ⟨g,0,none⟩) tx.length cap)=some g:=by simp[Ae];omega
  rw[hloc] at ho
  have ho':w.heap[g]? =some (.cells cur e (0,0)):=ho
  have e2:cur.toList.take tx.length++Lib.strCells s=Lib.byteCells (tx++s.data.toList):=by rw[htk,Lib.byteCells_append];rfl
  by_cases hroom:tx.length+s.size<=cap
  ·have hr:=Lib.run_append_room_string (P:=P) w t u ty e i ht hu hi hsize g tx.length cap cur ho' s hroom (by omega)
   refine⟨_,_,hr,fin g cap _ _ (setRow_heap w g cur _ e _ ho') hroom hcm ?_ ?_,by simp[undef],fun k hk=>.inr ?_,by simp,fun j hj hne=>setRow_other w g j _ (fun h=>hne (by rw[h];exact hloc)),rfl,rfl,rfl,_,_,rfl⟩
   ·simp only[A0y,A04,A0C,A0s,A0Q,Lib.strCells_length]
    omega
   ·rw[e2,<-hbl]
    exact List.take_left
   ·have:k=g:=by
     simp only[Ae] at hk
     split at hk
     ·cases hk
     ·cases hk;rfl
    rw[this];exact hloc
  ·have holds:∀ j u,(Lib.byteCells tx)[j]? =some u->w.cell? ((⟨g,0,none⟩:Addr).add j)=some u:=fun j u hj=>by
    rw[<-htk] at hj
    have hlt:j<tx.length:=by
     rcases A0O j tx.length with h'|h'
     ·exact h'
     ·rw[List.getElem?_eq_none (by simp;omega)] at hj;cases hj
    rw[A0r hlt] at hj
    have e0:((⟨g,0,none⟩:Addr).add j)=⟨g,j,none⟩:=by simp[Addr.add];try exact fun h=>h.symm
    rw[e0]
    simpa[World.cell?,ho'] using hj
   have hr:=Lib.run_append_grow_string (P:=P) w t u ty e i (.int .u8 0) ht hu hi hz ⟨g,0,none⟩ tx.length cap (Lib.byteCells tx) (by rw[hsize,Lib.byteCells_length];simp) holds s (by omega) (by omega) (by rw[hby];exact growslice_fits (by omega) (by omega))
   have hge:=grownCap_ge w (tx.length+s.size) cap e
   have hgm:grownCap w (tx.length+s.size) cap e<=maxLen:=grownCap_le_maxLen w (tx.length+s.size) cap e (by simp only[maxLen];omega)
   refine⟨_,_,hr,fin w.heap.size _ _ _ (heap_alloc_new w.drew _) hge hgm ?_ ?_,by simp[undef],fun k hk=>.inl ?_,by simp,fun j hj _=>B0 w.drew _ hj,rfl,rfl,rfl,_,_,rfl⟩
   ·have hz1:(Value.int IntKind.u8 0).cells.size=1:=rfl
    simp only[Array.size_append,A0y,size_zeroCells,hz1,Lib.byteCells_length,Lib.strCells_length]
    omega
   ·simp only[Array.toList_append,A0c]
    rw[<-A0c,MK,<-Lib.byteCells_append,<-hbl]
    exact List.take_left
   ·have:k=w.heap.size:=by
     simp only[Ae] at hk
     split at hk
     ·cases hk
     ·cases hk;rfl
    subst this
    exact⟨A08 _,by simp⟩
theorem WW{t u e:TypeId}{ti:TypeInfo}{x y:Operand}{g g0 len:Nat}{tx:List UInt8}{s:ByteArray}(ht:P.underlying t=some (.slice e))(hu:P.underlying u=some .string)(hi:P.info? e=some ti)(hz:ti.zero=some (.int .u8 0))(hsize:ti.size=1)(hby:ti.bytes=1)
  (hx:ev x=.gref g len) (hy:ev y=.val (.string s)) (hb:hp g=some (.pr g0 (prG e tx))) (hne:tx++s.data.toList≠[]) (hl:tx.length+s.size<=1073741824):
  AB P ⟨dst,.call {callee:=.builtin .append,args:=#[x,y],argTypes:=#[t,u]},T,ps,af,gd⟩ id ev hp ⟨.gref id (tx.length+s.size),[(g,none),(id,some (.pr id (prG e (tx++s.data.toList))))],[g]⟩:=by
 refine AB.of_runs (fun ρ=>Builtin.append_ #[t,u] T #[ρ x,ρ y]) (fun a w=>?_) fun w0 M0 I0 fr I mu h ac w hw hid hxx hbb=>?_
 ·refine Eq.trans ?_ (BH (P:=P) (Builtin.append_ #[t,u] T #[a.eval x,a.eval y]) w)
  simp only[execOp,resolve,A0e,A0k,Result.andThen,invoke]
  rw[show ∀ cs,builtin .append #[t,u] T cs (#[x,y].map a.eval)=(do pure (.value (<-Builtin.append_ #[t,u] T (#[x,y].map a.eval)))) from fun _=>rfl]
  rw[show #[x,y].map a.eval=#[a.eval x,a.eval y] by simp]
  simp only[A0e,A0k,Result.andThen]
 ·have hxa:=hxx x (by simp[Op.operands,Call.operands])
  have hxy:=hxx y (by simp[Op.operands,Call.operands])
  rw[hx] at hxa
  rw[hy] at hxy
  have hyv:=hxy.val_inv
  have hg:=(hbb g (by simp)).trans hb
  obtain⟨v,q,h1,h2,_,_,hp⟩:=hw.blk g _ hg
  show Ay P (fun w=>(Builtin.append_ #[t,u] T #[ac.eval x,ac.eval y]).run P w) _ _ _ _ _ _ _ _ _ _ _
  rw[hyv]
  generalize ac.eval x=va at*
  have hva:va=v:=by
   cases hxa with
   |gref _ _ A cap hk=>rw [h1] at hk;cases hk;rfl
  subst hva
  obtain⟨v',w',hrun,hpr,hund,hk,hsz,hsame,hos,htp,hout,A,cap,hv'⟩:=Ya (P:=P) (ty:=T) ht hu hi hz hsize hby hp s hne hl
  have hput:=hw.put (b0:=some g) hid w' v' (.pr id (prG e (tx++s.data.toList))) (fun k hk'=>(hk k hk').imp (fun h=>h) fun h=>⟨g,_,_,rfl,hg,h1,h⟩) hsz (fun j hj hne=>hsame j hj (hne g _ _ rfl hg h1)) hos htp hout ⟨v',v',by simp[Ax],by simp[Ax],hund,hund,hpr v'⟩
  refine⟨v',w',I,_,hrun,hput.2,?_,?_⟩
  ·have h2:=hput.1
   have e1:(fun c=>if c=id then some (Blk.pr id (prG e (tx++s.data.toList))) else if(some g:Option Nat)=some c then none else h c)=fun c=>AO c (h c) [(g,none),(id,some (.pr id (prG e (tx++s.data.toList))))]:=by
    funext c;simp only[AO,A0t,A11,A03]
    by_cases hbi:c=id
    ·subst hbi;simp
    ·have:¬id=c:=fun h=>hbi h.symm
     simp[hbi,this]
   rw[e1] at h2
   exact h2
  ·rw[hv']
   exact .gref id _ A cap (by simp[Ax,hv'])
end
theorem AWp.regX{P:Program}{nt id:Nat}{l:List Oper}{Q:AE->St->Prop}{s:St}(hin:J3 nt l=true)(h:A1 P l.toArray s.nx l 0 [] s (fun E s'=>KI l E (Q .normal ⟨s'.env,s'.hp,s.nx+4*l.length⟩) (Rp Q (s.nx+4*l.length) s'))):AWp P nt (.region id l.toArray false) Q s:=by
 rw[Ba] at h
 have hr:=h.out
 refine AWp.postW (AWp.same (AWp.region hin (Run.mono (fun E t h=>?_) hr)))
 obtain⟨s',h1,h2⟩:=h
 refine N4 h2 (fun h2=>⟨⟨s'.env,s'.hp,s.nx+4*l.length⟩,h1,rfl,_,Aw.refl _,h2⟩) fun h2=>?_
 have e1:s'.env.get Bg=t.env.get Bg:=congrFun (congrArg FSt.env h1) Bg
 refine⟨⟨(Bg,.any)::s'.env,s'.hp,s.nx+4*l.length⟩,?_,rfl,?_⟩
 ·have:=FSt.app_eq h1 (some Bg) ⟨.any,[],[]⟩
  simpa[St.app,DT,St.fs] using this
 ·rw[<-e1];exact h2
section
variable{P:Program}{ops:Array Oper}{nx:Nat}{dst:Option Tmp}{T:TypeId}{ps:String}{af:Array Edge}{gd:Option (Nat×Bool)}{l:List Oper}{pos:Nat}{acc:List Eff}{s:St}{K:List Eff->St->Prop}
theorem A1.loadR{t:TypeId}{ti:TI}{a:Operand}{b g off sz:Nat}{T0:TypeId}{es:List D}{r:D}(ht:Ag P t=some ti)(hag:ti.ag=false)(ha:evO P s.env.get a=.ref b 0 off sz)(hb:Ac s.hp b=some (.pr g (prR T0 es)))(ho:off<es.length)(hr:Do b g (nd es off)=r)
  (hg:gd=none∨∃ j want t,gd=some (j,want)/\AR ops j=some t/\gOf (s.env.get t) want=some true) (hk:GoS P ops nx l (pos+1) (⟨r,[],[b]⟩::acc) (s.app dst ⟨r,[],[b]⟩) K):A1 P ops nx (⟨dst,.load t a,T,ps,af,gd⟩::l) pos acc s K:=
 .of_does (TY ht hag ha hb ho hr) hg hk
theorem A1.storeR(d:D)(g':Nat){t:TypeId}{ti:TI}{a x:Operand}{b g off sz:Nat}{T0:TypeId}{es:List D}(ht:Ag P t=some ti)(hts:ti.sz=1)(hag:ti.ag=false)(ha:evO P s.env.get a=.ref b 0 off sz)(hb:Ac s.hp b=some (.pr g (prR T0 es)))(ho:off<es.length)
  (hx:evO P s.env.get x=Do b g' d) (hd:ZM d) (hone:Bc d=true) (hgg:g'=g∨(isG d=true/\(es.set off (.val (.bool true))).any isG=false))
  (hg:gd=none∨∃ j want t,gd=some (j,want)/\AR ops j=some t/\gOf (s.env.get t) want=some true) (hk:GoS P ops nx l (pos+1) (⟨.any,[(b,some (.pr g' (prR T0 (es.set off d))))],[b]⟩::acc) (s.app dst ⟨.any,[(b,some (.pr g' (prR T0 (es.set off d))))],[b]⟩) K):
  A1 P ops nx (⟨dst,.store t a x,T,ps,af,gd⟩::l) pos acc s K:=
 .of_does (S3 ht hts hag ha hb ho hx hd hone (hgg.imp (fun h=>h) fun h=>⟨h.1,fun i h1 h2=>by
  have h3:=List.any_eq_false.1 h.2 (nd es i) (A1E (i:=i) (by rw[A1B];simp[nd,A02,h2,show ¬off=i from fun e=>h1 e.symm]))
  simpa using h3⟩)) hg hk
theorem A1.convR{t t':TypeId}{x:Operand}{b g i off sz:Nat}{T0:TypeId}{es:List D}(hx:evO P s.env.get x=.ref b i off sz)(hb:Ac s.hp b=some (.pr g (prR T0 es)))
  (hc:∀ (w:World) (k:Nat) (us:Array Value),w.heap[k]? =some (.cells us T0 (0,0))->us.size=es.length->(convert t t' (.pointer (some ⟨k,i*sz+off,none⟩))).run P w=.ok (.pointer (some ⟨k,i*sz+off,none⟩)) w)
  (hg:gd=none∨∃ j want t,gd=some (j,want)/\AR ops j=some t/\gOf (s.env.get t) want=some true) (hk:GoS P ops nx l (pos+1) (⟨.ref b i off sz,[],[b]⟩::acc) (s.app dst ⟨.ref b i off sz,[],[b]⟩) K):A1 P ops nx (⟨dst,.convert t t' x,T,ps,af,gd⟩::l) pos acc s K:=
 .of_does (TZ hx hb hc) hg hk
theorem A1.neSame{tp te:TypeId}{ti:TypeInfo}{x y:Operand}{b i off sz:Nat}{t':TypeId}(ht:P.underlying tp=some (.pointer te))(hte:P.info? te=some ti)(hx:evO P s.env.get x=.ref b i off sz)(hy:evO P s.env.get y=.ref b i off sz)
  (hg:gd=none∨∃ j want t,gd=some (j,want)/\AR ops j=some t/\gOf (s.env.get t) want=some true) (hk:GoS P ops nx l (pos+1) (⟨.val (.bool false),[],[]⟩::acc) (s.app dst ⟨.val (.bool false),[],[]⟩) K):A1 P ops nx (⟨dst,.binOp .neq tp x y t',T,ps,af,gd⟩::l) pos acc s K:=by
 refine .of_does (e:=⟨.val (.bool false),[],[]⟩) ?_ hg hk
 refine AB.of_runs (fun ρ=>do eqGuard .neq tp x y (ρ x) (ρ y);binOp .neq tp (ρ x) (ρ y)) (fun a w=>BH _ w) fun w0 M0 I0 fr I mu h ac w hw hid hxx hbb=>?_
 have h1:=hxx x (by simp[Op.operands])
 have h2:=hxx y (by simp[Op.operands])
 rw[hx] at h1
 rw[hy] at h2
 show Ay P (fun w=>(do eqGuard .neq tp x y (ac.eval x) (ac.eval y);binOp .neq tp (ac.eval x) (ac.eval y)).run P w) _ _ _ _ _ _ _ _ _ _ _
 generalize ac.eval x=vx at*
 generalize ac.eval y=vy at*
 cases h1 with
 |ref _ _ _ _ k hk=>
  cases h2 with
  |ref _ _ _ _ k' hk'=>
   rw[hk] at hk'
   cases hk'
   refine Ay.same hw _ ?_ (.val (.bool false) trivial)
   have:=Lib.run_neq_ptr_same (P:=P) w ⟨k,i*sz+off,none⟩ ht hte
   simp only[A0e,eqGuard]
   simp[Result.andThen]
   exact this
theorem A1.usd{ts:Array TypeId}{x:Operand}{g g0 len:Nat}{Te:TypeId}{tx:List UInt8}(ht:tx≠[])(hx:evO P s.env.get x=.gref g len)(hb:Ac s.hp g=some (.pr g0 (prG Te tx)))
  (hg:gd=none∨∃ j want t,gd=some (j,want)/\AR ops j=some t/\gOf (s.env.get t) want=some true) (hk:GoS P ops nx l (pos+1) (⟨.gel g 0 0 1,[],[g]⟩::acc) (s.app dst ⟨.gel g 0 0 1,[],[g]⟩) K):
  A1 P ops nx (⟨dst,.call {callee:=.builtin .unsafeSliceData,args:=#[x],argTypes:=ts},T,ps,af,gd⟩::l) pos acc s K:=
 .of_does (ZY hx hb ht) hg hk
theorem A1.ustr{pt it Te:TypeId}{x n:Operand}{g g0:Nat}{tx:List UInt8}(hpt:P.underlying pt=some (.pointer Te))(hce:P.cellsOf Te=1)(ht:tx≠[])(hl:tx.length<=1073741824)(hx:evO P s.env.get x=.gel g 0 0 1)(hn:evO P s.env.get n=.val (.int .i64 tx.length))(hb:Ac s.hp g=some (.pr g0 (prG Te tx)))
  (hg:gd=none∨∃ j want t,gd=some (j,want)/\AR ops j=some t/\gOf (s.env.get t) want=some true) (hk:GoS P ops nx l (pos+1) (⟨.val (.string ⟨tx.toArray⟩),[(g,none),(2*(nx+4*pos),some .junk)],[g]⟩::acc) (s.app dst ⟨.val (.string ⟨tx.toArray⟩),[(g,none),(2*(nx+4*pos),some .junk)],[g]⟩) K):
  A1 P ops nx (⟨dst,.call {callee:=.builtin .unsafeString,args:=#[x,n],argTypes:=#[pt,it]},T,ps,af,gd⟩::l) pos acc s K:=
 .of_does (WT hpt hce hx hn hb ht hl) hg hk
theorem A1.appG{t u e:TypeId}{ti:TypeInfo}{x y:Operand}{g g0 len:Nat}{tx:List UInt8}{sx:ByteArray}(ht:P.underlying t=some (.slice e))(hu:P.underlying u=some .string)(hi:P.info? e=some ti)(hz:ti.zero=some (.int .u8 0))(hsize:ti.size=1)(hby:ti.bytes=1)(hne:tx++sx.data.toList≠[])(hl:tx.length+sx.size<=1073741824)
  (hx:evO P s.env.get x=.gref g len) (hy:evO P s.env.get y=.val (.string sx)) (hb:Ac s.hp g=some (.pr g0 (prG e tx)))
  (hg:gd=none∨∃ j want t,gd=some (j,want)/\AR ops j=some t/\gOf (s.env.get t) want=some true) (hk:GoS P ops nx l (pos+1) (⟨.gref (2*(nx+4*pos)) (tx.length+sx.size),[(g,none),(2*(nx+4*pos),some (.pr (2*(nx+4*pos)) (prG e (tx++sx.data.toList))))],[g]⟩::acc) (s.app dst ⟨.gref (2*(nx+4*pos)) (tx.length+sx.size),[(g,none),(2*(nx+4*pos),some (.pr (2*(nx+4*pos)) (prG e (tx++sx.data.toList))))],[g]⟩) K):
  A1 P ops nx (⟨dst,.call {callee:=.builtin .append,args:=#[x,y],argTypes:=#[t,u]},T,ps,af,gd⟩::l) pos acc s K:=
 .of_does (WW ht hu hi hz hsize hby hx hy hb hne hl) hg hk
theorem A1.of_doesX{op:Op}{e:Eff}(hd:AB P ⟨dst,op,T,ps,af,gd⟩ (2*(nx+4*pos)) (evO P s.env.get) (Ac s.hp) e)(hg:gd=none∨∃ j want t,gd=some (j,want)/\AR ops j=some t/\gOf (s.env.get t) want=some true)
  (hk:A1 P ops nx l (pos+1) (e::acc) (s.app dst e) K):A1 P ops nx (⟨dst,op,T,ps,af,gd⟩::l) pos acc s K:=by
 rw[Ba] at hk|-
 unfold Bs at hk|-
 refine .inl ⟨_,?_,hk⟩
 rcases hg with rfl|⟨j,want,t,rfl,ht,hg⟩
 ·exact B9.plain rfl hd
 ·exact B9.guard_true rfl ht hg hd
end
theorem Wb(b g:Nat)(x:Value):Do b g (.val x)=.val x:=rfl
theorem Wc(b g i off sz:Nat):Do b g (.ref 0 i off sz)=.ref b i off sz:=rfl
theorem Tt(b g len:Nat):Do b g (.gref 1 len)=.gref g len:=rfl
attribute [push_cast] List.set_cons_zero List.set_cons_succ Wb Wc Tt
theorem Mf{P:Program}{id:Nat}{ev:Operand->D}{hp:Nat->Option Blk}{dst:Option Tmp}{T:TypeId}{pos:String}{af:Array Edge}{gd:Option (Nat×Bool)}{f:FuncId}{args:Array Operand}{ts:Array TypeId}{ds:List D}{r:D}(Hq:Hp)
  (hq:HX hp Hq) (ha:loL ((args.toList.map ev).map (frz (Ac Hq) 4)) ds) (hpu:Af ds=true) (hc:A0 P f ds r):
  AB P ⟨dst,.call {callee:=.value (.func f),args:=args,argTypes:=ts},T,pos,af,gd⟩ id ev hp ⟨r,(Hq.map (·.1)).map fun c=>(c,none),Hq.map (·.1)⟩:=by
 intro w0 M0 I0 fr I mu h a w hga hw hid hxs hb K Q hK
 have hargs:=B8.args (w:=w) (I:=I) (mu:=mu) (ev:=ev) (a:=a) (args:=args) fun y hy=>hxs y (by simp[Op.operands,Call.operands];exact .inr (by simpa using hy))
 have hs:∀ b x,Ac Hq b=some x->b ∈ Hq.map (·.1)/\h b=some x:=fun b x hx=>by
  obtain⟨h1,h2⟩:=HF hq b x hx
  exact⟨h1,(hb b h1).trans h2⟩
 generalize Hq.map (·.1)=bs at*
 let hR:Nat->Option Blk:=fun b=>if b ∈ bs then h b else none
 have hRs:∀ b x,hR b=some x->h b=some x/\b ∈ bs:=by
  intro b x hx
  simp only[hR] at hx
  split at hx
  ·rename_i hm;exact⟨hx,hm⟩
  ·cases hx
 have hwR:Ao w0 M0 I0 fr I mu hR w:=hw.sub fun b x hx=>(hRs b x hx).1
 have hwq:Ao w0 M0 I0 fr I mu (Ac Hq) w:=hw.sub fun b x hx=>(hs b x hx).2
 let J:Nat->Prop:=fun k=>I k∨∃ b x v,hR b=some x/\mu b=some v/\Ae v=some k
 have hIJ:∀ k,I k->J k:=fun k hk=>.inl hk
 have hJ:∀ b x v k,Ac Hq b=some x->mu b=some v->Ae v=some k->J k:=fun b x v k h1 h2 h3=>.inr ⟨b,x,v,by simp only[hR,if_pos (hs b x h1).1];exact(hs b x h1).2,h2,h3⟩
 have hJl:∀ k,J k->k<w.heap.size:=by
  rintro k (hk|⟨b,x,v,h1,h2,h3⟩)
  ·exact hw.lt k hk
  ·exact(hwR.loc b x v k h1 h2 h3).2.2
 have hall:B8 w J mu ds (args.toList.map a.eval):=by
  obtain⟨l1,l2⟩:=BJ ha
  refine⟨by rw[<-l1];simpa using hargs.1,fun i hi=>?_⟩
  rw[<-l1] at hi
  have hi':i<(args.toList.map ev).length:=by simpa using hi
  have:=l2 i hi
  rw[CQ hi'] at this
  exact(Rep.frz hwq hIJ hJ 4 _ _ (hargs.2 i hi')).lo this
 have hall':=hall.unmu (mu':=fun _=>none) hpu
 unfold A0 at hc
 have hcall:=hc.2 w J _ ((hga.at hw).mono hIJ) hJl hall'.1 hall'.2
 have hrun:(execOp a.eval ⟨dst,.call {callee:=.value (.func f),args:=args,argTypes:=ts},T,pos,af,gd⟩).run P w=.ok (.enter f (args.toList.map a.eval).toArray) w:=by
  have e1:args.map a.eval=(args.toList.map a.eval).toArray:=by apply Array.ext';simp
  simp only[execOp,resolve,Act.eval,Deferred.ofValue,A0e,A0k,Result.andThen,invoke]
  have e2:#[]++args.map a.eval++ #[]=(args.toList.map a.eval).toArray:=by rw[e1];simp
  exact(congrArg (fun z=>(callFunc f z).run P w) e2).trans (AX hc.1 _ w)
 refine C2 hrun ?_
 refine hcall.mono fun e w' ⟨v,I',he,hv,h1,h2,h3,h4⟩=>?_
 subst he
 have hbl:∀ k,k<w.heap.size->w'.heap[k]? =w.heap[k]?:=fun k hk=>h4.block k hk
 have hII:∀ k,I k->I' k:=fun k hk=>h1 k (hIJ k hk)
 have hext:Ext I mu w I' mu w':=⟨hII,fun _ _ h=>h,fun k hk=>hbl k (hw.lt k hk)⟩
 have hup:∀ b x,AO b (h b) (bs.map fun c=>(c,none))=some x->h b=some x/\b ∉ bs:=by
  intro b x hx
  rw[GG] at hx
  split at hx
  ·cases hx
  ·rename_i hm;exact⟨hx,hm⟩
 refine hK v w' I' mu hext ⟨fun b x hx=>?_,fun b x u k hx hu hk=>?_,fun b c x y u u' k hx hy=>hw.inj b c x y u u' k (hup b x hx).1 (hup c y hy).1,fun b hb'=>hw.fresh b hb'.1,h3,h4.os.trans hw.os,h4.tape.trans hw.tape,h4.output.trans hw.output,A0M hw.grown h4.size,fun k hk hnm=>(hbl k (by have:=hw.grown;omega)).trans (hw.old k hk hnm),fun k hk=>hII k (hw.iold k hk),fun k hk=>?_,hw.keep,fun b x hx hb'=>hw.used b x (hup b x hx).1 hb'.1⟩ (hv.mono (fun _ _=>rfl) (fun _ h=>h) (fun _ _ h=>by cases h))
 ·obtain⟨g1,g2⟩:=hup b x hx
  exact(hw.blk b x g1).mono hext.w hext.i hext.m fun u k hu hk=>hbl k (hw.loc b x u k g1 hu hk).2.2
 ·obtain⟨g1,g2⟩:=hup b x hx
  have g3:=hw.loc b x u k g1 hu hk
  refine⟨g3.1,fun hI=>?_,A0P g3.2.2 h4.size⟩
  rcases h2 k hI with(h5|⟨c,y,v',q1,q2,q3⟩)|h5
  ·exact g3.2.1 h5
  ·have:=hw.inj b c x y u v' k g1 (hRs c y q1).1 hu q2 hk q3
   exact g2 (this▸(hRs c y q1).2)
  ·omega
 ·rcases h2 k hk with(h5|⟨c,y,v',q1,q2,q3⟩)|h5
  ·exact hw.inew k h5
  ·exact .inr (hwR.loc c y v' k q1 q2 q3).1
  ·exact .inr (.inr (A0M hw.grown h5))
noncomputable section
variable{P:Program}{ops:Array Oper}{nx:Nat}{dst:Option Tmp}{T:TypeId}{ps:String}{af:Array Edge}{gd:Option (Nat×Bool)}{f:FuncId}{args:Array Operand}{ts:Array TypeId}{ds:List D}{r:D}{l:List Oper}{pos:Nat}{acc:List Eff}{s:St}{K:List Eff->St->Prop}
theorem A1.giveF(Hq:Hp)(bs:List Nat)(hbs:Hq.map (·.1)=bs)(hc:A0 P f ds r)(hg:gd=none∨∃ j want t,gd=some (j,want)/\AR ops j=some t/\gOf (s.env.get t) want=some true)(hq:HX (Ac s.hp) Hq)(ha:loL ((args.toList.map (evO P s.env.get)).map (frz (Ac Hq) 4)) ds)(hpu:Af ds=true)
  (hk:GoS P ops nx l (pos+1) (⟨r,bs.map fun c=>(c,none),bs⟩::acc) (s.app dst ⟨r,bs.map fun c=>(c,none),bs⟩) K):A1 P ops nx (⟨dst,.call {callee:=.value (.func f),args:=args,argTypes:=ts},T,ps,af,gd⟩::l) pos acc s K:=by
 subst hbs
 rw[BY] at hk;rw[Ba]
 unfold Bs
 refine .inl ⟨_,?_,by have:=Go.run hk;unfold Bs at this;exact this⟩
 rcases hg with rfl|⟨j,want,t,rfl,ht,hg⟩
 ·exact B9.plain rfl (Mf Hq hq ha hpu hc)
 ·exact B9.guard_true rfl ht hg (Mf Hq hq ha hpu hc)
theorem A1.eqC{us vs:List Value}{b:Bool}{t t':TypeId}{x y:Operand}(hr:∀ w,(do eqGuard .eql t x y (.agg us.toArray) (.agg vs.toArray);binOp .eql t (.agg us.toArray) (.agg vs.toArray)).run P w=.ok (.bool b) w)(hx:evO P s.env.get x=.agg (us.map .val))(hy:evO P s.env.get y=.agg (vs.map .val))
  (hg:gd=none∨∃ j want t,gd=some (j,want)/\AR ops j=some t/\gOf (s.env.get t) want=some true) (hk:GoS P ops nx l (pos+1) (⟨.val (.bool b),[],[]⟩::acc) (s.app dst ⟨.val (.bool b),[],[]⟩) K):A1 P ops nx (⟨dst,.binOp .eql t x y t',T,ps,af,gd⟩::l) pos acc s K:=by
 refine .of_does (e:=⟨.val (.bool b),[],[]⟩) ?_ hg hk
 refine AB.of_runs (fun ρ=>do eqGuard .eql t x y (ρ x) (ρ y);binOp .eql t (ρ x) (ρ y)) (fun a w=>BH _ w) fun w0 M0 I0 fr I mu h ac w hw hid hxx hbb=>?_
 have h1:=hxx x (by simp[Op.operands])
 have h2:=hxx y (by simp[Op.operands])
 rw[hx] at h1
 rw[hy] at h2
 show Ay P (fun w=>(do eqGuard .eql t x y (ac.eval x) (ac.eval y);binOp .eql t (ac.eval x) (ac.eval y)).run P w) _ _ _ _ _ _ _ _ _ _ _
 generalize ac.eval x=vx at*
 generalize ac.eval y=vy at*
 have key:∀ (us:List Value) (v:Value),Rep w I mu (.agg (us.map .val)) v->v=.agg us.toArray:=by
  intro us v h
  cases h with
  |agg _ us' hl hi=>
   have:=B8.vals (us:=us) (vs:=us') ⟨hl.trans (by simp),fun i hi'=>hi i (by omega)⟩
   rw[this]
 rw[key us vx h1,key vs vy h2]
 exact Ay.same hw _ (hr w) (.val _ trivial)
end
end Go.Ab
namespace Go.Ab
open Go.Proofs Go.Proofs.Tryz
noncomputable def UE(m:GM)(L:List GE):Bool:=((AA m.key L).isSome==m.had)&&(!(AA m.key L).isSome ||(MQ (Cc (AA m.key L)) m.was==0))
section
variable{b:GT}{q:OQ}{l:List GE}(h:Fq b q l)(hb:l.length<=1099511627776)
include h hb
omit h hb in
theorem MT(n:Int): -9223372036854775808<=IntKind.i64.wrap n/\IntKind.i64.wrap n<=9223372036854775807:=EN .i64 n
def ovf(n d:Int):Bool:=(decide (0<d)&&decide (IntKind.i64.wrap (n+d)<n)) ||(decide (d<0)&&decide (n<IntKind.i64.wrap (n+d)))
noncomputable def PR(L:List GE)(k:ByteArray)(d f:Int):Int:=
 if(AA k L).isSome=true/\(Cc (AA k L)).kind≠3 then 9 else if ovf (Cc (AA k L)).n d=true then 7 else G7 f k
def Gw(L:List GE)(k:ByteArray)(d:Int):GV:=.mk 3 false (IntKind.i64.wrap ((Cc (AA k L)).n+d)) ByteArray.empty [] []
theorem q_inc(k:ByteArray)(d f:Int)(hF:A0 prog 85 [.agg (A4 (Gw (q.view l) k d))] (.val (.int .i64 f)))(hn:q.us.length<1073741824):
  ∃ q',A2 prog 194 [.ref 1 0 0 3,.val (.string k),.val (.int .i64 d)] (oqH b q) (.val (.int .i64 (PR (q.view l) k d f))) (oqH b q')/\Led b l q q' 1 (if PR (q.view l) k d f=0 then Bt (k,Gw (q.view l) k d) (q.view l) else q.view l):=by
 have hG:=q_Get h hb k
 have oB:=A5 b
 have hsm:Sm (Gw (q.view l) k d):=.mk _ _ _ _ [] [] (by simp) (by simp) (by simp) (by simp) (MT _) (by decide) (by simp)
 obtain⟨q',hP,hL⟩:=Yk h k (Gw (q.view l) k d) f hF hsm hn
 unfold PR
 rw[A7] at hG
 have hPz:=hP.args (ds':=[.ref 1 0 0 3,.val (.string k),.agg [.val (.int .i64 3),.val (.bool false),.val (.int .i64 (Gw (q.view l) k d).n),.val (.string ByteArray.empty),.slice [] true,.slice [] true]]) (by
  rw[A7]
  exact⟨Am _,Am _,⟨Am _,Am _,Am _,Am _,⟨trivial,fun e=>by cases e⟩,⟨trivial,fun e=>by cases e⟩,trivial⟩,trivial⟩)
 by_cases hk:(AA k (q.view l)).isSome=true/\(Cc (AA k (q.view l))).kind≠3
 ·simp only[if_pos hk]
  refine⟨q,?_,by rw[if_neg (by decide)];exact .refl h 1⟩
  obtain⟨hx,hk⟩:=hk
  rw[hx] at hG
  have b1:((Cc (AA k (q.view l))).kind !=3)=true:=by simpa using hk
  generalize Cc (AA k (q.view l))=v at*
  simp only[oqH] at hG|-
  refine Zd [] func194 rfl ntmps194 results194 ?_
  (have z:=Za oB b1;(try push_cast[z])<;>repeat' (first|apply Zi<;>intro _|refine Zs [(1,1),(2,2),(4,4)] hG ?_|exact Zo|with_reducible apply Za)<;>try push_cast[z])
  all_goals(apply Zr [(2,34),(4,36)] rfl<;>push_cast [oB])
 ·simp only[if_neg hk]
  have b1:(AA k (q.view l)).isSome=true->((Cc (AA k (q.view l))).kind !=3)=false:=fun hx=>by
   simp only[bne_eq_false_iff_eq]
   exact Classical.byContradiction fun h2=>hk ⟨hx,h2⟩
  by_cases ho:ovf (Cc (AA k (q.view l))).n d=true
  ·simp only[if_pos ho]
   refine⟨q,?_,by rw[if_neg (by decide)];exact .refl h 1⟩
   generalize Cc (AA k (q.view l))=v at*
   unfold ovf at ho
   simp only[oqH] at hG|-
   cases hx:(AA k (q.view l)).isSome with
   |false=>
    rw[hx] at hG
    cases h1:decide (0<d)<;>cases h2:decide (IntKind.i64.wrap (v.n+d)<v.n)<;>cases h3:decide (d<0)<;>cases h4:decide (v.n<IntKind.i64.wrap (v.n+d))<;>simp only[h1,h2,h3,h4,Bool.and_true,Bool.and_false,A1Q,Bool.or_true,A0A] at ho
    all_goals
     refine Zd [] func194 rfl ntmps194 results194 ?_
     (have z:=Za oB<|Za h1<|Za h2<|Za h3 h4;(try push_cast[z])<;>repeat' (first|apply Zi<;>intro _|refine Zs [(1,1),(2,2),(4,4)] hG ?_|exact Zo|with_reducible apply Za)<;>try push_cast[z])
     all_goals(apply Zr [(2,34),(4,36)] rfl<;>push_cast [oB])
   |true=>
    rw[hx] at hG
    have b2:=b1 hx
    cases h1:decide (0<d)<;>cases h2:decide (IntKind.i64.wrap (v.n+d)<v.n)<;>cases h3:decide (d<0)<;>cases h4:decide (v.n<IntKind.i64.wrap (v.n+d))<;>simp only[h1,h2,h3,h4,Bool.and_true,Bool.and_false,A1Q,Bool.or_true,A0A] at ho
    all_goals
     refine Zd [] func194 rfl ntmps194 results194 ?_
     (have z:=Za oB<|Za h1<|Za h2<|Za h3<|Za h4 b2;(try push_cast[z])<;>repeat' (first|apply Zi<;>intro _|refine Zs [(1,1),(2,2),(4,4)] hG ?_|exact Zo|with_reducible apply Za)<;>try push_cast[z])
     all_goals(apply Zr [(2,34),(4,36)] rfl<;>push_cast [oB])
  ·simp only[if_neg ho]
   refine⟨q',?_,hL⟩
   have hpu:(Gw (q.view l) k d).n=IntKind.i64.wrap ((Cc (AA k (q.view l))).n+d):=rfl
   rw[hpu] at hPz
   generalize G7 f k=c at*
   generalize Cc (AA k (q.view l))=v at*
   unfold ovf at ho
   simp only[oqH] at hG hPz|-
   cases hx:(AA k (q.view l)).isSome with
   |false=>
    rw[hx] at hG
    cases h1:decide (0<d)<;>cases h2:decide (IntKind.i64.wrap (v.n+d)<v.n)<;>cases h3:decide (d<0)<;>cases h4:decide (v.n<IntKind.i64.wrap (v.n+d))<;>simp only[h1,h2,h3,h4,Bool.and_true,Bool.and_false,A1Q,Bool.or_true,A0A,not_true_eq_false,not_false_eq_true] at ho
    all_goals
     refine Zd [] func194 rfl ntmps194 results194 ?_
     (have z:=Za oB<|Za h1<|Za h2<|Za h3 h4;(try push_cast[z])<;>repeat' (first|apply Zi<;>intro _|refine Zs [(1,1),(2,2),(4,4)] hG ?_|refine Zs [(1,1),(2,34),(4,36)] (hPz ..) ?_|exact Zo|with_reducible apply Za)<;>try push_cast[z])
     all_goals(apply Zr [(2,354),(4,356)] rfl<;>push_cast [oB])
   |true=>
    rw[hx] at hG
    have b2:=b1 hx
    cases h1:decide (0<d)<;>cases h2:decide (IntKind.i64.wrap (v.n+d)<v.n)<;>cases h3:decide (d<0)<;>cases h4:decide (v.n<IntKind.i64.wrap (v.n+d))<;>simp only[h1,h2,h3,h4,Bool.and_true,Bool.and_false,A1Q,Bool.or_true,A0A,not_true_eq_false,not_false_eq_true] at ho
    all_goals
     refine Zd [] func194 rfl ntmps194 results194 ?_
     (have z:=Za oB<|Za h1<|Za h2<|Za h3<|Za h4 b2;(try push_cast[z])<;>repeat' (first|apply Zi<;>intro _|refine Zs [(1,1),(2,2),(4,4)] hG ?_|refine Zs [(1,1),(2,34),(4,36)] (hPz ..) ?_|exact Zo|with_reducible apply Za)<;>try push_cast[z])
     all_goals(apply Zr [(2,354),(4,356)] rfl<;>push_cast [oB])
end
section
variable{b:GT}{q:OQ}{l:List GE}(h:Fq b q l)(hb:l.length<=1099511627776)
include h hb
noncomputable def addC(L:List GE)(k:ByteArray)(f:Int):Int:=
 if(AA k L).isSome=true/\(Cc (AA k L)).kind≠5 then 9 else if 256<=(Cc (AA k L)).list.length then 6 else G7 f k
def Xv(L:List GE)(k:ByteArray)(v:GV):GV:=.mk 5 false 0 ByteArray.empty ((Cc (AA k L)).list++[v]) []
noncomputable def casC(m:GM)(L:List GE)(f:Int):Int:=if UE m L=true then(if m.has then G7 f m.key else 0) else 13
noncomputable def casL(m:GM)(L:List GE)(f:Int):List GE:=if UE m L=true then(if m.has then(if G7 f m.key=0 then Bt (m.key,m.value) L else L) else Cf m.key L) else L
end
def doH(c m:Int)(b:GT)(q:OQ):Hp:=(3,.rows [[.val (.int .i64 c)]] 1)::(5,.rows [[.ref 1 0 0 3]] 1)::(7,.rows [[.val (.int .i64 m)]] 1)::oqH b q
def PK(k:Int)(m:GM):List D:=[.val (.int .i64 k),.val (.string m.key),.val (.string m.to),.val (.int .i64 m.n),.val (.bool m.had),.val (.int .i64 m.was.kind),.val (.bool m.was.b),.val (.int .i64 m.was.n),.val (.string m.was.s),.slice (m.was.list.map A4) false,.slice (m.was.obj.map A6) false,.val (.bool m.has),.val (.int .i64 m.value.kind),.val (.bool m.value.b),.val (.int .i64 m.value.n),.val (.string m.value.s),.slice (m.value.list.map A4) false,.slice (m.value.obj.map A6) false,.slice (m.list.map Ap) false]
def doR:List (Nat×Nat):=[(3,24),(5,8),(7,48),(9,16),(2,42),(4,44)]
def doC:List D:=[.ref 3 0 0 1,.ref 5 0 0 1,.ref 7 0 0 1]
def doE:Env:=[(2,.ref 5 0 0 1),(3,.ref 9 0 0 19),(4,.ref 3 0 0 1)]
section
variable{P:Program}{nt:Nat}{rs:List ResultVar}{g:FuncId}{t:Nat}{caps:Array Operand}{B:Code}{r:D}{H':Hp}{r1:Nat->Nat}{cs:List D}{env':Env}{HB:Hp}{rB:D}{HB':Hp}{s:St}
theorem Dq1(h9:AWp P nt B (SH P rs g cs rB HB') ⟨env',HB,4⟩)(hw:Aw ⟨[(0,AT (Ct (2*s.nx) r1) rB)],DT s.hp (DE (2*s.nx) r1 HB HB'),s.nx+4⟩ ⟨[(0,r)],H',4⟩)
  (h1:caps.toList.map (evO P s.env.get)=BX r1 cs:=by push_cast(config:= {maxSteps:=9999999}) [z]) (h2:ltL 0 cs=true:=by push_cast(config:= {maxSteps:=9999999}) [z]) (h3:BX (fun b=>b) cs=cs:=by push_cast(config:= {maxSteps:=9999999}) [z]) (h4:C3 r1 ((t,.any)::s.env) env':=by push_cast(config:= {maxSteps:=9999999}) [z,C3]) (h5:Ho 4 env'=true:=by push_cast(config:= {maxSteps:=9999999}) [z]) (h6:B3 r1 (Ac s.hp) HB:=by push_cast(config:= {maxSteps:=9999999}) [z,B3]) (h7:CP (2*s.nx) r1 HB []=true:=by push_cast(config:= {maxSteps:=9999999}) [z]) (h8:CP (2*s.nx) r1 HB HB'=true:=by push_cast(config:= {maxSteps:=9999999}) [z]):DefQ1 P nt rs g t caps B r H' r1 cs env' HB rB HB' .normal s:=⟨h1,h2,h3,h4,h5,h6,h7,h8,h9,hw⟩
theorem Dq2(rl:List (Nat×Nat))(d:D){HD HD':Hp}(hD:Qt P g [.ref 3 0 0 1,.ref 5 0 0 1,.ref 7 0 0 1] HD HD')(hw:Aw ⟨[(0,d)],DT s.hp (DE (2*s.nx) (BG rl) HD HD'),s.nx+4⟩ ⟨[(0,rB)],HB',4⟩)
  (h1:cs=BX (BG rl) [.ref 3 0 0 1,.ref 5 0 0 1,.ref 7 0 0 1]:=by push_cast(config:= {maxSteps:=9999999}) [z]) (h2:ltL 4 [.ref 3 0 0 1,.ref 5 0 0 1,.ref 7 0 0 1]=true:=by push_cast(config:= {maxSteps:=9999999}) [z]) (h3:B3 (BG rl) (Ac s.hp) HD:=by push_cast(config:= {maxSteps:=9999999}) [z,B3]) (h4:CP (2*s.nx) (BG rl) HD []=true:=by push_cast(config:= {maxSteps:=9999999}) [z]) (h5:CP (2*s.nx) (BG rl) HD HD'=true:=by push_cast(config:= {maxSteps:=9999999}) [z]) (h6:HK P ⟨s.env,DT s.hp (DE (2*s.nx) (BG rl) HD HD'),s.nx+4⟩ rs=some d:=by push_cast(config:= {maxSteps:=9999999}) [z]):SH P rs g cs rB HB' .ret s:=⟨BG rl,_,HD,HD',hD,h1,h2,h3,h4,h5,d,h6,hw⟩
end
theorem d_ok(b:GT)(q:OQ)(m:Int):Qt prog 190 [.ref 3 0 0 1,.ref 5 0 0 1,.ref 7 0 0 1] (doH 0 m b q) (doH 0 m b q):=by
 have oB:=A5 b
 simp only[doH,oqH]
 refine Qt.of_awp func190 rfl ntmps190 (by kernel_rfl) (by simp) (congrArg Array.toList results190) (AWp.sz fun H Hb=>Zy ?_)
 (have z:=oB;(try push_cast[z])<;>repeat' (first|apply Zi<;>intro _|exact Zo|with_reducible apply Za)<;>try push_cast[z])
 apply Zw<;>push_cast [oB]
theorem ZZ(b:GT)(q:OQ)(c:Int)(hc:c≠0)(hq:q.chg=none->q.us=[])(m:Nat)(hm:m<=q.us.length)(hn:q.us.length<=1073741824):Qt prog 190 [.ref 3 0 0 1,.ref 5 0 0 1,.ref 7 0 0 1] (doH c m b q) (doH c m b (q.back m)):=by
 have hB:=q_Back b q hq m hm hn
 have oB:=A5 b
 have b1:(c !=0)=true:=by simpa using hc
 generalize q.back m=q' at*
 simp only[doH,oqH,PK,doR,doC,doE] at hB|-
 refine Qt.of_awp func190 rfl ntmps190 (by kernel_rfl) (by simp) (congrArg Array.toList results190) (AWp.sz fun H Hb=>Zy ?_)
 (have z:=Za oB b1;(try push_cast[z])<;>repeat' (first|apply Zi<;>intro _|refine Zs [(1,1),(2,2),(4,4)] hB ?_|exact Zo|with_reducible apply Za)<;>try push_cast[z])
 apply Zr [(2,42),(4,44)] rfl<;>push_cast [oB]
section
variable{b:GT}{q:OQ}
theorem do_put0(m:GM)(hk:m.kind=1)(q1:OQ)(hP:A2 prog 192 [.ref 1 0 0 3,.val (.string m.key),.agg (A4 m.value)] (oqH b q) (.val (.int .i64 0)) (oqH b q1)):
  A2 prog 124 [.ref 1 0 0 3,.agg (Ap m)] (oqH b q) (.val (.int .i64 0)) (oqH b q1):=by
 have hM:=Pw b q
 have oB:=A5 b
 have hD:=d_ok b q1 q.us.length
 skip
 rw[AY,A7 m.was,A7 m.value,hk]
 rw[A7 m.value] at hP
 simp only[A0d,A0h,A0c]
 refine A2.of_awp_defer [_,_] func124 rfl ntmps124 (by kernel_rfl) (by simp) (by decide) (congrArg Array.toList results124) (BG doR) doC doE ((9,.rows [PK 1 m] 19)::doH 0 q.us.length b q) (.val (.int .i64 0)) (doH 0 q.us.length b q1) ?_
 simp only[doH,oqH,PK,doR,doC,doE] at hM hD hP|-
 refine Zy ?_
 (have z:=oB;(try push_cast[z])<;>repeat' (first|apply Zi<;>intro _|exact Zo|with_reducible apply Za)<;>try push_cast[z])
 refine Zy ?_
 (have z:=oB;(try push_cast[z])<;>repeat' (first|apply Zi<;>intro _|refine Zs [(1,1),(2,2),(4,4)] hM ?_|exact Zo|with_reducible apply Za)<;>try push_cast[z])
 have z:=oB
 refine Dq1 ?_ ?_
 ·refine Zy ?_
  (have z:=oB;(try push_cast[z])<;>repeat' (first|apply Zi<;>intro _|refine Zs [(1,1),(2,2),(4,4)] hP ?_|exact Zo|with_reducible apply Za)<;>try push_cast[z])
  refine Dq2 [(2,82),(4,84)] (.val (.int .i64 0)) hD ?_
  push_cast[oB]
  apply Zr [(2,98),(4,100)] rfl<;>push_cast [oB]
 ·push_cast[oB]
  apply Zr [(2,66),(4,68)] rfl<;>push_cast [oB]
theorem do_putE(m:GM)(hk:m.kind=1)(c:Int)(q1:OQ)(hP:A2 prog 192 [.ref 1 0 0 3,.val (.string m.key),.agg (A4 m.value)] (oqH b q) (.val (.int .i64 c)) (oqH b q1))(hc:c≠0)(hq1:q1.chg=none->q1.us=[])(hle:q.us.length<=q1.us.length)(hn1:q1.us.length<=1073741824):
  A2 prog 124 [.ref 1 0 0 3,.agg (Ap m)] (oqH b q) (.val (.int .i64 c)) (oqH b (q1.back q.us.length)):=by
 have hM:=Pw b q
 have oB:=A5 b
 have hD:=ZZ b q1 c hc hq1 q.us.length hle hn1
 generalize q1.back q.us.length=q2 at*
 rw[AY,A7 m.was,A7 m.value,hk]
 rw[A7 m.value] at hP
 simp only[A0d,A0h,A0c]
 refine A2.of_awp_defer [_,_] func124 rfl ntmps124 (by kernel_rfl) (by simp) (by decide) (congrArg Array.toList results124) (BG doR) doC doE ((9,.rows [PK 1 m] 19)::doH 0 q.us.length b q) (.val (.int .i64 c)) (doH c q.us.length b q2) ?_
 simp only[doH,oqH,PK,doR,doC,doE] at hM hD hP|-
 refine Zy ?_
 (have z:=oB;(try push_cast[z])<;>repeat' (first|apply Zi<;>intro _|exact Zo|with_reducible apply Za)<;>try push_cast[z])
 refine Zy ?_
 (have z:=oB;(try push_cast[z])<;>repeat' (first|apply Zi<;>intro _|refine Zs [(1,1),(2,2),(4,4)] hM ?_|exact Zo|with_reducible apply Za)<;>try push_cast[z])
 have z:=oB
 refine Dq1 ?_ ?_
 ·refine Zy ?_
  (have z:=oB;(try push_cast[z])<;>repeat' (first|apply Zi<;>intro _|refine Zs [(1,1),(2,2),(4,4)] hP ?_|exact Zo|with_reducible apply Za)<;>try push_cast[z])
  refine Dq2 [(2,82),(4,84)] (.val (.int .i64 c)) hD ?_
  push_cast[oB]
  apply Zr [(2,98),(4,100)] rfl<;>push_cast [oB]
 ·push_cast[oB]
  apply Zr [(2,66),(4,68)] rfl<;>push_cast [oB]
theorem do_inc0(m:GM)(hk:m.kind=3)(q1:OQ)(hP:A2 prog 194 [.ref 1 0 0 3,.val (.string m.key),.val (.int .i64 m.n)] (oqH b q) (.val (.int .i64 0)) (oqH b q1)):
  A2 prog 124 [.ref 1 0 0 3,.agg (Ap m)] (oqH b q) (.val (.int .i64 0)) (oqH b q1):=by
 have hM:=Pw b q
 have oB:=A5 b
 have hD:=d_ok b q1 q.us.length
 skip
 rw[AY,A7 m.was,A7 m.value,hk]
 skip
 simp only[A0d,A0h,A0c]
 refine A2.of_awp_defer [_,_] func124 rfl ntmps124 (by kernel_rfl) (by simp) (by decide) (congrArg Array.toList results124) (BG doR) doC doE ((9,.rows [PK 3 m] 19)::doH 0 q.us.length b q) (.val (.int .i64 0)) (doH 0 q.us.length b q1) ?_
 simp only[doH,oqH,PK,doR,doC,doE] at hM hD hP|-
 refine Zy ?_
 (have z:=oB;(try push_cast[z])<;>repeat' (first|apply Zi<;>intro _|exact Zo|with_reducible apply Za)<;>try push_cast[z])
 refine Zy ?_
 (have z:=oB;(try push_cast[z])<;>repeat' (first|apply Zi<;>intro _|refine Zs [(1,1),(2,2),(4,4)] hM ?_|exact Zo|with_reducible apply Za)<;>try push_cast[z])
 have z:=oB
 refine Dq1 ?_ ?_
 ·refine Zy ?_
  (have z:=oB;(try push_cast[z])<;>repeat' (first|apply Zi<;>intro _|refine Zs [(1,1),(2,2),(4,4)] hP ?_|exact Zo|with_reducible apply Za)<;>try push_cast[z])
  refine Dq2 [(2,114),(4,116)] (.val (.int .i64 0)) hD ?_
  push_cast[oB]
  apply Zr [(2,130),(4,132)] rfl<;>push_cast [oB]
 ·push_cast[oB]
  apply Zr [(2,66),(4,68)] rfl<;>push_cast [oB]
theorem do_incE(m:GM)(hk:m.kind=3)(c:Int)(q1:OQ)(hP:A2 prog 194 [.ref 1 0 0 3,.val (.string m.key),.val (.int .i64 m.n)] (oqH b q) (.val (.int .i64 c)) (oqH b q1))(hc:c≠0)(hq1:q1.chg=none->q1.us=[])(hle:q.us.length<=q1.us.length)(hn1:q1.us.length<=1073741824):
  A2 prog 124 [.ref 1 0 0 3,.agg (Ap m)] (oqH b q) (.val (.int .i64 c)) (oqH b (q1.back q.us.length)):=by
 have hM:=Pw b q
 have oB:=A5 b
 have hD:=ZZ b q1 c hc hq1 q.us.length hle hn1
 generalize q1.back q.us.length=q2 at*
 rw[AY,A7 m.was,A7 m.value,hk]
 skip
 simp only[A0d,A0h,A0c]
 refine A2.of_awp_defer [_,_] func124 rfl ntmps124 (by kernel_rfl) (by simp) (by decide) (congrArg Array.toList results124) (BG doR) doC doE ((9,.rows [PK 3 m] 19)::doH 0 q.us.length b q) (.val (.int .i64 c)) (doH c q.us.length b q2) ?_
 simp only[doH,oqH,PK,doR,doC,doE] at hM hD hP|-
 refine Zy ?_
 (have z:=oB;(try push_cast[z])<;>repeat' (first|apply Zi<;>intro _|exact Zo|with_reducible apply Za)<;>try push_cast[z])
 refine Zy ?_
 (have z:=oB;(try push_cast[z])<;>repeat' (first|apply Zi<;>intro _|refine Zs [(1,1),(2,2),(4,4)] hM ?_|exact Zo|with_reducible apply Za)<;>try push_cast[z])
 have z:=oB
 refine Dq1 ?_ ?_
 ·refine Zy ?_
  (have z:=oB;(try push_cast[z])<;>repeat' (first|apply Zi<;>intro _|refine Zs [(1,1),(2,2),(4,4)] hP ?_|exact Zo|with_reducible apply Za)<;>try push_cast[z])
  refine Dq2 [(2,114),(4,116)] (.val (.int .i64 c)) hD ?_
  push_cast[oB]
  apply Zr [(2,130),(4,132)] rfl<;>push_cast [oB]
 ·push_cast[oB]
  apply Zr [(2,66),(4,68)] rfl<;>push_cast [oB]
end
section
variable{b:GT}{q:OQ}
theorem q_Do(m:GM)(c:Int)(q':OQ)(hM:A0 prog 22 [.agg (Ap m)] (.val (.int .i64 0)))(hD:A2 prog 124 [.ref 1 0 0 3,.agg (Ap m)] (oqH b q) (.val (.int .i64 c)) (oqH b q')):A2 prog 73 [.ref 1 0 0 3,.agg (Ap m)] (oqH b q) (.val (.int .i64 c)) (oqH b q'):=by
 have oB:=A5 b
 simp only[oqH] at hD|-
 refine Zd [] func73 rfl ntmps73 results73 ?_
 (have z:=oB;(try push_cast[z])<;>repeat' (first|apply Zi<;>intro _|refine Zc hM ?_|refine Zs [(1,1),(2,2),(4,4)] hD ?_|exact Zo|with_reducible apply Za)<;>try push_cast[z])
 apply Zr [(2,98),(4,100)] rfl<;>push_cast [oB]
end
def undoN(n:Nat)(u:Br):D:=.func (.func 279) [] [.ptr [.val (.bool u.was)] 0,.ptr (CM u.old) 0,.ptr [.ref n 0 0 3] 0,.ptr [.val (.string u.k)] 0]
theorem Ko(r:Nat->Nat)(l:List Br):D9 r (l.map fun u=>[C7 u])=l.map fun u=>[undoN (r 1) u]:=by
 rw[DU,A13]
 refine A14 fun u _=>?_
 simp only[Function.comp,BX,C7,undoN,AT,BN r _ (CY _)]
theorem c_RunE(b:GT)(m:GM)(c:Int)(hc:c≠0)(q':OQ)(hD:A2 prog 73 [.ref 1 0 0 3,.agg (Ap m)] (oqH b ⟨none,[]⟩) (.val (.int .i64 c)) (oqH b q')):A0 prog 36 [AL b,.agg (Ap m)] (.tup [AL b,.val (.int .i64 c)]):=by
 have hB:=UG b
 have oB:=A5 b
 have b1:(c !=0)=true:=by simpa using hc
 simp only[oqH] at hD
 change A2 _ _ _ [(1,.rows [[A8 b,.val (.map none),.gref 4 0]] 3),(2,.junk),(4,.grow [] 1)] _ _ at hD
 refine Zf [] func36 rfl ntmps36 results36 ?_
 (have z:=Za oB<|Za b1 @Ko;(try push_cast[z])<;>repeat' (first|apply Zi<;>intro _|refine Zs [] hB ?_|refine Zs [(1,40),(2,42),(4,44)] hD ?_|exact Zo|with_reducible apply Za)<;>try push_cast[z])
theorem c_Run(b t':GT)(m:GM)(q':OQ)(hD:A2 prog 73 [.ref 1 0 0 3,.agg (Ap m)] (oqH b ⟨none,[]⟩) (.val (.int .i64 0)) (oqH b q'))(hC:A2 prog 74 [.ref 1 0 0 3] (oqH b q') (AL t') (oqH b q')):A0 prog 36 [AL b,.agg (Ap m)] (.tup [AL t',.val (.int .i64 0)]):=by
 have hB:=UG b
 have oB:=A5 b
 have oT:=A5 t'
 simp only[oqH] at hD hC
 change A2 _ _ _ [(1,.rows [[A8 b,.val (.map none),.gref 4 0]] 3),(2,.junk),(4,.grow [] 1)] _ _ at hD
 refine Zf [] func36 rfl ntmps36 results36 ?_
 (have z:=Za oB<|Za oT @Ko;(try push_cast[z])<;>repeat' (first|apply Zi<;>intro _|refine Zs [] hB ?_|refine Zs [(1,40),(2,42),(4,44)] hD ?_|refine Zs [(1,40),(2,74),(4,76)] hC ?_|exact Zo|with_reducible apply Za)<;>try push_cast[z])
def begS(k p:ByteArray):Bool:=Lib.hasPrefix k.data.toList p.data.toList
def restS(k p:ByteArray):ByteArray:=⟨(Lib.trimPrefix k.data.toList p.data.toList).toArray⟩
def Ux(k p t:ByteArray):ByteArray:=t++restS k p
noncomputable def YS(p t:ByteArray)(L:List GE):List GE->Int×List GE
 |[]=>(0,[])
 |e::g=>if FL (Ux e.1 p t)≠0 then(8,[]) else if Fk (Ux e.1 p t) L=true/\begS (Ux e.1 p t) p=false then(13,[]) else((YS p t L g).1,(Ux e.1 p t,e.2)::(YS p t L g).2)
noncomputable def Yl(F:GV->Int):List GE->List GE->Int×List GE
 |[],R=>(0,R)
 |e::g,R=>if G7 (F e.2) e.1=0 then Yl F g (Bt e R) else(G7 (F e.2) e.1,R)
def begL(p:ByteArray)(L:List GE):List GE:=L.filter fun e=>begS e.1 p
def notL(p:ByteArray)(L:List GE):List GE:=L.filter fun e=>!begS e.1 p
noncomputable def moveM(F:GV->Int)(p t:ByteArray)(L:List GE):Int×List GE:=
 if(YS p t L (begL p L)).1≠0 then((YS p t L (begL p L)).1,L) else Yl F (YS p t L (begL p L)).2 (notL p L)
mutual
noncomputable def EQ(F:GV->Int):GM->List GE->Int×List GE
 |.mk kd k t n h w i v l,L=>
  if kd=1 then(G7 (F v) k,if G7 (F v) k=0 then Bt (k,v) L else L)
  else if kd=2 then(if Fk k L=true then(0,Cf k L) else(12,L))
  else if kd=3 then(PR L k n (F (Gw L k n)),if PR L k n (F (Gw L k n))=0 then Bt (k,Gw L k n) L else L)
  else if kd=4 then(casC (.mk kd k t n h w i v l) L (F v),casL (.mk kd k t n h w i v l) L (F v))
  else if kd=5 then(addC L k (F (Xv L k v)),if addC L k (F (Xv L k v))=0 then Bt (k,Xv L k v) L else L)
  else if kd=6 then moveM F k t L
  else if kd=7 then(if k.size≠0/\UE (.mk kd k t n h w i v l) L=false then(13,L) else SZ F l L)
  else(9,L)
noncomputable def SZ(F:GV->Int):List GM->List GE->Int×List GE
 |[],L=>(0,L)
 |m::l,L=>if (EQ F m L).1=0 then SZ F l (EQ F m L).2 else((EQ F m L).1,L)
end
attribute [push_cast] GJ
def preH(a c:Code)(b:GT)(q:OQ)(A:List ByteArray):Hp:=(7,.loop [(5,.ref 3 0 0 1),(2,.ptr [.ref 1 0 0 3] 0)] 60 .ready none [19,20] a c)::(3,.rows [[.gref 6 A.length]] 1)::(6,.grow (A.map fun k=>[.val (.string k)]) 1)::oqH b q
section
variable{a c:Code}{b:GT}{q:OQ}{f:GE->List ByteArray}(hY:∀ (e:GE) (A:List ByteArray),(A++f e).length<=1048576->Dx prog 7 [.val (.string e.1),.agg (A4 e.2)] (preH a c b q A) (.val (.bool true)) (preH a c b q (A++f e)))
include hY
omit hY in
end
section
variable{a c:Code}{b:GT}{q:OQ}{f:GE->List ByteArray}(hf:∀ e,(f e).length<=1)(hY:∀ (e:GE) (A:List ByteArray),(A++f e).length<=1048576->Dx prog 7 [.val (.string e.1),.agg (A4 e.2)] (preH a c b q A) (.val (.bool true)) (preH a c b q (A++f e)))
include hf hY
end
end Go.Ab
namespace Go.Ab
open Go.RowKit
open Go.ChangeMaps (setBlock)
section
variable{w0:World}{M0:Nat->Prop}{I0:Gh}{fr I:Nat->Prop}{mu:Nat->Option Value}{hp:Nat->Option Blk}{w:World}
end
end Go.Ab
namespace Go.Ab
open Go.Proofs Go.Proofs.Tryz
def endL:List UInt8->Option (List UInt8)
 |[]=>none
 |x::l=>match endL l with
  |some r=>some (x::r)
  |none=>if x=255 then none else some [x+1]
def endS(p:ByteArray):ByteArray×Bool:=match endL p.data.toList with|none=>(ByteArray.empty,false)|some l=>(⟨l.toArray⟩,true)
structure VOk(L:List GE):Prop where
 srt:Srt L
 key:∀ e ∈ L,FL e.1=0
 fit:∀ e ∈ L,Bi e.2=0
 sm:∀ e ∈ L,Sm e.2
theorem VOk.nil:VOk []:=⟨List.Pairwise.nil,by simp,by simp,by simp⟩
theorem VOk.put{L:List GE}(h:VOk L){k:ByteArray}{v:GV}(hk:FL k=0)(hf:Bi v=0)(hs:Sm v):VOk (Bt (k,v) L):=
 ⟨DX h.srt,fun e he=>(Ff he).elim (fun e'=>by rw[e'];exact hk) (h.key e),fun e he=>(Ff he).elim (fun e'=>by rw[e'];exact hf) (h.fit e),fun e he=>(Ff he).elim (fun e'=>by rw[e'];exact hs) (h.sm e)⟩
theorem GO{f:Int}{k:ByteArray}(h:G7 f k=0):FL k=0/\f=0:=by
 unfold G7 at h
 split at h
 ·exact⟨by assumption,h⟩
 ·cases h
noncomputable def Lm(m:GM)(L:List GE):List GE:=if (EQ Bi m L).1=0 then(EQ Bi m L).2 else L
theorem UY(L:List GE)(k:ByteArray)(d:Int):Sm (Gw L k d):=.mk _ _ _ _ [] [] (by simp) (by simp) (by simp) (by simp) (MT _) (by decide) (by simp)
theorem incV_wt(L:List GE)(k:ByteArray)(d:Int):wtV (Gw L k d)=0:=by simp[Gw,wtV,Vq,Vr]
theorem SmU.parts{m:GM}(h:SmU m):Sm m.was/\Sm m.value/\m.list.length<=1048576/\∀ x ∈ m.list,SmU x:=by
 cases h;exact⟨by assumption,by assumption,by assumption,by assumption⟩
section
variable{b:GT}{q:OQ}{l:List GE}(h:Fq b q l)(hl:l.length+q.es.length<=1048576)(hls:∀ e ∈ l,e.1.size<=64)(p t:ByteArray)(hp:p.size<=1048576)(ht:t.size<=1048576)(hvs:∀ e ∈ q.view l,e.1.size<=64/\Sm e.2)(hE:A0 prog 316 [.val (.string p)] (.tup [.val (.string (endS p).1),.val (.bool (endS p).2)]))
include h hl hls hp ht hvs hE
variable(hvl:(q.view l).length<=1048576)
include hvl
end
section
variable{b:GT}{q:OQ}
end
theorem rw1_len(p:List CE×Nat)(u:Br):p.1.length<=(rw1 p u).1.length+1:=by
 unfold rw1
 split
 ·unfold HT
  split<;>simp
  omega
 ·unfold U8
  split
  ·simp only[List.length_eraseIdx]
   split<;>omega
  ·exact Nat.le_succ _
theorem UF:∀ (n:Nat) (us:List Br),us.length=n->∀ p:List CE×Nat,p.1.length<=(rwd p us).1.length+us.length
 |0,us,h,p=>by
  have:us=[]:=A0U.1 h
  subst this
  simp[rwd]
 |n+1,us,h,p=>by
  have hne:us≠[]:=by intro e;subst e;simp at h
  obtain⟨a,u,rfl⟩:∃ a u,us=a++[u]:=⟨us.dropLast,us.getLast hne,(List.dropLast_concat_getLast hne).symm⟩
  rw[XZ]
  have h1:=UF n a (by simpa using h) (rw1 p u)
  have h2:=rw1_len p u
  simp only[A04,A0g,A0v]
  omega
theorem es_le{q:OQ}(h:Ek q.es q.ck)(e:MS ⟨none,[]⟩ q):q.es.length<=q.us.length:=by
 obtain⟨ext,e1,e2,e3⟩:=e.ex
 have hu:q.us=ext:=by rw[e1];rfl
 have h1:=UF _ ext rfl (q.es,q.ck)
 have h2:=Y0 e2 (p:=(q.es,q.ck)) h
 have h3:(rwd (q.es,q.ck) ext).1=[]:=by
  cases hr:(rwd (q.es,q.ck) ext).1 with
  |nil=>rfl
  |cons x l=>
   obtain⟨k,n,s⟩:=x
   have h4:=Nu h2.keys (k:=k) (n:=n) (s:=s) (by rw[hr];simp)
   rw[e3 k] at h4
   cases h4
 rw[h3] at h1
 rw[hu]
 simpa using h1
structure DoOk(b:GT)(l:List GE)(q:OQ)(n:Nat):Prop where
 ok:Fq b q l
 v:VOk (q.view l)
 ext:MS ⟨none,[]⟩ q
 len:(q.view l).length+n<=4096
 us:q.us.length+8193*n<=524352
theorem Led.of_back{b:GT}{l:List GE}{q q':OQ}{n m:Nat}{L:List GE}(h:Fq b q l)(hL:Led b l q q' n L):Led b l q (q'.back q.us.length) m (q.view l):=by
 obtain⟨a1,a2,a3,a4⟩:=OQ.back_ok h hL.ok hL.ext
 refine⟨a1,a2,a3,?_⟩
 have:(q'.back q.us.length).us.length<=q.us.length:=by
  show(q'.us.take q.us.length).length<=_
  rw[A0C];omega
 omega
theorem Led.le{b:GT}{l:List GE}{q q':OQ}{n:Nat}{L:List GE}(h:Fq b q l)(hL:Led b l q q' n L):q.us.length<=q'.us.length:=(OQ.back_ok h hL.ok hL.ext).2.2.2
section
variable(hF:∀ v,Sm v->wtV v<=2097152->A0 prog 85 [.agg (A4 v)] (.val (.int .i64 (Bi v))))
include hF
end
noncomputable def R0(m:GM)(L:List GE):Int×List GE:=if Wn Bi m≠0 then(Wn Bi m,L) else((EQ Bi m L).1,Lm m L)
theorem Rx{L:List GE}{k:ByteArray}{v:GV}(h:AA k L=some v):(k,v) ∈ L:=by
 unfold AA at h
 cases hf:L.find? fun x=>decide (x.1=k) with
 |none=>rw [hf] at h;cases h
 |some e=>
  rw[hf] at h
  simp only[A1c,A03] at h
  have h1:=List.mem_of_find?_eq_some hf
  have h2:=List.find?_some hf
  simp only[decide_eq_true_eq] at h2
  obtain⟨a,b⟩:=e
  subst h h2
  exact h1
theorem VM{q:OQ}{l:List GE}(hl:VOk l)(hv:VOk (q.view l))(hk:(q.es.map (·.1)).Nodup):Qr q.es l:=fun k v w h1 h2 h3=>by
 have h4:AA k (q.view l)=some v:=by
  show AA k (FV q.es l)=_
  rw[CF k q.es l hk,h1];rfl
 have f1:=(RT (hl.fit _ (Rx h2))).1
 have f2:=(RT (hv.fit _ (Rx h4))).1
 exact same_eq f1 f2 h3
section
variable(hF:∀ v,Sm v->wtV v<=2097152->A0 prog 85 [.agg (A4 v)] (.val (.int .i64 (Bi v))))
include hF
end
end Go.Ab
namespace Go.Ab
open Go.RowKit
def Tells{σ:Type}(n:Nat)(P:Program)(g:Nat)(lb:Array Value)(enc:σ->Array Value)(next:σ->σ)(live:σ->Prop)(s0 z:σ)(Kw:σ->World->Prop):Prop:=
 ∀(l:Nat) (J:σ->World->Prop),(∀ s W,J s W->Kw s W)->(∀ s W W',J s W->Below W.heap.size W W'->J s W')->
  (∀ s W,J s W->live s->YieldAt Fence.wide (n-1) P l (enc s) W fun e W'=>e=.returned (.bool true)/\J (next s) W')->
  ∀ W,J s0 W->CallsIn Fence.wide n P g (#[.func (.yield l) #[] #[]]++lb) W fun e W'=>(∃ v,e=.returned v)/\J z W'
variable{n:Nat}{P:Program}
theorem XF{σ:Type}{g:Operand}{ps:Array Tmp}{assign body:Code}{Q:Exit->Act->World->Prop}{a:Act}{w:World}
  {gf:Nat} {lb:Array Value} (hg:a.eval g=.func (.func gf) #[] lb) (eg:∀ args w,(callFunc gf args).run P w=.ok (.enter gf args) w)
  {enc:σ->Array Value} {next:σ->σ} {live:σ->Prop} {s0 z:σ} {Kw:σ->World->Prop} (hseq:Tells (n-1) P gf lb enc next live s0 z Kw) (hps:∀ s,(enc s).size=ps.size)
  (I:σ->World->Prop) (hK:∀ s W,I s W->Kw s W) (hIb:∀ s W W',I s W->Below W.heap.size W W'->I s W') (hIp:∀ s W l r o,w.heap.size<=l->W.heap[l]? =some (.loop r)->I s W->I s (W.putObj l o)) (h0:I s0 w) (a₁:σ->Act)
  (hassign:∀ (l:Nat) (s:σ) (W:World) (K:Act->World->Prop),K (a₁ s) W->
   assign.wpIn (Fence.wide.inRound l) (n-1-1) P (Exit.then K (fun _ _ _=>False)) {tmps:=(ps.zip (enc s)).foldl (fun t (p,v)=>t.setIfInBounds p v) a.tmps,defers:=[]} W)
  (hbody:∀ (l:Nat) (s:σ) (W:World),I s W->live s->body.wpIn (Fence.wide.inRound l) (n-1-1) P (fun e _ W'=>e=.normal/\KeepsOthers W W'/\I (next s) W') (a₁ s) W)
  (hdone:∀ (D:Nat) (W:World),w.heap.size<=D->I z W->W.heap[D]? =some (.deferred (some []))->Q .normal {a with defers:= {target:=.collected D,args:=#[]}::a.defers} W):
  (Code.rangeFunc g ps assign body).wpIn Fence.wide n P Q a w:=by
 refine wpIn_rangeFunc ?_
 intro fn hfn
 obtain⟨rec,hrec⟩:∃ rec:LoopState->Option Code->Loop,rec=fun st pe=> {state:=st,pending:=pe,fn,tmps:=a.tmps,params:=ps,assign,body,defers:=w.heap.size}:=⟨_,rfl⟩
 obtain⟨W1,hW1⟩:∃ W1,(w.alloc (.deferred (some []))).alloc (.loop (rec .ready none))=W1:=⟨_,rfl⟩
 have hL1:W1.heap[w.heap.size+1]? =some (.loop (rec .ready none)):=by
  rw[<-hW1];have:=World.alloc_heap_new (w.alloc (.deferred (some []))) (.loop (rec .ready none));rwa[World.size_alloc] at this
 have hK1:W1.heap[w.heap.size]? =some (.deferred (some [])):=by
  rw[<-hW1];exact(Below.heap_alloc _ _ _ (by simp)).trans (World.alloc_heap_new w _)
 have hI1:I s0 W1:=by rw[<-hW1];exact hIb _ _ _ (hIb _ _ _ h0 ((Below.refl _ w).alloc (A08 _) _)) ((Below.refl _ _).alloc (A08 _) _)
 refine⟨w.heap.size+1,[{target:=.collected w.heap.size,args:=#[]}],W1,{target:=.fn (.func gf) lb,args:=#[.func (.yield (w.heap.size+1)) #[] #[]]},W1,gf,
  #[.func (.yield (w.heap.size+1)) #[] #[]]++lb,W1,?_,?_,?_,?_,fun h=>(by cases h),?_⟩
 ·rw[<-hW1,hrec];exact run_enterLoop_outer _ _ _ _ _
 ·simp only[resolve,hg]
  simp[go_sem]
 ·intro f' _;trivial
 ·simp[invoke,go_sem,eg]
 ·refine(hseq (w.heap.size+1) (fun s W=>I s W/\W.heap[w.heap.size+1]? =some (.loop (rec .ready none))/\W.heap[w.heap.size]? =some (.deferred (some [])))
   (fun s W h=>hK s W h.1) (fun s W W' h hb=>⟨hIb _ _ _ h.1 hb,(hb.block _ (A0l.1 h.2.1).1).trans h.2.1,(hb.block _ (A0l.1 h.2.2).1).trans h.2.2⟩) ?_ W1 ⟨hI1,hL1,hK1⟩).mono ?_
  ·rintro s W ⟨hi,hl,hk⟩ hlive
   have hy:=run_yield (P:=P) (args:=enc s) hl (by rw[hrec];exact hps s)
   rw[hrec] at hy
   refine⟨fn,_,assign,body,hy,roundIn_of_wpIn hfn (hassign _ s W _ ⟨_,run_beginRound hl (by rw[hrec]),?_⟩)⟩
   have hlt:w.heap.size+1<W.heap.size:=(A0l.1 hl).1
   have hl2:(W.putObj (w.heap.size+1) (.loop {rec .ready none with state:=.busy})).heap[w.heap.size+1]? =some (.loop {rec .ready none with state:=.busy}):=World.putObj_heap_same hlt
   have hk2:(W.putObj (w.heap.size+1) (.loop {rec .ready none with state:=.busy})).heap[w.heap.size]? =some (.deferred (some [])):=(World.putObj_heap_other (by omega)).trans hk
   refine wpIn_mono (hbody _ s _ (hIp _ _ _ _ _ (by omega) hl hi) hlive) ?_
   rintro e a3 W3 ⟨rfl,hk3,hi3⟩
   have hl3:=hk3.same _ _ hl2 rfl
   have hr:=run_endRound (P:=P) none hl3
   have hlt3:=(A0l.1 hl3).1
   refine⟨_,_,hr,rfl,hIp _ _ _ _ _ (by omega) hl3 hi3,?_,(World.putObj_heap_other (by omega)).trans (hk3.same _ _ hk2 rfl)⟩
   rw[World.putObj_heap_same hlt3,hrec]
   rfl
  ·rintro e W2 ⟨⟨v,rfl⟩,hi,hl,hk⟩
   refine⟨none,_,by have:=run_endLoop (P:=P) hl (by rw[hrec];simp);rw[hrec] at this;exact this,hdone _ _ (A08 _) (hIp _ _ _ _ _ (by omega) hl hi) ((World.putObj_heap_other (by omega)).trans hk)⟩
end Go.Ab
namespace Go.Proofs
open Go.Proofs Go.Proofs.Tryz Go.RowKit Go.Shelf
def Tryz.bRen:Go.Shelf.Ren:=⟨fun|166=>109|167=>174|168=>177|169=>28|240=>169|242=>223|276=>216|278=>271|n=>n,fun|0=>0|3=>3|4=>4|5=>5|9=>9|20=>20|21=>21|37=>36|46=>203|51=>151|70=>88|72=>90|75=>211|80=>96|164=>195|n=>n,fun n=>n⟩
theorem Tryz.sWs:Lays.n166 prog Tryz.bRen:= {
 mixed:=by kernel_rfl
 f166:=func109.trans (congrArg some (by kernel_rfl))
 f240:=func169.trans (congrArg some (by kernel_rfl))
 f276:=func216.trans (congrArg some (by kernel_rfl))
 t0:=underlying0
 a0:=isAgg0
 z0:=sizeOf0
 v0:=zeroValue0
 t3:=underlying3
 a3:=isAgg3
 z3:=sizeOf3
 v3:=zeroValue3
 t4:=underlying4
 a4:=isAgg4
 z4:=sizeOf4
 v4:=zeroValue4
 t9:=underlying9
 a9:=isAgg9
 z9:=sizeOf9
 v9:=zeroValue9
 t20:=underlying20
 a20:=isAgg20
 z20:=sizeOf20
 v20:=zeroValue20
 t37:=underlying36
 a37:=isAgg36
 z37:=sizeOf36
 v37:=zeroValue36
 t70:=underlying88
 a70:=isAgg88
 z70:=sizeOf88
 v70:=zeroValue88
 t72:=underlying90
 a72:=isAgg90
 z72:=sizeOf90
 v72:=zeroValue90
 t75:=underlying211
 a75:=isAgg211
 z75:=sizeOf211
 v75:=zeroValue211
 t164:=underlying195
 a164:=isAgg195
 z164:=sizeOf195
 v164:=zeroValue195}
theorem Tryz.sWb:Lays.n167 prog Tryz.bRen:= {
 mixed:=by kernel_rfl
 f167:=func174.trans (congrArg some (by kernel_rfl))
 f240:=func169.trans (congrArg some (by kernel_rfl))
 f276:=func216.trans (congrArg some (by kernel_rfl))
 t0:=underlying0
 a0:=isAgg0
 z0:=sizeOf0
 v0:=zeroValue0
 t4:=underlying4
 a4:=isAgg4
 z4:=sizeOf4
 v4:=zeroValue4
 t5:=underlying5
 a5:=isAgg5
 z5:=sizeOf5
 v5:=zeroValue5
 t9:=underlying9
 a9:=isAgg9
 z9:=sizeOf9
 v9:=zeroValue9
 t20:=underlying20
 a20:=isAgg20
 z20:=sizeOf20
 v20:=zeroValue20
 t37:=underlying36
 a37:=isAgg36
 z37:=sizeOf36
 v37:=zeroValue36
 t70:=underlying88
 a70:=isAgg88
 z70:=sizeOf88
 v70:=zeroValue88
 t72:=underlying90
 a72:=isAgg90
 z72:=sizeOf90
 v72:=zeroValue90
 t75:=underlying211
 a75:=isAgg211
 z75:=sizeOf211
 v75:=zeroValue211
 t164:=underlying195
 a164:=isAgg195
 z164:=sizeOf195
 v164:=zeroValue195}
theorem Tryz.sWr:Lays.n168 prog Tryz.bRen:= {
 mixed:=by kernel_rfl
 f168:=func177.trans (congrArg some (by kernel_rfl))
 f240:=func169.trans (congrArg some (by kernel_rfl))
 f242:=func223.trans (congrArg some (by kernel_rfl))
 f276:=func216.trans (congrArg some (by kernel_rfl))
 f278:=func271.trans (congrArg some (by kernel_rfl))
 t0:=underlying0
 a0:=isAgg0
 z0:=sizeOf0
 v0:=zeroValue0
 t3:=underlying3
 a3:=isAgg3
 z3:=sizeOf3
 v3:=zeroValue3
 t4:=underlying4
 a4:=isAgg4
 z4:=sizeOf4
 v4:=zeroValue4
 t5:=underlying5
 a5:=isAgg5
 z5:=sizeOf5
 v5:=zeroValue5
 t9:=underlying9
 a9:=isAgg9
 z9:=sizeOf9
 v9:=zeroValue9
 t20:=underlying20
 a20:=isAgg20
 z20:=sizeOf20
 v20:=zeroValue20
 t21:=underlying21
 a21:=isAgg21
 z21:=sizeOf21
 v21:=zeroValue21
 t37:=underlying36
 a37:=isAgg36
 z37:=sizeOf36
 v37:=zeroValue36
 t46:=underlying203
 a46:=isAgg203
 z46:=sizeOf203
 v46:=zeroValue203
 t51:=underlying151
 a51:=isAgg151
 z51:=sizeOf151
 v51:=zeroValue151
 t70:=underlying88
 a70:=isAgg88
 z70:=sizeOf88
 v70:=zeroValue88
 t72:=underlying90
 a72:=isAgg90
 z72:=sizeOf90
 v72:=zeroValue90
 t75:=underlying211
 a75:=isAgg211
 z75:=sizeOf211
 v75:=zeroValue211
 t164:=underlying195
 a164:=isAgg195
 z164:=sizeOf195
 v164:=zeroValue195}
def Tryz.sSt_ren:Go.Shelf.Ren:=⟨fun|169=>28|n=>n,fun|70=>88|9=>9|0=>0|72=>90|37=>36|127=>149|3=>3|5=>5|n=>n,fun|n=>n⟩
theorem Tryz.sSt:Go.Proofs.Lays.n169 prog Tryz.sSt_ren:= {
 mixed:=by kernel_rfl
 f169:=func28.trans (congrArg some (by kernel_rfl))
 t0:=underlying0
 a0:=isAgg0
 z0:=sizeOf0
 v0:=zeroValue0
 t3:=underlying3
 a3:=isAgg3
 z3:=sizeOf3
 v3:=zeroValue3
 t9:=underlying9
 a9:=isAgg9
 z9:=sizeOf9
 v9:=zeroValue9
 t37:=underlying36
 a37:=isAgg36
 z37:=sizeOf36
 v37:=zeroValue36
 t70:=underlying88
 a70:=isAgg88
 z70:=sizeOf88
 v70:=zeroValue88
 t72:=underlying90
 a72:=isAgg90
 z72:=sizeOf90
 v72:=zeroValue90
 t127:=underlying149
 a127:=isAgg149
 z127:=sizeOf149
 v127:=zeroValue149}
theorem Tryz.xB:Builder.Extra prog Tryz.bRen:= {
 sizeBuilder:=by kernel_rfl
 liesBuilder:=by kernel_rfl
 t5:=underlying5
 a5:=isAgg5
 z5:=sizeOf5
 v5:=zeroValue5
 infoByte:=by kernel_rfl
 cellsByte:=by kernel_rfl
 sizeByte:=by kernel_rfl
 neB5:=by decide}
theorem Tryz.xSt:Builder.Extra prog Tryz.sSt_ren:= {
 sizeBuilder:=by kernel_rfl
 liesBuilder:=by kernel_rfl
 t5:=underlying5
 a5:=isAgg5
 z5:=sizeOf5
 v5:=zeroValue5
 infoByte:=by kernel_rfl
 cellsByte:=by kernel_rfl
 sizeByte:=by kernel_rfl
 neB5:=by decide}
abbrev Tryz.bld(B b:Nat)(l:List UInt8)(w:World):Prop:=Lib.IsBuilderF 90 5 B b (Lib.byteCells l) w
theorem Tryz.bWs(B b:Nat)(l:List UInt8)(s:ByteArray)(w:World)(h:Tryz.bld B b l w)(hlen:l.length+s.size<=140737488355328)(hBw:B<=w.heap.size):
  Calls prog 109 #[.pointer (some ⟨b,0,none⟩),.string s] w fun e w'=>e=.returned (.tuple #[.int .i64 s.size,.nilIface])/\Tryz.bld B b (l++s.data.toList) w'/\Below B w w'/\Lib.OthersKept 5 (some b) w w':=by
 refine(Any.Builder_WriteString_k Tryz.sWs Tryz.xB B b _ s w h (by rw[Lib.byteCells_length];exact hlen) hBw).mono fun e w' h=>⟨h.1,?_,h.2.2⟩
 have h2:=h.2.1
 rw[show Lib.byteCells l++Lib.strCells s=Lib.byteCells (l++s.data.toList) from by rw[Lib.byteCells_append];rfl] at h2
 exact .inr h2
theorem Tryz.bWb(B b:Nat)(l:List UInt8)(c:UInt8)(w:World)(h:Tryz.bld B b l w)(hlen:l.length+1<=140737488355328)(hBw:B<=w.heap.size):
  Calls prog 174 #[.pointer (some ⟨b,0,none⟩),.int .u8 c.toNat] w fun e w'=>e=.returned .nilIface/\Tryz.bld B b (l++[c]) w'/\Below B w w'/\Lib.OthersKept 5 (some b) w w':=by
 refine(Any.Builder_WriteByte_k Tryz.sWb Tryz.xB B b _ c.toNat w h (by rw[Lib.byteCells_length];exact hlen) hBw).mono fun e w' h=>⟨h.1,?_,h.2.2⟩
 have h2:=h.2.1
 rw[show Lib.byteCells l++[Value.int .u8 c.toNat]=Lib.byteCells (l++[c]) from by rw[Lib.byteCells_append];rfl] at h2
 exact .inr h2
theorem Tryz.bWr(B b:Nat)(l:List UInt8)(r:Nat)(hr:r<=1114111)(w:World)(h:Tryz.bld B b l w)(hlen:l.length+4<=140737488355328)(hBw:B<=w.heap.size):
  Calls prog 177 #[.pointer (some ⟨b,0,none⟩),.int .i32 r] w fun e w'=>e=.returned (.tuple #[.int .i64 (Lib.runeCells r).length,.nilIface])/\Tryz.bld B b (l++Lib.encodeRune r) w'/\Below B w w'/\Lib.OthersKept 5 (some b) w w':=by
 refine(Any.Builder_WriteRune_k Tryz.sWr Tryz.xB B b _ r (by omega) (by omega) w h (by rw[Lib.byteCells_length];exact hlen) hBw).mono fun e w' h=>⟨h.1,?_,h.2.2⟩
 have h2:=h.2.1
 rw[<-Lib.byteCells_encodeRune,<-Lib.byteCells_append] at h2
 exact .inr h2
theorem Tryz.bSt(B b:Nat)(l:List UInt8)(w:World)(h:Tryz.bld B b l w)(hBw:B<=w.heap.size):
  Calls prog 28 #[.pointer (some ⟨b,0,none⟩)] w fun e w'=>e=.returned (.string ⟨l.toArray⟩)/\Below B w w'/\Lib.OthersKept 5 (some b) w w':=
 (Any.Builder_String_any_k Tryz.sSt Tryz.xSt B b l w h hBw).mono fun e w' h=>⟨h.1,h.2.2⟩
section
variable{n b0 b1 b2 b3:Nat}(hn:n≠0)
include hn
end
end Go.Proofs
namespace Go.Ab
open Go.Proofs Go.Proofs.Tryz
theorem KT{s:ByteArray}{i:Nat}(h:i<s.size):s.data.toList.drop i≠[]:=by
 have hl:s.data.toList.length=s.size:=rfl
 intro e
 have:=congrArg List.length e
 rw[A0s,A0v] at this
 omega
end Go.Ab
namespace Go.Proofs
open Go.Ab Go.Proofs Go.Proofs.Tryz Go.RowKit Go.Shelf
attribute [local go_sem] Oper.semAt_some
def rnA(s:ByteArray)(p:Nat):Nat×Nat:=Lib.decodeL (s.data.toList.drop p)
def Lk(s:ByteArray)(p:Nat):Array Value:=#[.int .i64 p,.int .i32 (rnA s p).1]
def rnK(s:ByteArray)(bx:Nat)(w0:World)(p:Nat)(W:World):Prop:=Below w0.heap.size w0 W/\W.cell? ⟨bx,0,none⟩=some (.string s)/\p<=s.size/\Lib.validD (s.data.toList.drop p)=true
theorem Rb(s:ByteArray)(p:Nat)(h:p<s.size):Lib.decodeGo (s.extract p s.size)=rnA s p:=by
 have hl:s.data.toList.length=s.size:=rfl
 have e:s.extract p s.size=⟨(s.data.toList.drop p).toArray⟩:=by
  apply ByteArray.ext
  rw[ByteArray.data_extract]
  apply Array.ext'
  rw[Array.toList_extract]
  show((s.data.toList.drop p).take (s.size-p))=_
  rw[A05 (by rw[A0s];omega)]
 rw[e]
 unfold Lib.decodeGo
 rw[if_neg ?_]
 ·rfl
 ·show ¬(s.data.toList.drop p).toArray.size=0
  rw[A0y,A0s];omega
theorem Yc{s:ByteArray}{p:Nat}(h:p<s.size)(hv:Lib.validD (s.data.toList.drop p)=true):¬((rnA s p).1=65533/\(rnA s p).2=1)/\Lib.validD (s.data.toList.drop (p+(rnA s p).2))=true/\p+(rnA s p).2<=s.size/\1<=(rnA s p).2/\(rnA s p).1<=1114111:=by
 have hl:s.data.toList.length=s.size:=rfl
 rw[Lib.validD_step _ (KT h)] at hv
 have h2:=Lib.decodeL_le _ (KT h)
 have h3:=Lib.decodeL_width (s.data.toList.drop p)
 have h4:=Lib.decodeL_rune (s.data.toList.drop p)
 rw[A0s] at h2
 unfold rnA
 split at hv
 ·cases hv
 ·rename_i hc
  rw[List.drop_drop] at hv
  exact⟨hc,hv,by omega,by omega,h4⟩
set_option maxRecDepth 100000 in
set_option maxHeartbeats 1000000 in
theorem c_runes1(n:Nat)(s:ByteArray)(hs:s.size<=1048576)(bx:Nat)(w0:World)(hT:∀ W,Below w0.heap.size w0 W->Lib.Utf8Tabs (Tryz.sDecode_ren.g 3) (Tryz.sDecode_ren.g 4) W):
  Tells n prog 221 #[.pointer (some ⟨bx,0,none⟩)] (Lk s) (fun p=>p+(rnA s p).2) (fun p=>p<s.size) 0 s.size (rnK s bx w0):=by
 intro l J hK hJb hY W h0
 refine callsIn_of_wp func221 rfl trivial ?_
 simp only[ntmps221,A0y,A0g,A0v,Nat.reduceAdd,Nat.reduceSub,A1q,A1r,A1C,A1b,A0h,A0d]
 gi_wp2
 gi_loopw [3] (fun p wr=>∃ q:Nat,p=.int .i64 q/\J q wr) (fun p wr=>s.size-(intOf p).toNat)
 case atStart=>exact ⟨0,rfl,h0⟩
 case round=>
  obtain⟨q,rfl,hJ⟩:=hrel
  obtain⟨k1,k2,k3,k4⟩:=hK _ _ hJ
  by_cases hq:q<s.size
  ·obtain⟨v1,v2,v3,v4,v5⟩:=Yc hq k4
   have hsl:=Rb s q hq
   have hD:=Any.utf8_DecodeRuneInString Tryz.sDecode (s.extract q s.size) wr (hT wr k1)
   rw[hsl] at hD
   have hY2:=fun W h=>hY q W h hq
   unfold Lk at hY2
   generalize rnA s q=x at*
   obtain⟨r,wd⟩:=x
   simp only at*
   have hv:¬((r:Int)=65533/\(wd:Int)=1):=by omega
   gi_wp2
   refine⟨trivial,fun h=>(by cases h),(callsIn_wide.2 hD).mono ?_⟩
   rintro e w2 ⟨rfl,hb⟩
   obtain⟨fn,tmps,assign,body,hy,hR⟩:=hY2 w2 (hJb q wr w2 hJ hb)
   rcases Decidable.em (r=65533) with rfl|hr
   ·have hw:¬((wd:Int)=1):=by omega
    have hw2:((wd:Int)==1)=false:=by simpa using hw
    change(Instr.yield l #[Value.int .i64 q,Value.int .i32 65533]).run _ _=_ at hy
    gi_wp2
    refine⟨fun h=>(by cases h),hR.mono ?_⟩
    rintro e w3 ⟨rfl,hJ3⟩
    gi_wp2
    go_roundw
    case rel=>exact ⟨q+wd,by simp,hJ3⟩
    case measure=>simp only[intOf];omega
   ·have hr2:¬((r:Int)=65533):=by omega
    gi_wp2
    refine⟨fun h=>(by cases h),hR.mono ?_⟩
    rintro e w3 ⟨rfl,hJ3⟩
    gi_wp2
    go_roundw
    case rel=>exact ⟨q+wd,by simp,hJ3⟩
    case measure=>simp only[intOf];omega
  ·obtain rfl:q=s.size:=by omega
   gi_wp2
   go_end0
   exact⟨⟨_,rfl⟩,hJ⟩
attribute [local go_sem] Oper.semAt_some
set_option maxHeartbeats 1000000 in
theorem Vc(n:Nat)(s:ByteArray)(w:World):
  CallsIn Fence.wide n prog 175 #[.string s] w fun e w'=>e=.returned (.func (.func 221) #[] #[.pointer (some ⟨w.heap.size,0,none⟩)])/\w'=w.alloc (.cells #[.string s] 9):=by
 refine callsIn_of_wp func175 rfl trivial ?_
 simp only[ntmps175,A0y,A0g,A0v,Nat.reduceAdd,Nat.reduceSub,A1q,A1r,A1C,A1b,A0h,A0d]
 gi_wp2
 go_ret
 exact⟨rfl,rfl⟩
set_option maxHeartbeats 1000000 in
theorem Mu(n:Nat)(r:Nat)(w:World):
  CallsIn Fence.wide n prog 176 #[.int .i32 r] w fun e w'=>e=.returned (.bool (decide (32<=r/\r≠34/\r≠92)))/\w'=w:=by
 refine callsIn_of_wp func176 rfl trivial ?_
 simp only[ntmps176,A0y,A0g,A0v,Nat.reduceAdd,Nat.reduceSub,A1q,A1r,A1C,A1b,A0h,A0d]
 gi_wp2
 ·rename_i h1 h2
  obtain rfl:r=34:=by omega
  go_ret
  exact⟨rfl,rfl⟩
 ·rename_i h1 h2
  go_ret
  refine⟨?_,rfl⟩
  refine congrArg Ending.returned (?_:Value.bool ((r:Int) !=34&&(r:Int) !=92)=Value.bool (decide (32<=r/\r≠34/\r≠92)))
  congr 1
  rw[Bool.eq_iff_iff]
  simp
  omega
 ·rename_i h1
  go_ret
  refine⟨?_,rfl⟩
  have:decide (32<=r)=false:=decide_eq_false (by omega)
  rw[this]
  rfl
def letD:DataW Unit:=(((((((DataW.map []).put (.int .i32 34) (.lit (.int .i32 34))).put (.int .i32 92) (.lit (.int .i32 92))).put (.int .i32 8) (.lit (.int .i32 98))).put (.int .i32 9) (.lit (.int .i32 116))).put (.int .i32 10) (.lit (.int .i32 110))).put (.int .i32 12) (.lit (.int .i32 102))).put (.int .i32 13) (.lit (.int .i32 114))
abbrev LQ(b:Nat)(w:World):Prop:=w.ownsMap prog 21 (plainElem (H:=Unit) prog 21) b 7 letD
def HQ(r:Nat):Option UInt8:=if r=8 then some 98 else if r=9 then some 116 else if r=10 then some 110 else if r=12 then some 102 else if r=13 then some 114 else if r=34 then some 34 else if r=92 then some 92 else none
theorem UT:letD=.map [(.int .i32 8,.lit (.int .i32 98)),(.int .i32 9,.lit (.int .i32 116)),(.int .i32 10,.lit (.int .i32 110)),(.int .i32 12,.lit (.int .i32 102)),(.int .i32 13,.lit (.int .i32 114)),(.int .i32 34,.lit (.int .i32 34)),(.int .i32 92,.lit (.int .i32 92))]:=by
 rfl
theorem ZA(r:Nat):Maps.has letD (.int .i32 r)=(HQ r).isSome:=by
 rw[UT,Maps.has_eq]
 have h:∀ a:Nat,(Lit.sameKey (.int .i32 a) (.int .i32 r))=decide (r=a):=fun a=>by
  simp only[Lit.sameKey,true_and]
  exact decide_eq_decide.2 (by omega)
 have e:((([(Lit.int .i32 8,DataW.lit (H:=Unit) (.int .i32 98)),(.int .i32 9,.lit (.int .i32 116)),(.int .i32 10,.lit (.int .i32 110)),(.int .i32 12,.lit (.int .i32 102)),(.int .i32 13,.lit (.int .i32 114)),(.int .i32 34,.lit (.int .i32 34)),(.int .i32 92,.lit (.int .i32 92))]).any fun p=>p.1.sameKey (.int .i32 r)))=(decide (r=8) ||(decide (r=9) ||(decide (r=10) ||(decide (r=12) ||(decide (r=13) ||(decide (r=34) ||decide (r=92))))))):=by
  simp only[List.any_cons,List.any_nil,A1Q]
  exact congr (congrArg _ (h 8)) (congr (congrArg _ (h 9)) (congr (congrArg _ (h 10)) (congr (congrArg _ (h 12)) (congr (congrArg _ (h 13)) (congr (congrArg _ (h 34)) (h 92))))))
 rw[e]
 unfold HQ
 repeat' split
 all_goals simp_all
theorem letD_at(r:Nat)(c:Int)(h:letD.atKey (.int .i32 r) (.lit (.int .i32 0))=.lit (.int .i32 c))(b:UInt8)(hb:HQ r=some b):c=b.toNat:=by
 rw[UT] at h
 unfold HQ at hb
 repeat' split at hb
 all_goals first
  |(cases hb;subst_vars;have:=DataW.lit.inj h;cases this;rfl)
  |cases hb
set_option maxHeartbeats 1000000 in
theorem Xf(n:Nat)(w:World):
  CallsIn Fence.wide n prog 178 #[] w fun e w'=>e=.returned (.map (some w.heap.size))/\LQ w.heap.size w'/\Below w.heap.size w w':=by
 have hmm:=@run_makeMap prog
 have K:=Maps.int_keyed underlying21
 have hw:∀ a:Nat,a<=127->keyOf prog 21 (.int .i32 a)=some (.int .i32 a)/\plainElem (H:=Unit) prog 21 (.int .i32 a)=some (.lit (.int .i32 a),[]):=fun a ha=>by
  have:(Lit.int .i32 a).wf=true:=by simp[Lit.wf,IntKind.min,IntKind.max,IntKind.bits,IntKind.signed];omega
  exact⟨Maps.keyOf_int_mk underlying21 this,plainElem_int underlying21 this⟩
 have h0:=World.ownsMap_made w prog 21 (plainElem (H:=Unit) prog 21)
 obtain⟨w1,r1,h1,g1⟩:=h0.update K underlying264 (by decide) (hw 34 (by decide)).1 (hw 34 (by decide)).2
 obtain⟨w2,r2,h2,g2⟩:=h1.update K underlying264 (by decide) (hw 92 (by decide)).1 (hw 92 (by decide)).2
 obtain⟨w3,r3,h3,g3⟩:=h2.update K underlying264 (by decide) (hw 8 (by decide)).1 (hw 98 (by decide)).2
 obtain⟨w4,r4,h4,g4⟩:=h3.update K underlying264 (by decide) (hw 9 (by decide)).1 (hw 116 (by decide)).2
 obtain⟨w5,r5,h5,g5⟩:=h4.update K underlying264 (by decide) (hw 10 (by decide)).1 (hw 110 (by decide)).2
 obtain⟨w6,r6,h6,g6⟩:=h5.update K underlying264 (by decide) (hw 12 (by decide)).1 (hw 102 (by decide)).2
 obtain⟨w7,r7,h7,g7⟩:=h6.update K underlying264 (by decide) (hw 13 (by decide)).1 (hw 114 (by decide)).2
 refine callsIn_of_wp func178 rfl trivial ?_
 simp only[ntmps178,A0y,A0g,A0v,Nat.reduceAdd,Nat.reduceSub,A1q,A1r,A1C,A1b,A0h,A0d]
 simp only[Int.cast_ofNat_Int] at r1 r2 r3 r4 r5 r6 r7
 gi_wp2
 go_ret
 refine⟨rfl,h7,?_⟩
 have hlt:∀ {D:DataW Unit} {n:Nat} {a:World},a.ownsMap prog 21 (plainElem (H:=Unit) prog 21) w.heap.size n D->w.heap.size<a.heap.size:=fun ⟨_,_,h,_⟩=>(A0l.1 h).1
 have gb:∀ {a b:World},w.heap.size<a.heap.size->a.grownBy b (some w.heap.size)->Below w.heap.size a b:=fun {a b} hs g=>⟨g.os,g.tape,g.output,g.size,fun k hk=>g.block k (by omega) (by simp;omega)⟩
 exact(((((((((Below.refl _ w).alloc (A08 _) _).trans (gb (hlt h0) g1)).trans (gb (hlt h1) g2)).trans (gb (hlt h2) g3)).trans (gb (hlt h3) g4)).trans (gb (hlt h4) g5)).trans (gb (hlt h5) g6)).trans (gb (hlt h6) g7))
end Go.Proofs
