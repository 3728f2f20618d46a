/- The layer by which the program is walked, and what its functions do: part 12 of 16. -/
import Derived.Test.YtjopicjammmbjaaGreatDoorV10
set_option maxHeartbeats 4000000
set_option maxRecDepth 20000
set_option linter.unusedVariables false
set_option linter.unusedSimpArgs false
set_option linter.unnecessarySimpa false
namespace Go.Ab
open Go.Proofs Go.Proofs.Tryz
theorem Xu(o:List (ByteArray×GV)):A3 prog 232 [.slice (o.map Ac) false] (.func (.func 245) [] [.ptr [.slice (o.map Ac) false] 0]):=by
 refine Zf [0] func232 rfl ntmps232 results232 ?_
 ((try push_cast)<;>repeat' (first|apply Zi<;>intro _|exact Zp|with_reducible apply Za)<;>try push_cast)
theorem JD{l:List (ByteArray×GV)}{i:Nat}(h:i<l.length):Bw (l.take (i+1))=Bw (l.take i)+(LK (l[i]'h).1+1+CM (l[i]'h).2)/\Bw (l.take (i+1))<=Bw l:=by
 have ap:∀ a b:List (ByteArray×GV),Bw (a++b)=Bw a+Bw b:=fun a b=>by
  induction a with
  |nil=>simp [Bw]
  |cons x a ih=>simp only[A07,Bw,ih];omega
 have h1:Bw (l.take (i+1))=Bw (l.take i)+(LK (l[i]'h).1+1+CM (l[i]'h).2):=by
  rw[A10 h,ap]
  simp[Bw]
 refine⟨h1,?_⟩
 have h2:Bw l=Bw (l.take (i+1))+Bw (l.drop (i+1)):=by
  rw[<-ap,A0R]
 omega
def WN(a c:Code)(m:Nat):Hp:=[(7,.loop [(2,.ptr [.ref 1 0 0 4] 0)] 23 .ready none [11,12] a c),(1,wrB m)]
theorem UM{a c:Code}(hQ:NA)(o:List (ByteArray×GV))(hol:o.length<=1048576)(hok:∀ x ∈ o,x.1.size<=1048576/\H2 x.2)(m0:Nat)(hm:m0+(o.length-1)+Bw o<=2305843009213693951)
  (hY:∀ (s:ByteArray) (x:GV) (m:Nat),H2 x->m+(s.size+1)+CM x<=2305843009213693951->∀ cs f,(cs=[.ptr (Aa x) 0]∨(cs=[]/\f=233))->Wr f cs x->G9 prog 7 [.val (.string s),.func (.func f) [] cs] (WN a c m) (.val (.bool true)) (WN a c (m+(s.size+1)+CM x))):
  A4 prog 245 [.yld 7,.ptr [.slice (o.map Ac) false] 0] (WN a c m0) (.tup []) (WN a c (m0+(o.length-1)+Bw o)):=by
 have oL:=AA (f:=Ac) Bd o
 unfold WN at*
 refine Zd [] func245 rfl ntmps245 results245 ?_
 (have z:=oL;(try push_cast[z])<;>repeat' (first|apply Zi<;>intro _|exact Zo|with_reducible apply Za)<;>try push_cast[z])
 refine Zl (fun i=>i<=o.length) (fun i=>⟨[(7,.val (.int .i64 i)),(6,.val (.int .i64 o.length)),(5,.slice (o.map Ac) false),(0,.yld 7)],[(7,.loop [(2,.ptr [.ref 1 0 0 4] 0)] 23 .ready none [11,12] a c),(1,wrB (m0+(i-1)+Bw (o.take i)))],400⟩) (fun i=>o.length-i) 0 (by simp) ?_ fun i hi=>?_
 ·apply Zw<;>push_cast
  all_goals try simp[Bw]
 ·push_cast
  refine A6 (fun ha=>?_) (fun ha=>?_)
  ·have hi':i<o.length:=by simpa using ha
   have e1:=AV hi'
   obtain⟨t1,t2⟩:=JD hi'
   obtain⟨hks,hx⟩:=hok _ (Ad (d:=zM) hi')
   have ex:o.getD i zM=o[i]:=by rw[A03,A06 hi'];rfl
   rw[<-ex] at t1
   generalize o.getD i zM=x at*
   obtain⟨k,x⟩:=x
   obtain⟨q,hq,hq2⟩:=hQ k hks
   simp only at*
   have hB:=PH i (by omega)
   have w1:IntKind.i64.wrap (↑i+1)=↑i+1:=A9 (by omega) (by omega)
   have hz:m0+(i-1)+Bw (o.take i)+(if i=0 then(⟨#[]⟩:ByteArray) else⟨#[44]⟩).size=m0+i+Bw (o.take i):=by
    split
    ·show _+0=_;omega
    ·show _+1=_;omega
   generalize(if i=0 then(⟨#[]⟩:ByteArray) else⟨#[44]⟩)=sep at*
   generalize hm1:m0+(i-1)+Bw (o.take i)=m1 at*
   have hy:=hY (sep++q) x m1 hx (by rw[A15,hq];omega)
   rw[A15,hq] at hy
   rcases hx with⟨f,h1,h2⟩|⟨h1,h2⟩
   ·have h3:=hy _ f (.inl rfl) h2
    (have z:=Za e1<|Za oL<|Za w1 @Ao;(try push_cast[z])<;>repeat' (first|apply Zi<;>intro _|refine Zc hB ?_|refine Zc (hq2 ..) ?_|refine Zc h1 ?_|exact Zo|with_reducible apply Za|(with_reducible show Af _ _ _ _ _ _ _ _;refine Af.yield 7 (BN [(7,7),(1,1)]) rfl ?_ (by(try push_cast[z]);exact h3 ..) ?_ (by first|exact .inl rfl|exact .inr ⟨_,_,_,rfl,rfl,rfl⟩) ?_ ?_ ?_ ?_;(· push_cast[z]);(· push_cast[z]<;>(with_unfolding_all exact Bl _));(· push_cast[z]<;>(with_unfolding_all exact Bl _));(· push_cast[z]<;>(with_unfolding_all exact Bl _));(· push_cast[z]<;>(with_unfolding_all exact Bl _));try push_cast[z])|fail)<;>try push_cast[z])
    all_goals first|omega|skip
    refine⟨i+1,hi',by omega,?_⟩
    apply Zw<;>push_cast
    rw[t1];push_cast;omega
   ·have h3:=hy _ _ (.inr ⟨rfl,rfl⟩) h2
    (have z:=Za e1<|Za oL<|Za w1 @Ao;(try push_cast[z])<;>repeat' (first|apply Zi<;>intro _|refine Zc hB ?_|refine Zc (hq2 ..) ?_|refine Zc h1 ?_|exact Zo|with_reducible apply Za|(with_reducible show Af _ _ _ _ _ _ _ _;refine Af.yield 7 (BN [(7,7),(1,1)]) rfl ?_ (by(try push_cast[z]);exact h3 ..) ?_ (by first|exact .inl rfl|exact .inr ⟨_,_,_,rfl,rfl,rfl⟩) ?_ ?_ ?_ ?_;(· push_cast[z]);(· push_cast[z]<;>(with_unfolding_all exact Bl _));(· push_cast[z]<;>(with_unfolding_all exact Bl _));(· push_cast[z]<;>(with_unfolding_all exact Bl _));(· push_cast[z]<;>(with_unfolding_all exact Bl _));try push_cast[z])|fail)<;>try push_cast[z])
    all_goals first|omega|skip
    refine⟨i+1,hi',by omega,?_⟩
    apply Zw<;>push_cast
    rw[t1];push_cast;omega
  ·have hi':i=o.length:=by simp at ha;omega
   subst hi'
   rw[A0Q]
   (have z:=oL;(try push_cast[z])<;>repeat' (first|apply Zi<;>intro _|exact Zo|with_reducible apply Za)<;>try push_cast[z])
   all_goals first|omega|skip
   apply Zw<;>push_cast
theorem own_obj(hQ:NA)(v:GV)(hs:Sm v)(hk:v.kind=6)(ih:∀ x ∈ v.obj,H2 x.2):H2 v:=by
 refine .inl ⟨231,?_,fun n hn=>?_⟩
 ·rw[A0,hk]
  refine Zf [0] func198 rfl ntmps198 results198 ?_
  ((try push_cast)<;>repeat' (first|apply Zi<;>intro _|exact Zp|with_reducible apply Za)<;>try push_cast)
 ·have e:CM v=2+(v.obj.length-1)+Bw v.obj:=by
   rw[EK,if_neg (by omega),if_neg (by omega),if_neg (by omega),if_neg (by omega),if_neg (by omega),if_pos hk]
  rw[e] at hn|-
  have hll:=hs.obj_le
  have hok:∀ x ∈ v.obj,x.1.size<=1048576/\H2 x.2:=fun x hx=>⟨hs.key x hx,ih x hx⟩
  rw[A0,hk]
  generalize v.obj=o at*
  have oL:=AA (f:=Ac) Bd o
  have hJ:=Eh ⟨#[123]⟩ n (by show n+1<=_;omega)
  change A4 _ _ _ _ _ [(1,wrB (n+1))] at hJ
  have hM:=Xu o
  refine A4.of_awpW func231 rfl ntmps231 (by kernel_rfl) (by simp) (congrArg Array.toList results231) ?_
  refine BJ.seqV [8] mixed (by kernel_rfl) ?_
  ((try push_cast)<;>repeat' (first|apply Zi<;>intro _|exact Zp|with_reducible apply Za)<;>try push_cast)
  refine BJ.seqV [] mixed (by kernel_rfl) ?_
  (have z:=oL;(try push_cast[z])<;>repeat' (first|apply Zi<;>intro _|refine Zs [(1,1),(3,24)] hJ ?_|exact Zo|with_reducible apply Za)<;>try push_cast[z])
  refine BJ.seq ?_
  refine BJ.seqV [] mixed (by kernel_rfl) ?_
  (have z:=oL;(try push_cast[z])<;>repeat' (first|apply Zi<;>intro _|refine Zc hM ?_|exact Zo|with_reducible apply Za)<;>try push_cast[z])
  refine BJ.block ?_
  refine BJ.range (y:=7) (BN [(7,64),(1,1)]) (env:=[(2,.ptr [.ref 1 0 0 4] 0)]) (ds:=[.yld 7,.ptr [.slice (o.map Ac) false] 0]) rfl (UM hQ o hll hok (n+1) (by omega) ?hY) rfl rfl ?_ ?_ ?_ ?_ ?_ ?_ ?_
  case hY=>
   intro s x m hx hb cs f hcs hw
   have hJ2:=c_join2 s ⟨#[58]⟩ m (by show m+(s.size+1)<=_;omega)
   change A4 _ _ _ _ _ [(1,wrB (m+(s.size+1)))] at hJ2
   have h3:=hw (m+(s.size+1)) (by omega)
   unfold WN
   rcases hcs with rfl|⟨rfl,rfl⟩
   ·refine G9.of_awp (by decide) rfl (by decide) ?_
    simp only[List.zip_cons_cons,List.zip_nil_right,A1y,List.reverse_nil,A09,A07]
    refine Zy ?_
    (have z:=@Gm.eq_1;(try push_cast[z])<;>repeat' (first|apply Zi<;>intro _|exact Zo|with_reducible apply Za)<;>try push_cast[z])
    refine Zy ?_
    (have z:=@Gl.eq_1;(try push_cast[z])<;>repeat' (first|apply Zi<;>intro _|refine Zs [(1,1),(3,40)] hJ2 ?_|refine Zt [(1,1)] h3 ?_|exact Zo|with_reducible apply Za)<;>try push_cast[z])
    apply Zw<;>push_cast
   ·refine G9.of_awp (by decide) rfl (by decide) ?_
    simp only[List.zip_cons_cons,List.zip_nil_right,A1y,List.reverse_nil,A09,A07]
    refine Zy ?_
    (have z:=@Gm.eq_1;(try push_cast[z])<;>repeat' (first|apply Zi<;>intro _|exact Zo|with_reducible apply Za)<;>try push_cast[z])
    refine Zy ?_
    (have z:=@Gl.eq_1;(try push_cast[z])<;>repeat' (first|apply Zi<;>intro _|refine Zs [(1,1),(3,40)] hJ2 ?_|refine Zt [(1,1)] h3 ?_|exact Zo|with_reducible apply Za)<;>try push_cast[z])
    apply Zw<;>push_cast
  ·push_cast
  ·push_cast
  ·push_cast[Di]
  ·push_cast[BD]
  ·push_cast
  ·push_cast
  ·have hJ3:=Eh ⟨#[125]⟩ (n+1+(o.length-1)+Bw o) (by show _+1<=_;omega)
   change A4 _ _ _ _ _ [(1,wrB (n+1+(o.length-1)+Bw o+1))] at hJ3
   rw[show n+(2+(o.length-1)+Bw o)=n+1+(o.length-1)+Bw o+1 by omega]
   generalize n+1+(o.length-1)+Bw o=m at*
   push_cast
   refine BJ.vc [] mixed (by kernel_rfl) ?_
   (have z:=trivial;(try push_cast)<;>repeat' (first|apply Zi<;>intro _|refine Zs [(1,1),(3,88)] hJ3 ?_|exact Zp|with_reducible apply Za)<;>try push_cast)
   apply Zw<;>push_cast
theorem Ub(hQ:NA)(v:GV)(hs:Sm v):H2 v:=by
 by_cases k2:v.kind=2
 ·exact Z8 v k2
 by_cases k3:v.kind=3
 ·exact own_int v hs k3
 by_cases k4:v.kind=4
 ·exact Z5 hQ v hs k4
 by_cases k5:v.kind=5
 ·exact Z7 v hs k5 fun x hx=>Ub hQ x (hs.list x hx)
 by_cases k6:v.kind=6
 ·exact own_obj hQ v hs k6 fun x hx=>Ub hQ x.2 (hs.obj x hx)
 by_cases k1:v.kind=1
 ·exact Z6 v k1
 ·refine .inr ⟨?_,?_⟩
  ·have e2:(v.kind==2)=false:=by simpa using k2
   have e3:(v.kind==3)=false:=by simpa using k3
   have e4:(v.kind==4)=false:=by simpa using k4
   have e5:(v.kind==5)=false:=by simpa using k5
   have e6:(v.kind==6)=false:=by simpa using k6
   rw[A0]
   refine Zf [0] func198 rfl ntmps198 results198 ?_
   (have z:=Za e2<|Za e3<|Za e4<|Za e5 e6;(try push_cast[z])<;>repeat' (first|apply Zi<;>intro _|exact Zo|with_reducible apply Za)<;>try push_cast[z])
  ·refine PJ ⟨#[110,117,108,108]⟩ ?_ fun n hn=>?_
   ·rw[EK,if_neg k1,if_neg k2,if_neg k3,if_neg k4,if_neg k5,if_neg k6];rfl
   ·have hJ:=Eh ⟨#[110,117,108,108]⟩ n (by omega)
    refine Zd [] func233 rfl ntmps233 results233 ?_
    (have z:=trivial;(try push_cast)<;>repeat' (first|apply Zi<;>intro _|refine Zs [(1,1),(3,16)] hJ ?_|exact Zp|with_reducible apply Za)<;>try push_cast)
    apply Zw<;>push_cast
termination_by SizeOf.sizeOf v
decreasing_by
 ·exact GV.list_lt hx
 ·exact GV.obj_lt hx
theorem c_bytes(hQ:NA)(v:GV)(hs:Sm v)(hl:CM v<=2305843009213693951):A3 prog 157 [.agg (Aa v)] (.val (.int .i64 (CM v))):=by
 have hO:=Ub hQ v hs
 rcases hO with⟨f,h1,h2⟩|⟨h1,h2⟩
 all_goals
  have h3:=h2 0 (by omega)
  first|rw [A0 v] at h1 h3|- |rw [A0 v] at h1|-
  refine Zf [0] func157 rfl ntmps157 results157 ?_
  (have z:=trivial;(try push_cast)<;>repeat' (first|apply Zi<;>intro _|refine Zc h1 ?_|refine Zt [(1,16)] h3 ?_|exact Zp|with_reducible apply Za)<;>try push_cast)
  all_goals skip
theorem c_Fits(hQ:NA)(v:GV)(hs:Sm v)(hw:wtV v<=2097152):A3 prog 116 [.agg (Aa v)] (.val (.int .i64 (Al v))):=by
 have hM:=c_vMay v hs
 unfold Al
 by_cases h1:Ba v 1=0
 ·rw[if_neg (by simpa using h1)]
  rw[h1] at hM
  have hd:=Kl v 1 h1
  have hD:=c_Deep v hs (by omega)
  have hlb:=Qo v hs
  have hB:=c_bytes hQ v hs (by omega)
  rw[A0 v] at hM hD hB|-
  by_cases h2:16<C4 v
  ·rw[if_pos h2]
   have b1:decide ((16:Int)<C4 v)=true:=decide_eq_true (by omega)
   refine Zf [0] func116 rfl ntmps116 results116 ?_
   (have z:=b1;(try push_cast[z])<;>repeat' (first|apply Zi<;>intro _|refine Zc hM ?_|refine Zc hD ?_|exact Zo|with_reducible apply Za)<;>try push_cast[z])
  ·rw[if_neg h2]
   have b1:decide ((16:Int)<C4 v)=false:=decide_eq_false (by omega)
   by_cases h3:1024<CM v
   ·rw[if_pos h3]
    have b2:decide ((1024:Int)<CM v)=true:=decide_eq_true (by omega)
    refine Zf [0] func116 rfl ntmps116 results116 ?_
    (have z:=Za b1 b2;(try push_cast[z])<;>repeat' (first|apply Zi<;>intro _|refine Zc hM ?_|refine Zc hD ?_|refine Zc hB ?_|exact Zo|with_reducible apply Za)<;>try push_cast[z])
   ·rw[if_neg h3]
    have b2:decide ((1024:Int)<CM v)=false:=decide_eq_false (by omega)
    refine Zf [0] func116 rfl ntmps116 results116 ?_
    (have z:=Za b1 b2;(try push_cast[z])<;>repeat' (first|apply Zi<;>intro _|refine Zc hM ?_|refine Zc hD ?_|refine Zc hB ?_|exact Zo|with_reducible apply Za)<;>try push_cast[z])
 ·rw[if_pos h1]
  have b1:(Ba v 1 !=0)=true:=by simpa using h1
  rw[A0 v] at hM|-
  generalize Ba v 1=c at*
  refine Zf [0] func116 rfl ntmps116 results116 ?_
  (have z:=b1;(try push_cast[z])<;>repeat' (first|apply Zi<;>intro _|refine Zc hM ?_|exact Zo|with_reducible apply Za)<;>try push_cast[z])
end Go.Ab
namespace Go.Ab
open Go.Proofs Go.Proofs.Tryz Go.RowKit Go.Shelf
theorem GIn.below{P:Program}{w W:World}{I:Nat->Prop}(h:GIn P w I)(hb:Below w.heap.size w W):GIn P W I:=by
 intro g l hg
 obtain⟨a,T,fz,h5⟩:=h g l hg
 exact⟨a,T,fz,(hb.block g (A0F.1 h5).1).trans h5⟩
theorem okP_quo(s:ByteArray)(hs:s.size<=1048576):okP (.string (DT s)):=by
 show(DT s).size<=_
 have h:=(JX s).2
 rw[HM]
 omega
theorem c_Quote(s:ByteArray)(hs:s.size<=1048576):A3 prog 244 [.val (.string s)] (.tup [.val (.string (DT s)),.val (.int .i64 (if B1 s=true then 0 else 3))]):=
 A3.of_vals (us:=[.string s]) (by kernel_rfl) rfl fun w I hg ho=>⟨.tuple #[.string (DT s),.int .i64 (if B1 s=true then 0 else 3)],fun _=>JU (okP_quo s hs) (by simp only[okP,E9,Ea];split<;>omega),
  callsIn_wide.1 (w_Quote 0 s hs w (fun W hb=>H5 (by kernel_rfl) (by kernel_rfl) (hg.below hb)) (H5 (by kernel_rfl) (by kernel_rfl) hg))⟩
theorem quo_ok:NA:=fun s hs=>⟨DT s,HM s,by
 have h:=c_Quote s hs
 refine Zf [] func228 rfl ntmps228 results228 ?_
 (have z:=trivial;(try push_cast)<;>repeat' (first|apply Zi<;>intro _|refine Zc h ?_|exact Zp|with_reducible apply Za)<;>try push_cast)⟩
theorem VE(v:GV)(hs:Sm v)(hw:wtV v<=2097152):A3 prog 116 [.agg (Aa v)] (.val (.int .i64 (Al v))):=c_Fits quo_ok v hs hw
theorem r_Bytes(r:Nat)(hr:r<=1114111)(hs:¬(55296<=r/\r<=57343)):A3 prog 219 [.val (.int .i64 r)] (.val (.string ⟨(Lib.encodeRune r).toArray⟩)):=
 A3.of_vals (us:=[.int .i64 r]) (by kernel_rfl) rfl fun w I hg ho=>⟨.string ⟨(Lib.encodeRune r).toArray⟩,fun _=>JT (by
  show(Lib.encodeRune r).toArray.size<=_
  have h:(Lib.encodeRune r).length<=4:=by
   unfold Lib.encodeRune Lib.encodeRuneZ
   repeat' split
   all_goals simp
  rw[A0H];omega),callsIn_wide.1 (w_Bytes 0 r hr hs w)⟩
def ST:List Nat:=[34,92,47,8,12,10,13,9]
theorem YV(i:Nat)(hi:i<8):A3 prog 218 [.val (.int .i64 i)] (.val (.int .i64 (ST.getD i 0))):=by
 have:i=0∨i=1∨i=2∨i=3∨i=4∨i=5∨i=6∨i=7:=by omega
 rcases this with rfl|rfl|rfl|rfl|rfl|rfl|rfl|rfl
 all_goals
  refine Zf [] func218 rfl ntmps218 results218 ?_
  ((try push_cast)<;>repeat' (first|apply Zi<;>intro _|exact Zp|with_reducible apply Za)<;>try push_cast)
  all_goals rfl
def Fz:Nat->List UInt8->List Nat
 |0,_=>[]
 |n+1,l=>if l=[] then [] else(Lib.decodeL l).1::Fz n (l.drop (Lib.decodeL l).2)
def J8(n:Nat):List D:=[.val (.int .i64 n)]
theorem Pf(l:List Nat):Am (l.map J8)=true:=AA (fun _=>rfl) l
attribute [push_cast] Pf
theorem Gk(n:Nat):Fz n []=[]:=by cases n<;>simp [Fz]
theorem He:∀ (n m:Nat) (l:List UInt8),l.length<=n->l.length<=m->Fz n l=Fz m l
 |0,m,l,h,_=>by
  have:l=[]:=A0G.1 (by omega)
  subst this;rw[Gk,Gk]
 |n+1,0,l,_,h=>by
  have:l=[]:=A0G.1 (by omega)
  subst this;rw[Gk,Gk]
 |n+1,m+1,l,h,k=>by
  simp only[Fz]
  have h1:=Lib.decodeL_width l
  split
  ·rfl
  ·rename_i hn
   have:0<l.length:=List.length_pos_iff.2 hn
   rw[He n m _ (by rw[A0n];omega) (by rw[A0n];omega)]
def CK(s:ByteArray)(p:Nat):List Nat:=Fz (s.size-p) (s.data.toList.drop p)
theorem Hf{s:ByteArray}{p:Nat}(h:p<s.size):CK s p=(rnA s p).1::CK s (p+(rnA s p).2):=by
 have hl:s.data.toList.length=s.size:=rfl
 have h1:1<=(rnA s p).2:=Lib.decodeL_width _
 unfold CK
 rw[He (s.size-p) (s.size-p-1+1) _ (by rw[A0n];omega) (by rw[A0n];omega)]
 simp only[Fz,if_neg (Fr h),List.drop_drop]
 rw[He (s.size-p-1) (s.size-(p+(rnA s p).2)) _ (by rw[A0n];unfold rnA at*;omega) (by rw[A0n];unfold rnA at*;omega)]
 rfl
theorem Mj(s:ByteArray):CK s s.size=[]:=by
 unfold CK
 rw[Nat.sub_self];rfl
def plN(s:ByteArray):Nat->Nat->List Nat
 |0,_=>[]
 |n+1,p=>if p<s.size then p::plN s n (p+(rnA s p).2) else []
theorem Mu(s:ByteArray):∀ (n m p:Nat),s.size-p<=n->s.size-p<=m->plN s n p=plN s m p
 |0,0,p,_,_=>rfl
 |0,m+1,p,h,_=>by simp only[plN];rw[if_neg (by omega)]
 |n+1,0,p,_,h=>by simp only[plN];rw[if_neg (by omega)]
 |n+1,m+1,p,h,k=>by
  simp only[plN]
  have h1:1<=(rnA s p).2:=Lib.decodeL_width _
  split
  ·rw[Mu s n m _ (by omega) (by omega)]
  ·rfl
def EI(s:ByteArray)(p:Nat):List Nat:=plN s (s.size-p) p
theorem Q8{s:ByteArray}{p:Nat}(h:p<s.size):EI s p=p::EI s (p+(rnA s p).2):=by
 have h1:1<=(rnA s p).2:=Lib.decodeL_width _
 unfold EI
 rw[Mu s (s.size-p) (s.size-p-1+1) p (by omega) (by omega)]
 simp only[plN,if_pos h]
 rw[Mu s (s.size-p-1) (s.size-(p+(rnA s p).2)) _ (by omega) (by omega)]
theorem S1(s:ByteArray):EI s s.size=[]:=by
 unfold EI
 rw[Nat.sub_self];rfl
theorem r_Runes(s:ByteArray)(hs:s.size<=1048576)(hv:B1 s=true):A4 prog 217 [.val (.string s)] [] (.tup [.gref 2 (CK s 0).length,.gref 4 (EI s 0).length]) [(2,.grow ((CK s 0).map J8) 1),(4,.grow ((EI s 0).map J8) 1)]:=by
 have hl:s.data.toList.length=s.size:=rfl
 refine Zd [] func217 rfl ntmps217 results217 ?_
 ((try push_cast)<;>repeat' (first|apply Zi<;>intro _|exact Zp|with_reducible apply Za)<;>try push_cast)
 refine AWp.loopI mixed (by kernel_rfl) (ι:=Nat×List Nat×List Nat) (fun x=>x.1<=s.size/\Lib.validD (s.data.toList.drop x.1)=true/\x.2.1++CK s x.1=CK s 0/\x.2.2++EI s x.1=EI s 0/\x.2.1.length<=x.1/\x.2.2.length<=x.1)
  (fun x=>⟨[(6,.val (.int .i64 x.1)),(5,.gref 50 x.2.2.length),(4,.gref 48 x.2.1.length),(0,.val (.string s))],[(48,.grow (x.2.1.map J8) 1),(50,.grow (x.2.2.map J8) 1)],60⟩) (fun x=>s.size-x.1) (0,[],[]) ⟨A0t _,by rw[A1T];exact hv,rfl,rfl,A0e _,A0e _⟩ ?_ fun x hx=>?_
 ·refine Ar.trans (s':=⟨[(4,.slice [] true),(5,.slice [] true),(6,.val (.int .i64 0)),(0,.val (.string s))],[],24⟩) ?_ ?_
  ·apply Zw<;>push_cast
  refine Ar.trans (Ar.nilgrowE 1) ?_
  refine Ar.trans (s':=⟨[(5,.slice [] true),(4,.gref 48 0),(6,.val (.int .i64 0)),(0,.val (.string s))],[(48,.grow [] 1)],25⟩) ?_ ?_
  ·apply Zw<;>push_cast
  refine Ar.trans (Ar.nilgrowE 1) ?_
  apply Zw<;>push_cast
 ·obtain⟨i,rs,ps⟩:=x
  obtain⟨h1,h2,h3,h4,h5,h6⟩:=hx
  simp only at*
  push_cast
  refine A6 (fun ha=>?_) (fun ha=>?_)
  ·have hi':i<s.size:=by simpa using ha
   obtain⟨v1,v2,v3,v4,v5⟩:=RG hi' h2
   have hA:=r_At s i (by omega) (by omega)
   have hat:atR s i=rnA s i:=by rw[QX s i hi'];exact if_neg v1
   rw[hat] at hA
   have g3:=Hf hi'
   have g4:=Q8 hi'
   rw[g3] at h3
   rw[g4] at h4
   generalize rnA s i=y at*
   obtain⟨r,wd⟩:=y
   simp only at*
   have b1:((wd:Int)==0)=false:=by simp;omega
   have oR:=AA (f:=J8) (fun x=>rfl) rs
   have oP:=AA (f:=J8) (fun x=>rfl) ps
   have e1:rs.map J8++[[.val (.int .i64 (r:Int))]]=(rs++[r]).map J8:=by simp[J8]
   have e2:ps.map J8++[[.val (.int .i64 (i:Int))]]=(ps++[i]).map J8:=by simp[J8]
   (have z:=Za b1<|Za oR oP;(try push_cast[z])<;>repeat' (first|apply Zi<;>intro _|refine Zc hA ?_|exact Zo|with_reducible apply Za)<;>try push_cast[z])
   all_goals first|omega|(intro y hy;cases A0d.1 hy;rfl)|(intro y hy d hd;cases A0d.1 hy;cases A0d.1 hd;rfl)|skip
   refine⟨(i+wd,rs++[r],ps++[i]),⟨v3,v2,by rw[A05];exact h3,by rw[A05];exact h4,by rw[A08];simp;omega,by rw[A08];simp;omega⟩,by simp only;omega,?_⟩
   rw[e1,e2]
   have l1:rs.length+1=(rs++[r]).length:=by simp
   have l2:ps.length+1=(ps++[i]).length:=by simp
   rw[l1,l2]
   apply Zr [(48,256),(50,296)] rfl<;>push_cast
   all_goals first|exact A9 (by omega) (by omega)|skip
  ·have hi':i=s.size:=by simp at ha;omega
   subst hi'
   rw[Mj,A0E] at h3
   rw[S1,A0E] at h4
   subst h3 h4
   ((try push_cast)<;>repeat' (first|apply Zi<;>intro _|exact Zp|with_reducible apply Za)<;>try push_cast)
   apply Zr [(2,48),(4,50)] rfl<;>push_cast
def Dy(r:Nat):Nat:=if r=34 then 0 else if r=92 then 1 else if r=8 then 3 else if r=12 then 4 else if r=10 then 5 else if r=13 then 6 else if r=9 then 7 else 8
def Lz:List UInt8:=[34,92,47,98,102,110,114,116]
theorem Vx(r:Nat):Dy r<=8:=by unfold Dy;repeat' split
                              all_goals omega
theorem idxC_lt{r:Nat}(h:Dy r<8):Dy r≠2/\ST.getD (Dy r) 0=r:=by
 unfold Dy at*
 repeat' split
 all_goals first|(subst_vars;exact⟨by decide,rfl⟩)|simp_all
theorem idxC_ne{r j:Nat}(h:j<Dy r)(h2:j≠2):ST.getD j 0≠r:=by
 have h8:=Vx r
 have:j=0∨j=1∨j=3∨j=4∨j=5∨j=6∨j=7:=by omega
 unfold Dy at h
 intro e
 rcases this with rfl|rfl|rfl|rfl|rfl|rfl|rfl<;>(simp[ST] at e;subst e;simp at h)
theorem Ww(l:List UInt8):JS l=if Dy (Lib.decodeL l).1<8 then [92,Lz.getD (Dy (Lib.decodeL l).1) 0] else if(Lib.decodeL l).1<32 then [92,117,48,48,J9 ((Lib.decodeL l).1/16),J9 ((Lib.decodeL l).1%16)] else Lib.encodeRune (Lib.decodeL l).1:=by
 unfold JS
 generalize(Lib.decodeL l).1=r
 rcases Decidable.em (r=34) with rfl|h1
 ·rfl
 rcases Decidable.em (r=92) with rfl|h2
 ·rfl
 rcases Decidable.em (r=8) with rfl|h3
 ·rfl
 rcases Decidable.em (r=12) with rfl|h4
 ·rfl
 rcases Decidable.em (r=10) with rfl|h5
 ·rfl
 rcases Decidable.em (r=13) with rfl|h6
 ·rfl
 rcases Decidable.em (r=9) with rfl|h7
 ·rfl
 have e1:Dy r=8:=by unfold Dy;simp only[h1,h2,h3,h4,h5,h6,h7,if_false]
 have e2:Hu r=none:=by unfold Hu;simp only[h1,h2,h3,h4,h5,h6,h7,if_false]
 rw[e1,e2,if_neg (by omega:¬8<8)]
 by_cases h:r<32
 ·rw[if_pos h,if_neg (by omega)]
 ·rw[if_neg h,if_pos (by omega)]
theorem rn_sur(s:ByteArray)(p:Nat):¬(55296<=(rnA s p).1/\(rnA s p).1<=57343):=by
 unfold rnA
 rw[Lib.decodeL_N]
 rcases Lib.decodeN_shape (s.data.toList.drop p).length ((s.data.toList.drop p).getD 0 0).toNat ((s.data.toList.drop p).getD 1 0).toNat ((s.data.toList.drop p).getD 2 0).toNat ((s.data.toList.drop p).getD 3 0).toNat with⟨c,e⟩|⟨c1,c2,c3,cv,e⟩|⟨c1,c2,c3,c4,cv,cs,e⟩|⟨c1,c2,c3,c4,c5,cv,cw,e⟩|e
 all_goals(rw[e];dsimp only;omega)
theorem D7(a b:ByteArray):(a++b).data.toList=a.data.toList++b.data.toList:=by
 rw[ByteArray.data_append,Array.toList_append]
theorem Vy:∀ i,i<16->((⟨#[48,49,50,51,52,53,54,55,56,57,97,98,99,100,101,102]⟩:ByteArray).extract i (i+1)).data.toList=[J9 i]:=by
 have key:∀ i:Fin 16,((⟨#[48,49,50,51,52,53,54,55,56,57,97,98,99,100,101,102]⟩:ByteArray).extract i.val (i.val+1)).data.toList=[J9 i.val]:=by decide
 exact fun i h=>key ⟨i,h⟩
theorem letT_at:∀ i,i<8->((⟨Lz.toArray⟩:ByteArray).extract i (i+1)).data.toList=[Lz.getD i 0]:=by
 have key:∀ i:Fin 8,((⟨Lz.toArray⟩:ByteArray).extract i.val (i.val+1)).data.toList=[Lz.getD i.val 0]:=by decide
 exact fun i h=>key ⟨i,h⟩
theorem TS(s:ByteArray):(CK s 0).length<=s.size:=by
 have key:∀ (n:Nat) (l:List UInt8),(Fz n l).length<=n:=by
  intro n
  induction n with
  |zero=>intro l;exact A0e 0
  |succ n ih=>
   intro l
   simp only[Fz]
   split
   ·simp
   ·simp only[A0g]
    have:=ih (l.drop (Lib.decodeL l).2)
    omega
 exact key _ _
theorem Vb(s:ByteArray)(hs:s.size<=1048576):A3 prog 192 [.val (.string s)] (.tup [.val (.string (DT s)),.val (.int .i64 (if B1 s=true then 0 else 3))]):=by
 have hl:s.data.toList.length=s.size:=rfl
 have hV:=JW s (by omega)
 cases hv:B1 s with
 |false=>
  rw[hv] at hV
  have e:DT s=⟨#[]⟩:=by unfold DT;rw[if_neg (by rw[hv];decide)];rfl
  rw[e]
  refine Zf [] func192 rfl ntmps192 results192 ?_
  (have z:=trivial;(try push_cast)<;>repeat' (first|apply Zi<;>intro _|refine Zc hV ?_|exact Zp|with_reducible apply Za)<;>try push_cast)
 |true=>
  rw[hv] at hV
  have hR:=r_Runes s hs hv
  have hRl:=TS s
  refine Zf [] func192 rfl ntmps192 results192 ?_
  (have z:=trivial;(try push_cast)<;>repeat' (first|apply Zi<;>intro _|refine Zc hV ?_|refine Zs [] hR ?_|exact Zp|with_reducible apply Za)<;>try push_cast)
  have hq:DT s=⟨([34]++Ej s.data.toList.length s.data.toList++[34]).toArray⟩:=by unfold DT;rw[if_pos hv]
  have hn:∀ i,i<(CK s 0).length->nr ((CK s 0).map J8) i=[.val (.int .i64 ((CK s 0).getD i 0:Nat))]:=fun i h=>DL 0 h
  have hI0:=Pf (CK s 0)
  generalize hRS:CK s 0=RS at*
  refine AWp.loopI mixed (by kernel_rfl) (ι:=Nat×Nat×ByteArray) (fun x=>x.1<=x.2.1/\x.2.1<=s.size/\Lib.validD (s.data.toList.drop x.2.1)=true/\RS.drop x.1=CK s x.2.1/\x.1<=RS.length/\[34]++Ej s.data.toList.length s.data.toList=x.2.2.data.toList++Ej (s.data.toList.drop x.2.1).length (s.data.toList.drop x.2.1)/\x.2.2.size<=6*x.2.1+1)
   (fun x=>⟨[(8,.val (.int .i64 x.1)),(7,.val (.string ⟨#[48,49,50,51,52,53,54,55,56,57,97,98,99,100,101,102]⟩)),(5,.gref 58 RS.length),(4,.val (.string x.2.2))],[(58,.grow (RS.map J8) 1)],80⟩) (fun x=>s.size-x.2.1) (0,0,⟨#[34]⟩) ⟨A0e _,A0t _,by rw[A1T];exact hv,by rw[A1T,hRS],A0t _,by rw[A1T],by decide⟩ ?_ fun x hx=>?_
  ·apply Zw<;>push_cast
  ·obtain⟨i,p,S⟩:=x
   obtain⟨h1,h2,h3,h4,h5,h6,h7⟩:=hx
   simp only at*
   push_cast
   refine⟨by omega,?_⟩
   refine A6 (fun ha=>?_) (fun ha=>?_)
   ·have hi':i<RS.length:=by simpa using ha
    have hp:p<s.size:=by
     rcases A0v p s.size with h|h
     ·exact h
     ·have:p=s.size:=by omega
      subst this
      rw[Mj] at h4
      have:=congrArg List.length h4
      rw[A0n,A0i] at this
      omega
    obtain⟨v1,v2,v3,v4,v5⟩:=RG hp h3
    have v6:=rn_sur s p
    rw[Hf hp] at h4
    have hg:RS.getD i 0=(rnA s p).1:=by
     rw[BI (d:=0) hi'] at h4
     exact(List.cons.inj h4).1
    have hdr:RS.drop (i+1)=CK s (p+(rnA s p).2):=by
     rw[BI (d:=0) hi'] at h4
     exact(List.cons.inj h4).2
    have e1:=hn i hi'
    rw[hg] at e1
    have hst:=NT _ (Fr hp)
    rw[Ww,List.drop_drop] at hst
    change Ej _ _=(if Dy (rnA s p).1<8 then [92,Lz.getD (Dy (rnA s p).1) 0] else if(rnA s p).1<32 then [92,117,48,48,J9 ((rnA s p).1/16),J9 ((rnA s p).1%16)] else Lib.encodeRune (rnA s p).1)++Ej (s.data.toList.drop (p+(rnA s p).2)).length (s.data.toList.drop (p+(rnA s p).2)) at hst
    rw[hst] at h6
    generalize rnA s p=y at*
    obtain⟨r,wd⟩:=y
    simp only at*
    have i8:=Vx r
    clear hst h4 v1
    (have z:=Za e1 hI0;(try push_cast[z])<;>repeat' (first|apply Zi<;>intro _|exact Zo|with_reducible apply Za)<;>try push_cast[z])
    all_goals first|omega|skip
    refine Zl (fun j=>j<=Dy r) (fun j=>⟨[(10,.val (.int .i64 j)),(9,.val (.int .i64 r)),(8,.val (.int .i64 i)),(7,.val (.string ⟨#[48,49,50,51,52,53,54,55,56,57,97,98,99,100,101,102]⟩)),(5,.gref 58 RS.length),(4,.val (.string S))],[(58,.grow (RS.map J8) 1)],160⟩) (fun j=>Dy r-j) 0 (A0t _) ?_ fun j hj=>?_
    ·apply Zw<;>push_cast
    ·have hfin:∀ {S':ByteArray},S'.data.toList=S.data.toList++(if Dy r<8 then [92,Lz.getD (Dy r) 0] else if r<32 then [92,117,48,48,J9 (r/16),J9 (r%16)] else Lib.encodeRune r)->(i+1<=p+wd/\p+wd<=s.size/\Lib.validD (s.data.toList.drop (p+wd))=true/\RS.drop (i+1)=CK s (p+wd)/\i+1<=RS.length/\[34]++Ej s.data.toList.length s.data.toList=S'.data.toList++Ej (s.data.toList.drop (p+wd)).length (s.data.toList.drop (p+wd))/\S'.size<=6*(p+wd)+1)/\s.size-(p+wd)<s.size-p:=fun {S'} e=>by
      refine⟨⟨by omega,v3,v2,hdr,by omega,?_,?_⟩,by omega⟩
      ·rw[h6,e,A05]
      ·have hsz:S'.size=S'.data.toList.length:=rfl
       have hsz2:S.size=S.data.toList.length:=rfl
       rw[hsz,e,A08]
       have:(if Dy r<8 then [92,Lz.getD (Dy r) 0] else if r<32 then [92,117,48,48,J9 (r/16),J9 (r%16)] else Lib.encodeRune r).length<=6:=by
        repeat' split
        ·simp
        ·simp
        ·have:(Lib.encodeRune (r:Int)).length<=4:=by
          unfold Lib.encodeRune Lib.encodeRuneZ
          repeat' split
          all_goals simp
         omega
       omega
     rcases A0v j (Dy r) with hjl|hjl
     ·have b0:decide ((j:Int)<8)=true:=decide_eq_true (by omega)
      have w1:IntKind.i64.wrap (↑j+1)=↑j+1:=A9 (by omega) (by omega)
      rcases Decidable.em (j=2) with rfl|hj2
      ·(have z:=hI0;(try push_cast[z])<;>repeat' (first|apply Zi<;>intro _|exact Zo|with_reducible apply Za)<;>try push_cast[z])
       all_goals first|omega|skip
       refine⟨3,by omega,by omega,?_⟩
       apply Zw<;>push_cast
       all_goals rfl
      ·have b2:((j:Int)==2)=false:=by simp;omega
       have hC:=YV j (by omega)
       have hne:=idxC_ne hjl hj2
       obtain⟨cj,hcj⟩:∃ cj,ST.getD j 0=cj:=⟨_,rfl⟩
       rw[hcj] at hC hne
       have b3:((cj:Int) !=(r:Int))=true:=by simp;omega
       (have z:=Za hI0<|Za b0<|Za b2<|Za b3 w1;(try push_cast[z])<;>repeat' (first|apply Zi<;>intro _|refine Zc hC ?_|exact Zo|with_reducible apply Za)<;>try push_cast[z])
       all_goals first|omega|skip
       refine⟨j+1,by omega,by omega,?_⟩
       apply Zw<;>push_cast
     ·have hje:j=Dy r:=by omega
      have w2:IntKind.i64.wrap (↑i+1)=↑i+1:=A9 (by omega) (by omega)
      subst hje
      rcases A0v (Dy r) 8 with h8|h8
      ·obtain⟨n2,hcr⟩:=idxC_lt h8
       rw[if_pos h8] at hfin
       have hC:=YV (Dy r) h8
       rw[hcr] at hC
       have hlt:=letT_at (Dy r) h8
       have b0:decide ((Dy r:Int)<8)=true:=decide_eq_true (by omega)
       have b2:((Dy r:Int)==2)=false:=by simp;omega
       have w1:IntKind.i64.wrap ((Dy r:Int)+1)=((Dy r+1:Nat):Int):=by rw[A9 (by omega) (by omega)];omega
       generalize Dy r=j at*
       have z1:(⟨#[92]⟩:ByteArray).size=1:=rfl
       have z2:(⟨#[34,92,47,98,102,110,114,116]⟩:ByteArray).size=8:=rfl
       have z3:((⟨#[34,92,47,98,102,110,114,116]⟩:ByteArray).extract j (j+1)).size=1:=congrArg List.length hlt
       have t1:((j:Int)+1).toNat=j+1:=by omega
       have b4:((r:Int) !=(r:Int))=false:=by simp
       (have z:=Za hI0<|Za b0<|Za b2<|Za b4<|Za w1<|Za z1<|Za z2<|Za z3<|Za t1 @ByteArray.size_append;(try push_cast[z])<;>repeat' (first|apply Zi<;>intro _|refine Zc hC ?_|exact Zo|with_reducible apply Za)<;>try push_cast[z])
       all_goals first|omega|skip
       obtain⟨f1,f2⟩:=hfin (S':=S++⟨#[92]⟩++(⟨#[34,92,47,98,102,110,114,116]⟩:ByteArray).extract j (j+1)) (by rw[D7,D7,A05];exact congrArg (fun x=>S.data.toList++([92]++x)) hlt)
       refine⟨(i+1,p+wd,_),f1,f2,?_⟩
       apply Zw<;>push_cast
       all_goals first|exact w2|skip
      ·have hje:Dy r=8:=by omega
       rw[if_neg (by omega)] at hfin
       rw[hje]
       by_cases hr:r<32
       ·rw[if_pos hr] at hfin
        have b3:decide ((r:Int)<32)=true:=decide_eq_true (by omega)
        have q1:(r:Int).tdiv 16=((r/16:Nat):Int):=by rw[Int.tdiv_eq_ediv_of_nonneg (by omega)];rfl
        have q2:(r:Int).tmod 16=((r%16:Nat):Int):=by rw[Int.tmod_eq_emod_of_nonneg (by omega)];rfl
        have x1:=Vy (r/16) (by omega)
        have x2:=Vy (r%16) (by omega)
        obtain⟨u,hu⟩:∃ u,u=r/16:=⟨_,rfl⟩
        obtain⟨v,hv2⟩:∃ v,v=r%16:=⟨_,rfl⟩
        rw[<-hu] at q1 x1 hfin
        rw[<-hv2] at q2 x2 hfin
        have wu:IntKind.i64.wrap (u:Int)=u:=A9 (by omega) (by omega)
        have wv:IntKind.i64.wrap (v:Int)=v:=A9 (by omega) (by omega)
        have wu1:IntKind.i64.wrap ((u:Int)+1)=(u:Int)+1:=A9 (by omega) (by omega)
        have wv1:IntKind.i64.wrap ((v:Int)+1)=(v:Int)+1:=A9 (by omega) (by omega)
        have tu:((u:Int)+1).toNat=u+1:=by omega
        have tv:((v:Int)+1).toNat=v+1:=by omega
        have z1:(⟨#[92,117,48,48]⟩:ByteArray).size=4:=rfl
        have z2:(⟨#[48,49,50,51,52,53,54,55,56,57,97,98,99,100,101,102]⟩:ByteArray).size=16:=rfl
        have z3:((⟨#[48,49,50,51,52,53,54,55,56,57,97,98,99,100,101,102]⟩:ByteArray).extract u (u+1)).size=1:=congrArg List.length x1
        have z4:((⟨#[48,49,50,51,52,53,54,55,56,57,97,98,99,100,101,102]⟩:ByteArray).extract v (v+1)).size=1:=congrArg List.length x2
        (have z:=Za hI0<|Za b3<|Za q1<|Za q2<|Za wu<|Za wv<|Za wu1<|Za wv1<|Za tu<|Za tv<|Za z1<|Za z2<|Za z3<|Za z4 @ByteArray.size_append;(try push_cast[z])<;>repeat' (first|apply Zi<;>intro _|exact Zo|with_reducible apply Za)<;>try push_cast[z])
        all_goals first|omega|skip
        obtain⟨f1,f2⟩:=hfin (S':=S++⟨#[92,117,48,48]⟩++(⟨#[48,49,50,51,52,53,54,55,56,57,97,98,99,100,101,102]⟩:ByteArray).extract u (u+1)++(⟨#[48,49,50,51,52,53,54,55,56,57,97,98,99,100,101,102]⟩:ByteArray).extract v (v+1)) (by rw[D7,D7,D7,x1,x2,A05,A05];rfl)
        refine⟨(i+1,p+wd,_),f1,f2,?_⟩
        apply Zw<;>push_cast
        all_goals first|exact w2|skip
       ·rw[if_neg hr] at hfin
        have b3:decide ((r:Int)<32)=false:=decide_eq_false (by omega)
        have hB:=r_Bytes r v5 v6
        have z1:(⟨(Lib.encodeRune (r:Int)).toArray⟩:ByteArray).size<=4:=by
         show(Lib.encodeRune (r:Int)).toArray.size<=4
         rw[A0H]
         unfold Lib.encodeRune Lib.encodeRuneZ
         repeat' split
         all_goals simp
        obtain⟨f1,f2⟩:=hfin (S':=S++⟨(Lib.encodeRune (r:Int)).toArray⟩) (by rw[D7])
        generalize(⟨(Lib.encodeRune (r:Int)).toArray⟩:ByteArray)=E at*
        (have z:=Za hI0 b3;(try push_cast[z])<;>repeat' (first|apply Zi<;>intro _|refine Zc hB ?_|exact Zo|with_reducible apply Za)<;>try push_cast[z])
        all_goals first|omega|skip
        refine⟨(i+1,p+wd,_),f1,f2,?_⟩
        apply Zw<;>push_cast
        all_goals first|exact w2|skip
   ·have hi':i=RS.length:=by simp at ha;omega
    subst hi'
    rw[List.drop_length] at h4
    have hp:p=s.size:=by
     rcases A0v p s.size with h|h
     ·rw[Hf h] at h4;cases h4
     ·omega
    subst hp
    rw[List.drop_of_length_le (show s.data.toList.length<=s.size from A0e _),FR,A0E] at h6
    have z1:(⟨#[34]⟩:ByteArray).size=1:=rfl
    have e:DT s=S++⟨#[34]⟩:=by
     rw[hq,h6]
     apply ByteArray.ext
     apply Array.ext'
     rw[ByteArray.data_append,Array.toList_append]
    rw[e]
    (have z:=Za hI0 z1;(try push_cast[z])<;>repeat' (first|apply Zi<;>intro _|exact Zo|with_reducible apply Za)<;>try push_cast[z])
    all_goals first|omega|skip
def dgs(m:Nat):List UInt8:=if m=0 then [] else Lib.decDigits m
theorem dgs_step{m:Nat}(h:m≠0):dgs m=dgs (m/10)++[UInt8.ofNat (48+m%10)]:=by
 unfold dgs
 rw[if_neg h]
 by_cases c:m<10
 ·rw[if_pos (by omega),Lib.decDigits_one c,Nat.mod_eq_of_lt c];rfl
 ·rw[if_neg (by omega)]
  conv=>lhs;rw[Lib.decDigits,dif_neg c]
theorem digT_at:∀ i,i<10->((⟨#[48,49,50,51,52,53,54,55,56,57]⟩:ByteArray).extract i (i+1)).data.toList=[UInt8.ofNat (48+i)]:=by
 have key:∀ i:Fin 10,((⟨#[48,49,50,51,52,53,54,55,56,57]⟩:ByteArray).extract i.val (i.val+1)).data.toList=[UInt8.ofNat (48+i.val)]:=by decide
 exact fun i h=>key ⟨i,h⟩
theorem YS(n:Int)(h0: -9223372036854775808<=n)(h1:n<=9223372036854775807):A3 prog 191 [.val (.int .i64 n)] (.val (.string ⟨(Lib.itoa n).toArray⟩)):=by
 by_cases hn:n=0
 ·subst hn
  have e:Lib.itoa 0=[48]:=by unfold Lib.itoa;rw[if_neg (by omega)];exact Lib.decDigits_one (by omega)
  rw[e]
  refine Zf [] func191 rfl ntmps191 results191 ?_
  ((try push_cast)<;>repeat' (first|apply Zi<;>intro _|exact Zp|with_reducible apply Za)<;>try push_cast)
 ·have b1:(n==0)=false:=by simpa using hn
  have hlen:(Lib.itoa n).length<=21:=Lib.itoa_length_le n h0 h1
  have hit:Lib.itoa n=(if n<0 then [45] else [])++dgs n.natAbs:=by
   unfold Lib.itoa dgs
   rw[if_neg (by omega:¬n.natAbs=0)]
   split
   ·rfl
   ·rw[show n.toNat=n.natAbs by omega];rfl
  refine Zf [] func191 rfl ntmps191 results191 ?_
  (have z:=b1;(try push_cast[z])<;>repeat' (first|apply Zi<;>intro _|exact Zo|with_reducible apply Za)<;>try push_cast[z])
  refine AWp.loopI mixed (by kernel_rfl) (ι:=Int×ByteArray) (fun x=>(n<0->x.1<=0)/\(0<=n->0<=x.1)/\x.1.natAbs<=n.natAbs/\dgs x.1.natAbs++x.2.data.toList=dgs n.natAbs) (fun x=>⟨[(4,.val (.int .i64 x.1)),(3,.val (.string x.2)),(0,.val (.int .i64 n))],[],60⟩) (fun x=>x.1.natAbs) (n,⟨#[]⟩) ⟨fun h=>by omega,fun h=>h,A0e _,by simp⟩ ?_ fun x hx=>?_
  ·apply Zw<;>push_cast
  ·obtain⟨z,S⟩:=x
   obtain⟨g1,g2,g3,g4⟩:=hx
   simp only at*
   have hS:S.size<=21:=by
    have:=congrArg List.length g4
    have h2:=congrArg List.length hit
    rw[A08] at this h2
    have h3:S.size=S.data.toList.length:=rfl
    omega
   by_cases hz:z=0
   ·subst hz
    have e:S.data.toList=dgs n.natAbs:=by rw[<-g4];rfl
    by_cases hneg:n<0
    ·have e2:(⟨(Lib.itoa n).toArray⟩:ByteArray)=⟨#[45]⟩++S:=by
      rw[hit,if_pos hneg,<-e]
      apply ByteArray.ext
      apply Array.ext'
      rw[ByteArray.data_append,Array.toList_append]
     have b2:decide (n<0)=true:=decide_eq_true hneg
     have z1:(⟨#[45]⟩:ByteArray).size=1:=rfl
     rw[e2]
     (have z:=Za b2 z1;(try push_cast[z])<;>repeat' (first|apply Zi<;>intro _|exact Zo|with_reducible apply Za)<;>try push_cast[z])
     all_goals first|omega|skip
    ·have e2:(⟨(Lib.itoa n).toArray⟩:ByteArray)=S:=by
      rw[hit,if_neg hneg,<-e]
      rfl
     have b2:decide (n<0)=false:=decide_eq_false hneg
     rw[e2]
     (have z:=b2;(try push_cast[z])<;>repeat' (first|apply Zi<;>intro _|exact Zo|with_reducible apply Za)<;>try push_cast[z])
     all_goals first|omega|skip
   ·have b3:(z !=0)=true:=by simpa using hz
    obtain⟨u,hu⟩:∃ u,u=z.natAbs:=⟨_,rfl⟩
    have hst:=dgs_step (m:=u) (by omega)
    rw[<-hu,hst,A05] at g4
    have hd:=digT_at (u%10) (by omega)
    obtain⟨d,hd2⟩:∃ d,d=u%10:=⟨_,rfl⟩
    rw[<-hd2] at hd g4
    have z1:(⟨#[48,49,50,51,52,53,54,55,56,57]⟩:ByteArray).size=10:=rfl
    have z3:((⟨#[48,49,50,51,52,53,54,55,56,57]⟩:ByteArray).extract d (d+1)).size=1:=congrArg List.length hd
    have td:((d:Int)+1).toNat=d+1:=by omega
    have wd:IntKind.i64.wrap (d:Int)=d:=A9 (by omega) (by omega)
    have wd1:IntKind.i64.wrap ((d:Int)+1)=(d:Int)+1:=A9 (by omega) (by omega)
    have hfin:∀ z':Int,z'.natAbs=u/10->dgs z'.natAbs++((⟨#[48,49,50,51,52,53,54,55,56,57]⟩:ByteArray).extract d (d+1)++S).data.toList=dgs n.natAbs:=fun z' hz'=>by
     rw[hz',D7,hd];exact g4
    rcases Int.lt_or_le z 0 with hs|hs
    ·have ez:z= -(u:Int):=by omega
     have q1:z.tmod 10= -(d:Int):=by rw[ez,Int.neg_tmod,Int.tmod_eq_emod_of_nonneg (by omega)];omega
     have q2:z.tdiv 10= -((u/10:Nat):Int):=by rw[ez,Int.neg_tdiv,Int.tdiv_eq_ediv_of_nonneg (by omega)];rfl
     have wn:IntKind.i64.wrap (-(d:Int))= -(d:Int):=A9 (by omega) (by omega)
     have wq:IntKind.i64.wrap (-((u:Int)/10))= -((u:Int)/10):=A9 (by omega) (by omega)
     have nn:0- -(d:Int)=(d:Int):=by omega
     by_cases hd0:d=0
     ·have b4:decide (-(d:Int)<0)=false:=decide_eq_false (by omega)
      have nd: -(d:Int)=d:=by omega
      rw[nd] at q1 wn b4
      (have z:=Za b3<|Za q1<|Za q2<|Za wn<|Za wq<|Za nn<|Za b4<|Za z1<|Za z3<|Za td<|Za wd<|Za wd1 @ByteArray.size_append;(try push_cast[z])<;>repeat' (first|apply Zi<;>intro _|exact Zo|with_reducible apply Za)<;>try push_cast[z])
      all_goals first|omega|skip
      refine⟨(-((u/10:Nat):Int),_),⟨fun _=>by simp only;omega,fun h=>by simp only;omega,by simp only;omega,hfin _ (by omega)⟩,by simp only;omega,?_⟩
      apply Zw<;>push_cast
      all_goals first|exact wq|skip
     ·have b4:decide (-(d:Int)<0)=true:=decide_eq_true (by omega)
      (have z:=Za b3<|Za q1<|Za q2<|Za wn<|Za wq<|Za nn<|Za b4<|Za z1<|Za z3<|Za td<|Za wd<|Za wd1 @ByteArray.size_append;(try push_cast[z])<;>repeat' (first|apply Zi<;>intro _|exact Zo|with_reducible apply Za)<;>try push_cast[z])
      all_goals first|omega|skip
      refine⟨(-((u/10:Nat):Int),_),⟨fun _=>by simp only;omega,fun h=>by simp only;omega,by simp only;omega,hfin _ (by omega)⟩,by simp only;omega,?_⟩
      apply Zw<;>push_cast
      all_goals first|exact wq|skip
    ·have ez:z=(u:Int):=by omega
     have q1:z.tmod 10=(d:Int):=by rw[ez,Int.tmod_eq_emod_of_nonneg (by omega)];omega
     have q2:z.tdiv 10=((u/10:Nat):Int):=by rw[ez,Int.tdiv_eq_ediv_of_nonneg (by omega)];rfl
     have wq:IntKind.i64.wrap ((u:Int)/10)=(u:Int)/10:=A9 (by omega) (by omega)
     have b4:decide ((d:Int)<0)=false:=decide_eq_false (by omega)
     (have z:=Za b3<|Za q1<|Za q2<|Za wq<|Za b4<|Za z1<|Za z3<|Za td<|Za wd<|Za wd1 @ByteArray.size_append;(try push_cast[z])<;>repeat' (first|apply Zi<;>intro _|exact Zo|with_reducible apply Za)<;>try push_cast[z])
     all_goals first|omega|skip
     refine⟨(((u/10:Nat):Int),_),⟨fun _=>by simp only;omega,fun h=>by simp only;omega,by simp only;omega,hfin _ (by omega)⟩,by simp only;omega,?_⟩
     apply Zw<;>push_cast
     all_goals first|exact wq|skip
mutual
def Ct:GV->List UInt8
 |.mk k b n s l o=>if k=1 then [110,117,108,108] else if k=2 then(if b then [116,114,117,101] else [102,97,108,115,101]) else if k=3 then Lib.itoa n else if k=4 then(DT s).data.toList
  else if k=5 then [91]++CT true l++[93] else [123]++CU true o++[125]
def CT:Bool->List GV->List UInt8
 |_,[]=>[]
 |f,v::l=>(if f then [] else [44])++(Ct v++CT false l)
def CU:Bool->List (ByteArray×GV)->List UInt8
 |_,[]=>[]
 |f,(k,v)::l=>(if f then [] else [44])++((DT k).data.toList++([58]++(Ct v++CU false l)))
end
theorem Y3(v:GV):Ct v=if v.kind=1 then [110,117,108,108] else if v.kind=2 then(if v.b then [116,114,117,101] else [102,97,108,115,101]) else if v.kind=3 then Lib.itoa v.n else if v.kind=4 then(DT v.s).data.toList
  else if v.kind=5 then [91]++CT true v.list++[93] else [123]++CU true v.obj++[125]:=by cases v;unfold Ct;rfl
mutual
theorem HK:∀ (v:GV) (d:Nat),Ba v d=0->(Ct v).length=CM v
 |.mk k b n s l o,d,h=>by
  obtain⟨v1,v2,v3,v4,v5⟩:=E4 h
  obtain⟨a1,a2,a3,a4,a5,a6,a7⟩:=E1 v1
  simp only[GV.kind,GV.b,GV.n,GV.s,GV.list,GV.obj] at*
  unfold Ct CM
  by_cases k1:k=1
  ·rw[if_pos k1,if_pos k1];rfl
  rw[if_neg k1,if_neg k1]
  by_cases k2:k=2
  ·rw[if_pos k2,if_pos k2];cases b<;>rfl
  rw[if_neg k2,if_neg k2]
  by_cases k3:k=3
  ·rw[if_pos k3,if_pos k3]
  rw[if_neg k3,if_neg k3]
  by_cases k4:k=4
  ·rw[if_pos k4,if_pos k4,<-HM];rfl
  rw[if_neg k4,if_neg k4]
  by_cases k5:k=5
  ·have:=Ma true l (d+1) (v4 k5)
   rw[if_pos k5,if_pos k5,A08,A08,this]
   simp;omega
  ·have:=Mb true o (d+1) none (v5 (by omega))
   rw[if_neg k5,if_neg k5,if_pos (by omega:k=6),A08,A08,this]
   simp;omega
theorem Ma:∀ (f:Bool) (l:List GV) (d:Nat),CZ l d=0->(CT f l).length=BC l+(l.length-(if f then 1 else 0))
 |f,[],_,_=>by cases f<;>simp [CT,BC]
 |f,v::l,d,h=>by
  simp only[CZ] at h
  split at h
  ·rename_i h1;exact absurd h h1
  ·rename_i h1
   have h2:=HK v d (by simpa using h1)
   have h3:=Ma false l d h
   simp only[CT,BC,A08,h2,h3]
   cases f<;>simp<;>omega
theorem Mb:∀ (f:Bool) (l:List (ByteArray×GV)) (d:Nat) (p:Option ByteArray),Em p l d=0->(CU f l).length=Bw l+(l.length-(if f then 1 else 0))
 |f,[],_,_,_=>by cases f<;>simp [CU,Bw]
 |f,(k,v)::l,d,p,h=>by
  rw[Dx] at h
  split at h
  ·rename_i h1;exact absurd h h1
  ·rename_i h1
   have h2:=HK v d (FU (by simpa using h1)).2
   have h3:=Mb false l d (some k) h
   have h4:(DT k).data.toList.length=LK k:=HM k
   simp only[CU,Bw,A08,h2,h3,h4]
   cases f<;>simp<;>omega
end
theorem Tt{l:List GV}{i:Nat}(h:i<l.length):CT (decide (i=0)) (l.drop i)=(if i=0 then [] else [44])++(Ct (l.getD i zV)++CT (decide (i+1=0)) (l.drop (i+1))):=by
 rw[BI (d:=zV) h]
 simp[CT]
theorem Tu{l:List (ByteArray×GV)}{i:Nat}(h:i<l.length):CU (decide (i=0)) (l.drop i)=(if i=0 then [] else [44])++((DT (l.getD i zM).1).data.toList++([58]++(Ct (l.getD i zM).2++CU (decide (i+1=0)) (l.drop (i+1))))):=by
 rw[BI (d:=zM) h]
 simp[CU]
theorem quoT_ba(s:ByteArray):(⟨(DT s).data.toList.toArray⟩:ByteArray)=DT s:=by simp
theorem U6(v:GV)(d:Nat)(hm:Ba v d=0)(hs:Sm v)(hb:CM v<=4611686018427387904):A3 prog 146 [.agg (Aa v)] (.val (.string ⟨(Ct v).toArray⟩)):=by
 have hTl:=HK v d hm
 obtain⟨v1,v2,v3,v4,v5⟩:=E4 hm
 obtain⟨a1,a2,a3,a4,a5,a6,a7⟩:=E1 v1
 have hll:=hs.list_le
 have hol:=hs.obj_le
 rw[Y3] at hTl|-
 rw[A0]
 by_cases k1:v.kind=1
 ·rw[if_pos k1,k1]
  refine Zf [0] func146 rfl ntmps146 results146 ?_
  ((try push_cast)<;>repeat' (first|apply Zi<;>intro _|exact Zp|with_reducible apply Za)<;>try push_cast)
 rw[if_neg k1] at hTl|-
 by_cases k2:v.kind=2
 ·rw[if_pos k2,k2]
  cases hvb:v.b
  all_goals
   refine Zf [0] func146 rfl ntmps146 results146 ?_
   ((try push_cast)<;>repeat' (first|apply Zi<;>intro _|exact Zp|with_reducible apply Za)<;>try push_cast)
   all_goals rfl
 rw[if_neg k2] at hTl|-
 by_cases k3:v.kind=3
 ·rw[if_pos k3,k3]
  have hD:=YS v.n hs.int.1 hs.int.2
  refine Zf [0] func146 rfl ntmps146 results146 ?_
  (have z:=trivial;(try push_cast)<;>repeat' (first|apply Zi<;>intro _|refine Zc hD ?_|exact Zp|with_reducible apply Za)<;>try push_cast)
 rw[if_neg k3] at hTl|-
 by_cases k4:v.kind=4
 ·rw[if_pos k4,k4,quoT_ba]
  have hQ:=Vb v.s hs.text
  refine Zf [0] func146 rfl ntmps146 results146 ?_
  (have z:=trivial;(try push_cast)<;>repeat' (first|apply Zi<;>intro _|refine Zc hQ ?_|exact Zp|with_reducible apply Za)<;>try push_cast)
 rw[if_neg k4] at hTl|-
 by_cases k5:v.kind=5
 ·rw[if_pos k5] at hTl|-
  have hrec:∀ i,i<v.list.length->A3 prog 146 [.agg (Aa (v.list.getD i zV))] (.val (.string ⟨(Ct (v.list.getD i zV)).toArray⟩)):=fun i hi=>
   U6 _ (d+1) (HR (v4 k5) _ (Ad hi)) (hs.list _ (Ad hi)) (by
    rw[EK,if_neg k1,if_neg k2,if_neg k3,if_neg k4,if_pos k5] at hb
    have:=(JC hi).1
    have h2:=(JC hi).2
    rw[show v.list[i]=v.list.getD i zV by rw[A03,A06 hi];rfl] at this
    omega)
  have hSl:([91]++CT true v.list++[93]).length<=4611686018427387904:=by rw[hTl];exact hb
  obtain⟨R,hR⟩:∃ R:ByteArray,R=⟨([91]++CT true v.list++[93]).toArray⟩:=⟨_,rfl⟩
  rw[<-hR]
  rw[k5]
  generalize v.list=l at*
  have oL:=AA (f:=Aa) Bh l
  refine Zf [0] func146 rfl ntmps146 results146 ?_
  (have z:=oL;(try push_cast[z])<;>repeat' (first|apply Zi<;>intro _|exact Zo|with_reducible apply Za)<;>try push_cast[z])
  refine AWp.loopI mixed (by kernel_rfl) (ι:=Nat×ByteArray) (fun x=>x.1<=l.length/\x.2.data.toList++CT (decide (x.1=0)) (l.drop x.1)=[91]++CT true l) (fun x=>⟨[(6,.val (.int .i64 x.1)),(5,.val (.string x.2)),(1,.ptr [.val (.int .i64 5),.val (.bool v.b),.val (.int .i64 v.n),.val (.string v.s),.slice (l.map Aa) false,.slice (v.obj.map Ac) false] 0)],[],100⟩) (fun x=>l.length-x.1) (0,⟨#[91]⟩) ⟨A0t _,rfl⟩ ?_ fun x hx=>?_
  ·apply Zw<;>push_cast
  ·obtain⟨i,S⟩:=x
   obtain⟨g1,g2⟩:=hx
   simp only at*
   have hS:S.size+(CT (decide (i=0)) (l.drop i)).length+1<=4611686018427387904:=by
    have:=congrArg List.length g2
    rw[A08] at this
    rw[A08,<-this] at hSl
    exact hSl
   push_cast
   refine A6 (fun ha=>?_) (fun ha=>?_)
   ·have hi':i<l.length:=by simpa using ha
    have e1:=DM hi'
    have hr:=hrec i hi'
    have w1:IntKind.i64.wrap (↑i+1)=↑i+1:=A9 (by omega) (by omega)
    rw[Tt hi'] at g2 hS
    generalize l.getD i zV=x at*
    have hz:(⟨(Ct x).toArray⟩:ByteArray).size=(Ct x).length:=by show(Ct x).toArray.size=_;simp
    have hd:(⟨(Ct x).toArray⟩:ByteArray).data.toList=Ct x:=by simp
    generalize Ct x=T at*
    generalize(⟨T.toArray⟩:ByteArray)=E at*
    rcases A0M i with h0|h0
    ·subst h0
     rw[if_pos rfl] at g2 hS
     simp only[A08,A0i] at hS
     (have z:=Za e1 oL;(try push_cast[z])<;>repeat' (first|apply Zi<;>intro _|refine Zc (hr ..) ?_|exact Zo|with_reducible apply Za)<;>try push_cast[z])
     all_goals first|omega|skip
     refine⟨(1,S++E),⟨hi',by rw[D7,hd,A05];exact g2⟩,by simp only;omega,?_⟩
     apply Zw<;>push_cast
     all_goals first|exact w1|skip
    ·rw[if_neg (by omega)] at g2 hS
     simp only[A08,A0g,A0i] at hS
     have b1:decide ((0:Int)<i)=true:=decide_eq_true (by omega)
     have z1:(⟨#[44]⟩:ByteArray).size=1:=rfl
     (have z:=Za e1<|Za oL<|Za b1<|Za z1 @ByteArray.size_append;(try push_cast[z])<;>repeat' (first|apply Zi<;>intro _|refine Zc (hr ..) ?_|exact Zo|with_reducible apply Za)<;>try push_cast[z])
     all_goals first|omega|skip
     refine⟨(i+1,S++⟨#[44]⟩++E),⟨hi',by rw[D7,D7,hd,A05,A05];exact g2⟩,by simp only;omega,?_⟩
     apply Zw<;>push_cast
     all_goals first|exact w1|skip
   ·have hi':i=l.length:=by simp at ha;omega
    subst hi'
    rw[List.drop_length] at g2
    have g3:S.data.toList=[91]++CT true l:=by rw[<-g2];cases decide (l.length=0)<;>simp [CT]
    have e:(⟨([91]++CT true l++[93]).toArray⟩:ByteArray)=S++⟨#[93]⟩:=by
     rw[<-g3]
     apply ByteArray.ext
     apply Array.ext'
     rw[ByteArray.data_append,Array.toList_append]
    have z1:(⟨#[93]⟩:ByteArray).size=1:=rfl
    rw[hR.trans e]
    (have z:=Za oL z1;(try push_cast[z])<;>repeat' (first|apply Zi<;>intro _|exact Zo|with_reducible apply Za)<;>try push_cast[z])
    all_goals first|omega|skip
 ·have k6:v.kind=6:=by omega
  rw[if_neg k5] at hTl|-
  have hrec:∀ i,i<v.obj.length->A3 prog 146 [.agg (Aa (v.obj.getD i zM).2)] (.val (.string ⟨(Ct (v.obj.getD i zM).2).toArray⟩))/\A3 prog 192 [.val (.string (v.obj.getD i zM).1)] (.tup [.val (.string (DT (v.obj.getD i zM).1)),.val (.int .i64 0)]):=fun i hi=>by
   have hmm:=HT (v5 k6) _ (Ad (d:=zM) hi)
   refine⟨U6 _ (d+1) hmm.1 (hs.obj _ (Ad hi)) ?_,?_⟩
   ·rw[EK,if_neg k1,if_neg k2,if_neg k3,if_neg k4,if_neg k5,if_pos k6] at hb
    have:=(JD hi).1
    have h2:=(JD hi).2
    rw[show v.obj[i]=v.obj.getD i zM by rw[A03,A06 hi];rfl] at this
    omega
   ·have:=Vb (v.obj.getD i zM).1 (hs.key _ (Ad hi))
    rw[hmm.2,if_pos rfl] at this
    exact this
  have hSl:([123]++CU true v.obj++[125]).length<=4611686018427387904:=by rw[hTl];exact hb
  obtain⟨R,hR⟩:∃ R:ByteArray,R=⟨([123]++CU true v.obj++[125]).toArray⟩:=⟨_,rfl⟩
  rw[<-hR]
  rw[k6]
  generalize v.obj=l at*
  have oL:=AA (f:=Ac) Bd l
  refine Zf [0] func146 rfl ntmps146 results146 ?_
  (have z:=oL;(try push_cast[z])<;>repeat' (first|apply Zi<;>intro _|exact Zo|with_reducible apply Za)<;>try push_cast[z])
  refine AWp.loopI mixed (by kernel_rfl) (ι:=Nat×ByteArray) (fun x=>x.1<=l.length/\x.2.data.toList++CU (decide (x.1=0)) (l.drop x.1)=[123]++CU true l) (fun x=>⟨[(8,.val (.int .i64 x.1)),(7,.val (.string x.2)),(1,.ptr [.val (.int .i64 6),.val (.bool v.b),.val (.int .i64 v.n),.val (.string v.s),.slice (v.list.map Aa) false,.slice (l.map Ac) false] 0)],[],100⟩) (fun x=>l.length-x.1) (0,⟨#[123]⟩) ⟨A0t _,rfl⟩ ?_ fun x hx=>?_
  ·apply Zw<;>push_cast
  ·obtain⟨i,S⟩:=x
   obtain⟨g1,g2⟩:=hx
   simp only at*
   have hS:S.size+(CU (decide (i=0)) (l.drop i)).length+1<=4611686018427387904:=by
    have:=congrArg List.length g2
    rw[A08] at this
    rw[A08,<-this] at hSl
    exact hSl
   push_cast
   refine A6 (fun ha=>?_) (fun ha=>?_)
   ·have hi':i<l.length:=by simpa using ha
    have e1:=AV hi'
    obtain⟨hr,hq⟩:=hrec i hi'
    have w1:IntKind.i64.wrap (↑i+1)=↑i+1:=A9 (by omega) (by omega)
    rw[Tu hi'] at g2 hS
    generalize l.getD i zM=x at*
    obtain⟨ky,x⟩:=x
    simp only at*
    have hz:(⟨(Ct x).toArray⟩:ByteArray).size=(Ct x).length:=by show(Ct x).toArray.size=_;simp
    have hd:(⟨(Ct x).toArray⟩:ByteArray).data.toList=Ct x:=by simp
    generalize Ct x=T at*
    generalize(⟨T.toArray⟩:ByteArray)=E at*
    have hz2:(DT ky).size=(DT ky).data.toList.length:=rfl
    generalize DT ky=K at*
    have z2:(⟨#[58]⟩:ByteArray).size=1:=rfl
    rcases A0M i with h0|h0
    ·subst h0
     rw[if_pos rfl] at g2 hS
     simp only[A08,A0g,A0i] at hS
     (have z:=Za e1<|Za oL<|Za @Ao<|Za z2 @ByteArray.size_append;(try push_cast[z])<;>repeat' (first|apply Zi<;>intro _|refine Zc (hq ..) ?_|refine Zc (hr ..) ?_|exact Zo|with_reducible apply Za)<;>try push_cast[z])
     all_goals first|omega|skip
     refine⟨(1,S++K++⟨#[58]⟩++E),⟨hi',by rw[D7,D7,D7,hd,A05,A05,A05];exact g2⟩,by simp only;omega,?_⟩
     apply Zw<;>push_cast
     all_goals first|exact w1|skip
    ·rw[if_neg (by omega)] at g2 hS
     simp only[A08,A0g,A0i] at hS
     have b1:decide ((0:Int)<i)=true:=decide_eq_true (by omega)
     have z1:(⟨#[44]⟩:ByteArray).size=1:=rfl
     (have z:=Za e1<|Za oL<|Za @Ao<|Za b1<|Za z1<|Za z2 @ByteArray.size_append;(try push_cast[z])<;>repeat' (first|apply Zi<;>intro _|refine Zc (hq ..) ?_|refine Zc (hr ..) ?_|exact Zo|with_reducible apply Za)<;>try push_cast[z])
     all_goals first|omega|skip
     refine⟨(i+1,S++⟨#[44]⟩++K++⟨#[58]⟩++E),⟨hi',by rw[D7,D7,D7,D7,hd,A05,A05,A05,A05];exact g2⟩,by simp only;omega,?_⟩
     apply Zw<;>push_cast
     all_goals first|exact w1|skip
   ·have hi':i=l.length:=by simp at ha;omega
    subst hi'
    rw[List.drop_length] at g2
    have g3:S.data.toList=[123]++CU true l:=by rw[<-g2];cases decide (l.length=0)<;>simp [CU]
    have e:(⟨([123]++CU true l++[125]).toArray⟩:ByteArray)=S++⟨#[125]⟩:=by
     rw[<-g3]
     apply ByteArray.ext
     apply Array.ext'
     rw[ByteArray.data_append,Array.toList_append]
    have z1:(⟨#[125]⟩:ByteArray).size=1:=rfl
    rw[hR.trans e]
    (have z:=Za oL z1;(try push_cast[z])<;>repeat' (first|apply Zi<;>intro _|exact Zo|with_reducible apply Za)<;>try push_cast[z])
    all_goals first|omega|skip
termination_by SizeOf.sizeOf v
decreasing_by
 ·exact GV.list_lt (Ad hi)
 ·exact GV.obj_lt (Ad hi)
theorem r_bare(v:GV):A3 prog 216 [.agg (Aa v)] (.val (.bool (!KO v))):=by
 rw[A0]
 refine Zk [0] func216 rfl ntmps216 results216 fun H Hb=>?_
 ((try push_cast)<;>repeat' (first|apply Zi<;>intro _|exact Zp|with_reducible apply Za)<;>try push_cast)
 all_goals
  clear H Hb
  unfold KO
  rw[Sa]
  generalize v.s.size=z at*
  generalize v.list.length=L at*
  generalize v.obj.length=O at*
  generalize v.kind=k at*
  generalize v.n=n at*
  generalize v.b=b at*
  clear v
  rcases A0M z with hz|hz<;>rcases A0M L with hL|hL<;>rcases A0M O with hO|hO<;>by_cases hn:n=0<;>cases b<;>first|(simp_all;done)|(simp_all;omega)|grind
theorem WO{v:GV}{d:Nat}(h1:KO v=false)(h2:d<=64):Ba v d=if B1 v.s=false then 3 else if CZ v.list (d+1)≠0 then CZ v.list (d+1) else Em none v.obj (d+1):=by
 obtain⟨a1,a2,a3,a4,a5,a6,a7⟩:=E1 h1
 rw[K1,if_neg (by rw[h1];decide),if_neg (by omega)]
 have he:B1 ByteArray.empty=true:=by decide
 by_cases k4:v.kind=4
 ·rw[if_pos k4,a6 (by omega),a7 (by omega)]
  cases B1 v.s<;>simp [CZ,Em]
 ·rw[if_neg k4,a5 k4,he]
  by_cases k5:v.kind=5
  ·rw[if_pos k5,a7 (by omega)]
   simp only[Em]
   by_cases hc:CZ v.list (d+1)=0
   ·rw[hc];rfl
   ·rw[if_neg (by decide),if_pos hc]
  ·rw[if_neg k5,a6 k5]
   by_cases k6:v.kind=6
   ·rw[if_pos k6];simp[CZ]
   ·rw[if_neg k6,a7 k6];simp[CZ,Em]
theorem YA(v:GV)(d:Nat)(hd:d<=65)(hs:Sm v):A3 prog 189 [.agg (Aa v),.val (.int .i64 d)] (.val (.int .i64 (Ba v d))):=by
 have hrec:∀ x,SizeOf.sizeOf x<SizeOf.sizeOf v->d+1<=65->Sm x->A3 prog 189 [.agg (Aa x),.val (.int .i64 ((d:Int)+1))] (.val (.int .i64 (Ba x (d+1)))):=fun x hx h h2=>by
  have:=YA x (d+1) h h2
  rwa[A1G] at this
 have hll:=hs.list_le
 have hol:=hs.obj_le
 have hO:=r_bare v
 have hV:=JW v.s (by have:=hs.text;omega)
 have w1:IntKind.i64.wrap (↑d+1)=↑d+1:=A9 (by omega) (by omega)
 rw[A0] at hO|-
 cases ho:KO v with
 |true=>
  rw[ho] at hO
  rw[K1,if_pos ho]
  refine Zf [0] func189 rfl ntmps189 results189 ?_
  (have z:=trivial;(try push_cast)<;>repeat' (first|apply Zi<;>intro _|refine Zc hO ?_|exact Zp|with_reducible apply Za)<;>try push_cast)
 |false=>
  rw[ho] at hO
  by_cases h64:64<d
  ·rw[K1,if_neg (by rw[ho];decide),if_pos h64]
   have b1:decide ((64:Int)<d)=true:=decide_eq_true (by omega)
   refine Zf [0] func189 rfl ntmps189 results189 ?_
   (have z:=b1;(try push_cast[z])<;>repeat' (first|apply Zi<;>intro _|refine Zc hO ?_|exact Zo|with_reducible apply Za)<;>try push_cast[z])
  ·rw[WO ho (by omega)]
   have b1:decide ((64:Int)<d)=false:=decide_eq_false (by omega)
   cases hv:B1 v.s with
   |false=>
    rw[hv] at hV
    refine Zf [0] func189 rfl ntmps189 results189 ?_
    (have z:=b1;(try push_cast[z])<;>repeat' (first|apply Zi<;>intro _|refine Zc hO ?_|refine Zc hV ?_|exact Zo|with_reducible apply Za)<;>try push_cast[z])
   |true=>
    rw[hv] at hV
    rw[if_neg (by decide)]
    have hrl:∀ i,i<v.list.length->A3 prog 189 [.agg (Aa (v.list.getD i zV)),.val (.int .i64 ((d:Int)+1))] (.val (.int .i64 (Ba (v.list.getD i zV) (d+1)))):=fun i hi=>hrec _ (GV.list_lt (Ad hi)) (by omega) (hs.list _ (Ad hi))
    have hro:∀ i,i<v.obj.length->A3 prog 189 [.agg (Aa (v.obj.getD i zM).2),.val (.int .i64 ((d:Int)+1))] (.val (.int .i64 (Ba (v.obj.getD i zM).2 (d+1))))/\A3 prog 147 [.val (.string (v.obj.getD i zM).1)] (.val (.bool (B1 (v.obj.getD i zM).1))):=fun i hi=>⟨hrec _ (GV.obj_lt (Ad hi)) (by omega) (hs.obj _ (Ad hi)),JW _ (by have:=hs.key _ (Ad (d:=zM) hi);omega)⟩
    refine Zf [0] func189 rfl ntmps189 results189 ?_
    (have z:=b1;(try push_cast[z])<;>repeat' (first|apply Zi<;>intro _|refine Zc hO ?_|refine Zc hV ?_|exact Zo|with_reducible apply Za)<;>try push_cast[z])
    refine Zl (fun i=>i<=v.list.length/\∀ j,j<i->Ba (v.list.getD j zV) (d+1)=0) (fun i=>⟨[(5,.val (.int .i64 i)),(1,.val (.int .i64 d)),(2,.ptr [.val (.int .i64 v.kind),.val (.bool v.b),.val (.int .i64 v.n),.val (.string v.s),.slice (v.list.map Aa) false,.slice (v.obj.map Ac) false] 0)],[],400⟩) (fun i=>v.list.length-i) 0 (by simp) ?_ fun i hi=>?_
    ·apply Zw<;>push_cast
    ·obtain⟨h1,h2⟩:=hi
     push_cast
     refine A6 (fun ha=>?_) (fun ha=>?_)
     ·have hi':i<v.list.length:=by simpa using ha
      have e1:=DM hi'
      have hr:=hrl i hi'
      have hhit:=KR hi' h2
      have w2:IntKind.i64.wrap (↑i+1)=↑i+1:=A9 (by omega) (by omega)
      generalize hx:v.list.getD i zV=x at*
      by_cases hc:Ba x (d+1)=0
      ·rw[hc] at hr
       (have z:=Za e1 w1;(try push_cast[z])<;>repeat' (first|apply Zi<;>intro _|refine Zc (hr ..) ?_|exact Zo|with_reducible apply Za)<;>try push_cast[z])
       all_goals first|omega|skip
       refine⟨i+1,⟨hi',fun j hj=>?_⟩,by omega,?_⟩
       ·by_cases hji:j=i
        ·rw[hji,hx];exact hc
        ·exact h2 j (by omega)
       ·apply Zw<;>push_cast
        all_goals first|exact w2|skip
      ·have b3:(Ba x (d+1) !=0)=true:=by simpa using hc
       rw[hhit hc,if_pos hc]
       generalize Ba x (d+1)=c at*
       (have z:=Za e1<|Za w1 b3;(try push_cast[z])<;>repeat' (first|apply Zi<;>intro _|refine Zc (hr ..) ?_|exact Zo|with_reducible apply Za)<;>try push_cast[z])
       all_goals first|omega|skip
     ·have hi':i=v.list.length:=by simp at ha;omega
      subst hi'
      rw[KS h2,if_neg (by decide)]
      ((try push_cast)<;>repeat' (first|apply Zi<;>intro _|exact Zp|with_reducible apply Za)<;>try push_cast)
      refine AWp.loopI mixed (by kernel_rfl) (ι:=Nat×ByteArray) (fun x=>x.1<=v.obj.length/\(0<x.1->x.2=(v.obj.getD (x.1-1) zM).1)/\∀ j,j<x.1->CD none v.obj (d+1) j=0) (fun x=>⟨[(8,.val (.int .i64 x.1)),(7,.val (.string x.2)),(1,.val (.int .i64 d)),(2,.ptr [.val (.int .i64 v.kind),.val (.bool v.b),.val (.int .i64 v.n),.val (.string v.s),.slice (v.list.map Aa) false,.slice (v.obj.map Ac) false] 0)],[],600⟩) (fun x=>v.obj.length-x.1) (0,⟨#[]⟩) ⟨A0t _,fun h=>absurd h (Nat.lt_irrefl 0),fun j hj=>absurd hj (Nat.not_lt_zero j)⟩ ?_ fun x hx=>?_
      ·apply Zw<;>push_cast
      ·obtain⟨i,q⟩:=x
       obtain⟨h1,hq,h2⟩:=hx
       simp only at*
       push_cast
       refine A6 (fun ha=>?_) (fun ha=>?_)
       ·have hi':i<v.obj.length:=by simpa using ha
        have e1:=AV hi'
        obtain⟨hr,hK⟩:=hro i hi'
        have hhit:=KT hi' h2
        have w2:IntKind.i64.wrap (↑i+1)=↑i+1:=A9 (by omega) (by omega)
        have hnext:CD none v.obj (d+1) i=0->∀ j,j<i+1->CD none v.obj (d+1) j=0:=fun h j hj=>by
         by_cases hji:j=i
         ·rw[hji];exact h
         ·exact h2 j (by omega)
        have hsuc:∀ {k:ByteArray},k=(v.obj.getD i zM).1->(0<i+1->k=(v.obj.getD (i+1-1) zM).1):=fun h _=>h
        cases hv:B1 (v.obj.getD i zM).1 with
        |false=>
         rw[hv] at hK
         have e2:CD none v.obj (d+1) i=3:=by
          rcases A0M i with hz|hz
          ·subst hz;rw[Qk,hv];rfl
          ·rw[Qj _ _ _ hz,hv];rfl
         rw[e2] at hhit
         rw[hhit (by decide)]
         (have z:=Za e1 @Ao;(try push_cast[z])<;>repeat' (first|apply Zi<;>intro _|refine Zc hK ?_|exact Zo|with_reducible apply Za)<;>try push_cast[z])
         all_goals first|omega|skip
        |true=>
         rw[hv] at hK
         rcases A0M i with hz|hz
         ·subst hz
          have e2:CD none v.obj (d+1) 0=Ba (v.obj.getD 0 zM).2 (d+1):=by rw[Qk,hv];rfl
          by_cases hc:Ba (v.obj.getD 0 zM).2 (d+1)=0
          ·rw[hc] at hr
           (have z:=Za e1<|Za @Ao w1;(try push_cast[z])<;>repeat' (first|apply Zi<;>intro _|refine Zc hK ?_|refine Zc (hr ..) ?_|exact Zo|with_reducible apply Za)<;>try push_cast[z])
           all_goals first|omega|skip
           refine⟨(1,(v.obj.getD 0 zM).1),⟨hi',fun _=>rfl,hnext (by rw[e2];exact hc)⟩,by simp only;omega,?_⟩
           apply Zw<;>push_cast
           all_goals first|exact w2|skip
          ·rw[e2] at hhit
           have b3:(Ba (v.obj.getD 0 zM).2 (d+1) !=0)=true:=by simpa using hc
           rw[hhit hc]
           generalize Ba (v.obj.getD 0 zM).2 (d+1)=c at*
           (have z:=Za e1<|Za @Ao<|Za w1 b3;(try push_cast[z])<;>repeat' (first|apply Zi<;>intro _|refine Zc hK ?_|refine Zc (hr ..) ?_|exact Zo|with_reducible apply Za)<;>try push_cast[z])
           all_goals first|omega|skip
         ·have b4:decide ((0:Int)<i)=true:=decide_eq_true (by omega)
          have e0:=Qj v.obj (d+1) i hz
          rw[<-hq hz,hv,if_neg (by decide)] at e0
          cases hlt:ltS q (v.obj.getD i zM).1 with
          |false=>
           rw[hlt,if_pos rfl] at e0
           rw[e0] at hhit
           rw[hhit (by decide)]
           (have z:=Za e1<|Za @Ao<|Za w1<|Za b4 @hlt;(try push_cast[z])<;>repeat' (first|apply Zi<;>intro _|refine Zc hK ?_|exact Zo|with_reducible apply Za)<;>try push_cast[z])
           all_goals first|omega|skip
          |true=>
           rw[hlt,if_neg (by decide)] at e0
           by_cases hc:Ba (v.obj.getD i zM).2 (d+1)=0
           ·rw[hc] at hr
            (have z:=Za e1<|Za @Ao<|Za w1<|Za b4 @hlt;(try push_cast[z])<;>repeat' (first|apply Zi<;>intro _|refine Zc hK ?_|refine Zc (hr ..) ?_|exact Zo|with_reducible apply Za)<;>try push_cast[z])
            all_goals first|omega|skip
            refine⟨(i+1,(v.obj.getD i zM).1),⟨hi',fun _=>rfl,hnext (by rw[e0];exact hc)⟩,by simp only;omega,?_⟩
            apply Zw<;>push_cast
            all_goals first|exact w2|skip
           ·rw[e0] at hhit
            have b3:(Ba (v.obj.getD i zM).2 (d+1) !=0)=true:=by simpa using hc
            rw[hhit hc]
            generalize Ba (v.obj.getD i zM).2 (d+1)=c at*
            (have z:=Za e1<|Za @Ao<|Za w1<|Za b3<|Za b4 @hlt;(try push_cast[z])<;>repeat' (first|apply Zi<;>intro _|refine Zc hK ?_|refine Zc (hr ..) ?_|exact Zo|with_reducible apply Za)<;>try push_cast[z])
            all_goals first|omega|skip
       ·have hi':i=v.obj.length:=by simp at ha;omega
        subst hi'
        rw[KU h2]
        ((try push_cast)<;>repeat' (first|apply Zi<;>intro _|exact Zp|with_reducible apply Za)<;>try push_cast)
termination_by SizeOf.sizeOf v
theorem r_vMay(v:GV)(hs:Sm v):A3 prog 144 [.agg (Aa v)] (.val (.int .i64 (Ba v 1))):=by
 have h:A3 prog 189 [.agg (Aa v),.val (.int .i64 1)] (.val (.int .i64 (Ba v 1))):=YA v 1 (by omega) hs
 rw[A0] at h|-
 refine Zf [0] func144 rfl ntmps144 results144 ?_
 (have z:=trivial;(try push_cast)<;>repeat' (first|apply Zi<;>intro _|refine Zc h ?_|exact Zp|with_reducible apply Za)<;>try push_cast)
def F8(v:GV):List GV:=if v.kind=5 then v.list else if v.kind=6 then v.obj.map (·.2) else []
theorem UD(v:GV):C4 v=1+BX (F8 v):=by
 rw[Ng]
 unfold F8
 split
 ·rfl
 ·split
  ·rw[Nf]
  ·simp[BX]
theorem YT(v:GV)(hs:Sm v):A4 prog 190 [.agg (Aa v)] [] (.gref 2 (F8 v).length) [(2,.grow ((F8 v).map Aa) 6)]:=by
 have hll:=hs.list_le
 have hol:=hs.obj_le
 rw[A0]
 unfold F8
 by_cases k5:v.kind=5
 ·rw[if_pos k5,k5]
  generalize v.list=l at*
  have oL:=AA (f:=Aa) Bh l
  refine Zd [8] func190 rfl ntmps190 results190 ?_
  have hl6:∀ y ∈ l.map Aa,y.length=6:=fun y hy=>by obtain⟨x,_,rfl⟩:=A0j.1 hy;exact AS x
  (have z:=oL;(try push_cast[z])<;>repeat' (first|apply Zi<;>intro _|exact Zo|with_reducible apply Za)<;>try push_cast[z])
  all_goals first|omega|exact hl6|(intro y hy;cases hy;done)|skip
  apply Zr [(2,80)] rfl<;>push_cast [oL]
 ·rw[if_neg k5]
  have e5:(v.kind==5)=false:=by simpa using k5
  by_cases k6:v.kind=6
  ·rw[if_pos k6,k6]
   generalize v.obj=l at*
   have oL:=AA (f:=Ac) Bd l
   refine Zd [8] func190 rfl ntmps190 results190 ?_
   (have z:=oL;(try push_cast[z])<;>repeat' (first|apply Zi<;>intro _|exact Zo|with_reducible apply Za)<;>try push_cast[z])
   all_goals first|omega|skip
   refine Zl (fun i=>i<=l.length) (fun i=>⟨[(4,.val (.int .i64 i)),(3,.gref 160 i),(1,.ptr [.val (.int .i64 6),.val (.bool v.b),.val (.int .i64 v.n),.val (.string v.s),.slice (v.list.map Aa) false,.slice (l.map Ac) false] 0)],[(160,.grow (((l.take i).map (·.2)).map Aa) 6)],100⟩) (fun i=>l.length-i) 0 (A0t _) ?_ fun i hi=>?_
   ·refine Ar.trans (s':=⟨[(3,.slice [] true),(4,.val (.int .i64 0)),(1,.ptr [.val (.int .i64 6),.val (.bool v.b),.val (.int .i64 v.n),.val (.string v.s),.slice (v.list.map Aa) false,.slice (l.map Ac) false] 0)],[],80⟩) ?_ ?_
    ·apply Zw<;>push_cast
    refine Ar.trans (Ar.nilgrowE 6) ?_
    apply Zw<;>push_cast
   ·push_cast
    refine A6 (fun ha=>?_) (fun ha=>?_)
    ·have hi':i<l.length:=by simpa using ha
     have e1:=AV hi'
     have w2:IntKind.i64.wrap (↑i+1)=↑i+1:=A9 (by omega) (by omega)
     have et:((l.take (i+1)).map (·.2)).map Aa=((l.take i).map (·.2)).map Aa++[Aa (l.getD i zM).2]:=by
      rw[A10 hi',A12,A12]
      simp[A03,A06 hi']
     have hln:(((l.take i).map (·.2)).map Aa).length=i:=by simp;omega
     have oX:=Bh (l.getD i zM).2
     have oT:=J0 ((l.take i).map (·.2))
     generalize l.getD i zM=x at*
     have h6:=AS x.2
     have t6:=HL x.2
     have hone:∀ d ∈ Aa x.2,BF d=true:=fun d hd=>by
      rw[A0] at hd
      simp only[A0o,A1i,or_false] at hd
      rcases hd with rfl|rfl|rfl|rfl|rfl|rfl<;>rfl
     have hl6:∀ y ∈ ((l.take i).map (·.2)).map Aa,y.length=6:=fun y hy=>by obtain⟨x,_,rfl⟩:=A0j.1 hy;exact AS x
     generalize((l.take i).map (·.2)).map Aa=Y at*
     (have z:=Za e1<|Za oL<|Za @Ao<|Za oX<|Za oT<|Za h6<|Za t6 @hln;(try push_cast[z])<;>repeat' (first|apply Zi<;>intro _|exact Zo|with_reducible apply Za)<;>try push_cast[z])
     all_goals first|omega|skip
     all_goals first|(intro y hy;cases A0d.1 hy;exact h6)|(intro y hy d hd;cases A0d.1 hy;exact hone d hd)|skip
     refine⟨i+1,hi',by omega,?_⟩
     rw[et]
     apply Zr [(160,304)] rfl<;>push_cast [oL,oT]
     all_goals first|exact w2|skip
    ·have hi':i=l.length:=by simp at ha;omega
     subst hi'
     rw[A0Q]
     (have z:=oL;(try push_cast[z])<;>repeat' (first|apply Zi<;>intro _|exact Zo|with_reducible apply Za)<;>try push_cast[z])
     all_goals first|omega|skip
     apply Zr [(2,160)] rfl<;>push_cast [oL]
  ·rw[if_neg k6]
   have e6:(v.kind==6)=false:=by simpa using k6
   refine Zd [8] func190 rfl ntmps190 results190 ?_
   (have z:=Za e5 e6;(try push_cast[z])<;>repeat' (first|apply Zi<;>intro _|exact Zo|with_reducible apply Za)<;>try push_cast[z])
   refine Ar.trans (Ar.nilgrowE 6) ?_
   apply Zr [(2,96)] rfl<;>push_cast
theorem kidsV_lt{v x:GV}(h:x ∈ F8 v):SizeOf.sizeOf x<SizeOf.sizeOf v:=by
 unfold F8 at h
 split at h
 ·exact GV.list_lt h
 ·split at h
  ·obtain⟨p,hp,rfl⟩:=A0j.1 h
   exact GV.obj_lt hp
  ·cases h
theorem kidsV_sm{v x:GV}(hs:Sm v)(h:x ∈ F8 v):Sm x:=by
 unfold F8 at h
 split at h
 ·exact hs.list x h
 ·split at h
  ·obtain⟨p,hp,rfl⟩:=A0j.1 h
   exact hs.obj p hp
  ·cases h
theorem X1{v:GV}(hs:Sm v):(F8 v).length<=1048576:=by
 unfold F8
 split
 ·exact hs.list_le
 ·split
  ·rw[A0b];exact hs.obj_le
  ·simp
theorem YU(v:GV)(hs:Sm v)(hb:C4 v<=65):A3 prog 145 [.agg (Aa v)] (.val (.int .i64 (C4 v:Nat))):=by
 have hW:=YT v hs
 have hln:=X1 hs
 rw[UD] at hb|-
 have hrec:∀ i,i<(F8 v).length->A3 prog 145 [.agg (Aa ((F8 v).getD i zV))] (.val (.int .i64 (C4 ((F8 v).getD i zV):Nat))):=fun i hi=>
  YU _ (kidsV_sm hs (Ad hi)) (by have:=Nd (Ad (d:=zV) hi);omega)
 generalize F8 v=l at*
 have oL:=J0 l
 rw[A0 v] at hW|-
 refine Zf [0] func145 rfl ntmps145 results145 ?_
 (have z:=oL;(try push_cast[z])<;>repeat' (first|apply Zi<;>intro _|refine Zs [] hW ?_|exact Zo|with_reducible apply Za)<;>try push_cast[z])
 refine Zl (fun i=>i<=l.length) (fun i=>⟨[(5,.val (.int .i64 i)),(4,.gref 34 l.length),(3,.val (.int .i64 (BX (l.take i):Nat)))],[(34,.grow (l.map Aa) 6)],60⟩) (fun i=>l.length-i) 0 (by simp) ?_ fun i hi=>?_
 ·apply Zw<;>push_cast
  all_goals simp[BX]
 ·push_cast
  refine⟨by omega,?_⟩
  refine A6 (fun ha=>?_) (fun ha=>?_)
  ·have hi':i<l.length:=by simpa using ha
   have e1:=DM hi'
   have hr:=hrec i hi'
   have e2:=LE hi'
   have hx6:=AS (l.getD i zV)
   have tx6:=HL (l.getD i zV)
   have w1:IntKind.i64.wrap (↑i+1)=↑i+1:=A9 (by omega) (by omega)
   generalize l.getD i zV=x at*
   generalize BX (l.take i)=D0 at*
   by_cases hc:D0<C4 x
   ·have b1:decide ((D0:Int)<C4 x)=true:=decide_eq_true (by omega)
    (have z:=Za e1<|Za oL b1;(try push_cast[z])<;>repeat' (first|apply Zi<;>intro _|refine Zc (hr ..) ?_|exact Zo|with_reducible apply Za)<;>try push_cast[z])
    all_goals first|omega|skip
    refine⟨i+1,hi',by omega,?_⟩
    have e3:BX (l.take (i+1))=C4 x:=by omega
    rw[e3]
    apply Zw<;>push_cast
    all_goals first|exact w1|skip
   ·have b1:decide ((D0:Int)<C4 x)=false:=decide_eq_false (by omega)
    (have z:=Za e1<|Za oL b1;(try push_cast[z])<;>repeat' (first|apply Zi<;>intro _|refine Zc (hr ..) ?_|exact Zo|with_reducible apply Za)<;>try push_cast[z])
    all_goals first|omega|skip
    refine⟨i+1,hi',by omega,?_⟩
    have e3:BX (l.take (i+1))=D0:=by omega
    rw[e3]
    apply Zw<;>push_cast
    all_goals first|exact w1|skip
  ·have hi':i=l.length:=by simp at ha;omega
   subst hi'
   rw[A0Q]
   ((try push_cast)<;>repeat' (first|apply Zi<;>intro _|exact Zp|with_reducible apply Za)<;>try push_cast)
   rw[A9 (by omega) (by omega)]
   omega
termination_by SizeOf.sizeOf v
decreasing_by exact kidsV_lt (Ad hi)
theorem KH(v:GV)(hs:Sm v)(hw:wtV v<=2097152):A3 prog 95 [.agg (Aa v)] (.val (.int .i64 (Al v))):=by
 have hM:=r_vMay v hs
 unfold Al
 by_cases h1:Ba v 1=0
 ·rw[if_neg (by simpa using h1)]
  rw[h1] at hM
  have hd:=Kl v 1 h1
  have hD:=YU v hs (by omega)
  have hlb:=Qo v hs
  have hT:=U6 v 1 h1 hs (by omega)
  have hsz:(⟨(Ct v).toArray⟩:ByteArray).size=CM v:=by
   show(Ct v).toArray.size=_
   rw[A0H,HK v 1 h1]
  generalize(⟨(Ct v).toArray⟩:ByteArray)=T at*
  rw[A0 v] at hM hD hT|-
  by_cases h2:16<C4 v
  ·rw[if_pos h2]
   have b1:decide ((16:Int)<C4 v)=true:=decide_eq_true (by omega)
   refine Zf [0] func95 rfl ntmps95 results95 ?_
   (have z:=b1;(try push_cast[z])<;>repeat' (first|apply Zi<;>intro _|refine Zc hM ?_|refine Zc hD ?_|exact Zo|with_reducible apply Za)<;>try push_cast[z])
  ·rw[if_neg h2]
   have b1:decide ((16:Int)<C4 v)=false:=decide_eq_false (by omega)
   by_cases h3:1024<CM v
   ·rw[if_pos h3]
    have b2:decide ((1024:Int)<CM v)=true:=decide_eq_true (by omega)
    refine Zf [0] func95 rfl ntmps95 results95 ?_
    (have z:=Za b1<|Za b2 @hsz;(try push_cast[z])<;>repeat' (first|apply Zi<;>intro _|refine Zc hM ?_|refine Zc hD ?_|refine Zc hT ?_|exact Zo|with_reducible apply Za)<;>try push_cast[z])
    all_goals first|omega|skip
   ·rw[if_neg h3]
    have b2:decide ((1024:Int)<CM v)=false:=decide_eq_false (by omega)
    refine Zf [0] func95 rfl ntmps95 results95 ?_
    (have z:=Za b1<|Za b2 @hsz;(try push_cast[z])<;>repeat' (first|apply Zi<;>intro _|refine Zc hM ?_|refine Zc hD ?_|refine Zc hT ?_|exact Zo|with_reducible apply Za)<;>try push_cast[z])
    all_goals first|omega|skip
 ·rw[if_pos h1]
  have b1:(Ba v 1 !=0)=true:=by simpa using h1
  rw[A0 v] at hM|-
  generalize Ba v 1=c at*
  refine Zf [0] func95 rfl ntmps95 results95 ?_
  (have z:=b1;(try push_cast[z])<;>repeat' (first|apply Zi<;>intro _|refine Zc hM ?_|exact Zo|with_reducible apply Za)<;>try push_cast[z])
noncomputable def QV(s:ByteArray):Bool:=decide ((s.size:Int)<=64)&&B1 s
theorem LH(s:ByteArray):A3 prog 154 [.val (.string s)] (.val (.bool (QV s))):=by
 have h:=GP s
 refine Zk [] func154 rfl ntmps154 results154 fun H Hb=>?_
 (have z:=trivial;(try push_cast)<;>repeat' (first|apply Zi<;>intro _|refine Zc h ?_|exact Zp|with_reducible apply Za)<;>try push_cast)
 all_goals(clear H Hb h;first|(simp_all [QV];done)|(simp_all [QV];omega))
noncomputable def Cy(m:GM):Bool:=if m.kind==6 then QV m.key&&QV m.to else if m.kind==7&&noS m.key then !m.had else C7 m.key==0
theorem VO(m:GM):A3 prog 114 [.agg (Aj m)] (.val (.bool (Cy m))):=by
 have h1:=LH m.key
 have h2:=LH m.to
 have h3:=Nr m.key
 rw[Ae,A0 m.was,A0 m.value]
 simp only[A07,A09,A05]
 refine Zk [0] func114 rfl ntmps114 results114 fun H Hb=>?_
 (have z:=trivial;(try push_cast)<;>repeat' (first|apply Zi<;>intro _|refine Zc h1 ?_|refine Zc h2 ?_|refine Zc h3 ?_|exact Zp|with_reducible apply Za)<;>try push_cast)
 all_goals(clear H Hb h1 h2 h3;simp_all [Cy,Dr])
mutual
noncomputable def Ay(F:GV->Int):GM->Nat->Int
 |.mk kd k t n h w i v l,d=>
  if AD (.mk kd k t n h w i v l)=true then 9 else if 6<d then 5 else if Cy (.mk kd k t n h w i v l)=false then 8
  else if h=true/\F w≠0 then F w
  else if(kd=1∨kd=5∨kd=4/\i=true)/\F v≠0 then F v
  else BP F l (d+1)
noncomputable def BP(F:GV->Int):List GM->Nat->Int
 |[],_=>0
 |m::l,d=>if Ay F m d≠0 then Ay F m d else BP F l d
end
theorem K5(F:GV->Int)(m:GM)(d:Nat):Ay F m d=if AD m=true then 9 else if 6<d then 5 else if Cy m=false then 8
  else if m.had=true/\F m.was≠0 then F m.was
  else if(m.kind=1∨m.kind=5∨m.kind=4/\m.has=true)/\F m.value≠0 then F m.value
  else BP F m.list (d+1):=by cases m;rfl
theorem Fk{F:GV->Int}{d:Nat}:∀ {l:List GM},BP F l d=0->∀ i,i<l.length->Ay F (l.getD i zU) d=0
 |[],_,i,h=>by simp at h
 |m::l,h,i,hi=>by
  simp only[BP] at h
  split at h
  ·rename_i h1;exact absurd h h1
  ·rename_i h1
   cases i with
   |zero=>simpa using h1
   |succ i=>simpa using Fk h i (by simpa using hi)
theorem MK{F:GV->Int}{d:Nat}:∀ {l:List GM},BP F l d≠0->∃ J,J<l.length/\(∀ i,i<J->Ay F (l.getD i zU) d=0)/\Ay F (l.getD J zU) d=BP F l d
 |[],h=>by simp[BP] at h
 |m::l,h=>by
  simp only[BP] at h|-
  by_cases h1:Ay F m d≠0
  ·exact⟨0,by simp,fun i hi=>by omega,by simp[h1]⟩
  ·simp only[if_neg h1] at h|-
   obtain⟨J,a,b,c⟩:=MK h
   refine⟨J+1,by simpa using a,fun i hi=>?_,by simpa using c⟩
   cases i with
   |zero=>simpa using h1
   |succ i=>simpa using b i (by omega)
inductive SmU:GM->Prop where
 |mk (m:GM) (was:Sm m.was) (value:Sm m.value) (key:m.key.size<=1048576) (totext:m.to.size<=1048576) (len:m.list.length<=1048576) (list:∀ x ∈ m.list,SmU x):SmU m
mutual
def wtU:GM->Nat
 |.mk _ k t _ _ w _ v l=>k.size+t.size+wtV w+wtV v+(l.length+Rm l)
def Rm:List GM->Nat
 |[]=>0
 |m::l=>wtU m+Rm l
end
theorem Kq(m:GM):wtU m=m.key.size+m.to.size+wtV m.was+wtV m.value+(m.list.length+Rm m.list):=by cases m;rfl
theorem FH{l:List GM}{x:GM}(h:x ∈ l):wtU x<=Rm l:=by
 induction l with
 |nil=>cases h
 |cons y l ih=>
  simp only[Rm]
  rcases A0o.1 h with rfl|h
  ·omega
  ·have:=ih h;omega
section
variable{F:GV->Int}(hF:∀ v,Sm v->wtV v<=2097152->A3 prog 116 [.agg (Aa v)] (.val (.int .i64 (F v))))
include hF
theorem QM(m:GM)(d:Nat)(hm:SmU m)(hwt:wtU m<=2097152)(hd:d<=1000)(h0:Ay F m d=0):A3 prog 73 [.agg (Aj m),.val (.int .i64 d)] (.tup []):=by
 have hrec:∀ x,SizeOf.sizeOf x<SizeOf.sizeOf m->SmU x->wtU x<=2097152->d+1<=1000->Ay F x (d+1)=0->A3 prog 73 [.agg (Aj x),.val (.int .i64 ((d+1:Nat):Int))] (.tup []):=fun x _ h1 h4 h2 h3=>QM x (d+1) h1 h4 h2 h3
 obtain⟨_,hw,hv,hk,ht,hl,hls⟩:=hm
 rw[K5] at h0
 have s1:AD m=false:=by cases h:AD m<;>simp [h] at h0|-
 rw[if_neg (by simp[s1])] at h0
 have s2:d<=6:=by
  rcases A0v 6 d with h|h
  ·simp[h] at h0
  ·exact h
 rw[if_neg (by omega)] at h0
 have s3:Cy m=true:=by cases h:Cy m<;>simp [h] at h0|-
 rw[if_neg (by simp[s3])] at h0
 have s4:m.had=true->F m.was=0:=fun h=>Classical.byContradiction fun h2=>by rw[if_pos ⟨h,h2⟩] at h0;exact h2 h0
 rw[if_neg (fun h=>h.2 (s4 h.1))] at h0
 have s5:(m.kind=1∨m.kind=5∨m.kind=4/\m.has=true)->F m.value=0:=fun h=>Classical.byContradiction fun h2=>by rw[if_pos ⟨h,h2⟩] at h0;exact h2 h0
 rw[if_neg (fun h=>h.2 (s5 h.1))] at h0
 have k1:=PG m
 have k3:=VO m
 rw[s1] at k1
 rw[s3] at k3
 have hwe:=Kq m
 have k4:=hF m.was hw (by omega)
 have k5:=hF m.value hv (by omega)
 have b2:decide ((d:Int)<=6)=true:=decide_eq_true (by omega)
 have w1:IntKind.i64.wrap (↑d+1)=↑d+1:=A9 (by omega) (by omega)
 have k0:(m.had=true->A3 prog 115 [.val (.int .i64 (F m.was))] (.tup [])):=fun h=>by rw[s4 h];exact QL
 have k6:(m.kind=1∨m.kind=5∨m.kind=4/\m.has=true)->A3 prog 115 [.val (.int .i64 (F m.value))] (.tup []):=fun h=>by rw[s5 h];exact QL
 have hls':∀ i,i<m.list.length->A3 prog 73 [.agg (Aj (m.list.getD i zU)),.val (.int .i64 ((d:Int)+1))] (.tup []):=fun i hi=>by
  have:=hrec _ (GM.list_lt (Ad hi)) (hls _ (Ad hi)) (by have:=FH (Ad (d:=zU) hi);omega) (by omega) (Fk h0 i hi)
  rwa[A1G] at this
 clear h0 hrec hF
 rw[Ae] at*
 generalize F m.was=fw at*
 generalize F m.value=fv at*
 rw[A0] at k4 k5
 simp only[A0 m.was,A0 m.value,A07,A09,A05] at*
 refine Zf [0] func73 rfl ntmps73 results73 ?_
 (have z:=b2;(try push_cast[z])<;>repeat' (first|apply Zi<;>intro _|refine Zc k1 ?_|refine Zc k3 ?_|refine Zc k4 ?_|refine Zc k5 ?_|refine Zc (JJ ..) ?_|exact Zo|with_reducible apply Za|(with_reducible show Af _ _ _ _ _ _ _ _;refine Af.call (by(try push_cast[z]);exact k0 (by assumption)) (by first|exact .inl rfl|exact .inr ⟨_,_,_,rfl,rfl,rfl⟩) rfl (by first|rfl|push_cast [z]) ?_)<;>try push_cast[z]|(with_reducible show Af _ _ _ _ _ _ _ _;refine Af.call (by(try push_cast[z]);exact k6 (by simp_all)) (by first|exact .inl rfl|exact .inr ⟨_,_,_,rfl,rfl,rfl⟩) rfl (by first|rfl|push_cast [z]) ?_)<;>try push_cast[z]|fail)<;>try push_cast[z])
 all_goals
  refine Zl (fun i=>i<=m.list.length) (fun i=>⟨[(46,.val (.int .i64 i)),(45,.val (.int .i64 m.list.length)),(44,.slice (m.list.map Aj) false),(1,.val (.int .i64 d))],[],400⟩) (fun i=>m.list.length-i) 0 (by simp) ?_ fun i hi=>?_
  ·apply Zw<;>push_cast
  ·push_cast
   refine A6 (fun ha=>?_) (fun ha=>?_)
   ·have hi':i<m.list.length:=by simpa using ha
    have e1:=Cd hi'
    have hr:=hls' i hi'
    (have z:=Za e1 w1;(try push_cast[z])<;>repeat' (first|apply Zi<;>intro _|refine Zc (hr ..) ?_|exact Zo|with_reducible apply Za)<;>try push_cast[z])
    all_goals first|omega|skip
    refine⟨i+1,hi',by omega,?_⟩
    apply Zw<;>push_cast
    exact A9 (by omega) (by omega)
   ·((try push_cast)<;>repeat' (first|apply Zi<;>intro _|exact Zp|with_reducible apply Za)<;>try push_cast)
termination_by SizeOf.sizeOf m
end
section
variable{F:GV->Int}(hF:∀ v,Sm v->wtV v<=2097152->A3 prog 116 [.agg (Aa v)] (.val (.int .i64 (F v))))
include hF
theorem Z4(m:GM)(d:Nat)(hm:SmU m)(hwt:wtU m<=2097152)(hd:d<=1000)(h0:Ay F m d≠0):Fg prog 73 [.agg (Aj m),.val (.int .i64 d)] (wD (Ay F m d)):=by
 have hrec:∀ x,SizeOf.sizeOf x<SizeOf.sizeOf m->SmU x->wtU x<=2097152->d+1<=1000->Ay F x (d+1)≠0->Fg prog 73 [.agg (Aj x),.val (.int .i64 ((d+1:Nat):Int))] (wD (Ay F x (d+1))):=fun x _ h1 h4 h2 h3=>Z4 x (d+1) h1 h4 h2 h3
 have hok:∀ x,SmU x->wtU x<=2097152->d+1<=1000->Ay F x (d+1)=0->A3 prog 73 [.agg (Aj x),.val (.int .i64 ((d+1:Nat):Int))] (.tup []):=fun x h1 h4 h2 h3=>QM hF x (d+1) h1 h4 h2 h3
 obtain⟨_,hw,hv,hk,ht,hl,hls⟩:=hm
 rw[K5] at h0|-
 have k1:=PG m
 have k3:=VO m
 have hwe:=Kq m
 have k4:=hF m.was hw (by omega)
 have k5:=hF m.value hv (by omega)
 by_cases s1:AD m=true
 ·simp only[if_pos s1]
  rw[s1] at k1
  clear hrec hok h0
  rw[Ae m] at*
  rw[A0 m.was,A0 m.value] at*
  simp only[A07,A09,A05] at*
  refine Fg.of_awp func73 rfl ntmps73 (by kernel_rfl) (by simp) (AWp.sz fun H Hb=>VC.sound (fz:=[0]) mixed (by kernel_rfl) ?_)
  (have z:=trivial;(try push_cast)<;>repeat' (first|apply Zi<;>intro _|refine Zc k1 ?_|exact Zp|with_reducible apply Za|(with_reducible show Af _ _ _ _ _ _ _ _;refine Af.pan (by(try push_cast);exact Q9 ..) rfl (by first|rfl|push_cast) rfl ?_)<;>try push_cast|fail)<;>try push_cast)
  all_goals first|exact ⟨An _,rfl⟩|skip
 ·simp only[if_neg s1] at h0|-
  have s1:AD m=false:=by simpa using s1
  rw[s1] at k1
  by_cases s2:6<d
  ·simp only[if_pos s2]
   have b2:decide ((d:Int)<=6)=false:=decide_eq_false (by omega)
   clear hrec hok h0
   rw[Ae m] at*
   rw[A0 m.was,A0 m.value] at*
   simp only[A07,A09,A05] at*
   refine Fg.of_awp func73 rfl ntmps73 (by kernel_rfl) (by simp) (AWp.sz fun H Hb=>VC.sound (fz:=[0]) mixed (by kernel_rfl) ?_)
   (have z:=b2;(try push_cast[z])<;>repeat' (first|apply Zi<;>intro _|refine Zc k1 ?_|refine Zc (JJ ..) ?_|exact Zo|with_reducible apply Za|(with_reducible show Af _ _ _ _ _ _ _ _;refine Af.pan (by(try push_cast[z]);exact Q9 ..) rfl (by first|rfl|push_cast [z]) rfl ?_)<;>try push_cast[z]|fail)<;>try push_cast[z])
   all_goals first|exact ⟨An _,rfl⟩|skip
  ·simp only[if_neg s2] at h0|-
   have b2:decide ((d:Int)<=6)=true:=decide_eq_true (by omega)
   by_cases s3:Cy m=false
   ·simp only[if_pos s3]
    rw[s3] at k3
    clear hrec hok h0
    rw[Ae m] at*
    rw[A0 m.was,A0 m.value] at*
    simp only[A07,A09,A05] at*
    refine Fg.of_awp func73 rfl ntmps73 (by kernel_rfl) (by simp) (AWp.sz fun H Hb=>VC.sound (fz:=[0]) mixed (by kernel_rfl) ?_)
    (have z:=b2;(try push_cast[z])<;>repeat' (first|apply Zi<;>intro _|refine Zc k1 ?_|refine Zc k3 ?_|refine Zc (JJ ..) ?_|exact Zo|with_reducible apply Za|(with_reducible show Af _ _ _ _ _ _ _ _;refine Af.pan (by(try push_cast[z]);exact Q9 ..) rfl (by first|rfl|push_cast [z]) rfl ?_)<;>try push_cast[z]|fail)<;>try push_cast[z])
    all_goals first|exact ⟨An _,rfl⟩|skip
   ·simp only[if_neg s3] at h0|-
    have s3:Cy m=true:=by simpa using s3
    rw[s3] at k3
    by_cases s4:m.had=true/\F m.was≠0
    ·simp only[if_pos s4]
     obtain⟨hh,hf⟩:=s4
     clear hrec hok h0
     rw[Ae m] at*
     generalize F m.was=fw at*
     rw[A0 m.was,A0 m.value] at*
     simp only[A07,A09,A05] at*
     have hp:=Z3 fw hf
     refine Fg.of_awp func73 rfl ntmps73 (by kernel_rfl) (by simp) (AWp.sz fun H Hb=>VC.sound (fz:=[0]) mixed (by kernel_rfl) ?_)
     (have z:=b2;(try push_cast[z])<;>repeat' (first|apply Zi<;>intro _|refine Zc k1 ?_|refine Zc k3 ?_|refine Zc (JJ ..) ?_|refine Zc k4 ?_|exact Zo|with_reducible apply Za|(with_reducible show Af _ _ _ _ _ _ _ _;refine Af.pan (by(try push_cast[z]);exact hp ..) rfl (by first|rfl|push_cast [z]) rfl ?_)<;>try push_cast[z]|fail)<;>try push_cast[z])
     all_goals first|exact ⟨An _,rfl⟩|exact absurd hh (by rw[‹m.had=false›];decide)|skip
    ·simp only[if_neg s4] at h0|-
     have k0:(m.had=true->A3 prog 115 [.val (.int .i64 (F m.was))] (.tup [])):=fun h=>by
      have:F m.was=0:=Classical.byContradiction fun h2=>s4 ⟨h,h2⟩
      rw[this];exact QL
     by_cases s5:(m.kind=1∨m.kind=5∨m.kind=4/\m.has=true)/\F m.value≠0
     ·simp only[if_pos s5]
      obtain⟨hh,hf⟩:=s5
      have hp:=Z3 (F m.value) hf
      clear hrec hok h0
      rw[Ae m] at*
      generalize F m.was=fw at*
      generalize F m.value=fv at*
      rw[A0 m.was,A0 m.value] at*
      simp only[A07,A09,A05] at*
      refine Fg.of_awp func73 rfl ntmps73 (by kernel_rfl) (by simp) (AWp.sz fun H Hb=>VC.sound (fz:=[0]) mixed (by kernel_rfl) ?_)
      (have z:=b2;(try push_cast[z])<;>repeat' (first|apply Zi<;>intro _|refine Zc k1 ?_|refine Zc k3 ?_|refine Zc (JJ ..) ?_|refine Zc k4 ?_|refine Zc k5 ?_|exact Zo|with_reducible apply Za|(with_reducible show Af _ _ _ _ _ _ _ _;refine Af.call (by(try push_cast[z]);exact k0 (by assumption)) (by first|exact .inl rfl|exact .inr ⟨_,_,_,rfl,rfl,rfl⟩) rfl (by first|rfl|push_cast [z]) ?_)<;>try push_cast[z]|(with_reducible show Af _ _ _ _ _ _ _ _;refine Af.pan (by(try push_cast[z]);exact hp ..) rfl (by first|rfl|push_cast [z]) rfl ?_)<;>try push_cast[z]|fail)<;>try push_cast[z])
      all_goals first|exact ⟨An _,rfl⟩|(exfalso;simp_all;done)|skip
     ·simp only[if_neg s5] at h0|-
      have k6:(m.kind=1∨m.kind=5∨m.kind=4/\m.has=true)->A3 prog 115 [.val (.int .i64 (F m.value))] (.tup []):=fun h=>by
       have:F m.value=0:=Classical.byContradiction fun h2=>s5 ⟨h,h2⟩
       rw[this];exact QL
      obtain⟨J,hJ,hz,hj⟩:=MK h0
      have w1:IntKind.i64.wrap (↑d+1)=↑d+1:=A9 (by omega) (by omega)
      have hls':∀ i,i<J->A3 prog 73 [.agg (Aj (m.list.getD i zU)),.val (.int .i64 ((d:Int)+1))] (.tup []):=fun i hi=>by
       have:=hok (m.list.getD i zU) (hls _ (Ad (by omega))) (by have:=FH (Ad (d:=zU) (show i<m.list.length by omega));omega) (by omega) (hz i hi)
       rwa[A1G] at this
      have hp:Fg prog 73 [.agg (Aj (m.list.getD J zU)),.val (.int .i64 ((d:Int)+1))] (wD (BP F m.list (d+1))):=by
       have:=hrec (m.list.getD J zU) (GM.list_lt (Ad hJ)) (hls _ (Ad hJ)) (by have:=FH (Ad (d:=zU) hJ);omega) (by omega) (by rw[hj];exact h0)
       rwa[A1G,hj] at this
      generalize BP F m.list (d+1)=c at*
      clear hrec hok hF
      rw[Ae m] at*
      generalize F m.was=fw at*
      generalize F m.value=fv at*
      rw[A0 m.was] at k4
      rw[A0 m.value] at k5
      simp only[A0 m.was,A0 m.value,A07,A09,A05] at*
      refine Fg.of_awp func73 rfl ntmps73 (by kernel_rfl) (by simp) (AWp.sz fun H Hb=>VC.sound (fz:=[0]) mixed (by kernel_rfl) ?_)
      (have z:=b2;(try push_cast[z])<;>repeat' (first|apply Zi<;>intro _|refine Zc k1 ?_|refine Zc k3 ?_|refine Zc k4 ?_|refine Zc k5 ?_|refine Zc (JJ ..) ?_|exact Zo|with_reducible apply Za|(with_reducible show Af _ _ _ _ _ _ _ _;refine Af.call (by(try push_cast[z]);exact k0 (by assumption)) (by first|exact .inl rfl|exact .inr ⟨_,_,_,rfl,rfl,rfl⟩) rfl (by first|rfl|push_cast [z]) ?_)<;>try push_cast[z]|(with_reducible show Af _ _ _ _ _ _ _ _;refine Af.call (by(try push_cast[z]);exact k6 (by simp_all)) (by first|exact .inl rfl|exact .inr ⟨_,_,_,rfl,rfl,rfl⟩) rfl (by first|rfl|push_cast [z]) ?_)<;>try push_cast[z]|fail)<;>try push_cast[z])
      all_goals first|omega|skip
      all_goals
       refine Zl (fun i=>i<=J) (fun i=>⟨[(46,.val (.int .i64 i)),(45,.val (.int .i64 m.list.length)),(44,.slice (m.list.map Aj) false),(1,.val (.int .i64 d))],[],400⟩) (fun i=>m.list.length-i) 0 (by simp) ?_ fun i hi=>?_
       ·apply Zw<;>push_cast
       ·push_cast
        refine A6 (fun ha=>?_) (fun ha=>?_)
        ·have hi':i<m.list.length:=by simpa using ha
         have e1:=Cd hi'
         rcases A0v i J with hij|hij
         ·have hr:=hls' i hij
          (have z:=Za e1 w1;(try push_cast[z])<;>repeat' (first|apply Zi<;>intro _|refine Zc (hr ..) ?_|exact Zo|with_reducible apply Za)<;>try push_cast[z])
          all_goals first|omega|skip
          refine⟨i+1,hij,by omega,?_⟩
          apply Zw<;>push_cast
          exact A9 (by omega) (by omega)
         ·obtain rfl:i=J:=by omega
          (have z:=Za e1 w1;(try push_cast[z])<;>repeat' (first|apply Zi<;>intro _|exact Zo|with_reducible apply Za|(with_reducible show Af _ _ _ _ _ _ _ _;refine Af.pan (by(try push_cast[z]);exact hp ..) rfl (by first|rfl|push_cast [z]) rfl ?_)<;>try push_cast[z]|fail)<;>try push_cast[z])
          all_goals first|omega|exact ⟨An _,rfl⟩|skip
        ·exact absurd ha (by simp;omega)
termination_by SizeOf.sizeOf m
end
def CatC(P:Program)(rs:List ResultVar)(g:FuncId)(cs:List D)(rB:D)(HB':Hp)(o:Option D)(s:St):Prop:=
 ∃(rD:Nat->Nat) (csD:List D) (HD HD':Hp),UW P g csD o HD HD'/\cs=Ca rD csD/\ltL 4 csD=true/\BD rD (Ai s.hp) HD/\Dj (2*s.nx) rD HD []=true/\Dj (2*s.nx) rD HD HD'=true/\
   ∃ d,Jx P ⟨s.env,Er s.hp (DX (2*s.nx) rD HD HD'),s.nx+4⟩ rs=some d/\Ar ⟨[(0,d)],Er s.hp (DX (2*s.nx) rD HD HD'),s.nx+4⟩ ⟨[(0,rB)],HB',4⟩
def VW(P:Program)(rs:List ResultVar)(g:FuncId)(cs:List D)(rB:D)(HB':Hp):AE->St->Prop
 |.ret,s|.normal,s=>CatC P rs g cs rB HB' none s
 |.panic d,s=>d.pure=true/\CatC P rs g cs rB HB' (some d) s
 |_,_=>False
def VX(P:Program)(nt:Nat)(rs:List ResultVar)(g:FuncId)(t:Nat)(caps:Array Operand)(B:Code)(r:D)(H':Hp)(r1:Nat->Nat)(cs:List D)(env':Env)(HB:Hp)(rB:D)(HB':Hp):AE->St->Prop
 |.normal,s=>caps.toList.map (evO P s.env.get)=Ca r1 cs/\ltL 0 cs=true/\Ca (fun b=>b) cs=cs/\Di r1 ((t,.any)::s.env) env'/\Jg 4 env'=true/\BD r1 (Ai s.hp) HB/\Dj (2*s.nx) r1 HB []=true/\Dj (2*s.nx) r1 HB HB'=true/\
   AWp P nt B (VW P rs g cs rB HB') ⟨env',HB,4⟩/\Ar ⟨[(0,B3 (CL (2*s.nx) r1) rB)],Er s.hp (DX (2*s.nx) r1 HB HB'),s.nx+4⟩ ⟨[(0,r)],H',4⟩
 |_,_=>False
theorem A4.of_awp_catch{P:Program}{nt:Nat}{f:FuncId}{fn:Func}(As:List Code){B:Code}{ds:List D}{H:Hp}{r:D}{H':Hp}{id t g:Nat}{caps:Array Operand}{T1 T2:TypeId}{ps1 ps2:String}{af1 af2:Array Edge}{ts:Array TypeId}(hf:P.funcs[f]? =some fn)
  (hb:fn.body=some (As.foldr .seq (.seq (.region id #[⟨some t,.makeFunc (.func g) #[] caps,T1,ps1,af1,none⟩,⟨none,.defer {callee:=.value (.tmp t),args:=#[],argTypes:=ts},T2,ps2,af2,none⟩] false) B)))
  (hn:fn.ntmps=nt) (hent:Bc P f=true) (hlen:ds.length<=nt) (ht:t<nt) {rs:List ResultVar} (hrs:fn.results.toList=rs) (r1:Nat->Nat) (cs:List D) (env':Env) (HB:Hp) (rB:D) (HB':Hp)
  (h:AWpL P nt As (VX P nt rs g t caps B r H' r1 cs env' HB rB HB' .normal) ⟨Bq 0 ds,H,4⟩):A4 P f ds H r H':=by
 subst hrs
 unfold A4
 refine⟨hent,fun w M0 G0 I mu vs hga hdl hw hrep=>?_⟩
 let G:Gh:=⟨G0.st,G0.nm,[],Fence.wide,1,.inl rfl⟩
 have hG:∀ k,G k->k<w.heap.size:=fun k hk=>hw.lt k (hw.iold k hk)
 refine callsIn_wide.1 (callsIn_of_wp_marks (n:=1) hf hb trivial (H4 (I0:=G) hga ?_ As _ h I mu _ w ⟨?_,BR.refl _ _ _ _,fun t=>Fu hrep _ t,⟨hw.blk,hw.loc,hw.inj,hw.fresh,hw.lt,hw.os,hw.tape,hw.output,hw.grown,hw.old,hw.iold,hw.inew,hw.keep,hw.used⟩⟩))
 case refine_2=>have:=hrep.1;simp[hn];omega
 rintro s1 I1 mu1 a1 w1 hq R1
 simp only[VX] at hq
 obtain⟨c1,c2,c3,c4,c5,c6,c7,c8,hB,hW⟩:=hq
 show Code.wpIn _ _ _ _ _ _ _
 refine wpIn_seq (wpIn_region ?_)
 have hcap:Bp w1 I1 mu1 (Ca r1 cs) (caps.toList.map a1.eval):=by
  rw[<-c1]
  exact Bp.args (args:=caps) fun y _=>DI (GA.at (I0:=G) hga R1.w) R1.env y
 have hcsl:(caps.toList.map a1.eval).toArray=caps.map a1.eval:=by apply Array.ext';simp
 have o1:(execOp a1.eval ⟨some t,.makeFunc (.func g) #[] caps,T1,ps1,af1,none⟩).run P w1=.ok (.value (.func (.func g) #[] (caps.map a1.eval))) w1:=by simp[execOp,Instr.makeFunc]
 have hev:(a1.put (some t) (.func (.func g) #[] (caps.map a1.eval))).eval (.tmp t)=.func (.func g) #[] (caps.map a1.eval):=by
  have:t<a1.tmps.size:=by rw[R1.size];exact ht
  simp[Act.put,Act.eval,this]
 have o2:(execOp (a1.put (some t) (.func (.func g) #[] (caps.map a1.eval))).eval ⟨none,.defer {callee:=.value (.tmp t),args:=#[],argTypes:=ts},T2,ps2,af2,none⟩).run P w1=.ok (.defer {target:=.fn (.func g) (caps.map a1.eval),args:=#[]}) w1:=by
  simp only[execOp,resolve,hev,Deferred.ofValue,A0m,A0w,Result.andThen]
  simp
 have hd1:a1.defers=[]:=by
  obtain⟨rs,d0,d1,_⟩:=R1.defers
  rw[d0 rfl] at d1;exact d1
 have hvs:(caps.toList.map a1.eval).toArray=caps.map a1.eval:=hcsl
 obtain⟨M,G2,muc,⟨g1,g2,g3,g4,g5,g6,g7,g8⟩,hback⟩:=X4 (id:=2*s1.nx) r1 (show GA P w M0 G from hga) R1.w (fun j hj=>⟨by omega,by show 2*s1.nx<=2*s1.nx+2*j;omega⟩) (fun _ _=>rfl) hcap (DQ (A0t 4) c2) c6 c7
 generalize hclo:Value.func (.func g) #[] (caps.map a1.eval)=clo at o1 o2 hev
 let d:Deferred:= {target:=.fn (.func g) (caps.map a1.eval),args:=#[]}
 let G3:Gh:=⟨G2.st,G2.nm,[d],Fence.wide,1,.inl rfl⟩
 have hG3:∀ k,G3 k->k<w1.heap.size:=fun k hk=>g3.lt k (g3.iold k hk)
 have henv:∀ t',Rep w1 I1 muc (env'.get t') ((a1.put (some t) clo).tmps.getD t' undef):=by
  intro t'
  have h1:Rep w1 I1 mu1 (Env.get ((t,.any)::s1.env) t') ((a1.put (some t) clo).tmps.getD t' undef):=by
   simp only[Env.get]
   by_cases hh:t=t'
   ·subst hh;simp only[beq_self_eq_true,cond_true];exact .any _
   ·have:(t==t')=false:=by simpa using hh
    simp only[this,cond_false]
    have:=R1.env t'
    simp only[Act.put,A1n,A1t hh] at this|-
    exact this
  rcases Gd c4 c5 t' with⟨d',h2,h3,h4⟩|h2
  ·rw[h2]
   exact(h1.lo h3).ren g5 rfl h4
  ·rw[h2];exact .any _
 have hsz:(a1.put (some t) clo).tmps.size=nt:=by rw[F0];exact R1.size
 show wpOpsIn Fence.wide 1 P _ _ [0,1] a1 w1
 simp only[wpOpsIn,A1g,A0P,A13,Region.wanted]
 simp only[if_true]
 refine Dt (G:=G) o1 ?_
 refine⟨fun f' _=>G.fn f',?_⟩
 rw[show Fence.wide.round=none from rfl,Oper.semAt_none,o2]
 show Code.wpIn Fence.wide 1 P B _ ({tmps:=(a1.put (some t) clo).tmps,defers:=d::(a1.put (some t) clo).defers}:Act) w1
 rw[DZ,hd1]
 refine wpIn_mono (hB w1 M G3 g1 I1 muc {tmps:=(a1.put (some t) clo).tmps,defers:=[d]} w1 ⟨hsz,BR.refl _ _ _ _,henv,⟨g3.blk,g3.loc,g3.inj,g3.fresh,g3.lt,g3.os,g3.tape,g3.output,g3.grown,g3.old,g3.iold,g3.inew,g3.keep,g3.used⟩⟩) ?_
 rintro e a2 w2 ⟨x,s2,I2,mu2,hq2,he2,R2⟩
 have hd2:a2.defers=[d]:=by
  obtain⟨rs,d0,d1,_⟩:=R2.defers
  rw[d0 rfl] at d1;exact d1
 have hold:∀ k,I1 k->w2.heap[k]? =w1.heap[k]?:=fun k hk=>R2.w.old k (R1.w.lt k hk) (fun hM=>g7 k hM hk)
 have fin:∀ (o:Option D) (u u':FrameMode),RecU w2 I2 mu2 o u u'->(∀ d,o=some d->d.pure=true)->settle u'=.returning->u≠ .run->CatC P fn.results.toList g cs rB HB' o s2->LeavesInM Fence.wide 1 P fn a2.tmps (fun e w'=>∃ v I' mu',e=.returned v/\Rep w' I' mu' r v/\Aq w M0 G0 (frN 4) I' mu' (Ai H') w') a2.defers u w2:=by
  rintro o u u' hrec hpure hset hrun ⟨rD,csD,HD,HD',hD,q1,q2,q3,q4,q5,dd,q6,q7⟩
  rw[hd2]
  have hcs2:Bp w2 I2 mu2 (Ca rD csD) (caps.toList.map a1.eval):=by
   rw[<-q1]
   refine⟨g4.1,fun i hi=>?_⟩
   have h1:=g4.2 i hi
   have hnd:nd cs i=B3 (fun b=>b) (nd cs i):=by
    have:=BV (r:=fun b=>b) hi
    rw[c3] at this;exact this
   have h2:Rep w1 I1 mu2 (nd cs i) (nv (caps.toList.map a1.eval) i):=Rep.ren (r:=fun b=>b) (n:=0) (fun b x hb hx=>by
    have hb':b%2=1:=by simpa[okN] using hb
    exact R2.w.keep b x hb' (g8 b x hb' hx)) h1 hnd (Et c2 i)
   exact h2.mono hold (fun k hk=>R2.w.iold k (g6 k hk)) (fun _ _ h=>h)
  obtain⟨M4,G4,muc4,⟨f1,f2,f3,f4,f5,_⟩,hback4⟩:=X4 (id:=2*s2.nx) rD (show GA P w1 M G3 from g1) R2.w (fun j hj=>⟨by omega,by show 2*s2.nx<=2*s2.nx+2*j;omega⟩) (fun _ _=>rfl) hcs2 q2 q3 q4
  have hinv:(invoke (.fn (.func g) (caps.map a1.eval)) #[]).run P w2=.ok (.enter g (caps.toList.map a1.eval).toArray) w2:=by
   have e1:#[]++caps.map a1.eval=(caps.toList.map a1.eval).toArray:=by apply Array.ext';simp
   simp only[invoke]
   exact(congrArg (fun z=>(callFunc g z).run P w2) e1).trans (Bn hD.1 _ w2)
  have hrec':RecU w2 I2 muc4 o u u':=by
   cases o with
   |none=>exact hrec
   |some d=>
    obtain⟨v,hv,hu⟩:=hrec
    exact⟨v,hv.unmu (hpure d rfl),hu⟩
  refine⟨hrun,.inr ⟨fun h=>(by cases h),Fn.func g,caps.map a1.eval,g,_,rfl,hinv,fun f' _=>G3.fn f',(hD.2 w2 M4 G4 I2 muc4 _ u u' f1 f2 f3 f4 hrec').mono ?_⟩⟩
  rintro e u'' w3 ⟨rfl,v,I3,mu3,rfl,R3⟩
  show LeavesInM Fence.wide 1 P fn a2.tmps _ [] (settle u'') w3
  rw[hset]
  obtain⟨mu4,e4,R4,_⟩:=hback4 .any HD' v w3 I3 mu3 q5 (.any _) R3
  have hout:(fun b=>AX b (s2.fs.hp b) (Cm (2*s2.nx) rD HD .any HD').up)=Ai (Er s2.hp (DX (2*s2.nx) rD HD HD')):=by
   funext b;rw[ES];rfl
  rw[hout] at R4
  have R4':=R4.less (fr':=frN (s2.nx+4)) fun b hb=>⟨⟨hb.1,by have:=hb.2;omega⟩,fun j hj=>by have:=hb.2;omega⟩
  obtain⟨v5,h5,h6⟩:=Hj (P:=P) (a:=a2) (w:=w3) (I:=I3) (mu:=mu4) (w0:=w1) (M0:=M) (I0:=⟨G3.st,G3.nm,a2.defers,Fence.wide,1,.inl rfl⟩) (fr:=frN (s2.nx+4)) (nt:=nt) (s:=⟨s2.env,Er s2.hp (DX (2*s2.nx) rD HD HD'),s2.nx+4⟩)
   ⟨R2.size,BR.refl _ _ _ _,fun t'=>(R2.env t').ext e4,⟨R4'.blk,R4'.loc,R4'.inj,R4'.fresh,R4'.lt,R4'.os,R4'.tape,R4'.output,R4'.grown,R4'.old,R4'.iold,R4'.inew,R4'.keep,R4'.used⟩⟩ fn q6
  obtain⟨I6,mu6,R6⟩:=q7 w1 M G2 1 I3 mu4 {tmps:=#[v5],defers:=G2.dl} w3 ⟨rfl,BR.refl _ _ _ _,fun t'=>by
   cases t' with
   |zero=>simpa [St.fs,Env.get] using h6
   |succ t'=>simp [St.fs,Env.get];exact .any _,⟨R4'.blk,R4'.loc,R4'.inj,R4'.fresh,R4'.lt,R4'.os,R4'.tape,R4'.output,R4'.grown,R4'.old,R4'.iold,R4'.inew,R4'.keep,R4'.used⟩⟩
  have r0:Rep w3 I6 mu6 rB v5:=by simpa[St.fs,Env.get] using R6.env 0
  obtain⟨mu7,e7,R7,h7,_⟩:=hback rB HB' v5 w3 I6 mu6 c8 r0 R6.w
  have hout7:(fun b=>AX b (s1.fs.hp b) (Cm (2*s1.nx) r1 HB rB HB').up)=Ai (Er s1.hp (DX (2*s1.nx) r1 HB HB')):=by
   funext b;rw[ES];rfl
  rw[hout7] at R7
  have R7':=R7.less (fr':=frN (s1.nx+4)) fun b hb=>⟨⟨hb.1,by have:=hb.2;omega⟩,fun j hj=>by have:=hb.2;omega⟩
  obtain⟨I8,mu8,R8⟩:=hW w M0 G 1 I6 mu7 {tmps:=#[v5],defers:=[]} w3 ⟨rfl,BR.refl _ _ _ _,fun t'=>by
   cases t' with
   |zero=>simpa [St.fs,Env.get,Cm] using h7
   |succ t'=>simp [St.fs,Env.get];exact .any _,R7'⟩
  have r8:Rep w3 I8 mu8 r v5:=by simpa[St.fs,Env.get] using R8.env 0
  exact⟨v5,h5,v5,I8,mu8,rfl,r8,⟨R8.w.blk,R8.w.loc,R8.w.inj,R8.w.fresh,R8.w.lt,R8.w.os,R8.w.tape,R8.w.output,R8.w.grown,R8.w.old,R8.w.iold,R8.w.inew,R8.w.keep,R8.w.used⟩⟩
 cases x<;>cases e<;>simp only[Ga] at he2<;>simp only[VW] at hq2
 ·exact fin none .returning .returning ⟨rfl,rfl⟩ (fun d h=>by cases h) rfl (by simp) hq2
 ·exact fin none .returning .returning ⟨rfl,rfl⟩ (fun d h=>by cases h) rfl (by simp) hq2
 ·obtain⟨v,rfl,hv⟩:=he2
  exact fin (some _) _ _ ⟨v,hv,rfl,rfl⟩ (fun d h=>by cases h;exact hq2.1) rfl (by simp) hq2.2
theorem Af.panV{P:Program}{ops:Array Oper}{nx:Nat}{dst:Option Tmp}{T:TypeId}{ps:String}{af:Array Edge}{x:Operand}{l:List Oper}{pos:Nat}{acc:List Eff}{s:St}{K:List Eff->St->Prop}{f:FuncId}{args:Array Operand}{ts:Array TypeId}{fs cs ds:List D}{r:D}(hx:evO P s.env.get x=.func (.func f) fs cs)(hc:Fg P f ds r)(ha:fs++args.toList.map (evO P s.env.get)++cs=ds)(hpu:Av ds=true)(hrp:r.pure=true)(hk:K [] ⟨(BB,r)::s.env,s.hp,s.nx⟩):
  Af P ops nx (⟨dst,.call {callee:=.value x,args:=args,argTypes:=ts},T,ps,af,none⟩::l) pos acc s K:=by
 refine Af.panic0 (d:=r) ?_ hk
 intro w0 M0 I0 nt fr I mu a w hga rr K Q hQ
 refine⟨by simp[Region.wanted],?_⟩
 subst ha
 unfold Fg at hc
 have hev:∀ y,Rep w I mu (evO P s.env.get y) (a.eval y):=fun y=>DI (hga.at rr.w) rr.env y
 have hxr:=hev x
 rw[hx] at hxr
 have hargs:=Bp.args (w:=w) (I:=I) (mu:=mu) (ev:=evO P s.env.get) (a:=a) (args:=args) fun y _=>hev y
 generalize he:a.eval x=fv at hxr
 cases hxr with
 |func _ _ _ us vs hl hk' h1 h2=>
 have hall:=((Bp.append (Bp.append ⟨hl,h1⟩ hargs) ⟨hk',h2⟩).unmu (mu':=fun _=>none) hpu)
 have hcall:=hc.2 w I _ (hga.at rr.w) rr.w.lt hall.1 hall.2
 have hrun:(execOp a.eval ⟨dst,.call {callee:=.value x,args:=args,argTypes:=ts},T,ps,af,none⟩).run P w=.ok (.enter f (us++args.toList.map a.eval++vs).toArray) w:=by
  have e1:us.toArray++args.map a.eval++vs.toArray=(us++args.toList.map a.eval++vs).toArray:=by apply Array.ext';simp
  simp only[execOp,resolve,he,Deferred.ofValue,A0m,A0w,Result.andThen,invoke]
  exact(congrArg (fun z=>(callFunc f z).run P w) e1).trans (Bn hc.1 _ w)
 refine CS hrun ?_
 refine hcall.mono fun e w' ⟨v,I',he,hv,h1,h2,h3,h4⟩=>?_
 subst he
 have g1:=rr.w.below h1 h2 h3 h4
 have g2:Ext I mu w I' mu w':=⟨h1,fun _ _ h=>h,fun k hk=>h4.block k (rr.w.lt k hk)⟩
 exact hQ v w' I' ⟨rr.size,rr.defers.ext g2,fun t=>(rr.env t).ext g2,g1⟩ (hv.unmu hrp)
end Go.Ab
