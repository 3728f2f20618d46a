/- The program is walked: part 10 of 18. -/
import Derived.Test.YtmobnaefbcegbaaGreatDoorV8
import Derived.Lib.MapLaws
import Derived.Lib.ValidLaws
import Derived.WalkMore
import Derived.Lib.ConvBytes
import Derived.Lib.Walk
import Derived.Lib.Strings
import Derived.Laws.Strings3
set_option maxHeartbeats 4000000
set_option maxRecDepth 20000
set_option linter.all false
namespace Go.Ab
open Go.Proofs Go.Proofs.Tryz
variable{q:OQ}{k p:Baa}{l L:Lga}{v:GV}
def c_Root(t:GT):A0 prog 396 [AF t] (Ah t):=by
 have C:=A6 t;refine Zf [] ?_
 (have z:=C;push_cast[z]<;>repeat' apply Za)
abbrev rngD(t:GT)(lo hi:Baa)(op:Bool):D:=.func (.func 394) [] [.ptr [Ah t] 0,.ptr [sD lo] 0,.ptr [sD hi] 0,.ptr [bD op] 0]
def c_Range(t:GT)(lo hi:Baa)(op:Bool):A0 prog 363 [AF t,sD lo,sD hi,bD op] (rngD t lo hi op):=by
 have C:=A6 t;refine Zf [0,8,16,24] ?_
 (have z:=C;push_cast[z]<;>repeat' apply Za)
def A1V(t:GT)(p e:Baa)(ok:Bool)(hE:A0 prog 362 [sD p] (.tup [sD e,bD ok])):A0 prog 297 [AF t,sD p] (rngD t p e (!ok)):=by
 have C:=A6 t;have M:=c_Range t p e (!ok);refine Zf [] ?_
 (have z:=C;push_cast[z]<;>repeat' (first|refine Zc hE ?_|refine Zc M ?_|apply Za)<;>push_cast[z])
def c_iter{a c:Code}{b:GT}(t:GT)(lo hi:Baa)(op:Bool)(A B:List Baa)(r:Bool)
  (N:A4 prog 395 [Ah t,.agg [sD lo,sD hi,bD op],.yld 7] (Ek a c b q A) (bD r) (Ek a c b q B)):
  A4 prog 394 [.yld 7,.ptr [Ah t] 0,.ptr [sD lo] 0,.ptr [sD hi] 0,.ptr [bD op] 0] (Ek a c b q A) (.tup []) (Ek a c b q B):=by
 have C:=A6 t;have M:=A6 b;have O:=c_Root t;unfold Ek oqH at*;refine Zd [] ?_
 (have z:=Za C M;push_cast[z]<;>repeat' (first|refine Zc O ?_|refine Zs [(7,7),(3,3),(6,6),(1,1),(2,2),(4,4)] N ?_|exact Zo|apply Za)<;>push_cast[z])
 apply Zr [(2,66),(4,68),(6,70)] rfl<;>push_cast [C,M]
def J1(q:OQ)(e:GE):List Baa:=if (lk q.es e.1).isSome then [] else [e.1]
def UO(q:OQ)(e:GE):(J1 q e).length<=1:=by unfold J1;split<;>simp
def A1W(b:GT)(q:OQ)(l:Lga)(ht:Dw b l)(hl:l.length+q.es.length<=1048576)(Y:DP q.es q.ck)(hls:∀e ∈ l,e.1.size<=64)(p e:Baa)(ok:Bool)(hE:A0 prog 362 [sD p] (.tup [sD e,bD ok])):A4 prog 233 [.ref 1 0 0 3,sD p] (oqH b q) (.slice ((AD ((CQ p e (!ok) l).flatMap (J1 q)++q.es.flatMap (F8 p))).map λk=>[sD k]) false) (oqH b q):=by
 have C:=A6 b;have hP:=A1V b p e ok hE;unfold oqH;refine A4.of_awpW func233 rfl ntmps233 Kq' Sq' (congrArg Array.toList results233) ?_;refine Bh.seqV [8] mixed Kq' ?_
 (have z:=C;push_cast[z]<;>repeat' apply Za)
 refine Bh.seqV [] mixed Kq' ?_
 (have z:=C;push_cast[z]<;>repeat' apply Za)
 refine Bh.seqV [] mixed Kq' ?_
 (have z:=C;push_cast[z]<;>repeat' apply Za)
 refine Bh.seq ?_;refine Bh.seqV [] mixed Kq' ?_
 (have z:=C;push_cast[z]<;>repeat' (first|refine Zc hP ?_|apply Za)<;>push_cast[z])
 refine Bh.block ?_;refine Bh.weak (Aq.nilgrow1 (sz:=1)) ?_;push_cast[C];refine Bh.range (y:=7) (C6 [(7,98),(3,40),(6,96),(1,1),(2,2),(4,4)]) (env:=[(5,.ref 3 0 0 1),(2,.ptr [.ref 1 0 0 3] 0)]) (ds:=[.yld 7,.ptr [Ah b] 0,.ptr [sD p] 0,.ptr [sD e] 0,.ptr [bD (!ok)] 0]) rfl (c_iter (b:=b) (q:=q) b p e (!ok) [] _ _ (walk_tr (b:=b) (q:=q) (f:=J1 q) (UO q) ?hY p e (!ok) b l [] ht (by have:=hl;simp only[A2r];omega))) rfl rfl ?_ ?_ ?_ ?_ ?_ ?_ ?_
 case hY=>
  intro x A hA;have a0:A.length<=1048576:=by rw[A2a] at hA;omega
  have oX:=Bn x.2;have a3:(A.map λk=>[D.val (.string k)])++[[D.val (.string x.1)]]=(A++[x.1]).map λk=>[D.val (.string k)]:=Sq';have a4:A.length+1=(A++[x.1]).length:=Sq';unfold Ek oqH J1;obtain⟨ch,us⟩:=q;cases ch with
  |none=>
   have e1:lk (OQ.es ⟨none,us⟩) x.1=none:=rfl;rw[e1];simp only[A3I,A2G,if_false,cD,cB];refine DG.of_awp Dq' rfl Dq' ?_;simp only[A3n,A3o,A33,A3q,A2h,A2d];refine Zy ?_
   (have z:=Za C<|Za oX @DS.eq_1;push_cast[z]<;>repeat' apply Za)
   refine Zy ?_
   (have z:=Za C<|Za oX @DR.eq_1;push_cast[z]<;>repeat' apply Za)
   all_goals first|omega|(intro y U;cases A2b.1 U;rfl)|(intro y U d hd;cases A2b.1 U;cases A2b.1 hd;rfl)|skip
   rw[a3,a4];apply Zr [(6,152)] rfl<;>push_cast [C]
  |some c=>
   obtain⟨es,ck⟩:=c;have e1:lk (OQ.es ⟨some (es,ck),us⟩) x.1=lk es x.1:=rfl;rw[e1];have e2:=Ha x.1 es 0;simp only[cD,cB];cases hf:C5 x.1 es 0 with
   |none=>
    rw[hf] at e2;rw[<-e2];simp only[Option.map_none,A3I,A2G,if_false];refine DG.of_awp Dq' rfl Dq' ?_;simp only[A3n,A3o,A33,A3q,A2h,A2d];refine Zy ?_
    (have z:=Za C<|Za oX @DS.eq_1;push_cast[z]<;>repeat' apply Za)
    refine Zy ?_
    (have z:=Za C<|Za oX<|Za @DR.eq_1<|Za @B8 hf;push_cast[z]<;>repeat' apply Za)
    all_goals first|omega|(intro y U;cases A2b.1 U;rfl)|(intro y U d hd;cases A2b.1 U;cases A2b.1 hd;rfl)|skip
    rw[a3,a4];apply Zr [(6,152)] rfl<;>push_cast [C]
   |some pr=>
    obtain⟨i,old⟩:=pr;rw[hf] at e2;rw[<-e2];simp only[A3g,Option.isSome_some,if_true,A2y];refine DG.of_awp Dq' rfl Dq' ?_;simp only[A3n,A3o,A33,A3q,A2h,A2d];refine Zy ?_
    (have z:=Za C<|Za oX @DS.eq_1;push_cast[z]<;>repeat' apply Za)
    refine Zy ?_
    (have z:=Za C<|Za oX<|Za @DR.eq_1<|Za @B8 hf;push_cast[z]<;>repeat' apply Za)
    apply Zw<;>push_cast [C]
 ·push_cast
 ·push_cast[C]
 ·push_cast[C,Cs]
 ·push_cast[C,Bq,oqH]
 ·push_cast[C,oqH]
 ·push_cast[C,oqH]
 ·push_cast[C,oqH];have a8:(List.flatMap (J1 q) (CQ p e (!ok) l)).length+q.es.length<=1048576:=by
   have:=QL p e (!ok) (UO q) l;omega
  have a1:∀k ∈ List.flatMap (J1 q) (CQ p e (!ok) l)++q.es.flatMap (F8 p),k.size<=9223372036854775807:=λk M=>by
   rcases A2Y.1 M with M|M
   ·obtain⟨x,hx,M⟩:=A3D.1 M;have ad:=hls x (A2U.1 hx).1;unfold J1 at M;split at M
    ·cases M
    ·rw[A2b.1 M];omega
   ·obtain⟨x,hx,M⟩:=A3D.1 M;have ad:=(Y.sm x hx).2.2;unfold F8 at M;split at M
    ·rw[A2b.1 M];omega
    ·cases M
  generalize List.flatMap (J1 q) (CQ p e (!ok) l)=N at*;refine Bh.vc [] mixed Kq' ?_;obtain⟨ch,us⟩:=q;cases ch with
  |none=>
   have e0:OQ.es ⟨none,us⟩=[]:=rfl;rw[e0] at a8 a1|-;simp only[A46,A2y,cD,cB] at a1|-;have hS:=c_Sort N (by simpa using a8) a1;have oS:=FC (AD N);have a9:(AD N).length=N.length:=(Kz N).length_eq
   (have z:=C;push_cast[z]<;>repeat' apply Za)
   refine AWp.loopI mixed Kq' (ι:=Unit) (λ_=>True) (λ_=>⟨[(40,.ref 146 0 0 1),(5,.ref 40 0 0 1),(1,sD p)],[(146,.obj (.mapIter none 0 #[] 0)),(110,.grow (us.map λu=>[BJ u]) 1),(108,.junk),(1,.rows [[Ah b,.val (.map none),.gref 110 us.length]] 3),(40,.rows [[.gref 106 N.length]] 1),(106,.grow (N.map λk=>[sD k]) 1)],300⟩) (λ_=>0) () trivial ?_ λi hi=>?_
   ·apply Zr [(106,112)] rfl<;>push_cast [C]
   ·push_cast[C];refine A5.nextN 146 (by push_cast) (by push_cast) ?_
    (have z:=C;push_cast[z]<;>repeat' (first|refine Zs [(1,106)] hS ?_|apply Za)<;>push_cast[z])
    refine Aq.trans (Aq.fzB (b:=106) (x:=.grow ((AD N).map λk=>[sD k]) 1) rfl) ?_;rw[<-a9];push_cast[C];apply Zr [(2,108),(4,110)] rfl<;>push_cast [C]
  |some c=>
   obtain⟨es,ck⟩:=c;have e0:OQ.es ⟨some (es,ck),us⟩=es:=rfl;have e1:OQ.ck ⟨some (es,ck),us⟩=ck:=rfl;rw[e0] at a8 a1 Y|-;rw[e1] at Y;simp only[cD,cB]
   (have z:=C;push_cast[z]<;>repeat' apply Za)
   refine AWp.loopI mixed Kq' (ι:=List Nat) (JL p es N.length) (λO=>⟨[(40,.ref 146 0 0 1),(5,.ref 40 0 0 1),(1,sD p)],[(146,.iter 108 ck O ck),(110,.grow (us.map λu=>[BJ u]) 1),(108,.map (es.map CH) ck),(1,.rows [[Ah b,.mref 108,.gref 110 us.length]] 3),(40,.rows [[.gref 106 (N++O.flatMap (GX p es)).length]] 1),(106,.grow ((N++O.flatMap (GX p es)).map λk=>[sD k]) 1)],300⟩) (Km es) [] (.nil p es N.length) ?_ λO a5=>?_
   ·apply Zr [(106,112)] rfl<;>push_cast [C,A46,A2y]
   ·push_cast[C];refine A5.next 146 108 (es:=es.map CH) (ck:=ck) (seen:=O) (by push_cast) (by push_cast) (by push_cast) (λy U=>by obtain⟨z,Z,rfl⟩:=A2p.1 U;exact Y.lt z Z) (λae=>?_) λy U ac=>?_
    ·have ah:∀e ∈ es,e.2.1 ∈ O:=λe he=>ae (CH e) (A2p.2 ⟨e,he,rfl⟩);have ai:=a5.all Y.births ah N;have a0:(N++O.flatMap (GX p es)).length<=1048576:=by rw[A2a];have:=a5.len;omega
     have aj:∀k ∈ N++O.flatMap (GX p es),k.size<=9223372036854775807:=λk M=>by
      rcases A2Y.1 M with M|M
      ·exact a1 k (List.mem_append_left _ M)
      ·obtain⟨n,hn,M⟩:=A3D.1 M;obtain⟨z,Z,rfl⟩:=A2p.1 (a5.sub n hn);unfold GX at M;rw[HH Y.births z Z] at M;exact a1 k (List.mem_append_right _ (A3D.2 ⟨z,Z,M⟩))
     rw[<-ai];generalize N++O.flatMap (GX p es)=V at*;have hS:=c_Sort V a0 aj;have oS:=FC (AD V);have a9:(AD V).length=V.length:=(Kz V).length_eq
     (have z:=C;push_cast[z]<;>repeat' (first|refine Zs [(1,106)] hS ?_|apply Za)<;>push_cast[z])
     refine Aq.trans (Aq.fzB (b:=106) (x:=.grow ((AD V).map λk=>[sD k]) 1) rfl) ?_;rw[<-a9];push_cast[C];apply Zr [(2,108),(4,110)] rfl<;>push_cast [C]
    ·obtain⟨z,Z,rfl⟩:=A2p.1 U;obtain⟨s1,s2⟩:=a5.snoc Y.births Z ac;have a6:=PN Y.births z Z;have aa:(O++[z.2.1]).getLast? =some z.2.1:=Sq';have a2:=Qo z.1 p;have ak:=(Y.sm z Z).2.2;have ab:=V9 Z ac;have a0:(N++(O++[z.2.1]).flatMap (GX p es)).length<=1048576:=by rw[A2a];have:=s1.len;omega
     obtain⟨zk,zn,zb,zv⟩:=z;have oV:=Bn zv;simp only[D4] at a6;rw[s2,<-A2c] at a0;simp only[CH,D4] at*;cases zb with
     |false=>
      (have z:=Za C<|Za oV<|Za @a6 @aa;push_cast[z]<;>repeat' (first|refine Zc (a2 ..) ?_|apply Za))<;>try omega
      refine⟨O++[zn],s1,ab,?_⟩;rw[s2];have e3:F8 p (zk,zn,false,zv)=[]:=rfl;rw[e3,A2y];apply Zw<;>push_cast [C,oV]
     |true=>
      cases a7:Cn zk p with
      |false=>
       rw[a7] at a2
       (have z:=Za C<|Za oV<|Za @a6 @aa;push_cast[z]<;>repeat' (first|refine Zc (a2 ..) ?_|apply Za)<;>push_cast[z])<;>try omega
       refine⟨O++[zn],s1,ab,?_⟩;rw[s2];have e3:F8 p (zk,zn,true,zv)=[]:=by simp[F8,a7]
       rw[e3,A2y];apply Zw<;>push_cast [C,oV]
      |true=>
       rw[a7] at a2;have e3:F8 p (zk,zn,true,zv)=[zk]:=by simp[F8,a7]
       rw[e3] at a0;have al:(N++O.flatMap (GX p es)).length<=1048576:=by rw[A2a] at a0;omega
       (have z:=Za C<|Za oV<|Za @a6 @aa;push_cast[z]<;>repeat' (first|refine Zc (a2 ..) ?_|apply Za)<;>push_cast[z])
       all_goals first|omega|(intro y U;cases A2b.1 U;rfl)|(intro y U d hd;cases A2b.1 U;cases A2b.1 hd;rfl)|skip
       refine⟨O++[zn],s1,ab,?_⟩;rw[s2,e3,<-A2c];generalize N++O.flatMap (GX p es)=V at*;have a3:(V.map λk=>[D.val (.string k)])++[[D.val (.string zk)]]=(V++[zk]).map λk=>[D.val (.string k)]:=Sq';have a4:V.length+1=(V++[zk]).length:=Sq';rw[a3,a4];apply Zr [(106,744)] rfl<;>push_cast [C,oV]
def Gy:Lua->Option (Lua)
 |[]=>none
 |x::l=>match Gy l with
  |some r=>some (x::r)
  |none=>if x=255 then none else some [x+1]
def Z8:∀(p k:Lua),Lib.hasPrefix k p=(!decide (BD k p<0)&&match Gy p with|none=>true|some e=>decide (BD k e<0))
 |[],k=>by cases k<;>simp [Lib.hasPrefix,BD,Gy]
 |x::l,[]=>by simp[Lib.hasPrefix,BD]
 |x::l,y::m=>by
  have V:=Z8 l m;have hp:Lib.hasPrefix (y::m) (x::l)=(decide (y=x)&&Lib.hasPrefix m l):=by
   by_cases h:y=x
   ·simp[Lib.hasPrefix,h]
   ·have Y:(x==y)=false:=by simpa using Ne.symm h
    simp[Lib.hasPrefix,List.isPrefixOf,h,Y]
  rw[hp];by_cases C:y=x
  ·subst C;simp only[decide_true,Bool.true_and,BD,if_true];rw[V];cases N:Gy l with
   |some r=>simp [Gy,N,BD]
   |none=>
    simp only[Gy,N];by_cases M:y=255
    ·simp[M]
    ·have hlt:y<y+1:=by
      rw[UInt8.lt_iff_toNat_lt,UInt8.toNat_add];have:y.toNat≠255:=λh=>M (UInt8.toNat_inj.1 h);have:=y.toNat_lt;have h1:(1:UInt8).toNat=1:=rfl;omega
     have Z:¬y=y+1:=UInt8.ne_of_lt hlt;simp[M,BD,Z,hlt]
  ·simp only[C,decide_false,Bool.false_and];by_cases hl:y<x
   ·have:BD (y::m) (x::l)<0:=by simp[BD,C,hl]
    simp[this]
   ·have O:x<y:=by
     rcases Nat.lt_trichotomy x.toNat y.toNat with h|h|h
     ·exact UInt8.lt_iff_toNat_lt.2 h
     ·exact absurd (UInt8.toNat_inj.1 h).symm C
     ·exact absurd (UInt8.lt_iff_toNat_lt.2 h) hl
    have h1:¬BD (y::m) (x::l)<0:=by simp[BD,C,hl]
    simp only[h1,decide_false,Bool.not_false,Bool.true_and];cases N:Gy l with
    |some r=>simp [Gy,N,BD,C,hl]
    |none=>
     simp only[Gy,N];by_cases M:x=255
     ·subst M;have:=UInt8.lt_iff_toNat_lt.1 O;have:=y.toNat_lt;have h2:(255:UInt8).toNat=255:=rfl;omega
     ·simp only[M,if_false];have a0:¬y<x+1:=by
       rw[UInt8.lt_iff_toNat_lt,UInt8.toNat_add];have:=UInt8.lt_iff_toNat_lt.1 O;have h1:(1:UInt8).toNat=1:=rfl;have:=y.toNat_lt;omega
      by_cases U:y=x+1
      ·subst U;have:¬BD m []<0:=by cases m<;>simp [BD]
       simp[BD,this]
      ·simp[BD,U,a0]
def JA(p:Baa):Baa×Bool:=match Gy p.data.toList with|none=>(bea,false)|some l=>(⟨l.toArray⟩,true)
def scan_beg(p:Baa)(l:Lga):CQ p (JA p).1 (!(JA p).2) l=BK p l:=by
 unfold CQ BK;congr 1;funext e;have h:=Z8 p.data.toList e.1.data.toList;unfold Cn;rw[h];unfold KM JA;cases C:Gy p.data.toList with
 |none=>simp [ltS,CO,bl];rfl
 |some r=>simp [ltS,CO,bl];rfl
def Mo(hs:Srt l):(∃v,(k,v) ∈ l)↔(Am k l).isSome=true:=by
 unfold Am;rw[Option.isSome_map,List.find?_isSome];constructor
 ·rintro⟨v,C⟩;exact⟨_,C,Sq'⟩
 ·rintro⟨⟨N,v⟩,C,M⟩;simp only[decide_eq_true_eq] at M;subst M;exact⟨v,C⟩
def Srt.keys(h:Srt l):(l.map (·.1)).Nodup:=by
 unfold List.Nodup;rw[List.pairwise_map];exact h.imp λh=>A00 h
def pre_perm(hs:Srt l)(O:DP q.es q.ck)(p:Baa):
  ((BK p l).flatMap (J1 q)++q.es.flatMap (F8 p)).Perm ((BK p (q.view l)).map (·.1)):=by
 have V:Srt (q.view l):=Dy _ hs;have hb:∀ {l:Lga},Srt l->Srt (BK p l):=λh=>List.Pairwise.sublist List.filter_sublist h;have Y:∀k,k ∈ (BK p l).flatMap (J1 q)↔Cn k p=true/\(Am k l).isSome=true/\lk q.es k=none:=by
  intro k;rw[A3D];constructor
  ·rintro⟨x,N,C⟩;unfold J1 at C;split at C
   ·cases C
   ·rename_i hn;rw[A2b.1 C];obtain⟨h1,M⟩:=A2U.1 N;exact⟨M,(Mo hs).1 ⟨x.2,h1⟩,by simpa using hn⟩
  ·rintro⟨h1,M,h3⟩;obtain⟨v,hv⟩:=(Mo hs).2 M;exact⟨(k,v),A2U.2 ⟨hv,h1⟩,by unfold J1;simp[h3]⟩
 have Z:∀k,k ∈ q.es.flatMap (F8 p)↔Cn k p=true/\∃v,lk q.es k=some (true,v):=by
  intro k;rw[A3D];constructor
  ·rintro⟨⟨xk,xn,xb,xv⟩,N,C⟩;unfold F8 at C;split at C
   ·rename_i hn;rw[A2b.1 C];simp only[A2i] at hn;obtain⟨h1,M⟩:=hn;subst h1;exact⟨M,xv,Mj O.keys N⟩
   ·cases C
  ·rintro⟨h1,v,M⟩;obtain⟨n,hn⟩:=Xv M;exact⟨(k,n,true,v),hn,by unfold F8;simp[h1]⟩
 refine(List.perm_ext_iff_of_nodup ?_ (hb V).keys).2 λk=>?_
 ·rw[List.nodup_append];refine⟨?_,?_,λa ha b' a0=>?_⟩
  ·have:∀ {l:Lga},(l.map (·.1)).Nodup->(l.flatMap (J1 q)).Nodup/\∀k ∈ l.flatMap (J1 q),k ∈ l.map (·.1):=by
    intro l
    induction l with
    |nil=>intro _;simp
    |cons x l U=>
     intro hn;rw[A2m,A3h] at hn;obtain⟨i1,i2⟩:=U hn.2;rw[A2T];rcases(show J1 q x=[]\/J1 q x=[x.1] by unfold J1;split<;>simp) with N|N<;>rw [N]
     ·refine⟨by simpa using i1,λk C=>?_⟩;exact A2V _ (i2 k (by simpa using C))
     ·refine⟨?_,λk C=>?_⟩
      ·rw[List.singleton_append,A3h];exact⟨λh=>hn.1 (i2 _ h),i1⟩
      ·rw[List.singleton_append] at C;rcases A2s.1 C with rfl|C
       ·simp
       ·exact A2V _ (i2 k C)
   exact(this (hb hs).keys).1
  ·have:∀ {l:List CE},(l.map (·.1)).Nodup->(l.flatMap (F8 p)).Nodup/\∀k ∈ l.flatMap (F8 p),k ∈ l.map (·.1):=by
    intro l
    induction l with
    |nil=>intro _;simp
    |cons x l U=>
     intro hn;rw[A2m,A3h] at hn;obtain⟨i1,i2⟩:=U hn.2;rw[A2T];rcases(show F8 p x=[]\/F8 p x=[x.1] by unfold F8;split<;>simp) with N|N<;>rw [N]
     ·refine⟨by simpa using i1,λk C=>?_⟩;exact A2V _ (i2 k (by simpa using C))
     ·refine⟨?_,λk C=>?_⟩
      ·rw[List.singleton_append,A3h];exact⟨λh=>hn.1 (i2 _ h),i1⟩
      ·rw[List.singleton_append] at C;rcases A2s.1 C with rfl|C
       ·simp
       ·exact A2V _ (i2 k C)
   exact(this O.keys).1
  ·rintro rfl;obtain⟨_,_,h1⟩:=(Y a).1 ha;obtain⟨_,v,M⟩:=(Z a).1 a0;rw[h1] at M;cases M
 ·rw[A2Y,Y,Z];have hr:k ∈ (BK p (q.view l)).map (·.1)↔Cn k p=true/\(Am k (q.view l)).isSome=true:=by
   rw[<-Mo V,A2p];constructor
   ·rintro⟨x,N,rfl⟩;obtain⟨h1,M⟩:=A2U.1 N;exact⟨M,x.2,h1⟩
   ·rintro⟨h1,v,M⟩;exact⟨(k,v),A2U.2 ⟨M,h1⟩,rfl⟩
  rw[hr];have hg:=CY k q.es l O.keys;show _↔_/\(Am k (GD q.es l)).isSome=true;rw[hg];cases C:lk q.es k with
  |none=>simp
  |some s=>
   obtain⟨sb,sv⟩:=s;cases sb<;>simp [Nm]
def UL{b:GT}(h:Fe b q l)(hl:l.length+q.es.length<=1048576)(hls:∀e ∈ l,e.1.size<=64)(p:Baa)(hE:A0 prog 362 [sD p] (.tup [.val (.string (JA p).1),.val (.bool (JA p).2)])):
  A4 prog 233 [.ref 1 0 0 3,sD p] (oqH b q) (.slice (((BK p (q.view l)).map (·.1)).map λk=>[sD k]) false) (oqH b q):=by
 have hP:=A1W b q l h.tr hl h.ch hls p _ _ hE;rw[scan_beg] at hP;have C:Srt (q.view l):=Dy _ h.tr.srt;have hs:((BK p (q.view l)).map (·.1)).Pairwise λx y=>ltS x y=true:=by
  rw[List.pairwise_map];exact List.Pairwise.sublist List.filter_sublist C
 rw[sortS_eq (pre_perm h.tr.srt h.ch p) hs] at hP;exact hP
def noS(s:Baa):Bool:=s.toList==(⟨#[]⟩:Baa).toList
def noS_d(s:Baa):noS s=decide (s=⟨#[]⟩):=by unfold noS;rw[RZ]
def BE(v:GV):Bool:=v.kind==0&&(!v.b&&(v.n==0&&(noS v.s&&((v.list.length:Int)==0&&(v.obj.length:Int)==0))))
def NB(v:GV):A0 prog 158 [.agg (A7 v)] (bD (BE v)):=by
 rw[A3];refine Zf [0] ?_
 (push_cast<;>repeat' (first|apply Zi<;>intro _|apply Za)<;>push_cast)
 all_goals simp_all [BE,noS_d]
def Tz(m:GM):Bool:=noS m.key&&(noS m.to&&(m.n==0&&(!m.had&&(BE m.was&&(!m.has&&(BE m.value&&(m.list.length:Int)==0))))))
def c_blank(m:GM):A0 prog 159 [.agg (Ai m)] (bD (Tz m)):=by
 have h1:=NB m.was;have C:=NB m.value;rw[Ay];rw[A3] at h1 C|-;rw[A3 m.value];simp only[A2d,A2h,A2c];refine Zf [0] ?_
 (have z:=trivial;push_cast<;>repeat' (first|apply Zi<;>intro _|refine Zc h1 ?_|refine Zc C ?_|apply Za)<;>push_cast)
 all_goals simp_all [Tz,noS_d]
def AG(m:GM):Bool:=
 (!m.had&& !BE m.was) ||
 (if m.kind==1 ||m.kind==5 then !(noS m.to&&(m.n==0&&(!m.had&&(BE m.was&&(!m.has&&(m.list.length:Int)==0)))))
  else if m.kind==2 then !(noS m.to&&(m.n==0&&(!m.had&&(BE m.was&&(!m.has&&(BE m.value&&(m.list.length:Int)==0))))))
  else if m.kind==3 then !(noS m.to&&(!m.had&&(BE m.was&&(!m.has&&(BE m.value&&(m.list.length:Int)==0)))))
  else if m.kind==4 then(!m.has&& !BE m.value) ||!(noS m.to&&(m.n==0&&(m.list.length:Int)==0))
  else if m.kind==6 then !(m.n==0&&(!m.had&&(BE m.was&&(!m.has&&(BE m.value&&(m.list.length:Int)==0)))))
  else if m.kind==7 then !(noS m.to&&(m.n==0&&(!m.has&&BE m.value)))
  else true)
def Ll:∀ {a b c d:List D},loL a b->loL c d->loL (a++c) (b++d)
 |[],[],_,_,_,h=>h
 |[],_::_,_,_,h,_=>by simp[loL] at h
 |_::_,[],_,_,h,_=>by simp[loL] at h
 |x::a,y::b,c,d,h,h'=>by
  simp only[loL,A2d] at h|-;exact⟨h.1,Ll h.2 h'⟩
abbrev mutD(kd:Int)(k t:Baa)(n:Int)(hd:Bool)(W:List D)(hs:Bool)(V:List D)(L:D):D:=.agg ([iD kd,sD k,sD t,iD n,bD hd]++W++[bD hs]++V++[L])
def Hc(m:GM){W V:List D}{L:D}(C:loL W (A7 m.was))(M:loL V (A7 m.value))(N:Go.Ab.lo L (.slice (m.list.map Ai) false)):
  A0 prog 159 [mutD m.kind m.key m.to m.n m.had W m.has V L] (bD (Tz m)):=by
 refine(c_blank m).lo ?_;rw[Ay];simp only[loL,Mi,and_true];exact Ll (Ll (Ll (Ll (B0 _) C) (B0 _)) M) ⟨N,trivial⟩
abbrev zT:List D:=[iD 0,bD false,iD 0,sD bea,.slice [] true,.slice [] true]
def SO:loL zT (A7 zV):=by
 rw[A3];simp[zV,GV.kind,GV.b,GV.n,GV.s,GV.list,GV.obj,loL,lo,EM]
def RU(m:GM):A0 prog 102 [.agg (Ai m)] (bD (AG m)):=by
 obtain⟨C,k,t,n,M,w,hs,v,l⟩:=m;have h1:=NB w;have h2:=NB v;have N:=Hc (.mk C ⟨#[]⟩ t n M w hs zV l) (B0 _) SO (Av _);have O:=Hc (.mk C ⟨#[]⟩ t n M w hs v l) (B0 _) (B0 _) (Av _);have U:=Hc (.mk C ⟨#[]⟩ t 0 M w hs v l) (B0 _) (B0 _) (Av _);have V:=Hc (.mk C ⟨#[]⟩ t n false zV false zV l) SO SO (Av _);have Y:=Hc (.mk C ⟨#[]⟩ ⟨#[]⟩ n M w hs v l) (B0 _) (B0 _) (Av _);have Z:=Hc (.mk C ⟨#[]⟩ t n false zV hs v []) (L:=.slice [] true) SO (B0 _) (by simp[Go.Ab.lo,GM.list,EM]);have z1:BE zV=true:=by simp[BE,zV,noS,GV.kind,GV.b,GV.n,GV.s,GV.list,GV.obj]
 have z2:noS ⟨#[]⟩=true:=by simp[noS]
 unfold AG;simp only[Tz,GM.kind,GM.key,GM.to,GM.n,GM.had,GM.was,GM.has,GM.value,GM.list,z1,z2,Bool.true_and,A3M,Bool.not_false,A2r,Ay (.mk ..),A2E] at N O U V Y Z|-;rw[A3] at h1 h2;simp only[A3 w,A3 v,A2d,A2h,A2c,mutD,zT] at N O U V Y Z|-;generalize BE w=zw at*;generalize BE v=zv at*;generalize noS t=nt at*;generalize((l.length:Int)==0)=ll at*;refine Zf [0] ?_
 (have z:=trivial;push_cast<;>repeat' (first|apply Zi<;>intro _|refine Zc h1 ?_|refine Zc h2 ?_|refine Zc N ?_|refine Zc O ?_|refine Zc U ?_|refine Zc V ?_|refine Zc Y ?_|refine Zc Z ?_|apply Za)<;>push_cast)
 all_goals(clear h1 h2 N O U V Y Z;simp_all)
abbrev wD(c:Int):D:=.iface 170 (.agg [iD c])
def EU(c:Int):A0 prog 101 [bD true,iD c] (.tup []):=by
 refine Zf [] ?_
 (push_cast<;>repeat' apply Za)
def Sx(c:Int):G8 prog 101 [bD false,iD c] (wD c):=by
 refine G8.of_awp func101 rfl ntmps101 Kq' Sq' (AWp.sz λH Hb=>Zy ?_)
 (have z:=trivial;push_cast<;>repeat' (first|with_reducible apply Za|(with_reducible show A5 _ _ _ _ _ _ _ _;refine A5.panicOp (by(try push_cast);rfl) ?_)|fail)<;>push_cast)
 ·kernel_rfl
 ·exact⟨Av _,rfl⟩
def Tq:A0 prog 104 [iD 0] (.tup []):=by
 refine Zf [] ?_
 (have z:=trivial;push_cast<;>repeat' (first|refine Zc (EU ..) ?_|apply Za)<;>push_cast)
def p_pass(c:Int)(hc:c≠0):G8 prog 104 [iD c] (wD c):=by
 have b1:(c==0)=false:=by simpa using hc
 refine G8.of_awp func104 rfl ntmps104 Kq' Sq' (AWp.sz λH Hb=>Zy ?_)
 (have z:=b1;push_cast[z]<;>repeat' (first|with_reducible apply Za|(with_reducible show A5 _ _ _ _ _ _ _ _;refine A5.pan (by(try push_cast[z]);exact Sx ..) rfl (by first|rfl|push_cast [z]) rfl ?_)|fail)<;>push_cast[z])
 exact⟨Av _,rfl⟩
mutual
def AY:GM->Nat
 |.mk _ _ _ _ _ _ _ _ l=>1+Br l
def Br:List GM->Nat
 |[]=>0
 |m::l=>AY m+Br l
end
def DM(m:GM):AY m=1+Br m.list:=by cases m;simp[AY,GM.list]
def Gt:∀(a b:List GM),Br (a++b)=Br a+Br b
 |[],b=>by simp[Br]
 |x::a,b=>by simp only[A2d,Br,Gt a b];omega
def Do{l:List GM}{i:Nat}(h:i<l.length):Br (l.take (i+1))=Br (l.take i)+AY (l.getD i zU)/\Br (l.take (i+1))<=Br l:=by
 have e:l.getD i zU=l[i]:=by rw[A29,A2f h];rfl
 have h1:Br (l.take (i+1))=Br (l.take i)+AY (l.getD i zU):=by
  rw[A3j,A2f h,Gt,e];simp[Br]
 refine⟨h1,?_⟩
 conv=>rhs;rw[<-A2O (i+1) l,Gt]
 omega
def Hl:∀l:List GM,l.length<=Br l
 |[]=>Sq'
 |m::l=>by have:=Hl l;have:=DM m;simp only[Br,A2l];omega
def ZA(m:GM)(N:AY m<=1099511627776):A0 prog 64 [.agg (Ai m)] (iD (AY m:Nat)):=by
 have O:∀x,SizeOf.sizeOf x<SizeOf.sizeOf m->AY x<=1099511627776->A0 prog 64 [.agg (Ai x)] (iD (AY x:Nat)):=λx Y h=>ZA x h;have Z:=Hl m.list;rw[DM] at N|-;rw[Ay,A3 m.was,A3 m.value];simp only[A2d,A2h,A2c];refine Zf [0] ?_
 (push_cast<;>repeat' apply Za)
 refine Zl (λi=>i<=m.list.length) (λi=>⟨[(9,iD i),(8,iD m.list.length),(7,.slice (m.list.map Ai) false),(3,iD ((1+Br (m.list.take i):Nat):Int))],[],200⟩) (λi=>m.list.length-i) 0 Sq' ?_ λi hi=>?_
 ·apply Zw<;>push_cast;simp[Br]
 ·push_cast;refine Ad (λM=>?_) (λM=>?_)
  ·have C:i<m.list.length:=by simpa using M
   have U:=EV C;obtain⟨V,t2⟩:=Do C;have hr:=O (m.list.getD i zU) (GM.list_lt (Ae C)) Om
   (have z:=U;push_cast[z]<;>repeat' (first|refine Zc (hr ..) ?_|apply Za)<;>push_cast[z])<;>try omega
   refine⟨i+1,C,Om,?_⟩;apply Zw<;>push_cast;refine⟨A9 Om Om,?_⟩;rw[V,A3m,<-Int.add_assoc];exact A9 Om Om
  ·have C:i=m.list.length:=by simp at M;omega
   subst C
   (push_cast<;>repeat' apply Za)
   rw[A2I]
termination_by SizeOf.sizeOf m
def Ff(v:GV):Bool:=
 if v.kind<1\/6<v.kind then true
 else !((v.kind==2 ||!v.b)&&((v.kind==3 ||v.n==0)&&((v.kind==4 ||noS v.s)&&((v.kind==5 ||(v.list.length:Int)==0)&&(v.kind==6 ||(v.obj.length:Int)==0)))))
mutual
noncomputable def Bb:GV->Nat->Int
 |.mk k b n s l o,d=>
  if Ff (.mk k b n s l o)=true then 9 else if 64<d then 5
  else if k=4 then(if AK s=true then 0 else 3)
  else if k=5 then CR l (d+1)
  else if k=6 then Ey none o (d+1) else 0
noncomputable def CR:List GV->Nat->Int
 |[],_=>0
 |v::l,d=>if Bb v d≠0 then Bb v d else CR l d
noncomputable def Ey:Option Baa->List (Baa×GV)->Nat->Int
 |_,[],_=>0
 |p,(k,v)::l,d=>if AK k=false then 3 else if(match p with|none=>true|some q=>ltS q k)=false then 8 else if Bb v d≠0 then Bb v d else Ey (some k) l d
end
theorem DW(v:GV)(d:Nat):Bb v d=if Ff v=true then 9 else if 64<d then 5
  else if v.kind=4 then(if AK v.s=true then 0 else 3)
  else if v.kind=5 then CR v.list (d+1)
  else if v.kind=6 then Ey none v.obj (d+1) else 0:=by cases v;rfl
mutual
def C9:GV->Nat
 |.mk k _ _ _ l o=>if k=5 then 1+Cf l else if k=6 then 1+Du o else 1
def Cf:List GV->Nat
 |[]=>0
 |v::l=>max (C9 v) (Cf l)
def Du:List (Baa×GV)->Nat
 |[]=>0
 |(_,v)::l=>max (C9 v) (Du l)
end
def JD(v:GV):C9 v=if v.kind=5 then 1+Cf v.list else if v.kind=6 then 1+Du v.obj else 1:=by cases v;unfold C9;rfl
def MT(p:Nat×Nat):Nat:=if p.1=34\/p.1=92\/p.1=8\/p.1=9\/p.1=10\/p.1=12\/p.1=13 then 2 else if p.1<32 then 6 else p.2
def La:Nat->Lua->Nat
 |0,_=>0
 |n+1,l=>if l=[] then 0 else MT (Lib.decodeL l)+La n (l.drop (Lib.decodeL l).2)
def Nl(s:Baa):Nat:=if AK s=true then 2+La s.data.toList.length s.data.toList else 0
mutual
def CN:GV->Nat
 |.mk k b n s l o=>if k=1 then 4 else if k=2 then(if b then 4 else 5) else if k=3 then(Lib.itoa n).length else if k=4 then Nl s
  else if k=5 then 2+(l.length-1)+BV l else if k=6 then 2+(o.length-1)+BO o else 4
def BV:List GV->Nat
 |[]=>0
 |v::l=>CN v+BV l
def BO:List (Baa×GV)->Nat
 |[]=>0
 |(k,v)::l=>Nl k+1+CN v+BO l
end
def Ep(v:GV):CN v=if v.kind=1 then 4 else if v.kind=2 then(if v.b then 4 else 5) else if v.kind=3 then(Lib.itoa v.n).length else if v.kind=4 then Nl v.s
  else if v.kind=5 then 2+(v.list.length-1)+BV v.list else if v.kind=6 then 2+(v.obj.length-1)+BO v.obj else 4:=by cases v;unfold CN;rfl
noncomputable def Ao(v:GV):Int:=if Bb v 1≠0 then Bb v 1 else if 16<C9 v then 5 else if 1024<CN v then 6 else 0
mutual
def wtV:GV->Nat
 |.mk _ _ _ s l o=>s.size+(l.length+Ga l)+(o.length+J3 o)
def Ga:List GV->Nat
 |[]=>0
 |v::l=>wtV v+Ga l
def J3:List (Baa×GV)->Nat
 |[]=>0
 |(k,v)::l=>k.size+wtV v+J3 l
end
def LK(v:GV):wtV v=v.s.size+(v.list.length+Ga v.list)+(v.obj.length+J3 v.obj):=by cases v;simp[wtV,GV.s,GV.list,GV.obj]
def DV(s:Baa):noS s=decide (s=⟨#[]⟩):=by unfold noS;rw[RZ]
def V1(s:Baa):noS s=decide (s.size=0):=by
 unfold noS;rw[RZ];congr 1;exact propext (JK s)
def noS_eq{s:Baa}(h:noS s=true):s=bea:=by
 unfold noS at h;rw[RZ] at h;exact of_decide_eq_true h
def EH(h:Ff v=false):1<=v.kind/\v.kind<=6/\(v.kind≠2->v.b=false)/\(v.kind≠3->v.n=0)/\(v.kind≠4->v.s=bea)/\(v.kind≠5->v.list=[])/\(v.kind≠6->v.obj=[]):=by
 simp_all [Ff,beq_iff_eq,noS_eq]
def EK{d:Nat}(h:Bb v d=0):Ff v=false/\d<=64/\(v.kind=4->AK v.s=true)/\(v.kind=5->CR v.list (d+1)=0)/\(v.kind=6->Ey none v.obj (d+1)=0):=by
 rw[DW] at h;grind
def JU{d:Nat}:∀ {l:List GV},CR l d=0->∀v ∈ l,Bb v d=0
 |[],_,v,hv=>by cases hv
 |x::l,h,v,hv=>by
  simp only[CR] at h;split at h
  ·omega
  ·rename_i h1;rcases A2s.1 hv with rfl|hv
   ·omega
   ·exact JU h v hv
noncomputable def Pr(p:Option Baa)(k:Baa)(v:GV)(d:Nat):Int:=if AK k=false then 3 else if(match p with|none=>true|some q=>ltS q k)=false then 8 else Bb v d
def DZ(p:Option Baa)(k:Baa)(v:GV)(l:List (Baa×GV))(d:Nat):Ey p ((k,v)::l) d=if Pr p k v d≠0 then Pr p k v d else Ey (some k) l d:=by
 simp[Ey,Pr];grind
def GY{p:Option Baa}{d:Nat}(h:Pr p k v d=0):AK k=true/\Bb v d=0:=by
 unfold Pr at h;grind
def JV{d:Nat}:∀ {p:Option Baa} {l:List (Baa×GV)},Ey p l d=0->∀v ∈ l,Bb v.2 d=0/\AK v.1=true
 |_,[],_,v,hv=>by cases hv
 |p,(k,x)::l,h,v,hv=>by
  rw[DZ] at h;split at h
  ·omega
  ·rename_i h1;have C:=GY (by simpa using h1);rcases A2s.1 hv with rfl|hv
   ·simp_all
   ·exact JV h v hv
def Qd{α:Type}{f:α->α->Int}:∀ {a b:List α},(∀x ∈ a,∀y ∈ b,f x y=0->x=y)->Dj f a b=0->a=b
 |[],[],_,_=>rfl
 |[],_::_,_,h=>by simp[Dj] at h
 |_::_,[],_,h=>by simp[Dj] at h
 |x::a,y::b,hf,h=>by
  simp[Dj] at h;split at h
  ·rename_i h1;rw[hf x Sq' y Sq' h1,Qd (by grind) h]
  ·rename_i h1;exact absurd h h1
def Mu:∀ {a b:Lua},BD a b=0->a=b
 |[],[],_=>rfl
 |[],_::_,h=>by simp[BD] at h
 |_::_,[],h=>by simp[BD] at h
 |x::a,y::b,h=>by
  simp[BD] at h;split at h
  ·rename_i h1;subst h1;rw[Mu h]
  ·split at h<;>cases h
def QX{a b:Int}(h:EI a b=0):a=b:=by
 grind [EI]
def Ye{a b:Bool}(h:Ks a b=0):a=b:=by cases a<;>cases b<;>simp [Ks] at h|-
def LU:∀(n:Nat) (v u:GV) (d e:Nat),SizeOf.sizeOf v<=n->Bb v d=0->Bb u e=0->Kc n v u=0->v=u
 |0,.mk k b i s l o,u,d,e,hn,_,_,_=>by simp at hn
 |n+1,.mk k b i s l o,.mk k' b' i' s' l' o',d,e,hn,hv,hu,hc=>by
  change(if k≠k' then EI k k' else if k=2 then Ks b b' else if k=3 then EI i i' else if k=4 then CO s s' else if k=5 then Dj (Kc n) l l' else if k=6 then Dj (JE n) o o' else 0)=0 at hc;obtain⟨U,v2,v3,V,Y⟩:=EK hv;obtain⟨Z,u2,u3,u4,u5⟩:=EK hu;obtain⟨a1,a2,a3,a4,a5,a6,a7⟩:=EH U;obtain⟨c1,c2,c3,c4,c5,c6,c7⟩:=EH Z;simp only[GV.kind,GV.b,GV.n,GV.s,GV.list,GV.obj] at*;by_cases N:k=k'
  ·rw[if_neg Om] at hc;subst N;have hb:b=b':=by
    by_cases h:k=2
    ·rw[if_pos h] at hc;exact Ye hc
    simp_all
   have hi:i=i':=by
    by_cases h:k=3
    ·rw[if_neg Om,if_pos h] at hc;exact QX hc
    simp_all
   have hs:s=s':=by
    by_cases h:k=4
    ·rw[if_neg Om,if_neg Om,if_pos h] at hc;exact MD (Mu hc)
    simp_all
   have hl:l=l':=by
    by_cases h:k=5
    ·rw[if_neg Om,if_neg Om,if_neg Om,if_pos h] at hc;refine Qd (λx C y O M=>?_) hc;have hlt:=List.sizeOf_lt_of_mem C;exact LU n x y (d+1) (e+1) (by grind) (JU (V h) x C) (JU (u4 h) y O) M
    simp_all
   have ho:o=o':=by
    by_cases h:k=6
    ·rw[if_neg Om,if_neg Om,if_neg Om,if_neg Om,if_pos h] at hc;refine Qd (λx C y O M=>?_) hc;have hlt:=List.sizeOf_lt_of_mem C;obtain⟨xk,xv⟩:=x;obtain⟨yk,yv⟩:=y;simp[JE] at M;split at M
     ·rename_i h1;rw[LU n xv yv (d+1) (e+1) (by grind) (JV (Y h) _ C).1 (JV (u5 h) _ O).1 M,MD (Mu h1)]
     omega
    simp_all
   simp_all
  ·rw[if_pos N] at hc;exact absurd (QX hc) N
def same_eq{u:GV}{d e:Nat}(C:Bb v d=0)(M:Bb u e=0)(h:J2 v u=0):v=u:=LU _ v u d e (A2e _) C M h
def PL(h:Ao v=0):Bb v 1=0/\C9 v<=16/\CN v<=1024:=by
 grind [Ao,absurd]
def P2(l:Lua):(Lib.decodeL l).2<=MT (Lib.decodeL l)/\MT (Lib.decodeL l)<=6:=by
 have key:∀n b0 b1 b2 C,(Lib.decodeN n b0 b1 b2 C).2<=MT (Lib.decodeN n b0 b1 b2 C)/\MT (Lib.decodeN n b0 b1 b2 C)<=6:=by
  grind [Lib.decodeN,MT]
 grind [Lib.decodeL,Lib.decode_at]
def UJ:∀(n:Nat) (l:Lua),l.length<=n->l.length<=La n l
 |0,l,h=>Om
 |n+1,l,h=>by
  simp[La];split
  ·rename_i h1;subst h1;simp
  ·rename_i h1;have M:=Lib.decodeL_width l;have N:=(P2 l).1;have C:=UJ n (l.drop (Lib.decodeL l).2) (by rw[A2t];omega);rw[A2t] at C;omega
def UI:∀(n:Nat) (l:Lua),La n l<=6*l.length
 |0,l=>by simp[La]
 |n+1,l=>by
  simp[La];split
  ·rename_i h1;subst h1;simp
  ·rename_i h1;have M:=Lib.decodeL_le l h1;have N:=Lib.decodeL_width l;have O:=(P2 l).2;have C:=UI n (l.drop (Lib.decodeL l).2);rw[A2t] at C;omega
def L9(s:Baa):(AK s=true->s.size<=Nl s)/\Nl s<=2+6*s.size:=by
 have h:=UJ _ s.data.toList (A2e _);have C:=UI s.data.toList.length s.data.toList;have M:s.data.toList.length=s.size:=rfl;grind [Nl,absurd]
mutual
def Ww:∀(v:GV) (d:Nat),Bb v d=0->wtV v<=CN v
 |.mk k b i s l o,d,h=>by
  obtain⟨Z,v2,v3,v4,v5⟩:=EK h;obtain⟨a1,a2,a3,a4,M,a6,Y⟩:=EH Z;simp only[GV.kind,GV.b,GV.n,GV.s,GV.list,GV.obj] at*;simp only[wtV,CN];have q1:=L9 s;by_cases N:k=5
  ·have h1:=Yp l (d+1) (v4 N);have O:=M Om;have C:=Y Om;subst O C;simp only[N,J3,A2r];simp;omega
  ·have O:=a6 N;subst O;by_cases U:k=6
   ·have h1:=Yq none o (d+1) (v5 U);have C:=M Om;subst C;simp only[U,Ga,A2r];simp;omega
   ·have C:=Y U;subst C;by_cases V:k=4
    ·have q2:=q1.1 (v3 V);simp only[V,Ga,J3,A2r];simp;omega
    ·have e3:=M V;subst e3;simp[Ga,J3]
def Yp:∀(l:List GV) (d:Nat),CR l d=0->Ga l<=BV l
 |[],_,_=>A2e _
 |v::l,d,h=>by
  simp only[CR] at h;split at h
  ·rename_i h1;exact absurd h h1
  ·rename_i h1;have C:=Ww v d (by simpa using h1);have M:=Yp l d h;simp only[Ga,BV];omega
def Yq:∀(p:Option Baa) (l:List (Baa×GV)) (d:Nat),Ey p l d=0->J3 l<=BO l
 |_,[],_,_=>A2e _
 |p,(k,v)::l,d,h=>by
  rw[DZ] at h;split at h
  ·rename_i h1;exact absurd h h1
  ·rename_i h1;have C:=Ww v d (GY (by simpa using h1)).2;have M:=Yq (some k) l d h;have N:=(L9 k).1 (GY (by simpa using h1)).1;simp only[J3,BO];omega
end
mutual
def SR:∀(v:GV),Sm v->CN v<=24+30*wtV v
 |.mk k b i s l o,h=>by
  have hn:=h.int;have C:=YY l h.list;have M:=YZ o h.obj;have N:=L9 s;simp only[GV.n] at hn;have O:=Lib.itoa_length_le i hn.1 hn.2;simp only[wtV,CN]
  repeat' split
  all_goals omega
def YY:∀(l:List GV),(∀x ∈ l,Sm x)->BV l<=24*l.length+30*Ga l
 |[],_=>by simp[BV]
 |v::l,h=>by
  have h1:=SR v (h v Sq');have M:=YY l λx C=>h x (by simp[C]);simp only[BV,Ga,A2l];omega
def YZ:∀(l:List (Baa×GV)),(∀x ∈ l,Sm x.2)->BO l<=28*l.length+30*J3 l
 |[],_=>by simp[BO]
 |(k,v)::l,h=>by
  have h1:=SR v (h (k,v) Sq');have M:=YZ l λx C=>h x (by simp[C]);have N:=L9 k;simp only[BO,J3,A2l];omega
end
def T6(h:Ao v=0):wtV v<=1024:=by
 obtain⟨h1,_,C⟩:=PL h;exact A2N (Ww v 1 h1) C
noncomputable def TA(s:Baa):Bool:=decide ((s.size:Int)<=64)&&AK s
def Nf(s:Baa):A0 prog 160 [sD s] (bD (TA s)):=by
 have h:=HN s;refine Zk [] λH Hb=>?_
 (have z:=trivial;push_cast<;>repeat' (first|apply Zi<;>intro _|refine Zc h ?_|apply Za)<;>push_cast)
 all_goals(clear H Hb h;first|(simp_all [TA];done)|(simp_all [TA];omega))
noncomputable def Ck(m:GM):Bool:=if m.kind==6 then TA m.key&&TA m.to else if m.kind==7&&noS m.key then !m.had else Ce m.key==0
def ZC(m:GM):A0 prog 103 [.agg (Ai m)] (bD (Ck m)):=by
 have h1:=Nf m.key;have C:=Nf m.to;have M:=My m.key;rw[Ay,A3 m.was,A3 m.value];simp only[A2d,A2h,A2c];refine Zk [0] λH Hb=>?_
 (have z:=trivial;push_cast<;>repeat' (first|apply Zi<;>intro _|refine Zc h1 ?_|refine Zc C ?_|refine Zc M ?_|apply Za)<;>push_cast)
 all_goals(clear H Hb h1 C M;simp_all [Ck,DV])
mutual
noncomputable def BG(F:GV->Int):GM->Nat->Int
 |.mk kd k t n h w i v l,d=>
  if AG (.mk kd k t n h w i v l)=true then 9 else if 6<d then 5 else if Ck (.mk kd k t n h w i v l)=false then 8
  else if h=true/\F w≠0 then F w
  else if(kd=1\/kd=5\/kd=4/\i=true)/\F v≠0 then F v
  else CD F l (d+1)
noncomputable def CD(F:GV->Int):List GM->Nat->Int
 |[],_=>0
 |m::l,d=>if BG F m d≠0 then BG F m d else CD F l d
end
def H2(F:GV->Int)(m:GM)(d:Nat):BG F m d=if AG m=true then 9 else if 6<d then 5 else if Ck m=false then 8
  else if m.had=true/\F m.was≠0 then F m.was
  else if(m.kind=1\/m.kind=5\/m.kind=4/\m.has=true)/\F m.value≠0 then F m.value
  else CD F m.list (d+1):=by cases m;rfl
def Gi{F:GV->Int}{d:Nat}:∀ {l:List GM},CD F l d=0->∀i,i<l.length->BG F (l.getD i zU) d=0
 |[],_,i,h=>by simp at h
 |m::l,h,i,hi=>by
  simp only[CD] at h;split at h
  ·rename_i h1;exact absurd h h1
  ·rename_i h1;cases i with
   |zero=>simpa using h1
   |succ i=>simpa using Gi h i (by simpa using hi)
def Px{F:GV->Int}{d:Nat}:∀ {l:List GM},CD F l d≠0->∃J,J<l.length/\(∀i,i<J->BG F (l.getD i zU) d=0)/\BG F (l.getD J zU) d=CD F l d
 |[],h=>by simp[CD] at h
 |m::l,h=>by
  simp only[CD] at h|-;by_cases h1:BG F m d≠0
  ·exact⟨0,Sq',λi hi=>Om,by simp[h1]⟩
  ·simp only[if_neg h1] at h|-;obtain⟨J,a,b,c⟩:=Px h;refine⟨J+1,by simpa using a,λi hi=>?_,by simpa using c⟩;cases i with
   |zero=>simpa using h1
   |succ i=>simpa using b i Om
inductive SmU:GM->Prop where
 |mk (m:GM) (was:Sm m.was) (value:Sm m.value) (key:m.key.size<=1048576) (totext:m.to.size<=1048576) (len:m.list.length<=1048576) (list:∀x ∈ m.list,SmU x):SmU m
mutual
def wtU:GM->Nat
 |.mk _ k t _ _ w _ v l=>k.size+t.size+wtV w+wtV v+(l.length+TV l)
def TV:List GM->Nat
 |[]=>0
 |m::l=>wtU m+TV l
end
def J4(m:GM):wtU m=m.key.size+m.to.size+wtV m.was+wtV m.value+(m.list.length+TV m.list):=by cases m;rfl
def GC{l:List GM}{x:GM}(h:x ∈ l):wtU x<=TV l:=by
 induction l with
 |nil=>cases h
 |cons y l C=>
  simp only[TV];rcases A2s.1 h with rfl|h
  ·omega
  ·have:=C h;omega
section
variable{F:GV->Int}(hF:∀v,Sm v->wtV v<=2097152->A0 prog 50 [.agg (A7 v)] (.val (.int .i64 (F v))))
include hF
theorem Tr(m:GM)(d:Nat)(hm:SmU m)(a1:wtU m<=2097152)(hd:d<=1000)(h0:BG F m d=0):A0 prog 67 [.agg (Ai m),iD d] (.tup []):=by
 have N:∀x,SizeOf.sizeOf x<SizeOf.sizeOf m->SmU x->wtU x<=2097152->d+1<=1000->BG F x (d+1)=0->A0 prog 67 [.agg (Ai x),iD ((d+1:Nat):Int)] (.tup []):=λx _ h1 h4 C h3=>Tr x (d+1) h1 h4 C h3;obtain⟨_,hw,hv,hk,ht,hl,hls⟩:=hm;rw[H2] at h0;have s1:AG m=false:=by cases h:AG m<;>simp [h] at h0|-
 rw[if_neg (by simp[s1])] at h0;have s2:d<=6:=by
  rcases A2z 6 d with h|h
  ·simp[h] at h0
  ·exact h
 rw[if_neg Om] at h0;have O:Ck m=true:=by cases h:Ck m<;>simp [h] at h0|-
 rw[if_neg (by simp[O])] at h0;have U:m.had=true->F m.was=0:=λh=>Classical.byContradiction λC=>by rw[if_pos ⟨h,C⟩] at h0;exact C h0
 rw[if_neg (λh=>h.2 (U h.1))] at h0;have V:(m.kind=1\/m.kind=5\/m.kind=4/\m.has=true)->F m.value=0:=λh=>Classical.byContradiction λC=>by rw[if_pos ⟨h,C⟩] at h0;exact C h0
 rw[if_neg (λh=>h.2 (V h.1))] at h0;have Y:=RU m;have Z:=ZC m;rw[s1] at Y;rw[O] at Z;have a2:=J4 m;have k4:=hF m.was hw Om;have k5:=hF m.value hv Om;have b2:decide ((d:Int)<=6)=true:=Dt';have w1:IntKind.i64.wrap (↑d+1)=↑d+1:=A9 Om Om;have k0:(m.had=true->A0 prog 104 [iD (F m.was)] (.tup [])):=λh=>by rw[U h];exact Tq
 have k6:(m.kind=1\/m.kind=5\/m.kind=4/\m.has=true)->A0 prog 104 [iD (F m.value)] (.tup []):=λh=>by rw[V h];exact Tq
 have a0:∀i,i<m.list.length->A0 prog 67 [.agg (Ai (m.list.getD i zU)),iD ((d:Int)+1)] (.tup []):=λi hi=>by
  have:=N _ (GM.list_lt (Ae hi)) (hls _ (Ae hi)) (by have:=GC (Ae (d:=zU) hi);omega) Om (Gi h0 i hi);rwa[A3m] at this
 clear h0 N hF;rw[Ay] at*;generalize F m.was=fw at*;generalize F m.value=fv at*;rw[A3] at k4 k5;simp only[A3 m.was,A3 m.value,A2d,A2h,A2c] at*;refine Zf [0] ?_
 (have z:=b2;push_cast[z]<;>repeat' (first|apply Zi<;>intro _|refine Zc Y ?_|refine Zc Z ?_|refine Zc k4 ?_|refine Zc k5 ?_|refine Zc (EU ..) ?_|with_reducible apply Za|(with_reducible show A5 _ _ _ _ _ _ _ _;refine A5.call (by(try push_cast[z]);exact k0 (by assumption)) Gda rfl (by first|rfl|push_cast [z]) ?_)|(with_reducible show A5 _ _ _ _ _ _ _ _;refine A5.call (by(try push_cast[z]);exact k6 (by simp_all)) Gda rfl (by first|rfl|push_cast [z]) ?_)|fail)<;>push_cast[z])
 all_goals
  refine Zl (λi=>i<=m.list.length) (λi=>⟨[(46,iD i),(45,iD m.list.length),(44,.slice (m.list.map Ai) false),(1,iD d)],[],400⟩) (λi=>m.list.length-i) 0 Sq' ?_ λi hi=>?_
  ·apply Zw<;>push_cast
  ·push_cast;refine Ad (λha=>?_) (λha=>?_)
   ·have M:i<m.list.length:=by simpa using ha
    have e1:=EV M;have hr:=a0 i M
    (have z:=Za e1 w1;push_cast[z]<;>repeat' (first|apply Zi<;>intro _|refine Zc (hr ..) ?_|apply Za)<;>push_cast[z])<;>try omega
    refine⟨i+1,M,Om,?_⟩;apply Zw<;>push_cast;exact A9 Om Om
   ·(push_cast<;>repeat' (first|apply Zi<;>intro _|apply Za)<;>push_cast)
termination_by SizeOf.sizeOf m
end
noncomputable def mvF(p t:Baa)(L:Lga)(e:GE):Int:=if Ce (BY e.1 p t)≠0 then 8 else if D9 (BY e.1 p t) L=true/\Cn (BY e.1 p t) p=false then 13 else 0
noncomputable abbrev mvT(p t:Baa)(e:GE):GE:=(BY e.1 p t,e.2)
def Le(p t:Baa)(L:Lga)(e:GE)(g:Lga):Hx p t L (e::g)=if mvF p t L e≠0 then(mvF p t L e,[]) else((Hx p t L g).1,mvT p t e::(Hx p t L g).2):=by
 grind [Hx,mvF]
def Pm{p t:Baa}{L:Lga}:∀ {G:Lga},(∀e ∈ G,mvF p t L e=0)->Hx p t L G=(0,G.map (mvT p t))
 |[],_=>rfl
 |e::g,h=>by
  rw[Le,if_neg (by simp_all),Pm (by simp_all)];rfl
def Mb{p t:Baa}{L:Lga}:∀ {G:Lga},(Hx p t L G).1=0->∀e ∈ G,mvF p t L e=0
 |[],_,e,he=>by cases he
 |x::g,h,e,he=>by
  rw[Le] at h;split at h
  ·omega
  ·rename_i h1;rcases A2s.1 he with rfl|he
   ·omega
   ·exact Mb h e he
def Pk{p t:Baa}{L:Lga}:∀ {G:Lga},(Hx p t L G).1≠0->∃J,J<G.length/\(∀j,j<J->mvF p t L (G.getD j zM)=0)/\mvF p t L (G.getD J zM)≠0/\(Hx p t L G).1=mvF p t L (G.getD J zM)
 |[],h=>by simp[Hx] at h
 |x::g,h=>by
  rw[Le] at h|-;by_cases h1:mvF p t L x≠0
  ·exact⟨0,Sq',λj C=>Om,by simp_all,by simp_all⟩
  ·rw[if_neg h1] at h|-;obtain⟨J,a,b,c,d⟩:=Pk h;refine⟨J+1,by simp_all,λj C=>?_,by simp_all,by simp_all⟩;cases j with
   |zero=>simp_all
   |succ j=>simp_all
def Pj{t:Baa}{e:GE}(h:mvF p t L e=0):Ce (BY e.1 p t)=0/\¬(D9 (BY e.1 p t) L=true/\Cn (BY e.1 p t) p=false):=by
 grind [mvF]
structure VOk(L:List GE):Prop where
 srt:Srt L
 key:∀e ∈ L,Ce e.1=0
 fit:∀e ∈ L,Ao e.2=0
 sm:∀e ∈ L,Sm e.2
def VOk.nil:VOk []:=⟨List.Pairwise.nil,Sq',Sq',Sq'⟩
def VOk.put(h:VOk L)(M:Ce k=0)(hf:Ao v=0)(hs:Sm v):VOk (B4 (k,v) L):=
 ⟨F6 h.srt,λe C=>(GQ C).elim (λe'=>by simp_all) (h.key e),λe C=>(GQ C).elim (λe'=>by simp_all) (h.fit e),λe C=>(GQ C).elim (λe'=>by simp_all) (h.sm e)⟩
def VOk.sub{L':Lga}(h:VOk L)(hs:L'.Sublist L):VOk L':=
 ⟨h.srt.sublist hs,λe C=>h.key e (hs.subset C),λe C=>h.fit e (hs.subset C),λe C=>h.sm e (hs.subset C)⟩
def VOk.rem(h:VOk L)(k:Baa):VOk (BX k L):=h.sub List.filter_sublist
def E6{f:Int}(h:BM f k=0):Ce k=0/\f=0:=by
 grind [BM]
abbrev DF(g R:Lga):Lga:=g.foldl (λR e=>B4 e R) R
theorem Jo{F:GV->Int}:∀ {g R:Lga},(∀e ∈ g,BM (F e.2) e.1=0)->Ss F g R=(0,DF g R)
 |[],R,_=>rfl
 |e::g,R,h=>by
  simp only[Ss];rw[if_pos (h e Sq'),Jo (by simp_all)];rfl
def PI:∀ {g R:Lga},(∀e ∈ g,Ce e.1=0/\Ao e.2=0/\Sm e.2)->VOk R->VOk (DF g R)/\(DF g R).length<=R.length+g.length
 |[],R,_,h=>⟨h,A2e _⟩
 |e::g,R,hg,h=>by
  obtain⟨h1,C,M⟩:=hg e Sq';obtain⟨a,b⟩:=PI (g:=g) (R:=B4 e R) (by grind) (h.put h1 C M);refine⟨a,A2N b ?_⟩;have:=(Dp e R).1;simp;omega
def Wm(p:Baa)(L:Lga):(EJ p L).length+(BK p L).length=L.length:=by
 unfold EJ BK
 induction L with
 |nil=>rfl
 |cons e L C=>
  grind
def V3{t:Baa}(C:VOk L)(h:(Hx p t L (BK p L)).1=0):Dr Ao p t L=(0,DF ((BK p L).map (mvT p t)) (EJ p L))/\(∀e ∈ (BK p L).map (mvT p t),Ce e.1=0/\Ao e.2=0/\Sm e.2):=by
 have M:=Mb h;have V:∀e ∈ (BK p L).map (mvT p t),Ce e.1=0/\Ao e.2=0/\Sm e.2:=λe U=>by
  obtain⟨x,N,rfl⟩:=A2p.1 U;have O:=(A2U.1 N).1;exact⟨(Pj (M x N)).1,C.fit x O,C.sm x O⟩
 unfold Dr;rw[if_neg (by simp[h]),Pm M];grind [Jo,BM]
noncomputable def GL(m:GM)(L:Lga):Lga:=if (Bv Ao m L).1=0 then(Bv Ao m L).2 else L
def SA(h:VOk L)(k:Baa):Sm (AR (Am k L))/\wtV (AR (Am k L))<=1024:=by
 unfold Am;cases hf:L.find? λx=>decide (x.1=k) with
 |none=>exact ⟨Sm_zV,by simp[AR,zV,wtV,Ga,J3]⟩
 |some e=>
  have C:=List.mem_of_find?_eq_some hf;exact⟨h.sm e C,T6 (h.fit e C)⟩
def SW(L:Lga)(k:Baa)(d:Int):Sm (Es L k d):=.mk _ _ _ _ [] [] Sq' Sq' Sq' Sq' (QB _) Dq' Sq'
def Z2(L:Lga)(k:Baa)(d:Int):wtV (Es L k d)=0:=by simp[Es,wtV,Ga,J3]
def MJ:∀(a b:List GV),Ga (a++b)=Ga a+Ga b
 |[],b=>by simp[Ga]
 |x::a,b=>by simp[Ga,MJ a b];omega
def TE(h:VOk L)(k:Baa){x:GV}(N:Sm x):Sm (DC L k x)/\wtV (DC L k x)<=2048+wtV x:=by
 obtain⟨h1,M⟩:=SA h k;rw[LK] at M;constructor
 ·refine .mk _ _ _ _ _ [] ?_ Sq' (λy C=>?_) Sq' Dq' Dq' Sq'
  ·grind
  ·rcases A2Y.1 C with C|C
   ·exact h1.list y C
   simp_all
 ·simp only[DC,wtV,MJ,Ga,J3,A2a,A2l,A2r];simp;omega
def SmU.parts{m:GM}(h:SmU m):Sm m.was/\Sm m.value/\m.list.length<=1048576/\∀x ∈ m.list,SmU x:=by
 cases h;simp_all
def casL_ok{m:GM}{f:Int}(h:VU m L f=0):VT m L f=(if m.has=true then B4 (m.key,m.value) L else BX m.key L)/\(m.has=true->BM f m.key=0):=by
 unfold VU at h;unfold VT;grind
mutual
def KX:∀(m:GM) (L:Lga),SmU m->VOk L->VOk (GL m L)/\(GL m L).length<=L.length+AY m
 |.mk kd k t n h w i v l,L,hm,hL=>by
  have hz:1<=AY (.mk kd k t n h w i v l):=by simp[AY]
  obtain⟨m1,M,m3,Y⟩:=hm.parts;simp only[GM.was,GM.value,GM.list] at m1 M m3 Y;have a0:VOk L/\L.length<=L.length+AY (.mk kd k t n h w i v l):=⟨hL,Om⟩
  have N:∀C,Ao C=0->Ce k=0->Sm C->VOk (B4 (k,C) L)/\(B4 (k,C) L).length<=L.length+AY (.mk kd k t n h w i v l):=λC h1 h2 h3=>⟨hL.put h2 h1 h3,by have:=(Dp (k,C) L).1;omega⟩
  have Z:VOk (BX k L)/\(BX k L).length<=L.length+AY (.mk kd k t n h w i v l):=⟨hL.rem k,by have:(BX k L).length<=L.length:=A2S _ _;omega⟩
  unfold GL;by_cases hc:(Bv Ao (.mk kd k t n h w i v l) L).1=0
  ·rw[if_pos hc];simp only[Bv] at hc|-;by_cases k1:kd=1
   ·simp only[if_pos k1] at hc|-;rw[if_pos hc];exact N v (E6 hc).2 (E6 hc).1 M
   ·simp only[if_neg k1] at hc|-;by_cases k2:kd=2
    ·simp only[if_pos k2] at hc|-;by_cases hh:D9 k L=true
     ·rw[if_pos hh];exact Z
     ·rw[if_neg hh] at hc;exact absurd (show(12:Int)=0 from hc) Dq'
    ·simp only[if_neg k2] at hc|-;by_cases k3:kd=3
     ·simp only[if_pos k3] at hc|-;rw[if_pos hc];unfold Gv at hc;split at hc
      ·cases hc
      ·split at hc
       ·cases hc
       ·exact N _ (E6 hc).2 (E6 hc).1 (SW L k n)
     ·simp only[if_neg k3] at hc|-;by_cases k4:kd=4
      ·simp only[if_pos k4] at hc|-;obtain⟨U,O⟩:=casL_ok hc;rw[U];change VOk (if i=true then B4 (k,v) L else BX k L)/\(if i=true then B4 (k,v) L else BX k L).length<=_;cases i with
       |true=>exact N v (E6 (O rfl)).2 (E6 (O rfl)).1 M
       |false=>exact Z
      ·simp only[if_neg k4] at hc|-;by_cases k5:kd=5
       ·simp only[if_pos k5] at hc|-;rw[if_pos hc];unfold HT at hc;split at hc
        ·cases hc
        ·split at hc
         ·cases hc
         ·exact N _ (E6 hc).2 (E6 hc).1 (TE hL k M).1
       ·simp only[if_neg k5] at hc|-;by_cases k6:kd=6
        ·simp only[if_pos k6] at hc|-;by_cases V:(Hx k t L (BK k L)).1=0
         ·obtain⟨U,O⟩:=V3 hL V;rw[U];obtain⟨a,b⟩:=PI O (hL.sub (L':=EJ k L) List.filter_sublist);have hb:=Wm k L;rw[A2k] at b;refine⟨a,?_⟩;show(DF ((BK k L).map (mvT k t)) (EJ k L)).length<=_;omega
         ·unfold Dr at hc;rw[if_pos V] at hc;exact absurd hc V
        ·simp only[if_neg k6] at hc|-;by_cases k7:kd=7
         ·simp only[if_pos k7] at hc|-;by_cases hs:k.size≠0/\F1 (.mk kd k t n h w i v l) L=false
          ·rw[if_pos hs] at hc;exact absurd (show(13:Int)=0 from hc) Dq'
          ·rw[if_neg hs] at hc|-;obtain⟨a,b⟩:=Ue l L Y hL hc;refine⟨a,?_⟩;simp only[AY];omega
         ·simp only[if_neg k7] at hc;exact absurd (show(9:Int)=0 from hc) Dq'
  ·rw[if_neg hc];exact a0
def Ue:∀(l:List GM) (L:Lga),(∀x ∈ l,SmU x)->VOk L->(Dn Ao l L).1=0->VOk (Dn Ao l L).2/\(Dn Ao l L).2.length<=L.length+Br l
 |[],L,_,hL,_=>⟨hL,by simp[Dn]⟩
 |m::l,L,hm,hL,hc=>by
  simp only[Dn] at hc|-;by_cases h:(Bv Ao m L).1=0
  ·rw[if_pos h] at hc|-;obtain⟨a,b⟩:=KX m L (hm m Sq') hL;have e:GL m L=(Bv Ao m L).2:=by unfold GL;rw[if_pos h]
   rw[e] at a b;obtain⟨c,d⟩:=Ue l _ (λx C=>hm x (by simp[C])) a hc;exact⟨c,by simp only[Br];omega⟩
  ·rw[if_neg h] at hc;exact absurd hc h
end
def Vl(hs:Srt L){x:GE}(C:x ∈ L):Am x.1 L=some x.2:=by
 have hn:=hs.keys;unfold Am;have h1:(L.find? λy=>decide (y.1=x.1))=some x:=by
  induction L with
  |nil=>cases C
  |cons y L N=>
   simp only[List.find?_cons];by_cases M:y.1=x.1
   ·rw[decide_eq_true M];rcases A2s.1 C with rfl|C
    ·rfl
    ·have:=A00 (hs.head x C);exact absurd M this
   ·rw[decide_eq_false M];rcases A2s.1 C with rfl|C
    ·exact absurd rfl M
    ·exact N hs.tail C hs.tail.keys
 rw[h1];rfl
section
variable{b:GT}{q:OQ}{l:Lga}(h:Fe b q l)(hl:l.length+q.es.length<=1048576)(hls:∀e ∈ l,e.1.size<=64)(p t:Baa)(hp:p.size<=1048576)(ht:t.size<=1048576)(hvs:∀e ∈ q.view l,e.1.size<=64/\Sm e.2)(hE:A0 prog 362 [.val (.string p)] (.tup [.val (.string (JA p).1),.val (.bool (JA p).2)]))
include h hl hls hp ht hvs hE
variable(hvl:(q.view l).length<=1048576)
include hvl
theorem q_moveE(G:Lga)(hG:BK p (q.view l)=G)(J:Nat)(hJ:J<G.length)(h0:∀j,j<J->mvF p t (q.view l) (G.getD j zM)=0)(hc:mvF p t (q.view l) (G.getD J zM)≠0):
  A4 prog 169 [.ref 1 0 0 3,sD p,sD t] (oqH b q) (iD (mvF p t (q.view l) (G.getD J zM))) (oqH b q):=by
 have hP:=UL h hl hls p hE;have a0:=λk=>YK h Om k;have C:=A6 b;have a3:∀j,j<G.length->G.getD j zM ∈ q.view l/\Cn (G.getD j zM).1 p=true:=λj hj=>by
  have:=Ae (d:=zM) hj;generalize G.getD j zM=x at this|-;rw[<-hG] at this;exact A2U.1 this
 have a5:G.length<=1048576:=by
  rw[<-hG];exact A2N (A2S _ _) hvl
 rw[hG] at hP;have U:((G.map (·.1)).map λk=>[D.val (.string k)])=G.map λe=>[D.val (.string e.1)]:=by rw[A30];rfl
 rw[U] at hP;have M:Aa (G.map λe=>[D.val (.string e.1)])=true:=Aw (λ_=>rfl) G;simp only[oqH] at hP a0|-;refine Zd [] ?_
 (have z:=Za C M;push_cast[z]<;>repeat' (first|refine Zs [(1,1),(2,2),(4,4)] hP ?_|apply Za)<;>push_cast[z])
 refine Zl (λi=>i<=J) (λi=>⟨[(8,.gref 46 i),(27,iD i),(26,iD G.length),(25,.slice (G.map λe=>[sD e.1]) false),(7,.slice (G.map λe=>[sD e.1]) false),(0,.ref 1 0 0 3),(1,sD p),(2,sD t)],[(46,.grow ((G.take i).map λe=>A8 (mvT p t e)) 7),(1,.rows [[Ah b,cD 42 q,.gref 44 q.us.length]] 3),(42,cB q),(44,.grow (q.us.map λu=>[BJ u]) 1)],200⟩) (λi=>J-i) 0 Sq' ?_ λi hi=>?_
 ·refine Aq.trans (s':=⟨(8,.slice [] true)::[(27,iD 0),(26,iD G.length),(25,.slice (G.map λe=>[sD e.1]) false),(7,.slice (G.map λe=>[sD e.1]) false),(0,.ref 1 0 0 3),(1,sD p),(2,sD t)],[(1,.rows [[Ah b,cD 34 q,.gref 36 q.us.length]] 3),(34,cB q),(36,.grow (q.us.map λu=>[BJ u]) 1)],40⟩) (by apply Zw<;>push_cast [C,M]) (Aq.trans (Aq.nilgrowE 7) ?_);apply Zr [(46,80),(42,34),(44,36)] rfl<;>push_cast [C,M]
 ·push_cast[C,M];refine Ad (λha=>?_) (λha=>?_)
  ·have Y:i<G.length:=by simpa using ha
   have U:=DT (f:=λe:GE=>[D.val (.string e.1)]) zM Y;obtain⟨m1,m2⟩:=a3 i Y;obtain⟨m3,m4⟩:=hvs _ m1;generalize hx:G.getD i zM=x at*;have N:=c_Turn x.1 p t m2 ⟨Om,ht⟩;change A0 _ _ _ (if Ce (BY x.1 p t)=0 then .tup [sD (BY x.1 p t),iD 0] else .tup [sD bea,iD (Ce (BY x.1 p t))]) at N;have V:=a0 (BY x.1 p t);have a1:=a0 x.1;have Z:=Qo (BY x.1 p t) p;rcases A2z i J with hij|hij
   ·have a2:=h0 i hij;rw[hx] at a2;obtain⟨z1,z2⟩:=Pj a2;rw[if_pos z1] at N;rw[FW] at z2;generalize hu:BY x.1 p t=u at*;have a4:=Vl h.srt m1;rw[a4,show AR (some x.2)=x.2 from rfl] at a1;have tl:(G.take i).length=i:=by rw[A2x];omega
    have tk:((G.take i).map λe=>A8 (mvT p t e))++[sD u::A7 x.2]=(G.take (i+1)).map λe=>A8 (mvT p t e):=by
     rw[A2J Y,A2F];have:G[i]=x:=by rw[<-hx,A29,A2f Y];rfl
     simp[this,mvT,hu,Aj]
    cases hs:(Am u (q.view l)).isSome with
    |false=>
     rw[hs] at V
     (have z:=Za C<|Za M U;push_cast[z]<;>repeat' (first|refine Zc N ?_|refine Zs [(1,1),(2,42),(4,44)] V ?_|refine Zs [(1,1),(2,538),(4,540)] a1 ?_|apply Za)<;>push_cast[z])
     all_goals first|omega|(intro y O;rw[A2b.1 O];exact Ba (u,x.2))|(intro y O;rw[A2b.1 O];exact A2q.1 (BW (u,x.2)))|skip
     rw[tk,tl];refine⟨i+1,hij,Om,?_⟩;have w1:IntKind.i64.wrap (↑i+1)=↑i+1:=A9 Om Om;have oK:Aa ((G.take (i+1)).map λe=>A8 (mvT p t e))=true:=Aw (λ_=>Ap _) _;apply Zr [(46,760),(42,666),(44,668)] rfl<;>push_cast [C,M,w1,oK]
    |true=>
     rw[hs] at V;have hb:Cn u p=true:=by
      cases hb:Cn u p with
      |true=>rfl
      |false=>exact absurd ⟨hs,hb⟩ z2
     rw[hb] at Z
     (have z:=Za C<|Za M U;push_cast[z]<;>repeat' (first|refine Zc N ?_|refine Zs [(1,1),(2,42),(4,44)] V ?_|refine Zc Z ?_|refine Zs [(1,1),(2,538),(4,540)] a1 ?_|apply Za)<;>push_cast[z])
     all_goals first|omega|(intro y O;rw[A2b.1 O];exact Ba (u,x.2))|(intro y O;rw[A2b.1 O];exact A2q.1 (BW (u,x.2)))|skip
     rw[tk,tl];refine⟨i+1,hij,Om,?_⟩;have w1:IntKind.i64.wrap (↑i+1)=↑i+1:=A9 Om Om;have oK:Aa ((G.take (i+1)).map λe=>A8 (mvT p t e))=true:=Aw (λ_=>Ap _) _;apply Zr [(46,760),(42,666),(44,668)] rfl<;>push_cast [C,M,w1,oK]
   ·obtain rfl:i=J:=Om;rw[hx] at hc|-;unfold mvF at hc|-;rw[FW] at hc|-;generalize hu:BY x.1 p t=u at*;by_cases z1:Ce u=0
    ·rw[if_pos z1] at N;rw[if_neg (by simp[z1])] at hc|-;by_cases z2:(Am u (q.view l)).isSome=true/\Cn u p=false
     ·rw[if_pos z2];obtain⟨hs,hb⟩:=z2;rw[hs] at V;rw[hb] at Z
      (have z:=Za C<|Za M U;push_cast[z]<;>repeat' (first|refine Zc N ?_|refine Zs [(1,1),(2,42),(4,44)] V ?_|refine Zc Z ?_|apply Za)<;>push_cast[z])<;>try omega
      apply Zr [(2,538),(4,540)] rfl<;>push_cast [C,M]
     ·rw[if_neg z2] at hc;exact absurd rfl hc
    ·rw[if_neg z1] at N;rw[if_pos z1];have b1:(Ce u !=0)=true:=by simpa using z1
     generalize Ce u=c at*
     (have z:=Za C<|Za M<|Za U b1;push_cast[z]<;>repeat' (first|refine Zc N ?_|apply Za)<;>push_cast[z])<;>try omega
     apply Zr [(2,42),(4,44)] rfl<;>push_cast [C,M]
  ·exact absurd ha So'
theorem q_move0(G:Lga)(hG:BK p (q.view l)=G)(h0:∀j,j<G.length->mvF p t (q.view l) (G.getD j zM)=0)(V Y:Nat->OQ)(c2:Nat->Bool)(a6:V 0=q)(a7:Y 0=V G.length)
  (hD:∀i,i<G.length->A4 prog 165 [.ref 1 0 0 3,.val (.string (G.getD i zM).1)] (oqH b (V i)) (bD (c2 i)) (oqH b (V (i+1))))
  (a4:∀i,i<G.length->A4 prog 164 [.ref 1 0 0 3,.val (.string (mvT p t (G.getD i zM)).1),.agg (A7 (G.getD i zM).2)] (oqH b (Y i)) (iD 0) (oqH b (Y (i+1)))):
  A4 prog 169 [.ref 1 0 0 3,sD p,sD t] (oqH b q) (iD 0) (oqH b (Y G.length)):=by
 have hP:=UL h hl hls p hE;have a0:=λk=>YK h Om k;have C:=A6 b;have a8:∀j,j<G.length->G.getD j zM ∈ q.view l/\Cn (G.getD j zM).1 p=true:=λj hj=>by
  have:=Ae (d:=zM) hj;generalize G.getD j zM=x at this|-;rw[<-hG] at this;exact A2U.1 this
 have aa:G.length<=1048576:=by
  rw[<-hG];exact A2N (A2S _ _) hvl
 rw[hG] at hP;have U:((G.map (·.1)).map λk=>[D.val (.string k)])=G.map λe=>[D.val (.string e.1)]:=by rw[A30];rfl
 rw[U] at hP;have M:Aa (G.map λe=>[D.val (.string e.1)])=true:=Aw (λ_=>rfl) G;simp only[oqH] at hP a0 hD a4|-;refine Zd [] ?_
 (have z:=Za C M;push_cast[z]<;>repeat' (first|refine Zs [(1,1),(2,2),(4,4)] hP ?_|apply Za)<;>push_cast[z])
 refine Zl (λi=>i<=G.length) (λi=>⟨[(8,.gref 46 i),(27,iD i),(26,iD G.length),(25,.slice (G.map λe=>[sD e.1]) false),(7,.slice (G.map λe=>[sD e.1]) false),(0,.ref 1 0 0 3),(1,sD p),(2,sD t)],[(46,.grow ((G.take i).map λe=>A8 (mvT p t e)) 7),(1,.rows [[Ah b,cD 42 q,.gref 44 q.us.length]] 3),(42,cB q),(44,.grow (q.us.map λu=>[BJ u]) 1)],200⟩) (λi=>G.length-i) 0 Sq' ?_ λi hi=>?_
 ·refine Aq.trans (s':=⟨(8,.slice [] true)::[(27,iD 0),(26,iD G.length),(25,.slice (G.map λe=>[sD e.1]) false),(7,.slice (G.map λe=>[sD e.1]) false),(0,.ref 1 0 0 3),(1,sD p),(2,sD t)],[(1,.rows [[Ah b,cD 34 q,.gref 36 q.us.length]] 3),(34,cB q),(36,.grow (q.us.map λu=>[BJ u]) 1)],40⟩) (by apply Zw<;>push_cast [C,M]) (Aq.trans (Aq.nilgrowE 7) ?_);apply Zr [(46,80),(42,34),(44,36)] rfl<;>push_cast [C,M]
 ·push_cast[C,M];refine Ad (λha=>?_) (λha=>?_)
  ·have N:i<G.length:=by simpa using ha
   have U:=DT (f:=λe:GE=>[D.val (.string e.1)]) zM N;obtain⟨m1,m2⟩:=a8 i N;obtain⟨m3,m4⟩:=hvs _ m1;generalize hx:G.getD i zM=x at*;have hT:=c_Turn x.1 p t m2 ⟨Om,ht⟩;change A0 _ _ _ (if Ce (BY x.1 p t)=0 then .tup [sD (BY x.1 p t),iD 0] else .tup [sD bea,iD (Ce (BY x.1 p t))]) at hT;have a1:=a0 (BY x.1 p t);have a2:=a0 x.1;have hB:=Qo (BY x.1 p t) p
   ·have a3:=N;have a5:=h0 i a3;rw[hx] at a5;obtain⟨z1,z2⟩:=Pj a5;rw[if_pos z1] at hT;rw[FW] at z2;generalize hu:BY x.1 p t=u at*;have a9:=Vl h.srt m1;rw[a9,show AR (some x.2)=x.2 from rfl] at a2;have tl:(G.take i).length=i:=by rw[A2x];omega
    have tk:((G.take i).map λe=>A8 (mvT p t e))++[sD u::A7 x.2]=(G.take (i+1)).map λe=>A8 (mvT p t e):=by
     rw[A2J N,A2F];have:G[i]=x:=by rw[<-hx,A29,A2f N];rfl
     simp[this,mvT,hu,Aj]
    cases hs:(Am u (q.view l)).isSome with
    |false=>
     rw[hs] at a1
     (have z:=Za C<|Za M U;push_cast[z]<;>repeat' (first|refine Zc hT ?_|refine Zs [(1,1),(2,42),(4,44)] a1 ?_|refine Zs [(1,1),(2,538),(4,540)] a2 ?_|apply Za)<;>push_cast[z])
     all_goals first|omega|(intro y Z;rw[A2b.1 Z];exact Ba (u,x.2))|(intro y Z;rw[A2b.1 Z];exact A2q.1 (BW (u,x.2)))|skip
     rw[tk,tl];refine⟨i+1,a3,Om,?_⟩;have w1:IntKind.i64.wrap (↑i+1)=↑i+1:=A9 Om Om;have oK:Aa ((G.take (i+1)).map λe=>A8 (mvT p t e))=true:=Aw (λ_=>Ap _) _;apply Zr [(46,760),(42,666),(44,668)] rfl<;>push_cast [C,M,w1,oK]
    |true=>
     rw[hs] at a1;have hb:Cn u p=true:=by
      cases hb:Cn u p with
      |true=>rfl
      |false=>exact absurd ⟨hs,hb⟩ z2
     rw[hb] at hB
     (have z:=Za C<|Za M U;push_cast[z]<;>repeat' (first|refine Zc hT ?_|refine Zs [(1,1),(2,42),(4,44)] a1 ?_|refine Zc hB ?_|refine Zs [(1,1),(2,538),(4,540)] a2 ?_|apply Za)<;>push_cast[z])
     all_goals first|omega|(intro y Z;rw[A2b.1 Z];exact Ba (u,x.2))|(intro y Z;rw[A2b.1 Z];exact A2q.1 (BW (u,x.2)))|skip
     rw[tk,tl];refine⟨i+1,a3,Om,?_⟩;have w1:IntKind.i64.wrap (↑i+1)=↑i+1:=A9 Om Om;have oK:Aa ((G.take (i+1)).map λe=>A8 (mvT p t e))=true:=Aw (λ_=>Ap _) _;apply Zr [(46,760),(42,666),(44,668)] rfl<;>push_cast [C,M,w1,oK]
  ·have N:i=G.length:=by simp at ha;omega
   subst N;have O:Aa (G.map λe=>A8 (mvT p t e))=true:=Aw (λ_=>Ap _) G;rw[A2I];clear a0 hP
   (have z:=Za C<|Za M O;push_cast[z]<;>repeat' apply Za<;>push_cast[z])
   subst a6;refine Zl (λi=>i<=G.length) (λi=>⟨[(8,.gref 46 G.length),(68,iD i),(67,iD G.length),(66,.slice (G.map λe=>[sD e.1]) false),(0,.ref 1 0 0 3)],[(46,.grow (G.map λe=>A8 (mvT p t e)) 7),(1,.rows [[Ah b,cD 42 (V i),.gref 44 (V i).us.length]] 3),(42,cB (V i)),(44,.grow ((V i).us.map λu=>[BJ u]) 1)],400⟩) (λi=>G.length-i) 0 Sq' ?_ λi hi=>?_
   ·apply Zw<;>push_cast [C,M,O]
   ·push_cast[C,M,O];refine Ad (λhb=>?_) (λhb=>?_)
    ·have N:i<G.length:=by simpa using hb
     have U:=DT (f:=λe:GE=>[D.val (.string e.1)]) zM N;have hd:=hD i N
     (have z:=Za C<|Za M<|Za O U;push_cast[z]<;>repeat' (first|refine Zs [(1,1),(2,42),(4,44)] (hd ..) ?_|apply Za)<;>push_cast[z])<;>try omega
     refine⟨i+1,N,Om,?_⟩;have w1:IntKind.i64.wrap (↑i+1)=↑i+1:=A9 Om Om;apply Zr [(42,850),(44,852)] rfl<;>push_cast [C,M,O,w1]
    ·have N:i=G.length:=by simp at hb;omega
     subst N;rw[<-a7]
     (have z:=Za C<|Za M O;push_cast[z]<;>repeat' apply Za<;>push_cast[z])<;>try omega
     refine Zl (λi=>i<=G.length) (λi=>⟨[(76,.gref 46 G.length),(78,iD i),(77,iD G.length),(0,.ref 1 0 0 3)],[(46,.grow (G.map λe=>A8 (mvT p t e)) 7),(1,.rows [[Ah b,cD 42 (Y i),.gref 44 (Y i).us.length]] 3),(42,cB (Y i)),(44,.grow ((Y i).us.map λu=>[BJ u]) 1)],800⟩) (λi=>G.length-i) 0 Sq' ?_ λi hi=>?_
     ·apply Zw<;>push_cast [C,M,O]
     ·push_cast[C,M,O];refine Ad (λhb=>?_) (λhb=>?_)
      ·have N:i<G.length:=by simpa using hb
       have U:=DT (f:=λe:GE=>A8 (mvT p t e)) zM N;have hd:=a4 i N;rw[Aj] at U;generalize G.getD i zM=x at*
       (have z:=Za C<|Za M<|Za O U;push_cast[z]<;>repeat' (first|refine Zs [(1,1),(2,42),(4,44)] (hd ..) ?_|apply Za)<;>push_cast[z])<;>try omega
       refine⟨i+1,N,Om,?_⟩;have w1:IntKind.i64.wrap (↑i+1)=↑i+1:=A9 Om Om;apply Zr [(42,1682),(44,1684)] rfl<;>push_cast [C,M,O,w1]
      ·have N:i=G.length:=by simp at hb;omega
       subst N
       (have z:=Za C<|Za M O;push_cast[z]<;>repeat' apply Za<;>push_cast[z])
       apply Zr [(2,42),(4,44)] rfl<;>push_cast [C,M,O]
end
def Ru:∀ {l:Lua},(∀j,j<l.length->l[j]? =some 255)->Gy l=none
 |[],_=>rfl
 |x::l,h=>by
  have h0:=h 0 Sq';simp only[A2Z,A2j] at h0;have C:=Ru (l:=l) λj M=>by
   have:=h (j+1) (by simpa using M);simpa using this
  simp[Gy,C,h0]
def A1e:∀ {l:Lua} {m:Nat} {x:UInt8},l[m]? =some x->(∀j,m<j->j<l.length->l[j]? =some 255)->x≠255->Gy l=some (l.take m++[x+1])
 |[],m,x,h,_,_=>by simp at h
 |y::l,0,x,h,hh,hx=>by
  simp only[A2Z,A2j] at h;subst h;have C:=Ru (l:=l) λj M=>by
   have:=hh (j+1) Om (by simpa using M);simpa using this
  simp[Gy,C,hx]
 |y::l,m+1,x,h,hh,hx=>by
  have C:=A1e (l:=l) (m:=m) (x:=x) (by simpa using h) (λj h1 N=>by
   have:=hh (j+1) Om (by simpa using N);simpa using this) hx
  simp[Gy,C]
def endS_none(h:Gy p.data.toList=none):JA p=(⟨#[]⟩,false):=by unfold JA;rw[h];rfl
def endS_some{l:Lua}(h:Gy p.data.toList=some l):JA p=(⟨l.toArray⟩,true):=by unfold JA;rw[h]
end Go.Ab
namespace Go.Proofs
open Go.Proofs Go.Proofs.Tryz Go.RowKit
def Wq(p:Baa)(k:Nat):Prop:=∀j,k<=j->j<p.size->p.data.toList[j]? =some 255
def w_End(p:Baa)(w:World)(hs:p.size<=9223372036854775807):
  Calls prog 362 [.string p].toArray w λe w'=>e=.returned (.tuple #[.string (Go.Ab.JA p).1,.bool (Go.Ab.JA p).2])/\Below w.heap.size w w':=by
 show Calls prog 362 #[.string p] w _;have Y:=underlying9;have ai:=underlying3;have Z:=underlying5;have a0:=underlying49;have aj:p.data.toList.length=p.size:=rfl
 go_enter func362,ntmps362
 go_wp2;go_step3;go_wp2;go_step3;go_wp2
 go_loop [4] (λi=>∃k:Nat,k<=p.size/\i=.int .i64 ((k:Int)-1)/\Wq p k) (λi=>(intOf i+1).toNat)
 case atStart=>
  exact⟨p.size,A2e _,rfl,λj h1 M=>Om⟩
 case round=>
  obtain⟨k,hk,rfl,O⟩:=hrel;rcases A2K k with hz|hz
  ·subst hz;have U:=Go.Ab.endS_none (Go.Ab.Ru λj C=>O j Om Om)
   go_wp2
   refine bodyPost_ret (results_tmp2 rfl _ _ _) rfl ?_;rw[U];exact⟨rfl,Below.refl _ _⟩
  ·obtain⟨m,rfl⟩:∃m,k=m+1:=⟨k-1,Om⟩
   have hm:m<p.size:=Om;have em:((m+1:Nat):Int)-1=(m:Int):=Om;simp only[em];clear em;have V:p.data.toList[m]? =some p[m]:=by
    have:m<p.data.toList.length:=hm;rw[A2f this];rfl
   by_cases N:p[m]=255
   ·have a9:(p[m].toNat:Int)=255:=by rw[N];rfl
    have aa:Wq p m:=λj h1 M=>by
     by_cases C:j=m
     ·rw[C,V,N]
     ·exact O j Om M
    go_wp2
    exact⟨⟨m,Om,rfl,aa⟩,by simp only[intOf];omega⟩
   ·have a9:¬(p[m].toNat:Int)=255:=λh=>N (UInt8.toNat_inj.1 (by
     have M:p[m].toNat=255:=by exact_mod_cast h
     rw[M];rfl))
    have U:=Go.Ab.endS_some (Go.Ab.A1e V (λj h1 M=>O j Om Om) N);have hlt:=p[m].toNat_lt;obtain⟨q,hq⟩:∃q,p.extract 0 (m+1)=q:=⟨_,rfl⟩
    have ab:q.size=m+1:=by rw[<-hq,ByteArray.size_extract];omega
    have a1:q.data.toList=p.data.toList.take (m+1):=by rw[<-hq];simp
    have a2:=Lib.run_convert_string_bytes (P:=prog) w 9 49 5 q Y a0 Z;have a3:=Lib.bytesWorld_at_new w 5 q;have ak:=Lib.bytesWorld_size w 5 q;have ac:Below w.heap.size w (Lib.bytesWorld w 5 q):=Lib.below_freeze ((Below.drew (Below.refl _ w)).alloc (A2e _) _) (p:=⟨w.heap.size,_,none⟩) (A2e _) 1;have al:m+1<=(Lib.bytesCells w 5 q).size:=by simp[Lib.bytesCells];omega
    have tyS:∀j,j<m+1->(Lib.bytesWorld w 5 q).cell? ⟨w.heap.size,j,none⟩=some (.int .u8 (p.data.toList.getD j 0).toNat):=λj C=>by
     have:=Lib.bytesWorld_cell w 5 q j Om;rw[a1] at this;rw[this];simp[A29,List.getElem?_take,C]
    have hf:(Lib.bytesWorld w 5 q).frozen? ⟨w.heap.size,m,none⟩=false:=by
     simp[World.frozen?,a3];omega
    have a4:p.data.toList.getD m 0=p[m]:=by rw[A29,V];rfl
    have hc:=tyS m Om;rw[a4] at hc;rw[ab] at a2;have a5:∀j,j<m->(Lib.bytesWorld w 5 q).cell? ⟨w.heap.size,j,none⟩=some (.int .u8 (p.data.toList.getD j 0).toNat):=λj C=>tyS j Om;generalize grownCap w (m+1) 0 5=cap at a2;clear a3 a1 a4 tyS;generalize Lib.bytesWorld w 5 q=W1 at*;have a6:∀(j:Nat) (C:j<(p.data.toList.take m++[p[m]+1]).length),(W1.setCell ⟨w.heap.size,m,none⟩ (.int .u8 ((p[m].toNat:Int)+1))).cell? ((⟨w.heap.size,0,none⟩:Addr).add j)=some (.int .u8 (p.data.toList.take m++[p[m]+1])[j].toNat):=λj C=>by
     have an:j<m+1:=by
      have:=C;simp only[A2a,A2x,A2l,A2r] at this;omega
     have ea:(⟨w.heap.size,0,none⟩:Addr).add j=⟨w.heap.size,j,none⟩:=by simp only[Addr.add,A3T];split<;>simp_all
     rw[ea];by_cases a7:j=m
     ·subst a7;rw[World.cell?_setCell_same' _ _ _ (by rw[hc];rfl)];have a8:j<p.data.toList.length:=hm;have e1:(p.data.toList.take j++[p[j]+1])[j]=p[j]+1:=by
       rw[List.getElem_append_right (by rw[A2x];omega)];simp
      rw[e1];have ad:p[j].toNat+1<256:=by
       have:(p[j].toNat:Int)<256:=by exact_mod_cast hlt
       omega
      rw[UInt8.toNat_add];have h1:(1:UInt8).toNat=1:=rfl;rw[h1,Nat.mod_eq_of_lt ad];rfl
     ·rw[World.cell?_setCell_other _ _ _ _ (by intro h;injection h with h1 M;exact a7 M.symm),a5 j Om];have a8:j<p.data.toList.length:=Om;rw[List.getElem_append_left (by rw[A2x];omega),List.getElem_take];simp[A29,A2f a8]
    have ae:=run_convert_bytes_back (P:=prog) (W1.setCell ⟨w.heap.size,m,none⟩ (.int .u8 ((p[m].toNat:Int)+1))) 49 9 5 ⟨w.heap.size,0,none⟩ cap (p.data.toList.take m++[p[m]+1]) a0 Z Y a6;have ah:(p.data.toList.take m++[p[m]+1]).length=m+1:=by
     simp only[A2a,A2x,A2l,A2r];omega
    rw[ah] at ae;clear a6 a5
    go_wp2
    refine bodyPost_ret (results_tmp2 rfl _ _ _) rfl ?_;rw[U];exact⟨rfl,ac.setCell (p:=⟨w.heap.size,m,none⟩) (A2e _) _⟩
end Go.Proofs
namespace Go.Ab
open Go.Proofs Go.Proofs.Tryz Go.RowKit
def A1d(p:Baa):(JA p).1.size<=p.size:=by
 have key:∀(l:Lua) (r:Lua),Gy l=some r->r.length<=l.length:=by
  intro l
  induction l with
  |nil=>intro r h;cases h
  |cons x l C=>
   intro r h;simp only[Gy] at h;split at h
   ·rename_i M N;cases h;have:=C M N;simpa using this
   ·split at h
    ·cases h
    ·cases h;simp
 unfold JA;cases h:Gy p.data.toList with
 |none=>exact A2w _
 |some r=>exact key _ r h
def c_End(p:Baa):A0 prog 362 [sD p] (.tup [.val (.string (JA p).1),.val (.bool (JA p).2)]):=
 A0.of_vals (us:=[.string p]) Kq' rfl λw I M C=>by
  have hs:=C (.string p) Sq';refine⟨_,λw'=>L5 (u:=.string (JA p).1) (v:=.bool (JA p).2) (A2N (A1d p) hs) trivial,w_End p w hs⟩
section
variable{b:GT}{q:OQ}
def do_seqS(m:GM)(N:m.kind=7)(M:OQ)(V:m.key≠⟨#[]⟩)(hP:A4 prog 170 [.ref 1 0 0 3,.agg (Ai m)] (oqH b q) (bD false) (oqH b q))(O:ME prog 162 [.ref 3 0 0 1,.ref 5 0 0 1,.ref 7 0 0 1] (doH 13 q.us.length b q) (doH 13 q.us.length b M)):
  A4 prog 105 [.ref 1 0 0 3,.agg (Ai m)] (oqH b q) (iD 13) (oqH b M):=by
 have U:=Xd b q;have C:=A6 b;rw[Ay,A3 m.was,A3 m.value,N];rw[Ay,A3 m.was,A3 m.value,N] at hP;have b2:decide (m.key=⟨#[]⟩)=false:=decide_eq_false V;simp only[A2d,A2h,A2c] at hP|-;refine A4.of_awp_defer [_,_] func105 rfl ntmps105 Kq' Sq' Dq' (congrArg Array.toList results105) (C6 doR) doC doE ((9,.rows [Xs 7 m] 19)::doH 0 q.us.length b q) (iD 13) (doH 13 q.us.length b M) ?_;simp only[doH,oqH,Xs,doR,doC,doE] at U O hP|-;refine Zy ?_
 (have z:=C;push_cast[z]<;>repeat' apply Za)
 refine Zy ?_
 (have z:=C;push_cast[z]<;>repeat' (first|refine Zs [(1,1),(2,2),(4,4)] U ?_|with_reducible apply Za)<;>push_cast[z])
 have z:=C;refine Dq1 ?_ ?_
 ·refine Zy ?_
  (have z:=Za C b2;push_cast[z]<;>repeat' (first|refine Zs [(1,1),(2,2),(4,4)] hP ?_|apply Za)<;>push_cast[z])
  refine Dq2 [(2,186),(4,188)] (iD 13) O ?_;push_cast[C];apply Zr [(2,218),(4,220)] rfl<;>push_cast [C]
 ·push_cast[C];apply Zr [(2,66),(4,68)] rfl<;>push_cast [C]
def do_seq(m:GM)(N:m.kind=7)(M:Nat->OQ)(U V:OQ)(c:Int)(J:Nat)(hQ:M 0=q)(hl:m.list.length<=64)
  (O:m.key=⟨#[]⟩\/m.key≠⟨#[]⟩/\A4 prog 170 [.ref 1 0 0 3,.agg (Ai m)] (oqH b q) (bD true) (oqH b q))
  (hd:∀i,i<J->A4 prog 105 [.ref 1 0 0 3,.agg (Ai (m.list.getD i zU))] (oqH b (M i)) (iD 0) (oqH b (M (i+1))))
  (Y:J=m.list.length/\c=0/\U=M J\/J<m.list.length/\c≠0/\A4 prog 105 [.ref 1 0 0 3,.agg (Ai (m.list.getD J zU))] (oqH b (M J)) (iD c) (oqH b U))
  (Z:ME prog 162 [.ref 3 0 0 1,.ref 5 0 0 1,.ref 7 0 0 1] (doH c q.us.length b U) (doH c q.us.length b V)):
  A4 prog 105 [.ref 1 0 0 3,.agg (Ai m)] (oqH b q) (iD c) (oqH b V):=by
 subst hQ;have hM:=Xd b (M 0);have C:=A6 b;rw[Ay,A3 m.was,A3 m.value,N] at O|-;simp only[A2d,A2h,A2c] at O|-;refine A4.of_awp_defer [_,_] func105 rfl ntmps105 Kq' Sq' Dq' (congrArg Array.toList results105) (C6 doR) doC doE ((9,.rows [Xs 7 m] 19)::doH 0 (M 0).us.length b (M 0)) (iD c) (doH c (M 0).us.length b V) ?_;simp only[doH,oqH,Xs,doR,doC,doE] at hM Z hd Y O|-;refine Zy ?_
 (have z:=C;push_cast[z]<;>repeat' apply Za<;>push_cast[z])
 refine Zy ?_
 (have z:=C;push_cast[z]<;>repeat' (first|refine Zs [(1,1),(2,2),(4,4)] hM ?_|with_reducible apply Za)<;>push_cast[z])
 have z:=C;refine Dq1 ?_ ?_;rotate_left
 ·push_cast[C];apply Zr [(2,66),(4,68)] rfl<;>push_cast [C]
 refine Zy ?_;rcases O with N|⟨N,hP⟩
 case' inl=>
  have b2:decide (m.key=⟨#[]⟩)=true:=decide_eq_true N
  (have z:=Za C b2;push_cast[z]<;>repeat' apply Za<;>push_cast[z])
 case' inr=>
  have b2:decide (m.key=⟨#[]⟩)=false:=decide_eq_false N
  (have z:=Za C b2;push_cast[z]<;>repeat' (first|refine Zs [(1,1),(2,2),(4,4)] hP ?_|with_reducible apply Za)<;>push_cast[z])
 all_goals
  refine Zl (λi=>i<=J) (λi=>⟨[(72,iD i),(71,iD m.list.length),(70,.slice (m.list.map Ai) false),(4,.ref 3 0 0 1),(2,.ref 5 0 0 1)],(3,.rows [[iD 0]] 1)::(5,.rows [[.ref 1 0 0 3]] 1)::(7,.rows [[.val (.int .i64 (M 0).us.length)]] 1)::[(1,.rows [[Ah b,cD 42 (M i),.gref 44 (M i).us.length]] 3),(42,cB (M i)),(44,.grow ((M i).us.map λu=>[BJ u]) 1)],300⟩) (λi=>m.list.length-i) 0 Sq' ?_ λi hi=>?_
  ·first
   |skip
    apply Zr [(42,2),(44,4)] rfl<;>push_cast [C]
    done
   |skip
    apply Zr [(42,186),(44,188)] rfl<;>push_cast [C]
    done
  ·push_cast[C];refine Ad (λha=>?_) (λha=>?_)
   ·have a0:i<m.list.length:=by simpa using ha
    have e2:=EV (l:=m.list) a0;rcases A2z i J with hij|hij
    ·have hr:=hd i hij;generalize m.list.getD i zU=x at*
     (have z:=Za C e2;push_cast[z]<;>repeat' (first|refine Zs [(1,1),(2,42),(4,44)] (hr ..) ?_|with_reducible apply Za)<;>push_cast[z])<;>try omega
     have w1:IntKind.i64.wrap (↑i+1)=↑i+1:=A9 Om Om;refine⟨i+1,hij,Om,?_⟩;apply Zr [(42,658),(44,660)] rfl<;>push_cast [C,w1]
    ·obtain rfl:i=J:=Om;obtain⟨-,hc,hr⟩:=Y.resolve_left λh=>Om;have b3:(c !=0)=true:=by simpa using hc
     generalize m.list.getD i zU=x at*
     (have z:=Za C<|Za e2 b3;push_cast[z]<;>repeat' (first|refine Zs [(1,1),(2,42),(4,44)] (hr ..) ?_|with_reducible apply Za)<;>push_cast[z])<;>try omega
     refine Dq2 [(2,658),(4,660)] (iD c) Z ?_;push_cast[C];apply Zr [(2,706),(4,708)] rfl<;>push_cast [C]
   ·have a0:¬i<m.list.length:=by simpa using ha
    obtain⟨h1,rfl,rfl⟩:=Y.resolve_right λh=>Om;obtain rfl:i=J:=Om
    (have z:=C;push_cast[z]<;>repeat' apply Za<;>push_cast[z])
    refine Dq2 [(2,42),(4,44)] (iD 0) Z ?_;push_cast[C];apply Zr [(2,618),(4,620)] rfl<;>push_cast [C]
end
section
variable{F:GV->Int}(hF:∀v,Sm v->wtV v<=2097152->A0 prog 50 [.agg (A7 v)] (.val (.int .i64 (F v))))
include hF
theorem p_look(m:GM)(d:Nat)(hm:SmU m)(a2:wtU m<=2097152)(hd:d<=1000)(h0:BG F m d≠0):G8 prog 67 [.agg (Ai m),iD d] (wD (BG F m d)):=by
 have M:∀x,SizeOf.sizeOf x<SizeOf.sizeOf m->SmU x->wtU x<=2097152->d+1<=1000->BG F x (d+1)≠0->G8 prog 67 [.agg (Ai x),iD ((d+1:Nat):Int)] (wD (BG F x (d+1))):=λx _ h1 h4 N h3=>p_look x (d+1) h1 h4 N h3;have O:∀x,SmU x->wtU x<=2097152->d+1<=1000->BG F x (d+1)=0->A0 prog 67 [.agg (Ai x),iD ((d+1:Nat):Int)] (.tup []):=λx h1 h4 N h3=>Tr hF x (d+1) h1 h4 N h3;obtain⟨_,hw,hv,hk,ht,hl,hls⟩:=hm;rw[H2] at h0|-;have C:=RU m;have U:=ZC m;have a3:=J4 m;have Y:=hF m.was hw Om;have k5:=hF m.value hv Om;by_cases s1:AG m=true
 ·simp only[if_pos s1];rw[s1] at C;clear M O h0;rw[Ay m] at*;rw[A3 m.was,A3 m.value] at*;simp only[A2d,A2h,A2c] at*;refine G8.of_awp func67 rfl ntmps67 Kq' Sq' (AWp.sz λH Hb=>VC.sound (fz:=[0]) mixed Kq' ?_)
  (have z:=trivial;push_cast<;>repeat' (first|apply Zi<;>intro _|refine Zc C ?_|with_reducible apply Za|(with_reducible show A5 _ _ _ _ _ _ _ _;refine A5.pan (by(try push_cast);exact Sx ..) rfl (by first|rfl|push_cast) rfl ?_)|fail)<;>push_cast)
  all_goals first|exact ⟨Av _,rfl⟩|skip
 ·simp only[if_neg s1] at h0|-;have s1:AG m=false:=by simpa using s1
  rw[s1] at C;by_cases s2:6<d
  ·simp only[if_pos s2];have b2:decide ((d:Int)<=6)=false:=Df';clear M O h0;rw[Ay m] at*;rw[A3 m.was,A3 m.value] at*;simp only[A2d,A2h,A2c] at*;refine G8.of_awp func67 rfl ntmps67 Kq' Sq' (AWp.sz λH Hb=>VC.sound (fz:=[0]) mixed Kq' ?_)
   (have z:=b2;push_cast[z]<;>repeat' (first|apply Zi<;>intro _|refine Zc C ?_|refine Zc (EU ..) ?_|with_reducible apply Za|(with_reducible show A5 _ _ _ _ _ _ _ _;refine A5.pan (by(try push_cast[z]);exact Sx ..) rfl (by first|rfl|push_cast [z]) rfl ?_)|fail)<;>push_cast[z])
   all_goals first|exact ⟨Av _,rfl⟩|skip
  ·simp only[if_neg s2] at h0|-;have b2:decide ((d:Int)<=6)=true:=Dt';by_cases V:Ck m=false
   ·simp only[if_pos V];rw[V] at U;clear M O h0;rw[Ay m] at*;rw[A3 m.was,A3 m.value] at*;simp only[A2d,A2h,A2c] at*;refine G8.of_awp func67 rfl ntmps67 Kq' Sq' (AWp.sz λH Hb=>VC.sound (fz:=[0]) mixed Kq' ?_)
    (have z:=b2;push_cast[z]<;>repeat' (first|apply Zi<;>intro _|refine Zc C ?_|refine Zc U ?_|refine Zc (EU ..) ?_|with_reducible apply Za|(with_reducible show A5 _ _ _ _ _ _ _ _;refine A5.pan (by(try push_cast[z]);exact Sx ..) rfl (by first|rfl|push_cast [z]) rfl ?_)|fail)<;>push_cast[z])
    all_goals first|exact ⟨Av _,rfl⟩|skip
   ·simp only[if_neg V] at h0|-;have V:Ck m=true:=by simpa using V
    rw[V] at U;by_cases Z:m.had=true/\F m.was≠0
    ·simp only[if_pos Z];obtain⟨hh,hf⟩:=Z;clear M O h0;rw[Ay m] at*;generalize F m.was=fw at*;rw[A3 m.was,A3 m.value] at*;simp only[A2d,A2h,A2c] at*;have hp:=p_pass fw hf;refine G8.of_awp func67 rfl ntmps67 Kq' Sq' (AWp.sz λH Hb=>VC.sound (fz:=[0]) mixed Kq' ?_)
     (have z:=b2;push_cast[z]<;>repeat' (first|apply Zi<;>intro _|refine Zc C ?_|refine Zc U ?_|refine Zc (EU ..) ?_|refine Zc Y ?_|with_reducible apply Za|(with_reducible show A5 _ _ _ _ _ _ _ _;refine A5.pan (by(try push_cast[z]);exact hp ..) rfl (by first|rfl|push_cast [z]) rfl ?_)|fail)<;>push_cast[z])
     all_goals first|exact ⟨Av _,rfl⟩|exact absurd hh (by rw[‹m.had=false›];decide)|skip
    ·simp only[if_neg Z] at h0|-;have k0:(m.had=true->A0 prog 104 [iD (F m.was)] (.tup [])):=λh=>by
      have:F m.was=0:=Classical.byContradiction λN=>Z ⟨h,N⟩;rw[this];exact Tq
     by_cases s5:(m.kind=1\/m.kind=5\/m.kind=4/\m.has=true)/\F m.value≠0
     ·simp only[if_pos s5];obtain⟨hh,hf⟩:=s5;have hp:=p_pass (F m.value) hf;clear M O h0;rw[Ay m] at*;generalize F m.was=fw at*;generalize F m.value=fv at*;rw[A3 m.was,A3 m.value] at*;simp only[A2d,A2h,A2c] at*;refine G8.of_awp func67 rfl ntmps67 Kq' Sq' (AWp.sz λH Hb=>VC.sound (fz:=[0]) mixed Kq' ?_)
      (have z:=b2;push_cast[z]<;>repeat' (first|apply Zi<;>intro _|refine Zc C ?_|refine Zc U ?_|refine Zc (EU ..) ?_|refine Zc Y ?_|refine Zc k5 ?_|with_reducible apply Za|(with_reducible show A5 _ _ _ _ _ _ _ _;refine A5.call (by(try push_cast[z]);exact k0 (by assumption)) Gda rfl (by first|rfl|push_cast [z]) ?_)|(with_reducible show A5 _ _ _ _ _ _ _ _;refine A5.pan (by(try push_cast[z]);exact hp ..) rfl (by first|rfl|push_cast [z]) rfl ?_)|fail)<;>push_cast[z])
      all_goals first|exact ⟨Av _,rfl⟩|(exfalso;simp_all;done)|skip
     ·simp only[if_neg s5] at h0|-;have k6:(m.kind=1\/m.kind=5\/m.kind=4/\m.has=true)->A0 prog 104 [iD (F m.value)] (.tup []):=λh=>by
       have:F m.value=0:=Classical.byContradiction λN=>s5 ⟨h,N⟩;rw[this];exact Tq
      obtain⟨J,hJ,hz,hj⟩:=Px h0;have w1:IntKind.i64.wrap (↑d+1)=↑d+1:=A9 Om Om;have a0:∀i,i<J->A0 prog 67 [.agg (Ai (m.list.getD i zU)),iD ((d:Int)+1)] (.tup []):=λi hi=>by
       have:=O (m.list.getD i zU) (hls _ (Ae Om)) (by have:=GC (Ae (d:=zU) (show i<m.list.length by omega));omega) Om (hz i hi);rwa[A3m] at this
      have hp:G8 prog 67 [.agg (Ai (m.list.getD J zU)),iD ((d:Int)+1)] (wD (CD F m.list (d+1))):=by
       have:=M (m.list.getD J zU) (GM.list_lt (Ae hJ)) (hls _ (Ae hJ)) (by have:=GC (Ae (d:=zU) hJ);omega) Om (by rw[hj];exact h0);rwa[A3m,hj] at this
      generalize CD F m.list (d+1)=c at*;clear M O hF;rw[Ay m] at*;generalize F m.was=fw at*;generalize F m.value=fv at*;rw[A3 m.was] at Y;rw[A3 m.value] at k5;simp only[A3 m.was,A3 m.value,A2d,A2h,A2c] at*;refine G8.of_awp func67 rfl ntmps67 Kq' Sq' (AWp.sz λH Hb=>VC.sound (fz:=[0]) mixed Kq' ?_)
      (have z:=b2;push_cast[z]<;>repeat' (first|apply Zi<;>intro _|refine Zc C ?_|refine Zc U ?_|refine Zc Y ?_|refine Zc k5 ?_|refine Zc (EU ..) ?_|with_reducible apply Za|(with_reducible show A5 _ _ _ _ _ _ _ _;refine A5.call (by(try push_cast[z]);exact k0 (by assumption)) Gda rfl (by first|rfl|push_cast [z]) ?_)|(with_reducible show A5 _ _ _ _ _ _ _ _;refine A5.call (by(try push_cast[z]);exact k6 (by simp_all)) Gda rfl (by first|rfl|push_cast [z]) ?_)|fail)<;>push_cast[z])<;>try omega
      all_goals
       refine Zl (λi=>i<=J) (λi=>⟨[(46,iD i),(45,iD m.list.length),(44,.slice (m.list.map Ai) false),(1,iD d)],[],400⟩) (λi=>m.list.length-i) 0 Sq' ?_ λi hi=>?_
       ·apply Zw<;>push_cast
       ·push_cast;refine Ad (λha=>?_) (λha=>?_)
        ·have a1:i<m.list.length:=by simpa using ha
         have e1:=EV a1;rcases A2z i J with hij|hij
         ·have hr:=a0 i hij
          (have z:=Za e1 w1;push_cast[z]<;>repeat' (first|apply Zi<;>intro _|refine Zc (hr ..) ?_|apply Za)<;>push_cast[z])<;>try omega
          refine⟨i+1,hij,Om,?_⟩;apply Zw<;>push_cast;exact A9 Om Om
         ·obtain rfl:i=J:=Om
          (have z:=Za e1 w1;push_cast[z]<;>repeat' (first|apply Zi<;>intro _|with_reducible apply Za|(with_reducible show A5 _ _ _ _ _ _ _ _;refine A5.pan (by(try push_cast[z]);exact hp ..) rfl (by first|rfl|push_cast [z]) rfl ?_)|fail)<;>push_cast[z])
          all_goals first|omega|exact ⟨Av _,rfl⟩|skip
        ·exact absurd ha So'
termination_by SizeOf.sizeOf m
end
end Go.Ab
