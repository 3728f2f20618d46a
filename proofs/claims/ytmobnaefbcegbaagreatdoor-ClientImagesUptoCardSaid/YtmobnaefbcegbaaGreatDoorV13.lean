/- The program is walked: part 14 of 18. -/
import Derived.Test.YtmobnaefbcegbaaGreatDoorV12
import Derived.Lib.ReflectliteSlice
set_option maxHeartbeats 4000000
set_option maxRecDepth 20000
set_option linter.all false
namespace Go.Ab
open Go.Proofs Go.Proofs.Tryz
def MayOk:Prop:=∀m:SMu,m.ok->A0 prog 32 [.agg (Ai m.m)] (iD 0)
def zS:SN:=(0,.put)
def c_pMay(V:MayOk)(c:Nat)(l:List SN)(h:KU c l):A0 prog 40 [.agg (HW c l)] (iD 0):=by
 obtain⟨hc,hl,Y⟩:=h;have Z:=ZD c hc;have M:((l.map snN).map AN).length=l.length:=Sq';have C:Aa ((l.map snN).map AN)=true:=Bk _;have b0:decide ((64:Int)<l.length)=false:=Df';unfold HW;have e1:∀i,i<l.length->nr ((l.map snN).map AN) i=AN (snN (l.getD i zS)):=λi hi=>by
  simp[nr,A29,hi]
 generalize(l.map snN).map AN=L at*;refine Zf [] ?_
 (have z:=Za M<|Za C b0;push_cast[z]<;>repeat' (first|refine Zc Z ?_|apply Za)<;>push_cast[z])
 refine Zl (λi=>i<=l.length) (λi=>⟨[(17,iD i),(16,iD l.length),(15,.slice L false)],[],400⟩) (λi=>l.length-i) 0 Sq' ?_ λi hi=>?_
 ·apply Zw<;>push_cast [C]
 ·by_cases N:i<l.length
  ·have O:=e1 i N;obtain⟨g1,g2⟩:=Y _ (Ae (d:=zS) N);have hN:=ZD _ g1;have hU:=V _ g2;have w1:IntKind.i64.wrap (↑i+1)=↑i+1:=A9 Om Om;have b1:decide ((i:Int)<l.length)=true:=Dt';generalize l.getD i zS=x at*;rw[Lw] at O;have x1:=Ax x.2.m;have x2:=AB x.2.m;have x3:=C4 x.2.m;have x4:=BQ x.2.m;change nr L i=uD' (x.1:Int)::Ai x.2.m at O;generalize Ai x.2.m=U at*
   (have z:=Za M<|Za C<|Za O<|Za w1<|Za b1<|Za x1<|Za x2<|Za x3 x4;push_cast[z]<;>repeat' (first|refine Zc hN ?_|refine Zc hU ?_|apply Za)<;>push_cast[z])<;>try omega
   refine⟨i+1,N,Om,?_⟩;apply Zw<;>push_cast [C]
  ·obtain rfl:i=l.length:=Om;have b1:decide ((l.length:Int)<l.length)=false:=Df'
   (have z:=Za M<|Za C b1;push_cast[z]<;>repeat' apply Za)
def ObjOk:Prop:=∀m:SMu,m.ok->A0 prog 110 [.agg (Ai m.m)] (.tup [.agg (A7 m.o),iD 0])
def VObjOk:Prop:=∀a b:Baa×GV,CO b.1 a.1=1->Sm a.2->Sm b.2->a.1.size<=1048576->b.1.size<=1048576->A0 prog 111 [.slice [A8 a,A8 b] false] (.tup [.agg (A7 (vO [a,b])),iD 0])
def poS(c:Nat)(L:LLa)(V:List GV)(n:Nat)(i:Nat):St:=match i with
 |0=>⟨[(14,iD 0),(13,iD n),(12,.slice L false),(1,.ref 0 0 0 2),(2,.ref 8 0 0 6),(4,.ref 32 0 0 6)],[(0,.rows [[uD' c,.slice L false]] 2),(8,vB 0 (.slice [] true) (.slice [] true)),(32,vB 5 (.slice [] true) (.slice [] true))],400⟩
 |j+1=>⟨[(14,iD ((j+1:Nat):Int)),(13,iD n),(12,.slice L false),(1,.ref 0 0 0 2),(2,.ref 8 0 0 6),(4,.ref 32 0 0 6)],[(0,.rows [[uD' c,.slice L false]] 2),(8,vB 0 (.slice [] true) (.slice [] true)),(32,vB 5 (.gref 48 (j+1)) (.slice [] true)),(48,.grow ((V.take (j+1)).map A7) 6)],400⟩
def UQ(c:Nat)(L:LLa)(V:List GV)(n:Nat):poS c L V n 0=⟨[(14,iD 0),(13,iD n),(12,.slice L false),(1,.ref 0 0 0 2),(2,.ref 8 0 0 6),(4,.ref 32 0 0 6)],[(0,.rows [[uD' c,.slice L false]] 2),(8,vB 0 (.slice [] true) (.slice [] true)),(32,vB 5 (.slice [] true) (.slice [] true))],400⟩:=rfl
def Pc(c:Nat)(L:LLa)(V:List GV)(n j:Nat):poS c L V n (j+1)=⟨[(14,iD ((j+1:Nat):Int)),(13,iD n),(12,.slice L false),(1,.ref 0 0 0 2),(2,.ref 8 0 0 6),(4,.ref 32 0 0 6)],[(0,.rows [[uD' c,.slice L false]] 2),(8,vB 0 (.slice [] true) (.slice [] true)),(32,vB 5 (.gref 48 (j+1)) (.slice [] true)),(48,.grow ((V.take (j+1)).map A7) 6)],400⟩:=rfl
def poF(c:Nat)(L:LLa)(V:List GV)(n:Nat):St:=⟨[(14,iD n),(13,iD n),(12,.slice L false),(1,.ref 0 0 0 2),(2,.ref 8 0 0 6),(4,.ref 32 0 0 6)],[(0,.rows [[uD' c,.slice L false]] 2),(8,vB 0 (.slice [] true) (.slice [] true)),(32,vB 5 (.slice (V.map A7) false) (.slice [] true))],400⟩
def poX(c:Nat)(L:LLa)(V:List GV)(n:Nat):Option Nat->St
 |none=>poF c L V n
 |some i=>poS c L V n i
def SmS:Prop:=(∀m:SMu,m.ok->Sm m.o)/\(∀x:SN,Ex x.1->x.2.ok->Sm (snO x))/\∀n:Nat,Ex n->Sm (vI n)
def A1A(hO:ObjOk)(hV:VObjOk)(hS:SmS)(c:Nat)(l:List SN)(h:KU c l)(a4:Sm (vL (l.map snO))):A0 prog 71 [.agg (HW c l)] (.tup [.agg (A7 (puO c l)),iD 0]):=by
 obtain⟨hc,hl,hx⟩:=h;have hC:=Wb c hc;have hE:=hV (Ed,vI c) (Jb,vL (l.map snO)) (by show CO Jb Ed=1;decide) (hS.2.2 c hc) a4 (by show Ed.size<=_;decide) (by show Jb.size<=_;decide);have e0:((l.map snN).map AN).length=l.length:=Sq';have Z:Aa ((l.map snN).map AN)=true:=Bk _;unfold HW;have e1:∀i,i<l.length->nr ((l.map snN).map AN) i=AN (snN (l.getD i zS)):=λi hi=>by
  simp[nr,A29,hi]
 generalize(l.map snN).map AN=L at*;refine Zf [] ?_
 (have z:=Za e0 Z;push_cast[z]<;>repeat' (first|exact Zo|apply Za)<;>push_cast[z])
 refine AWp.loopI mixed Kq' (ι:=Option Nat) (λo=>∀i,o=some i->i<l.length) (poX c L (l.map snO) l.length) (λo=>match o with|none=>0|some i=>l.length+1-i) (if l.length=0 then none else some 0) (by intro i hi;split at hi<;>cases hi;omega) ?_ λo hi=>?_
 ·split
  ·rename_i a5;obtain rfl:l=[]:=A2D a5;show Aq _ (poF c L [] 0);unfold poF;apply Zw<;>push_cast [Z]
  ·show Aq _ (poS c L (l.map snO) l.length 0);rw[UQ];apply Zw<;>push_cast [Z]
 ·cases o with
  |some i=>
   have h4:=hi i rfl;show VCS _ _ _ _ _ (poS c L (l.map snO) l.length i);have a1:∀V:List GV,V.length=l.length->i+1=l.length->V.take (i+1)=V:=λV h1 h2=>A2g Om;have e2:=e1 i h4;obtain⟨g1,g2⟩:=hx _ (Ae (d:=zS) h4);have hN:=Wb _ g1;have hU:=hO _ g2;have hW:=hV (tId,vI (l.getD i zS).1) (DL,(l.getD i zS).2.o) (by show CO DL tId=1;decide) (hS.2.2 _ g1) (hS.1 _ g2) (by show tId.size<=_;decide) (by show DL.size<=_;decide);change A0 _ _ _ (.tup [.agg (A7 (snO (l.getD i zS))),_]) at hW;have a0:((l.map snO).take (i+1)).map A7=((l.map snO).take i).map A7++[A7 (snO (l.getD i zS))]:=by
    rw[A3j,A2F];simp[A29,A2f h4]
   have oT:=E8 ((l.map snO).take i);have lT:(((l.map snO).take i).map A7).length=i:=So';have aT:∀y ∈ ((l.map snO).take i).map A7,y.length=6:=λy hy=>by obtain⟨x,_,rfl⟩:=A2p.1 hy;exact AH x
   generalize l.getD i zS=x at*;rw[Aj,Aj] at hW;rw[Lw] at e2;change nr L i=uD' (x.1:Int)::Ai x.2.m at e2;have x1:=Ax x.2.m;have x2:=AB x.2.m;have x3:=C4 x.2.m;have x4:=BQ x.2.m;obtain⟨y1,y2,y3,y4⟩:=Az x.2.o;obtain⟨M,C,Y,u4⟩:=Az (snO x);obtain⟨v1,v2,v3,v4⟩:=Az (vI x.1);have hq:nr L i=uD' (x.1:Int)::Ai x.2.m:=e2;simp only at hW hN;generalize Ai x.2.m=U at*;generalize A7 x.2.o=O at*;generalize A7 (snO x)=S at*;generalize A7 (vI x.1)=N at*;cases i with
   |zero=>
    rw[UQ];have b1:decide ((0:Int)<l.length)=true:=Dt'
    (have z:=Za e0<|Za Z<|Za e2<|Za b1<|Za x1<|Za x2<|Za x3<|Za x4<|Za y1<|Za y2<|Za y3<|Za y4<|Za M<|Za C<|Za Y<|Za u4<|Za v1<|Za v2<|Za v3 v4;push_cast[z]<;>repeat' (first|refine Zc hU ?_|refine Zc hN ?_|refine Zg hW ?_ ?_|exact Zo|apply Za)<;>push_cast[z])
    all_goals first|omega|(simp[C];done)|skip
    by_cases h6:1=l.length
    ·refine⟨none,(λ_ h=>by cases h),by simp only;omega,?_⟩;rw[a1 (l.map snO) Sq' h6] at a0;show Aq _ (poF c L (l.map snO) l.length);unfold poF;rw[a0,<-h6];refine Aq.trans (Aq.fzB (b:=1088) (x:=.grow ([]++[S]) 6) rfl) ?_;push_cast[M,C,Y];apply Zw<;>push_cast [M,C,Y,e0,Z];all_goals rfl
    ·refine⟨some 1,(λ_ h=>by cases h;omega),by simp only;omega,?_⟩;show Aq _ (poS c L (l.map snO) l.length 1);rw[Pc,a0];simp only[A3V,A2E,A2h];apply Zr [(48,1088)] rfl<;>push_cast [e0,Z,x1,y1,y2,y3,y4,M,C,Y,u4];all_goals rfl
   |succ j=>
    rw[Pc];have b1:decide ((↑j+1:Int)<l.length)=true:=Dt';have w1:IntKind.i64.wrap (↑j+1+1)=↑j+1+1:=A9 Om Om;have w2:((↑j+1:Int)).toNat=j+1:=Om;generalize(((l.map snO).take (j+1)).map A7)=T at*
    (have z:=Za e0<|Za Z<|Za e2<|Za b1<|Za w1<|Za w2<|Za x1<|Za x2<|Za x3<|Za x4<|Za y1<|Za y2<|Za y3<|Za y4<|Za M<|Za C<|Za Y<|Za u4<|Za v1<|Za v2<|Za v3<|Za v4<|Za oT lT;push_cast[z]<;>repeat' (first|refine Zc hU ?_|refine Zc hN ?_|refine Zg hW ?_ ?_|exact Zo|apply Za)<;>push_cast[z])
    all_goals first|omega|(simp[C];done)|exact aT|exact one1 Y|skip
    by_cases h6:j+1+1=l.length
    ·refine⟨none,(λ_ h=>by cases h),by simp only;omega,?_⟩;rw[a1 (l.map snO) Sq' h6] at a0;show Aq _ (poF c L (l.map snO) l.length);unfold poF;rw[a0,<-h6];refine Aq.trans (Aq.fzB (b:=1088) (x:=.grow (T++[S]) 6) rfl) ?_;have a2:Aa (T++[S])=true:=by rw[FN,oT];simp[Aa,M]
     have a3:(T++[S]).length=j+1+1:=by rw[A2a,lT];rfl
     generalize T++[S]=X at*;push_cast[M,C,Y,a2,a3];apply Zw<;>push_cast [M,C,Y,e0,Z,a2,a3];all_goals rfl
    ·refine⟨some (j+1+1),(λ_ h=>by cases h;omega),by simp only;omega,?_⟩;show Aq _ (poS c L (l.map snO) l.length (j+1+1));rw[Pc,a0];apply Zr [(48,1088)] rfl<;>push_cast [e0,Z,x1,y1,y2,y3,y4,M,C,Y,u4,oT,lT];all_goals rfl
  |none=>
   show VCS _ _ _ _ _ (poF c L (l.map snO) l.length);have b1:decide ((l.length:Int)<l.length)=false:=Df';have a6:puO c l=vO [(Ed,vI c),(Jb,vL (l.map snO))]:=rfl;rw[<-a6,Aj,Aj,enc_L] at hE;simp only at hE;have oT:=E8 (l.map snO);have lT:((l.map snO).map A7).length=l.length:=Sq';obtain⟨M,C,Y,u4⟩:=Az (puO c l);obtain⟨v1,v2,v3,v4⟩:=Az (vI c);unfold poF;generalize A7 (puO c l)=S at*;generalize A7 (vI c)=N at*;generalize l.length=n at*;generalize(((l.map snO)).map A7)=T at*;have a7:=hE.lo (ds':=[.slice [sD Ed::N,sD Jb::[iD 5,bD false,iD 0,sD bea,.slice T false,.slice [] true]] false]) (by push_cast[v1,oT];first|done|exact id)
   (have z:=Za e0<|Za Z<|Za b1<|Za M<|Za C<|Za Y<|Za u4<|Za v1<|Za v2<|Za v3<|Za v4<|Za oT lT;push_cast[z]<;>repeat' (first|refine Zc hC ?_|refine Zg (a7 ..) ?_ ?_|exact Zo|apply Za)<;>push_cast[z])
   all_goals first|omega|(simp[C];done)|skip
def K4(s:Baa):A0 prog 249 [sD s] (.agg (A7 (vT s))):=by
 rw[Rv];refine Zf [] ?_
 (push_cast<;>repeat' apply Za)
def K5(a b:Baa×GV):A0 prog 248 [.slice [A8 a,A8 b] false] (.agg (A7 (vO [a,b]))):=by
 rw[PQ];simp only[A2m,A2E,Aj];obtain⟨C,N,O,x4⟩:=Az a.2;obtain⟨M,Y,Z,y4⟩:=Az b.2;generalize A7 a.2=V at*;generalize A7 b.2=U at*;refine Zf [] ?_
 (have z:=Za C M;push_cast[z]<;>repeat' apply Za)
 have oL:Aa [sD a.1::V,sD b.1::U]=true:=by push_cast[C,M]
 refine Zl (λi=>i<=2) (λi=>match i with
  |0=>⟨[(9,iD 0),(8,iD 2),(7,.slice [sD a.1::V,sD b.1::U] false),(2,.ref 0 0 0 6),(3,.ref 16 0 0 6)],[(0,vB 0 (.slice [] true) (.slice [] true)),(16,vB 6 (.slice [] true) (.slice [] true))],400⟩
  |1=>⟨[(9,iD 1),(8,iD 2),(7,.slice [sD a.1::V,sD b.1::U] false),(2,.ref 0 0 0 6),(3,.ref 16 0 0 6)],[(0,vB 0 (.slice [] true) (.slice [] true)),(16,vB 6 (.slice [] true) (.gref 32 1)),(32,.grow [sD a.1::V] 7)],400⟩
  |_=>⟨[(9,iD 2),(8,iD 2),(7,.slice [sD a.1::V,sD b.1::U] false),(2,.ref 0 0 0 6),(3,.ref 16 0 0 6)],[(0,vB 0 (.slice [] true) (.slice [] true)),(16,vB 6 (.slice [] true) (.slice [sD a.1::V,sD b.1::U] false))],400⟩) (λi=>2-i) 0 Sq' ?_ λi hi=>?_
 ·apply Zw<;>push_cast [C,M]
 ·obtain rfl|rfl|rfl:i=0\/i=1\/i=2:=Om
  ·simp only
   (have z:=Za C<|Za N<|Za O<|Za x4<|Za M<|Za Y<|Za Z y4;push_cast[z]<;>repeat' apply Za)
   all_goals first|omega|(simp[N];done)|skip
   refine⟨1,Om,Om,?_⟩;simp only;apply Zr [(32,904)] rfl<;>push_cast [C,N,O,x4,M];all_goals rfl
  ·simp only
   (have z:=Za C<|Za N<|Za O<|Za x4<|Za M<|Za Y<|Za Z y4;push_cast[z]<;>repeat' apply Za)
   all_goals first|omega|(simp[N];done)|skip
   ·intro y hy;cases A2b.1 hy;simp[Y]
   ·intro z hz d hd;cases A2b.1 hz;rcases A2s.1 hd with rfl|hd
    ·rfl
    ·exact A2q.1 Z d hd
   refine⟨2,Om,Om,?_⟩;simp only;refine Aq.trans (Aq.fzB (b:=904) (x:=.grow [sD a.1::V,sD b.1::U] 7) rfl) ?_;push_cast[C,N,O,M,Y,Z];apply Zw<;>push_cast [C,N,O,M,Y,Z];all_goals rfl
  ·simp only
   (have z:=Za C<|Za N<|Za O<|Za x4<|Za M<|Za Y<|Za Z y4;push_cast[z]<;>repeat' apply Za)
def enc_Z:A7 zV=[iD 0,bD false,iD 0,sD bea,.slice [] false,.slice [] false]:=A3 _
def PU(n:Int):Ai (SMu.inc n).m=[iD 3,sD tNx,sD bea,iD n,bD false,iD 0,bD false,iD 0,sD bea,.slice [] false,.slice [] false,bD false,iD 0,bD false,iD 0,sD bea,.slice [] false,.slice [] false,.slice [] false]:=by
 rw[Ay];rfl
def PT:Ai SMu.put.m=[iD 1,sD tK,sD bea,iD 0,bD false,iD 0,bD false,iD 0,sD bea,.slice [] false,.slice [] false,bD false,iD 1,bD false,iD 0,sD bea,.slice [] false,.slice [] false,.slice [] false]:=by
 rw[Ay];rfl
def c_wInc(n:Int):A0 prog 256 [.agg (Ai (SMu.inc n).m)] (.slice [A8 (tBy,vI n),A8 (CZ,vT tNx)] true):=by
 have C:=K4 tNx;simp only[Aj,N6,Rv,PU] at*;refine Zf [] ?_
 (have z:=trivial;push_cast<;>repeat' (first|refine Zc C ?_|exact Zp|apply Za)<;>push_cast)
def c_wPut:A0 prog 317 [.agg (Ai SMu.put.m)] (.slice [A8 (CZ,vT tK),A8 (Dc,BU)] true):=by
 have C:=K4 tK;have M:=JJ BU (.mk _ _ _ _ _ _ Dq' Dq' (λ_ h=>by cases h) (λ_ h=>by cases h) Dq' Dq' (λ_ h=>by cases h));simp only[Aj,Vu,Rv,PT] at*;refine Zf [] ?_
 (have z:=trivial;push_cast<;>repeat' (first|refine Zc C ?_|refine Zc M ?_|exact Zp|apply Za)<;>push_cast)
abbrev tFrom:Baa:=⟨#[102,114,111,109]⟩
abbrev tTo:Baa:=⟨#[116,111]⟩
abbrev tIs:Baa:=⟨#[105,115]⟩
abbrev tWas:Baa:=⟨#[119,97,115]⟩
abbrev tDo:Baa:=⟨#[100,111]⟩
abbrev tIf:Baa:=⟨#[105,102]⟩
abbrev Ge:Baa:=⟨#[97,112,112,101,110,100]⟩
abbrev U8:Baa:=⟨#[100,101,108]⟩
abbrev MM:Baa:=⟨#[109,111,118,101]⟩
abbrev U9:Baa:=⟨#[99,97,115]⟩
abbrev U7:Baa:=⟨#[115,101,113]⟩
abbrev shD(k:Int)(l:LLa)(r w:D)(t:Bool:=false):D:=.agg [iD k,.slice l t,r,w]
abbrev nf(s:Baa)(n:Int):List D:=[sD s,iD n]
abbrev gF(f:Nat):D:=.func (.func f) [] []
abbrev vdD(k:Int):D:=shD k [nf CZ 0,nf Dc 0] (gF 315) (gF 317)
def VW(k:Int):A0 prog 250 [iD k] (vdD k):=by
 refine Zf [] ?_
 (push_cast<;>repeat' apply Za)
def A1s:A0 prog 259 [] (shD 4 [nf tIs 1,nf CZ 0,nf tWas 1] (gF 318) (gF 319)):=by
 refine Zf [] ?_
 (push_cast<;>repeat' apply Za)
def XZ(f g:Nat):A4 prog 260 [.func (.func f) [] [.ref 1 0 0 1],.func (.func g) [] [.ref 1 0 0 1]] [(1,.rows [[.val (.map none)]] 1)]
  (shD 7 [nf tDo 0,nf tIf 1] .any .any) [(1,.rows [[.val (.map none)]] 1)]:=by
 refine Zd [48] ?_
 (push_cast<;>repeat' apply Za)
 apply Zw<;>push_cast
def Pi:decide (Ge=Ja)=false/\decide (U8=Ja)=false/\decide (U8=Ge)=false/\decide (Jc=Ja)=false/\decide (Jc=Ge)=false/\decide (Jc=U8)=false/\decide (MM=Ja)=false/\decide (MM=Ge)=false/\decide (MM=U8)=false/\decide (MM=Jc)=false/\decide (U9=Ja)=false/\decide (U9=Ge)=false/\decide (U9=U8)=false/\decide (U9=Jc)=false/\decide (U9=MM)=false/\decide (U7=Ja)=false/\decide (U7=Ge)=false/\decide (U7=U8)=false/\decide (U7=Jc)=false/\decide (U7=MM)=false/\decide (U7=U9)=false:=Dq'
def shE:List (Value×Nat×D):=[(.string Ja,0,vdD 1),(.string Ge,1,vdD 5),(.string U8,2,shD 2 [nf CZ 0] (gF 251) (gF 253) true),
 (.string Jc,3,shD 3 [nf tBy 0,nf CZ 0] (gF 254) (gF 256) true),(.string MM,4,shD 6 [nf tFrom 0,nf tTo 0] (gF 257) (gF 258) true),
 (.string U9,5,shD 4 [nf tIs 1,nf CZ 0,nf tWas 1] (gF 318) (gF 319)),(.string U7,6,shD 7 [nf tDo 0,nf tIf 1] .any .any)]
def W0:A4 prog 177 [] [] (.mref 0) [(0,.map shE 7)]:=by
 have h1:=VW 1;have C:=VW 5;have hs:=A1s;have M:=XZ 261 263;have hn:=Pi;unfold shE;refine Zd [72,112,152] ?_
 (have z:=hn;push_cast[z]<;>repeat' (first|refine Zc h1 ?_|refine Zc C ?_|refine Zc (hs ..) ?_|refine Zs [(1,16)] (M ..) ?_|apply Za)<;>push_cast[z])
 apply Zr [(0,24)] rfl<;>push_cast
def c_mWrite(m:SMu)(hm:m.ok):A4 prog 176 [.mref 1,.agg (Ai m.m)] [(1,.map shE 7)] (.agg (A7 m.o)) [(1,.map shE 7)]:=by
 have hg:No prog 0=some [.string bea,.string Ja,.string U8,.string Jc,.string U9,.string Ge,.string MM,.string U7]:=Kq';have hn:=Pi;cases m with
 |inc n=>
  have Y:=c_wInc n;have Z:=K4 Jc;have M:=(K5 (tBy,vI n) (CZ,vT tNx)).lo (ds':=[.slice [A8 (tBy,vI n),A8 (CZ,vT tNx)] true]) ⟨⟨Bp _,λh=>by cases h⟩,trivial⟩;have C:=K5 (Fp,(SMu.inc n).args) (Fo,vT Jc);rw[PU] at*;rw[Aj,Aj] at C;change A0 _ _ _ (.agg (A7 (SMu.inc n).args)) at M;change A0 _ _ _ (.agg (A7 (SMu.inc n).o)) at C;simp only at C;obtain⟨u1,u2,u3,u4⟩:=Az (SMu.inc n).args;obtain⟨N,U,V,v4⟩:=Az (SMu.inc n).o;obtain⟨w1,w2,w3,w4⟩:=Az (vT Jc);generalize A7 (SMu.inc n).args=A at*;generalize A7 (SMu.inc n).o=O at*;generalize A7 (vT Jc)=T at*;unfold shE;refine Zd [] ?_
  (have z:=Za hn<|Za hg<|Za u1<|Za u2<|Za u3<|Za u4<|Za N<|Za U<|Za V<|Za v4<|Za w1<|Za w2<|Za w3 w4;push_cast[z]<;>repeat' (first|refine Zv Y ?_|refine Zc M ?_|refine Zc Z ?_|refine Zg C ?_ ?_|apply Za)<;>push_cast[z])
  apply Zw<;>push_cast [N,U,V]
 |put=>
  have Y:=c_wPut;have Z:=K4 Ja;have M:=(K5 (CZ,vT tK) (Dc,BU)).lo (ds':=[.slice [A8 (CZ,vT tK),A8 (Dc,BU)] true]) ⟨⟨Bp _,λh=>by cases h⟩,trivial⟩;have C:=K5 (Fp,SMu.put.args) (Fo,vT Ja);rw[PT] at*;rw[Aj,Aj] at C;change A0 _ _ _ (.agg (A7 SMu.put.args)) at M;change A0 _ _ _ (.agg (A7 SMu.put.o)) at C;simp only at C;obtain⟨u1,u2,u3,u4⟩:=Az SMu.put.args;obtain⟨N,U,V,v4⟩:=Az SMu.put.o;obtain⟨w1,w2,w3,w4⟩:=Az (vT Ja);generalize A7 SMu.put.args=A at*;generalize A7 SMu.put.o=O at*;generalize A7 (vT Ja)=T at*;unfold shE;refine Zd [] ?_
  (have z:=Za hn<|Za hg<|Za u1<|Za u2<|Za u3<|Za u4<|Za N<|Za U<|Za V<|Za v4<|Za w1<|Za w2<|Za w3 w4;push_cast[z]<;>repeat' (first|refine Zv Y ?_|refine Zc M ?_|refine Zc Z ?_|refine Zg C ?_ ?_|apply Za)<;>push_cast[z])
  apply Zw<;>push_cast [N,U,V]
def K0(m:GM):An (Ai m)=true/\(Ai m).length=19/\(Ai m).all AV=true/\(Ai m).take 19=Ai m:=⟨Ax m,AB m,C4 m,BQ m⟩
def A1D(C:MayOk):ObjOk:=λm hm=>by
 have hY:=C m hm;have M:=W0;have N:=c_mWrite m hm;obtain⟨V,Y,Z,u4⟩:=K0 m.m;obtain⟨v1,v2,v3,v4⟩:=Az m.o;generalize Ai m.m=U at*;generalize A7 m.o=O at*;unfold shE at*;refine Zf [] ?_
 (have z:=Za V<|Za Y<|Za Z<|Za u4<|Za v1<|Za v2<|Za v3 v4;push_cast[z]<;>repeat' (first|refine Zc hY ?_|refine Zs [] M ?_|refine Zs [(1,64)] N ?_|exact Zo|apply Za)<;>push_cast[z])
end Go.Ab
namespace Go.Ab
open Go.Proofs Go.Proofs.Tryz Go.RowKit
variable{l:List D}
def Bo.one{w:World}{I:Nat->Prop}{mu:Nat->Option Value}{d:D}{vs:List Value}(h:Bo w I mu [d] vs):∃v,vs=[v]/\Rep w I mu d v:=by
 obtain⟨h1,h2⟩:=h
 match vs,h1 with
 |[v],_=>exact ⟨v,rfl,h2 0 Sq'⟩
noncomputable abbrev rvD(d:D):List D:=[.val (typeHandle prog 41),.ptr [d] 0,.val (.int .u64 151)]
def Pp:∃i:TypeInfo,prog.info? 41=some i/\i.desc=.slice 165:=by
 refine⟨_,rfl,?_⟩
 kernel_rfl
def ZQ(L:LLa):S1 prog 264 [.iface 41 (.slice L false)] (.agg (rvD (.slice L false))):=
 S1.of (e:=λargs=>Extern.ReflectliteValue.unpack (args.getD 0 (.tuple #[]))) func264 Kq' Kq' Kq' Kq' λw I mu vs M hr=>by
  obtain⟨v,rfl,O⟩:=hr.one;obtain⟨i,hi,U⟩:=Pp;cases O with
  |iface _ _ u N=>
   have V:=N;cases N with
   |slice _ _ A k o sz cap u Z hc ht hm a0 a1 h=>
    refine⟨_,_,λk=>I k\/k=w.heap.size,Lib.run_valueOf_slice _ _ i hi U A L.length cap w,?_,λk h=>.inl h,λk h=>h.elim .inl λh=>.inr Om,λk h=>?_,(Below.refl _ w).alloc (A2e _) _⟩
    ·refine .agg _ [_,_,_] rfl λj C=>?_
     match j,C with
     |0,_=>exact .val _ trivial
     |1,_=>
      refine .ptr [.slice L false] 0 w.heap.size 0 (λ_=>.slice A L.length cap) (λ_=>.inr rfl) (λj C=>?_) λj C=>?_
      ·obtain rfl:j=0:=by simp at C;omega
       show(match(w.alloc (Obj.cells #[.slice A L.length cap] _)).heap[w.heap.size]? with|some (.cells c _ _)=>c[0]?|_=>none)=_;rw[show(w.alloc (Obj.cells #[.slice A L.length cap] 41)).heap[w.heap.size]? =some (Obj.cells #[.slice A L.length cap] 41) by show(w.heap.push _)[_]? =_;simp];rfl
      ·obtain rfl:j=0:=by simp at C;omega
       exact V.mono (λk Y=>Bt w _ (M k Y)) (λ_ h=>.inl h) (λ_ _ h=>h)
     |2,_=>exact .val _ (by simp only[okP,DJ,DK];omega)
    ·rcases h with h|h
     ·have:=M k h;simp;omega
     ·simp;omega
noncomputable def memI:TypeInfo:=(prog.info? 165).getD default
def memI_eq:prog.info? 165=some memI:=Kq'
noncomputable abbrev swD(L:LLa):D:=.func (.func 332) [] [.slice L false,.val (typeHandle prog 165)]
def ZR(L:LLa)(h2:L.length=2):MF prog 265 [.iface 41 (.slice L false)] (swD L):=
 MF.of (e:=Extern.ReflectliteSwapper.swapper "internal/reflectlite" (Extern.ReflectliteValue.valueError "Swapper")) func265 Kq' Kq' Kq' Kq' λw I mu vs hr=>by
  obtain⟨v,rfl,N⟩:=hr.one;obtain⟨i,hi,O⟩:=Pp;cases N with
  |iface _ _ u C=>
   have M:=C;cases C with
   |slice _ _ A k o sz cap u U hc ht hm V Y h=>
    rw[h2] at M|-;exact⟨_,Lib.run_swapper_slice _ _ i memI hi O memI_eq 25 (λw=>Kq') A 2 cap 332 Kq' w,.func _ [] [_,_] [] [_,_] rfl rfl (λi hi=>by simp at hi) λi hi=>match i,hi with
     |0,_=>M
     |1,_=>.val _ trivial⟩
def x_rvLen(L:LLa)(n:Nat)(hn:L.length=n)(Z:n<=1048576):MF prog 266 [.agg (rvD (.slice L false))] (iD n):=
 MF.of (e:=Extern.ReflectliteValue.method (Extern.ReflectliteValue.valueError "reflectlite.Value.Len" 0) Extern.ReflectliteValue.len) func266 Kq' Kq' Kq' Kq' λw I mu vs hr=>by
  obtain⟨v,rfl,U⟩:=hr.one;obtain⟨i,hi,V⟩:=Pp;obtain⟨us,rfl,hl,h⟩:=U.agg_inv
  match us,hl with
  |[x,y,z],_=>
   have M:=(h 0 Sq').val_inv;have C:=h 1 Sq';have N:=(h 2 Sq').val_inv;simp only[nv,A39,A3t] at M C N;subst M N;simp only[nd,A39,A3t] at C;cases C with
   |ptr _ _ k o u hI O Y=>
    have h1:=O 0 Sq';have h2:=Y 0 Sq';simp only[nd,A39] at h2;generalize u 0=q at*;cases h2 with
    |slice _ _ A k' o' sz cap u hA hc ht hm a0 O h=>
     rw[hn] at h1;exact⟨_,Lib.run_valueLen_slice _ _ i hi V Kq' _ A n cap w h1,.val _ (by simp only[okP,DJ,DK];omega)⟩
abbrev lsF:D:=.func (.func 180) [] [.ref 1 0 0 1]
abbrev lsB(a b:Baa×GV):Hp:=[(1,.rows [[.slice [A8 a,A8 b] false]] 1)]
def c_less(a b:Baa×GV)(a0:CO b.1 a.1=1):A4 prog 180 [iD 1,iD 0,.ref 1 0 0 1] (lsB a b) (bD false) (lsB a b):=by
 have hl:ltS b.1 a.1=false:=by simp[ltS,a0]
 obtain⟨C,M,N,x4⟩:=Az a.2;obtain⟨O,Y,Z,y4⟩:=Az b.2;unfold lsB;rw[Aj,Aj];generalize A7 a.2=V at*;generalize A7 b.2=U at*;refine Zd [] ?_
 (have z:=Za C<|Za M<|Za N<|Za x4<|Za O<|Za Y<|Za Z<|Za y4 hl;push_cast[z]<;>repeat' (first|exact Zo|apply Za))
 apply Zw<;>push_cast [C,M,N,O,Y,Z]
def c_insS(L:LLa)(C:Aa L=true)(a b:Baa×GV)(Z:CO b.1 a.1=1):A4 prog 333 [.agg [lsF,swD L],iD 0,iD 2] (lsB a b) (.tup []) (lsB a b):=by
 have hc:=c_less a b Z;have hT:AV (.val (typeHandle prog 165))=true:=rfl;have M:=Ap a;have N:=Ap b;unfold lsB at*;generalize A8 a=V at*;generalize A8 b=U at*;obtain⟨w0,O,Y⟩:=TW;refine Zd [] ?_
 (have z:=Za M<|Za N C;push_cast[z]<;>repeat' apply Za)
 refine Zl (λi=>i=1\/i=2) (λi=>⟨[(6,iD i),(1,iD 0),(2,iD 2),(3,.ref 8 0 0 2)],[(8,.rows [[lsF,swD L]] 2),(1,.rows [[.slice [V,U] false]] 1)],400⟩) (λi=>2-i) 1 Sq' ?_ λi hi=>?_
 ·apply Zw<;>push_cast [M,N,C];all_goals first|decide|trace_state
 ·rcases hi with rfl|rfl
  ·(have z:=Za M<|Za N C;push_cast[z]<;>repeat' apply Za)
   refine Zl (λ_=>True) (λ_=>⟨[(7,iD 1),(6,iD 1),(1,iD 0),(2,iD 2),(3,.ref 8 0 0 2)],[(8,.rows [[lsF,swD L]] 2),(1,.rows [[.slice [V,U] false]] 1)],600⟩) (λ_=>0) 0 trivial ?_ λ_ _=>?_
   ·apply Zw<;>push_cast [M,N,C]
   ·(have z:=Za M<|Za N<|Za C<|Za w0<|Za O Y;push_cast[z]<;>repeat' (first|refine Zt [(1,1)] (hc ..) ?_|apply Za)<;>push_cast[z])
    refine⟨2,.inr rfl,Om,?_⟩;apply Zw<;>push_cast [M,N,C,w0,O,Y]
  ·(have z:=Za M<|Za N C;push_cast[z]<;>repeat' apply Za)
   apply Zw<;>push_cast [M,N,C]
def c_pdqS(L:LLa)(C:Aa L=true)(a b:Baa×GV)(O:CO b.1 a.1=1)(n:Int):A4 prog 267 [.agg [lsF,swD L],iD 0,iD 2,iD n] (lsB a b) (.tup []) (lsB a b):=by
 have hc:=c_insS L C a b O;have M:=Ap a;have N:=Ap b;unfold lsB at*;generalize A8 a=V at*;generalize A8 b=U at*;obtain⟨w0,Z,Y⟩:=TW;refine Zd [] ?_
 (have z:=Za M<|Za N C;push_cast[z]<;>repeat' apply Za)
 refine Zl (λ_=>True) (λ_=>⟨[(1,iD 0),(2,iD 2),(4,.ref 8 0 0 2)],[(8,.rows [[lsF,swD L]] 2),(1,.rows [[.slice [V,U] false]] 1)],400⟩) (λ_=>0) 0 trivial ?_ λ_ _=>?_
 ·apply Zw<;>push_cast [M,N,C]
 ·(have z:=Za M<|Za N<|Za C Y;push_cast[z]<;>repeat' (first|refine Zs [(1,1)] (hc ..) ?_|apply Za)<;>push_cast[z])
  apply Zw<;>push_cast [M,N,C]
def c_sliceS(a b:Baa×GV)(N:CO b.1 a.1=1):A4 prog 179 [.iface 41 (.slice [A8 a,A8 b] false),lsF] (lsB a b) (.tup []) (lsB a b):=by
 have hc:=c_pdqS [A8 a,A8 b] (by simp[Aa,Ap]) a b N 2;have O:AV (.val (typeHandle prog 41))=true:=rfl;have hb:=Qm;have Y:=ZQ [A8 a,A8 b];have Z:=ZR [A8 a,A8 b] rfl;have hn:=x_rvLen [A8 a,A8 b] 2 rfl Om;have C:=Ap a;have M:=Ap b;unfold lsB at*;generalize A8 a=V at*;generalize A8 b=U at*;have w1:IntKind.u64.wrap 2=2:=Dq';refine Zd [] ?_
 (have z:=Za C<|Za M<|Za O w1;push_cast[z]<;>repeat' (first|refine Zc (hb ..) ?_|refine Zs [(1,1)] (hc ..) ?_|with_reducible apply Za|(with_reducible show A5 _ _ _ _ _ _ _ _;refine A5.extG (by(try push_cast[z]);exact Y ..) Gda rfl ?_)|(with_reducible show A5 _ _ _ _ _ _ _ _;refine A5.ext (by(try push_cast[z]);exact Z ..) Gda rfl ?_)|(with_reducible show A5 _ _ _ _ _ _ _ _;refine A5.ext (by(try push_cast[z]);exact hn ..) Gda rfl ?_)|fail)<;>push_cast[z])
 apply Zw<;>push_cast [C,M]
def c_clone2(V U:List D)(O:An V=true)(M:V.length=7)(Y:V.all AV=true)(Z:An U=true)(N:U.length=7)(y3:U.all AV=true):A0 prog 178 [.slice [V,U] false] (.slice [V,U] false):=by
 refine Zf [] ?_
 (have z:=Za O<|Za M<|Za Y<|Za Z<|Za N y3;push_cast[z]<;>repeat' apply Za)
 ·exact id
 ·intro _ y C;rcases A2s.1 C with rfl|C
  ·exact M
  ·cases A2b.1 C;exact N
def Qc:∀a:Lua,BD a a=0
 |[]=>rfl
 |c::a=>by simp[BD,Qc a]
def sm2{a b:Baa×GV}(C:Sm a.2)(hb:Sm b.2)(h1:a.1.size<=1048576)(h2:b.1.size<=1048576):Sm (vO [a,b]):=
 .mk _ _ _ _ _ _ Dq' Sq' (λ_ h=>by cases h) (λp hp=>by
  rcases A2s.1 hp with rfl|hp
  ·exact C
  ·cases A2b.1 hp;exact hb) Dq' Dq' (λp hp=>by
  rcases A2s.1 hp with rfl|hp
  ·exact h1
  ·cases A2b.1 hp;exact h2)
def A1r(a b:Baa×GV)(Z:CO b.1 a.1=1)(ha:Sm a.2)(hb:Sm b.2)(h1:a.1.size<=1048576)(h2:b.1.size<=1048576):A0 prog 111 [.slice [A8 a,A8 b] false] (.tup [.agg (A7 (vO [a,b])),iD 0]):=by
 have hS:=c_sliceS a b Z;have hC:=JJ (vO [a,b]) (sm2 ha hb h1 h2);rw[PQ] at hC;have a0:=hC.lo (ds':=[.agg [iD 6,bD false,iD 0,sD bea,.slice [] true,.slice [A8 a,A8 b] false]]) ⟨⟨Av _,Av _,Av _,Av _,⟨trivial,λh=>by cases h⟩,⟨Bp _,λh=>h⟩,trivial⟩,trivial⟩;have C:(A8 a).length=7:=by rw[Aj,A2l,AH]
 have M:(A8 b).length=7:=by rw[Aj,A2l,AH]
 have hK:=c_clone2 (A8 a) (A8 b) (Ap a) C (BW a) (Ap b) M (BW b);obtain⟨N,C,x3,x4⟩:=Az a.2;obtain⟨Y,M,y3,y4⟩:=Az b.2;have a1:¬b.1=a.1:=λe=>by
  rw[e] at Z;simp only[CO,Qc] at Z;omega
 have k2:decide (b.1=a.1)=false:=decide_eq_false a1;have hO:=PQ [a,b];obtain⟨u1,u2,u3,u4⟩:=Az (vO [a,b]);rw[<-hO] at a0;generalize A7 (vO [a,b])=O at*;unfold lsB at hS;rw[Aj,Aj] at*;generalize A7 a.2=V at*;generalize A7 b.2=U at*;obtain⟨w0,w1,w2⟩:=TW;refine Zf [] ?_
 (have z:=Za N<|Za Y<|Za C<|Za M<|Za x3<|Za y3<|Za u1<|Za u2<|Za u3<|Za u4 k2;push_cast[z]<;>repeat' (first|refine Zc hK ?_|refine Zs [(1,32)] hS ?_|apply Za)<;>push_cast[z])
 ·kernel_rfl
 refine Zl (λi=>i=1\/i=2) (λi=>⟨[(5,iD i),(4,.ref 32 0 0 1),(2,.ref 0 0 0 6)],[(32,.rows [[.slice [sD a.1::V,sD b.1::U] false]] 1),(0,vB 0 (.slice [] true) (.slice [] true))],400⟩) (λi=>2-i) 1 Sq' ?_ λi hi=>?_
 ·apply Zw<;>push_cast [N,Y];all_goals rfl
 ·rcases hi with rfl|rfl
  ·(have z:=Za N<|Za Y<|Za C<|Za M<|Za x3<|Za y3<|Za u1<|Za u2<|Za u3<|Za u4<|Za k2<|Za w0<|Za w1 w2;push_cast[z]<;>repeat' (first|exact Zo|apply Za))
   refine⟨2,.inr rfl,Om,?_⟩;apply Zw<;>push_cast [N,Y,w0,w1,w2]
  ·(have z:=Za N<|Za Y<|Za C<|Za M<|Za x3<|Za y3<|Za u1<|Za u2<|Za u3<|Za u4<|Za k2<|Za w0<|Za w1 w2;push_cast[z]<;>repeat' (first|refine Zc (a0 ..) ?_|apply Za)<;>push_cast[z])
def QV:Ff BU=false:=by simp[Ff,BU,GV.kind,GV.b,GV.n,GV.s,GV.list,GV.obj,MZ]
def Mq:Ao BU=0:=by
 have h1:Bb BU 1=0:=by rw[DW,QV];simp[BU,GV.kind]
 have h2:C9 BU=1:=by rw[JD];simp[BU,GV.kind]
 have C:CN BU=4:=by rw[Ep];simp[BU,GV.kind]
 simp[Ao,h1,h2,C]
def Xq:MayOk:=λm hm=>by
 have h:=Qj HG m.m (LQ m) (by have:=Wv m;omega) (by rw[NU];omega);rw[SM Ao Mq m] at h;exact h
def obj_ok:ObjOk:=A1D Xq
def vobj_ok:VObjOk:=λa b h1 h2 C M N=>A1r a b h1 h2 C M N
def sm_I(n:Int)(h: -9223372036854775808<=n/\n<=9223372036854775807):Sm (vI n):=.mk _ _ _ _ _ _ Dq' Dq' (λ_ h=>by cases h) (λ_ h=>by cases h) h Dq' (λ_ h=>by cases h)
def sm_T(s:Baa)(h:s.size<=1048576):Sm (vT s):=.mk _ _ _ _ _ _ Dq' Dq' (λ_ h=>by cases h) (λ_ h=>by cases h) Dq' h (λ_ h=>by cases h)
def sm_L(l:List GV)(hl:l.length<=1048576)(h:∀x ∈ l,Sm x):Sm (vL l):=.mk _ _ _ _ _ _ hl Dq' h (λ_ h=>by cases h) Dq' Dq' (λ_ h=>by cases h)
def sm_o(m:SMu)(hm:m.ok):Sm m.o:=by
 refine sm2 ?_ ?_ (by show Fp.size<=_;decide) (by show Fo.size<=_;decide)
 ·cases m with
  |inc n=>exact sm2 (sm_I n hm) (sm_T _ Dq') (by show tBy.size<=_;decide) (by show CZ.size<=_;decide)
  |put=>exact sm2 (sm_T _ Dq') Yz (by show CZ.size<=_;decide) (by show Dc.size<=_;decide)
 ·cases m with
  |inc n=>exact sm_T _ (by show Jc.size<=_;decide)
  |put=>exact sm_T _ (by show Ja.size<=_;decide)
def WR(n:Nat)(h:Ex n):Sm (vI n):=sm_I _ (by have:=h.2;omega)
def sm_snO(x:SN)(h1:Ex x.1)(h2:x.2.ok):Sm (snO x):=sm2 (WR _ h1) (sm_o _ h2) (by show tId.size<=_;decide) (by show DL.size<=_;decide)
def sms:SmS:=⟨sm_o,sm_snO,WR⟩
def YA(l:List SN)(h:l.length<=64)(C:∀x ∈ l,Ex x.1/\x.2.ok):Sm (vL (l.map snO)):=sm_L _ So' λy N=>by
 obtain⟨x,M,rfl⟩:=A2p.1 N;exact sm_snO x (C x M).1 (C x M).2
def sm_puO(c:Nat)(l:List SN)(h:KU c l):Sm (puO c l):=sm2 (WR _ h.1) (YA l h.2.1 h.2.2) (by show Ed.size<=_;decide) (by show Jb.size<=_;decide)
def k_pMay(c:Nat)(l:List SN)(h:KU c l):A0 prog 40 [.agg (HW c l)] (iD 0):=c_pMay Xq c l h
def A14(c:Nat)(l:List SN)(h:KU c l):A0 prog 71 [.agg (HW c l)] (.tup [.agg (A7 (puO c l)),iD 0]):=A1A obj_ok vobj_ok sms c l h (YA l h.2.1 h.2.2)
abbrev tWr:TypeId:=193
abbrev wkB(a:D)(g len:Nat)(n:Int):Blk:=.pr g (prR tWr [bD true,a,.gref 1 len,iD n])
abbrev byB(g:Nat)(t:Lua):Blk:=.pr g (prG 5 t)
abbrev TF:D:=.val (.pointer none)
abbrev BR:D:=.ref 0 0 1 4
def NJ(d:D):MF prog 380 [d] d:=
 MF.of (e:=Extern.AbiNoEscape.same) func380 Kq' Kq' Kq' Kq' λw I mu vs hr=>by
  obtain⟨h1,h2⟩:=hr
  match vs,h1 with
  |[v],_=>exact ⟨v,Lib.run_noEscape w v,h2 0 Sq'⟩
def conv_to(w:World)(k:Nat)(us:Array Value)(h:w.heap[k]? =some (.cells us tWr (0,0)))(C:us.size=4):(convert 189 336 (.pointer (some ⟨k,0*4+1,none⟩))).run prog w=.ok (.pointer (some ⟨k,0*4+1,none⟩)) w:=by
 obtain⟨j,hj,hj2⟩:∃j,prog.info? 191=some j/\j.size=2:=⟨_,rfl,Kq'⟩
 exact Lib.run_to_unsafe w _ underlying189 underlying336 hj Om (by simp[World.shape?,h];exact⟨rfl,rfl⟩) (by show 0*4+1<us.size;omega)
def Mt(w:World)(k:Nat)(us:Array Value)(h:w.heap[k]? =some (.cells us tWr (0,0)))(C:us.size=4):(convert 336 189 (.pointer (some ⟨k,0*4+1,none⟩))).run prog w=.ok (.pointer (some ⟨k,0*4+1,none⟩)) w:=by
 obtain⟨j,hj,hj2⟩:∃j,prog.info? 191=some j/\j.size=2:=⟨_,rfl,Kq'⟩
 exact Lib.run_from_unsafe w _ underlying336 underlying189 hj (cells:=4) (e:=tWr) (by simp[World.shape?,h,C]) Kq'
abbrev wkH(a:D)(t:Lua)(n:Int):Hp:=[(1,wkB a 4 t.length n),(4,byB 4 t)]
def c_ccNil(t:Lua)(n:Int):A4 prog 341 [.ref 1 0 1 4] (wkH TF t n) (.tup []) (wkH BR t n):=by
 have C:=NJ (.ref 1 0 1 4);unfold wkH;generalize t.length=len at*;refine Zd [] ?_
 (have z:=trivial;push_cast<;>repeat' (first|with_reducible apply Za|(refine A5.loadR Pc' rfl Pc' Pc' Sq' (by first|rfl|(push_cast;rfl)) Gda ?_)|(refine A5.convR Pc' Pc' (by exact conv_to) Gda ?_)|(with_reducible show A5 _ _ _ _ _ _ _ _;refine A5.ext (by(try push_cast);exact C ..) Gda rfl ?_)|(refine A5.convR Pc' Pc' (by exact Mt) Gda ?_)|(refine A5.storeR (.ref 0 0 1 4) 4 Pc' rfl rfl Pc' Pc' Sq' (by first|(push_cast;done)|rfl|(push_cast;rfl)) trivial (by first|rfl|(push_cast;rfl)) (by first|exact .inl rfl|exact .inr ⟨rfl,rfl⟩) Gda ?_)|fail)<;>push_cast)
 apply Zw<;>push_cast
def bld_info:∃j:TypeInfo,prog.info? 191=some j:=⟨_,rfl⟩
def Ql(t:Lua)(n:Int):A4 prog 341 [.ref 1 0 1 4] (wkH BR t n) (.tup []) (wkH BR t n):=by
 obtain⟨j,C⟩:=bld_info;unfold wkH;generalize t.length=len at*;refine Zd [] ?_
 (have z:=trivial;push_cast<;>repeat' (first|with_reducible apply Za|(refine A5.loadR Pc' rfl Pc' Pc' Sq' (by first|rfl|(push_cast;rfl)) Gda ?_)|(refine A5.neSame underlying189 C Pc' Pc' Gda ?_)|fail)<;>push_cast)
 apply Zw<;>push_cast
def Yt:∃j:TypeInfo,prog.info? 5=some j/\j.zero=some (.int .u8 0)/\j.size=1/\j.bytes=1:=⟨_,rfl,Kq',Kq',Kq'⟩
def CcOk(a:D):Prop:=∀t n,A4 prog 341 [.ref 1 0 1 4] (wkH a t n) (.tup []) (wkH BR t n)
def Gz(a:D)(hc:CcOk a)(t:Lua)(n:Int)(s:Baa)(C:t++s.data.toList≠[])(hl:t.length+s.size<=1073741824):A4 prog 268 [.ref 1 0 1 4,sD s] (wkH a t n) (.tup [iD s.size,.val .nilIface]) (wkH BR (t++s.data.toList) n):=by
 have hc:=hc t n;obtain⟨j,M,N,O,U⟩:=Yt;have V:=underlying49;have Y:=underlying9;unfold wkH at*;have Z:(t++s.data.toList).length=t.length+s.size:=by rw[A2a];rfl
 rw[Z];refine Zd [] ?_
 (have z:=trivial;push_cast<;>repeat' (first|refine Zs [(1,1),(4,4)] (hc ..) ?_|with_reducible apply Za|(refine A5.loadR Pc' rfl Pc' Pc' Sq' (by first|rfl|(push_cast;rfl)) Gda ?_)|(refine A5.appG V Y M N O U C hl Pc' Pc' Pc' Gda ?_)|(refine A5.storeR (.gref 1 (t.length+s.size)) 88 Pc' rfl rfl Pc' Pc' Sq' (by first|(push_cast;done)|rfl|(push_cast;rfl)) trivial (by first|rfl|(push_cast;rfl)) (by first|exact .inl rfl|exact .inr ⟨rfl,rfl⟩) Gda ?_)|fail)<;>push_cast)
 apply Zr [(4,88)] rfl<;>push_cast
def c_String(t:Lua)(n:Int)(C:t≠[])(hl:t.length<=1073741824):A4 prog 114 [.ref 1 0 1 4] (wkH BR t n) (.val (.string ⟨t.toArray⟩)) []:=by
 have hp:=underlying263;have M:prog.cellsOf 5=1:=Kq';unfold wkH;refine Zd [] ?_
 (have z:=trivial;push_cast<;>repeat' (first|exact Zp|with_reducible apply Za|(refine A5.loadR Pc' rfl Pc' Pc' Sq' (by first|rfl|(push_cast;rfl)) Gda ?_)|(refine A5.usd C Pc' Pc' Gda ?_)|(refine A5.ustr hp M C hl Pc' Pc' Pc' Gda ?_)|fail)<;>push_cast)
 ·omega
 ·apply Zw<;>push_cast
abbrev wkT(a:D)(t:Lua):Hp:=[(1,wkB a 4 t.length (t.length:Nat)),(4,byB 4 t)]
abbrev bL(s:Baa):Lua:=s.data.toList
def c_tjoin1(a:D)(N:a=TF\/a=BR)(t:Lua)(s:Baa)(O:t++bL s≠[])(hl:t.length+s.size<=1073741824):A4 prog 182 [.ref 1 0 0 4,.sref 3 0 1 1 1] (wkT a t++[(3,.rows [[sD s]] 1)]) (.tup []) (wkT BR (t++bL s)):=by
 have U:(t++bL s).length=t.length+s.size:=by rw[A2a];rfl
 have C:=Gz a (by rcases N with rfl|rfl;exact c_ccNil;exact Ql) t ((t++bL s).length:Nat) s O hl;have M:IntKind.i64.wrap (↑t.length+↑s.size)=((t++bL s).length:Nat):=by rw[U,A3m];exact A9 Om Om
 unfold wkH at C;unfold wkT;simp only[A2d,A2h];change A4 _ _ _ _ _ [(1,wkB BR 4 (t++bL s).length _),(4,byB 4 (t++bL s))] at C;generalize t++bL s=u at*;refine Zd [] ?_
 (push_cast<;>repeat' apply Za)
 refine AWp.loopI mixed Kq' (ι:=Bool) (λ_=>True) (λb=>match b with
  |false=>⟨[(8,iD 0),(7,iD 1),(6,.sref 3 0 1 1 1),(0,.ref 1 0 0 4)],[(1,wkB a 4 t.length (t.length:Nat)),(4,byB 4 t),(3,.rows [[sD s]] 1)],100⟩
  |true=>⟨[(8,iD 1),(7,iD 1),(6,.sref 3 0 1 1 1),(0,.ref 1 0 0 4)],[(1,wkB BR 4 u.length (u.length:Nat)),(4,byB 4 u),(3,.rows [[sD s]] 1)],100⟩) (λb=>if b then 0 else 1) false trivial ?_ λb _=>?_
 ·apply Zw<;>push_cast
 ·cases b with
  |false=>
   simp only
   (have z:=M;push_cast[z]<;>repeat' (first|refine Zs [(1,1),(4,4)] C ?_|with_reducible apply Za|(refine A5.loadR (by first|(push_cast[z];done)|((try push_cast[z]);rfl)) rfl (by first|(push_cast[z];done)|((try push_cast[z]);rfl)) (by first|(push_cast[z];done)|((try push_cast[z]);rfl)) Sq' (by first|rfl|(push_cast[z];rfl)) Gda ?_)|(refine A5.storeR (iD u.length) 4 (by first|(push_cast[z];done)|((try push_cast[z]);rfl)) rfl rfl (by first|(push_cast[z];done)|((try push_cast[z]);rfl)) (by first|(push_cast[z];done)|((try push_cast[z]);rfl)) Sq' (by first|(push_cast[z];done)|rfl|(push_cast[z];rfl)) trivial (by first|rfl|(push_cast[z];rfl)) (by first|exact .inl rfl|exact .inr ⟨rfl,rfl⟩) Gda ?_)|fail)<;>push_cast[z])
   refine⟨true,Dq',?_⟩;simp only;apply Zr [(4,380)] rfl<;>push_cast;all_goals first|rfl|skip
  |true=>
   simp only
   (have z:=M;push_cast[z]<;>repeat' apply Za)
   apply Zw<;>push_cast
def c_tjoin2(t:Lua)(s s':Baa)(U:t≠[])(hl:t.length+s.size+s'.size<=1073741824):A4 prog 182 [.ref 1 0 0 4,.sref 3 0 2 2 1] (wkT BR t++[(3,.rows [[sD s],[sD s']] 1)]) (.tup []) (wkT BR (t++bL s++bL s')):=by
 have M:(t++bL s).length=t.length+s.size:=by rw[A2a];rfl
 have Y:(t++bL s++bL s').length=t.length+s.size+s'.size:=by rw[A2a,M];rfl
 have N:=Gz BR Ql t ((t++bL s).length:Nat) s (by simp[U]) Om;have O:=Gz BR Ql (t++bL s) ((t++bL s++bL s').length:Nat) s' (by simp[U]) Om;have V:IntKind.i64.wrap (↑t.length+↑s.size)=((t++bL s).length:Nat):=by rw[M,A3m];exact A9 Om Om
 have Z:IntKind.i64.wrap (↑(t++bL s).length+↑s'.size)=((t++bL s++bL s').length:Nat):=by rw[Y,M];push_cast;exact A9 Om Om
 unfold wkH at N O;unfold wkT;simp only[A2d,A2h];change A4 _ _ _ _ _ [(1,wkB BR 4 (t++bL s).length _),(4,byB 4 (t++bL s))] at N;change A4 _ _ _ _ _ [(1,wkB BR 4 (t++bL s++bL s').length _),(4,byB 4 (t++bL s++bL s'))] at O;generalize t++bL s++bL s'=C at*;generalize t++bL s=u at*;refine Zd [] ?_
 (push_cast<;>repeat' apply Za)
 refine Zl (λi=>i<=2) (λb=>match b with
  |0=>⟨[(8,iD 0),(7,iD 2),(6,.sref 3 0 2 2 1),(0,.ref 1 0 0 4)],[(1,wkB BR 4 t.length (t.length:Nat)),(4,byB 4 t),(3,.rows [[sD s],[sD s']] 1)],100⟩
  |1=>⟨[(8,iD 1),(7,iD 2),(6,.sref 3 0 2 2 1),(0,.ref 1 0 0 4)],[(1,wkB BR 4 u.length (u.length:Nat)),(4,byB 4 u),(3,.rows [[sD s],[sD s']] 1)],100⟩
  |_=>⟨[(8,iD 2),(7,iD 2),(6,.sref 3 0 2 2 1),(0,.ref 1 0 0 4)],[(1,wkB BR 4 C.length (C.length:Nat)),(4,byB 4 C),(3,.rows [[sD s],[sD s']] 1)],100⟩) (λb=>2-b) 0 Sq' ?_ λb hb=>?_
 ·apply Zw<;>push_cast
 ·obtain rfl|rfl|rfl:b=0\/b=1\/b=2:=Om
  ·simp only
   (have z:=V;push_cast[z]<;>repeat' (first|refine Zs [(1,1),(4,4)] N ?_|with_reducible apply Za|(refine A5.loadR (by first|(push_cast[z];done)|((try push_cast[z]);rfl)) rfl (by first|(push_cast[z];done)|((try push_cast[z]);rfl)) (by first|(push_cast[z];done)|((try push_cast[z]);rfl)) Sq' (by first|rfl|(push_cast[z];rfl)) Gda ?_)|(refine A5.storeR (iD u.length) 4 (by first|(push_cast[z];done)|((try push_cast[z]);rfl)) rfl rfl (by first|(push_cast[z];done)|((try push_cast[z]);rfl)) (by first|(push_cast[z];done)|((try push_cast[z]);rfl)) Sq' (by first|(push_cast[z];done)|rfl|(push_cast[z];rfl)) trivial (by first|rfl|(push_cast[z];rfl)) (by first|exact .inl rfl|exact .inr ⟨rfl,rfl⟩) Gda ?_)|fail)<;>push_cast[z])
   refine⟨1,Dq',Dq',?_⟩;simp only;apply Zr [(4,380)] rfl<;>push_cast;all_goals first|rfl|skip
  ·simp only
   (have z:=Z;push_cast[z]<;>repeat' (first|refine Zs [(1,1),(4,4)] (O ..) ?_|with_reducible apply Za|(refine A5.loadR (by first|(push_cast[z];done)|((try push_cast[z]);rfl)) rfl (by first|(push_cast[z];done)|((try push_cast[z]);rfl)) (by first|(push_cast[z];done)|((try push_cast[z]);rfl)) Sq' (by first|rfl|(push_cast[z];rfl)) Gda ?_)|(refine A5.storeR (iD C.length) 4 (by first|(push_cast[z];done)|((try push_cast[z]);rfl)) rfl rfl (by first|(push_cast[z];done)|((try push_cast[z]);rfl)) (by first|(push_cast[z];done)|((try push_cast[z]);rfl)) Sq' (by first|(push_cast[z];done)|rfl|(push_cast[z];rfl)) trivial (by first|rfl|(push_cast[z];rfl)) (by first|exact .inl rfl|exact .inr ⟨rfl,rfl⟩) Gda ?_)|fail)<;>push_cast[z])
   refine⟨2,Dq',Dq',?_⟩;simp only;apply Zr [(4,380)] rfl<;>push_cast;all_goals first|rfl|skip
  ·simp only
   (have z:=V;push_cast[z]<;>repeat' apply Za)
   apply Zw<;>push_cast
def j1(a:D)(C:a=TF\/a=BR)(t u:Lua)(s:Baa)(M:t++bL s=u)(N:u≠[])(hl:u.length<=1073741824):A4 prog 182 [.ref 1 0 0 4,.sref 3 0 1 1 1] [(1,wkB a 4 t.length (t.length:Nat)),(4,byB 4 t),(3,.rows [[sD s]] 1)] (.tup []) [(1,wkB BR 4 u.length (u.length:Nat)),(4,byB 4 u)]:=by
 subst M;exact c_tjoin1 a C t s N (by rw[A2a] at hl;exact hl)
def j2(t u:Lua)(s s':Baa)(C:t++bL s++bL s'=u)(M:t≠[])(hl:u.length<=1073741824):A4 prog 182 [.ref 1 0 0 4,.sref 3 0 2 2 1] [(1,wkB BR 4 t.length (t.length:Nat)),(4,byB 4 t),(3,.rows [[sD s],[sD s']] 1)] (.tup []) [(1,wkB BR 4 u.length (u.length:Nat)),(4,byB 4 u)]:=by
 subst C;exact c_tjoin2 t s s' M (by rw[A2a,A2a] at hl;exact hl)
def WrT(f:FuncId)(caps:List D)(v:GV):Prop:=∀t u:Lua,t++tv v=u->t≠[]->u.length<=1073741824->
 A4 prog f (.ref 1 0 0 4::caps) [(1,wkB BR 4 t.length (t.length:Nat)),(4,byB 4 t)] (.tup []) [(1,wkB BR 4 u.length (u.length:Nat)),(4,byB 4 u)]
def TQ(v:GV):Prop:=
 (∃f,A0 prog 113 [.agg (A7 v)] (.func (.func f) [] [.ptr (A7 v) 0])/\WrT f [.ptr (A7 v) 0] v)\/
 (A0 prog 113 [.agg (A7 v)] (.func (.func 192) [] [])/\WrT 192 [] v)
def A0A(v:GV)(M:v.kind=1):TQ v:=by
 refine .inr ⟨?_,λt u C N hl=>?_⟩
 ·rw[A3,M];refine Zf [0] ?_
  (push_cast<;>repeat' apply Za)
 ·have e:tv v=[110,117,108,108]:=by rw[J6,M];rfl
  rw[e] at C;have O:=j1 BR (.inr rfl) t u ⟨#[110,117,108,108]⟩ C (by rw[<-C];simp[N]) hl;clear C;refine Zd [] ?_
  (have z:=trivial;push_cast<;>repeat' (first|refine Zs [(1,1),(4,4),(3,16)] O ?_|apply Za)<;>push_cast)
  apply Zr [(4,28)] rfl<;>push_cast
def ownT_int(v:GV)(hs:Sm v)(M:v.kind=3):TQ v:=by
 refine .inl ⟨184,?_,λt u C N hl=>?_⟩
 ·rw[A3,M];refine Zf [0] ?_
  (push_cast<;>repeat' apply Za)
 ·have hf:=Nh v.n hs.int.1 hs.int.2;have e:tv v=Lib.itoa v.n:=by rw[J6,M];rfl
  rw[e] at C;have O:=j1 BR (.inr rfl) t u ⟨(Lib.itoa v.n).toArray⟩ (by simpa[bL] using C) (by rw[<-C];simp[N]) hl;clear C e;generalize(⟨(Lib.itoa v.n).toArray⟩:Baa)=s at*;rw[A3,M];refine Zd [] ?_
  (have z:=trivial;push_cast<;>repeat' (first|refine Zc (hf ..) ?_|refine Zs [(1,1),(4,4),(3,40)] O ?_|apply Za)<;>push_cast)
  apply Zr [(4,52)] rfl<;>push_cast
def W9(s:Baa)(hs:s.size<=1048576):A0 prog 187 [sD s] (sD (Dk s)):=by
 have h:=ZG s hs;refine Zf [] ?_
 (have z:=trivial;push_cast<;>repeat' (first|refine Zc h ?_|apply Za)<;>push_cast)
def A0z(v:GV)(hs:Sm v)(M:v.kind=4):TQ v:=by
 refine .inl ⟨186,?_,λt u C N hl=>?_⟩
 ·rw[A3,M];refine Zf [0] ?_
  (push_cast<;>repeat' apply Za)
 ·have hf:=W9 v.s hs.text;have e:tv v=F4 v.s:=by rw[J6,M];rfl
  rw[e] at C;have O:=j1 BR (.inr rfl) t u (Dk v.s) C (by rw[<-C];simp[N]) hl;clear C e;generalize Dk v.s=s at*;rw[A3,M];refine Zd [] ?_
  (have z:=trivial;push_cast<;>repeat' (first|refine Zc (hf ..) ?_|refine Zs [(1,1),(4,4),(3,40)] O ?_|apply Za)<;>push_cast)
  apply Zr [(4,52)] rfl<;>push_cast
def A0B(v:GV)(hs:Sm v)(U:v.kind=5)(ih:∀x ∈ v.list,TQ x):TQ v:=by
 refine .inl ⟨188,?_,λt u N a7 hl=>?_⟩
 ·rw[A3,U];refine Zf [0] ?_
  (push_cast<;>repeat' apply Za<;>push_cast)
 ·have e:tv v=91::(ED (v.list.map tv)++[93]):=by rw[J6,U];rfl
  rw[e] at N;have a8:=hs.list_le;rw[A3,U];clear e U hs;generalize v.list=l at*;have C:=Aw (f:=A7) Bn l;have a9:t.length+1+(ED (l.map tv)).length+1=u.length:=by rw[<-N];simp;omega
  obtain⟨X,hX⟩:∃X:Nat->Lua,∀i,X i=t++91::ED ((l.take i).map tv):=⟨_,λ_=>rfl⟩
  have V:∀i,(X i).length+1<=u.length:=λi=>by
   have:=Um tv l i;rw[hX];simp only[A2a,A2l];omega
  have a0:∀i,X i≠[]:=λi=>by rw[hX];simp
  have a1:t++bL ⟨#[91]⟩=X 0:=by rw[hX];simp[ED,bL]
  have a2:X l.length++bL ⟨#[93]⟩=u:=by rw[hX,<-N,A2I];simp[bL]
  have O:∀i,i<l.length->X i++bL (if i=0 then⟨#[]⟩ else⟨#[44]⟩)++tv (l.getD i zV)=X (i+1):=λi hi=>by
   rw[hX,hX,QJ tv l i hi];have ex:l.getD i zV=l[i]:=by rw[A29,A2f hi];rfl
   rw[ex];by_cases h0:i=0
   ·simp[h0,bL]
   ·simp[h0,bL]
  have hJ:=j1 BR (.inr rfl) t (X 0) ⟨#[91]⟩ a1 (a0 0) (by have:=V 0;omega);have a6:=j1 BR (.inr rfl) (X l.length) u ⟨#[93]⟩ a2 (by rw[<-N];simp) hl;clear hX a1 a2 N;refine Zd [] ?_
  (have z:=C;push_cast[z]<;>repeat' (first|refine Zs [(1,1),(4,4),(3,16)] hJ ?_|apply Za)<;>push_cast[z])<;>try omega
  refine Zl (λi=>i<=l.length) (λi=>⟨[(11,iD i),(10,iD l.length),(9,.slice (l.map A7) false),(0,.ref 1 0 0 4)],[(1,wkB BR 4 (X i).length ((X i).length:Nat)),(4,byB 4 (X i))],400⟩) (λi=>l.length-i) 0 Sq' ?_ λi hi=>?_
  ·apply Zr [(4,28)] rfl<;>push_cast [C]
  ·push_cast;refine Ad (λZ=>?_) (λZ=>?_)
   ·have M:i<l.length:=by simpa using Z
    have e1:=DU M;have hx:=ih _ (Ae (d:=zV) M);have O:=O i M;have aa:=V i;have ab:=V (i+1);have a3:=a0 i;have ac:(X i++bL (if i=0 then⟨#[]⟩ else⟨#[44]⟩)).length<=(X (i+1)).length:=by rw[<-O,A2a (bs:=tv _)];omega
    generalize l.getD i zV=x at*;have hB:=K6 i Om;have w1:IntKind.i64.wrap (↑i+1)=↑i+1:=A9 Om Om;have a4:=j1 BR (.inr rfl) (X i) _ (if i=0 then⟨#[]⟩ else⟨#[44]⟩) rfl (by simp[a3]) Om;generalize(if i=0 then(⟨#[]⟩:Baa) else⟨#[44]⟩)=sep at*;have a5:X i++bL sep≠[]:=by simp[a3]
    generalize X i++bL sep=Y at*;rcases hx with⟨f,h1,h2⟩|⟨h1,h2⟩
    ·have h3:=h2 Y (X (i+1)) O a5 Om
     (have z:=Za e1<|Za C w1;push_cast[z]<;>repeat' (first|refine Zc hB ?_|refine Zs [(1,1),(4,4),(3,880)] a4 ?_|refine Zc h1 ?_|refine Zt [(1,1),(4,892)] h3 ?_|apply Za)<;>push_cast[z])<;>try omega
     refine⟨i+1,M,Om,?_⟩;apply Zr [(4,924)] rfl<;>push_cast [C];all_goals rfl
    ·have h3:=h2 Y (X (i+1)) O a5 Om
     (have z:=Za e1<|Za C w1;push_cast[z]<;>repeat' (first|refine Zc hB ?_|refine Zs [(1,1),(4,4),(3,880)] a4 ?_|refine Zc h1 ?_|refine Zt [(1,1),(4,892)] h3 ?_|apply Za)<;>push_cast[z])<;>try omega
     refine⟨i+1,M,Om,?_⟩;apply Zr [(4,924)] rfl<;>push_cast [C];all_goals rfl
   ·have M:i=l.length:=by simp at Z;omega
    subst M
    (have z:=C;push_cast[z]<;>repeat' (first|refine Zs [(1,1),(4,4),(3,816)] a6 ?_|apply Za)<;>push_cast[z])<;>try omega
    apply Zr [(4,828)] rfl<;>push_cast;all_goals rfl
def memT(a c:Code)(t:Lua):Hp:=[(7,.loop [(2,.ptr [.ref 1 0 0 4] 0)] 23 .ready none [11,12] a c),(1,wkB BR 4 t.length (t.length:Nat)),(4,byB 4 t)]
def Y4{a c:Code}(o:List (Baa×GV))(a7:o.length<=1048576)(a0:∀x ∈ o,x.1.size<=1048576/\TQ x.2)(X:Nat->Lua)(a1:∀i,(X i).length<=1073741824)(a2:∀i,X i≠[])
  (M:∀i,i<o.length->X i++bL (if i=0 then⟨#[]⟩ else⟨#[44]⟩)++tvm (o.getD i zM)=X (i+1))
  (hY:∀(s:Baa) (x:GV) (t u:Lua),t++bL s++58::tv x=u->t≠[]->u.length<=1073741824->∀cs f,(cs=[.ptr (A7 x) 0]\/(cs=[]/\f=192))->WrT f cs x->DG prog 7 [sD s,.func (.func f) [] cs] (memT a c t) (bD true) (memT a c u)):
  A4 prog 272 [.yld 7,.ptr [.slice (o.map A8) false] 0] (memT a c (X 0)) (.tup []) (memT a c (X o.length)):=by
 have N:=Aw (f:=A8) Ap o;unfold memT at*;refine Zd [] ?_
 (have z:=N;push_cast[z]<;>repeat' apply Za)
 refine Zl (λi=>i<=o.length) (λi=>⟨[(7,iD i),(6,iD o.length),(5,.slice (o.map A8) false),(0,.yld 7)],[(7,.loop [(2,.ptr [.ref 1 0 0 4] 0)] 23 .ready none [11,12] a c),(1,wkB BR 4 (X i).length ((X i).length:Nat)),(4,byB 4 (X i))],400⟩) (λi=>o.length-i) 0 Sq' ?_ λi hi=>?_
 ·apply Zw<;>push_cast
 ·push_cast;refine Ad (λO=>?_) (λO=>?_)
  ·have C:i<o.length:=by simpa using O
   have V:=Bc C;obtain⟨a3,hx⟩:=a0 _ (Ae (d:=zM) C);have M:=M i C;have a4:=a1 (i+1);have a5:=a2 i;generalize o.getD i zM=x at*;obtain⟨k,x⟩:=x;have Y:=W9 k a3;simp only at*;have Z:=K6 i Om;have w1:IntKind.i64.wrap (↑i+1)=↑i+1:=A9 Om Om;generalize(if i=0 then(⟨#[]⟩:Baa) else⟨#[44]⟩)=sep at*;have a8:sep.size+(Dk k).size<=1073741824:=by
    have h:=congrArg List.length M;simp only[tvm,A2a,A2l] at h;have h1:(bL sep).length=sep.size:=rfl;have h2:(F4 k).length=(Dk k).size:=rfl;omega
   have a6:X i++bL (sep++Dk k)++58::tv x=X (i+1):=by
    rw[<-M];simp[bL,tvm,F4,A3Y,A45]
   have hy:=hY (sep++Dk k) x (X i) (X (i+1)) a6 a5 a4;rcases hx with⟨f,h1,h2⟩|⟨h1,h2⟩
   ·have U:=hy _ f (.inl rfl) h2
    (have z:=Za V<|Za N<|Za w1 @Aj;push_cast[z]<;>repeat' (first|refine Zc Z ?_|refine Zc (Y ..) ?_|refine Zc h1 ?_|exact Zo|with_reducible apply Za|(with_reducible show A5 _ _ _ _ _ _ _ _;refine A5.yield 7 (C6 [(7,7),(1,1),(4,4)]) rfl ?_ (by(try push_cast[z]);exact U ..) ?_ Gda ?_ ?_ ?_ ?_;(· push_cast[z]);(· push_cast[z]<;>(with_unfolding_all exact Ag _));(· push_cast[z]<;>(with_unfolding_all exact Ag _));(· push_cast[z]<;>(with_unfolding_all exact Ag _));(· push_cast[z]<;>(with_unfolding_all exact Ag _)))|fail)<;>push_cast[z])
    all_goals first|omega|(show _<=_;omega)|skip
    refine⟨i+1,C,Om,?_⟩;apply Zr [(4,940)] rfl<;>push_cast;all_goals rfl
   ·have U:=hy _ _ (.inr ⟨rfl,rfl⟩) h2
    (have z:=Za V<|Za N<|Za w1 @Aj;push_cast[z]<;>repeat' (first|refine Zc Z ?_|refine Zc (Y ..) ?_|refine Zc h1 ?_|exact Zo|with_reducible apply Za|(with_reducible show A5 _ _ _ _ _ _ _ _;refine A5.yield 7 (C6 [(7,7),(1,1),(4,4)]) rfl ?_ (by(try push_cast[z]);exact U ..) ?_ Gda ?_ ?_ ?_ ?_;(· push_cast[z]);(· push_cast[z]<;>(with_unfolding_all exact Ag _));(· push_cast[z]<;>(with_unfolding_all exact Ag _));(· push_cast[z]<;>(with_unfolding_all exact Ag _));(· push_cast[z]<;>(with_unfolding_all exact Ag _)))|fail)<;>push_cast[z])
    all_goals first|omega|(show _<=_;omega)|skip
    refine⟨i+1,C,Om,?_⟩;apply Zr [(4,940)] rfl<;>push_cast;all_goals rfl
  ·have C:i=o.length:=by simp at O;omega
   subst C
   (have z:=N;push_cast[z]<;>repeat' apply Za)
   apply Zw<;>push_cast
def c_own5(M:D)(ha:M=TF\/M=BR)(v:GV)(hs:Sm v)(N:v.kind=6)(O:∀x ∈ v.obj,TQ x.2)(t u:Lua)(C:t++tv v=u)(hl:u.length<=1073741824):
  A4 prog 190 [.ref 1 0 0 4,.ptr (A7 v) 0] [(1,wkB M 4 t.length (t.length:Nat)),(4,byB 4 t)] (.tup []) [(1,wkB BR 4 u.length (u.length:Nat)),(4,byB 4 u)]:=by
 have e:tv v=123::(ED (v.obj.map tvm)++[125]):=by rw[J6,N];rfl
 rw[e] at C;have a6:=hs.obj_le;have a7:∀x ∈ v.obj,x.1.size<=1048576/\TQ x.2:=λx U=>⟨hs.key x U,O x U⟩
 rw[A3,N];clear e N hs O;generalize v.obj=o at*;have V:=Aw (f:=A8) Ap o;have ac:t.length+1+(ED (o.map tvm)).length+1=u.length:=by rw[<-C];simp;omega
 obtain⟨X,hX⟩:∃X:Nat->Lua,∀i,X i=t++123::ED ((o.take i).map tvm):=⟨_,λ_=>rfl⟩
 have Z:∀i,(X i).length+1<=u.length:=λi=>by
  have:=Um tvm o i;rw[hX];simp only[A2a,A2l];omega
 have a1:∀i,X i≠[]:=λi=>by rw[hX];simp
 have a2:t++bL ⟨#[123]⟩=X 0:=by rw[hX];simp[ED,bL]
 have a3:X o.length++bL ⟨#[125]⟩=u:=by rw[hX,<-C,A2I];simp[bL]
 have a8:∀i,i<o.length->X i++bL (if i=0 then⟨#[]⟩ else⟨#[44]⟩)++tvm (o.getD i zM)=X (i+1):=λi hi=>by
  rw[hX,hX,QJ tvm o i hi];have ex:o.getD i zM=o[i]:=by rw[A29,A2f hi];rfl
  rw[ex];by_cases h0:i=0
  ·simp[h0,bL]
  ·simp[h0,bL]
 have hJ:=j1 M ha t (X 0) ⟨#[123]⟩ a2 (a1 0) (by have:=Z 0;omega);have a9:=j1 BR (.inr rfl) (X o.length) u ⟨#[125]⟩ a3 (by rw[<-C];simp) hl;clear hX a2 a3 C;have hM:=RX o;refine A4.of_awpW func190 rfl ntmps190 Kq' Sq' (congrArg Array.toList results190) ?_;refine Bh.seqV [8] mixed Kq' ?_
 (push_cast<;>repeat' apply Za<;>push_cast)
 refine Bh.seqV [] mixed Kq' ?_
 (have z:=V;push_cast[z]<;>repeat' (first|refine Zs [(1,1),(4,4),(3,24)] hJ ?_|apply Za)<;>push_cast[z])
 refine Bh.seq ?_;refine Bh.seqV [] mixed Kq' ?_
 (have z:=V;push_cast[z]<;>repeat' (first|refine Zc hM ?_|apply Za)<;>push_cast[z])
 refine Bh.block ?_;refine Bh.range (y:=7) (C6 [(7,64),(1,1),(4,36)]) (env:=[(2,.ptr [.ref 1 0 0 4] 0)]) (ds:=[.yld 7,.ptr [.slice (o.map A8) false] 0]) rfl (Y4 o a6 a7 X (λi=>by have:=Z i;omega) a1 a8 ?hY) rfl rfl ?_ ?_ ?_ ?_ ?_ ?_ ?_
 case hY=>
  intro s x t u C a4 hl cs f aa hw;have ab:(t++bL s++bL ⟨#[58]⟩).length<=1073741824:=by
   have:=congrArg List.length C;simp only[A2a,A2l] at this|-;show _+_+1<=_;omega
  have a5:=j2 t _ s ⟨#[58]⟩ rfl a4 ab;have h3:=hw (t++bL s++bL ⟨#[58]⟩) u (by rw[<-C];simp[bL]) (by simp[a4]) hl;generalize t++bL s++bL ⟨#[58]⟩=Y at*;unfold memT;rcases aa with rfl|⟨rfl,rfl⟩
  ·refine DG.of_awp Dq' rfl Dq' ?_;simp only[A3n,A3o,A33,A3q,A2h,A2d];refine Zy ?_
   (have z:=@DS.eq_1;push_cast[z]<;>repeat' apply Za<;>push_cast[z])
   refine Zy ?_
   (have z:=@DR.eq_1;push_cast[z]<;>repeat' (first|refine Zs [(1,1),(4,4),(3,40)] a5 ?_|refine Zt [(1,1),(4,52)] h3 ?_|apply Za)<;>push_cast[z])
   apply Zr [(4,76)] rfl<;>push_cast;all_goals rfl
  ·refine DG.of_awp Dq' rfl Dq' ?_;simp only[A3n,A3o,A33,A3q,A2h,A2d];refine Zy ?_
   (have z:=@DS.eq_1;push_cast[z]<;>repeat' apply Za)
   refine Zy ?_
   (have z:=@DR.eq_1;push_cast[z]<;>repeat' (first|refine Zs [(1,1),(4,4),(3,40)] a5 ?_|refine Zt [(1,1),(4,52)] h3 ?_|apply Za)<;>push_cast[z])
   apply Zr [(4,76)] rfl<;>push_cast;all_goals rfl
 ·push_cast
 ·push_cast
 ·push_cast[Cs]
 ·push_cast[Bq]
 ·push_cast
 ·push_cast
 ·push_cast;refine Bh.vc [] mixed Kq' ?_
  (have z:=trivial;push_cast<;>repeat' (first|refine Zs [(1,1),(4,76),(3,88)] a9 ?_|apply Za)<;>push_cast)
  apply Zr [(4,100)] rfl<;>push_cast;all_goals rfl
inductive Pl:GV->Prop where
 |mk (v:GV) (hk:v.kind=1\/v.kind=3\/v.kind=4\/v.kind=5\/v.kind=6) (hl:∀x ∈ v.list,Pl x) (ho:∀p ∈ v.obj,Pl p.2):Pl v
def c_own6(v:GV)(C:v.kind=6):A0 prog 113 [.agg (A7 v)] (.func (.func 190) [] [.ptr (A7 v) 0]):=by
 rw[A3,C];refine Zf [0] ?_
 (push_cast<;>repeat' apply Za)
def Sy(v:GV)(hs:Sm v)(hp:Pl v):TQ v:=by
 obtain⟨_,C,hl,N⟩:=hp;rcases C with C|C|C|C|C
 ·exact A0A v C
 ·exact ownT_int v hs C
 ·exact A0z v hs C
 ·exact A0B v hs C λx M=>Sy x (hs.list x M) (hl x M)
 ·exact .inl ⟨_,c_own6 v C,λt u O _ U=>c_own5 BR (.inr rfl) v hs C (λx M=>Sy x.2 (hs.obj x M) (N x M)) t u O U⟩
termination_by SizeOf.sizeOf v
decreasing_by
 ·exact GV.list_lt M
 ·exact GV.obj_lt M
abbrev wrQ:List (Nat×Value):=[(0,.bool true)]
abbrev wrV:List Value:=[.bool true,.pointer none,.slice none 0 0,.int .i64 0]
abbrev wrE:List D:=[bD true,TF,.gref 1 0,iD 0]
def wr_built:prog.built tWr wrQ=some wrV.toArray:=Kq'
def wr_on:∀v ∈ wrV,v.oneCell'=true:=Dq'
def wr_s01(v:Value)(i:Nat)(h:i<wrV.length):s01 v (.slice none 0 0) (nd wrE i) (nv wrV i):=by
 have C:i=0\/i=1\/i=2\/i=3:=by
  have:wrV.length=4:=rfl;omega
 rcases C with rfl|rfl|rfl|rfl
 ·exact⟨rfl,trivial⟩
 ·exact⟨rfl,trivial⟩
 ·exact⟨rfl,none,0,rfl⟩
 ·exact⟨rfl,by simp only[okP,DJ,DK];omega⟩
def wr_ok:∀x ∈ [Value.bool false,.pointer none,.slice none 0 0,.int .i64 0],okP x:=by
 intro x C;simp only[A2s,A3b,or_false] at C;rcases C with rfl|rfl|rfl|rfl<;>first|trivial|(simp only[okP,DJ,DK];omega)
def c_Text(v:GV)(hs:Sm v)(hp:Pl v)(C:v.kind=6)(hm:Bb v 1=0)(hl:(tv v).length<=1073741824):A0 prog 72 [.agg (A7 v)] (.tup [.val (.string ⟨(tv v).toArray⟩),iD 0]):=by
 have M:=XX v hs;rw[hm] at M;have hO:=c_own6 v C;have Z:=c_own5 TF (.inl rfl) v hs C (by cases hp with|mk _ _ _ ho=>exact λx hx=>Sy x.2 (hs.obj x hx) (ho x hx)) [] (tv v) Sq' hl;have a0:tv v≠[]:=by rw[J6,C];simp
 have hS:=c_String (tv v) ((tv v).length:Nat) a0 hl;unfold wkH at hS;obtain⟨N,O,U,Y⟩:=Az v;generalize tv v=u at*;generalize A7 v=V at*;simp only[A2r,Int.ofNat_zero,Int.natCast_zero] at Z;refine A0.of_awpW func72 rfl ntmps72 Kq' Sq' (congrArg Array.toList results72) ?_;refine Bh.seqV [] mixed Kq' ?_
 (have z:=Za N<|Za O<|Za U Y;push_cast[z]<;>repeat' (first|refine Zc M ?_|apply Za))
 refine Bh.seqV [] mixed Kq' ?_
 (have z:=Za N<|Za O<|Za U Y;push_cast[z]<;>repeat' (first|refine Zc M ?_|apply Za)<;>push_cast[z])
 refine Bh.seq (AWp.w (AWp.regX Kq' ?_));refine A5.of_doesX (VG (λ_=>rfl) wr_built) (.inl rfl) ?_;refine A5.of_doesX (Na ti193 wr_ok) (.inl rfl) ?_;refine A5.of_doesX (VA (Te:=5) (es':=wrE) (us:=wrV) ti193 rfl (by push_cast;rfl) (by push_cast;rfl) rfl rfl (by push_cast) wr_on wr_s01) (.inl rfl) ?_;refine A5.go ?_;push_cast;refine Bh.vc [] mixed Kq' ?_
 (have z:=Za N<|Za O<|Za U Y;push_cast[z]<;>repeat' (first|refine Zc hO ?_|refine Zt [(1,72),(4,80)] Z ?_|refine Zs [(1,72),(4,108)] hS ?_|apply Za)<;>push_cast[z])
abbrev rdN(s:Baa)(i m:Nat):Blk:=.rows [[sD s,iD i,.mref m]] 3
def Wc(s:Baa):A4 prog 197 [sD s] [] (.ref 0 0 0 3) [(0,rdN s 0 2),(2,.map (E0 0 17) 17)]:=by
 refine Zd [] ?_
 (push_cast<;>repeat' apply Za)
 refine Zl (λi=>i<=10) (λi=>⟨[(4,.val (.int .u8 (48+i))),(3,.ref 32 0 0 3)],[(32,rdN s 0 56),(56,.map (E0 32 (7+i)) (7+i))],400⟩) (λi=>10-i) 0 Sq' ?_ λi hi=>?_
 ·simp only[E0,Ml,A3i,A3V,A2m,A2E];apply Zw<;>push_cast
 ·obtain⟨j,hj⟩:∃j,j=i+1:=⟨_,rfl⟩
  have C:i=0\/i=1\/i=2\/i=3\/i=4\/i=5\/i=6\/i=7\/i=8\/i=9\/i=10:=Om;rcases C with rfl|rfl|rfl|rfl|rfl|rfl|rfl|rfl|rfl|rfl|rfl
  case inr.inr.inr.inr.inr.inr.inr.inr.inr.inr=>
   simp only[E0,Ml,A3i,List.take_nil,A2m,A2E]
   (push_cast<;>repeat' apply Za)
   apply Zr [(0,32),(2,56)] rfl<;>push_cast
  all_goals
   simp only[E0,Ml,A3i,A3V,A2m,A2E]
   (push_cast<;>repeat' apply Za)
   refine⟨j,Om,Om,?_⟩;subst hj;simp only[E0,Ml,A3i,A3V,A2m,A2E,Nat.reduceAdd];apply Zw<;>push_cast;all_goals first|decide|rfl|skip
def PC(b n:Nat)(r:Nat->Nat):((E0 b n).map λp=>(p.1,p.2.1,Bu r p.2.2))=E0 (r b) n:=by
 simp only[E0,A30];refine A3s λp _=>?_;simp[Function.comp,Bu,Co]
def Xx(r:Nat->Nat):(Dg.map λp=>(p.1,p.2.1,Bu r p.2.2))=E0 (r 1) 17:=by
 unfold Dg;exact PC 1 17 r
abbrev psH(V:List D)(n:Int):Hp:=[(3,.rows [V] 6),(5,.rows [[iD n]] 1),(7,.rows [[iD 0]] 1)]
def r_parN(V:List D)(n:Int)(C:An V=true)(M:V.length=6):TN prog 196 [.ref 3 0 0 6,.ref 5 0 0 1,.ref 7 0 0 1] none (psH V n) (psH V n):=by
 refine TN.of_awp (t:=6) func196 rfl ntmps196 Kq' Sq' Dq' (congrArg Array.toList results196) ?_;change AWp _ _ _ _ ⟨(6,.val .nilIface)::BB 0 [.ref 3 0 0 6,.ref 5 0 0 1,.ref 7 0 0 1],psH V n,4⟩;refine Zy ?_;push_cast;refine A5.nilNil (by push_cast) (by push_cast) (λa w h1 h2=>?_) ?_
 ·have u:=run_underlying (P:=prog) underlying20;simp only[execOp,h1,h2,eqGuard,binOp];unfold Op.equal Op.maxDepth Op.equalIn;simp[u]
 ·(have z:=Za C M;push_cast[z]<;>repeat' apply Za)
  apply Zw<;>push_cast [C,M]
def c_Parse(n:Nat)(x:Lua)(v:GV)(Z:EA n x v)(hn:n<=63)(hz:x.length<=1048576):
  A4 prog 122 [.val (.string ⟨x.toArray⟩)] [] (.tup [.agg (A7 v),iD x.length,iD 0]) []:=by
 obtain⟨s,hs⟩:∃s:Baa,s=⟨x.toArray⟩:=⟨_,rfl⟩
 have hb:bl s=x:=by rw[hs];simp[bl]
 have O:s.size=x.length:=by rw[<-Eb,hb]
 have hA:At s 0 x []:=⟨by rw[hb];simp,by simp[O]⟩
 have h1:=Z.2 s 0 [] 1 hA (by intro c hc;cases hc) Om Om;rw[A3T,<-O] at h1;have h2:=c_skipE s;have hN:=Wc s;obtain⟨C,M,N,Y⟩:=Az v;rw[<-hs,<-O];generalize A7 v=V at*;have U:V.drop 6=[]:=A2v Om;have b0:decide ((s.size:Int)<s.size)=false:=Df';refine A4.of_awp_catch [_] func122 rfl ntmps122 Kq' Sq' Dq' (congrArg Array.toList results122) (C6 [(3,8),(5,16),(7,24)]) [.ref 3 0 0 6,.ref 5 0 0 1,.ref 7 0 0 1]
  [(2,.ref 3 0 0 6),(3,.ref 5 0 0 1),(4,.ref 7 0 0 1),(0,sD s)] [(3,.rows [[iD 0,bD false,iD 0,sD bea,.slice [] true,.slice [] true]] 6),(5,.rows [[iD 0]] 1),(7,.rows [[iD 0]] 1)] (.tup [.agg V,iD s.size,iD 0]) [] ?_
 refine Zy ?_
 (push_cast<;>repeat' (first|with_reducible apply Za))
 refine(show Wu _ _ _ _ _ _ _ _ _ _ _ _ _ _ _ _ _ from⟨?_,?_,?_,?_,?_,?_,?_,?_,?_,?_⟩)
 ·push_cast
 ·push_cast
 ·push_cast
 ·push_cast[Cs]
 ·push_cast
 ·push_cast[Bq]
 ·push_cast
 ·push_cast
 ·refine Zy ?_
  (have z:=Za C<|Za M<|Za N<|Za Y<|Za U<|Za b0<|Za @Xx @PC;push_cast[z]<;>repeat' (first|refine Zs [] hN ?_|refine Zs [(1,16),(3,18)] h1 ?_|refine Zs [(1,16),(3,18)] h2 ?_|exact Zo|apply Za)<;>push_cast[z])
  refine(show S3 _ _ _ _ _ _ _ _ from⟨C6 [],[.ref 3 0 0 6,.ref 5 0 0 1,.ref 7 0 0 1],_,_,r_parN V s.size C M,?_,?_,?_,?_,?_,.tup [.agg V,iD s.size,iD 0],?_,?_⟩)
  ·push_cast
  ·push_cast
  ·push_cast[Bq,C,U,A2y]
  ·push_cast[C]
  ·push_cast[C]
  ·push_cast[C,M,N,Y,U,A2y]
  ·push_cast[C];apply Zw<;>push_cast [C,M,N]
 ·push_cast;apply Zw<;>push_cast [C,M,N]
def TK(x:Lua)(v:GV):Prop:=A0 prog 72 [.agg (A7 v)] (.tup [.val (.string ⟨x.toArray⟩),iD 0])
def c_Exact(n:Nat)(x:Lua)(v:GV)(C:EA n x v)(hn:n<=63)(M:x.length<=1048576)(ht:TK x v):
  A0 prog 75 [.val (.string ⟨x.toArray⟩)] (.tup [.agg (A7 v),iD 0]):=by
 have hP:=c_Parse n x v C hn M;unfold TK at ht;obtain⟨N,O,U,Y⟩:=Az v;generalize A7 v=V at*;have Z:V.drop 6=[]:=A2v Om;generalize(⟨x.toArray⟩:Baa)=s at*;refine Zf [] ?_
 (have z:=Za N<|Za O<|Za U<|Za Y Z;push_cast[z]<;>repeat' (first|refine Zs [] hP ?_|refine Zc (ht ..) ?_|apply Za)<;>push_cast[z])
theorem odd_O(o:List (Baa×GV)):Ff (vO o)=false:=by simp[Ff,vO,GV.kind,GV.b,GV.n,GV.s,GV.list,GV.obj,MZ]
theorem odd_L(l:List GV):Ff (vL l)=false:=by simp[Ff,vL,GV.kind,GV.b,GV.n,GV.s,GV.obj,MZ]
def odd_I(n:Int):Ff (vI n)=false:=by simp[Ff,vI,GV.kind,GV.b,GV.s,GV.list,GV.obj,MZ]
def odd_T(s:Baa):Ff (vT s)=false:=by simp[Ff,vT,GV.kind,GV.b,GV.n,GV.s,GV.list,GV.obj]
def may_N(d:Nat)(h:d<=64):Bb BU d=0:=by
 rw[DW,QV];simp[BU,GV.kind];omega
def may_I(n:Int)(d:Nat)(h:d<=64):Bb (vI n) d=0:=by
 rw[DW,odd_I];simp[vI,GV.kind];omega
def YS(s:Baa)(d:Nat)(h:d<=64)(hs:AK s=true):Bb (vT s) d=0:=by
 rw[DW,odd_T];simp[vT,GV.kind,GV.s,hs];omega
def may_L(l:List GV)(d:Nat)(h:d<=64)(hl:∀v ∈ l,Bb v (d+1)=0):Bb (vL l) d=0:=by
 have:∀m:List GV,(∀v ∈ m,Bb v (d+1)=0)->CR m (d+1)=0:=by
  intro m
  induction m with
  |nil=>intro _;simp[CR]
  |cons v m C=>grind [CR]
 grind [DW,odd_L,vL,GV.kind,GV.list]
def V5(k l:Baa)(v u:GV)(d:Nat)(h:d<=64)(C:AK k=true)(hl:AK l=true)(M:ltS k l=true)(N:Bb v (d+1)=0)(O:Bb u (d+1)=0):Bb (vO [(k,v),(l,u)]) d=0:=by
 grind [DW,odd_O,vO,GV.kind,GV.obj,Ey]
def Xz:AK tNx=true/\AK tK=true/\AK Jc=true/\AK Ja=true/\AK tBy=true/\AK CZ=true/\AK Dc=true/\AK Fp=true/\AK Fo=true/\AK tId=true/\AK DL=true/\AK Ed=true/\AK Jb=true:=by
 refine⟨?_,?_,?_,?_,?_,?_,?_,?_,?_,?_,?_,?_,?_⟩<;>kernel_rfl
def may_args(m:SMu)(d:Nat)(h:d<=60):Bb m.args d=0:=by
 obtain⟨M,N,V,Y,O,C,U,Z,q9,a0,a1,a2,a3⟩:=Xz;cases m with
 |inc n=>exact V5 _ _ _ _ _ Om O C Dq' (may_I _ _ Om) (YS _ _ Om M)
 |put=>exact V5 _ _ _ _ _ Om C U Dq' (YS _ _ Om N) (may_N _ Om)
def may_o(m:SMu)(d:Nat)(h:d<=59):Bb m.o d=0:=by
 obtain⟨U,V,C,M,Y,Z,q7,N,O,a0,a1,a2,a3⟩:=Xz;refine V5 _ _ _ _ _ Om N O Dq' (may_args m _ Om) ?_;cases m with
 |inc n=>exact YS _ _ Om C
 |put=>exact YS _ _ Om M
def may_puO(c:Nat)(l:List SN):Bb (puO c l) 1=0:=by
 obtain⟨V,Y,Z,q4,q5,q6,q7,q8,q9,C,M,N,O⟩:=Xz;refine V5 _ _ _ _ _ Om N O Dq' (may_I _ _ Om) (may_L _ _ Om λv U=>?_);obtain⟨x,hx,rfl⟩:=A2p.1 U;exact V5 _ _ _ _ _ Om C M Dq' (may_I _ _ Om) (may_o x.2 _ Om)
def pl_I(n:Int):Pl (vI n):=.mk _ (.inr (.inl rfl)) (λ_ h=>by cases h) (λ_ h=>by cases h)
def pl_N:Pl BU:=.mk _ (.inl rfl) (λ_ h=>by cases h) (λ_ h=>by cases h)
def pl_T(s:Baa):Pl (vT s):=.mk _ (.inr (.inr (.inl rfl))) (λ_ h=>by cases h) (λ_ h=>by cases h)
def pl_L(l:List GV)(h:∀v ∈ l,Pl v):Pl (vL l):=.mk _ (.inr (.inr (.inr (.inl rfl)))) h (λ_ h=>by cases h)
def pl_O{a b:Baa×GV}(C:Pl a.2)(hb:Pl b.2):Pl (vO [a,b]):=.mk _ (.inr (.inr (.inr (.inr rfl)))) (λ_ h=>by cases h) λp hp=>by
 rcases A2s.1 hp with rfl|hp
 ·exact C
 ·cases A2b.1 hp;exact hb
def pl_o(m:SMu):Pl m.o:=by
 refine pl_O ?_ (pl_T _);cases m with
 |inc n=>exact pl_O (pl_I n) (pl_T _)
 |put=>exact pl_O (pl_T _) pl_N
def pl_puO(c:Nat)(l:List SN):Pl (puO c l):=pl_O (pl_I _) (pl_L _ λv C=>by
 obtain⟨x,M,rfl⟩:=A2p.1 C;exact pl_O (pl_I _) (pl_o x.2))
def Js(k x l y:Lua):(Xp k x l y).length=k.length+x.length+l.length+y.length+9:=by
 simp[Xp,txt];omega
def len_args(m:SMu)(hm:m.ok):(tv m.args).length<=40:=by
 obtain⟨M,N,V,Y,O,C,U,Z,q9,a0,a1,a2,a3⟩:=F3;cases m with
 |inc n=>
  show(tv (vO [(tBy,vI n),(CZ,vT tNx)])).length<=_;rw[ZU _ _ _ _ _ _ O C,tv_I,tv_T _ _ M,Js];have:=Lib.itoa_length_le n hm.1 hm.2;simp[txt];omega
 |put=>
  show(tv (vO [(CZ,vT tK),(Dc,BU)])).length<=_;rw[ZU _ _ _ _ _ _ C U,tv_N,tv_T _ _ N,Js];simp[txt]
def len_o(m:SMu)(hm:m.ok):(tv m.o).length<=64:=by
 obtain⟨U,V,C,M,Y,Z,q7,N,O,a0,a1,a2,a3⟩:=F3;have:=len_args m hm;show(tv (vO [(Fp,m.args),(Fo,vT m.name)])).length<=_;rw[ZU _ _ _ _ _ _ N O,Js];cases m with
 |inc n=>rw [show tv (vT (SMu.inc n).name)=_ from tv_T _ _ C];simp[txt];omega
 |put=>rw [show tv (vT SMu.put.name)=_ from tv_T _ _ M];simp[txt];omega
def len_snO(x:SN)(h1:Ex x.1)(h2:x.2.ok):(tv (snO x)).length<=105:=by
 obtain⟨N,O,U,V,Y,Z,q7,q8,q9,C,M,a0,a1⟩:=F3;have h3:=len_o x.2 h2;have:=Lib.itoa_length_le x.1 Om (by have:=h1.2;omega);show(tv (vO [(tId,vI x.1),(DL,x.2.o)])).length<=_;rw[ZU _ _ _ _ _ _ C M,tv_I,Js];simp;omega
def A0W(l:List (Lua))(b:Nat)(h:∀x ∈ l,x.length<=b):(Gl l).length<=l.length*(b+1)+1:=by
 induction l with
 |nil=>simp [Gl]
 |cons x l C=>
  have h1:=h x Sq';have h2:=C λy M=>h y (by simp[M]);simp[Gl,A2l,A2a,A2M];omega
def len_lstT(l:List (Lua))(b:Nat)(h:∀x ∈ l,x.length<=b):(Qy l).length<=l.length*(b+1)+2:=by
 cases l with
 |nil=>simp [Qy]
 |cons x l=>
  have h1:=h x Sq';have h2:=A0W l b (by simp_all);simp[Qy,A2l,A2a,A2M];omega
def SS(c:Nat)(l:List SN)(h:KU c l):(tv (puO c l)).length<=8000:=by
 obtain⟨V,Y,Z,q4,q5,q6,q7,q8,q9,a0,a1,M,N⟩:=F3;have h1:=Lib.itoa_length_le c Om (by have:=h.1.2;omega);have h2:=len_lstT ((l.map snO).map tv) 105 λx O=>by
  obtain⟨v,U,rfl⟩:=A2p.1 O;obtain⟨y,C,rfl⟩:=A2p.1 U;exact len_snO y (h.2.2 y C).1 (h.2.2 y C).2
 have h3:=h.2.1;show(tv (vO [(Ed,vI c),(Jb,vL (l.map snO))])).length<=_;rw[ZU _ _ _ _ _ _ M N,tv_I,tv_L,Js];grind
def U5(c:Nat)(l:List SN)(h:KU c l):TK (tv (puO c l)) (puO c l):=
 c_Text (puO c l) (sm_puO c l h) (pl_puO c l) rfl (may_puO c l) (by have:=SS c l h;omega)
def Ms(r:Int)(n:Nat):Int:=r.fdiv (2^min n IntKind.u32.bits)
def crOdd(r:Int):Bool:=bits .and .u32 r 1==1
def crStep(r:Int):Int:=if crOdd r then bits .xor .u32 (Ms r 1) 3988292384 else Ms r 1
def crI:Nat->Int->Int
 |0,r=>r
 |n+1,r=>crStep (crI n r)
def JM{n:Int}(h:0<=n)(k:n<4294967296):IntKind.u32.wrap n=n:=by
 simp[IntKind.wrap,IntKind.bits,IntKind.signed];omega
def GU:An l=true↔∀x ∈ l,x.pure=true:=by
 induction l with
 |nil=>simp [An]
 |cons a l C=>simp [An,C]
def Xf(h:An l=true)(n:Nat):An (l.take n)=true:=GU.2 λx C=>GU.1 h x (A34 C)
def Xg(h:An l=true)(n:Nat):An (l.drop n)=true:=GU.2 λx C=>GU.1 h x (A32 C)
def c_fill(C:Nat)(hl:C<16)(T:List D)(M:T.length=16)(hp:An T=true):A4 prog 388 [.val (.int .u32 C),.ref 1 0 0 16] [(1,.rows [T] 16)] (.tup []) [(1,.rows [AI T C [.val (.int .u32 (crI 4 C))]] 16)]:=by
 refine Zd [] ?_
 (have z:=Za M hp;push_cast[z]<;>repeat' apply Za)
 refine Zl (λi=>i<=4) (λi=>⟨[(6,iD i),(3,.val (.int .u32 (crI i C))),(0,.val (.int .u32 C)),(1,.ref 1 0 0 16)],[(1,.rows [T] 16)],400⟩) (λi=>4-i) 0 Sq' ?_ λi hi=>?_
 ·apply Zw<;>push_cast [hp];all_goals first|rfl|skip
 ·have O:IntKind.i64.wrap (↑i+1)=↑i+1:=A9 Om Om;have V:(bits .and .u32 (crI i C) 1==1)=crOdd (crI i C):=rfl;have N:(crI i C).fdiv (2^min 1 IntKind.u32.bits)=Ms (crI i C) 1:=rfl;have hs:crI (i+1) C=if crOdd (crI i C) then bits .xor .u32 (Ms (crI i C) 1) 3988292384 else Ms (crI i C) 1:=rfl
  by_cases Y:i<4
  ·have b0:decide ((i:Int)<4)=true:=Dt'
   (have z:=Za M<|Za hp<|Za O<|Za b0<|Za V N;push_cast[z]<;>repeat' (first|apply Zi<;>intro _|apply Za)<;>push_cast[z])<;>try omega
   all_goals
    refine⟨i+1,Y,Om,?_⟩;rw[hs];apply Zw<;>push_cast [hp,N];all_goals first|(rw[if_pos (by assumption)])|(rw[if_neg (by simp;assumption)])|skip
  ·obtain rfl:i=4:=Om
   (have z:=Za M hp;push_cast[z]<;>repeat' apply Za)<;>try omega
   rw[Nat.mul_one];have Z:An (AI T C [.val (.int .u32 (crI 4 C))])=true:=by
    have h1:=Ej (T.take C) ([D.val (.int .u32 (crI 4 C))]++T.drop (C+1));unfold AI;rw[A3x,h1,Ej,Xf hp,Xg hp];rfl
   generalize AI T C [.val (.int .u32 (crI 4 C))]=U at*;apply Zw<;>push_cast [Z]
def crL:List Int:=(List.range 16).map λi:Nat=>crI 4 (i:Int)
def S6(n:Int):D:=.val (.int .u32 n)
def Yu(l:List Int):(l.map S6).all AV=true:=A2q.2 λx C=>by
 obtain⟨y,_,rfl⟩:=A2p.1 C;rfl
def crT(i:Nat):List D:=(crL.take i).map S6++List.replicate (16-i) (S6 0)
def Ly(i:Nat):An (crT i)=true:=GU.2 λx C=>by
 rcases A2Y.1 C with h|h
 ·obtain⟨y,_,rfl⟩:=A2p.1 h;rfl
 ·rw[List.eq_of_mem_replicate h];rfl
def Q8(i:Nat)(h:i<=16):(crT i).length=16:=by
 simp[crT,crL];omega
def crT_set(i:Nat)(h:i<16):AI (crT i) i [.val (.int .u32 (crI 4 i))]=crT (i+1):=by
 have C:(crL.take i).length=i:=by simp[crL];omega
 have M:(crT i).take i=(crL.take i).map S6:=by unfold crT;rw[A3P (by rw[A2k,C])]
 have N:(crT i).drop (i+1)=List.replicate (16-(i+1)) (S6 0):=by
  unfold crT;rw[<-A3N,List.drop_left' (by rw[A2k,C]),List.drop_replicate,Nat.sub_sub]
 have O:crL.take (i+1)=crL.take i++[crI 4 i]:=by
  rw[A3j];congr 1;have:crL[i]? =some (crI 4 (i:Int)):=by simp only[crL,A2X,List.getElem?_range h];rfl
  rw[this];rfl
 unfold AI;rw[A3x,M,N];unfold crT;rw[O,A2F,A2c];rfl
def c_steps:A0 prog 351 [] (.agg (crL.map S6)):=by
 refine Zf [] ?_
 (push_cast<;>repeat' apply Za)
 refine Zl (λi=>i<=16) (λi=>⟨[(5,.val (.int .u32 i)),(2,.func (.func 388) [] [.ref 8 0 0 16]),(0,.ref 0 0 0 16),(1,.ref 8 0 0 16)],[(8,.rows [crT i] 16),(0,.rows [crT 0] 16)],400⟩) (λi=>16-i) 0 Sq' ?_ λi hi=>?_
 ·have Y:crT 0=[.val (.int .u32 0),.val (.int .u32 0),.val (.int .u32 0),.val (.int .u32 0),.val (.int .u32 0),.val (.int .u32 0),.val (.int .u32 0),.val (.int .u32 0),.val (.int .u32 0),.val (.int .u32 0),.val (.int .u32 0),.val (.int .u32 0),.val (.int .u32 0),.val (.int .u32 0),.val (.int .u32 0),.val (.int .u32 0)]:=rfl;rw[Y];apply Zw<;>push_cast
 ·have C:=Ly i;have N:=Ly 0;have M:=Q8 i hi;have U:=Q8 0 Om;by_cases O:i<16
  ·have hF:=c_fill i O (crT i) M C;rw[crT_set i O] at hF;have V:=Ly (i+1);have b0:decide ((i:Int)<16)=true:=Dt';have w1:IntKind.u32.wrap (↑i+1)=↑i+1:=JM Om Om
   (have z:=Za C<|Za N<|Za M<|Za U<|Za b0<|Za w1 V;push_cast[z]<;>repeat' (first|refine Zt [(1,8)] hF ?_|apply Za)<;>push_cast[z])
   refine⟨i+1,O,Om,?_⟩;apply Zw<;>push_cast [V,N]
  ·obtain rfl:i=16:=Om;have a0:crT 16=crL.map S6:=by
    unfold crT;rw[A2g (by simp[crL])];simp
   have b0:decide (((16:Nat):Int)<16)=false:=Dq';generalize crT 0=Z at*;rw[a0] at C M|-;have aT:=Yu crL;generalize crL.map S6=T at*;have d1:T.take 16=T:=A2g Om;have d2:T.drop 16=[]:=A2v Om;have d3:Z.drop 16=[]:=A2v Om
   (have z:=Za C<|Za N<|Za M<|Za U<|Za b0<|Za d1<|Za d2<|Za d3 aT;push_cast[z]<;>repeat' apply Za)
def c_each(l:Lua):A0 prog 352 [.slice (l.map byD) false] (.func (.func 389) [] [.ptr [.slice (l.map byD) false] 0]):=by
 have C:=B9 l;refine Zf [0] ?_
 (have z:=C;push_cast[z]<;>repeat' apply Za)
def crD:List D:=crL.map S6
def crD_16:crT 16=crD:=by
 unfold crT crD;rw[A2g (by simp[crL])];simp
def VM:An crD=true:=by rw[<-crD_16];exact Ly 16
def XS:crD.length=16:=by simp[crD,crL]
def crD_all:crD.all AV=true:=Yu crL
def c_steps':A0 prog 351 [] (.agg crD):=c_steps
def VL(r:Int):Int:=crL.getD (bits .and .u32 r 15).toNat 0
def HX(r:Int):Int:=bits .xor .u32 (Ms r 4) (VL r)
def Tg(r:Int)(x:UInt8):Int:=HX (HX (bits .xor .u32 r (x.toNat:Int)))
def LA(l:Lua)(r:Int):Int:=l.foldl Tg r
def and15(r:Int):0<=bits .and .u32 r 15/\bits .and .u32 r 15<16:=by
 have h:(BitVec.ofInt 32 r&&&BitVec.ofInt 32 15).toNat<16:=by
  rw[BitVec.toNat_and];exact Nat.lt_of_le_of_lt Nat.and_le_right Dq'
 unfold bits;show 0<=IntKind.u32.wrap ((BitVec.ofInt 32 r&&&BitVec.ofInt 32 15).toNat:Int)/\IntKind.u32.wrap ((BitVec.ofInt 32 r&&&BitVec.ofInt 32 15).toNat:Int)<16;rw[JM Om Om];omega
def nd_crL(r:Int):nd crD (bits .and .u32 r 15).toNat=.val (.int .u32 (VL r)):=by
 have h:=and15 r;have hl:(bits .and .u32 r 15).toNat<crL.length:=by simp[crL];omega
 simp only[nd,crD,VL,A29,A2X,A2f hl];rfl
def crH(a c:Code)(r:Int):Hp:=[(7,.loop [(5,.ref 3 0 0 16),(6,.ref 1 0 0 1)] 34 .ready none [13] a c),(1,.rows [[.val (.int .u32 r)]] 1),(3,.rows [crD] 16)]
def c_each1{a c:Code}(l:Lua)(hl:l.length<=1048576)(r:Int)(hY:∀(x:UInt8) (r:Int),DG prog 7 [.val (.int .u8 (x.toNat:Int))] (crH a c r) (bD true) (crH a c (Tg r x))):
  A4 prog 389 [.yld 7,.ptr [.slice (l.map byD) false] 0] (crH a c r) (.tup []) (crH a c (LA l r)):=by
 have N:=B9 l;have U:(l.map byD).length=l.length:=A2k byD;have C:=VM;unfold crH at*;generalize crD=T at*;refine Zd [] ?_
 (have z:=Za N<|Za U C;push_cast[z]<;>repeat' apply Za)
 refine Zl (λi=>i<=l.length) (λi=>⟨[(7,iD i),(6,iD l.length),(5,.slice (l.map byD) false),(0,.yld 7)],[(7,.loop [(5,.ref 3 0 0 16),(6,.ref 1 0 0 1)] 34 .ready none [13] a c),(1,.rows [[.val (.int .u32 (LA (l.take i) r))]] 1),(3,.rows [T] 16)],400⟩) (λi=>l.length-i) 0 Sq' ?_ λi hi=>?_
 ·apply Zw<;>push_cast [N,C];all_goals first|rfl|skip
 ·push_cast;refine Ad (λO=>?_) (λO=>?_)
  ·have M:i<l.length:=by simpa using O
   have V:=M9 M;have Z:LA (l.take (i+1)) r=Tg (LA (l.take i) r) (l.getD i 0):=by
    unfold LA;rw[A2J M,A41,A29,A2f M];rfl
   have Y:=hY (l.getD i 0) (LA (l.take i) r);rw[<-Z] at Y;have w1:IntKind.i64.wrap (↑i+1)=↑i+1:=A9 Om Om;rw[Qp] at V;generalize(l.getD i 0).toNat=x at*;generalize a0:LA (l.take (i+1)) r=r2 at*;generalize LA (l.take i) r=r1 at*
   (have z:=Za V<|Za N<|Za w1<|Za C U;push_cast[z]<;>repeat' (first|with_reducible apply Za|(with_reducible show A5 _ _ _ _ _ _ _ _;refine A5.yield 7 (C6 [(7,7),(1,1),(3,3)]) rfl ?_ (by(try push_cast[z]);exact Y ..) ?_ Gda ?_ ?_ ?_ ?_;(· push_cast[z]);(· push_cast[z]<;>(with_unfolding_all exact Ag _));(· push_cast[z]<;>(with_unfolding_all exact Ag _));(· push_cast[z]<;>(with_unfolding_all exact Ag _));(· push_cast[z]<;>(with_unfolding_all exact Ag _)))|fail)<;>push_cast[z])<;>try omega
   refine⟨i+1,M,Om,?_⟩;rw[a0];apply Zw<;>push_cast [N,C]
  ·have M:i=l.length:=by simp at O;omega
   subst M;rw[A2I]
   (have z:=Za N C;push_cast[z]<;>repeat' apply Za)
   apply Zw<;>push_cast [C]
def Lz(l:Lua):Int:=bits .xor .u32 4294967295 (LA l (bits .xor .u32 4294967295 0))
def c_More0(l:Lua)(hl:l.length<=1048576):A0 prog 273 [.val (.int .u32 0),.slice (l.map byD) false] (.val (.int .u32 (Lz l))):=by
 have M:=B9 l;have O:=c_steps';have hE:=c_each l;have C:=VM;have N:=XS;have U:=crD_all;have V:crD.take 16=crD:=A2g Om;have Y:crD.drop 16=[]:=A2v Om;refine A0.of_awpW func273 rfl ntmps273 Kq' Sq' (congrArg Array.toList results273) ?_;refine Bh.seqV [] mixed Kq' ?_
 (push_cast<;>repeat' apply Za<;>push_cast)
 refine Bh.seqV [] mixed Kq' ?_
 (have z:=Za C<|Za N<|Za U<|Za V Y;push_cast[z]<;>repeat' (first|refine Zc O ?_|apply Za)<;>push_cast[z])
 refine Bh.seqV [] mixed Kq' ?_
 (have z:=Za C N;push_cast[z]<;>repeat' apply Za<;>push_cast[z])
 refine Bh.seq ?_;refine Bh.seqV [] mixed Kq' ?_
 (have z:=Za C M;push_cast[z]<;>repeat' (first|refine Zc hE ?_|apply Za)<;>push_cast[z])
 refine Bh.block ?_;refine Bh.range (y:=7) (C6 [(7,80),(1,48),(3,16)]) (env:=[(5,.ref 3 0 0 16),(6,.ref 1 0 0 1)]) (ds:=[.yld 7,.ptr [.slice (l.map byD) false] 0]) rfl (c_each1 l hl (bits .xor .u32 4294967295 0) ?hY) rfl rfl ?_ ?_ ?_ ?_ ?_ ?_ ?_
 case hY=>
  intro x r;unfold crH;refine DG.of_awp Dq' rfl Dq' ?_;simp only[A3n,A3o,A33,A3q,A2h,A2d];refine Zy ?_
  (have z:=@DS.eq_1;push_cast[z]<;>repeat' apply Za<;>push_cast[z])
  refine Zy ?_;have Z:IntKind.u32.wrap (x.toNat:Int)=x.toNat:=by have:=x.toNat_lt;exact JM Om Om
  have er:Tg r x=HX (HX (bits .xor .u32 r (x.toNat:Int))):=rfl;rw[er];generalize a0:bits .xor .u32 r (x.toNat:Int)=r1 at*;have n1:=nd_crL r1;have a1:=and15 r1;have n2:=nd_crL (HX r1);have a2:=and15 (HX r1);have e1:bits .xor .u32 (r1.fdiv (2^min 4 IntKind.u32.bits)) (VL r1)=HX r1:=rfl;have e2:bits .xor .u32 ((HX r1).fdiv (2^min 4 IntKind.u32.bits)) (VL (HX r1))=HX (HX r1):=rfl;have m1:(bits .and .u32 r1 15).toNat<16:=Om;have m2:(bits .and .u32 (HX r1) 15).toNat<16:=Om
  (have z:=Za @DR.eq_1<|Za C<|Za N<|Za Z<|Za a0<|Za n1<|Za n2<|Za e1<|Za e2 @Nat.mul_one;push_cast[z]<;>repeat' (first|exact Zo|apply Za)<;>push_cast[z])<;>try omega
  apply Zw<;>push_cast [C]
 ·push_cast[M]
 ·push_cast[M]
 ·push_cast[Cs,M]
 ·push_cast[Bq,C];rfl
 ·push_cast[C]
 ·push_cast[C]
 ·push_cast[C];refine Bh.vc [] mixed Kq' ?_
  (have z:=C;push_cast[z]<;>repeat' apply Za<;>push_cast[z])<;>try omega
  rfl
def c_Sum(l:Lua)(hl:l.length<=1048576):A0 prog 194 [.slice (l.map byD) false] (.val (.int .u32 (Lz l))):=by
 have C:=B9 l;have h:=c_More0 l hl;refine Zf [] ?_
 (have z:=C;push_cast[z]<;>repeat' (first|refine Zc h ?_|apply Za)<;>push_cast[z])
end Go.Ab
