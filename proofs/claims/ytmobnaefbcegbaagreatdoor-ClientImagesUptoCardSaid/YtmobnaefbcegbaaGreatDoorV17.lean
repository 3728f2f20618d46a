/- The program is walked: part 18 of 18. -/
import Derived.Test.YtmobnaefbcegbaaGreatDoorV16
import Derived.ChangeArms
import Derived.DataReads
import Derived.Test.YtmobnaefbcegbaaGreatDoorRows
import Derived.Lib.LaidTab
import Derived.OpenShut
import Derived.ProofKit
import Derived.ReadAgain
import Derived.Below
import Derived.Deep.DeepHandedRow
import Derived.Deep.DeepLaidRun
set_option maxHeartbeats 4000000
set_option maxRecDepth 20000
set_option linter.all false
namespace Go.Ab
open Go.Proofs Go.Proofs.Tryz
variable{L:List GN}{a c k:Nat}{B:Lga}
noncomputable def Cq(B:Lga)(L:List GN):Nat->Lga
 |0=>B
 |i+1=>(DN (L.getD i zN).m (Cq B L i)).2
def runL_ok{m:GM}{L:Lga}(hm:SmU m)(C:VOk L):VOk (DN m L).2/\(DN m L).2.length<=L.length+64:=by
 unfold DN;by_cases hc:Ec Ao m=0
 ·rw[if_neg (by simpa using hc)];obtain⟨a,b⟩:=KX m L hm C;refine⟨a,?_⟩;have:AY m<=64:=by
   unfold Ec at hc;rcases A2z 64 (AY m) with h|h
   ·rw[if_pos h] at hc;cases hc
   ·exact h
  simp only;omega
 ·rw[if_pos hc];exact⟨C,by simp only;omega⟩
def Ny{B:Lga}(C:VOk B)(hb:B.length<=64){L:List GN}(h:LI L):∀i,i<=L.length->VOk (Cq B L i)/\(Cq B L i).length<=64*i+64
 |0,_=>⟨C,by simpa[Cq] using hb⟩
 |i+1,hi=>by
  obtain⟨a,b⟩:=Ny C hb h i Om;obtain⟨c,d⟩:=runL_ok (h.sm _ (Ae (d:=zN) (by omega:i<L.length))) a;exact⟨c,by show(DN (L.getD i zN).m (Cq B L i)).2.length<=_;omega⟩
noncomputable def Np(B:Lga)(L:List GN)(i:Nat):LLa:=(List.range i).map λj=>[.val (.int .i64 (DN (L.getD j zN).m (Cq B L j)).1)]
def codN_s(B:Lga)(L:List GN)(i:Nat):Np B L (i+1)=Np B L i++[[.val (.int .i64 (DN (L.getD i zN).m (Cq B L i)).1)]]:=by simp[Np,List.range_succ]
def K3(B:Lga)(L:List GN)(i:Nat):Aa (Np B L i)=true:=by
 induction i with
 |zero=>rfl
 |succ i C=>rw [codN_s];exact Dz rfl C
def UG(B:Lga)(hB:VOk B)(hb:B.length<=64)(L:List GN)(h:LI L):A0 prog 63 [AX B,.slice (L.map AN) false] (.tup [AX (Cq B L L.length),.slice (Np B L L.length) false]):=by
 have a3:=h.len;have C:=Bk L;have M:=Ac B;refine Zf [56] ?_
 (have z:=Za C M;push_cast[z]<;>repeat' apply Za)
 refine Zl (λi=>i<=L.length) (λi=>⟨[(7,iD i),(6,.gref 56 i),(0,AX (Cq B L i)),(1,.slice (L.map AN) false)],[(56,.grow (Np B L i) 1)],29⟩) (λi=>L.length-i) 0 (A2w _) ?_ λi hi=>?_
 ·refine Aq.trans (s':=⟨[(6,.slice [] true),(7,iD 0),(0,AX B),(1,.slice (L.map AN) false)],[],28⟩) ?_ (Aq.trans (Aq.nilgrowE 1) ?_)
  ·apply Zw<;>push_cast [C,M]
  ·have d0:Cq B L 0=B:=rfl;have c0:Np B L 0=[]:=rfl;apply Zw<;>push_cast [C,M,d0,c0]
 ·obtain⟨hv,hvl⟩:=Ny hB hb h i hi;have N:=Ac (Cq B L i);have O:=K3 B L i;have lC:(Np B L i).length=i:=by simp[Np]
  push_cast[C,N];refine Ad (λU=>?_) (λU=>?_)
  ·have V:i<L.length:=by simpa using U
   have e1:=SG V;have Y:=Ae (d:=zN) V;have w1:IntKind.i64.wrap ((i:Int)+1)=(i:Int)+1:=A9 Om Om;have hR:=r_Run hv Om (L.getD i zN).m (h.sm _ Y) (h.wt _ Y) (h.sz _ Y);have Z:(DN (L.getD i zN).m (Cq B L i)).2=Cq B L (i+1):=rfl;have hs:=codN_s B L i;rw[Z] at hR;have a0:=Ac (Cq B L (i+1));have a4:=K3 B L (i+1);generalize(DN (L.getD i zN).m (Cq B L i)).1=c at*;rw[Lw] at e1;have oX:=Ax (L.getD i zN).m;have lX:=AB (L.getD i zN).m;have tX:=BQ (L.getD i zN).m;have aX:=C4 (L.getD i zN).m;generalize L.getD i zN=x at*;generalize Ai x.m=X at*;generalize Cq B L i=D1 at*;generalize a1:Cq B L (i+1)=D2 at*;generalize Np B L i=C1 at*
   (have z:=Za C<|Za N<|Za a0<|Za O<|Za lC<|Za e1<|Za oX<|Za lX<|Za tX aX;push_cast[z]<;>repeat' (first|refine Zc hR ?_|apply Za)<;>push_cast[z])
   all_goals first|omega|(intro y hy;cases A2b.1 hy;rfl)|(intro y hy d Z;cases A2b.1 hy;cases A2b.1 Z;rfl)|skip
   refine⟨i+1,V,Om,?_⟩;rw[a1,hs];apply Zr [(56,210)] rfl<;>push_cast [C,a0,O,w1]
  ·have a2:i=L.length:=by simp at U;omega
   subst a2
   (have z:=Za N<|Za O lC;push_cast[z]<;>repeat' apply Za)
abbrev rfL(c k a n s:Int)(B:Lga)(L:List GN):List D:=[uD' c,uD' k,uD' a,uD' n,uD' s,AX B,.slice (L.map AN) false]
def r_Head25(c k a n s:Int)(B:Lga)(M:VOk B)(hb:B.length<=64)(L:List GN)(h:LI L):A0 prog 30 [.ptr (rfL c k a n s B L) 0] (AX (Cq B L L.length)):=by
 have N:=UG B M hb L h;have O:=Bk L;have U:=Ac B;have V:=Ac (Cq B L L.length);have Y:=K3 B L L.length;generalize Np B L L.length=C at*;generalize Cq B L L.length=Z at*;refine Zf [] ?_
 (have z:=Za O<|Za U<|Za V Y;push_cast[z]<;>repeat' (first|refine Zc N ?_|exact Zo|apply Za)<;>push_cast[z])
def A0w(c k a n s:Int)(B:Lga)(L:List GN):A0 prog 28 [.ptr (rfL c k a n s B L) 0] (imD c k a n B L):=by
 have C:=Bk L;have M:=Ac B;refine Zf [] ?_
 (have z:=Za C M;push_cast[z]<;>repeat' (first|exact Zo|apply Za))
def UE(c k a n:Int)(B:Lga)(L:List GN)(h:LI L):A0 prog 27 [imD c k a n B L,imD c k a n B L] (bD true):=by
 have C:=Kr B B;rw[KB] at C;have M:=RV L h.sm (by have:=h.len;omega);have N:=Bk L;have O:Aa (B.map A8)=true:=Ac B;have b1:∀x:Int,(x==x)=true:=λx=>Sq';simp only[imD] at*;generalize L.map AN=Y at*;generalize B.map A8=Z at*;refine Zf [] ?_
 (have z:=Za N<|Za O b1;push_cast[z]<;>repeat' (first|apply Zi<;>intro _|refine Zc C ?_|refine Zc M ?_|exact Zo|with_reducible apply Za)<;>push_cast[z])
def A1L(c k s:Nat)(hc:0<c)(B H q:D)(C:B.pure=true)(M:H.pure=true)(oq:q.pure=true):A0 prog 29 [.ptr [uD' c,uD' k,uD' s,B,H,q] 0] (uD' s):=by
 have N:=NA c hc (uD' k) (uD' s) B H q;refine Zk [] λH Hb=>?_
 (have z:=Za C<|Za M oq;push_cast[z]<;>repeat' (first|refine Zc N ?_|apply Za)<;>push_cast[z])
def A1Q(c k s:Nat)(hc:0<c)(B H q:D)(C:B.pure=true)(oq:q.pure=true)(M:H.pure=true)(h1:AV H=true):A0 prog 18 [.ptr [uD' c,uD' k,uD' s,B,H,q] 0] (.agg [H]):=by
 have N:=NA c hc (uD' k) (uD' s) B H q;refine Zk [] λH Hb=>?_
 (have z:=Za C<|Za oq<|Za M h1;push_cast[z]<;>repeat' (first|refine Zc N ?_|apply Za)<;>push_cast[z])
def W4(c k s a:Nat)(hc:0<c)(T H:GT)(B:Lga)(C:Dw T B)(M:VOk B)(hb:B.length<=64)(L:List GN)(h:LI L)(N:Dw H (Cq B L L.length))(hl:(Cq B L L.length).length<=100000)(O:a+L.length<4611686018427387904):
  A0 prog 7 [clP c k s a (Ah T) (Ah H) L,.ptr (rfL c k a ((a:Int)+L.length+1) s B L) 0] (bD true):=by
 have U:=Y8 c k s a hc T B C hb (Ah H) (A6 H) (Bg H) L h O;have V:=A0w c k a ((a:Int)+L.length+1) s B L;have hS:=UE c k a ((a:Int)+L.length+1) B L h;have oq:(D.ptr [uD' a,.slice (L.map AN) false] 0).pure=true:=by simp only[D.pure,An,Bk,A2L]
 have hV:=A1L c k s hc (Ah T) (Ah H) _ (A6 T) (A6 H) oq;have hP:=A1Q c k s hc (Ah T) (Ah H) _ (A6 T) oq (A6 H) (Bg H);have hQ:=r_Head25 c k a ((a:Int)+L.length+1) s B M hb L h;have hE:=c_has H _ N hl;have oL:=Bk L;have oB:Aa (B.map A8)=true:=Ac B;have oT:=A6 T;have o1:=Bg T;have oH:=A6 H;have o2:=Bg H;have oD:Aa ((Cq B L L.length).map A8)=true:=Ac (Cq B L L.length);simp only[AF,AX,clP,imD,rfL] at*;generalize(Cq B L L.length).map A8=DD at*;generalize Ah T=tb at*;generalize Ah H=th at*;generalize L.map AN=Y at*;generalize B.map A8=Z at*;refine Zk [] λH Hb=>?_
 (have z:=Za oL<|Za oB<|Za oT<|Za o1<|Za oH<|Za o2 oD;push_cast[z]<;>repeat' (first|refine Zc U ?_|refine Zc V ?_|refine Zc hS ?_|refine Zc hV ?_|refine Zc hP ?_|refine Zc hQ ?_|refine Zc hE ?_|exact Zo|apply Za)<;>push_cast[z])
def E1(f:Nat->Int):Nat->Int
 |0=>0
 |n+1=>if E1 f n≠0 then E1 f n else f n
def A4g(f:Nat->Int):∀n,∃J,J<=n/\(∀j,j<J->f j=0)/\(J<n->f J≠0/\E1 f n=f J)/\(J=n->E1 f n=0)
 |0=>⟨0,by simp[E1]⟩
 |n+1=>by
  obtain⟨J,h1,h2,C,M⟩:=A4g f n;simp only[E1];rcases A2z J n with h|h
  ·obtain⟨a,b⟩:=C h;rw[b,if_pos a];exact⟨J,Om,h2,λ_=>⟨a,rfl⟩,λe=>Om⟩
  ·obtain rfl:J=n:=Om;rw[M rfl,if_neg Sq'];by_cases e:f J=0
   ·exact⟨J+1,A2e _,λj N=>by rcases A2z j J with k|k;exact h2 j k;obtain rfl:j=J:= Om;exact e,λh=>Om,λ_=>e⟩
   ·exact⟨J,Om,h2,λ_=>⟨e,rfl⟩,λh=>Om⟩
noncomputable def bsC(B:Lga)(i:Nat):Int:=if Ce (B.getD i zM).1≠0\/0<i/\ltS (B.getD (i-1) zM).1 (B.getD i zM).1=false then 8 else Ao (B.getD i zM).2
def A4t(a n:Nat)(L:List GN):Bool:=decide (n=a+L.length+1)&&L.zipIdx.all λp=>decide (p.1.id=(a:Int)+1+p.2)
def A4j{n:Nat}(h:A4t a n L=true):n=a+L.length+1/\∀i,i<L.length->(L.getD i zN).id=(a:Int)+1+i:=by
 simp only[A4t,A2i,decide_eq_true_eq,A2q] at h;refine⟨h.1,λi hi=>?_⟩;have:=h.2 (L.getD i zN,i) (List.mem_zipIdx_iff_getElem?.2 (by simp[A29,A2f hi]));simpa using this
def A4r{n:Nat}(h:A4t a n L=false)(e:n=a+L.length+1):∃i,i<L.length/\(∀j,j<i->(L.getD j zN).id=(a:Int)+1+j)/\(L.getD i zN).id≠(a:Int)+1+i:=by
 have:∃i,i<L.length/\(L.getD i zN).id≠(a:Int)+1+i:=Classical.byContradiction λhn=>by
  have h2:A4t a n L=true:=by
   simp only[A4t,A2i,decide_eq_true_eq,A2q];refine⟨e,λp hp=>?_⟩;have hp:=List.mem_zipIdx_iff_getElem?.1 hp;obtain⟨hi,U⟩:=List.getElem?_eq_some_iff.1 hp;have:¬(L.getD p.2 zN).id≠(a:Int)+1+p.2:=λk=>hn ⟨p.2,hi,k⟩;simp only[A29,hp,A2P] at this;exact Classical.not_not.1 this
  rw[h] at h2;cases h2
 obtain⟨i,h1,h2⟩:=this
 induction i using Nat.strongRecOn with
 |_ i M=>
  by_cases C:∀j,j<i->(L.getD j zN).id=(a:Int)+1+j
  ·exact⟨i,h1,C,h2⟩
  ·obtain⟨j,C⟩:=Classical.not_forall.1 C;obtain⟨N,O⟩:=Classical.not_imp.1 C;exact M j N Om O
noncomputable def imC(c k a n:Nat)(B:Lga)(L:List GN):Int:=
 if c=0\/4611686018427387903<c\/4611686018427387903<k\/4611686018427387903<a\/n=0\/4611686018427387904<n then 2
 else if E1 (bsC B) B.length≠0 then E1 (bsC B) B.length
 else if A4t a n L=false then 14
 else E1 (λj=>Ec Ao (L.getD j zN).m) L.length
structure A4u(c k a n:Nat)(B:List GE)(L:List GN):Prop where
 c:c<18446744073709551616
 k:k<18446744073709551616
 a:a<18446744073709551616
 n:n<18446744073709551616
 bl:B.length<=60
 bs:∀e ∈ B,e.1.size<=1048576/\Sm e.2/\wtV e.2<=2097152
 id:∀x ∈ L,0<=x.id/\x.id<18446744073709551616
 ok:LI L
abbrev imL(c k a n:Int)(B:Lga)(L:List GN):List D:=[uD' c,uD' k,uD' a,uD' n,.slice (B.map A8) false,.slice (L.map AN) false]
def c_gapG{n:Nat}(h:A4u c k a n B L)(ha:a<=4611686018427387903)(hn:n<=4611686018427387904):A0 prog 51 [imD c k a n B L] (bD (!A4t a n L)):=by
 have a0:=h.ok.len;have C:=Bk L;have M:=Ac B;have w2:IntKind.u64.wrap (L.length:Int)=(L.length:Int):=TX Om Om;by_cases e1:n<=a
 ·have N:A4t a n L=false:=by simp only[A4t,Bool.and_eq_false_iff,decide_eq_false_iff_not];exact .inl Om
  rw[N];have c1:decide ((n:Int)<=a)=true:=Dt';refine Zf [] ?_
  (have z:=Za C<|Za M c1;push_cast[z]<;>repeat' (first|apply Zi<;>intro _|exact Zo|with_reducible apply Za)<;>push_cast[z])
 have c1:decide ((n:Int)<=a)=false:=Df';have w1:IntKind.u64.wrap ((n:Int)-a)=(n:Int)-a:=TX Om Om;have w3:IntKind.u64.wrap ((n:Int)-a-1)=(n:Int)-a-1:=TX Om Om;by_cases e2:n=a+L.length+1
 ·have b1:((n:Int)-a-1 !=(L.length:Int))=false:=So';have w4:IntKind.u64.wrap ((a:Int)+1)=(a:Int)+1:=TX Om Om;have wi:∀i,i<L.length->IntKind.u64.wrap (i:Int)=(i:Int)/\IntKind.u64.wrap ((a:Int)+1+i)=(a:Int)+1+i/\IntKind.i64.wrap ((i:Int)+1)=(i:Int)+1:=λi hi=>⟨TX Om Om,TX Om Om,A9 Om Om⟩
  have key:∀J,J<=L.length->(∀j,j<J->(L.getD j zN).id=(a:Int)+1+j)->(J<L.length->(L.getD J zN).id≠(a:Int)+1+J)->A0 prog 51 [imD c k a n B L] (bD (decide (J<L.length))):=by
   intro J hJ h1 h2;refine Zf [] ?_
   (have z:=Za C<|Za M<|Za c1<|Za w1<|Za w2<|Za w3 b1;push_cast[z]<;>repeat' (first|apply Zi<;>intro _|exact Zo|with_reducible apply Za)<;>push_cast[z])<;>try omega
   refine Zl (λi=>i<=J) (λi=>⟨[(26,iD i),(25,iD L.length),(24,.slice (L.map AN) false),(1,.ref 0 0 0 6)],[(0,.rows [imL c k a n B L] 6)],200⟩) (λi=>L.length-i) 0 (A2w _) ?_ λi hi=>?_
   ·apply Zw<;>push_cast [C,M]
   ·push_cast[C,M];refine Ad (λU=>?_) (λU=>?_)
    ·have O:i<L.length:=by simpa using U
     have V:=SG O;obtain⟨v1,v2,Y⟩:=wi i O;rw[Lw] at V;have oX:=Ax (L.getD i zN).m;have lX:=AB (L.getD i zN).m;have tX:=BQ (L.getD i zN).m;have aX:=C4 (L.getD i zN).m;have f1:=h1 i;have f2:i=J->(L.getD i zN).id≠(a:Int)+1+i:=λe=>by subst e;exact h2 O
     generalize Ai (L.getD i zN).m=X at*;generalize(L.getD i zN).id=y at*;rcases A2z i J with hij|hij
     ·have b2:(y !=(a:Int)+1+i)=false:=by simp[f1 hij]
      (have z:=Za C<|Za M<|Za V<|Za oX<|Za lX<|Za tX<|Za aX<|Za w4<|Za v1<|Za v2<|Za Y b2;push_cast[z]<;>repeat' (first|apply Zi<;>intro _|exact Zo|with_reducible apply Za)<;>push_cast[z])<;>try omega
      refine⟨i+1,Om,Om,?_⟩;apply Zw<;>push_cast [C,M,Y]
     ·have b2:(y !=(a:Int)+1+i)=true:=by simpa using f2 Om
      have Z:decide (J<L.length)=true:=Dt'
      (have z:=Za C<|Za M<|Za V<|Za oX<|Za lX<|Za tX<|Za aX<|Za w4<|Za v1<|Za v2<|Za Y<|Za b2 Z;push_cast[z]<;>repeat' (first|apply Zi<;>intro _|exact Zo|with_reducible apply Za)<;>push_cast[z])<;>try omega
    ·have O:i=L.length:=by simp at U;omega
     have Z:decide (J<L.length)=false:=Df'
     (have z:=Z;push_cast[z]<;>repeat' (first|apply Zi<;>intro _|exact Zo|with_reducible apply Za)<;>push_cast[z])
  cases N:A4t a n L with
  |true=>
   have:=key L.length (A2e _) (A4j N).2 (λh=>Om);rwa[Df'] at this
  |false=>
   obtain⟨i,h1,h2,h3⟩:=A4r N e2;have:=key i Om h2 (λ_=>h3);rwa[decide_eq_true h1] at this
 ·have N:A4t a n L=false:=by simp only[A4t,Bool.and_eq_false_iff,decide_eq_false_iff_not];exact .inl e2
  rw[N];have b1:((n:Int)-a-1 !=(L.length:Int))=true:=So';refine Zf [] ?_
  (have z:=Za C<|Za M<|Za c1<|Za w1<|Za w2<|Za w3 b1;push_cast[z]<;>repeat' (first|apply Zi<;>intro _|exact Zo|with_reducible apply Za)<;>push_cast[z])<;>try omega
def c_mayE{n:Nat}(h:c=0\/4611686018427387903<c\/4611686018427387903<k\/4611686018427387903<a\/n=0\/4611686018427387904<n):A0 prog 20 [imD c k a n B L] (iD 2):=by
 have C:=Bk L;have M:=Ac B;obtain⟨x1,b1⟩:∃x,((c:Int)==0)=x:=⟨_,rfl⟩
 obtain⟨x2,b2⟩:∃x,decide ((4611686018427387903:Int)<c)=x:=⟨_,rfl⟩
 obtain⟨x3,b3⟩:∃x,decide ((4611686018427387903:Int)<k)=x:=⟨_,rfl⟩
 obtain⟨x4,b4⟩:∃x,decide ((4611686018427387903:Int)<a)=x:=⟨_,rfl⟩
 obtain⟨x5,b5⟩:∃x,((n:Int)==0)=x:=⟨_,rfl⟩
 obtain⟨x6,b6⟩:∃x,decide ((4611686018427387904:Int)<n)=x:=⟨_,rfl⟩
 have N:(x1 ||x2 ||x3 ||x4 ||x5 ||x6)=true:=by subst b1 b2 b3 b4 b5 b6;simp;omega
 clear h;refine Zf [] ?_;cases x1<;>cases x2<;>cases x3<;>cases x4<;>first|(cases x5<;>cases x6<;>first|(cases N;done)|skip)|skip
 all_goals
  (have z:=Za C<|Za M<|Za b1<|Za b2<|Za b3<|Za b4<|Za b5 b6;push_cast[z]<;>repeat' (first|apply Zi<;>intro _|exact Zo|with_reducible apply Za)<;>push_cast[z])
def c_mayG{n:Nat}(h:A4u c k a n B L):A0 prog 20 [imD c k a n B L] (iD (imC c k a n B L)):=by
 unfold imC;by_cases h1:c=0\/4611686018427387903<c\/4611686018427387903<k\/4611686018427387903<a\/n=0\/4611686018427387904<n
 ·rw[if_pos h1];exact c_mayE h1
 rw[if_neg h1];have a3:=h.ok.len;have a4:=h.bl;have C:=Bk L;have N:=Ac B;have b1:((c:Int)==0)=false:=So';have b2:decide ((4611686018427387903:Int)<c)=false:=Df';have b3:decide ((4611686018427387903:Int)<k)=false:=Df';have b4:decide ((4611686018427387903:Int)<a)=false:=Df';have b5:((n:Int)==0)=false:=So';have b6:decide ((4611686018427387904:Int)<n)=false:=Df';have Z:=c_gapG h Om Om;have wi:∀i,i<1000->IntKind.i64.wrap ((i:Nat)+1:Int)=(i:Int)+1:=λi hi=>A9 Om Om;obtain⟨J,hJ,h2,h3,h4⟩:=A4g (bsC B) B.length;generalize a0:(if E1 (bsC B) B.length≠0 then E1 (bsC B) B.length else _)=x;have a1:J<B.length->x=bsC B J:=λe=>by obtain⟨e1,e2⟩:=h3 e;rw[<-a0,e2,if_pos e1]
 have U:J=B.length->x=if A4t a n L=false then 14 else E1 (λj=>Ec Ao (L.getD j zN).m) L.length:=λe=>by rw[<-a0,h4 e,if_neg Sq']
 clear a0 h4;refine Zf [] ?_
 (have z:=Za C<|Za N<|Za b1<|Za b2<|Za b3<|Za b4<|Za b5 b6;push_cast[z]<;>repeat' (first|apply Zi<;>intro _|exact Zo|with_reducible apply Za)<;>push_cast[z])<;>try omega
 refine Zl (λi=>i<=J) (λi=>⟨[(38,iD i),(37,iD B.length),(36,.slice (B.map A8) false),(1,.ref 0 0 0 6)],[(0,.rows [imL c k a n B L] 6)],400⟩) (λi=>B.length-i) 0 (A2w _) ?_ λi hi=>?_
 ·apply Zw<;>push_cast [C,N]
 ·push_cast[C,N];refine Ad (λV=>?_) (λV=>?_)
  ·have O:i<B.length:=by simpa using V
   have Y:=Bc O;have w1:=wi i Om;have hK:=My (B.getD i zM).1;obtain⟨s1,s2,s3⟩:=h.bs _ (Ae (d:=zM) O);have hF:=HG (B.getD i zM).2 s2 s3;have hb:bsC B i=if Ce (B.getD i zM).1≠0\/0<i/\ltS (B.getD (i-1) zM).1 (B.getD i zM).1=false then 8 else Ao (B.getD i zM).2:=rfl
   have u1:=h2 i;have u2:i=J->bsC B i≠0/\x=bsC B i:=λe=>by subst e;exact⟨(h3 O).1,a1 O⟩
   rw[Aj] at Y;have oX:=Bn (B.getD i zM).2;have lX:=AH (B.getD i zM).2;have tX:=GG (B.getD i zM).2;have aX:=Lv (B.getD i zM).2;generalize A7 (B.getD i zM).2=X at*;generalize Ao (B.getD i zM).2=fv at*;generalize Ce (B.getD i zM).1=kv at*;generalize bsC B i=bv at*;clear h2 h3 Z a1 U;obtain⟨xK,bK⟩:∃x,(kv !=0)=x:=⟨_,rfl⟩
   obtain⟨xF,bF⟩:∃x,(fv !=0)=x:=⟨_,rfl⟩
   have hk:kv≠0↔xK=true:=by rw[<-bK];simp
   have hf:fv≠0↔xF=true:=by rw[<-bF];simp
   simp only[hk] at hb;rcases A2K i with rfl|hp
   ·have w1:IntKind.i64.wrap 1=1:=Dq';cases xK<;>cases xF;all_goals
     simp at hb hf hk
     (have z:=Za C<|Za N<|Za Y<|Za oX<|Za lX<|Za tX<|Za aX<|Za bK bF;push_cast[z]<;>repeat' (first|apply Zi<;>intro _|refine Zc hK ?_|refine Zc hF ?_|exact Zo|with_reducible apply Za)<;>push_cast[z])<;>try omega
     all_goals
      refine⟨1,Om,Om,?_⟩;apply Zw<;>push_cast [C,N,w1]
   ·have e4:=Bc (l:=B) (i:=i-1) Om;rw[Aj] at e4;have c7:decide ((0:Int)<i)=true:=Dt';have w5:IntKind.i64.wrap ((i:Int)-1)=((i-1:Nat):Int):=by rw[show(i:Int)-1=((i-1:Nat):Int) by omega];exact A9 Om Om
    obtain⟨xL,z4⟩:∃x,ltS (B.getD (i-1) zM).1 (B.getD i zM).1=x:=⟨_,rfl⟩
    rw[z4] at hb;generalize(B.getD (i-1) zM)=y at*;generalize(B.getD i zM).1=kk at*;cases xK<;>cases xF<;>cases xL;all_goals
     simp[hp] at hb hf hk
     (have z:=Za C<|Za N<|Za Y<|Za e4<|Za oX<|Za lX<|Za tX<|Za aX<|Za w5<|Za c7<|Za z4<|Za bK bF;push_cast[z]<;>repeat' (first|apply Zi<;>intro _|refine Zc hK ?_|refine Zc hF ?_|exact Zo|with_reducible apply Za)<;>push_cast[z])<;>try omega
     all_goals
      refine⟨i+1,Om,Om,?_⟩;apply Zw<;>push_cast [C,N,w1]
  ·have O:i=B.length:=by simp at V;omega
   obtain rfl:i=J:=Om;have U:=U O;clear a1 h3 h2;cases hg:A4t a n L with
   |false=>
    rw[hg] at Z U;rw[if_pos rfl] at U
    (have z:=Za C N;push_cast[z]<;>repeat' (first|apply Zi<;>intro _|refine Zc Z ?_|exact Zo|with_reducible apply Za)<;>push_cast[z])<;>try omega
   |true=>
    rw[hg] at Z U;rw[if_neg Dq'] at U;obtain⟨M,hM,m2,m3,m4⟩:=A4g (λj=>Ec Ao (L.getD j zN).m) L.length
    (have z:=Za C N;push_cast[z]<;>repeat' (first|apply Zi<;>intro _|refine Zc Z ?_|exact Zo|with_reducible apply Za)<;>push_cast[z])<;>try omega
    refine Zl (λi=>i<=M) (λi=>⟨[(75,iD i),(74,iD L.length),(73,.slice (L.map AN) false),(1,.ref 0 0 0 6)],[(0,.rows [imL c k a n B L] 6)],800⟩) (λi=>L.length-i) 0 (A2w _) ?_ λi hi=>?_
    ·apply Zw<;>push_cast [C,N]
    ·push_cast[C,N];refine Ad (λV=>?_) (λV=>?_)
     ·have O:i<L.length:=by simpa using V
      have Y:=SG O;have w1:=wi i Om;have a2:=Ae (d:=zN) O;have hU:=Qj HG (L.getD i zN).m (h.ok.sm _ a2) (by have:=h.ok.wt _ a2;omega) (h.ok.sz _ a2);have u1:=m2 i;have u2:i=M->Ec Ao (L.getD i zN).m≠0/\x=Ec Ao (L.getD i zN).m:=λe=>by subst e;exact⟨(m3 O).1,U.trans (m3 O).2⟩
      rw[Lw] at Y;have oX:=Ax (L.getD i zN).m;have lX:=AB (L.getD i zN).m;have tX:=BQ (L.getD i zN).m;have aX:=C4 (L.getD i zN).m;generalize Ai (L.getD i zN).m=X at*;generalize Ec Ao (L.getD i zN).m=mv at*;clear m2 m3 m4;rcases A2z i M with hij|hij
      ·rw[u1 hij] at hU
       (have z:=Za C<|Za N<|Za Y<|Za oX<|Za lX<|Za tX aX;push_cast[z]<;>repeat' (first|apply Zi<;>intro _|refine Zc hU ?_|exact Zo|with_reducible apply Za)<;>push_cast[z])<;>try omega
       refine⟨i+1,Om,Om,?_⟩;apply Zw<;>push_cast [C,N,w1]
      ·obtain⟨v1,v2⟩:=u2 Om;have bM:(mv !=0)=true:=by simpa using v1
       (have z:=Za C<|Za N<|Za Y<|Za oX<|Za lX<|Za tX<|Za aX bM;push_cast[z]<;>repeat' (first|apply Zi<;>intro _|refine Zc hU ?_|exact Zo|with_reducible apply Za)<;>push_cast[z])<;>try omega
     ·have O:i=L.length:=by simp at V;omega
      have:=m4 Om
      (have z:=Za C N;push_cast[z]<;>repeat' (first|apply Zi<;>intro _|exact Zo|with_reducible apply Za)<;>push_cast[z])<;>try omega
def c_ofG{n:Nat}(h:A4u c k a n B L)(ha:a<=4611686018427387903)(a0:n≠0)(hn:n<=4611686018427387904)(U:A4t a n L=true):A4 prog 21 [uD' a,uD' n,.slice (L.map AN) false] [] (.tup [.ref 0 0 0 2,iD 0]) [(0,.rows [[uD' a,.slice (L.map AN) false]] 2)]:=by
 obtain⟨g1,V⟩:=A4j U;have a1:=h.ok.len;have C:=Bk L;have c1:decide ((4611686018427387903:Int)<a)=false:=Df';have c2:decide ((4611686018427387904:Int)<n)=false:=Df';have b1:((n:Int)==0)=false:=So';have w0:IntKind.u64.wrap ((a:Int)+1)=(a:Int)+1:=TX Om Om;have hE:=A4s L h.ok;refine Zd [] ?_
 (have z:=Za C<|Za c1<|Za c2<|Za b1 w0;push_cast[z]<;>repeat' (first|apply Zi<;>intro _|exact Zo|with_reducible apply Za)<;>push_cast[z])<;>try omega
 refine Zl (λi=>i<=L.length) (λi=>⟨[(25,iD i),(24,iD L.length),(23,.slice (L.map AN) false),(8,uD' ((a:Int)+1+i)),(0,uD' a),(1,uD' n),(2,.slice (L.map AN) false)],[],100⟩) (λi=>L.length-i) 0 (A2w _) ?_ λi hi=>?_
 ·apply Zw<;>push_cast [w0,C];all_goals first|omega|skip
 ·push_cast[C];refine Ad (λN=>?_) (λN=>?_)
  ·have M:i<L.length:=by simpa using N
   have O:=SG M;have Y:IntKind.i64.wrap ((i:Int)+1)=(i:Int)+1:=A9 Om Om;have Z:IntKind.u64.wrap ((a:Int)+1+i+1)=(a:Int)+1+(i+1):=by rw[show(a:Int)+1+i+1=(a:Int)+1+(i+1) by omega];exact TX Om Om
   rw[Lw,V i M] at O;have b2:((a:Int)+1+i !=(a:Int)+1+i)=false:=Sq';have oX:=Ax (L.getD i zN).m;have lX:=AB (L.getD i zN).m;have tX:=BQ (L.getD i zN).m;have aX:=C4 (L.getD i zN).m;generalize Ai (L.getD i zN).m=X at*
   (have z:=Za C<|Za O<|Za oX<|Za lX<|Za tX<|Za aX<|Za b2 Z;push_cast[z]<;>repeat' (first|apply Zi<;>intro _|exact Zo|with_reducible apply Za)<;>push_cast[z])<;>try omega
   refine⟨i+1,Om,Om,?_⟩;apply Zw<;>push_cast [C,Y]
  ·have M:i=L.length:=by simp at N;omega
   subst M;have b2:((a:Int)+1+L.length !=(n:Int))=false:=So'
   (have z:=Za C b2;push_cast[z]<;>repeat' (first|apply Zi<;>intro _|refine Zc hE ?_|exact Zo|with_reducible apply Za)<;>push_cast[z])<;>try omega
   apply Zr [(0,264)] rfl<;>push_cast [C]
def vok_of(h:∀j,j<B.length->bsC B j=0)(hs:∀e ∈ B,Sm e.2):VOk B:=by
 have z:∀j,j<B.length->Ce (B.getD j zM).1=0/\(0<j->ltS (B.getD (j-1) zM).1 (B.getD j zM).1=true)/\Ao (B.getD j zM).2=0:=λj C=>by
  have:=h j C;unfold bsC at this;split at this
  ·cases this
  ·rename_i e;refine⟨Classical.byContradiction λk=>e (.inl k),λk=>?_,this⟩;cases hb:ltS (B.getD (j-1) zM).1 (B.getD j zM).1 with
   |true=>rfl
   |false=>exact absurd (.inr ⟨k,hb⟩) e
 have m:∀e ∈ B,∃j,j<B.length/\B.getD j zM=e:=λe M=>by
  obtain⟨j,C,rfl⟩:=List.getElem_of_mem M;exact⟨j,C,by simp[A29,A2f C]⟩
 exact⟨NR λi h1 h2=>(z i h2).2.1 Om,λe M=>by obtain⟨j,C,rfl⟩:=m e M;exact(z j C).1,λe M=>by obtain⟨j,C,rfl⟩:=m e M;exact(z j C).2.2,hs⟩
def c_buildG(Z:VOk B)(hb:B.length<=1000):∃T,A0 prog 22 [.slice (B.map A8) false] (AF T)/\Dw T B:=by
 obtain⟨Q,q0,hQ⟩:=HJ (λi t=>i<=B.length->Dw t (B.take i)) (λi t u=>i<B.length->A0 prog 54 [AF t,.val (.string (B.getD i zM).1),.agg (A7 (B.getD i zM).2)] (AF u)) .nil (λ_=>.inl ⟨rfl,Sq'⟩) λi t ht=>by
  by_cases hi:i<B.length
  ·have a1:=Ae (d:=zM) hi;obtain⟨u,p1,p2⟩:=TZ (ht Om) So' (B.getD i zM).1 (B.getD i zM).2 (Z.sm _ a1);refine⟨u,λ_=>?_,λ_=>p1⟩;have e:B4 (B.getD i zM) (B.take i)=B.take (i+1):=by
    rw[UM λx C=>?_,J9 hi];obtain⟨j,hj,rfl⟩:=List.getElem_of_mem C;rw[A2x] at hj;have:=Nr Z.srt (i:=j) (j:=i) Om hi;rw[List.getElem_take];rwa[show B.getD j zM=B[j] by rw[A29,A2f Om];rfl] at this
   rw[<-e];exact p2
  ·exact⟨t,λh=>Om,λh=>absurd h hi⟩
 refine⟨Q B.length,?_,by have:=(hQ B.length).1 (A2e _);rwa[A2I] at this⟩;have M:=Ac B;have lB:(B.map A8).length=B.length:=Sq';have O:=λi=>A6 (Q i);have U:=λi=>Bg (Q i);have a2:Ah (Q 0)=.val (.pointer none):=by rw[q0];exact Bl
 simp only[AF] at*;refine Zf [] ?_
 (have z:=Za M lB;push_cast[z]<;>repeat' (first|apply Zi<;>intro _|exact Zo|with_reducible apply Za)<;>push_cast[z])<;>try omega
 refine Zl (λi=>i<=B.length) (λi=>⟨[(8,iD i),(7,iD B.length),(6,.slice (B.map A8) false),(3,.ref 8 0 0 1),(2,.ref 0 0 0 1)],[(0,.rows [[.any]] 1),(8,.rows [[Ah (Q i)]] 1)],100⟩) (λi=>B.length-i) 0 (A2w _) ?_ λi hi=>?_
 ·apply Zw<;>push_cast [M,a2]
 ·push_cast[M];refine Ad (λC=>?_) (λC=>?_)
  ·have N:i<B.length:=by simpa using C
   have e3:=Bc N;have w1:IntKind.i64.wrap ((i:Int)+1)=(i:Int)+1:=A9 Om Om;have hP:=(hQ i).2 N;rw[Aj] at e3;have oX:=Bn (B.getD i zM).2;have lX:=AH (B.getD i zM).2;have tX:=GG (B.getD i zM).2;have aX:=Lv (B.getD i zM).2;have V:=O i;have Y:=U i;have a0:=O (i+1);have a3:=U (i+1);generalize A7 (B.getD i zM).2=X at*
   (have z:=Za M<|Za lB<|Za e3<|Za oX<|Za lX<|Za tX<|Za aX<|Za @V<|Za @Y<|Za @a0 @a3;push_cast[z]<;>repeat' (first|apply Zi<;>intro _|refine Zc hP ?_|exact Zo|with_reducible apply Za)<;>push_cast[z])<;>try omega
   refine⟨i+1,Om,Om,?_⟩;apply Zw<;>push_cast [M,a0,w1]
  ·have N:i=B.length:=by simp at C;omega
   subst N;have V:=O B.length;have Y:=U B.length
   (have z:=Za @V @Y;push_cast[z]<;>repeat' (first|apply Zi<;>intro _|exact Zo|with_reducible apply Za)<;>push_cast[z])
def c_rHeadG{T:GT}(hT:Dw T B)(hV:VOk B)(hb:B.length<=64)(h:LI L):∃T',A0 prog 23 [AF T,.slice (L.map AN) false] (AF T')/\Dw T' (Cq B L L.length):=by
 have a6:=h.len;obtain⟨Q,q0,hQ⟩:=HJ (λi t=>i<=L.length->Dw t (Cq B L i)) (λi t u=>i<L.length->A0 prog 34 [AF t,.agg (Ai (L.getD i zN).m)] (.tup [AF u,.val (.int .i64 (DN (L.getD i zN).m (Cq B L i)).1)])) T (λ_=>hT) λi t ht=>by
  by_cases hi:i<L.length
  ·have U:=Ae (d:=zN) hi;obtain⟨hv,hvl⟩:=Ny hV hb h i Om;obtain⟨u,p1,p2,-,-⟩:=run_ok HG (ht Om) hv Om (L.getD i zN).m (h.sm _ U) (h.wt _ U) (h.sz _ U);exact⟨u,λ_=>p2,λ_=>p1⟩
  ·exact⟨t,λh=>Om,λh=>absurd h hi⟩
 refine⟨Q L.length,?_,(hQ L.length).1 (A2e _)⟩;have C:=Bk L;have lL:(L.map AN).length=L.length:=Sq';have M:=λi=>A6 (Q i);have N:=λi=>Bg (Q i);have hR:A0 prog 55 [AF T,.slice (L.map AN) false,.func (.func 56) [] []] (AF (Q L.length)):=by
  rw[<-q0];simp only[AF] at*;refine Zf [] ?_;have V:=M 0;have Y:=N 0
  (have z:=Za C<|Za lL<|Za V Y;push_cast[z]<;>repeat' (first|apply Zi<;>intro _|exact Zo|with_reducible apply Za)<;>push_cast[z])<;>try omega
  refine Zl (λi=>i<=L.length) (λi=>⟨[(13,iD i),(12,iD L.length),(11,.slice (L.map AN) false),(6,.ref 8 0 0 1),(3,.ref 0 0 0 1),(2,.func (.func 56) [] [])],[(0,.rows [[Ah (Q i)]] 1),(8,.rows [[.any]] 1)],68⟩) (λi=>L.length-i) 0 (A2w _) ?_ λi hi=>?_
  ·apply Zw<;>push_cast [M,C]
  ·push_cast[C];refine Ad (λZ=>?_) (λZ=>?_)
   ·have O:i<L.length:=by simpa using Z
    have e1:=SG O;rw[Lw] at e1;have hP:=(hQ i).2 O;generalize(DN (L.getD i zN).m (Cq B L i)).1=x at*;have hH:=c_hd1 x;have oX:=Ax (L.getD i zN).m;have lX:=AB (L.getD i zN).m;have tX:=BQ (L.getD i zN).m;have aX:=C4 (L.getD i zN).m;generalize Ai (L.getD i zN).m=X at*;have w1:IntKind.i64.wrap ((i:Int)+1)=(i:Int)+1:=A9 Om Om;have a0:=M i;have a1:=N i;have a2:=M (i+1);have a3:=N (i+1)
    (have z:=Za C<|Za lL<|Za e1<|Za oX<|Za lX<|Za tX<|Za aX<|Za @a0<|Za @a1<|Za @a2<|Za @a3 w1;push_cast[z]<;>repeat' (first|apply Zi<;>intro _|refine Zc hP ?_|refine Zv hH ?_|exact Zo|with_reducible apply Za)<;>push_cast[z])<;>try omega
    refine⟨i+1,Om,Om,?_⟩;apply Zw<;>push_cast [C,a2]
   ·have O:i=L.length:=by simp at Z;omega
    subst O;have a0:=M L.length;have a1:=N L.length
    (have z:=Za @a0 @a1;push_cast[z]<;>repeat' (first|apply Zi<;>intro _|exact Zo|with_reducible apply Za)<;>push_cast[z])
 have V:=A6 T;have Y:=Bg T;have a4:=M L.length;have a5:=N L.length;simp only[AF] at*;refine Zf [] ?_
 (have z:=Za C<|Za V<|Za Y<|Za @a4 @a5;push_cast[z]<;>repeat' (first|apply Zi<;>intro _|refine Zc hR ?_|exact Zo|with_reducible apply Za)<;>push_cast[z])
def c_fromE{n:Nat}(h:A4u c k a n B L)(C:imC c k a n B L≠0):A4 prog 5 [imD c k a n B L] [] (.tup [.val (.pointer none),iD (imC c k a n B L)]) []:=by
 have M:=c_mayG h;have N:=Bk L;have O:=Ac B;generalize imC c k a n B L=x at*;have b1:(x !=0)=true:=by simpa using C
 refine Zd [] ?_
 (have z:=Za N<|Za O b1;push_cast[z]<;>repeat' (first|apply Zi<;>intro _|refine Zc M ?_|exact Zo|with_reducible apply Za)<;>push_cast[z])<;>try omega
 apply Zw<;>push_cast
def A4n{n:Nat}(h:imC c k a n B L=0):(0<c/\c<=4611686018427387903/\k<=4611686018427387903/\a<=4611686018427387903/\n≠0/\n<=4611686018427387904)/\(∀j,j<B.length->bsC B j=0)/\A4t a n L=true:=by
 unfold imC at h;split at h
 ·cases h
 rename_i h1;obtain⟨J,V,h2,M,Y⟩:=A4g (bsC B) B.length;split at h
 ·rename_i C;exact absurd h C
 rename_i C;split at h
 ·cases h
 rename_i N;refine⟨Om,?_,by simpa using N⟩;rcases A2z J B.length with e|e
 ·obtain⟨O,U⟩:=M e;exact absurd (by rw[U];exact O) C
 ·obtain rfl:J=B.length:=Om;exact h2
def c_fromG{n:Nat}(h:A4u c k a n B L)(M:imC c k a n B L=0):∃T H,Dw T B/\VOk B/\Dw H (Cq B L L.length)/\A4 prog 5 [imD c k a n B L] [] (.tup [.ref 0 0 0 6,iD 0]) [(0,.rows [[uD' c,uD' k,uD' n,Ah T,Ah H,.ref 2 0 0 2]] 6),(2,.rows [[uD' a,.slice (L.map AN) false]] 2)]:=by
 obtain⟨⟨i1,i2,i3,Z,i5,i6⟩,i7,i8⟩:=A4n M;have C:=vok_of i7 λe he=>(h.bs e he).2.1;have a0:=h.bl;obtain⟨T,p1,N⟩:=c_buildG C Om;obtain⟨H,r1,r2⟩:=c_rHeadG N C Om h.ok;refine⟨T,H,N,C,r2,?_⟩;have O:=c_mayG h;rw[M] at O;have hO:=c_ofG h Z i5 i6 i8;have U:=Bk L;have oB:=Ac B;have V:=A6 T;have o1:=Bg T;have Y:=A6 H;have o2:=Bg H;simp only[AF] at*;generalize Ah T=tb at*;generalize Ah H=th at*;refine Zb [] λH Hb=>?_
 (have z:=Za U<|Za oB<|Za V<|Za o1<|Za Y o2;push_cast[z]<;>repeat' (first|apply Zi<;>intro _|refine Zc O ?_|refine Zs [] hO ?_|refine Zc (p1 ..) ?_|refine Zc (r1 ..) ?_|exact Zo|with_reducible apply Za)<;>push_cast[z])<;>try omega
 apply Zr [(0,328),(2,120)] rfl<;>push_cast [U,V,Y]
def r_FromG(c k a n:Int)(B:Lga)(L:List GN)(hb:B.length<=60)(h:LI L):A4 prog 8 [imD c k a n B L] [] (.ref 0 0 0 7) [(0,.rows [rfL c k a n n B L] 7)]:=by
 have a0:=h.len;have C:=Bk L;have M:Aa (B.map A8)=true:=Ac B;have N:(L.map AN).length=L.length:=Sq';have O:(B.map A8).length=B.length:=Sq';have V:∀y ∈ L.map AN,y.length=20:=λy U=>by obtain⟨x,_,rfl⟩:=A2p.1 U;exact Fc x
 have l7:∀y ∈ B.map A8,y.length=7:=λy U=>by obtain⟨x,_,rfl⟩:=A2p.1 U;exact Ba x
 simp only[imD,rfL,AX] at*;generalize L.map AN=Y at*;generalize B.map A8=Z at*;refine Zd [] ?_
 (have z:=Za C<|Za M<|Za N O;push_cast[z]<;>repeat' (first|apply Zi<;>intro _|exact Zo|with_reducible apply Za)<;>push_cast[z])
 all_goals first|omega|exact V|exact l7|(intro y U;cases U;done)|skip
 refine Aq.trans (Aq.fzB (b:=176) rfl) ?_;push_cast[C,M,N,O];refine Aq.trans (Aq.fzB (b:=40) rfl) ?_;push_cast[C,M,N,O];refine Aq.trans (Aq.fzB (b:=56) rfl) ?_;push_cast[C,M,N,O];apply Zr [(0,192)] rfl<;>push_cast [C,M,N,O]
def r_mayE{n:Nat}(hn:n<18446744073709551616)(h:c=0\/4611686018427387903<c\/4611686018427387903<k\/4611686018427387903<a\/n=0\/4611686018427387904<n):A0 prog 6 [imD c k a n B L] (iD 2):=by
 have C:=Bk L;have M:=Ac B;obtain⟨x1,b1⟩:∃x,((c:Int)==0)=x:=⟨_,rfl⟩
 obtain⟨x2,b2⟩:∃x,decide ((4611686018427387903:Int)<c)=x:=⟨_,rfl⟩
 obtain⟨x3,b3⟩:∃x,decide ((4611686018427387903:Int)<k)=x:=⟨_,rfl⟩
 obtain⟨x4,b4⟩:∃x,decide ((4611686018427387903:Int)<a)=x:=⟨_,rfl⟩
 rcases A2K n with rfl|hp
 ·refine Zf [] ?_;cases x1<;>cases x2<;>cases x3<;>cases x4;all_goals
   (have z:=Za C<|Za M<|Za b1<|Za b2<|Za b3 b4;push_cast[z]<;>repeat' (first|apply Zi<;>intro _|exact Zo|with_reducible apply Za)<;>push_cast[z])
 obtain⟨x6,b6⟩:∃x,decide ((4611686018427387903:Int)<(n:Int)-1)=x:=⟨_,rfl⟩
 have N:((n:Int)==0)=false:=So';have O:IntKind.u64.wrap ((n:Int)-1)=(n:Int)-1:=TX Om Om;have U:(x1 ||x2 ||x3 ||x4 ||x6)=true:=by subst b1 b2 b3 b4 b6;simp;omega
 clear h;refine Zf [] ?_;cases x1<;>cases x2<;>cases x3<;>cases x4<;>first|(cases x6<;>first|(cases U;done)|skip)|skip
 all_goals
  (have z:=Za C<|Za M<|Za b1<|Za b2<|Za b3<|Za b4<|Za N<|Za b6 O;push_cast[z]<;>repeat' (first|apply Zi<;>intro _|exact Zo|with_reducible apply Za)<;>push_cast[z])
def A4p{n:Nat}(h:A4u c k a n B L):A0 prog 6 [imD c k a n B L] (iD (imC c k a n B L)):=by
 unfold imC;by_cases h1:c=0\/4611686018427387903<c\/4611686018427387903<k\/4611686018427387903<a\/n=0\/4611686018427387904<n
 ·rw[if_pos h1];exact r_mayE h.n h1
 rw[if_neg h1];have a5:=h.ok.len;have a6:=h.bl;have C:=Bk L;have N:=Ac B;have b1:((c:Int)==0)=false:=So';have b2:decide ((4611686018427387903:Int)<c)=false:=Df';have b3:decide ((4611686018427387903:Int)<k)=false:=Df';have b4:decide ((4611686018427387903:Int)<a)=false:=Df';have b5:((n:Int)==0)=false:=So';have b6:decide ((4611686018427387903:Int)<(n:Int)-1)=false:=Df';have w5:IntKind.u64.wrap ((n:Int)-1)=(n:Int)-1:=TX Om Om;have wi:∀i,i<1000->IntKind.i64.wrap ((i:Nat)+1:Int)=(i:Int)+1:=λi hi=>A9 Om Om;obtain⟨J,hJ,h2,h3,h4⟩:=A4g (bsC B) B.length;generalize a1:(if E1 (bsC B) B.length≠0 then E1 (bsC B) B.length else _)=x;have a2:J<B.length->x=bsC B J:=λe=>by obtain⟨e1,e2⟩:=h3 e;rw[<-a1,e2,if_pos e1]
 have a0:J=B.length->x=if A4t a n L=false then 14 else E1 (λj=>Ec Ao (L.getD j zN).m) L.length:=λe=>by rw[<-a1,h4 e,if_neg Sq']
 clear a1 h4;refine Zf [] ?_
 (have z:=Za C<|Za N<|Za b1<|Za b2<|Za b3<|Za b4<|Za b5<|Za b6 w5;push_cast[z]<;>repeat' (first|apply Zi<;>intro _|exact Zo|with_reducible apply Za)<;>push_cast[z])<;>try omega
 refine Zl (λi=>i<=J) (λi=>⟨[(3,iD i),(1,.ref 0 0 0 6)],[(0,.rows [imL c k a n B L] 6)],400⟩) (λi=>B.length-i) 0 (A2w _) ?_ λi hi=>?_
 ·apply Zw<;>push_cast [C,N]
 ·push_cast[C,N];refine Ad (λU=>?_) (λU=>?_)
  ·have O:i<B.length:=by simpa using U
   have V:=Bc O;have w1:=wi i Om;obtain⟨s1,s2,s3⟩:=h.bs _ (Ae (d:=zM) O);have hK:=L7 (B.getD i zM).1 Om;have hF:=M1 (B.getD i zM).2 s2 s3;have hb:bsC B i=if Ce (B.getD i zM).1≠0\/0<i/\ltS (B.getD (i-1) zM).1 (B.getD i zM).1=false then 8 else Ao (B.getD i zM).2:=rfl
   have u1:=h2 i;have u2:i=J->bsC B i≠0/\x=bsC B i:=λe=>by subst e;exact⟨(h3 O).1,a2 O⟩
   rw[Aj] at V;have Z:=Bn (B.getD i zM).2;have lX:=AH (B.getD i zM).2;have tX:=GG (B.getD i zM).2;have aX:=Lv (B.getD i zM).2;generalize A7 (B.getD i zM).2=X at*;generalize Ao (B.getD i zM).2=fv at*;generalize Ce (B.getD i zM).1=kv at*;generalize bsC B i=bv at*;clear h2 h3 a2 a0;obtain⟨xK,bK⟩:∃x,(kv !=0)=x:=⟨_,rfl⟩
   obtain⟨xF,bF⟩:∃x,(fv !=0)=x:=⟨_,rfl⟩
   have hk:kv≠0↔xK=true:=by rw[<-bK];simp
   have hf:fv≠0↔xF=true:=by rw[<-bF];simp
   simp only[hk] at hb;rcases A2K i with rfl|hp
   ·have w1:IntKind.i64.wrap 1=1:=Dq';cases xK<;>cases xF;all_goals
     simp at hb hf hk
     (have z:=Za C<|Za N<|Za V<|Za Z<|Za lX<|Za tX<|Za aX<|Za bK bF;push_cast[z]<;>repeat' (first|apply Zi<;>intro _|refine Zc hK ?_|refine Zc hF ?_|exact Zo|with_reducible apply Za)<;>push_cast[z])<;>try omega
     all_goals
      refine⟨1,Om,Om,?_⟩;apply Zw<;>push_cast [C,N,w1]
   ·have e4:=Bc (l:=B) (i:=i-1) Om;rw[Aj] at e4;have c7:decide ((0:Int)<i)=true:=Dt';have w6:IntKind.i64.wrap ((i:Int)-1)=((i-1:Nat):Int):=by rw[show(i:Int)-1=((i-1:Nat):Int) by omega];exact A9 Om Om
    obtain⟨xL,z4⟩:∃x,ltS (B.getD (i-1) zM).1 (B.getD i zM).1=x:=⟨_,rfl⟩
    rw[z4] at hb;generalize(B.getD (i-1) zM)=y at*;generalize(B.getD i zM).1=kk at*;cases xK<;>cases xF<;>cases xL;all_goals
     simp[hp] at hb hf hk
     (have z:=Za C<|Za N<|Za V<|Za e4<|Za Z<|Za lX<|Za tX<|Za aX<|Za w6<|Za c7<|Za z4<|Za bK bF;push_cast[z]<;>repeat' (first|apply Zi<;>intro _|refine Zc hK ?_|refine Zc hF ?_|exact Zo|with_reducible apply Za)<;>push_cast[z])<;>try omega
     all_goals
      refine⟨i+1,Om,Om,?_⟩;apply Zw<;>push_cast [C,N,w1]
  ·have O:i=B.length:=by simp at U;omega
   obtain rfl:i=J:=Om;have a0:=a0 O;clear a2 h3 h2;have wj:∀j:Nat,j<1000->IntKind.u64.wrap ((a:Int)+j+1)=(a:Int)+(j+1):=λj hj=>by rw[show(a:Int)+j+1=(a:Int)+(j+1) by omega];exact TX Om Om
   obtain⟨G,hG,g1,g2⟩:∃G,G<=L.length/\(∀j,j<G->(L.getD j zN).id=(a:Int)+1+j)/\(G<L.length->(L.getD G zN).id≠(a:Int)+1+G):=by
    obtain⟨G,z1,z2,z3,z4⟩:=A4g (λj=>if (L.getD j zN).id=(a:Int)+1+j then 0 else 1) L.length;refine⟨G,z1,λj hj=>?_,λhj e=>?_⟩
    ·have:(if(L.getD j zN).id=(a:Int)+1+j then(0:Int) else 1)=0:=z2 j hj;split at this
     ·assumption
     ·cases this
    ·have:(if(L.getD G zN).id=(a:Int)+1+G then(0:Int) else 1)≠0:=(z3 hj).1;rw[if_pos e] at this;exact this rfl
   have a3:A4t a n L=true↔G=L.length/\n=a+L.length+1:=by
    constructor
    ·intro Y;obtain⟨y1,y2⟩:=A4j Y;refine⟨?_,y1⟩;rcases A2z G L.length with e|e
     ·exact absurd (y2 G e) (g2 e)
     ·omega
    ·rintro⟨rfl,e⟩;cases Y:A4t a n L with
     |true=>rfl
     |false=>
      obtain⟨i,y1,y2,y3⟩:=A4r Y e;exact absurd (g1 i y1) y3
   (have z:=Za C N;push_cast[z]<;>repeat' (first|apply Zi<;>intro _|exact Zo|with_reducible apply Za)<;>push_cast[z])<;>try omega
   refine Zl (λi=>i<=G) (λi=>⟨[(7,iD i),(6,uD' ((a:Int)+i)),(1,.ref 0 0 0 6)],[(0,.rows [imL c k a n B L] 6)],800⟩) (λi=>L.length-i) 0 (A2w _) ?_ λi hi=>?_
   ·apply Zw<;>push_cast [C,N];all_goals first|omega|skip
   ·push_cast[C,N];refine Ad (λU=>?_) (λU=>?_)
    ·have O:i<L.length:=by simpa using U
     have V:=SG O;have w1:=wi i Om;have w2:=wj i Om;have f1:=g1 i;have f2:i=G->(L.getD i zN).id≠(a:Int)+1+i:=λe=>by subst e;exact g2 O
     rw[Lw] at V;have Z:=Ax (L.getD i zN).m;have lX:=AB (L.getD i zN).m;have tX:=BQ (L.getD i zN).m;have aX:=C4 (L.getD i zN).m;generalize Ai (L.getD i zN).m=X at*;generalize(L.getD i zN).id=y at*;rcases A2z i G with hij|hij
     ·have b2:(y !=(a:Int)+(i+1))=false:=So'
      (have z:=Za C<|Za N<|Za V<|Za Z<|Za lX<|Za tX<|Za aX<|Za w2 b2;push_cast[z]<;>repeat' (first|apply Zi<;>intro _|exact Zo|with_reducible apply Za)<;>push_cast[z])<;>try omega
      refine⟨i+1,Om,Om,?_⟩;apply Zw<;>push_cast [C,N,w1]
     ·have b2:(y !=(a:Int)+(i+1))=true:=So';have Y:A4t a n L=false:=by
       cases e:A4t a n L with
       |false=>rfl
       |true=>have:=a3.1 e;omega
      rw[Y,if_pos rfl] at a0
      (have z:=Za C<|Za N<|Za V<|Za Z<|Za lX<|Za tX<|Za aX<|Za w2 b2;push_cast[z]<;>repeat' (first|apply Zi<;>intro _|exact Zo|with_reducible apply Za)<;>push_cast[z])<;>try omega
    ·have O:i=L.length:=by simp at U;omega
     subst O;cases Y:A4t a n L with
     |false=>
      rw[Y,if_pos rfl] at a0;have a7:n≠a+L.length+1:=λe=>by have:=a3.2 ⟨Om,e⟩;rw[Y] at this;cases this
      have b2:((a:Int)+L.length !=(n:Int)-1)=true:=So'
      (have z:=Za C<|Za N<|Za w5 b2;push_cast[z]<;>repeat' (first|apply Zi<;>intro _|exact Zo|with_reducible apply Za)<;>push_cast[z])<;>try omega
     |true=>
      rw[Y,if_neg Dq'] at a0;obtain⟨-,y1⟩:=a3.1 Y;have b2:((a:Int)+L.length !=(n:Int)-1)=false:=So';obtain⟨M,hM,m2,m3,m4⟩:=A4g (λj=>Ec Ao (L.getD j zN).m) L.length
      (have z:=Za C<|Za N<|Za w5 b2;push_cast[z]<;>repeat' (first|apply Zi<;>intro _|exact Zo|with_reducible apply Za)<;>push_cast[z])<;>try omega
      refine Zl (λi=>i<=M) (λi=>⟨[(8,iD i),(1,.ref 0 0 0 6)],[(0,.rows [imL c k a n B L] 6)],1200⟩) (λi=>L.length-i) 0 (A2w _) ?_ λi hi=>?_
      ·apply Zw<;>push_cast [C,N]
      ·push_cast[C,N];refine Ad (λU=>?_) (λU=>?_)
       ·have O:i<L.length:=by simpa using U
        have V:=SG O;have w1:=wi i Om;have a4:=Ae (d:=zN) O;have hU:=Xb (L.getD i zN).m (h.ok.sm _ a4) (by have:=h.ok.wt _ a4;omega) (h.ok.sz _ a4);have u1:=m2 i;have u2:i=M->Ec Ao (L.getD i zN).m≠0/\x=Ec Ao (L.getD i zN).m:=λe=>by subst e;exact⟨(m3 O).1,a0.trans (m3 O).2⟩
        rw[Lw] at V;have Z:=Ax (L.getD i zN).m;have lX:=AB (L.getD i zN).m;have tX:=BQ (L.getD i zN).m;have aX:=C4 (L.getD i zN).m;generalize Ai (L.getD i zN).m=X at*;generalize Ec Ao (L.getD i zN).m=mv at*;clear m2 m3 m4;rcases A2z i M with hij|hij
        ·rw[u1 hij] at hU
         (have z:=Za C<|Za N<|Za V<|Za Z<|Za lX<|Za tX aX;push_cast[z]<;>repeat' (first|apply Zi<;>intro _|refine Zc hU ?_|exact Zo|with_reducible apply Za)<;>push_cast[z])<;>try omega
         refine⟨i+1,Om,Om,?_⟩;apply Zw<;>push_cast [C,N,w1]
        ·obtain⟨v1,v2⟩:=u2 Om;have bM:(mv !=0)=true:=by simpa using v1
         (have z:=Za C<|Za N<|Za V<|Za Z<|Za lX<|Za tX<|Za aX bM;push_cast[z]<;>repeat' (first|apply Zi<;>intro _|refine Zc hU ?_|exact Zo|with_reducible apply Za)<;>push_cast[z])<;>try omega
       ·have O:i=L.length:=by simp at U;omega
        have:=m4 Om
        (have z:=Za C N;push_cast[z]<;>repeat' (first|apply Zi<;>intro _|exact Zo|with_reducible apply Za)<;>push_cast[z])<;>try omega
abbrev ciH(c k a n:Nat)(x y:D)(Y Z:LLa):Hp:=[(106,.rows [[uD' a,.slice Y false]] 2),(104,.rows [[uD' c,uD' k,uD' n,x,y,.ref 106 0 0 2]] 6),(256,.rows [[uD' c,uD' k,uD' a,uD' n,uD' n,.ptr [.slice Z false] 0,.slice Y false]] 7)]
def c_imgs{n:Nat}(h:A4u c k a n B L):A0 prog 3 [imD c k a n B L] (bD true):=by
 have N:=RY;have a1:=h.ok.len;have a0:=h.bl;have O:=Bk L;have U:Aa (B.map A8)=true:=Ac B;have V:(L.map AN).length=L.length:=Sq';have lB:(B.map A8).length=B.length:=Sq';have c1:decide ((60:Int)<B.length)=false:=Df';have c2:decide ((40:Int)<L.length)=false:=Df';have M:=A4p h;by_cases C:imC c k a n B L=0
 ·obtain⟨⟨i1,i2,i3,i4,i5,i6⟩,i7,i8⟩:=A4n C;obtain⟨g1,g2⟩:=A4j i8;obtain⟨T,H,p1,p2,p3,hF⟩:=c_fromG h C;obtain⟨hv,hvl⟩:=Ny p2 Om h.ok L.length (A2e _);have hR:=r_FromG c k a n B L a0 h.ok;have hS:=W4 c k n a i1 T H B p1 p2 Om L h.ok p3 Om Om;rw[show(a:Int)+L.length+1=(n:Int) by omega] at hS;rw[C] at M;have oT:=A6 T;have o1:=Bg T;have oH:=A6 H;have o2:=Bg H;simp only[imD,rfL,AX,clP] at*;generalize Ah T=tb at*;generalize Ah H=th at*;generalize L.map AN=Y at*;generalize B.map A8=Z at*;refine Zk [] λH Hb=>?_
  (have z:=Za O<|Za U<|Za V<|Za lB<|Za c1<|Za c2<|Za oT<|Za o1<|Za oH o2;push_cast[z]<;>repeat' (first|apply Zi<;>intro _|refine Zs [] hF ?_|refine Zc M ?_|refine Zs [] hR ?_|refine A5.lendZ (ciH c k a n tb th Y Z) hS ?_|refine Zc N ?_|exact Zo|with_reducible apply Za)<;>push_cast[z])<;>try omega
 ·have hF:=c_fromE h C;generalize imC c k a n B L=x at*;have b1:(x !=0)=true:=by simpa using C
  have b2:(x==x)=true:=Sq';simp only[imD] at*;generalize L.map AN=Y at*;generalize B.map A8=Z at*;refine Zk [] λH Hb=>?_
  (have z:=Za O<|Za U<|Za V<|Za lB<|Za c1<|Za c2<|Za b1 b2;push_cast[z]<;>repeat' (first|apply Zi<;>intro _|refine Zs [] hF ?_|refine Zc M ?_|refine Zc N ?_|exact Zo|with_reducible apply Za)<;>push_cast[z])<;>try omega
def c_imgs0(c k a n:Int)(B:Lga)(L:List GN)(h:60<B.length\/40<L.length):A0 prog 3 [imD c k a n B L] (bD true):=by
 have C:=RY;have M:=Bk L;have N:Aa (B.map A8)=true:=Ac B;have O:(L.map AN).length=L.length:=Sq';have U:(B.map A8).length=B.length:=Sq';rcases A2z 60 B.length with h5|h5
 ·have c1:decide ((60:Int)<B.length)=true:=Dt';simp only[imD] at*;generalize L.map AN=Y at*;generalize B.map A8=Z at*;refine Zf [] ?_
  (have z:=Za M<|Za N<|Za O<|Za U c1;push_cast[z]<;>repeat' (first|apply Zi<;>intro _|refine Zc C ?_|exact Zo|with_reducible apply Za)<;>push_cast[z])
 ·have c1:decide ((60:Int)<B.length)=false:=Df';have c2:decide ((40:Int)<L.length)=true:=Dt';simp only[imD] at*;generalize L.map AN=Y at*;generalize B.map A8=Z at*;refine Zf [] ?_
  (have z:=Za M<|Za N<|Za O<|Za U<|Za c1 c2;push_cast[z]<;>repeat' (first|apply Zi<;>intro _|refine Zc C ?_|exact Zo|with_reducible apply Za)<;>push_cast[z])
structure ImRd(c k a n:Nat)(B:List GE)(L:List GN):Prop where
 c:c<18446744073709551616
 k:k<18446744073709551616
 a:a<18446744073709551616
 n:n<18446744073709551616
 bs:∀e ∈ B,e.1.size<=1048576/\Sm e.2/\wtV e.2<=2097152
 id:∀x ∈ L,0<=x.id/\x.id<18446744073709551616
 sm:∀x ∈ L,SmU x.m
 wt:∀x ∈ L,wtU x.m<=1048576
 sz:∀x ∈ L,AY x.m<=1099511627776
def law_images{n:Nat}(h:ImRd c k a n B L):A0 prog 3 [imD c k a n B L] (bD true):=by
 by_cases e:B.length<=60/\L.length<=40
 ·exact c_imgs ⟨h.c,h.k,h.a,h.n,e.1,h.bs,h.id,⟨e.2,h.sm,h.wt,h.sz⟩⟩
 ·exact c_imgs0 c k a n B L Om
end Go.Ab
namespace Go.Ab
open Go.RowKit
abbrev RR(w:World)(ds:List D)(cs:List Value):Prop:=Bo w (λk=>k<w.heap.size) (λ_=>none) ds cs
section
variable{H:Type}{enc:TypeId×Value->H}{P:Program}{w:World}{sp:Nat->Bool}{held:Bool}{n:Nat}{t:TypeId}{cs:List Value}{x:DataW H×List MemPlace}
def RR.one{d:D}{v:Value}(h:Rep w (λk=>k<w.heap.size) (λ_=>none) d v):RR w [d] [v]:=by
 refine⟨rfl,λi hi=>?_⟩;have e:i=0:=by simp at hi;omega
 subst e;exact h
def RR.nil:RR w [] []:=⟨rfl,λi hi=>by simp at hi⟩
def RR.step{ds es:List D}{off k:Nat}(h:RR w ds ((cs.drop off).take k))(g:RR w es (cs.drop (off+k))):RR w (ds++es) (cs.drop off):=by
 have e:cs.drop off=(cs.drop off).take k++cs.drop (off+k):=by rw[<-A3N];exact(A2O k _).symm
 rw[e];exact Bo.append h g
def RR.fin{off:Nat}(h:cs.length=off):RR w [] (cs.drop off):=by
 rw[A2v Om];exact RR.nil
def rr_int{k:IntKind}(ht:P.underlying t=some (.int k))(h:DataW.trod enc P w 0 sp held n t cs=some x):∃m,RR w [.val (.int k m)] cs:=by
 obtain⟨m,rfl,_,C⟩:=DataW.trod_int ht h;refine⟨m,RR.one (.val _ ?_)⟩;simp only[Lit.wf,A2i,decide_eq_true_eq] at C;cases k<;>simpa [okP,DJ,DK,IntKind.min,IntKind.max,IntKind.signed,IntKind.bits] using C
def Nc{α:Type}{p:Nat->α->Prop}:∀n,(∀i,i<n->∃x,p i x)->∃l:List α,l.length=n/\∀i x,l[i]? =some x->p i x
 |0,_=>⟨[],rfl,λi x h=>by simp at h⟩
 |n+1,h=>by
  obtain⟨l,h1,h2⟩:=Nc n λi hi=>h i Om;obtain⟨x,M⟩:=h n Om;refine⟨l++[x],by simp[h1],λi y C=>?_⟩;by_cases hi:i<n
  ·rw[A3d Om] at C;exact h2 i y C
  ·rw[A3a Om] at C;have:i-l.length=0:=by
    rcases A2K (i-l.length) with h|h
    ·exact h
    ·rw[List.getElem?_eq_none So'] at C;cases C
   rw[this] at C;simp at C;subst C;have:i=n:=Om;subst this;exact M
end
end Go.Ab
namespace Go.Ab
open Go.Proofs.YtmobnaefbcegbaaGreatDoor Go.RowKit
def bk{H:Type}(x:DataW H×List MemPlace):Nat:=Rows.uptoBulk x.1
def Yf{H:Type}:∀es:List (DataW H×List MemPlace),Rows.uptoBulkAll (es.map (·.1))=(es.map bk).sum
 |[]=>by simp[Rows.uptoBulkAll]
 |e::es=>by simp[Rows.uptoBulkAll,Yf es,bk]
def bk_slice{H:Type}(es:List (DataW H×List MemPlace))(r:List (DataW H))(q:List MemPlace):(es.map bk).sum+1<=bk (.slice (es.map (·.1)) r,q):=by
 show _<=Rows.uptoBulk (.slice _ _);rw[Rows.uptoBulk,Yf];omega
def bk_agg{H:Type}(es:List (DataW H×List MemPlace))(q:List MemPlace):bk (.agg (es.map (·.1)),q)=(es.map bk).sum+1:=by
 show Rows.uptoBulk (.agg _)=_;rw[Rows.uptoBulk,Yf]
def YR{α:Type}{f:α->Nat}{l:List α}{x:α}(h:x ∈ l):f x<=(l.map f).sum:=by
 induction l with
 |nil=>cases h
 |cons y l C=>
  simp only[A2m,List.sum_cons];rcases A2s.1 h with rfl|h
  ·omega
  ·have:=C h;omega
def sum_le{α β:Type}{g:α->Nat}{b:β->Nat}:∀ {l:List α} {es:List β},l.length=es.length->(∀(i:Nat) y,l[i]? =some y->∃z,es[i]? =some z/\g y+1<=b z)->l.length+(l.map g).sum<=(es.map b).sum
 |[],[],_,_=>Sq'
 |[],_::_,h,_=>by simp at h
 |_::_,[],h,_=>by simp at h
 |y::l,z::es,h,hh=>by
  have h0:=hh 0 y rfl;obtain⟨C,e,N⟩:=h0;obtain rfl:z=C:=by simpa using e
  have:=sum_le (l:=l) (es:=es) (by simpa using h) λi y M=>by simpa using hh (i+1) y (by simpa using M)
  simp only[A2m,List.sum_cons,A2l];omega
section
variable{H:Type}{enc:TypeId×Value->H}{P:Program}{w:World}{sp:Nat->Bool}{held:Bool}{n:Nat}{t:TypeId}{cs:List Value}{x:DataW H×List MemPlace}
def So{k:IntKind}(ht:P.underlying t=some (.int k))(h:DataW.trod enc P w 0 sp held n t cs=some x):∃m,RR w [.val (.int k m)] cs/\(Lit.int k m).wf=true/\bk x=1:=by
 obtain⟨m,rfl,rfl,C⟩:=DataW.trod_int ht h;obtain⟨M,N⟩:=rr_int ht h;refine⟨m,RR.one (.val _ ?_),C,by first|rfl|simp only[bk,Rows.uptoBulk]⟩;simp only[Lit.wf,A2i,decide_eq_true_eq] at C;cases k<;>simpa [okP,DJ,DK,IntKind.min,IntKind.max,IntKind.signed,IntKind.bits] using C
def Sp(ht:P.underlying t=some .bool)(h:DataW.trod enc P w 0 sp held n t cs=some x):∃b,RR w [bD b] cs/\bk x=1:=by
 obtain⟨b,rfl,rfl⟩:=DataW.trod_bool ht h;exact⟨b,RR.one (.val _ trivial),by first|rfl|simp only[bk,Rows.uptoBulk]⟩
def Sn(ht:P.underlying t=some .string)(h:DataW.trod enc P w 0 sp held n t cs=some x):∃s,RR w [sD s] cs/\bk x=s.size+1:=by
 obtain⟨s,rfl,rfl,C⟩:=DataW.trod_string ht h;exact⟨s,RR.one (.val _ C),by first|rfl|simp only[bk,Rows.uptoBulk,A3G,ByteArray.size]⟩
def L6{α:Type}(f:α->List D)(g:α->Nat)(p:α->Prop){e:TypeId}{sz:Nat}(ht:P.underlying t=some (.slice e))(a3:P.cellsOf e=sz)(a4:0<sz)(a1:∀x,(f x).length=sz)
  (a5:∀m cs x,m<n->DataW.trod enc P w 0 sp held m e cs=some x->∃y,RR w (f y) cs/\g y+1<=bk x/\(bk x<=1048576->p y)) (h:DataW.trod enc P w 0 sp held n t cs=some x):∃l:List α,RR w [.slice (l.map f) false] cs/\l.length+(l.map g).sum+1<=bk x/\(bk x<=1048576->∀y ∈ l,p y):=by
 rcases DataW.trod_slice ht h with⟨rfl,rfl⟩|⟨a,len,cap,O,Z,m,rfl,rfl,rfl,_,a6,a7,hl,hx,_,_⟩
 ·refine⟨[],RR.one (.slice [] false none 0 0 0 0 (λ_ _=>.nilFunc) (λh=>absurd h Sq') (A2e _) (λ_=>rfl) (A2w _) (λi h=>absurd h Sq') (λi j h=>absurd h Sq') (λi j h=>absurd h Sq')),Nat.le_of_eq (by show 0+0+1=Rows.uptoBulk _;rw[Rows.uptoBulk]),λ_ y C=>by cases C⟩
 ·have one:∀i,i<len->∃y:α,∃N,w.cells? 0 (a.add (i*sz)) sz=some N/\RR w (f y) N/\∃z,O[i]? =some z/\g y+1<=bk z/\(bk z<=1048576->p y):=by
   intro i hi;have h1:=hx i hi;rw[A2f Om,Option.bind_eq_some_iff] at h1;obtain⟨N,h2,h3⟩:=h1;rw[a3] at h2;obtain⟨y,C,a8,a9⟩:=a5 m N _ Om h3;exact⟨y,N,h2,C,_,A2f Om,a8,a9⟩
  obtain⟨l,U,a0⟩:=Nc len one;have cell:∀i j y,l[i]? =some y->j<sz->∃v,w.cell? ⟨a.block,a.off+(i*sz+j),none⟩=some v/\Rep w (λk=>k<w.heap.size) (λ_=>none) (nd (f y) j) v:=by
   intro i j y C V;obtain⟨N,h1,h2,-⟩:=a0 i y C;obtain⟨_,h4,h5⟩:=World.cells?_some h1;have M:=h5 j V;have hlt:j<N.length:=Om;rw[A2f hlt] at M;refine⟨N[j],?_,?_⟩
   ·rw[<-M];have e1:((a.add (i*sz)).add j).block=a.block:=by unfold Addr.add;split<;>(try split)<;>rfl
    have e2:((a.add (i*sz)).add j).off=a.off+(i*sz+j):=by unfold Addr.add;split<;>(try split)<;>simp_all<;>omega
    have e3:((a.add (i*sz)).add j).spot=none:=by
     cases hs:((a.add (i*sz)).add j).spot with
     |none=>rfl
     |some q=>
      exfalso;simp only[World.cell?,hs,Option.isSome_some,if_true] at M;split at M<;>cases M
    generalize(a.add (i*sz)).add j=A at e1 e2 e3;obtain⟨b,o,s⟩:=A;simp only at e1 e2 e3;subst e1 e2 e3;rfl
   ·have:=h2.2 j (by rw[a1];exact V);have e:nv N j=N[j]:=by simp[nv,A29,hlt]
    rw[e] at this;exact this
  have get:∀i,i<len->∃y,l[i]? =some y:=λi hi=>⟨l[i]' Om,A2f Om⟩
  have a2:∀i y,l[i]? =some y->nr (l.map f) i=f y:=λi y C=>by simp[nr,A29,C]
  have Y:∀i y,l[i]? =some y->∃z,O[i]? =some z/\g y+1<=bk z/\(bk z<=1048576->p y):=λi y C=>by
   obtain⟨_,_,_,Y⟩:=a0 i y C;exact Y
  have aa:=sum_le (l:=l) (es:=O) Om λi y C=>by
   obtain⟨z,z1,z2,-⟩:=Y i y C;exact⟨z,z1,z2⟩
  have ab:(O.map bk).sum+1<=bk (.slice (O.map (·.1)) (Z.map (·.1)),MemPlace.row a ((O.length+Z.length)*P.cellsOf e)++(O++Z).flatMap (·.2)):=bk_slice O _ _;refine⟨l,RR.one ?_,Om,λhb y C=>?_⟩;rotate_left
  ·obtain⟨i,hi⟩:=List.getElem?_of_mem C;obtain⟨z,z1,-,z3⟩:=Y i y hi;have:=YR (f:=bk) (List.mem_of_getElem? z1);exact z3 Om
  have hA:0<len->(some a=some (⟨a.block,a.off,none⟩:Addr))/\a.block<w.heap.size:=by
   intro h0;obtain⟨y,C⟩:=get 0 h0;obtain⟨N,h1,h2,-⟩:=a0 0 y C;obtain⟨_,h4,h5⟩:=World.cells?_some h1;have M:=h5 0 a4;rw[A2f Om] at M;have e0:(a.add (0*sz)).add 0=a:=by simp[Addr.add]
   rw[e0] at M;constructor
   ·cases hs:a.spot with
    |none=>obtain ⟨b,o,s⟩:=a;simp only at hs;subst hs;rfl
    |some q=>
     exfalso;simp only[World.cell?,hs,Option.isSome_some,if_true] at M;split at M<;>cases M
   ·by_cases hb:a.block<w.heap.size
    ·exact hb
    ·exfalso;have:w.heap[a.block]? =none:=Array.getElem?_eq_none Om;simp[World.cell?,this] at M
  have:=Rep.slice (w:=w) (I:=λk=>k<w.heap.size) (mu:=λ_=>none) (l.map f) false (some a) a.block a.off sz cap (λi j=>(w.cell? ⟨a.block,a.off+(i*sz+j),none⟩).getD undef)
   (λh0=>by rw[A2k,U] at h0;exact⟨(hA h0).1,λ_=>(hA h0).2⟩) (by rw[A2k,U];exact a6) (λh=>by cases h) a7
   (λi hi=>by rw[A2k,U] at hi;obtain⟨y,C⟩:=get i hi;rw[a2 i y C];exact a1 y)
   (λi j hi V=>by rw[A2k,U] at hi;obtain⟨y,C⟩:=get i hi;obtain⟨v,h1,_⟩:=cell i j y C V;rw[h1];rfl)
   (λi j hi V=>by rw[A2k,U] at hi;obtain⟨y,C⟩:=get i hi;obtain⟨v,h1,h2⟩:=cell i j y C V;rw[a2 i y C,h1];exact h2)
  rw[A2k,U] at this;exact this
def P8{fs:Array Field}(ht:P.underlying t=some (.struct fs))(h:DataW.trod enc P w 0 sp held n t cs=some x):∃(m:Nat) (C:List (DataW H×List MemPlace)),n=m+1/\cs.length=P.cellsOf t/\bk x=(C.map bk).sum+1/\C.length=fs.size/\∀(i:Nat) (f:Field),fs[i]? =some f->DataW.trod enc P w 0 sp held m f.type ((cs.drop f.offset).take (P.cellsOf f.type))=C[i]?:=by
 obtain⟨C,m,rfl,rfl,hl,M,hf⟩:=DataW.trod_struct ht h;exact⟨m,C,rfl,hl,bk_agg C _,M,hf⟩
end
end Go.Ab
namespace Go.Ab
open Go.Proofs Go.Proofs.Tryz Go.RowKit
variable{α:Type}{l:List α}{g:Nat}{t:TypeId}
def A1p:prog.cellsOf 39=1:=Kq'
def Mw:prog.cellsOf 4=1:=Kq'
def Qf:prog.cellsOf 2=1:=Kq'
def Gp:prog.cellsOf 9=1:=Kq'
def VS:prog.cellsOf 40=1:=Kq'
def Tl:prog.cellsOf 41=1:=Kq'
def FZ:prog.cellsOf 43=6:=Kq'
def Nd:prog.cellsOf 165=7:=Kq'
def Tk:prog.cellsOf 38=1:=Kq'
def Qz:prog.cellsOf 44=1:=Kq'
def HM:prog.cellsOf 46=19:=Kq'
def list2(h:l.length=2):∃C M,l=[C,M]:=by
 match l,h with
 |[C,M],_=>exact ⟨C,M,rfl⟩
def list6(h:l.length=6):∃C M N O U V,l=[C,M,N,O,U,V]:=by
 match l,h with
 |[C,M,N,O,U,V],_=>exact ⟨C,M,N,O,U,V,rfl⟩
def list9(h:l.length=9):∃C M N O U V Y Z a8,l=[C,M,N,O,U,V,Y,Z,a8]:=by
 match l,h with
 |[C,M,N,O,U,V,Y,Z,a8],_=>exact ⟨C,M,N,O,U,V,Y,Z,a8,rfl⟩
def TT:∀l:List GV,Ga l=(l.map wtV).sum
 |[]=>by simp[Ga]
 |v::l=>by simp[Ga,TT l]
def TU:∀l:List (Baa×GV),J3 l=(l.map λy=>y.1.size+wtV y.2).sum
 |[]=>by simp[J3]
 |(k,v)::l=>by simp[J3,TU l]
def uSum:∀l:List GM,(l.map λy=>wtU y+AY y).sum=TV l+Br l
 |[]=>by simp[TV,Br]
 |v::l=>by simp only[A2m,List.sum_cons,uSum l,TV,Br];omega
def wf64{n:Int}(h:(Lit.int .i64 n).wf=true): -9223372036854775808<=n/\n<=9223372036854775807:=by
 simp only[Lit.wf,A2i,decide_eq_true_eq] at h;simpa[IntKind.min,IntKind.max,IntKind.signed,IntKind.bits] using h
section
variable{H:Type}{enc:TypeId×Value->H}{w:World}{sp:Nat->Bool}{held:Bool}
def rdb_M(n:Nat)(M:∀m,m<n->∀(cs:List Value) (x:DataW H×List MemPlace),DataW.trod enc prog w 0 sp held m 43 cs=some x->∃y:GV,RR w (A7 y) cs/\wtV y+1<=bk x/\(bk x<=1048576->Sm y)):∀(cs:List Value) (x:DataW H×List MemPlace),DataW.trod enc prog w 0 sp held n 165 cs=some x->∃y:GE,RR w (A8 y) cs/\(y.1.size+wtV y.2)+1<=bk x/\(bk x<=1048576->y.1.size<=1048576/\Sm y.2):=by
 intro cs x h;obtain⟨m,Z,rfl,hl,hb,hn,hf⟩:=P8 underlying165 h;obtain⟨N,O,rfl⟩:=list2 hn;simp only[A2m,A2E,List.sum_cons,List.sum_nil] at hb;rw[Nd] at hl;have h0:=hf 0 _ rfl;change _=some N at h0;obtain⟨U,C,b0⟩:=Sn underlying9 h0;change RR w _ ((cs.drop 0).take (prog.cellsOf 9)) at C;rw[Gp] at C;have h1:=hf 1 _ rfl;change _=some O at h1;obtain⟨V,r1,b1,Y⟩:=M m Om _ _ h1;change RR w _ ((cs.drop 1).take (prog.cellsOf 43)) at r1;rw[FZ] at r1;refine⟨(U,V),?_,?_,λa2=>?_⟩;rotate_left
 ·simp only;omega
 ·exact⟨by simp only;omega,Y Om⟩
 have e:=RR.step (off:=0) (k:=1) C (RR.step (off:=1) (k:=6) r1 (RR.fin hl));rw[Aj];simpa using e
def rdb_V:∀(n:Nat) (cs:List Value) (x:DataW H×List MemPlace),DataW.trod enc prog w 0 sp held n 43 cs=some x->∃y:GV,RR w (A7 y) cs/\wtV y+1<=bk x/\(bk x<=1048576->Sm y):=by
 intro n
 induction n using Nat.strongRecOn with
 |_ n Z=>
 intro cs x h;obtain⟨m,xs,rfl,hl,hb,hn,hf⟩:=P8 underlying43 h;obtain⟨y0,y1,y2,y3,y4,y5,rfl⟩:=list6 hn;simp only[A2m,A2E,List.sum_cons,List.sum_nil] at hb;rw[FZ] at hl;have h0:=hf 0 _ rfl;change _=some y0 at h0;obtain⟨a0,C,f0,b0⟩:=So underlying39 h0;change RR w _ ((cs.drop 0).take (prog.cellsOf 39)) at C;rw[A1p] at C;have h1:=hf 1 _ rfl;change _=some y1 at h1;obtain⟨a1,r1,b1⟩:=Sp underlying4 h1;change RR w _ ((cs.drop 1).take (prog.cellsOf 4)) at r1;rw[Mw] at r1;have h2:=hf 2 _ rfl;change _=some y2 at h2;obtain⟨a2,M,f2,b2⟩:=So underlying2 h2;change RR w _ ((cs.drop 2).take (prog.cellsOf 2)) at M;rw[Qf] at M;have h3:=hf 3 _ rfl;change _=some y3 at h3;obtain⟨a3,N,b3⟩:=Sn underlying9 h3;change RR w _ ((cs.drop 3).take (prog.cellsOf 9)) at N;rw[Gp] at N;have h4:=hf 4 _ rfl;change _=some y4 at h4;obtain⟨a4,O,b4,p4⟩:=L6 A7 wtV Sm underlying40 FZ Dq' AH (λU cs x hm h=>Z U Om cs x h) h4;change RR w _ ((cs.drop 4).take (prog.cellsOf 40)) at O;rw[VS] at O;have h5:=hf 5 _ rfl;change _=some y5 at h5;obtain⟨a5,V,b5,p5⟩:=L6 A8 (λy=>y.1.size+wtV y.2) (λy=>y.1.size<=1048576/\Sm y.2) underlying41 Nd Dq' H7 (λU cs x hm h=>rdb_M U (λa6 a7=>Z a6 Om) cs x h) h5;change RR w _ ((cs.drop 5).take (prog.cellsOf 41)) at V;rw[Tl] at V;have q4:=b4;have q5:=b5;refine⟨.mk a0 a1 a2 a3 a4 a5,?_,?_,λa8=>?_⟩;rotate_left
 ·rw[LK];simp only[GV.s,GV.list,GV.obj];rw[TT,TU];omega
 ·have k4:=p4 Om;have k5:=p5 Om;have h2:=wf64 f2;exact .mk a0 a1 a2 a3 a4 a5 Om Om k4 (λz Y=>(k5 z Y).2) h2 Om (λz Y=>(k5 z Y).1)
 have e:=(RR.step (off:=0) (k:=1) C (RR.step (off:=1) (k:=1) r1 (RR.step (off:=2) (k:=1) M (RR.step (off:=3) (k:=1) N (RR.step (off:=4) (k:=1) O (RR.step (off:=5) (k:=1) V (RR.fin hl)))))))
 rw[A3];simpa[A2c,GV.kind,GV.b,GV.n,GV.s,GV.list,GV.obj,GM.kind,GM.key,GM.to,GM.n,GM.had,GM.was,GM.has,GM.value,GM.list,encI] using e
def rdb_U:∀(n:Nat) (cs:List Value) (x:DataW H×List MemPlace),DataW.trod enc prog w 0 sp held n 46 cs=some x->∃y:GM,RR w (Ai y) cs/\(wtU y+AY y)+1<=bk x/\(bk x<=1048576->SmU y):=by
 intro n
 induction n using Nat.strongRecOn with
 |_ n ih=>
 intro cs x h;obtain⟨m,xs,rfl,hl,hb,hn,hf⟩:=P8 underlying46 h;obtain⟨y0,y1,y2,y3,y4,y5,y6,y7,y8,rfl⟩:=list9 hn;simp only[A2m,A2E,List.sum_cons,List.sum_nil] at hb;rw[HM] at hl;have h0:=hf 0 _ rfl;change _=some y0 at h0;obtain⟨a0,C,f0,b0⟩:=So underlying38 h0;change RR w _ ((cs.drop 0).take (prog.cellsOf 38)) at C;rw[Tk] at C;have h1:=hf 1 _ rfl;change _=some y1 at h1;obtain⟨a1,r1,b1⟩:=Sn underlying9 h1;change RR w _ ((cs.drop 1).take (prog.cellsOf 9)) at r1;rw[Gp] at r1;have h2:=hf 2 _ rfl;change _=some y2 at h2;obtain⟨a2,M,b2⟩:=Sn underlying9 h2;change RR w _ ((cs.drop 2).take (prog.cellsOf 9)) at M;rw[Gp] at M;have h3:=hf 3 _ rfl;change _=some y3 at h3;obtain⟨a3,N,f3,b3⟩:=So underlying2 h3;change RR w _ ((cs.drop 3).take (prog.cellsOf 2)) at N;rw[Qf] at N;have h4:=hf 4 _ rfl;change _=some y4 at h4;obtain⟨a4,O,b4⟩:=Sp underlying4 h4;change RR w _ ((cs.drop 4).take (prog.cellsOf 4)) at O;rw[Mw] at O;have h5:=hf 5 _ rfl;change _=some y5 at h5;obtain⟨a5,U,b5,p5⟩:=rdb_V _ _ _ h5;change RR w _ ((cs.drop 5).take (prog.cellsOf 43)) at U;rw[FZ] at U;have h6:=hf 6 _ rfl;change _=some y6 at h6;obtain⟨a6,V,b6⟩:=Sp underlying4 h6;change RR w _ ((cs.drop 11).take (prog.cellsOf 4)) at V;rw[Mw] at V;have h7:=hf 7 _ rfl;change _=some y7 at h7;obtain⟨a7,Y,b7,p7⟩:=rdb_V _ _ _ h7;change RR w _ ((cs.drop 12).take (prog.cellsOf 43)) at Y;rw[FZ] at Y;have h8:=hf 8 _ rfl;change _=some y8 at h8;obtain⟨Z,r8,b8,p8⟩:=L6 Ai (λy=>wtU y+AY y) SmU underlying44 HM Dq' AB (λm' cs x hm h=>ih m' Om cs x h) h8;change RR w _ ((cs.drop 18).take (prog.cellsOf 44)) at r8;rw[Qz] at r8;refine⟨.mk a0 a1 a2 a3 a4 a5 a6 a7 Z,?_,?_,λa9=>?_⟩;rotate_left
 ·rw[J4,DM];simp only[GM.key,GM.to,GM.was,GM.value,GM.list];have:=uSum Z;omega
 ·have k8:=p8 Om;have:=uSum Z;exact .mk _ (p5 Om) (p7 Om) (by simp only[GM.key];omega) (by simp only[GM.to];omega) (by simp only[GM.list];omega) k8
 have e:=(RR.step (off:=0) (k:=1) C (RR.step (off:=1) (k:=1) r1 (RR.step (off:=2) (k:=1) M (RR.step (off:=3) (k:=1) N (RR.step (off:=4) (k:=1) O (RR.step (off:=5) (k:=6) U (RR.step (off:=11) (k:=1) V (RR.step (off:=12) (k:=6) Y (RR.step (off:=18) (k:=1) r8 (RR.fin hl))))))))))
 rw[Ay];simpa[A2c,GV.kind,GV.b,GV.n,GV.s,GV.list,GV.obj,GM.kind,GM.key,GM.to,GM.n,GM.had,GM.was,GM.has,GM.value,GM.list,encI] using e
end
def A4l:prog.cellsOf 74=7:=Kq'
def A4h:prog.cellsOf 22=1:=Kq'
def A4i:prog.cellsOf 58=20:=Kq'
def A4o:prog.cellsOf 23=1:=Kq'
def A4k:prog.cellsOf 24=1:=Kq'
def A4q:prog.cellsOf 26=6:=Kq'
def A4m{n:Int}(h:(Lit.int .u64 n).wf=true):∃m:Nat,n=m/\m<18446744073709551616:=by
 simp only[Lit.wf,A2i,decide_eq_true_eq] at h;simp[IntKind.min,IntKind.max,IntKind.signed,IntKind.bits] at h;exact⟨n.toNat,Om,Om⟩
section
variable{H:Type}{enc:TypeId×Value->H}{w:World}{sp:Nat->Bool}{held:Bool}
def rdb_E:∀(n:Nat) (cs:List Value) (x:DataW H×List MemPlace),DataW.trod enc prog w 0 sp held n 74 cs=some x->∃y:GE,RR w (A8 y) cs/\(y.1.size+wtV y.2)+1<=bk x/\(bk x<=1048576->y.1.size<=1048576/\Sm y.2):=by
 intro n;intro cs x h;obtain⟨m,Y,rfl,hl,hb,hn,hf⟩:=P8 underlying74 h;obtain⟨M,N,rfl⟩:=list2 hn;simp only[A2m,A2E,List.sum_cons,List.sum_nil] at hb;rw[A4l] at hl;have h0:=hf 0 _ rfl;change _=some M at h0;obtain⟨O,C,b0⟩:=Sn underlying9 h0;change RR w _ ((cs.drop 0).take (prog.cellsOf 9)) at C;rw[Gp] at C;have h1:=hf 1 _ rfl;change _=some N at h1;obtain⟨U,r1,b1,V⟩:=rdb_V _ _ _ h1;change RR w _ ((cs.drop 1).take (prog.cellsOf 43)) at r1;rw[FZ] at r1;refine⟨(O,U),?_,?_,λZ=>?_⟩;rotate_left
 ·simp only;omega
 ·exact⟨by simp only;omega,V Om⟩
 have e:=(RR.step (off:=0) (k:=1) C (RR.step (off:=1) (k:=6) r1 (RR.fin hl)))
 rw[Aj];simpa[A2c,GV.kind,GV.b,GV.n,GV.s,GV.list,GV.obj,GM.kind,GM.key,GM.to,GM.n,GM.had,GM.was,GM.has,GM.value,GM.list,encI] using e
def rdb_N:∀(n:Nat) (cs:List Value) (x:DataW H×List MemPlace),DataW.trod enc prog w 0 sp held n 58 cs=some x->∃y:GN,RR w (AN y) cs/\(wtU y.m+AY y.m)+1<=bk x/\(bk x<=1048576->SmU y.m/\0<=y.id/\y.id<18446744073709551616):=by
 intro n;intro cs x h;obtain⟨m,Y,rfl,hl,hb,hn,hf⟩:=P8 underlying58 h;obtain⟨M,N,rfl⟩:=list2 hn;simp only[A2m,A2E,List.sum_cons,List.sum_nil] at hb;rw[A4i] at hl;have h0:=hf 0 _ rfl;change _=some M at h0;obtain⟨O,C,f0,b0⟩:=So underlying22 h0;change RR w _ ((cs.drop 0).take (prog.cellsOf 22)) at C;rw[A4h] at C;have h1:=hf 1 _ rfl;change _=some N at h1;obtain⟨U,r1,b1,V⟩:=rdb_U _ _ _ h1;change RR w _ ((cs.drop 1).take (prog.cellsOf 46)) at r1;rw[HM] at r1;refine⟨⟨O,U⟩,?_,?_,λZ=>?_⟩;rotate_left
 ·simp only;omega
 ·obtain⟨m,rfl,hm⟩:=A4m f0;exact⟨V Om,by simp only;omega,by simp only;omega⟩
 have e:=(RR.step (off:=0) (k:=1) C (RR.step (off:=1) (k:=19) r1 (RR.fin hl)))
 rw[Lw];simpa using e
def rdb_I(n:Nat)(cs:List Value)(x:DataW H×List MemPlace)(h:DataW.trod enc prog w 0 sp held n 26 cs=some x)(hk:bk x<=1048576):∃(c k a n:Nat) (B:Lga) (L:List GN),RR w (imL c k a n B L) cs/\ImRd c k a n B L:=by
 obtain⟨m,xs,rfl,hl,hb,hn,hf⟩:=P8 underlying26 h;obtain⟨y0,y1,y2,y3,y4,y5,rfl⟩:=list6 hn;simp only[A2m,A2E,List.sum_cons,List.sum_nil] at hb;rw[A4q] at hl;have h0:=hf 0 _ rfl;change _=some y0 at h0;obtain⟨a0,M,f0,b0⟩:=So underlying22 h0;change RR w _ ((cs.drop 0).take (prog.cellsOf 22)) at M;rw[A4h] at M;have h1:=hf 1 _ rfl;change _=some y1 at h1;obtain⟨a1,r1,f1,b1⟩:=So underlying22 h1;change RR w _ ((cs.drop 1).take (prog.cellsOf 22)) at r1;rw[A4h] at r1;have h2:=hf 2 _ rfl;change _=some y2 at h2;obtain⟨a2,N,f2,b2⟩:=So underlying22 h2;change RR w _ ((cs.drop 2).take (prog.cellsOf 22)) at N;rw[A4h] at N;have h3:=hf 3 _ rfl;change _=some y3 at h3;obtain⟨a3,O,f3,b3⟩:=So underlying22 h3;change RR w _ ((cs.drop 3).take (prog.cellsOf 22)) at O;rw[A4h] at O;have h4:=hf 4 _ rfl;change _=some y4 at h4;obtain⟨a4,U,b4,p4⟩:=L6 A8 (λy=>y.1.size+wtV y.2) (λy=>y.1.size<=1048576/\Sm y.2) underlying23 A4l Dq' H7 (λV cs x hm h=>rdb_E V cs x h) h4;change RR w _ ((cs.drop 4).take (prog.cellsOf 23)) at U;rw[A4o] at U;have h5:=hf 5 _ rfl;change _=some y5 at h5;obtain⟨a5,Y,b5,p5⟩:=L6 AN (λy=>wtU y.m+AY y.m) (λy=>SmU y.m/\0<=y.id/\y.id<18446744073709551616) underlying24 A4i Dq' Fc (λV cs x hm h=>rdb_N V cs x h) h5;change RR w _ ((cs.drop 5).take (prog.cellsOf 24)) at Y;rw[A4k] at Y;obtain⟨c,rfl,hc⟩:=A4m f0;obtain⟨k,rfl,a6⟩:=A4m f1;obtain⟨a,rfl,ha⟩:=A4m f2;obtain⟨n,rfl,a7⟩:=A4m f3;have k4:=p4 Om;have k5:=p5 Om;refine⟨c,k,a,n,a4,a5,?_,hc,a6,ha,a7,λe Z=>?_,λy C=>(k5 y C).2,λy C=>(k5 y C).1,λy C=>?_,λy C=>?_⟩
 ·have e:=(RR.step (off:=0) (k:=1) M (RR.step (off:=1) (k:=1) r1 (RR.step (off:=2) (k:=1) N (RR.step (off:=3) (k:=1) O (RR.step (off:=4) (k:=1) U (RR.step (off:=5) (k:=1) Y (RR.fin hl)))))))
  simpa using e
 ·have:e.1.size+wtV e.2<=(List.map (λy:Baa×GV=>y.1.size+wtV y.2) a4).sum:=YR (f:=λy:Baa×GV=>y.1.size+wtV y.2) Z;exact⟨(k4 e Z).1,(k4 e Z).2,Om⟩
 ·have:=YR (f:=λy:GN=>wtU y.m+AY y.m) C;omega
 ·have:=YR (f:=λy:GN=>wtU y.m+AY y.m) C;omega
end
section
variable{P:Program}{w:World}
def A4c:∀ {l:List (String×DataW Unit)} {ps:List MemPlace},DataW.LaidVars P w l ps->∀n d,(n,d) ∈ l->∃g t cs C p,P.globalNamed n=some g/\(P.globals[g]?).map (·.type)=some t/\w.var? P n=some cs/\DataW.trod (λ_=>()) P w 0 (λ_=>true) false C t cs.toList=some (d,p)
 |[],_,_,n,d,h=>by simp at h
 |(n',d')::r,ps,⟨g,t,cs,C,p,q,h1,h2,h3,h4,h5,_⟩,n,d,h=>by
  rw[A2s] at h;rcases h with h|h
  ·cases h;exact⟨g,t,cs,C,p,h1,h2,h3,h4⟩
  ·exact A4c h5 n d h
def A4e{n:String}{cs:Array Value}(C:P.globalNamed n=some g)(h:w.var? P n=some cs):∃T fz,w.heap[g]? =some (.cells cs T fz):=by
 unfold World.var? at h;rw[C] at h;simp only[Option.bind_some] at h;split at h
 ·rename_i M T fz hh;cases h;exact⟨T,fz,hh⟩
 ·cases h
def Held(w:World)(g:Nat)(l:List Value):Prop:=∃T fz,w.heap[g]? =some (.cells l.toArray T fz)
def A4b{C:List (String×DataW Unit)}{name:String}{d:DataW Unit}{l:List Value}(hm:laidMet P C w){i:Nat}(N:C[i]? =some (name,d))
  (O:P.globalNamed name=some g) (U:(P.globals[g]?).map (·.type)=some t) (hc:∀(M:Nat) (cs:List Value) (p:List MemPlace),DataW.trod (λ_=>()) P w 0 (λ_=>true) false M t cs=some (d,p)->cs=l):Held w g l:=by
 obtain⟨ps,hl,_⟩:=hm;obtain⟨Z,t',cs,M,p,h1,h2,V,Y⟩:=A4c hl _ _ (List.mem_of_getElem? N);obtain rfl:=Option.some.inj (O.symm.trans h1);obtain rfl:=Option.some.inj (U.symm.trans h2);obtain⟨T,fz,hb⟩:=A4e h1 V;have:=hc _ _ _ Y;refine⟨T,fz,?_⟩;rw[<-this];simpa using hb
def A47{C:List (String×DataW Unit)}{name:String}{k:IntKind}{zs:List Int}{e:TypeId}{n:Nat}(hm:laidMet P C w)(i:Nat)(M:C[i]? =some (name,(Lib.tabData k zs:DataW Unit)))
  (N:P.globalNamed name=some g) (O:(P.globals[g]?).map (·.type)=some t) (ht:P.underlying t=some (.array n e)) (U:P.underlying e=some (.int k)) (V:P.cellsOf e=1) (Y:P.cellsOf t=n):Held w g (zs.map λz=>Value.int k z):=
 A4b hm M N O λ_ _ _ h=>Lib.cells_of_tab ht U V Y h
def A49{k:IntKind}:∀(zs:List (Int×Int)) (cs:List Value),cs.length=2*zs.length->(∀(i:Nat) z,zs[i]? =some z->(cs.drop (i*2)).take 2=[.int k z.1,.int k z.2])->cs=zs.flatMap λz=>[.int k z.1,.int k z.2]
 |[],cs,h,_=>by simpa using h
 |z::zs,cs,h,hh=>by
  match cs,h with
  |[],h=>simp at h
  |[_],h=>simp at h;omega
  |a::b::cs,h=>
   have h0:=hh 0 z rfl;simp at h0;obtain⟨rfl,rfl⟩:=h0;have:=A49 zs cs (by simp at h;omega) λi y C=>by
    have:=hh (i+1) y (by simpa using C);rwa[show(i+1)*2=i*2+2 from by omega,List.drop_succ_cons,List.drop_succ_cons] at this
   simp[<-this]
def A4d{M:List (String×DataW Unit)}{name:String}{k:IntKind}{zs:List (Int×Int)}{e u:TypeId}{n:Nat}{f0 f1:Field}(hm:laidMet P M w)(i:Nat)(a4:M[i]? =some (name,.agg (zs.map λz=>.agg [.lit (.int k z.1),.lit (.int k z.2)])))
  (hg:P.globalNamed name=some g) (a5:(P.globals[g]?).map (·.type)=some t) (ht:P.underlying t=some (.array n e)) (he:P.underlying e=some (.struct #[f0,f1])) (N:P.underlying u=some (.int k)) (O:f0.type=u/\f0.offset=0) (U:f1.type=u/\f1.offset=1) (V:P.cellsOf u=1) (Y:P.cellsOf e=2) (a6:P.cellsOf t=2*n):Held w g (zs.flatMap λz=>[Value.int k z.1,Value.int k z.2]):=by
 refine A4b hm a4 hg a5 λa7 cs p h=>?_;obtain⟨Z,m,rfl,hx,hl,a8,hf⟩:=DataW.trod_array ht h;have a2:Z.map (·.1)=zs.map λz=>(DataW.agg [.lit (.int k z.1),.lit (.int k z.2)]:DataW Unit):=by
  have:=congrArg Prod.fst hx;simpa using this.symm
 have a9:zs.length=n:=by
  have:=congrArg List.length a2;simp at this;omega
 refine A49 zs cs Om λi z hz=>?_;have hi:i<n:=by have:=(List.getElem?_eq_some_iff.1 hz).1;omega
 have h1:=hf i hi;rw[Y] at h1;generalize(cs.drop (i*2)).take 2=c at h1;rw[A2f Om] at h1;obtain⟨y0,y1,m',hy,a3,a0,a1⟩:=ChangeShapes.trod_struct2 he h1;rw[O.1,O.2,V] at a0;rw[U.1,U.2,V] at a1;obtain⟨n0,c0,rfl,_⟩:=DataW.trod_int N a0;obtain⟨n1,c1,rfl,_⟩:=DataW.trod_int N a1;have C:(zs.map λz=>(DataW.agg [.lit (.int k z.1),.lit (.int k z.2)]:DataW Unit))[i]? =some (Z[i].1):=by rw[<-a2,A2X,A2f Om];rfl
 rw[A2X,hz,hy] at C;simp only[A3g,A2j,DataW.agg.injEq,List.cons.injEq,DataW.lit.injEq,Lit.int.injEq,true_and,and_true] at C;obtain⟨rfl,rfl⟩:=C;rw[Y] at a3
 match c,a3 with
 |[a,b],_=>
  simp at c0 c1;rw[c0,c1]
def gin_of(h:∀p ∈ gTabs,∀g,P.globalNamed p.1=some g->Held w g p.2):GIn P w λk=>k<w.heap.size:=by
 intro g l hl;unfold No at hl;rw[Option.map_eq_some_iff] at hl;obtain⟨p,hp,rfl⟩:=hl;have h1:=List.find?_some hp;simp at h1;obtain⟨T,fz,hh⟩:=h p (List.mem_of_find?_eq_some hp) g h1;exact⟨(A2H.1 hh).1,T,fz,hh⟩
end
end Go.Ab
namespace Go.Ab
open Go.Proofs Go.Proofs.Tryz Go.Proofs.YtmobnaefbcegbaaGreatDoor Go.RowKit
variable{P:Program}
def gnum{n:String}{g k:Nat}(h:P.globalNamed n=some k)(C:P.globalNamed n=some g):g=k:=Option.some.inj (C.symm.trans h)
def A4a{w:World}{H:Type}{enc:TypeId×Value->H}{base:Nat}{sp:Nat->Bool}{held:Bool}{C:Nat}{t e:TypeId}{n:Nat}{cs:List Value}{zs:List (Lua)}{p:List MemPlace}
  (ht:P.underlying t=some (.array n e)) (Y:P.underlying e=some .string) (Z:P.cellsOf e=1) (a0:P.cellsOf t=n)
  (h:DataW.trod enc P w base sp held C t cs=some (.agg (zs.map λz=>.lit (.string z)),p)):cs=zs.map λz=>Value.string ⟨⟨z⟩⟩:=by
 cases C with
 |zero=>simp [DataW.trod] at h
 |succ C=>
  simp only[DataW.trod,ht,Z,a0,Nat.mul_one] at h;split at h
  ·rename_i hl;obtain⟨M,hm,hx⟩:=Option.map_eq_some_iff.1 h;have N:M.map (·.1)=zs.map λz=>(DataW.lit (.string z):DataW H):=by
    have:=congrArg Prod.fst hx;simpa using this
   have a3:M.length=n:=by simpa using Lib.mapM_length hm
   have a4:zs.length=n:=by
    have:=congrArg List.length N;simp at this;omega
   apply A3F;intro i;by_cases hi:i<n
   ·obtain⟨b,hb,hf⟩:=Lib.mapM_at hm i i (by simp[hi]);have h2:(M.map (·.1))[i]? =some b.1:=by simp[hb]
    rw[N] at h2;simp only[A2X,Option.map_eq_some_iff] at h2;obtain⟨O,a1,U⟩:=h2;have V:i<cs.length:=Om;have a2:(cs.drop i).take 1=[cs[i]]:=by
     rw[List.drop_eq_getElem_cons V];rfl
    rw[a2] at hf;have h1:cs[i]=.string ⟨⟨O⟩⟩:=by
     cases C with
     |zero=>simp [DataW.trod] at hf
     |succ C=>
      generalize cs[i]=c at hf;cases c<;>simp only[DataW.trod,Y] at hf<;>first|(cases hf;done)|skip
      rename_i s;split at hf
      ·cases hf;simp only[DataW.lit.injEq,Lit.string.injEq] at U;obtain⟨⟨s⟩⟩:=s;have:O=s:=U;rw[this]
      ·cases hf
    simp[a1,A2f V,h1]
   ·rw[List.getElem?_eq_none Om,List.getElem?_eq_none So']
  ·cases h
def A4f{w:World}{C:List (String×DataW Unit)}{name:String}{zs:List (Lua)}{g:Nat}{t e:TypeId}{n:Nat}(hm:laidMet P C w)(i:Nat)(M:C[i]? =some (name,(.agg (zs.map λz=>.lit (.string z)):DataW Unit)))
  (N:P.globalNamed name=some g) (O:(P.globals[g]?).map (·.type)=some t) (ht:P.underlying t=some (.array n e)) (U:P.underlying e=some .string) (V:P.cellsOf e=1) (Y:P.cellsOf t=n):Held w g (zs.map λz=>Value.string ⟨⟨z⟩⟩):=
 A4b hm M N O λ_ _ _ h=>A4a ht U V Y h
set_option maxRecDepth 100000 in
def gin8{W:World}(M:laidMet prog [("math/bits.deBruijn32tab",Rows.laid_math_bits_deBruijn32tab),("math/bits.deBruijn64tab",Rows.laid_math_bits_deBruijn64tab),("internal/strconv.uint64pow10",Rows.laid_internal_strconv_uint64pow10),("unicode/utf8.acceptRanges",Rows.laid_unicode_utf8_acceptRanges),("strconv.ErrRange",Rows.laid_strconv_ErrRange),("strconv.ErrSyntax",Rows.laid_strconv_ErrSyntax),("commonplace/mutator.names",Rows.laid_commonplace_mutator_names),("unicode/utf8.first",Rows.laid_unicode_utf8_first)] W):GIn prog W λk=>k<W.heap.size:=by
 refine gin_of λp hp g C=>?_;simp only[gTabs,A2s,A3b,or_false] at hp;rcases hp with rfl|rfl|rfl|rfl|rfl|rfl
 ·obtain rfl:=gnum (k:=1) Kq' C;exact A47 (t:=358) (e:=5) (n:=256) (k:=.u8) (zs:=List.replicate 128 (240:Int)++List.replicate 66 241++List.replicate 30 2++[19]++List.replicate 12 3++[35,3,3,52,4,4,4,68]++List.replicate 11 241) M 7 Kq' C Kq' Kq' Kq' Kq' Kq'
 ·obtain rfl:=gnum (k:=2) Kq' C;have h:=A4d (t:=361) (e:=360) (u:=5) (n:=16) (k:=.u8) (zs:=[((128:Int),(191:Int)),(160,191),(128,159),(144,191),(128,143)]++List.replicate 11 (0,0)) M 3 Kq' C Kq' Kq' underlying360 Kq' ⟨rfl,rfl⟩ ⟨rfl,rfl⟩ Kq' Kq' Kq';exact(show(([((128:Int),(191:Int)),(160,191),(128,159),(144,191),(128,143)]++List.replicate 11 (0,0)).flatMap λz:Int×Int=>[Value.int .u8 z.1,Value.int .u8 z.2])=EB by kernel_rfl)▸h
 ·obtain rfl:=gnum (k:=4) Kq' C;exact A47 (t:=444) (e:=22) (n:=20) (k:=.u64) (zs:=[1,10,100,1000,10000,100000,1000000,10000000,100000000,1000000000,10000000000,100000000000,1000000000000,10000000000000,100000000000000,1000000000000000,10000000000000000,100000000000000000,1000000000000000000,10000000000000000000]) M 2 Kq' C Kq' Kq' Kq' Kq' Kq'
 ·obtain rfl:=gnum (k:=5) Kq' C;exact A47 (t:=480) (e:=5) (n:=32) (k:=.u8) (zs:=[0,1,28,2,29,14,24,3,30,22,20,15,25,17,4,8,31,27,13,23,21,19,16,7,26,12,18,6,11,5,10,9]) M 0 Kq' C Kq' Kq' Kq' Kq' Kq'
 ·obtain rfl:=gnum (k:=6) Kq' C;exact A47 (t:=481) (e:=5) (n:=64) (k:=.u8) (zs:=[0,1,56,2,57,49,28,3,61,58,42,50,38,29,17,4,62,47,59,36,45,43,51,22,53,39,33,30,24,18,12,5,63,55,48,27,60,41,37,16,46,35,44,21,52,32,23,11,54,26,40,15,34,20,31,10,25,14,19,9,13,8,7,6]) M 1 Kq' C Kq' Kq' Kq' Kq' Kq'
 ·obtain rfl:=gnum (k:=0) Kq' C;exact A4f (t:=313) (e:=9) (n:=8) (zs:=[[],[112,117,116],[100,101,108],[105,110,99],[99,97,115],[97,112,112,101,110,100],[109,111,118,101],[115,101,113]]) M 6 Kq' C Kq' Kq' Kq' Kq' Kq'
end Go.Ab
namespace Go.Ab
noncomputable section
open Go.ChangeAt Go.ChangeShapes Go.RowKit Go.WideShapes
section
variable{H:Type}{enc:TypeId×Value->H}{P:Program}{W W':World}
def A48{base:Nat}{M:Nat->Bool}{held:Bool}:∀ {ts:List TypeId} {vs:List Value} {ds:List (DataW H)} {ps:List MemPlace},DataW.TrodAll enc P W base M held ts vs ds ps->(∀x ∈ ps,W.sameAt W' x)->DataW.TrodAll enc P W' base M held ts vs ds ps
 |[],[],[],_,h,_=>h
 |_::_,_::_,_::_,_,⟨p,q,⟨n,hn⟩,h2,e⟩,hs=>⟨p,q,⟨n,DataW.trod_carry n _ _ _ hn λx C=>hs x (by rw[e];exact List.mem_append_left _ C)⟩,A48 h2 λx C=>hs x (by rw[e];exact List.mem_append_right _ C),e⟩
def post_true{f:Func}{s:ChangeSpec}{apart fresh a6 a7:Bool}{args:Array Value}{ds O:List (DataW H)}{a8:List MemPlace}{U:TypeId}(K:Kids P (· <P.types.size))(hz:∀t e,t<P.types.size->P.underlying t=some (.slice e)->0<P.cellsOf e)
  (a9:∀t ∈ f.params.toList,t<P.types.size) (V:s.vars=[]) (Y:f.resultTypes=#[U]) (Z:P.underlying U=some .bool) (M:s.fn H (ds++O)= {results:=[.lit (.bool true)],args:=ds})
  (hW:DataW.Whole enc P f.params.toList s.vars apart W args.toList ds O a8) (hb:Below W.heap.size W W'):s.post enc P f apart fresh a6 a7 W args (.bool true) W':=by
 have a0:=hW;obtain⟨p,q,hA,hV,rfl,aa,ab⟩:=hW;have a1:=hV;rw[V] at a1;obtain⟨rfl,rfl⟩:=trodVars_none a1;have N:∀x ∈ p,x.block<W.heap.size:=λx C=>a0.lt x (by simpa using C);have ac:=A48 (W':=W') hA λx C=>hb.same (N x C);have a2:∀sp:Nat->Bool,(∀x ∈ p,sp x.block=true)->DataW.TrodAll enc P W' 0 sp true f.params.toList args.toList ds p:=λsp ad=>DataW.TrodAll.respare K hz a9 ac ad;have a3:∀(b:Nat) (sp:Nat->Bool) (hd:Bool),DataW.TrodAll enc P W' b sp hd f.resultTypes.toList ((Value.bool true).resultList f.resultTypes.size) [.lit (.bool true)] []:=by
  intro b sp hd;rw[Y];exact trodAll_mk1 ⟨1,by simp[DataW.trod,Value.cells,Z]⟩
 have a4:∀sp:Nat->Bool,DataW.TrodVars enc P W' sp s.vars [] []:=by
  intro sp;rw[V];rfl
 refine⟨ds,[],p++[],[],p,[],a0,?_,?_,?_,hb.frame _,λ_=>?_⟩
 ·rw[M];exact a3 _ _ _
 ·rw[M];exact a2 _ λx C=>by simpa using N x C
 ·rw[M];exact a4 _
 ·refine⟨ok_one Y rfl (okWide_bool_mk Z _),_,_,([]++p)++[],⟨[]++p,[],trodAll_append (a2 _ (λ_ _=>rfl)) (a3 _ _ _),a4 _,rfl,?_,?_⟩,?_⟩
  ·intro b off hp;have a5:MemPlace.cell b off ∈ p:=by simpa using hp
   rw[hb.frozen (N _ a5)];exact aa b off (by simpa using a5)
  ·intro ha;have:=ab ha;simpa using this
  ·intro x C _;simpa using C
end
mutual
def flatW:DataW Unit->List Value
 |.lit l=>[l.value]
 |.agg ps=>flatWs ps
 |_=>[]
def flatWs:List (DataW Unit)->List Value
 |[]=>[]
 |d::l=>flatW d++flatWs l
end
def layOne(P:Program)(ty:String->Option TypeId)(h:Array Obj)(x:String×DataW Unit):Array Obj:=match P.globalNamed x.1 with
 |some g=>(match x.2 with
  |.iface n (.ptr d)=>(match ty n with
   |some u=>(match P.underlying u with
    |some (.pointer e)=>(h.push (.cells (flatW d).toArray e (0,0))).modify g fun
     |.cells _ t frozen=>.cells #[.iface u (.pointer (some ⟨h.size,0,none⟩))] t frozen
     |o=>o
    |_=>h)
   |none=>h)
  |d=>h.modify g fun
   |.cells _ t frozen=>.cells (flatW d).toArray t frozen
   |o=>o)
 |none=>h
def laidWorldE(P:Program)(ty:String->Option TypeId)(laid:List (String×DataW Unit))(os:Os):World:=
 {World.holding P os ⟨#[],#[],[]⟩ with heap:=laid.foldl (layOne P ty) (World.holding P os ⟨#[],#[],[]⟩).heap}
end
end Go.Ab
