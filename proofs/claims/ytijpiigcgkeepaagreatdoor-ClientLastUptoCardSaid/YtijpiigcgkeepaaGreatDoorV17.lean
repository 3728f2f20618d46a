/- The program is walked: part 18 of 19. -/
import Derived.Test.YtijpiigcgkeepaaGreatDoorV16
import Derived.ChangeArms
import Derived.DataReads
import Derived.Test.YtijpiigcgkeepaaGreatDoorRows
import Derived.Lib.LaidTab
import Derived.OpenShut
import Derived.ProofKit
import Derived.ReadAgain
import Derived.Below
import Derived.Deep.DeepHandedRow
import Derived.Deep.DeepLaidRun
set_option maxHeartbeats 4000000
set_option maxRecDepth 20000
set_option linter.all false
namespace Go.Ab
open Go.Proofs Go.Proofs.Tryz
structure LI(L:List GN):Prop where
 len:L.length<=40
 sm:∀x ∈ L,SmU x.m
 wt:∀x ∈ L,wtU x.m<=1048576
 sz:∀x ∈ L,AY x.m<=1099511627776
noncomputable def Cq(B:Lga)(L:List GN):Nat->Lga
 |0=>B
 |i+1=>(DN (L.getD i zN).m (Cq B L i)).2
def runL_ok{m:GM}{L:Lga}(hm:SmU m)(C:VOk L):VOk (DN m L).2/\(DN m L).2.length<=L.length+64:=by
 unfold DN;by_cases hc:Ec Ao m=0
 ·rw[if_neg (by simpa using hc)];obtain⟨a,b⟩:=KX m L hm C;refine⟨a,?_⟩;have:AY m<=64:=by
   unfold Ec at hc;rcases A2z 64 (AY m) with h|h
   ·rw[if_pos h] at hc;cases hc
   ·exact h
  simp only;omega
 ·rw[if_pos hc];exact⟨C,by simp only;omega⟩
def runL_no{m:GM}{L:Lga}(h:(DN m L).1≠0):(DN m L).2=L:=by
 unfold DN at h|-;split
 ·rfl
 ·rename_i hc;rw[if_neg hc] at h;unfold GL;exact if_neg h
def Ny{B:Lga}(C:VOk B)(hb:B.length<=64){L:List GN}(h:LI L):∀i,i<=L.length->VOk (Cq B L i)/\(Cq B L i).length<=64*i+64
 |0,_=>⟨C,by simpa[Cq] using hb⟩
 |i+1,hi=>by
  obtain⟨a,b⟩:=Ny C hb h i Om;obtain⟨c,d⟩:=runL_ok (h.sm _ (Ae (d:=zN) (by omega:i<L.length))) a;exact⟨c,by show(DN (L.getD i zN).m (Cq B L i)).2.length<=_;omega⟩
noncomputable def Np(B:Lga)(L:List GN)(i:Nat):LLa:=(List.range i).map λj=>[.val (.int .i64 (DN (L.getD j zN).m (Cq B L j)).1)]
def codN_s(B:Lga)(L:List GN)(i:Nat):Np B L (i+1)=Np B L i++[[.val (.int .i64 (DN (L.getD i zN).m (Cq B L i)).1)]]:=by simp[Np,List.range_succ]
def K3(B:Lga)(L:List GN)(i:Nat):Aa (Np B L i)=true:=by
 induction i with
 |zero=>rfl
 |succ i C=>rw [codN_s];exact Dz rfl C
def UG(B:Lga)(hB:VOk B)(hb:B.length<=64)(L:List GN)(h:LI L):A0 prog 66 [AX B,.slice (L.map AN) false] (.tup [AX (Cq B L L.length),.slice (Np B L L.length) false]):=by
 have a3:=h.len;have C:=Bk L;have M:=Ac B;refine Zf [56] func66 rfl ntmps66 results66 ?_
 (have z:=Za C M;push_cast[z]<;>repeat' apply Za)
 refine Zl (λi=>i<=L.length) (λi=>⟨[(7,iD i),(6,.gref 56 i),(0,AX (Cq B L i)),(1,.slice (L.map AN) false)],[(56,.grow (Np B L i) 1)],29⟩) (λi=>L.length-i) 0 (A2w _) ?_ λi hi=>?_
 ·refine Aq.trans (s':=⟨[(6,.slice [] true),(7,iD 0),(0,AX B),(1,.slice (L.map AN) false)],[],28⟩) ?_ (Aq.trans (Aq.nilgrowE 1) ?_)
  ·apply Zw<;>push_cast [C,M]
  ·have d0:Cq B L 0=B:=rfl;have c0:Np B L 0=[]:=rfl;apply Zw<;>push_cast [C,M,d0,c0]
 ·obtain⟨hv,hvl⟩:=Ny hB hb h i hi;have N:=Ac (Cq B L i);have O:=K3 B L i;have lC:(Np B L i).length=i:=by simp[Np]
  push_cast[C,N];refine Ad (λU=>?_) (λU=>?_)
  ·have V:i<L.length:=by simpa using U
   have e1:=SG V;have Y:=Ae (d:=zN) V;have w1:IntKind.i64.wrap ((i:Int)+1)=(i:Int)+1:=A9 Om Om;have hR:=r_Run hv Om (L.getD i zN).m (h.sm _ Y) (h.wt _ Y) (h.sz _ Y);have Z:(DN (L.getD i zN).m (Cq B L i)).2=Cq B L (i+1):=rfl;have hs:=codN_s B L i;rw[Z] at hR;have a0:=Ac (Cq B L (i+1));have a4:=K3 B L (i+1);generalize(DN (L.getD i zN).m (Cq B L i)).1=c at*;rw[Lw] at e1;have oX:=Ax (L.getD i zN).m;have lX:=AB (L.getD i zN).m;have tX:=BQ (L.getD i zN).m;have aX:=C4 (L.getD i zN).m;generalize L.getD i zN=x at*;generalize Ai x.m=X at*;generalize Cq B L i=D1 at*;generalize a1:Cq B L (i+1)=D2 at*;generalize Np B L i=C1 at*
   (have z:=Za C<|Za N<|Za a0<|Za O<|Za lC<|Za e1<|Za oX<|Za lX<|Za tX aX;push_cast[z]<;>repeat' (first|refine Zc hR ?_|apply Za)<;>push_cast[z])
   all_goals first|omega|(intro y hy;cases A2b.1 hy;rfl)|(intro y hy d Z;cases A2b.1 hy;cases A2b.1 Z;rfl)|skip
   refine⟨i+1,V,Om,?_⟩;rw[a1,hs];apply Zr [(56,210)] rfl<;>push_cast [C,a0,O,w1]
  ·have a2:i=L.length:=by simp at U;omega
   subst a2
   (have z:=Za N<|Za O lC;push_cast[z]<;>repeat' apply Za)
abbrev rfL(c k a n s:Int)(B:Lga)(L:List GN):List D:=[uD' c,uD' k,uD' a,uD' n,uD' s,AX B,.slice (L.map AN) false]
abbrev imD(c k a n:Int)(B:Lga)(L:List GN):D:=.agg [uD' c,uD' k,uD' a,uD' n,.slice (B.map A8) false,.slice (L.map AN) false]
def r_Head25(c k a n s:Int)(B:Lga)(M:VOk B)(hb:B.length<=64)(L:List GN)(h:LI L):A0 prog 30 [.ptr (rfL c k a n s B L) 0] (AX (Cq B L L.length)):=by
 have N:=UG B M hb L h;have O:=Bk L;have U:=Ac B;have V:=Ac (Cq B L L.length);have Y:=K3 B L L.length;generalize Np B L L.length=C at*;generalize Cq B L L.length=Z at*;refine Zf [] func30 rfl ntmps30 results30 ?_
 (have z:=Za O<|Za U<|Za V Y;push_cast[z]<;>repeat' (first|refine Zc N ?_|exact Zo|apply Za)<;>push_cast[z])
def A0w(c k a n s:Int)(B:Lga)(L:List GN):A0 prog 32 [.ptr (rfL c k a n s B L) 0] (imD c k a n B L):=by
 have C:=Bk L;have M:=Ac B;refine Zf [] func32 rfl ntmps32 results32 ?_
 (have z:=Za C M;push_cast[z]<;>repeat' (first|exact Zo|apply Za))
def UE(c k a n:Int)(B:Lga)(L:List GN)(h:LI L):A0 prog 31 [imD c k a n B L,imD c k a n B L] (bD true):=by
 have C:=Kr B B;rw[KB] at C;have M:=RV L h.sm (by have:=h.len;omega);have N:=Bk L;have O:Aa (B.map A8)=true:=Ac B;have b1:∀x:Int,(x==x)=true:=λx=>Sq';simp only[imD] at*;generalize L.map AN=Y at*;generalize B.map A8=Z at*;refine Zk [] func31 rfl ntmps31 results31 λH Hb=>?_
 (have z:=Za N<|Za O b1;push_cast[z]<;>repeat' (first|refine Zc C ?_|refine Zc M ?_|apply Za)<;>push_cast[z])
abbrev clP(c k s a:Nat)(B H:D)(L:List GN):D:=.ptr [uD' c,uD' k,uD' s,B,H,.ptr [uD' a,.slice (L.map AN) false] 0] 0
def c_eachG(L:List GN)(h:LI L):A0 prog 51 [.slice (L.map AN) false,.func (.func 52) [] []] (.slice (L.map AN) false):=by
 have a0:=h.len;have C:=Bk L;have N:=H5 (f:=AN) (z:=Ew) Cw (by rfl) L;have V:=Jz AN Ew L;have Z:=H6 AN Ew L (A2e _);have f0:=FJ AN Ew L;refine Zf [26] func51 rfl ntmps51 results51 ?_
 (have z:=C;push_cast[z]<;>repeat' apply Za)<;>try omega
 refine Zl (λi=>i<=L.length) (λi=>⟨[(13,iD i),(12,iD L.length),(11,.slice (L.map AN) false),(5,.sref 26 0 i L.length 20),(1,.func (.func 52) [] [])],[(26,.rows (Gx AN Ew L i) 20)],68⟩) (λi=>L.length-i) 0 (A2w _) ?_ λi hi=>?_
 ·apply Zr [(26,24)] rfl<;>push_cast [f0,C,N]
 ·push_cast[C];refine Ad (λO=>?_) (λO=>?_)
  ·have M:i<L.length:=by simpa using O
   have e1:=SG M;have e2:=JT AN Ew L M;have e3:=H4 AN Ew L zN M;have hT:=Tm (L.getD i zN).id (L.getD i zN).m (h.sm _ (Ae M));have oX:=Cw (L.getD i zN);have lX:=Fc (L.getD i zN);have tX:=QG (L.getD i zN);have aA:=PW (L.getD i zN);have aX:=A2q.1 aA;have w1:IntKind.i64.wrap ((i:Int)+1)=(i:Int)+1:=A9 Om Om;have d1:decide (i+1<=L.length)=true:=Dt';rw[<-Lw] at hT;generalize AN (L.getD i zN)=X at*
   (have z:=Za C<|Za N<|Za e1<|Za e2<|Za w1<|Za d1<|Za oX<|Za lX<|Za tX aA;push_cast[z]<;>repeat' (first|refine Zv hT ?_|apply Za)<;>push_cast[z])
   all_goals first|omega|(intro y U;cases A2b.1 U;exact lX)|(intro y U d hd;cases A2b.1 U;exact aX d hd)|skip
   rw[Ui (es:=Gx AN Ew L i) (i:=i) (by rw[V];omega),e3];refine⟨i+1,Om,Om,?_⟩;apply Zw<;>push_cast [C,N]
  ·have M:i=L.length:=by simp at O;omega
   subst M;rw[Z];have lY:(L.map AN).length=L.length:=Sq';clear N V Z f0;generalize L.map AN=Y at*;have c0:(if L.length<=L.length/\L.length<=L.length/\L.length<=9223372036854775807 then D.slice Y true else .sref 26 0 L.length L.length 20)=.slice Y true:=if_pos ⟨A2e _,A2e _,Om⟩;have tY:Y.take L.length=Y:=A2g Om
   (have z:=Za C<|Za lY<|Za tY c0;push_cast[z]<;>repeat' apply Za)
def c_qAllG(a:Nat)(L:List GN)(h:LI L):A0 prog 44 [.ptr [uD' a,.slice (L.map AN) false] 0] (.slice (L.map AN) false):=by
 have hE:=c_eachG L h;have C:=Bk L;generalize L.map AN=Y at*;refine Zf [] func44 rfl ntmps44 results44 ?_
 (have z:=C;push_cast[z]<;>repeat' (first|refine Zc hE ?_|apply Za)<;>push_cast[z])
def Y8(c k s a:Nat)(hc:0<c)(T:GT)(B:Lga)(M:Dw T B)(hb:B.length<=64)(H:D)(N:H.pure=true)(h1:AV H=true)(L:List GN)(h:LI L)(O:a+L.length<4611686018427387904):
  A0 prog 19 [clP c k s a (Ah T) H L] (imD c k a ((a:Int)+L.length+1) B L):=by
 have U:=NA c hc (uD' k) (uD' s) (Ah T) H (.ptr [uD' a,.slice (L.map AN) false] 0);have hE:=KS T B M Om;have V:=c_qAllG a L h;have hL:=Tp a (.slice (L.map AN) false);have C:=HO a (L.map AN) false (by simpa using O);rw[A2k] at C;have oL:=Bk L;have lL:(L.map AN).length=L.length:=Sq';have oB:Aa (B.map A8)=true:=Ac B;have lB:(B.map A8).length=B.length:=Sq';have oT:=A6 T;have o1:=Bg T;simp only[AF,clP,imD] at*;generalize Ah T=tb at*;generalize L.map AN=Y at*;generalize B.map A8=Z at*;refine Zk [208] func19 rfl ntmps19 results19 λH Hb=>?_
 (have z:=Za oL<|Za oB<|Za lB<|Za oT<|Za o1<|Za N<|Za h1 lL;push_cast[z]<;>repeat' (first|refine Zc U ?_|refine Zc hL ?_|refine Zc C ?_|refine Zs [] hE ?_|refine Zc V ?_|exact Zo|apply Za)<;>push_cast[z])
def A1L(c k s:Nat)(hc:0<c)(B H q:D)(C:B.pure=true)(M:H.pure=true)(oq:q.pure=true):A0 prog 33 [.ptr [uD' c,uD' k,uD' s,B,H,q] 0] (uD' s):=by
 have N:=NA c hc (uD' k) (uD' s) B H q;refine Zk [] func33 rfl ntmps33 results33 λH Hb=>?_
 (have z:=Za C<|Za M oq;push_cast[z]<;>repeat' (first|refine Zc N ?_|apply Za)<;>push_cast[z])
def A1Q(c k s:Nat)(hc:0<c)(B H q:D)(C:B.pure=true)(oq:q.pure=true)(M:H.pure=true)(h1:AV H=true):A0 prog 18 [.ptr [uD' c,uD' k,uD' s,B,H,q] 0] (.agg [H]):=by
 have N:=NA c hc (uD' k) (uD' s) B H q;refine Zk [] func18 rfl ntmps18 results18 λH Hb=>?_
 (have z:=Za C<|Za oq<|Za M h1;push_cast[z]<;>repeat' (first|refine Zc N ?_|apply Za)<;>push_cast[z])
def W4(c k s a:Nat)(hc:0<c)(T H:GT)(B:Lga)(C:Dw T B)(M:VOk B)(hb:B.length<=64)(L:List GN)(h:LI L)(N:Dw H (Cq B L L.length))(hl:(Cq B L L.length).length<=1000)(O:a+L.length<4611686018427387904):
  A0 prog 9 [clP c k s a (Ah T) (Ah H) L,.ptr (rfL c k a ((a:Int)+L.length+1) s B L) 0] (bD true):=by
 have U:=Y8 c k s a hc T B C hb (Ah H) (A6 H) (Bg H) L h O;have V:=A0w c k a ((a:Int)+L.length+1) s B L;have hS:=UE c k a ((a:Int)+L.length+1) B L h;have oq:(D.ptr [uD' a,.slice (L.map AN) false] 0).pure=true:=by simp only[D.pure,An,Bk,A2L]
 have hV:=A1L c k s hc (Ah T) (Ah H) _ (A6 T) (A6 H) oq;have hP:=A1Q c k s hc (Ah T) (Ah H) _ (A6 T) oq (A6 H) (Bg H);have hQ:=r_Head25 c k a ((a:Int)+L.length+1) s B M hb L h;have hE:=c_has H _ N hl;have oL:=Bk L;have oB:Aa (B.map A8)=true:=Ac B;have oT:=A6 T;have o1:=Bg T;have oH:=A6 H;have o2:=Bg H;have oD:Aa ((Cq B L L.length).map A8)=true:=Ac (Cq B L L.length);simp only[AF,AX,clP,imD,rfL] at*;generalize(Cq B L L.length).map A8=DD at*;generalize Ah T=tb at*;generalize Ah H=th at*;generalize L.map AN=Y at*;generalize B.map A8=Z at*;refine Zk [] func9 rfl ntmps9 results9 λH Hb=>?_
 (have z:=Za oL<|Za oB<|Za oT<|Za o1<|Za oH<|Za o2 oD;push_cast[z]<;>repeat' (first|refine Zc U ?_|refine Zc V ?_|refine Zc hS ?_|refine Zc hV ?_|refine Zc hP ?_|refine Zc hQ ?_|refine Zc hE ?_|exact Zo|apply Za)<;>push_cast[z])
abbrev im0(a:Nat):D:=.agg [uD' 1,uD' 0,uD' a,uD' ((a:Int)+1),.slice [] true,.slice [] true]
abbrev im0L(a:Nat):List D:=[uD' 1,uD' 0,uD' a,uD' ((a:Int)+1),.slice [] true,.slice [] true]
def c_gap0(a:Nat)(N:a<=4611686018427387903):A0 prog 50 [im0 a] (bD false):=by
 have c1:decide ((a:Int)+1<=a)=false:=Df';have C:IntKind.u64.wrap ((a:Int)+1-a)=1:=by rw[show(a:Int)+1-a=1 by omega];decide
 have M:IntKind.u64.wrap 0=0:=Dq';refine Zf [] func50 rfl ntmps50 results50 ?_
 (have z:=Za c1<|Za C M;push_cast[z]<;>repeat' apply Za)
 refine AWp.loopI mixed Kq' (ι:=Unit) (λ_=>True) (λ_=>⟨[(26,iD 0),(25,iD 0),(24,.slice [] true),(1,.ref 0 0 0 6)],[(0,.rows [im0L a] 6)],200⟩) (λ_=>0) () trivial ?_ λi hi=>?_
 ·apply Zw<;>push_cast
 ·(push_cast<;>repeat' apply Za)
def c_may0(a:Nat)(C:a<=4611686018427387903):A0 prog 20 [im0 a] (iD 0):=by
 have c1:decide ((4611686018427387903:Int)<a)=false:=Df';have c2:decide ((4611686018427387904:Int)<(a:Int)+1)=false:=Df';have b1:((a:Int)+1==0)=false:=So';have M:=c_gap0 a C;refine Zf [] func20 rfl ntmps20 results20 ?_
 (have z:=Za c1<|Za c2 b1;push_cast[z]<;>repeat' apply Za)
 refine AWp.loopI mixed Kq' (ι:=Unit) (λ_=>True) (λ_=>⟨[(38,iD 0),(37,iD 0),(36,.slice [] true),(1,.ref 0 0 0 6)],[(0,.rows [im0L a] 6)],400⟩) (λ_=>0) () trivial ?_ λi hi=>?_
 ·apply Zw<;>push_cast
 ·(have z:=trivial;push_cast<;>repeat' (first|refine Zc M ?_|apply Za)<;>push_cast)
  refine AWp.loopI mixed Kq' (ι:=Unit) (λ_=>True) (λ_=>⟨[(75,iD 0),(74,iD 0),(73,.slice [] true),(1,.ref 0 0 0 6)],[(0,.rows [im0L a] 6)],800⟩) (λ_=>0) () trivial ?_ λi hi=>?_
  ·apply Zw<;>push_cast
  ·(push_cast<;>repeat' apply Za)
def c_build0:A0 prog 22 [.slice [] true] (.agg [.val (.pointer none)]):=by
 refine Zf [] func22 rfl ntmps22 results22 ?_
 (push_cast<;>repeat' apply Za)
 refine AWp.loopI mixed Kq' (ι:=Unit) (λ_=>True) (λ_=>⟨[(8,iD 0),(7,iD 0),(6,.slice [] true),(3,.ref 8 0 0 1),(2,.ref 0 0 0 1)],[(0,.rows [[.any]] 1),(8,.rows [[.val (.pointer none)]] 1)],100⟩) (λ_=>0) () trivial ?_ λi hi=>?_
 ·apply Zw<;>push_cast
 ·(push_cast<;>repeat' apply Za)
def c_each0:A0 prog 51 [.slice [] true,.func (.func 52) [] []] (.slice [] true):=by
 refine Zf [32] func51 rfl ntmps51 results51 ?_
 (push_cast<;>repeat' apply Za)
 refine AWp.loopI mixed Kq' (ι:=Unit) (λ_=>True) (λ_=>⟨[(13,iD 0),(12,iD 0),(11,.slice [] true),(5,.sref 32 0 0 0 20),(1,.func (.func 52) [] [])],[(32,.rows [] 20)],68⟩) (λ_=>0) () trivial ?_ λi hi=>?_
 ·apply Zr [(32,24)] rfl<;>push_cast
 ·(push_cast<;>repeat' apply Za)
def c_of0(a:Nat)(M:a<=4611686018427387903):A4 prog 21 [uD' a,uD' ((a:Int)+1),.slice [] true] [] (.tup [.ref 0 0 0 2,iD 0]) [(0,.rows [[uD' a,.slice [] true]] 2)]:=by
 have c1:decide ((4611686018427387903:Int)<a)=false:=Df';have c2:decide ((4611686018427387904:Int)<(a:Int)+1)=false:=Df';have b1:((a:Int)+1==0)=false:=So';have b2:((a:Int)+1 !=(a:Int)+1)=false:=Sq';have C:IntKind.u64.wrap ((a:Int)+1)=(a:Int)+1:=TX Om Om;have hE:=c_each0;refine Zd [] func21 rfl ntmps21 results21 ?_
 (have z:=Za c1<|Za c2<|Za b1 C;push_cast[z]<;>repeat' apply Za)
 refine AWp.loopI mixed Kq' (ι:=Unit) (λ_=>True) (λ_=>⟨[(25,iD 0),(24,iD 0),(23,.slice [] true),(8,uD' ((a:Int)+1)),(0,uD' a),(1,uD' ((a:Int)+1)),(2,.slice [] true)],[],100⟩) (λ_=>0) () trivial ?_ λi hi=>?_
 ·apply Zw<;>push_cast [C]
 ·(have z:=b2;push_cast[z]<;>repeat' (first|refine Zc hE ?_|apply Za)<;>push_cast[z])
  apply Zr [(0,264)] rfl<;>push_cast
def c_from0(a:Nat)(C:a<=4611686018427387903):A4 prog 5 [im0 a] [] (.tup [.ref 0 0 0 6,iD 0]) [(0,.rows [[uD' 1,uD' 0,uD' ((a:Int)+1),.val (.pointer none),.val (.pointer none),.ref 2 0 0 2]] 6),(2,.rows [[uD' a,.slice [] true]] 2)]:=by
 have N:=c_may0 a C;have O:=c_of0 a C;have U:=c_build0;have M:=Zu [] true (λ_=>.nil) (λ_=>0) Sq' (λi hi=>by simp at hi);simp only[AF,Bl] at M;refine Zd [] func5 rfl ntmps5 results5 ?_
 (have z:=trivial;push_cast<;>repeat' (first|refine Zc N ?_|refine Zs [] O ?_|refine Zc U ?_|refine Zc M ?_|exact Zp|apply Za)<;>push_cast)
 apply Zr [(0,328),(2,120)] rfl<;>push_cast
def r_From0(a:Nat):A4 prog 6 [im0 a] [] (.ref 0 0 0 7) [(0,.rows [rfL 1 0 a ((a:Int)+1) ((a:Int)+1) [] []] 7)]:=by
 refine Zd [] func6 rfl ntmps6 results6 ?_
 (push_cast<;>repeat' (first|exact Zp|apply Za))
 all_goals first|omega|(intro y C;cases C;done)|skip
 refine Aq.trans (Aq.fzB (b:=176) rfl) ?_;push_cast;refine Aq.trans (Aq.fzB (b:=40) rfl) ?_;push_cast;refine Aq.trans (Aq.fzB (b:=56) rfl) ?_;push_cast;apply Zr [(0,192)] rfl<;>push_cast
def A0x(c k a n s:Int)(B:Lga)(U:VOk B)(hb:B.length<=64)(L:List GN)(h:LI L):A4 prog 30 [.ref 1 0 0 7] [(1,.rows [rfL c k a n s B L] 7)] (AX (Cq B L L.length)) [(1,.rows [rfL c k a n s B L] 7)]:=by
 have V:=UG B U hb L h;have M:=Bk L;have N:=Ac B;have O:=Ac (Cq B L L.length);have Y:=K3 B L L.length;generalize Np B L L.length=C at*;generalize Cq B L L.length=Z at*;refine Zd [] func30 rfl ntmps30 results30 ?_
 (have z:=Za M<|Za N<|Za O Y;push_cast[z]<;>repeat' (first|refine Zc V ?_|exact Zo|apply Za)<;>push_cast[z])
 apply Zw<;>push_cast [M,N,O]
def r_Mut25E(c k a n s x:Int)(B:Lga)(L:List GN)(m:GM)(hm:SmU m)(hw:wtU m<=1048576)(hz:AY m<=1099511627776)(hx:Ec Ao m=x/\x≠0\/Ec Ao m=0/\4611686018427387903<n/\x=7):A4 prog 8 [.ref 1 0 0 7,.agg (Ai m)] [(1,.rows [rfL c k a n s B L] 7)] (.tup [uD' 0,iD x]) [(1,.rows [rfL c k a n s B L] 7)]:=by
 have N:=Xb m hm Om hz;have C:=Bk L;have M:=Ac B;have O:=Ax m;have V:=AB m;have Y:=BQ m;have Z:=C4 m;rcases hx with⟨rfl,e⟩|⟨e,e2,rfl⟩
 ·have c1:(Ec Ao m !=0)=true:=by simpa using e
  generalize Ec Ao m=x at*;generalize Ai m=U at*;refine Zd [] func8 rfl ntmps8 results8 ?_
  (have z:=Za C<|Za M<|Za O<|Za V<|Za Y<|Za Z c1;push_cast[z]<;>repeat' (first|refine Zc N ?_|apply Za)<;>push_cast[z])
  apply Zw<;>push_cast [C,M]
 ·rw[e] at N;have c1:decide ((4611686018427387903:Int)<n)=true:=decide_eq_true e2;generalize Ai m=U at*;refine Zd [] func8 rfl ntmps8 results8 ?_
  (have z:=Za C<|Za M<|Za O<|Za V<|Za Y<|Za Z c1;push_cast[z]<;>repeat' (first|refine Zc N ?_|apply Za)<;>push_cast[z])
  apply Zw<;>push_cast [C,M]
def r_Mut25(c k a n s:Int)(B:Lga)(O:VOk B)(hb:B.length<=64)(L:List GN)(h:LI L)(m:GM)(hm:SmU m)(hw:wtU m<=1048576)(V:AY m<=1099511627776)(a0:Ec Ao m=0)(hn:0<=n/\n<=4611686018427387903):A4 prog 8 [.ref 1 0 0 7,.agg (Ai m)] [(1,.rows [rfL c k a n s B L] 7)] (.tup [uD' n,.val (.int .i64 (DN m (Cq B L L.length)).1)]) [(1,.rows [rfL c k a (n+1) s B (L++[⟨n,m⟩])] 7)]:=by
 have a3:=h.len;have Z:=Xb m hm Om V;rw[a0] at Z;obtain⟨hv,hvl⟩:=Ny O hb h L.length (A2e _);have hH:=A0x c k a n s B O hb L h;have hR:=r_Run hv Om m hm hw V;have M:=Bk L;have lL:(L.map AN).length=L.length:=Sq';have a1:∀y ∈ L.map AN,y.length=20:=λy C=>by obtain⟨x,_,rfl⟩:=A2p.1 C;exact Fc x
 have a2:∀y ∈ L.map AN,∀d ∈ y,AV d=true:=λy C=>by obtain⟨x,_,rfl⟩:=A2p.1 C;exact A2q.1 (PW x)
 have N:=Ac B;have oU:=Ax m;have lU:=AB m;have tU:=BQ m;have aA:=C4 m;have aU:=A2q.1 aA;have c1:decide ((4611686018427387903:Int)<n)=false:=Df';have w1:IntKind.u64.wrap (n+1)=n+1:=TX Om Om;have oD:=Ac (Cq B L L.length);have oE:=Ac (DN m (Cq B L L.length)).2;have eS:(L++[(⟨n,m⟩:GN)]).map AN=L.map AN++[uD' n::Ai m]:=by simp[AN]
 have oS:=Dz (y:=uD' n::Ai m) (by simp only[An,D.pure,oU,A2L]) M;simp only[rfL] at*;rw[eS];generalize(DN m (Cq B L L.length)).1=x at*;generalize(DN m (Cq B L L.length)).2=E1 at*;generalize Cq B L L.length=D1 at*;generalize Ai m=U at*;generalize L.map AN=Y at*;refine Zd [] func8 rfl ntmps8 results8 ?_
 (have z:=Za M<|Za lL<|Za N<|Za oU<|Za lU<|Za tU<|Za aA<|Za c1<|Za w1<|Za oD oE;push_cast[z]<;>repeat' (first|refine Zc Z ?_|refine Zs [(1,1)] hH ?_|refine Zc hR ?_|exact Zo|apply Za)<;>push_cast[z])
 all_goals first|omega|exact a1|exact a2|(intro y C;cases C;done)|(intro y C;cases A2b.1 C;exact List.forall_mem_cons.2 ⟨rfl,aU⟩)|(intro y C;cases A2b.1 C;simp[lU])|skip
 have lS:(Y++[uD' n::U]).length=L.length+1:=by simp[lL]
 refine Aq.trans (Aq.fzB (b:=304) rfl) ?_;push_cast[M,N,oS,lS];apply Zw<;>push_cast [M,N,oS,lS]
end Go.Ab
namespace Go.Ab
open Go.RowKit
abbrev RR(w:World)(ds:List D)(cs:List Value):Prop:=Bo w (λk=>k<w.heap.size) (λ_=>none) ds cs
section
variable{H:Type}{enc:TypeId×Value->H}{P:Program}{w:World}{sp:Nat->Bool}{held:Bool}{n:Nat}{t:TypeId}{cs:List Value}{x:DataW H×List MemPlace}
def RR.one{d:D}{v:Value}(h:Rep w (λk=>k<w.heap.size) (λ_=>none) d v):RR w [d] [v]:=by
 refine⟨rfl,λi hi=>?_⟩;have e:i=0:=by simp at hi;omega
 subst e;exact h
def RR.nil:RR w [] []:=⟨rfl,λi hi=>by simp at hi⟩
def RR.step{ds es:List D}{off k:Nat}(h:RR w ds ((cs.drop off).take k))(g:RR w es (cs.drop (off+k))):RR w (ds++es) (cs.drop off):=by
 have e:cs.drop off=(cs.drop off).take k++cs.drop (off+k):=by rw[<-A3N];exact(A2O k _).symm
 rw[e];exact Bo.append h g
def RR.fin{off:Nat}(h:cs.length=off):RR w [] (cs.drop off):=by
 rw[A2v Om];exact RR.nil
def rr_int{k:IntKind}(ht:P.underlying t=some (.int k))(h:DataW.trod enc P w 0 sp held n t cs=some x):∃m,RR w [.val (.int k m)] cs:=by
 obtain⟨m,rfl,_,C⟩:=DataW.trod_int ht h;refine⟨m,RR.one (.val _ ?_)⟩;simp only[Lit.wf,A2i,decide_eq_true_eq] at C;cases k<;>simpa [okP,DJ,DK,IntKind.min,IntKind.max,IntKind.signed,IntKind.bits] using C
def Nc{α:Type}{p:Nat->α->Prop}:∀n,(∀i,i<n->∃x,p i x)->∃l:List α,l.length=n/\∀i x,l[i]? =some x->p i x
 |0,_=>⟨[],rfl,λi x h=>by simp at h⟩
 |n+1,h=>by
  obtain⟨l,h1,h2⟩:=Nc n λi hi=>h i Om;obtain⟨x,M⟩:=h n Om;refine⟨l++[x],by simp[h1],λi y C=>?_⟩;by_cases hi:i<n
  ·rw[A3d Om] at C;exact h2 i y C
  ·rw[A3a Om] at C;have:i-l.length=0:=by
    rcases A2K (i-l.length) with h|h
    ·exact h
    ·rw[List.getElem?_eq_none So'] at C;cases C
   rw[this] at C;simp at C;subst C;have:i=n:=Om;subst this;exact M
end
end Go.Ab
namespace Go.Ab
open Go.Proofs.YtijpiigcgkeepaaGreatDoor Go.RowKit
def bk{H:Type}(x:DataW H×List MemPlace):Nat:=Rows.uptoBulk x.1
def Yf{H:Type}:∀es:List (DataW H×List MemPlace),Rows.uptoBulkAll (es.map (·.1))=(es.map bk).sum
 |[]=>by simp[Rows.uptoBulkAll]
 |e::es=>by simp[Rows.uptoBulkAll,Yf es,bk]
def bk_slice{H:Type}(es:List (DataW H×List MemPlace))(r:List (DataW H))(q:List MemPlace):(es.map bk).sum+1<=bk (.slice (es.map (·.1)) r,q):=by
 show _<=Rows.uptoBulk (.slice _ _);rw[Rows.uptoBulk,Yf];omega
def bk_agg{H:Type}(es:List (DataW H×List MemPlace))(q:List MemPlace):bk (.agg (es.map (·.1)),q)=(es.map bk).sum+1:=by
 show Rows.uptoBulk (.agg _)=_;rw[Rows.uptoBulk,Yf]
def YR{α:Type}{f:α->Nat}{l:List α}{x:α}(h:x ∈ l):f x<=(l.map f).sum:=by
 induction l with
 |nil=>cases h
 |cons y l C=>
  simp only[A2m,List.sum_cons];rcases A2s.1 h with rfl|h
  ·omega
  ·have:=C h;omega
def sum_le{α β:Type}{g:α->Nat}{b:β->Nat}:∀ {l:List α} {es:List β},l.length=es.length->(∀(i:Nat) y,l[i]? =some y->∃z,es[i]? =some z/\g y+1<=b z)->l.length+(l.map g).sum<=(es.map b).sum
 |[],[],_,_=>Sq'
 |[],_::_,h,_=>by simp at h
 |_::_,[],h,_=>by simp at h
 |y::l,z::es,h,hh=>by
  have h0:=hh 0 y rfl;obtain⟨C,e,N⟩:=h0;obtain rfl:z=C:=by simpa using e
  have:=sum_le (l:=l) (es:=es) (by simpa using h) λi y M=>by simpa using hh (i+1) y (by simpa using M)
  simp only[A2m,List.sum_cons,A2l];omega
section
variable{H:Type}{enc:TypeId×Value->H}{P:Program}{w:World}{sp:Nat->Bool}{held:Bool}{n:Nat}{t:TypeId}{cs:List Value}{x:DataW H×List MemPlace}
def So{k:IntKind}(ht:P.underlying t=some (.int k))(h:DataW.trod enc P w 0 sp held n t cs=some x):∃m,RR w [.val (.int k m)] cs/\(Lit.int k m).wf=true/\bk x=1:=by
 obtain⟨m,rfl,rfl,C⟩:=DataW.trod_int ht h;obtain⟨M,N⟩:=rr_int ht h;refine⟨m,RR.one (.val _ ?_),C,by first|rfl|simp only[bk,Rows.uptoBulk]⟩;simp only[Lit.wf,A2i,decide_eq_true_eq] at C;cases k<;>simpa [okP,DJ,DK,IntKind.min,IntKind.max,IntKind.signed,IntKind.bits] using C
def Sp(ht:P.underlying t=some .bool)(h:DataW.trod enc P w 0 sp held n t cs=some x):∃b,RR w [bD b] cs/\bk x=1:=by
 obtain⟨b,rfl,rfl⟩:=DataW.trod_bool ht h;exact⟨b,RR.one (.val _ trivial),by first|rfl|simp only[bk,Rows.uptoBulk]⟩
def Sn(ht:P.underlying t=some .string)(h:DataW.trod enc P w 0 sp held n t cs=some x):∃s,RR w [sD s] cs/\bk x=s.size+1:=by
 obtain⟨s,rfl,rfl,C⟩:=DataW.trod_string ht h;exact⟨s,RR.one (.val _ C),by first|rfl|simp only[bk,Rows.uptoBulk,A3G,ByteArray.size]⟩
def L6{α:Type}(f:α->List D)(g:α->Nat)(p:α->Prop){e:TypeId}{sz:Nat}(ht:P.underlying t=some (.slice e))(a3:P.cellsOf e=sz)(a4:0<sz)(a1:∀x,(f x).length=sz)
  (a5:∀m cs x,m<n->DataW.trod enc P w 0 sp held m e cs=some x->∃y,RR w (f y) cs/\g y+1<=bk x/\(bk x<=1048576->p y)) (h:DataW.trod enc P w 0 sp held n t cs=some x):∃l:List α,RR w [.slice (l.map f) false] cs/\l.length+(l.map g).sum+1<=bk x/\(bk x<=1048576->∀y ∈ l,p y):=by
 rcases DataW.trod_slice ht h with⟨rfl,rfl⟩|⟨a,len,cap,O,Z,m,rfl,rfl,rfl,_,a6,a7,hl,hx,_,_⟩
 ·refine⟨[],RR.one (.slice [] false none 0 0 0 0 (λ_ _=>.nilFunc) (λh=>absurd h Sq') (A2e _) (λ_=>rfl) (A2w _) (λi h=>absurd h Sq') (λi j h=>absurd h Sq') (λi j h=>absurd h Sq')),Nat.le_of_eq (by show 0+0+1=Rows.uptoBulk _;rw[Rows.uptoBulk]),λ_ y C=>by cases C⟩
 ·have one:∀i,i<len->∃y:α,∃N,w.cells? 0 (a.add (i*sz)) sz=some N/\RR w (f y) N/\∃z,O[i]? =some z/\g y+1<=bk z/\(bk z<=1048576->p y):=by
   intro i hi;have h1:=hx i hi;rw[A2f Om,Option.bind_eq_some_iff] at h1;obtain⟨N,h2,h3⟩:=h1;rw[a3] at h2;obtain⟨y,C,a8,a9⟩:=a5 m N _ Om h3;exact⟨y,N,h2,C,_,A2f Om,a8,a9⟩
  obtain⟨l,U,a0⟩:=Nc len one;have cell:∀i j y,l[i]? =some y->j<sz->∃v,w.cell? ⟨a.block,a.off+(i*sz+j),none⟩=some v/\Rep w (λk=>k<w.heap.size) (λ_=>none) (nd (f y) j) v:=by
   intro i j y C V;obtain⟨N,h1,h2,-⟩:=a0 i y C;obtain⟨_,h4,h5⟩:=World.cells?_some h1;have M:=h5 j V;have hlt:j<N.length:=Om;rw[A2f hlt] at M;refine⟨N[j],?_,?_⟩
   ·rw[<-M];have e1:((a.add (i*sz)).add j).block=a.block:=by unfold Addr.add;split<;>(try split)<;>rfl
    have e2:((a.add (i*sz)).add j).off=a.off+(i*sz+j):=by unfold Addr.add;split<;>(try split)<;>simp_all<;>omega
    have e3:((a.add (i*sz)).add j).spot=none:=by
     cases hs:((a.add (i*sz)).add j).spot with
     |none=>rfl
     |some q=>
      exfalso;simp only[World.cell?,hs,Option.isSome_some,if_true] at M;split at M<;>cases M
    generalize(a.add (i*sz)).add j=A at e1 e2 e3;obtain⟨b,o,s⟩:=A;simp only at e1 e2 e3;subst e1 e2 e3;rfl
   ·have:=h2.2 j (by rw[a1];exact V);have e:nv N j=N[j]:=by simp[nv,A29,hlt]
    rw[e] at this;exact this
  have get:∀i,i<len->∃y,l[i]? =some y:=λi hi=>⟨l[i]' Om,A2f Om⟩
  have a2:∀i y,l[i]? =some y->nr (l.map f) i=f y:=λi y C=>by simp[nr,A29,C]
  have Y:∀i y,l[i]? =some y->∃z,O[i]? =some z/\g y+1<=bk z/\(bk z<=1048576->p y):=λi y C=>by
   obtain⟨_,_,_,Y⟩:=a0 i y C;exact Y
  have aa:=sum_le (l:=l) (es:=O) Om λi y C=>by
   obtain⟨z,z1,z2,-⟩:=Y i y C;exact⟨z,z1,z2⟩
  have ab:(O.map bk).sum+1<=bk (.slice (O.map (·.1)) (Z.map (·.1)),MemPlace.row a ((O.length+Z.length)*P.cellsOf e)++(O++Z).flatMap (·.2)):=bk_slice O _ _;refine⟨l,RR.one ?_,Om,λhb y C=>?_⟩;rotate_left
  ·obtain⟨i,hi⟩:=List.getElem?_of_mem C;obtain⟨z,z1,-,z3⟩:=Y i y hi;have:=YR (f:=bk) (List.mem_of_getElem? z1);exact z3 Om
  have hA:0<len->(some a=some (⟨a.block,a.off,none⟩:Addr))/\a.block<w.heap.size:=by
   intro h0;obtain⟨y,C⟩:=get 0 h0;obtain⟨N,h1,h2,-⟩:=a0 0 y C;obtain⟨_,h4,h5⟩:=World.cells?_some h1;have M:=h5 0 a4;rw[A2f Om] at M;have e0:(a.add (0*sz)).add 0=a:=by simp[Addr.add]
   rw[e0] at M;constructor
   ·cases hs:a.spot with
    |none=>obtain ⟨b,o,s⟩:=a;simp only at hs;subst hs;rfl
    |some q=>
     exfalso;simp only[World.cell?,hs,Option.isSome_some,if_true] at M;split at M<;>cases M
   ·by_cases hb:a.block<w.heap.size
    ·exact hb
    ·exfalso;have:w.heap[a.block]? =none:=Array.getElem?_eq_none Om;simp[World.cell?,this] at M
  have:=Rep.slice (w:=w) (I:=λk=>k<w.heap.size) (mu:=λ_=>none) (l.map f) false (some a) a.block a.off sz cap (λi j=>(w.cell? ⟨a.block,a.off+(i*sz+j),none⟩).getD undef)
   (λh0=>by rw[A2k,U] at h0;exact⟨(hA h0).1,λ_=>(hA h0).2⟩) (by rw[A2k,U];exact a6) (λh=>by cases h) a7
   (λi hi=>by rw[A2k,U] at hi;obtain⟨y,C⟩:=get i hi;rw[a2 i y C];exact a1 y)
   (λi j hi V=>by rw[A2k,U] at hi;obtain⟨y,C⟩:=get i hi;obtain⟨v,h1,_⟩:=cell i j y C V;rw[h1];rfl)
   (λi j hi V=>by rw[A2k,U] at hi;obtain⟨y,C⟩:=get i hi;obtain⟨v,h1,h2⟩:=cell i j y C V;rw[a2 i y C,h1];exact h2)
  rw[A2k,U] at this;exact this
def P8{fs:Array Field}(ht:P.underlying t=some (.struct fs))(h:DataW.trod enc P w 0 sp held n t cs=some x):∃(m:Nat) (C:List (DataW H×List MemPlace)),n=m+1/\cs.length=P.cellsOf t/\bk x=(C.map bk).sum+1/\C.length=fs.size/\∀(i:Nat) (f:Field),fs[i]? =some f->DataW.trod enc P w 0 sp held m f.type ((cs.drop f.offset).take (P.cellsOf f.type))=C[i]?:=by
 obtain⟨C,m,rfl,rfl,hl,M,hf⟩:=DataW.trod_struct ht h;exact⟨m,C,rfl,hl,bk_agg C _,M,hf⟩
end
end Go.Ab
namespace Go.Ab
open Go.Proofs Go.Proofs.Tryz Go.RowKit
variable{α:Type}{l:List α}
def A1p:prog.cellsOf 38=1:=Kq'
def Mw:prog.cellsOf 4=1:=Kq'
def Qf:prog.cellsOf 2=1:=Kq'
def Gp:prog.cellsOf 9=1:=Kq'
def VS:prog.cellsOf 39=1:=Kq'
def Tl:prog.cellsOf 40=1:=Kq'
def FZ:prog.cellsOf 42=6:=Kq'
def Nd:prog.cellsOf 185=7:=Kq'
def Tk:prog.cellsOf 37=1:=Kq'
def Qz:prog.cellsOf 23=1:=Kq'
def HM:prog.cellsOf 44=19:=Kq'
def list2(h:l.length=2):∃C M,l=[C,M]:=by
 match l,h with
 |[C,M],_=>exact ⟨C,M,rfl⟩
def list6(h:l.length=6):∃C M N O U V,l=[C,M,N,O,U,V]:=by
 match l,h with
 |[C,M,N,O,U,V],_=>exact ⟨C,M,N,O,U,V,rfl⟩
def list9(h:l.length=9):∃C M N O U V Y Z a8,l=[C,M,N,O,U,V,Y,Z,a8]:=by
 match l,h with
 |[C,M,N,O,U,V,Y,Z,a8],_=>exact ⟨C,M,N,O,U,V,Y,Z,a8,rfl⟩
def TT:∀l:List GV,Ga l=(l.map wtV).sum
 |[]=>by simp[Ga]
 |v::l=>by simp[Ga,TT l]
def TU:∀l:List (Baa×GV),J3 l=(l.map λy=>y.1.size+wtV y.2).sum
 |[]=>by simp[J3]
 |(k,v)::l=>by simp[J3,TU l]
def uSum:∀l:List GM,(l.map λy=>wtU y+AY y).sum=TV l+Br l
 |[]=>by simp[TV,Br]
 |v::l=>by simp only[A2m,List.sum_cons,uSum l,TV,Br];omega
def wf64{n:Int}(h:(Lit.int .i64 n).wf=true): -9223372036854775808<=n/\n<=9223372036854775807:=by
 simp only[Lit.wf,A2i,decide_eq_true_eq] at h;simpa[IntKind.min,IntKind.max,IntKind.signed,IntKind.bits] using h
section
variable{H:Type}{enc:TypeId×Value->H}{w:World}{sp:Nat->Bool}{held:Bool}
def rdb_M(n:Nat)(M:∀m,m<n->∀(cs:List Value) (x:DataW H×List MemPlace),DataW.trod enc prog w 0 sp held m 42 cs=some x->∃y:GV,RR w (A7 y) cs/\wtV y+1<=bk x/\(bk x<=1048576->Sm y)):∀(cs:List Value) (x:DataW H×List MemPlace),DataW.trod enc prog w 0 sp held n 185 cs=some x->∃y:GE,RR w (A8 y) cs/\(y.1.size+wtV y.2)+1<=bk x/\(bk x<=1048576->y.1.size<=1048576/\Sm y.2):=by
 intro cs x h;obtain⟨m,Z,rfl,hl,hb,hn,hf⟩:=P8 underlying185 h;obtain⟨N,O,rfl⟩:=list2 hn;simp only[A2m,A2E,List.sum_cons,List.sum_nil] at hb;rw[Nd] at hl;have h0:=hf 0 _ rfl;change _=some N at h0;obtain⟨U,C,b0⟩:=Sn underlying9 h0;change RR w _ ((cs.drop 0).take (prog.cellsOf 9)) at C;rw[Gp] at C;have h1:=hf 1 _ rfl;change _=some O at h1;obtain⟨V,r1,b1,Y⟩:=M m Om _ _ h1;change RR w _ ((cs.drop 1).take (prog.cellsOf 42)) at r1;rw[FZ] at r1;refine⟨(U,V),?_,?_,λa2=>?_⟩;rotate_left
 ·simp only;omega
 ·exact⟨by simp only;omega,Y Om⟩
 have e:=RR.step (off:=0) (k:=1) C (RR.step (off:=1) (k:=6) r1 (RR.fin hl));rw[Aj];simpa using e
def rdb_V:∀(n:Nat) (cs:List Value) (x:DataW H×List MemPlace),DataW.trod enc prog w 0 sp held n 42 cs=some x->∃y:GV,RR w (A7 y) cs/\wtV y+1<=bk x/\(bk x<=1048576->Sm y):=by
 intro n
 induction n using Nat.strongRecOn with
 |_ n Z=>
 intro cs x h;obtain⟨m,xs,rfl,hl,hb,hn,hf⟩:=P8 underlying42 h;obtain⟨y0,y1,y2,y3,y4,y5,rfl⟩:=list6 hn;simp only[A2m,A2E,List.sum_cons,List.sum_nil] at hb;rw[FZ] at hl;have h0:=hf 0 _ rfl;change _=some y0 at h0;obtain⟨a0,C,f0,b0⟩:=So underlying38 h0;change RR w _ ((cs.drop 0).take (prog.cellsOf 38)) at C;rw[A1p] at C;have h1:=hf 1 _ rfl;change _=some y1 at h1;obtain⟨a1,r1,b1⟩:=Sp underlying4 h1;change RR w _ ((cs.drop 1).take (prog.cellsOf 4)) at r1;rw[Mw] at r1;have h2:=hf 2 _ rfl;change _=some y2 at h2;obtain⟨a2,M,f2,b2⟩:=So underlying2 h2;change RR w _ ((cs.drop 2).take (prog.cellsOf 2)) at M;rw[Qf] at M;have h3:=hf 3 _ rfl;change _=some y3 at h3;obtain⟨a3,N,b3⟩:=Sn underlying9 h3;change RR w _ ((cs.drop 3).take (prog.cellsOf 9)) at N;rw[Gp] at N;have h4:=hf 4 _ rfl;change _=some y4 at h4;obtain⟨a4,O,b4,p4⟩:=L6 A7 wtV Sm underlying39 FZ Dq' AH (λU cs x hm h=>Z U Om cs x h) h4;change RR w _ ((cs.drop 4).take (prog.cellsOf 39)) at O;rw[VS] at O;have h5:=hf 5 _ rfl;change _=some y5 at h5;obtain⟨a5,V,b5,p5⟩:=L6 A8 (λy=>y.1.size+wtV y.2) (λy=>y.1.size<=1048576/\Sm y.2) underlying40 Nd Dq' H7 (λU cs x hm h=>rdb_M U (λa6 a7=>Z a6 Om) cs x h) h5;change RR w _ ((cs.drop 5).take (prog.cellsOf 40)) at V;rw[Tl] at V;have q4:=b4;have q5:=b5;refine⟨.mk a0 a1 a2 a3 a4 a5,?_,?_,λa8=>?_⟩;rotate_left
 ·rw[LK];simp only[GV.s,GV.list,GV.obj];rw[TT,TU];omega
 ·have k4:=p4 Om;have k5:=p5 Om;have h2:=wf64 f2;exact .mk a0 a1 a2 a3 a4 a5 Om Om k4 (λz Y=>(k5 z Y).2) h2 Om (λz Y=>(k5 z Y).1)
 have e:=(RR.step (off:=0) (k:=1) C (RR.step (off:=1) (k:=1) r1 (RR.step (off:=2) (k:=1) M (RR.step (off:=3) (k:=1) N (RR.step (off:=4) (k:=1) O (RR.step (off:=5) (k:=1) V (RR.fin hl)))))))
 rw[A3];simpa[A2c,GV.kind,GV.b,GV.n,GV.s,GV.list,GV.obj,GM.kind,GM.key,GM.to,GM.n,GM.had,GM.was,GM.has,GM.value,GM.list,encI] using e
def rdb_U:∀(n:Nat) (cs:List Value) (x:DataW H×List MemPlace),DataW.trod enc prog w 0 sp held n 44 cs=some x->∃y:GM,RR w (Ai y) cs/\(wtU y+AY y)+1<=bk x/\(bk x<=1048576->SmU y):=by
 intro n
 induction n using Nat.strongRecOn with
 |_ n ih=>
 intro cs x h;obtain⟨m,xs,rfl,hl,hb,hn,hf⟩:=P8 underlying44 h;obtain⟨y0,y1,y2,y3,y4,y5,y6,y7,y8,rfl⟩:=list9 hn;simp only[A2m,A2E,List.sum_cons,List.sum_nil] at hb;rw[HM] at hl;have h0:=hf 0 _ rfl;change _=some y0 at h0;obtain⟨a0,C,f0,b0⟩:=So underlying37 h0;change RR w _ ((cs.drop 0).take (prog.cellsOf 37)) at C;rw[Tk] at C;have h1:=hf 1 _ rfl;change _=some y1 at h1;obtain⟨a1,r1,b1⟩:=Sn underlying9 h1;change RR w _ ((cs.drop 1).take (prog.cellsOf 9)) at r1;rw[Gp] at r1;have h2:=hf 2 _ rfl;change _=some y2 at h2;obtain⟨a2,M,b2⟩:=Sn underlying9 h2;change RR w _ ((cs.drop 2).take (prog.cellsOf 9)) at M;rw[Gp] at M;have h3:=hf 3 _ rfl;change _=some y3 at h3;obtain⟨a3,N,f3,b3⟩:=So underlying2 h3;change RR w _ ((cs.drop 3).take (prog.cellsOf 2)) at N;rw[Qf] at N;have h4:=hf 4 _ rfl;change _=some y4 at h4;obtain⟨a4,O,b4⟩:=Sp underlying4 h4;change RR w _ ((cs.drop 4).take (prog.cellsOf 4)) at O;rw[Mw] at O;have h5:=hf 5 _ rfl;change _=some y5 at h5;obtain⟨a5,U,b5,p5⟩:=rdb_V _ _ _ h5;change RR w _ ((cs.drop 5).take (prog.cellsOf 42)) at U;rw[FZ] at U;have h6:=hf 6 _ rfl;change _=some y6 at h6;obtain⟨a6,V,b6⟩:=Sp underlying4 h6;change RR w _ ((cs.drop 11).take (prog.cellsOf 4)) at V;rw[Mw] at V;have h7:=hf 7 _ rfl;change _=some y7 at h7;obtain⟨a7,Y,b7,p7⟩:=rdb_V _ _ _ h7;change RR w _ ((cs.drop 12).take (prog.cellsOf 42)) at Y;rw[FZ] at Y;have h8:=hf 8 _ rfl;change _=some y8 at h8;obtain⟨Z,r8,b8,p8⟩:=L6 Ai (λy=>wtU y+AY y) SmU underlying23 HM Dq' AB (λm' cs x hm h=>ih m' Om cs x h) h8;change RR w _ ((cs.drop 18).take (prog.cellsOf 23)) at r8;rw[Qz] at r8;refine⟨.mk a0 a1 a2 a3 a4 a5 a6 a7 Z,?_,?_,λa9=>?_⟩;rotate_left
 ·rw[J4,DM];simp only[GM.key,GM.to,GM.was,GM.value,GM.list];have:=uSum Z;omega
 ·have k8:=p8 Om;have:=uSum Z;exact .mk _ (p5 Om) (p7 Om) (by simp only[GM.key];omega) (by simp only[GM.to];omega) (by simp only[GM.list];omega) k8
 have e:=(RR.step (off:=0) (k:=1) C (RR.step (off:=1) (k:=1) r1 (RR.step (off:=2) (k:=1) M (RR.step (off:=3) (k:=1) N (RR.step (off:=4) (k:=1) O (RR.step (off:=5) (k:=6) U (RR.step (off:=11) (k:=1) V (RR.step (off:=12) (k:=6) Y (RR.step (off:=18) (k:=1) r8 (RR.fin hl))))))))))
 rw[Ay];simpa[A2c,GV.kind,GV.b,GV.n,GV.s,GV.list,GV.obj,GM.kind,GM.key,GM.to,GM.n,GM.had,GM.was,GM.has,GM.value,GM.list,encI] using e
structure LmOk(l:List GM):Prop where
 sm:∀m ∈ l,SmU m
 wt:∀m ∈ l,wtU m<=1048576
 sz:∀m ∈ l,AY m<=1099511627776
def rdb_Us(n:Nat)(cs:List Value)(x:DataW H×List MemPlace)(h:DataW.trod enc prog w 0 sp held n 23 cs=some x)(hb:bk x<=1048576):∃l:List GM,RR w [.slice (l.map Ai) false] cs/\LmOk l:=by
 obtain⟨l,r,b,p⟩:=L6 Ai (λy=>wtU y+AY y) SmU underlying23 HM Dq' AB (λM cs x hm h=>rdb_U M cs x h) h;have hm:∀y ∈ l,wtU y+AY y<=1048576:=λy C=>by
  have:=YR (f:=λy:GM=>wtU y+AY y) C;omega
 exact⟨l,r,p hb,λy C=>by have:=hm y C;omega,λy C=>by have:=hm y C;omega⟩
end
abbrev nlD:D:=.val (.pointer none)
structure LsS where
 i:Nat
 L:List GN
 T:GT
structure LsOk(l:List GM)(p:Nat)(q:LsS):Prop where
 i:q.i<=l.length
 n:q.L.length<=p
 ok:LI q.L
 tr:Dw q.T (Cq [] q.L q.L.length)
abbrev lsH(a g n:Nat)(e:Int)(L:List GN)(th:D):Hp:=[(146,.rows [[uD' a,.gref g n]] 2),(g,.grow (L.map AN) 20),(144,.rows [[uD' 1,uD' 0,uD' ((a:Int)+1),nlD,th,.ref 146 0 0 2]] 6),(248,.rows [[uD' 1,uD' 0,uD' a,uD' e,uD' ((a:Int)+1),.ptr [.slice [] false] 0,.slice (L.map AN) false]] 7)]
noncomputable def lsSt(p a:Nat)(l:List GM)(q:LsS):St:=
 ⟨[(10,.val (.int .i64 q.i)),(9,.ref 248 0 0 7),(7,.ref 144 0 0 6),(0,.val (.int .u64 p)),(1,.slice (l.map Ai) false)],lsH a 272 q.L.length ((a:Int)+q.L.length+1) q.L (Ah q.T),200⟩
def VI(B:Lga)(L R:List GN):∀i,i<=L.length->Cq B (L++R) i=Cq B L i
 |0,_=>rfl
 |i+1,h=>by
  have e:(L++R).getD i zN=L.getD i zN:=by simp[A29,A3d (show i<L.length by omega)]
  simp only[Cq,e,VI B L R i Om]
def A1k(B:Lga)(L:List GN)(x:GN):Cq B (L++[x]) (L++[x]).length=(DN x.m (Cq B L L.length)).2:=by
 have e:(L++[x]).getD L.length zN=x:=by simp[A29]
 rw[A2a,A3x];simp only[Cq,e,VI B L [x] L.length (A2e _)]
def LI.snoc{L:List GN}(h:LI L){x:GN}(hl:L.length<40)(h1:SmU x.m)(h2:wtU x.m<=1048576)(M:AY x.m<=1099511627776):LI (L++[x]):=
 ⟨So',λy C=>by rcases A2Y.1 C with h'|h';exact h.sm y h';cases A2b.1 h';exact h1,
  λy C=>by rcases A2Y.1 C with h'|h';exact h.wt y h';cases A2b.1 h';exact h2,
  λy C=>by rcases A2Y.1 C with h'|h';exact h.sz y h';cases A2b.1 h';exact M⟩
def c_last(p:Nat)(hp:p<=5)(l:List GM)(hl:l.length<=10)(hm:LmOk l):
  A0 prog 3 [uD' p,.slice (l.map Ai) false] (bD true):=by
 have hK:=RY;have M:=EQ l;obtain⟨a,ha⟩:∃a:Nat,a+p=4611686018427387903:=⟨4611686018427387903-p,Om⟩
 have hF:=c_from0 a Om;have hG:=r_From0 a;have c1:decide ((5:Int)<p)=false:=Df';have c2:decide ((10:Int)<l.length)=false:=Df';have w1:IntKind.u64.wrap (4611686018427387904-(p:Int))=(a:Int)+1:=by rw[show 4611686018427387904-(p:Int)=(a:Int)+1 by omega];exact TX Om Om
 have w2:IntKind.u64.wrap ((a:Int)+1-1)=a:=by rw[show(a:Int)+1-1=a by omega];exact TX Om Om
 refine A0.of_awp func3 rfl ntmps3 Kq' Sq' (congrArg Array.toList results3) ?_;refine Zy ?_
 (have z:=Za M<|Za c1<|Za c2<|Za w1 w2;push_cast[z]<;>repeat' (first|refine Zs [] hF ?_|refine Zs [] hG ?_|apply Za)<;>push_cast[z])<;>try omega
 refine AWp.loopI mixed Kq' (ι:=LsS) (LsOk l p) (lsSt p a l) (λq=>l.length-q.i) ⟨0,[],.nil⟩ ⟨A2w _,A2w _,⟨Sq',Sq',Sq',Sq'⟩,.inl ⟨rfl,rfl⟩⟩ ?_ λq hq=>?_
 ·refine Aq.trans (s':=⟨[(10,iD 0),(9,.ref 248 0 0 7),(7,.ref 144 0 0 6),(0,uD' p),(1,.slice (l.map Ai) false)],[(146,.rows [[uD' a,.slice [] true]] 2),(144,.rows [[uD' 1,uD' 0,uD' ((a:Int)+1),nlD,nlD,.ref 146 0 0 2]] 6),(248,.rows [rfL 1 0 a ((a:Int)+1) ((a:Int)+1) [] []] 7)],136⟩) ?_ (Aq.trans (Aq.nilgrowN (sz:=20) [uD' a]) ?_)
  ·apply Zw<;>push_cast [M]
  ·unfold lsSt;simp only[Bl];apply Zw<;>push_cast [M];all_goals first|omega|skip
 ·obtain⟨i,L,T⟩:=q;obtain⟨q1,q2,N,q4⟩:=hq;simp only at q1 q2 N q4;unfold lsSt;have O:=Bk L;have oT:=A6 T;have o1:=Bg T;have lY:(L.map AN).length=L.length:=Sq';push_cast[M,oT,O];refine Ad (λhx=>?_) (λhx=>?_)
  ·have hi:i<l.length:=by simpa using hx
   have e1:=EV hi;have a0:=Ae (d:=zU) hi;have V:=hm.sm _ a0;have Y:=hm.wt _ a0;have Z:=hm.sz _ a0;have oU:=Ax (l.getD i zU);have lU:=AB (l.getD i zU);have tU:=BQ (l.getD i zU);have aA:=C4 (l.getD i zU);have w3:IntKind.i64.wrap ((i:Int)+1)=(i:Int)+1:=A9 Om Om;have b0:∀x:Int,(x !=x)=false:=λx=>Sq';obtain⟨hv,hvl⟩:=Ny VOk.nil Sq' N L.length (A2e _);by_cases hc:Ec Ao (l.getD i zU)=0/\L.length<p
   ·obtain⟨a2,a7⟩:=hc;obtain⟨T',hR,a5,-,a8⟩:=run_ok HG q4 hv Om (l.getD i zU) V Y Z;have hW:=r_Mut25 1 0 a ((a:Int)+L.length+1) ((a:Int)+1) [] VOk.nil Sq' L N (l.getD i zU) V Y Z a2 Om;have a3:=N.snoc (x:=⟨(a:Int)+L.length+1,l.getD i zU⟩) Om V Y Z;have a1:=A1k [] L ⟨(a:Int)+L.length+1,l.getD i zU⟩;simp only at a1;obtain⟨C,h0,h1,h2⟩:∃C,((DN (l.getD i zU) (Cq [] L L.length)).1=0->C=T')/\((DN (l.getD i zU) (Cq [] L L.length)).1≠0->C=T)/\Dw C (DN (l.getD i zU) (Cq [] L L.length)).2:=by
     by_cases e:(DN (l.getD i zU) (Cq [] L L.length)).1=0
     ·exact⟨T',λ_=>rfl,λh=>absurd e h,a5⟩
     ·refine⟨T,λh=>absurd h e,λ_=>rfl,?_⟩;rw[runL_no e];exact q4
    have hM:=c_clMutG 1 0 (a+1) a L.length nlD T T' C (l.getD i zU) _ V Y Z a2 rfl rfl (L.map AN) O lY Dq' Om Om hR h0 h1;rw[<-a1] at h2;have hS:=W4 1 0 (a+1) a Dq' .nil C [] (.inl ⟨rfl,rfl⟩) VOk.nil Sq' _ a3 h2 (by rw[a1];omega) So';have eS:(L++[(⟨(a:Int)+L.length+1,l.getD i zU⟩:GN)]).map AN=L.map AN++[uD' ((a:Int)+L.length+1)::Ai (l.getD i zU)]:=by simp[AN]
    have oS:=Bk (L++[(⟨(a:Int)+L.length+1,l.getD i zU⟩:GN)]);have a6:((L++[(⟨(a:Int)+L.length+1,l.getD i zU⟩:GN)]).map AN).length=L.length+1:=Sq';have lS:(L++[(⟨(a:Int)+L.length+1,l.getD i zU⟩:GN)]).length=L.length+1:=Sq';have a4:=A6 C;have o2:=Bg C;rw[Bl,lS,show(a:Int)+((L.length+1:Nat):Int)+1=(a:Int)+L.length+1+1 by omega] at hS;rw[<-eS] at hM;generalize(DN (l.getD i zU) (Cq [] L L.length)).1=x at*;generalize he:(a:Int)+L.length+1=e at*;generalize a9:L++[(⟨e,l.getD i zU⟩:GN)]=L2 at*;generalize Ai (l.getD i zU)=U at*
    (have z:=Za M<|Za O<|Za lY<|Za oT<|Za o1<|Za e1<|Za oU<|Za lU<|Za tU<|Za aA<|Za b0<|Za oS<|Za lS<|Za a6<|Za a4 o2;push_cast[z]<;>repeat' (first|refine Zs [(1,144),(3,146),(5,272)] hM ?_|refine Zs [(1,248)] hW ?_|refine A5.lendZ (lsH a 472 (L.length+1) (e+1) L2 (Ah C)) hS ?_|apply Za)<;>push_cast[z])<;>try omega
    refine⟨⟨i+1,L2,C⟩,⟨hi,by show L2.length<=p;omega,a3,h2⟩,(by simp only;omega),?_⟩;apply Zr [(272,472)] rfl<;>push_cast [M,oS,a4,w3,lS];all_goals first|omega|skip
   ·obtain⟨x,hx⟩:∃x,(Ec Ao (l.getD i zU)=x/\x≠0\/Ec Ao (l.getD i zU)=0/\L.length=p/\x=7):=by
     by_cases e:Ec Ao (l.getD i zU)=0
     ·exact⟨7,.inr ⟨e,Om,rfl⟩⟩
     ·exact⟨_,.inl ⟨rfl,e⟩⟩
    have hW:=r_Mut25E 1 0 a ((a:Int)+L.length+1) ((a:Int)+1) x [] L (l.getD i zU) V Y Z Om;have hM:=c_clMutE 1 0 (a+1) a L.length nlD (Ah T) (l.getD i zU) x V Y Z Om rfl rfl oT o1 (L.map AN) O lY Dq';have hS:=W4 1 0 (a+1) a Dq' .nil T [] (.inl ⟨rfl,rfl⟩) VOk.nil Sq' _ N q4 Om Om;rw[Bl] at hS;generalize he:(a:Int)+L.length+1=e at*;generalize Ai (l.getD i zU)=U at*
    (have z:=Za M<|Za O<|Za lY<|Za oT<|Za o1<|Za e1<|Za oU<|Za lU<|Za tU<|Za aA b0;push_cast[z]<;>repeat' (first|refine Zs [(1,144),(3,146),(5,272)] hM ?_|refine Zs [(1,248)] hW ?_|refine A5.lendZ (lsH a 272 L.length e L (Ah T)) hS ?_|apply Za)<;>push_cast[z])<;>try omega
    refine⟨⟨i+1,L,T⟩,⟨hi,q2,N,q4⟩,(by simp only;omega),?_⟩;apply Zw<;>push_cast [M,O,oT,w3];all_goals first|omega|skip
  ·(have z:=M;push_cast[z]<;>repeat' (first|refine Zc hK ?_|apply Za)<;>push_cast[z])
def c_last0(p:Nat)(l:List GM)(h:5<p\/10<l.length)(hp:p<18446744073709551616):
  A0 prog 3 [uD' p,.slice (l.map Ai) false] (bD true):=by
 have C:=RY;have M:=EQ l;rcases A2z 5 p with h5|h5
 ·have c1:decide ((5:Int)<p)=true:=Dt';refine Zf [] func3 rfl ntmps3 results3 ?_
  (have z:=Za M c1;push_cast[z]<;>repeat' (first|refine Zc C ?_|apply Za)<;>push_cast[z])
 ·have c1:decide ((5:Int)<p)=false:=Df';have c2:decide ((10:Int)<l.length)=true:=Dt';refine Zf [] func3 rfl ntmps3 results3 ?_
  (have z:=Za M<|Za c1 c2;push_cast[z]<;>repeat' (first|refine Zc C ?_|apply Za)<;>push_cast[z])
def law_last(p:Nat)(l:List GM)(hm:LmOk l)(hp:p<18446744073709551616):
  A0 prog 3 [uD' p,.slice (l.map Ai) false] (bD true):=by
 by_cases h:p<=5/\l.length<=10
 ·exact c_last p h.1 l h.2 hm
 ·exact c_last0 p l Om hp
section
variable{P:Program}{w:World}
end
end Go.Ab
namespace Go.Ab
noncomputable section
open Go.ChangeAt Go.ChangeShapes Go.RowKit Go.WideShapes
section
variable{H:Type}{enc:TypeId×Value->H}{P:Program}{W W':World}
end
end
end Go.Ab
