/- The program is walked: part 11 of 18. -/
import Derived.Test.YtmobnaefbcegbaaGreatDoorV9
import Derived.RangeFuncNested
import Derived.RangeFuncCalls
import Derived.Lib.OthersKept
import Derived.Shelf.Strings.BuilderK
import Derived.Shelf.Strings.BuilderRune
import Derived.Lib.DecodeN
import Derived.RangeFuncBound
import Derived.Shelf.Abstract
import Derived.Shelf.RegionOpen
import Derived.OwnWalkIn
import Derived.TacticsInMore
import Derived.LoopNIn
import Derived.LoopIn
import Derived.Maps.OwnIn
set_option maxHeartbeats 4000000
set_option maxRecDepth 20000
set_option linter.all false
namespace Go.Ab
open Go.Proofs Go.Proofs.Tryz
variable{q C:OQ}{l L:Lga}
abbrev XP(g L:Lga):Lga:=g.foldl (λL e=>BX e.1 L) L
def VJ(p:Baa):∀(g L:Lga),(∀e ∈ g,Cn e.1 p=true)->XP g L=L.filter λx=>!(g.any λe=>decide (x.1=e.1))
 |[],L,_=>by
  show L=_;exact(A3Q.2 Sq').symm
 |e::g,L,h=>by
  have M:=VJ p g (BX e.1 L) λx C=>h x (by simp[C]);show XP g (BX e.1 L)=_;rw[M];unfold BX;rw[List.filter_filter];congr 1;funext x;simp only[List.any_cons,Bool.not_or];by_cases C:x.1=e.1<;>simp [C]
def delL_all(p:Baa)(L:Lga):XP (BK p L) L=EJ p L:=by
 rw[VJ p (BK p L) L λe C=>(A2U.1 C).2];unfold EJ;refine List.filter_congr λx M=>?_;congr 1;rw[Bool.eq_iff_iff,List.any_eq_true];constructor
 ·rintro⟨e,C,h⟩;rw[of_decide_eq_true h];exact(A2U.1 C).2
 ·intro h;exact⟨x,A2U.2 ⟨M,h⟩,Sq'⟩
def J9{G:Lga}{i:Nat}(h:i<G.length):G.take (i+1)=G.take i++[G.getD i zM]:=by
 rw[A2J h,A29,A2f h];rfl
def PH(g R:Lga)(e:GE):DF (g++[e]) R=B4 e (DF g R):=by simp[DF]
def A1l(g R:Lga)(e:GE):XP (g++[e]) R=BX e.1 (XP g R):=by simp[XP]
def rw1_len(p:List CE×Nat)(u:BL):p.1.length<=(rw1 p u).1.length+1:=by
 unfold rw1;split
 ·unfold KO;split<;>simp;omega
 ·unfold XV;split
  ·simp only[List.length_eraseIdx];split<;>omega
  ·exact Nat.le_succ _
def YC:∀(n:Nat) (us:List BL),us.length=n->∀p:List CE×Nat,p.1.length<=(rwd p us).1.length+us.length
 |0,us,h,p=>by
  have:us=[]:=A3c.1 h;subst this;simp[rwd]
 |n+1,us,h,p=>by
  have C:us≠[]:=by intro e;subst e;simp at h
  obtain⟨a,u,rfl⟩:∃a u,us=a++[u]:=⟨us.dropLast,us.getLast C,(List.dropLast_concat_getLast C).symm⟩
  rw[rwd_snoc];have h1:=YC n a (by simpa using h) (rw1 p u);have h2:=rw1_len p u;simp only[A2a,A2l,A2r];omega
def es_le(h:DP q.es q.ck)(e:KV ⟨none,[]⟩ q):q.es.length<=q.us.length:=by
 obtain⟨ext,M,N,O⟩:=e.ex;have U:q.us=ext:=by rw[M];rfl
 have h1:=YC _ ext rfl (q.es,q.ck);have h2:=WU N (p:=(q.es,q.ck)) h;have V:(rwd (q.es,q.ck) ext).1=[]:=by
  cases hr:(rwd (q.es,q.ck) ext).1 with
  |nil=>rfl
  |cons x l=>
   obtain⟨k,n,s⟩:=x;have C:=Mj h2.keys (k:=k) (n:=n) (s:=s) (by rw[hr];simp);rw[O k] at C;cases C
 rw[V] at h1;rw[U];simpa using h1
noncomputable def Vs(F:GV->Int):List GM->Lga->Nat->Lga
 |_,L,0=>L
 |[],L,_+1=>L
 |m::l,L,i+1=>Vs F l (Bv F m L).2 i
def ZN(F:GV->Int)(l:List GM)(L:Lga):Vs F l L 0=L:=by cases l<;>rfl
def TG(F:GV->Int):∀ {l:List GM} {L:Lga} {i:Nat},i<l.length->Vs F l L (i+1)=(Bv F (l.getD i zU) (Vs F l L i)).2
 |[],L,i,h=>by simp at h
 |m::l,L,0,h=>by cases l<;>rfl
 |m::l,L,i+1,h=>by
  show Vs F l (Bv F m L).2 (i+1)=_;rw[TG F (by simpa using h)];rfl
def Hj(F:GV->Int):∀(l:List GM) (L:Lga),((Dn F l L)=(0,Vs F l L l.length)/\∀i,i<l.length->(Bv F (l.getD i zU) (Vs F l L i)).1=0)\/(∃J,J<l.length/\(∀i,i<J->(Bv F (l.getD i zU) (Vs F l L i)).1=0)/\(Bv F (l.getD J zU) (Vs F l L J)).1=(Dn F l L).1/\(Dn F l L).1≠0)
 |[],L=>.inl ⟨rfl,λi h=>by simp at h⟩
 |m::l,L=>by
  by_cases h:(Bv F m L).1=0
  ·simp only[Dn,if_pos h];rcases Hj F l (Bv F m L).2 with⟨a,b⟩|⟨J,a,b,c,d⟩
   ·refine .inl ⟨a,λi hi=>?_⟩;cases i with
    |zero=>exact h
    |succ i=>exact b i (by simpa using hi)
   ·refine .inr ⟨J+1,by simpa using a,λi hi=>?_,c,d⟩;cases i with
    |zero=>exact h
    |succ i=>exact b i Om
  ·simp only[Dn,if_neg h];exact .inr ⟨0,Sq',λi hi=>Om,rfl,h⟩
structure DoOk(b:GT)(l:List GE)(q:OQ)(n:Nat):Prop where
 ok:Fe b q l
 v:VOk (q.view l)
 ext:KV ⟨none,[]⟩ q
 len:(q.view l).length+n<=4096
 us:q.us.length+8193*n<=524352
def Led.of_back{b:GT}{n m:Nat}(h:Fe b q l)(M:Led b l q C n L):Led b l q (C.back q.us.length) m (q.view l):=by
 obtain⟨N,O,U,V⟩:=OQ.back_ok h M.ok M.ext;refine⟨N,O,U,?_⟩;have:(C.back q.us.length).us.length<=q.us.length:=by
  show(C.us.take q.us.length).length<=_;rw[A2x];omega
 omega
def Led.le{b:GT}{n:Nat}(h:Fe b q l)(M:Led b l q C n L):q.us.length<=C.us.length:=(OQ.back_ok h M.ok M.ext).2.2.2
def WS{l:List GM}{x:GM}(h:x ∈ l):AY x<=Br l:=by
 induction l with
 |nil=>cases h
 |cons y l C=>
  simp only[Br];rcases A2s.1 h with rfl|h
  ·omega
  ·have:=C h;omega
def N2{F:GV->Int}{m:GM}{d:Nat}(h0:BG F m d=0):AG m=false/\d<=6/\Ck m=true/\(m.had=true->F m.was=0)/\((m.kind=1\/m.kind=5\/m.kind=4/\m.has=true)->F m.value=0)/\CD F m.list (d+1)=0:=by
 rw[H2] at h0;have s1:AG m=false:=by cases h:AG m<;>simp [h] at h0|-
 rw[if_neg (by simp[s1])] at h0;have s2:d<=6:=by
  rcases A2z 6 d with h|h
  ·simp[h] at h0
  ·exact h
 rw[if_neg Om] at h0;have C:Ck m=true:=by cases h:Ck m<;>simp [h] at h0|-
 rw[if_neg (by simp[C])] at h0;have M:m.had=true->F m.was=0:=λh=>Classical.byContradiction λh2=>by rw[if_pos ⟨h,h2⟩] at h0;exact h2 h0
 rw[if_neg (λh=>h.2 (M h.1))] at h0;have N:(m.kind=1\/m.kind=5\/m.kind=4/\m.has=true)->F m.value=0:=λh=>Classical.byContradiction λh2=>by rw[if_pos ⟨h,h2⟩] at h0;exact h2 h0
 rw[if_neg (λh=>h.2 (N h.1))] at h0;exact⟨s1,s2,C,M,N,h0⟩
def Xt{F:GV->Int}{d:Nat}{l:List GM}(h:CD F l d=0){x:GM}(C:x ∈ l):BG F x d=0:=by
 obtain⟨i,hi,rfl⟩:=A2W.1 C;have:=Gi h i hi;rwa[A29,A2f hi] at this
def Rn{m:GM}(h:Ck m=true)(C:m.kind≠6)(M:m.kind≠7):Ce m.key=0:=by
 unfold Ck at h;have N:(m.kind==6)=false:=by simpa using C
 have O:(m.kind==7)=false:=by simpa using M
 rw[N,O] at h;simpa using h
def XA{m:GM}(h:Ck m=true)(C:m.kind=6):m.key.size<=64/\m.to.size<=64:=by
 unfold Ck at h;have M:(m.kind==6)=true:=by simpa using C
 rw[M] at h;simp only[if_true,A2i,TA,decide_eq_true_eq] at h;omega
def Sa{m:GM}(h:AG m=false):1<=m.kind/\m.kind<=7:=by
 unfold AG at h;simp only[Bool.or_eq_false_iff] at h;obtain⟨_,h⟩:=h;grind
def Td{b:GT}{L':Lga}{m:GM}{c:Int}{n N:Nat}(O:Fe b q l)(Z:Bv Ao m (q.view l)=(c,L))(M:Led b l q C n L')(h0:c=0->L'=L)(hn:n<=N)(hu:C.us.length<=1073741824)
  (U:∀V,ME prog 162 [.ref 3 0 0 1,.ref 5 0 0 1,.ref 7 0 0 1] (doH c q.us.length b C) (doH c q.us.length b V)->A4 prog 105 [.ref 1 0 0 3,.agg (Ai m)] (oqH b q) (iD c) (oqH b V)):
  ∃Y,A4 prog 105 [.ref 1 0 0 3,.agg (Ai m)] (oqH b q) (.val (.int .i64 (Bv Ao m (q.view l)).1)) (oqH b Y)/\Led b l q Y N (GL m (q.view l)):=by
 unfold GL;rw[Z];by_cases hc:c=0
 ·subst hc;rw[if_pos rfl,<-h0 rfl];exact⟨C,U C (d_ok b C _),M.mono hn⟩
 ·rw[if_neg (by simpa using hc)];exact⟨_,U _ (d_back b C c hc M.ok.us _ (M.le O) hu),M.of_back O⟩
section
variable(hF:∀v,Sm v->wtV v<=2097152->A0 prog 50 [.agg (A7 v)] (.val (.int .i64 (Ao v))))
include hF
theorem q_moveX{b:GT}(h:Fe b q l)(M:VOk (q.view l))(hl:l.length+q.es.length<=1048576)(hls:∀e ∈ l,e.1.size<=64)(p t:Baa)(hp:p.size<=64)(ht:t.size<=64)(hvl:(q.view l).length<=4096)(hn:q.us.length+8192<=1073741823):
  ∃q',A4 prog 169 [.ref 1 0 0 3,sD p,sD t] (oqH b q) (.val (.int .i64 (Dr Ao p t (q.view l)).1)) (oqH b q')/\Led b l q q' 8192 (if(Dr Ao p t (q.view l)).1=0 then(Dr Ao p t (q.view l)).2 else q.view l):=by
 have hvs:∀e ∈ q.view l,e.1.size<=64/\Sm e.2:=λe he=>⟨EO (M.key e he),M.sm e he⟩
 have hE:=c_End p;obtain⟨G,hG⟩:∃G,BK p (q.view l)=G:=⟨_,rfl⟩
 by_cases hc:(Hx p t (q.view l) G).1=0
 ·rw[<-hG] at hc;obtain⟨U,e2⟩:=V3 M hc;have hz:=Mb hc;rw[U];rw[hG] at e2 hz|-;have a4:G.length<=4096:=by rw[<-hG];exact A2N (A2S _ _) hvl
  have Z:∀i,i<G.length->G.getD i zM ∈ q.view l/\G.getD i zM ∈ G:=λi hi=>by
   have h1:=Ae (d:=zM) hi;refine⟨?_,h1⟩;generalize G.getD i zM=x at h1|-;rw[<-hG] at h1;exact(A2U.1 h1).1
  obtain⟨V,a0,a1⟩:=HJ (λi q2=>i<=G.length->Led b l q q2 i (XP (G.take i) (q.view l)))
   (λi a c=>i<G.length->A4 prog 165 [.ref 1 0 0 3,.val (.string (G.getD i zM).1)] (oqH b a) (bD (D9 (G.getD i zM).1 (a.view l))) (oqH b c)) q (λ_=>Led.refl h 0) λi a ha=>by
    by_cases hi:i<G.length
    ·have C:=ha Om;obtain⟨c,s1,s2⟩:=Xe C.ok Om (G.getD i zM).1 (hvs _ (Z i hi).1).1 (by have:=C.len;omega);refine⟨c,λ_=>?_,λ_=>s1⟩;have:=C.trans s2;rw[C.view,<-A1l,<-J9 hi] at this;exact this
    ·exact⟨a,λN=>Om,λN=>absurd N hi⟩
  have O:=(a1 G.length).1 (A2e _);rw[A2I,<-hG,delL_all,hG] at O;obtain⟨Q3,b0,b1⟩:=HJ (λi q3=>i<=G.length->Led b l (V G.length) q3 i (DF ((G.take i).map (mvT p t)) (EJ p (q.view l))))
   (λi a c=>i<G.length->A4 prog 164 [.ref 1 0 0 3,.val (.string (mvT p t (G.getD i zM)).1),.agg (A7 (G.getD i zM).2)] (oqH b a) (iD 0) (oqH b c)) (V G.length) (λ_=>by
    have:=Led.refl O.ok 0;rw[O.view] at this;exact this) λi a ha=>by
    by_cases hi:i<G.length
    ·have C:=ha Om;obtain⟨Y,g2⟩:=Z i hi;have k0:=e2 (mvT p t (G.getD i zM)) (A2p.2 ⟨_,g2,rfl⟩);have hf:=hF _ (hvs _ Y).2 (by have:=T6 (M.fit _ Y);omega);rw[M.fit _ Y] at hf;obtain⟨c,s1,s2⟩:=P9 C.ok (mvT p t (G.getD i zM)).1 (G.getD i zM).2 0 hf (hvs _ Y).2 (by have:=C.len;have:=O.len;omega);have a3:BM 0 (mvT p t (G.getD i zM)).1=0:=by unfold BM;rw[if_pos k0.1]
     rw[a3] at s1 s2;rw[if_pos rfl] at s2;refine⟨c,λ_=>?_,λ_=>s1⟩;have:=C.trans s2;rw[C.view] at this;rw[J9 hi,A2F];show Led b l _ c (i+1) (DF ((G.take i).map (mvT p t)++[mvT p t (G.getD i zM)]) _);rw[PH];exact this
    ·exact⟨a,λN=>Om,λN=>absurd N hi⟩
  have a2:=(b1 G.length).1 (A2e _);rw[A2I] at a2;refine⟨Q3 G.length,?_,?_⟩
  ·exact q_move0 h hl hls p t Om Om hvs hE Om G hG (λj hj=>hz _ (Z j hj).2) V Q3 (λi=>D9 (G.getD i zM).1 ((V i).view l)) a0 b0 (λi hi=>(a1 i).2 hi) (λi hi=>(b1 i).2 hi)
  ·rw[if_pos rfl];exact(O.trans a2).mono Om
 ·have U:Dr Ao p t (q.view l)=((Hx p t (q.view l) G).1,q.view l):=by unfold Dr;rw[hG,if_pos hc]
  obtain⟨J,hJ,z1,z2,z3⟩:=Pk hc;refine⟨q,?_,?_⟩
  ·rw[U,z3];exact q_moveE h hl hls p t Om Om hvs hE Om G hG J hJ z1 z2
  ·rw[U,if_neg (by simpa using hc)];exact Led.refl h _
theorem do_all{b:GT}{l:Lga}(hl:l.length<=4096)(hls:∀e ∈ l,e.1.size<=64):∀(n:Nat) (m:GM) (d:Nat) (q:OQ),SizeOf.sizeOf m<=n->SmU m->wtU m<=1048576->BG Ao m d=0->AY m<=64->DoOk b l q (AY m)->
  ∃Y,A4 prog 105 [.ref 1 0 0 3,.agg (Ai m)] (oqH b q) (.val (.int .i64 (Bv Ao m (q.view l)).1)) (oqH b Y)/\Led b l q Y (8193*AY m) (GL m (q.view l))
 |0,m,d,q,hn,_,_,_,_,_=>by cases m;simp at hn
 |n+1,m,d,q,hn,hm,hw,h0,hsz,hq=>by
  obtain⟨m1,m2,m3,m4⟩:=hm.parts;have hz:1<=AY m:=by rw[DM];omega
  have ab:=es_le hq.ok.ch hq.ext;have ac:=hq.us;have ad:=hq.len;have C:Bv Ao m (q.view l)=if m.kind=1 then(BM (Ao m.value) m.key,if BM (Ao m.value) m.key=0 then B4 (m.key,m.value) (q.view l) else q.view l)
   else if m.kind=2 then(if D9 m.key (q.view l)=true then(0,BX m.key (q.view l)) else(12,q.view l))
   else if m.kind=3 then(Gv (q.view l) m.key m.n (Ao (Es (q.view l) m.key m.n)),if Gv (q.view l) m.key m.n (Ao (Es (q.view l) m.key m.n))=0 then B4 (m.key,Es (q.view l) m.key m.n) (q.view l) else q.view l)
   else if m.kind=4 then(VU m (q.view l) (Ao m.value),VT m (q.view l) (Ao m.value))
   else if m.kind=5 then(HT (q.view l) m.key (Ao (DC (q.view l) m.key m.value)),if HT (q.view l) m.key (Ao (DC (q.view l) m.key m.value))=0 then B4 (m.key,DC (q.view l) m.key m.value) (q.view l) else q.view l)
   else if m.kind=6 then Dr Ao m.key m.to (q.view l)
   else if m.kind=7 then(if m.key.size≠0/\F1 m (q.view l)=false then(13,q.view l) else Dn Ao m.list (q.view l))
   else(9,q.view l):=by cases m;rfl
  obtain⟨p1,p2,p3,p4,p5,p6⟩:=N2 h0;have ae:=J4 m;have a3:l.length<=1099511627776:=Om;have ho:∀ {c L L' Z n r},Bv Ao m (q.view l)=(c,L)->Led b l q Z n L'->(c=0->L'=L)->n<=8192->_->∃Y,A4 prog 105 [.ref 1 0 0 3,.agg (Ai m)] (oqH b q) (.val (.int .i64 (Bv Ao m (q.view l)).1)) (oqH b Y)/\Led b l q Y (8193*AY m) (GL m (q.view l)):=λ{c L L' Z n r} h1 h2 h0 h3 h4=>
   Td hq.ok h1 h2 h0 Om (by have:=h2.len;omega) λq2=>do_op m c Z q2 r h4
  by_cases k1:m.kind=1
  ·rw[if_pos k1] at C;obtain⟨Z,hP,M⟩:=P9 hq.ok m.key m.value (Ao m.value) (hF _ m2 Om) m2 Om;exact ho (r:=true) C M (λ_=>rfl) Om (.inl ⟨k1,hP⟩)
  rw[if_neg k1] at C;by_cases k2:m.kind=2
  ·rw[if_pos k2] at C;have a4:=EO (Rn p3 Om Om);obtain⟨Z,hP,M⟩:=Xe hq.ok a3 m.key a4 Om;cases hh:D9 m.key (q.view l) with
   |true=>
    rw[hh] at hP C;rw[if_pos rfl] at C;exact ho (r:=true) C M (λ_=>rfl) Om (.inr (.inl ⟨k2,rfl,hP⟩))
   |false=>
    rw[hh] at hP C;rw[if_neg Dq'] at C;exact ho (r:=false) C M (λh=>by cases h) Om (.inr (.inl ⟨k2,rfl,hP⟩))
  rw[if_neg k2] at C;by_cases k3:m.kind=3
  ·rw[if_pos k3] at C;obtain⟨Z,hP,M⟩:=q_inc hq.ok a3 m.key m.n (Ao (Es (q.view l) m.key m.n)) (hF _ (SW _ _ _) (by rw[Z2];omega)) Om;exact ho (r:=true) C M (λ_=>rfl) Om (.inr (.inr (.inl ⟨k3,hP⟩)))
  rw[if_neg k3] at C;by_cases k4:m.kind=4
  ·rw[if_pos k4] at C;have a4:=EO (Rn p3 Om Om);obtain⟨Z,hP,M⟩:=q_cas hq.ok a3 m (Ao m.value) m2 a4 (λ_=>hF _ m2 Om) Om;exact ho (r:=true) C M (λ_=>rfl) Om (.inr (.inr (.inr (.inl ⟨k4,hP⟩))))
  rw[if_neg k4] at C;by_cases k5:m.kind=5
  ·rw[if_pos k5] at C;obtain⟨w1,w2⟩:=TE hq.v m.key m2;obtain⟨Z,hP,M⟩:=q_behind hq.ok a3 m.key m.value (Ao (DC (q.view l) m.key m.value)) m2 (SA hq.v m.key).1 (hF _ w1 Om) Om;exact ho (r:=true) C M (λ_=>rfl) Om (.inr (.inr (.inr (.inr (.inl ⟨k5,hP⟩)))))
  rw[if_neg k5] at C;by_cases k6:m.kind=6
  ·rw[if_pos k6] at C;obtain⟨z1,z2⟩:=XA p3 k6;obtain⟨Z,hP,M⟩:=q_moveX hF hq.ok hq.v Om hls m.key m.to z1 z2 Om Om;exact ho (r:=true) (show Bv Ao m (q.view l)=((Dr Ao m.key m.to (q.view l)).1,(Dr Ao m.key m.to (q.view l)).2) from C) M (λh=>if_pos h) Om (.inr (.inr (.inr (.inr (.inr ⟨k6,hP⟩)))))
  rw[if_neg k6] at C;have ah:=Sa p1;have k7:m.kind=7:=Om;rw[if_pos k7] at C;have ai:=DM m;have a7:m.list.length<=64:=by have:=Hl m.list;omega
  have hS:=q_said hq.ok a3 m;let V:Nat->Lga:=Vs Ao m.list (q.view l);let P:Nat->OQ->Prop:=λi O=>Led b l q O (8193*Br (m.list.take i)) (V i)/\VOk (V i)/\(V i).length<=(q.view l).length+Br (m.list.take i);have one:∀i,i<m.list.length->∀O,P i O->∃Y,A4 prog 105 [.ref 1 0 0 3,.agg (Ai (m.list.getD i zU))] (oqH b O) (.val (.int .i64 (Bv Ao (m.list.getD i zU) (V i)).1)) (oqH b Y)/\Led b l O Y (8193*AY (m.list.getD i zU)) (GL (m.list.getD i zU) (V i)):=λi hi O hP=>by
   obtain⟨U,g2,g3⟩:=hP;have a0:=Ae (d:=zU) hi;obtain⟨t1,t2⟩:=Do hi;have aj:=GC a0;have ak:=U.len;have hlt:=GM.list_lt a0;have:=do_all hl hls n (m.list.getD i zU) (d+1) O Om (m4 _ a0) Om (Xt p6 a0) Om
    ⟨U.ok,by rw[U.view];exact g2,KV.trans hq.ok.ch U.ok.ch hq.ext U.ext,by rw[U.view];omega,Om⟩
   rw[U.view] at this;exact this
  have next:∀i,i<m.list.length->∀O Y,P i O->(Bv Ao (m.list.getD i zU) (V i)).1=0->Led b l O Y (8193*AY (m.list.getD i zU)) (GL (m.list.getD i zU) (V i))->P (i+1) Y:=λi hi O Y hP hc M=>by
   obtain⟨U,g2,g3⟩:=hP;have a0:=Ae (d:=zU) hi;obtain⟨t1,t2⟩:=Do hi;obtain⟨a1,a2⟩:=KX _ _ (m4 _ a0) g2;have e1:GL (m.list.getD i zU) (V i)=V (i+1):=by
    unfold GL;rw[if_pos hc];exact(TG Ao hi).symm
   rw[e1] at M a1 a2;refine⟨(U.trans M).mono (by rw[t1,Nat.mul_add];exact A2e _),a1,Om⟩
  have a5:V 0=q.view l:=ZN _ _ _;have a9:P 0 q:=⟨by rw[a5];exact(Led.refl hq.ok 0).mono (A2w _),by rw[a5];exact hq.v,by rw[a5];omega⟩
  have a8:∀N,N<=m.list.length->(∀i,i<N->(Bv Ao (m.list.getD i zU) (V i)).1=0)->∃f:Nat->OQ,f 0=q/\(∀i,i<=N->P i (f i))/\∀i,i<N->A4 prog 105 [.ref 1 0 0 3,.agg (Ai (m.list.getD i zU))] (oqH b (f i)) (iD 0) (oqH b (f (i+1))):=λN hN hz=>by
   obtain⟨f,f0,f1⟩:=HJ (λi O=>i<=N->P i O) (λi a c=>i<N->A4 prog 105 [.ref 1 0 0 3,.agg (Ai (m.list.getD i zU))] (oqH b a) (iD 0) (oqH b c)) q (λ_=>a9) λi a ha=>by
    by_cases hi:i<N
    ·obtain⟨c,s1,s2⟩:=one i Om a (ha Om);rw[hz i hi] at s1;exact⟨c,λ_=>next i Om a c (ha Om) (hz i hi) s2,λ_=>s1⟩
    ·exact⟨a,λh'=>Om,λh'=>absurd h' hi⟩
   exact⟨f,f0,λi hi=>(f1 i).1 hi,λi hi=>(f1 i).2 hi⟩
  by_cases hs:m.key.size≠0/\F1 m (q.view l)=false
  ·rw[if_pos hs] at C;obtain⟨s1,s2⟩:=hs;rw[s2] at hS;exact Td hq.ok C (Led.refl hq.ok 0) (λh=>by cases h) (A2w _) Om λq2=>do_seqS m k7 q2 (λe=>s1 ((JK _).1 e)) hS
  ·rw[if_neg hs] at C;have aa:Bv Ao m (q.view l)=((Dn Ao m.list (q.view l)).1,(Dn Ao m.list (q.view l)).2):=C;have hK:m.key=⟨#[]⟩\/m.key≠⟨#[]⟩/\A4 prog 170 [.ref 1 0 0 3,.agg (Ai m)] (oqH b q) (bD true) (oqH b q):=by
    by_cases a6:m.key.size=0
    ·exact .inl ((JK _).2 a6)
    ·cases h2:F1 m (q.view l) with
     |true=>rw [h2] at hS;exact .inr ⟨λe=>a6 ((JK _).1 e),hS⟩
     |false=>exact absurd ⟨a6,h2⟩ hs
   rcases Hj Ao m.list (q.view l) with⟨c1,c2⟩|⟨J,c1,c2,c3,c4⟩
   ·obtain⟨f,f0,f1,f2⟩:=a8 m.list.length (A2e _) c2;obtain⟨U,_,_⟩:=f1 m.list.length (A2e _);rw[A2I] at U;rw[c1] at C;exact Td hq.ok C U (λ_=>rfl) Om (by have:=U.len;omega) λq2=>do_seq m k7 f _ q2 0 _ f0 a7 hK f2 (.inl ⟨rfl,rfl,rfl⟩)
   ·obtain⟨f,f0,f1,f2⟩:=a8 J Om c2;have g:=f1 J (A2e _);obtain⟨qf,s1,s2⟩:=one J c1 (f J) g;rw[c3] at s1;have al:=WS (Ae (d:=zU) c1);obtain⟨t1,t2⟩:=Do c1;have M:=g.1.trans s2;exact Td hq.ok aa M (λh=>absurd h c4) Om (by have:=M.len;omega) λq2=>do_seq m k7 f qf q2 _ J f0 a7 hK f2 (.inr ⟨c1,c4,s1⟩)
end
end Go.Ab
namespace Go.Ab
open Go.RowKit
def CatC(P:Program)(rs:List ResultVar)(g:FuncId)(cs:List D)(rB:D)(HB':Hp)(o:Option D)(s:St):Prop:=
 ∃(rD:Nat->Nat) (csD:List D) (HD HD':Hp),TN P g csD o HD HD'/\cs=Co rD csD/\ltL 4 csD=true/\Bq rD (Ak s.hp) HD/\DH (2*s.nx) rD HD []=true/\DH (2*s.nx) rD HD HD'=true/\
   ∃d,KD P ⟨s.env,F0 s.hp (EE (2*s.nx) rD HD HD'),s.nx+4⟩ rs=some d/\Aq ⟨[(0,d)],F0 s.hp (EE (2*s.nx) rD HD HD'),s.nx+4⟩ ⟨[(0,rB)],HB',4⟩
def S3(P:Program)(rs:List ResultVar)(g:FuncId)(cs:List D)(rB:D)(HB':Hp):AE->St->Prop
 |.ret,s|.normal,s=>CatC P rs g cs rB HB' none s
 |.panic d,s=>d.pure=true/\CatC P rs g cs rB HB' (some d) s
 |_,_=>False
def Wu(P:Program)(nt:Nat)(rs:List ResultVar)(g:FuncId)(t:Nat)(caps:Array Operand)(B:Code)(r:D)(H':Hp)(r1:Nat->Nat)(cs:List D)(env':Env)(HB:Hp)(rB:D)(HB':Hp):AE->St->Prop
 |.normal,s=>caps.toList.map (evO P s.env.get)=Co r1 cs/\ltL 0 cs=true/\Co (λb=>b) cs=cs/\Cs r1 ((t,.any)::s.env) env'/\Ki 4 env'=true/\Bq r1 (Ak s.hp) HB/\DH (2*s.nx) r1 HB []=true/\DH (2*s.nx) r1 HB HB'=true/\
   AWp P nt B (S3 P rs g cs rB HB') ⟨env',HB,4⟩/\Aq ⟨[(0,Bu (Df (2*s.nx) r1) rB)],F0 s.hp (EE (2*s.nx) r1 HB HB'),s.nx+4⟩ ⟨[(0,r)],H',4⟩
 |_,_=>False
def A4.of_awp_catch{P:Program}{nt:Nat}{f:FuncId}{fn:Func}(As:List Code){B:Code}{ds:List D}{H:Hp}{r:D}{H':Hp}{id t g:Nat}{caps:Array Operand}{T1 T2:TypeId}{a7 a8:String}{a9 aa:Array Edge}{ts:Array TypeId}(hf:P.funcs[f]? =some fn)
  (hb:fn.body=some (As.foldr .seq (.seq (.region id #[⟨some t,.makeFunc (.func g) #[] caps,T1,a7,a9,none⟩,⟨none,.defer {callee:=.value (.tmp t),args:=#[],argTypes:=ts},T2,a8,aa,none⟩] false) B)))
  (hn:fn.ntmps=nt) (am:By P f=true) (bh:ds.length<=nt) (ht:t<nt) {rs:List ResultVar} (an:fn.results.toList=rs) (r1:Nat->Nat) (cs:List D) (env':Env) (HB:Hp) (rB:D) (HB':Hp)
  (h:AWpL P nt As (Wu P nt rs g t caps B r H' r1 cs env' HB rB HB' .normal) ⟨BB 0 ds,H,4⟩):A4 P f ds H r H':=by
 subst an;unfold A4;refine⟨am,λw M0 G0 I mu vs a5 bi Y ab=>?_⟩;let G:Gh:=⟨G0.st,G0.nm,[],Fence.wide,1,.inl rfl⟩
 refine callsIn_wide.1 (callsIn_of_wp_marks hf hb trivial (J5 (I0:=G) a5 ?_ As _ h I mu _ w ⟨?_,C8.refl _ _ _ _,λt=>Gq ab _ t,⟨Y.blk,Y.loc,Y.inj,Y.fresh,Y.lt,Y.os,Y.tape,Y.output,Y.grown,Y.old,Y.iold,Y.inew,Y.keep,Y.used⟩⟩))
 case refine_2=>have:=ab.1;simp_all
 rintro s1 I1 ac C U hq R1;obtain⟨c1,c2,c3,c4,c5,c6,c7,c8,hB,hW⟩:=hq;refine wpIn_seq (wpIn_region ?_);have ao:Bo U I1 ac (Co r1 cs) (caps.toList.map C.eval):=by
  rw[<-c1];exact Bo.args λy _=>Ei (GA.at (I0:=G) a5 R1.w) R1.env y
 have bj:(caps.toList.map C.eval).toArray=caps.map C.eval:=by grind
 have o1:(execOp C.eval ⟨some t,.makeFunc (.func g) #[] caps,T1,a7,a9,none⟩).run P U=.ok (.value (.func (.func g) #[] (caps.map C.eval))) U:=by simp[execOp,Instr.makeFunc]
 have ap:(C.put (some t) (.func (.func g) #[] (caps.map C.eval))).eval (.tmp t)=.func (.func g) #[] (caps.map C.eval):=by
  have:t<C.tmps.size:=by rw[R1.size];exact ht
  simp[Act.put,Act.eval,this]
 have o2:(execOp (C.put (some t) (.func (.func g) #[] (caps.map C.eval))).eval ⟨none,.defer {callee:=.value (.tmp t),args:=#[],argTypes:=ts},T2,a8,aa,none⟩).run P U=.ok (.defer {target:=.fn (.func g) (caps.map C.eval),args:=#[]}) U:=by
  grind [execOp,resolve,Deferred.ofValue,Sem.run_bind,Sem.run_pure,Result.andThen]
 have aq:C.defers=[]:=by
  obtain⟨rs,d0,d1,_⟩:=R1.defers;grind
 obtain⟨M,G2,ad,⟨g1,g2,Z,g4,g5,g6,g7,g8⟩,ar⟩:=hand r1 (show GA P w M0 G from a5) R1.w (λj hj=>⟨Om,Om⟩) (λ_ _=>rfl) ao (Eo (A2w 4) c2) c6 c7;generalize bm:Value.func (.func g) #[] (caps.map C.eval)=a0 at o1 o2 ap;let d:Deferred:= {target:=.fn (.func g) (caps.map C.eval),args:=#[]}
 let G3:Gh:=⟨G2.st,G2.nm,[d],Fence.wide,1,.inl rfl⟩
 have au:∀O,Rep U I1 ad (env'.get O) ((C.put (some t) a0).tmps.getD O undef):=by
  intro O;have h1:Rep U I1 ac (Env.get ((t,.any)::s1.env) O) ((C.put (some t) a0).tmps.getD O undef):=by
   simp[Env.get];by_cases hh:t=O
   ·subst hh;simp;exact .any _
   ·have:(t==O)=false:=by simp_all
    simp[this,cond_false];have:=R1.env O;simp[Act.put,A3z,Array.getElem?_setIfInBounds_ne hh] at this|-;exact this
  rcases Hi c4 c5 O with⟨d',h2,h3,h4⟩|h2
  ·rw[h2];exact(h1.lo h3).ren g5 rfl h4
  ·rw[h2];exact .any _
 have av:(C.put (some t) a0).tmps.size=nt:=by rw[FM];exact R1.size
 show wpOpsIn Fence.wide 1 P _ _ [0,1] C U;simp only[wpOpsIn,A37,A2Z,A3B,Region.wanted];simp only[if_true];refine CT (G:=G) o1 ?_;refine⟨λf' _=>G.fn f',?_⟩;rw[show Fence.wide.round=none from rfl,Oper.semAt_none,o2];show Code.wpIn Fence.wide 1 P B _ ({tmps:=(C.put (some t) a0).tmps,defers:=d::(C.put (some t) a0).defers}:Act) U;rw[EF,aq];refine wpIn_mono (hB U M G3 g1 I1 ad {tmps:=(C.put (some t) a0).tmps,defers:=[d]} U ⟨av,C8.refl _ _ _ _,au,⟨Z.blk,Z.loc,Z.inj,Z.fresh,Z.lt,Z.os,Z.tape,Z.output,Z.grown,Z.old,Z.iold,Z.inew,Z.keep,Z.used⟩⟩) ?_;rintro e a2 w2 ⟨x,s2,I2,a6,a3,ae,R2⟩;have aw:a2.defers=[d]:=by
  obtain⟨rs,d0,d1,_⟩:=R2.defers;grind
 have ax:∀k,I1 k->w2.heap[k]? =U.heap[k]?:=λk hk=>R2.w.old k (R1.w.lt k hk) (λhM=>g7 k hM hk);have fin:∀(o:Option D) (u u':FrameMode),RecU w2 I2 a6 o u u'->(∀d,o=some d->d.pure=true)->settle u'=.returning->u≠ .run->CatC P fn.results.toList g cs rB HB' o s2->LeavesInM Fence.wide 1 P fn a2.tmps (λe w'=>∃v I' mu',e=.returned v/\Rep w' I' mu' r v/\AA w M0 G0 (frN 4) I' mu' (Ak H') w') a2.defers u w2:=by
  rintro o u u' ah ay az b3 ⟨rD,b4,HD,a4,hD,q1,q2,q3,q4,q5,dd,q6,q7⟩;rw[aw];have b5:Bo w2 I2 a6 (Co rD b4) (caps.toList.map C.eval):=by
   rw[<-q1];refine⟨g4.1,λi hi=>?_⟩;have h1:=g4.2 i hi;have b6:nd cs i=Bu (λb=>b) (nd cs i):=by
    have:=Cd (r:=λb=>b) hi;rw[c3] at this;exact this
   have h2:Rep U I1 a6 (nd cs i) (nv (caps.toList.map C.eval) i):=Rep.ren (λb x hb hx=>by
    have ai:b%2=1:=by simpa[okN] using hb
    exact R2.w.keep b x ai (g8 b x ai hx)) h1 b6 (Fg c2 i)
   exact h2.mono ax (λk hk=>R2.w.iold k (g6 k hk)) (λ_ _ h=>h)
  obtain⟨M4,G4,aj,⟨f1,f2,f3,f4,f5,_⟩,b7⟩:=hand rD (show GA P U M G3 from g1) R2.w (λj hj=>⟨Om,by show 2*s2.nx<=2*s2.nx+2*j;omega⟩) (λ_ _=>rfl) b5 q2 q3 q4;have b8:(invoke (.fn (.func g) (caps.map C.eval)) #[]).run P w2=.ok (.enter g (caps.toList.map C.eval).toArray) w2:=by
   have e1:#[]++caps.map C.eval=(caps.toList.map C.eval).toArray:=by apply Array.ext';simp
   simp only[invoke];exact(congrArg (λz=>(callFunc g z).run P w2) e1).trans (Bj hD.1 _ w2)
  have b9:RecU w2 I2 aj o u u':=by
   cases o with
   |none=>exact ah
   |some d=>
    obtain⟨v,hv,hu⟩:=ah;exact⟨v,hv.unmu (ay d rfl),hu⟩
  refine⟨b3,.inr ⟨λh=>(by cases h),Fn.func g,caps.map C.eval,g,_,rfl,b8,λf' _=>G3.fn f',(hD.2 w2 M4 G4 I2 aj _ u u' f1 f2 f3 f4 b9).mono ?_⟩⟩;rintro e ba w3 ⟨rfl,v,I3,bb,rfl,R3⟩;show LeavesInM Fence.wide 1 P fn a2.tmps _ [] (settle ba) w3;rw[az];obtain⟨bc,e4,R4,_⟩:=b7 .any a4 v w3 I3 bb q5 (.any _) R3;have bd:(λb=>AZ b (s2.fs.hp b) (CJ (2*s2.nx) rD HD .any a4).up)=Ak (F0 s2.hp (EE (2*s2.nx) rD HD a4)):=by
   funext b;rw[FF];rfl
  rw[bd] at R4;have N:=R4.less (fr':=frN (s2.nx+4)) λb hb=>⟨⟨hb.1,by have:=hb.2;omega⟩,λj hj=>by have:=hb.2;omega⟩
  obtain⟨v5,h5,h6⟩:=Jl (w0:=U) (M0:=M) (I0:=⟨G3.st,G3.nm,a2.defers,Fence.wide,1,.inl rfl⟩) (fr:=frN (s2.nx+4)) (nt:=nt) (s:=⟨s2.env,F0 s2.hp (EE (2*s2.nx) rD HD a4),s2.nx+4⟩)
   ⟨R2.size,C8.refl _ _ _ _,λO=>(R2.env O).ext e4,⟨N.blk,N.loc,N.inj,N.fresh,N.lt,N.os,N.tape,N.output,N.grown,N.old,N.iold,N.inew,N.keep,N.used⟩⟩ fn q6
  obtain⟨I6,ak,R6⟩:=q7 U M G2 1 I3 bc {tmps:=#[v5],defers:=G2.dl} w3 ⟨rfl,C8.refl _ _ _ _,λO=>by
   cases O with
   |zero=>simpa [St.fs,Env.get] using h6
   |succ O=>simp;exact .any _,⟨N.blk,N.loc,N.inj,N.fresh,N.lt,N.os,N.tape,N.output,N.grown,N.old,N.iold,N.inew,N.keep,N.used⟩⟩
  have r0:Rep w3 I6 ak rB v5:=by simpa[St.fs,Env.get] using R6.env 0
  obtain⟨be,e7,R7,h7,_⟩:=ar rB HB' v5 w3 I6 ak c8 r0 R6.w;have bf:(λb=>AZ b (s1.fs.hp b) (CJ (2*s1.nx) r1 HB rB HB').up)=Ak (F0 s1.hp (EE (2*s1.nx) r1 HB HB')):=by
   funext b;rw[FF];rfl
  rw[bf] at R7;have bg:=R7.less (fr':=frN (s1.nx+4)) λb hb=>⟨⟨hb.1,by have:=hb.2;omega⟩,λj hj=>by have:=hb.2;omega⟩
  obtain⟨I8,al,V⟩:=hW w M0 G 1 I6 be {tmps:=#[v5],defers:=[]} w3 ⟨rfl,C8.refl _ _ _ _,λO=>by
   cases O with
   |zero=>simpa [St.fs,Env.get,CJ] using h7
   |succ O=>simp;exact .any _,bg⟩
  have r8:Rep w3 I8 al r v5:=by simpa[St.fs,Env.get] using V.env 0
  exact⟨v5,h5,v5,I8,al,rfl,r8,⟨V.w.blk,V.w.loc,V.w.inj,V.w.fresh,V.w.lt,V.w.os,V.w.tape,V.w.output,V.w.grown,V.w.old,V.w.iold,V.w.inew,V.w.keep,V.w.used⟩⟩
 cases x<;>cases e<;>simp [He] at ae<;>simp [S3] at a3
 ·exact fin none .returning .returning ⟨rfl,rfl⟩ (λd h=>by cases h) rfl Sq' a3
 ·exact fin none .returning .returning ⟨rfl,rfl⟩ (λd h=>by cases h) rfl Sq' a3
 ·obtain⟨v,rfl,hv⟩:=ae;exact fin (some _) _ _ ⟨v,hv,rfl,rfl⟩ (by grind) rfl Sq' a3.2
def A5.panV{P:Program}{ops:Array Oper}{nx:Nat}{dst:Option Tmp}{T:TypeId}{ps:String}{af:Array Edge}{x:Operand}{l:List Oper}{pos:Nat}{acc:List Eff}{s:St}{K:List Eff->St->Prop}{f:FuncId}{args:Array Operand}{ts:Array TypeId}{fs cs ds:List D}{r:D}(hx:evO P s.env.get x=.func (.func f) fs cs)(hc:G8 P f ds r)(ha:fs++args.toList.map (evO P s.env.get)++cs=ds)(a0:An ds=true)(a1:r.pure=true)(M:K [] ⟨(BF,r)::s.env,s.hp,s.nx⟩):
  A5 P ops nx (⟨dst,.call {callee:=.value x,args:=args,argTypes:=ts},T,ps,af,none⟩::l) pos acc s K:=by
 refine A5.panic0 ?_ M;intro w0 M0 I0 nt fr I mu a w U C K Q hQ;refine⟨by simp[Region.wanted],?_⟩;subst ha;unfold G8 at hc;have V:∀y,Rep w I mu (evO P s.env.get y) (a.eval y):=λy=>Ei (U.at C.w) C.env y;have N:=V x;rw[hx] at N;have a2:=Bo.args (args:=args) λy _=>V y;generalize O:a.eval x=fv at N;cases N with
 |func _ _ _ us vs hl a3 h1 h2=>
 have Y:=((Bo.append (Bo.append ⟨hl,h1⟩ a2) ⟨a3,h2⟩).unmu (mu':=λ_=>none) a0)
 have a4:=hc.2 w I _ (U.at C.w) C.w.lt Y.1 Y.2;have a5:(execOp a.eval ⟨dst,.call {callee:=.value x,args:=args,argTypes:=ts},T,ps,af,none⟩).run P w=.ok (.enter f (us++args.toList.map a.eval++vs).toArray) w:=by
  have e1:us.toArray++args.map a.eval++vs.toArray=(us++args.toList.map a.eval++vs).toArray:=by simp_all
  simp only[execOp,resolve,O,Deferred.ofValue,A2o,A2u,Result.andThen,invoke];exact(congrArg (λz=>(callFunc f z).run P w) e1).trans (Bj hc.1 _ w)
 refine Ci a5 ?_;refine a4.mono λe w' ⟨v,I',O,hv,h1,h2,h3,Z⟩=>?_;subst O;have g1:=C.w.below h1 h2 h3 Z;have g2:Ext I mu w I' mu w':=⟨h1,λ_ _ h=>h,λk M=>Z.block k (C.w.lt k M)⟩
 exact hQ v w' I' ⟨C.size,C.defers.ext g2,λt=>(C.env t).ext g2,g1⟩ (hv.unmu a1)
end Go.Ab
namespace Go.Ab
open Go.Proofs Go.Proofs.Tryz Go.RowKit
abbrev RN(c:Int):Hp:=[(3,.rows [[iD c]] 1)]
def r_catN:TN prog 100 [.ref 3 0 0 1] none (RN 0) (RN 0):=by
 refine TN.of_awp (t:=4) func100 rfl ntmps100 Kq' Sq' Dq' (congrArg Array.toList results100) ?_;change AWp _ _ _ _ ⟨(4,.val .nilIface)::BB 0 [.ref 3 0 0 1],[(3,.rows [[iD 0]] 1)],4⟩;refine Zy ?_;push_cast;refine A5.nilNil (by push_cast) (by push_cast) (λa w h1 h2=>?_) ?_
 ·have u:=run_underlying (P:=prog) underlying20;simp only[execOp,h1,h2,eqGuard,binOp];unfold Op.equal Op.maxDepth Op.equalIn;simp[u]
 ·(push_cast<;>repeat' apply Za)
  simp only[RN];apply Zw<;>push_cast
def r_catS(c:Int):TN prog 100 [.ref 3 0 0 1] (some (wD c)) (RN 0) (RN c):=by
 refine TN.of_awp (t:=4) func100 rfl ntmps100 Kq' Sq' Dq' (congrArg Array.toList results100) ?_;change AWp _ _ _ _ ⟨(4,wD c)::BB 0 [.ref 3 0 0 1],[(3,.rows [[iD 0]] 1)],4⟩;refine Zy ?_;push_cast;refine A5.ifNil (by push_cast;rfl) (by push_cast) (λa v w h1 h2=>?_) ?_
 ·have u:=run_underlying (P:=prog) underlying20;simp only[execOp,h1,h2,eqGuard,binOp];unfold Op.equal Op.maxDepth Op.equalIn;simp[u]
 ·(push_cast<;>repeat' apply Za)
  refine A5.assert (by push_cast;rfl) (λv w=>?_) ?_
  ·simp[Instr.typeAssert,go_sem,underlying170]
  ·(push_cast<;>repeat' apply Za)
   simp only[RN];apply Zw<;>push_cast
section
variable{F:GV->Int}(hF:∀v,Sm v->wtV v<=2097152->A0 prog 50 [.agg (A7 v)] (.val (.int .i64 (F v))))
include hF
theorem c_May1(m:GM)(hm:SmU m)(C:wtU m<=2097152)(h0:BG F m 1=0):A0 prog 66 [.ptr (Ai m) 0] (.tup []):=by
 have h:A0 prog 67 [.agg (Ai m),iD 1] (.tup []):=Tr hF m 1 hm C Om h0;refine Zf [] ?_
 (have z:=trivial;push_cast<;>repeat' (first|refine Zc h ?_|apply Za)<;>push_cast)
theorem p_May1(m:GM)(hm:SmU m)(C:wtU m<=2097152)(h0:BG F m 1≠0):G8 prog 66 [.ptr (Ai m) 0] (wD (BG F m 1)):=by
 have h:G8 prog 67 [.agg (Ai m),iD 1] (wD (BG F m 1)):=p_look hF m 1 hm C Om h0;generalize BG F m 1=c at*;refine G8.of_awp func66 rfl ntmps66 Kq' Sq' (AWp.sz λH Hb=>Zy ?_)
 (have z:=trivial;push_cast<;>repeat' (first|with_reducible apply Za|(with_reducible show A5 _ _ _ _ _ _ _ _;refine A5.pan (by(try push_cast);exact h ..) rfl (by first|rfl|push_cast) rfl ?_)|fail)<;>push_cast)
 exact⟨Av _,rfl⟩
end
def A1S(ds:List D)(C:An ds=true)(h:A0 prog 66 ds (.tup [])):A4 prog 65 [.func (.func 66) [] ds] [] (iD 0) []:=by
 refine A4.of_awp_catch [_] func65 rfl ntmps65 Kq' Sq' Dq' (congrArg Array.toList results65) (C6 [(3,8)]) [.ref 3 0 0 1] [(2,.ref 3 0 0 1),(0,.func (.func 66) [] ds)] [(3,.rows [[iD 0]] 1)] (iD 0) [(3,.rows [[iD 0]] 1)] ?_;refine Zy ?_
 (have z:=@C;push_cast[z]<;>repeat' (first|with_reducible apply Za))
 refine(show Wu _ _ _ _ _ _ _ _ _ _ _ _ _ _ _ _ _ from⟨?_,?_,?_,?_,?_,?_,?_,?_,?_,?_⟩)
 ·push_cast[C]
 ·push_cast[C]
 ·push_cast[C]
 ·push_cast[C,Cs]
 ·push_cast[C]
 ·push_cast[C,Bq]
 ·push_cast[C]
 ·push_cast[C]
 ·refine Zy ?_
  (have z:=@C;push_cast[z]<;>repeat' (first|refine Zv h ?_|apply Za)<;>push_cast[z])
  refine(show S3 _ _ _ _ _ _ _ _ from⟨C6 [],[.ref 3 0 0 1],_,_,r_catN,?_,?_,?_,?_,?_,iD 0,?_,?_⟩)
  ·push_cast[C]
  ·push_cast[C]
  ·push_cast[C,Bq]
  ·push_cast[C]
  ·push_cast[C]
  ·push_cast[C]
  ·push_cast[C];apply Zw<;>push_cast [C]
 ·push_cast[C];apply Zw<;>push_cast [C]
def A1R(ds:List D)(C:An ds=true)(c:Int)(h:G8 prog 66 ds (wD c)):A4 prog 65 [.func (.func 66) [] ds] [] (iD c) []:=by
 refine A4.of_awp_catch [_] func65 rfl ntmps65 Kq' Sq' Dq' (congrArg Array.toList results65) (C6 [(3,8)]) [.ref 3 0 0 1] [(2,.ref 3 0 0 1),(0,.func (.func 66) [] ds)] [(3,.rows [[iD 0]] 1)] (iD c) [(3,.rows [[iD c]] 1)] ?_;refine Zy ?_
 (have z:=@C;push_cast[z]<;>repeat' (first|with_reducible apply Za))
 refine(show Wu _ _ _ _ _ _ _ _ _ _ _ _ _ _ _ _ _ from⟨?_,?_,?_,?_,?_,?_,?_,?_,?_,?_⟩)
 ·push_cast[C,BF]
 ·push_cast[C,BF]
 ·push_cast[C,BF]
 ·push_cast[C,Cs]
 ·push_cast[C,BF]
 ·push_cast[C,Bq]
 ·push_cast[C,BF]
 ·push_cast[C,BF]
 ·refine Zy ?_
  (have z:=@C;push_cast[z]<;>repeat' (first|with_reducible apply Za|(with_reducible show A5 _ _ _ _ _ _ _ _;refine A5.panV rfl (by(try push_cast[z]);exact h ..) rfl (by first|rfl|push_cast [z]) rfl ?_)|fail)<;>push_cast[z])
  refine(show S3 _ _ _ _ _ _ _ _ from⟨rfl,C6 [],[.ref 3 0 0 1],_,_,r_catS c,?_,?_,?_,?_,?_,iD c,?_,?_⟩)
  ·push_cast[C,BF]
  ·push_cast[C,BF]
  ·push_cast[C,Bq]
  ·push_cast[C,BF]
  ·push_cast[C,BF]
  ·push_cast[C,BF]
  ·push_cast[C,BF];apply Zw<;>push_cast [C,BF]
 ·push_cast[C,BF];apply Zw<;>push_cast [C,BF]
noncomputable def Ec(F:GV->Int)(m:GM):Int:=if 64<AY m then 6 else BG F m 1
def Qj{F:GV->Int}(hF:∀v,Sm v->wtV v<=2097152->A0 prog 50 [.agg (A7 v)] (iD (F v)))(m:GM)(hm:SmU m)(O:wtU m<=2097152)(V:AY m<=1099511627776):A0 prog 32 [.agg (Ai m)] (iD (Ec F m)):=by
 have M:=ZA m V;have C:=Ax m;unfold Ec;by_cases U:64<AY m
 ·rw[if_pos U];have b1:decide ((64:Int)<(AY m:Nat))=true:=Dt';refine Zf [0] ?_
  (have z:=Za b1 C;push_cast[z]<;>repeat' (first|refine Zc M ?_|apply Za)<;>push_cast[z])
 ·rw[if_neg U];have b1:decide ((64:Int)<(AY m:Nat))=false:=Df';by_cases hc:BG F m 1=0
  ·have N:=A1S [.ptr (Ai m) 0] (by simp[An,D.pure,C]) (c_May1 hF m hm O hc);rw[hc];refine Zf [0] ?_
   (have z:=Za b1 C;push_cast[z]<;>repeat' (first|refine Zc M ?_|refine Zs [] N ?_|apply Za)<;>push_cast[z])
  ·have N:=A1R [.ptr (Ai m) 0] (by simp[An,D.pure,C]) _ (p_May1 hF m hm O hc);generalize BG F m 1=c at*;refine Zf [0] ?_
   (have z:=Za b1 C;push_cast[z]<;>repeat' (first|refine Zc M ?_|refine Zs [] N ?_|apply Za)<;>push_cast[z])
noncomputable def DN(m:GM)(L:Lga):Int×Lga:=if Ec Ao m≠0 then(Ec Ao m,L) else((Bv Ao m L).1,GL m L)
def Pq{L:Lga}{k:Baa}{v:GV}(h:Am k L=some v):(k,v) ∈ L:=by
 unfold Am at h;cases hf:L.find? λx=>decide (x.1=k) with
 |none=>rw [hf] at h;cases h
 |some e=>
  rw[hf] at h;simp only[A3g,A2j] at h;have h1:=List.mem_of_find?_eq_some hf;have h2:=List.find?_some hf;simp only[decide_eq_true_eq] at h2;obtain⟨a,b⟩:=e;subst h h2;exact h1
def A0g{q:OQ}{l:Lga}(hl:VOk l)(C:VOk (q.view l))(M:(q.es.map (·.1)).Nodup):TM q.es l:=λk v w h1 h2 N=>by
 have O:Am k (q.view l)=some v:=by
  show Am k (GD q.es l)=_;rw[CY k q.es l M,h1];rfl
 have f1:=(PL (hl.fit _ (Pq h2))).1;have f2:=(PL (C.fit _ (Pq O))).1;exact same_eq f1 f2 N
section
variable(hF:∀v,Sm v->wtV v<=2097152->A0 prog 50 [.agg (A7 v)] (.val (.int .i64 (Ao v))))
include hF
theorem run_ok{b:GT}{l:Lga}(hb:Dw b l)(M:VOk l)(hl:l.length<=4000)(m:GM)(hm:SmU m)(hw:wtU m<=1048576)(hz:AY m<=1099511627776):
  ∃O,A0 prog 34 [AF b,.agg (Ai m)] (.tup [AF O,.val (.int .i64 (DN m l).1)])/\Dw O (DN m l).2/\VOk (DN m l).2/\(DN m l).2.length<=l.length+64:=by
 have V:=Qj hF m hm Om hz;unfold DN;by_cases hc:Ec Ao m=0
 ·rw[if_neg (by simpa using hc)];rw[hc] at V;have U:=hc;unfold Ec at U;have a3:AY m<=64:=by
   rcases A2z 64 (AY m) with h|h
   ·rw[if_pos h] at U;cases U
   ·exact h
  rw[if_neg Om] at U;let q:OQ:=⟨none,[]⟩
  have hq:Fe b q l:=⟨hb,⟨by simp[q,OQ.es],by simp[q,OQ.es],by simp[q,OQ.es],by simp[q,OQ.es]⟩,λ_=>rfl⟩
  have Z:q.view l=l:=rfl;have hls:∀e ∈ l,e.1.size<=64:=λe he=>EO (M.key e he);obtain⟨N,hD,C⟩:=do_all hF Om hls _ m 1 q (A2e _) hm hw U a3 ⟨hq,by rw[Z];exact M,.refl q,by rw[Z];omega,by simp only[q,A2r];omega⟩;rw[Z] at hD C;obtain⟨a1,a2⟩:=KX m l hm M;by_cases a0:(Bv Ao m l).1=0
  ·have Y:=q_Do m _ N V hD;rw[a0] at Y|-;have a5:=es_le C.ok.ch C.ext;have a4:=C.len;obtain⟨O,ht,hC⟩:=A1m (oq b N) l C.ok.ov (by show l.length+N.es.length<=1048576;simp only[q,A2r] at a4;omega) (A0g M (by rw[C.view];exact a1) C.ok.ch.keys);rw[Hv] at hC;rw[Lb,C.view] at ht;exact⟨O,c_Run b O m N Y hC,ht,a1,by simp only;omega⟩
  ·have Y:=q_Do m _ N V hD;have hr:GL m l=l:=by unfold GL;rw[if_neg a0]
   refine⟨b,c_RunE b m _ a0 N Y,?_,?_,?_⟩
   ·simp only[hr];exact hb
   ·simp only[hr];exact M
   ·simp only[hr];omega
 ·rw[if_pos (by simpa using hc)];exact⟨b,c_RunE b m _ hc ⟨none,[]⟩ (q_DoE m _ V hc),hb,M,by simp only;omega⟩
end
def Tells{σ:Type}(n:Nat)(P:Program)(g:Nat)(lb:Array Value)(enc:σ->Array Value)(next:σ->σ)(live:σ->Prop)(s0 z:σ)(Kw:σ->World->Prop):Prop:=
 ∀(l:Nat) (J:σ->World->Prop),(∀s W,J s W->Kw s W)->(∀s W W',J s W->Below W.heap.size W W'->J s W')->
  (∀s W,J s W->live s->YieldAt Fence.wide (n-1) P l (enc s) W λe W'=>e=.returned (.bool true)/\J (next s) W')->
  ∀W,J s0 W->CallsIn Fence.wide n P g (#[.func (.yield l) #[] #[]]++lb) W λe W'=>(∃v,e=.returned v)/\J z W'
variable{n:Nat}{P:Program}
def wp_tells{σ:Type}{g:Operand}{ps:Array Tmp}{assign body:Code}{Q:Exit->Act->World->Prop}{a:Act}{w:World}
  {gf:Nat} {lb:Array Value} (hg:a.eval g=.func (.func gf) #[] lb) (eg:∀args w,(callFunc gf args).run P w=.ok (.enter gf args) w)
  {enc:σ->Array Value} {next:σ->σ} {V:σ->Prop} {s0 z:σ} {Y:σ->World->Prop} (a1:Tells (n-1) P gf lb enc next V s0 z Y) (a2:∀s,(enc s).size=ps.size)
  (I:σ->World->Prop) (hK:∀s W,I s W->Y s W) (M:∀s W W',I s W->Below W.heap.size W W'->I s W') (N:∀s W l r o,w.heap.size<=l->W.heap[l]? =some (.loop r)->I s W->I s (W.putObj l o)) (h0:I s0 w) (Z:σ->Act)
  (a4:∀(l:Nat) (s:σ) (W:World) (K:Act->World->Prop),K (Z s) W->
   assign.wpIn (Fence.wide.inRound l) (n-1-1) P (Exit.then K (λ_ _ _=>False)) {tmps:=(ps.zip (enc s)).foldl (λt (p,v)=>t.setIfInBounds p v) a.tmps,defers:=[]} W)
  (a5:∀(l:Nat) (s:σ) (W:World),I s W->V s->body.wpIn (Fence.wide.inRound l) (n-1-1) P (λe _ W'=>e=.normal/\KeepsOthers W W'/\I (next s) W') (Z s) W)
  (a6:∀(D:Nat) (W:World),w.heap.size<=D->I z W->W.heap[D]? =some (.deferred (some []))->Q .normal {a with defers:= {target:=.collected D,args:=#[]}::a.defers} W):
  (Code.rangeFunc g ps assign body).wpIn Fence.wide n P Q a w:=by
 refine wpIn_rangeFunc ?_;intro fn a7;obtain⟨rec,hrec⟩:∃rec:LoopState->Option Code->Loop,rec=λst pe=> {state:=st,pending:=pe,fn,tmps:=a.tmps,params:=ps,assign,body,defers:=w.heap.size}:=⟨_,rfl⟩
 obtain⟨C,hW1⟩:∃C,(w.alloc (.deferred (some []))).alloc (.loop (rec .ready none))=C:=⟨_,rfl⟩
 have a8:C.heap[w.heap.size+1]? =some (.loop (rec .ready none)):=by
  rw[<-hW1];have:=World.alloc_heap_new (w.alloc (.deferred (some []))) (.loop (rec .ready none));rwa[World.size_alloc] at this
 have a9:C.heap[w.heap.size]? =some (.deferred (some [])):=by
  rw[<-hW1];exact(Below.heap_alloc _ _ _ Sq').trans (World.alloc_heap_new w _)
 have aa:I s0 C:=by rw[<-hW1];exact M _ _ _ (M _ _ _ h0 ((Below.refl _ w).alloc (A2e _) _)) ((Below.refl _ _).alloc (A2e _) _)
 refine⟨w.heap.size+1,[{target:=.collected w.heap.size,args:=#[]}],C,{target:=.fn (.func gf) lb,args:=#[.func (.yield (w.heap.size+1)) #[] #[]]},C,gf,
  #[.func (.yield (w.heap.size+1)) #[] #[]]++lb,C,?_,?_,?_,?_,λh=>(by cases h),?_⟩
 ·rw[<-hW1,hrec];exact run_enterLoop_outer _ _ _ _ _
 ·simp only[resolve,hg];simp[go_sem]
 ·intro f' _;trivial
 ·simp[invoke,go_sem,eg]
 ·refine(a1 (w.heap.size+1) (λs W=>I s W/\W.heap[w.heap.size+1]? =some (.loop (rec .ready none))/\W.heap[w.heap.size]? =some (.deferred (some [])))
   (λs W h=>hK s W h.1) (λs W W' h hb=>⟨M _ _ _ h.1 hb,(hb.block _ (A2H.1 h.2.1).1).trans h.2.1,(hb.block _ (A2H.1 h.2.2).1).trans h.2.2⟩) ?_ C ⟨aa,a8,a9⟩).mono ?_
  ·rintro s W ⟨hi,hl,O⟩ ab;have hy:=run_yield (P:=P) (args:=enc s) hl (by rw[hrec];exact a2 s);rw[hrec] at hy;refine⟨fn,_,assign,body,hy,roundIn_of_wpIn a7 (a4 _ s W _ ⟨_,run_beginRound hl (by rw[hrec]),?_⟩)⟩;have hlt:w.heap.size+1<W.heap.size:=(A2H.1 hl).1;have ac:(W.putObj (w.heap.size+1) (.loop {rec .ready none with state:=.busy})).heap[w.heap.size+1]? =some (.loop {rec .ready none with state:=.busy}):=World.putObj_heap_same hlt;have ad:(W.putObj (w.heap.size+1) (.loop {rec .ready none with state:=.busy})).heap[w.heap.size]? =some (.deferred (some [])):=(World.putObj_heap_other Om).trans O;refine wpIn_mono (a5 _ s _ (N _ _ _ _ _ Om hl hi) ab) ?_;rintro e a3 W3 ⟨rfl,a0,ae⟩;have U:=a0.same _ _ ac rfl;have hr:=run_endRound (P:=P) none U;have ah:=(A2H.1 U).1;refine⟨_,_,hr,rfl,N _ _ _ _ _ Om U ae,?_,(World.putObj_heap_other Om).trans (a0.same _ _ ad rfl)⟩;rw[World.putObj_heap_same ah,hrec];rfl
  ·rintro e W2 ⟨⟨v,rfl⟩,hi,hl,O⟩;refine⟨none,_,by have:=run_endLoop (P:=P) hl (by rw[hrec];simp);rw[hrec] at this;exact this,a6 _ _ (A2e _) (N _ _ _ _ _ Om hl hi) ((World.putObj_heap_other Om).trans O)⟩
end Go.Ab
namespace Go.Proofs
open Go.Proofs Go.Proofs.Tryz Go.RowKit Go.Shelf
def Tryz.bRen:Go.Shelf.Ren:=⟨fun|166=>268|167=>346|168=>349|169=>114|240=>341|242=>387|276=>380|278=>402|n=>n,fun|0=>0|3=>3|4=>4|5=>5|9=>9|20=>20|21=>21|37=>49|46=>305|51=>265|70=>189|72=>191|75=>347|80=>197|164=>336|n=>n,λn=>n⟩
def Tryz.sWs:Lays.n166 prog Tryz.bRen:= {
 mixed:=Kq'
 f166:=func268.trans (congrArg some Kq')
 f240:=func341.trans (congrArg some Kq')
 f276:=func380.trans (congrArg some Kq')
 t0:=underlying0
 a0:=isAgg0
 z0:=sizeOf0
 v0:=zeroValue0
 t3:=underlying3
 a3:=isAgg3
 z3:=sizeOf3
 v3:=zeroValue3
 t4:=underlying4
 a4:=isAgg4
 z4:=sizeOf4
 v4:=zeroValue4
 t9:=underlying9
 a9:=isAgg9
 z9:=sizeOf9
 v9:=zeroValue9
 t20:=underlying20
 a20:=isAgg20
 z20:=sizeOf20
 v20:=zeroValue20
 t37:=underlying49
 a37:=isAgg49
 z37:=sizeOf49
 v37:=zeroValue49
 t70:=underlying189
 a70:=isAgg189
 z70:=sizeOf189
 v70:=zeroValue189
 t72:=underlying191
 a72:=isAgg191
 z72:=sizeOf191
 v72:=zeroValue191
 t75:=underlying347
 a75:=isAgg347
 z75:=sizeOf347
 v75:=zeroValue347
 t164:=underlying336
 a164:=isAgg336
 z164:=sizeOf336
 v164:=zeroValue336}
def Tryz.sWb:Lays.n167 prog Tryz.bRen:= {
 mixed:=Kq'
 f167:=func346.trans (congrArg some Kq')
 f240:=func341.trans (congrArg some Kq')
 f276:=func380.trans (congrArg some Kq')
 t0:=underlying0
 a0:=isAgg0
 z0:=sizeOf0
 v0:=zeroValue0
 t4:=underlying4
 a4:=isAgg4
 z4:=sizeOf4
 v4:=zeroValue4
 t5:=underlying5
 a5:=isAgg5
 z5:=sizeOf5
 v5:=zeroValue5
 t9:=underlying9
 a9:=isAgg9
 z9:=sizeOf9
 v9:=zeroValue9
 t20:=underlying20
 a20:=isAgg20
 z20:=sizeOf20
 v20:=zeroValue20
 t37:=underlying49
 a37:=isAgg49
 z37:=sizeOf49
 v37:=zeroValue49
 t70:=underlying189
 a70:=isAgg189
 z70:=sizeOf189
 v70:=zeroValue189
 t72:=underlying191
 a72:=isAgg191
 z72:=sizeOf191
 v72:=zeroValue191
 t75:=underlying347
 a75:=isAgg347
 z75:=sizeOf347
 v75:=zeroValue347
 t164:=underlying336
 a164:=isAgg336
 z164:=sizeOf336
 v164:=zeroValue336}
def Tryz.sWr:Lays.n168 prog Tryz.bRen:= {
 mixed:=Kq'
 f168:=func349.trans (congrArg some Kq')
 f240:=func341.trans (congrArg some Kq')
 f242:=func387.trans (congrArg some Kq')
 f276:=func380.trans (congrArg some Kq')
 f278:=func402.trans (congrArg some Kq')
 t0:=underlying0
 a0:=isAgg0
 z0:=sizeOf0
 v0:=zeroValue0
 t3:=underlying3
 a3:=isAgg3
 z3:=sizeOf3
 v3:=zeroValue3
 t4:=underlying4
 a4:=isAgg4
 z4:=sizeOf4
 v4:=zeroValue4
 t5:=underlying5
 a5:=isAgg5
 z5:=sizeOf5
 v5:=zeroValue5
 t9:=underlying9
 a9:=isAgg9
 z9:=sizeOf9
 v9:=zeroValue9
 t20:=underlying20
 a20:=isAgg20
 z20:=sizeOf20
 v20:=zeroValue20
 t21:=underlying21
 a21:=isAgg21
 z21:=sizeOf21
 v21:=zeroValue21
 t37:=underlying49
 a37:=isAgg49
 z37:=sizeOf49
 v37:=zeroValue49
 t46:=underlying305
 a46:=isAgg305
 z46:=sizeOf305
 v46:=zeroValue305
 t51:=underlying265
 a51:=isAgg265
 z51:=sizeOf265
 v51:=zeroValue265
 t70:=underlying189
 a70:=isAgg189
 z70:=sizeOf189
 v70:=zeroValue189
 t72:=underlying191
 a72:=isAgg191
 z72:=sizeOf191
 v72:=zeroValue191
 t75:=underlying347
 a75:=isAgg347
 z75:=sizeOf347
 v75:=zeroValue347
 t164:=underlying336
 a164:=isAgg336
 z164:=sizeOf336
 v164:=zeroValue336}
def Tryz.sSt_ren:Go.Shelf.Ren:=⟨fun|169=>114|n=>n,fun|70=>189|9=>9|0=>0|72=>191|37=>49|127=>263|3=>3|5=>5|n=>n,fun|n=>n⟩
def Tryz.sSt:Go.Proofs.Lays.n169 prog Tryz.sSt_ren:= {
 mixed:=Kq'
 f169:=func114.trans (congrArg some Kq')
 t0:=underlying0
 a0:=isAgg0
 z0:=sizeOf0
 v0:=zeroValue0
 t3:=underlying3
 a3:=isAgg3
 z3:=sizeOf3
 v3:=zeroValue3
 t9:=underlying9
 a9:=isAgg9
 z9:=sizeOf9
 v9:=zeroValue9
 t37:=underlying49
 a37:=isAgg49
 z37:=sizeOf49
 v37:=zeroValue49
 t70:=underlying189
 a70:=isAgg189
 z70:=sizeOf189
 v70:=zeroValue189
 t72:=underlying191
 a72:=isAgg191
 z72:=sizeOf191
 v72:=zeroValue191
 t127:=underlying263
 a127:=isAgg263
 z127:=sizeOf263
 v127:=zeroValue263}
def Tryz.xB:Builder.Extra prog Tryz.bRen:= {
 sizeBuilder:=Kq'
 liesBuilder:=Kq'
 t5:=underlying5
 a5:=isAgg5
 z5:=sizeOf5
 v5:=zeroValue5
 infoByte:=Kq'
 cellsByte:=Kq'
 sizeByte:=Kq'
 neB5:=by decide}
def Tryz.xSt:Builder.Extra prog Tryz.sSt_ren:= {
 sizeBuilder:=Kq'
 liesBuilder:=Kq'
 t5:=underlying5
 a5:=isAgg5
 z5:=sizeOf5
 v5:=zeroValue5
 infoByte:=Kq'
 cellsByte:=Kq'
 sizeByte:=Kq'
 neB5:=by decide}
abbrev Tryz.bld(B b:Nat)(l:Lua)(w:World):Prop:=Lib.IsBuilderF 191 5 B b (Lib.byteCells l) w
def Tryz.bWs(B b:Nat)(l:Lua)(s:Baa)(w:World)(h:Tryz.bld B b l w)(C:l.length+s.size<=140737488355328)(M:B<=w.heap.size):
  Calls prog 268 #[.pointer (some ⟨b,0,none⟩),.string s] w λe w'=>e=.returned (.tuple #[.int .i64 s.size,.nilIface])/\Tryz.bld B b (l++s.data.toList) w'/\Below B w w'/\Lib.OthersKept 5 (some b) w w':=by
 refine(Any.Builder_WriteString_k Tryz.sWs Tryz.xB B b _ s w h (by rw[Lib.byteCells_length];exact C) M).mono λe w' h=>⟨h.1,?_,h.2.2⟩
 have h2:=h.2.1;rw[show Lib.byteCells l++Lib.strCells s=Lib.byteCells (l++s.data.toList) from by rw[Lib.byteCells_append];rfl] at h2;exact .inr h2
def Tryz.bWb(B b:Nat)(l:Lua)(c:UInt8)(w:World)(h:Tryz.bld B b l w)(C:l.length+1<=140737488355328)(M:B<=w.heap.size):
  Calls prog 346 #[.pointer (some ⟨b,0,none⟩),.int .u8 c.toNat] w λe w'=>e=.returned .nilIface/\Tryz.bld B b (l++[c]) w'/\Below B w w'/\Lib.OthersKept 5 (some b) w w':=by
 refine(Any.Builder_WriteByte_k Tryz.sWb Tryz.xB B b _ c.toNat w h (by rw[Lib.byteCells_length];exact C) M).mono λe w' h=>⟨h.1,?_,h.2.2⟩
 have h2:=h.2.1;rw[show Lib.byteCells l++[Value.int .u8 c.toNat]=Lib.byteCells (l++[c]) from by rw[Lib.byteCells_append];rfl] at h2;exact .inr h2
def Tryz.bWr(B b:Nat)(l:Lua)(r:Nat)(hr:r<=1114111)(w:World)(h:Tryz.bld B b l w)(C:l.length+4<=140737488355328)(M:B<=w.heap.size):
  Calls prog 349 #[.pointer (some ⟨b,0,none⟩),.int .i32 r] w λe w'=>e=.returned (.tuple #[.int .i64 (Lib.runeCells r).length,.nilIface])/\Tryz.bld B b (l++Lib.encodeRune r) w'/\Below B w w'/\Lib.OthersKept 5 (some b) w w':=by
 refine(Any.Builder_WriteRune_k Tryz.sWr Tryz.xB B b _ r Om Om w h (by rw[Lib.byteCells_length];exact C) M).mono λe w' h=>⟨h.1,?_,h.2.2⟩
 have h2:=h.2.1;rw[<-Lib.byteCells_encodeRune,<-Lib.byteCells_append] at h2;exact .inr h2
def Tryz.bSt(B b:Nat)(l:Lua)(w:World)(h:Tryz.bld B b l w)(C:B<=w.heap.size):
  Calls prog 114 #[.pointer (some ⟨b,0,none⟩)] w λe w'=>e=.returned (.string ⟨l.toArray⟩)/\Below B w w'/\Lib.OthersKept 5 (some b) w w':=
 (Any.Builder_String_any_k Tryz.sSt Tryz.xSt B b l w h C).mono λe w' h=>⟨h.1,h.2.2⟩
def bAt(s:Baa)(i:Nat):Nat:=(s.data.toList.getD i 0).toNat
def bAt_lt(s:Baa)(i:Nat):bAt s i<256:=UInt8.toNat_lt _
def atN(n b0 b1 b2 b3:Nat):Nat×Nat:=if n=0 then(0,0) else if(Lib.decodeN n b0 b1 b2 b3).1=65533/\(Lib.decodeN n b0 b1 b2 b3).2=1 then(0,0) else Lib.decodeN n b0 b1 b2 b3
def atR(s:Baa)(i:Nat):Nat×Nat:=atN (s.size-i) (bAt s i) (bAt s (i+1)) (bAt s (i+2)) (bAt s (i+3))
end Go.Proofs
namespace Go.Ab
open Go.Proofs Go.Proofs.Tryz Go.RowKit
variable{i C M:Nat}
def goB(b:Nat):Prop:=128<=b/\b<192
def Hu(s:Baa)(i:Nat)(r:Int):Nat->Int
 |0=>r
 |j+1=>64*Hu s i r j+bAt s (i+(j+1))-128
def Fz(n lead least b:Nat):Prop:=(n=2/\lead=192/\least=128/\192<=b/\b<224)\/(n=3/\lead=224/\least=2048/\224<=b/\b<240)\/(n=4/\lead=240/\least=65536/\240<=b/\b<248)
def Yh(least:Nat)(r:Int):Prop:=r<least\/1114111<r\/(55296<=r/\r<57344)
def rr_bd{s:Baa}{n:Nat}(hc:Fz n C M (bAt s i)):∀j,j<n->(∀k,1<=k->k<=j->goB (bAt s (i+k)))->0<=Hu s i (bAt s i-C) j/\Hu s i (bAt s i-C) j<=8388607:=by
 intro j N h;unfold goB at h;have h1:=h 1;have h2:=h 2;have O:=h 3;unfold Fz at hc
 match j with
 |0=>simp only[Hu];omega
 |1=>simp only[Hu,A3T,Nat.reduceAdd];omega
 |2=>simp only[Hu,A3T,Nat.reduceAdd];omega
 |3=>simp only[Hu,A3T,Nat.reduceAdd];omega
 |j+4=>omega
def Yi{s:Baa}{n:Nat}(hi:i<s.size)(hc:Fz n C M (bAt s i))(h:s.size<i+n\/(∃k,1<=k/\k<n/\¬goB (bAt s (i+k)))\/((∀k,1<=k->k<n->goB (bAt s (i+k)))/\Yh M (Hu s i (bAt s i-C) (n-1)))):atR s i=(0,0):=by
 have Z:Lib.decodeN (s.size-i) (bAt s i) (bAt s (i+1)) (bAt s (i+2)) (bAt s (i+3))=(65533,1):=by
  have O:(∃k,1<=k/\k<n/\¬goB (bAt s (i+k)))->¬goB (bAt s (i+1))\/(3<=n/\¬goB (bAt s (i+2)))\/(4<=n/\¬goB (bAt s (i+3))):=by
   rintro⟨k,h1,h2,N⟩;have:k=1\/k=2\/k=3:=by unfold Fz at hc;omega
   rcases this with rfl|rfl|rfl
   ·exact .inl N
   ·exact .inr (.inl ⟨Om,N⟩)
   ·exact .inr (.inr ⟨Om,N⟩)
  have U:((∀k,1<=k->k<n->goB (bAt s (i+k)))/\Yh M (Hu s i (bAt s i-C) (n-1)))->goB (bAt s (i+1))/\(3<=n->goB (bAt s (i+2)))/\(4<=n->goB (bAt s (i+3)))/\Yh M (Hu s i (bAt s i-C) (n-1)):=λ⟨h1,h2⟩=>
   ⟨h1 1 Om (by unfold Fz at hc;omega),λ_=>h1 2 Om Om,λ_=>h1 3 Om Om,h2⟩
  have h:=h.imp id (Or.imp O U);clear O U;unfold goB Yh at h;rcases hc with⟨rfl,rfl,rfl,V,Y⟩|⟨rfl,rfl,rfl,V,Y⟩|⟨rfl,rfl,rfl,V,Y⟩<;>simp only[Nat.reduceSub,Hu,A3T,Nat.reduceAdd] at h<;>generalize bAt s i=b0 at* <;>generalize bAt s (i+1)=b1 at* <;>generalize bAt s (i+2)=b2 at* <;>generalize bAt s (i+3)=b3 at* <;>unfold Lib.decodeN<;>(repeat' split)<;>first|rfl|(exfalso;omega)
 unfold atR atN;rw[if_neg Om,Z];rfl
def at_good{s:Baa}{n:Nat}(hc:Fz n C M (bAt s i))(h:i+n<=s.size)(h1:∀k,1<=k->k<n->goB (bAt s (i+k)))(h2:¬Yh M (Hu s i (bAt s i-C) (n-1))):((atR s i).1:Int)=Hu s i (bAt s i-C) (n-1)/\(atR s i).2=n:=by
 obtain⟨r,hr⟩:∃r:Nat,(r:Int)=Hu s i (bAt s i-C) (n-1):=⟨_,Int.toNat_of_nonneg (rr_bd hc (n-1) (by unfold Fz at hc;omega) λk a b=>h1 k a (by unfold Fz at hc;omega)).1⟩
 have U:Lib.decodeN (s.size-i) (bAt s i) (bAt s (i+1)) (bAt s (i+2)) (bAt s (i+3))=(r,n):=by
  have V:=h1 1 Om (by unfold Fz at hc;omega);have Y:=h1 2 Om;have Z:=h1 3 Om;unfold goB at V Y Z;unfold Yh at h2;clear h1;rcases hc with⟨rfl,rfl,rfl,N,O⟩|⟨rfl,rfl,rfl,N,O⟩|⟨rfl,rfl,rfl,N,O⟩<;>simp only[Nat.reduceSub,Hu,A3T,Nat.reduceAdd] at hr h2<;>generalize bAt s i=b0 at* <;>generalize bAt s (i+1)=b1 at* <;>generalize bAt s (i+2)=b2 at* <;>generalize bAt s (i+3)=b3 at* <;>unfold Lib.decodeN<;>(repeat' split)<;>first|(exfalso;omega)|(apply Prod.ext<;>simp only<;>omega)
 unfold atR atN;rw[if_neg (by unfold Fz at hc;omega),U,if_neg (by simp only;unfold Fz at hc;omega)];exact⟨hr,rfl⟩
def r_At(s:Baa)(i:Nat)(hs:s.size<=4611686018427387904)(hi:i<=4611686018427387904):A0 prog 92 [sD s,iD i] (.tup [.val (.int .i64 (atR s i).1),.val (.int .i64 (atR s i).2)]):=by
 have hb:=bAt_lt s i;by_cases h:s.size<=i
 ·have hX:atR s i=(0,0):=by unfold atR atN;rw[if_pos Om]
  have V:decide ((s.size:Int)<=i)=true:=Dt';rw[hX];refine Zf [] ?_
  (have z:=V;push_cast[z]<;>repeat' apply Za)
 have V:decide ((s.size:Int)<=i)=false:=Df';have e0:BZ s (i:Int)=bAt s i:=by simp[BZ,bAt]
 have w3:IntKind.i64.wrap (bAt s i:Int)=bAt s i:=A9 Om Om;by_cases hc:∃n M a0,Fz n M a0 (bAt s i)
 ·obtain⟨n,M,a0,hc⟩:=hc;have a3:=λh=>Yi (show i<s.size by omega) hc (.inl h);have a4:=λh=>Yi (show i<s.size by omega) hc (.inr (.inl h));have Y:=λh=>Yi (show i<s.size by omega) hc (.inr (.inr h));have hg:=λh=>at_good hc h;have hr:=rr_bd hc;have a7:∀k,Hu s i (bAt s i-M) (k+1)=64*Hu s i (bAt s i-M) k+bAt s (i+(k+1))-128:=λk=>rfl;have a5:Hu s i (bAt s i-M) 0=bAt s i-M:=rfl;generalize Hu s i (bAt s i-M)=R at*;generalize hX:atR s i=X at*;obtain⟨N,hN⟩:∃N,N=n:=⟨_,rfl⟩
  obtain⟨L,hL⟩:∃L,L=a0:=⟨_,rfl⟩
  rw[<-hN] at a3 a4 Y hg hr;rw[<-hL] at Y hg;have Z:decide ((bAt s i:Int)<128)=false:=decide_eq_false (by unfold Fz at hc;omega);have q2:decide ((192:Int)<=bAt s i)=true:=decide_eq_true (by unfold Fz at hc;omega);have q3:decide ((bAt s i:Int)<224)=decide (n=2):=decide_eq_decide.2 (by unfold Fz at hc;omega);have O:decide ((224:Int)<=bAt s i)= !decide (n=2):=by rw[<-decide_not];exact decide_eq_decide.2 (by unfold Fz at hc;omega)
  have q5:decide ((bAt s i:Int)<240)= !decide (n=4):=by rw[<-decide_not];exact decide_eq_decide.2 (by unfold Fz at hc;omega)
  have U:decide ((240:Int)<=bAt s i)=decide (n=4):=decide_eq_decide.2 (by unfold Fz at hc;omega);have q7:decide ((bAt s i:Int)<248)=true:=decide_eq_true (by unfold Fz at hc;omega);have w1:IntKind.i64.wrap ((i:Int)+n)=i+n:=A9 (by unfold Fz at hc;omega) (by unfold Fz at hc;omega);have w2:IntKind.i64.wrap ((bAt s i:Int)-M)=bAt s i-M:=A9 (by unfold Fz at hc;omega) (by unfold Fz at hc;omega);have aa:n<=4:=by unfold Fz at hc;omega
  obtain⟨S,hS⟩:∃S:Nat->St,∀k,S k=⟨[(10,iD ((k:Int)+1)),(8,iD (R k)),(7,iD n),(9,iD a0),(1,iD i),(0,sD s)],[],400⟩:=⟨_,λ_=>rfl⟩
  have c1:decide ((s.size:Int)<i+n)=decide (s.size<i+n):=decide_eq_decide.2 Om;by_cases hn:s.size<i+n
  ·obtain rfl:=a3 (hN▸hn);rw[decide_eq_true hn] at c1;rcases hc with⟨rfl,rfl,rfl,g1,g2⟩|⟨rfl,rfl,rfl,g1,g2⟩|⟨rfl,rfl,rfl,g1,g2⟩<;>generalize bAt s i=b0 at* <;>simp only[A3X,Nat.reduceEqDiff,decide_true,decide_false,Bool.not_true,Bool.not_false] at q3 O q5 U c1 w1 w2<;>(refine Zf [] ?_;(have z:=Za V<|Za e0<|Za Z<|Za q2<|Za q3<|Za O<|Za q5<|Za U<|Za q7<|Za w1<|Za w2<|Za w3 c1;push_cast[z]<;>repeat' apply Za));all_goals first|omega|skip
  rw[decide_eq_false hn] at c1;rcases hc with⟨rfl,rfl,rfl,g1,g2⟩|⟨rfl,rfl,rfl,g1,g2⟩|⟨rfl,rfl,rfl,g1,g2⟩<;>generalize bAt s i=b0 at* <;>simp only[A3X,Nat.reduceEqDiff,decide_true,decide_false,Bool.not_true,Bool.not_false] at q3 O q5 U c1 w1 w2 hS a5 hn<;>
  (refine Zf [] ?_
   (have z:=Za V<|Za e0<|Za Z<|Za q2<|Za q3<|Za O<|Za q5<|Za U<|Za q7<|Za w1<|Za w2<|Za w3 c1;push_cast[z]<;>repeat' apply Za)
   all_goals first|omega|skip
   refine Zl (λk=>k+1<=N/\∀j,1<=j->j<=k->goB (bAt s (i+j))) S (λk=>4-k) 0 ⟨Om,λj a b=>Om⟩ ?_ λk hk=>?_
   ·rw[hS,a5];apply Zw<;>push_cast
   ·obtain⟨k1,k2⟩:=hk;obtain⟨r1,r2⟩:=hr k k1 k2;have a8:=a7 k;have u1:IntKind.i64.wrap ((k:Int)+1+1)=(k:Int)+1+1:=A9 Om Om;have C:decide ((k:Int)+1<N)=decide (k+1<N):=decide_eq_decide.2 Om;rw[hS];by_cases a2:k+1<N
    ·rw[decide_eq_true a2,hN] at C;simp only[A3X] at C;have hx:=bAt_lt s (i+(k+1));have e1:BZ s ((i:Int)+((k:Int)+1))=bAt s (i+(k+1)):=by
      have:((i:Int)+((k:Int)+1)).toNat=i+(k+1):=by omega
      simp only[BZ,bAt,this]
     have w4:IntKind.i64.wrap ((i:Int)+((k:Int)+1))=(i:Int)+((k:Int)+1):=A9 Om Om;have a6:=λh=>a4 ⟨k+1,Om,a2,h⟩;generalize a9:bAt s (i+(k+1))=x at*;have w5:IntKind.i64.wrap (x:Int)=x:=A9 Om Om;have m1:IntKind.i64.wrap (64*R k)=64*R k:=A9 Om Om;have m2:IntKind.i64.wrap (64*R k+x)=64*R k+x:=A9 Om Om;have m3:IntKind.i64.wrap (64*R k+x-128)=64*R k+x-128:=A9 Om Om;by_cases t1:x<128
     ·obtain rfl:=a6 (by unfold goB;omega);have p1:decide ((x:Int)<128)=true:=Dt'
      (have z:=Za C<|Za e1<|Za w4<|Za w5 p1;push_cast[z]<;>repeat' apply Za)
      all_goals first|omega|skip
     have p1:decide ((x:Int)<128)=false:=Df';by_cases t2:192<=x
     ·obtain rfl:=a6 (by unfold goB;omega);have p2:decide ((192:Int)<=x)=true:=Dt'
      (have z:=Za C<|Za e1<|Za w4<|Za w5<|Za p1 p2;push_cast[z]<;>repeat' apply Za)
      all_goals first|omega|skip
     have p2:decide ((192:Int)<=x)=false:=Df'
     (have z:=Za C<|Za e1<|Za w4<|Za w5<|Za p1<|Za p2<|Za m1<|Za m2<|Za m3 u1;push_cast[z]<;>repeat' apply Za)
     all_goals first|omega|skip
     refine⟨k+1,⟨Om,λj a b=>?_⟩,Om,?_⟩
     ·by_cases hj:j=k+1
      ·rw[hj,a9];unfold goB;omega
      ·exact k2 j a Om
     ·rw[hS,a8];apply Zw<;>push_cast;all_goals first|omega|skip
    ·rw[decide_eq_false a2,hN] at C;simp only[A3X] at C;have a1:∀j,1<=j->j<N->goB (bAt s (i+j)):=λj a b=>k2 j a Om;have eR:R (N-1)=R k:=by congr 1;omega
     rw[eR] at Y hg;generalize R k=r at*;have f1:decide (r<(L:Int))=decide (r<(L:Int)):=rfl;unfold Yh at Y hg;by_cases t1:r<L
     ·obtain rfl:=Y ⟨a1,.inl t1⟩;have f1:decide (r<(L:Int))=true:=decide_eq_true t1;rw[hL] at f1;simp only[A3X] at f1
      (have z:=Za C f1;push_cast[z]<;>repeat' apply Za)
      all_goals first|omega|skip
     have f1:decide (r<(L:Int))=false:=decide_eq_false t1;rw[hL] at f1;simp only[A3X] at f1;by_cases t2:1114111<r
     ·obtain rfl:=Y ⟨a1,.inr (.inl t2)⟩;have f2:decide (1114111<r)=true:=decide_eq_true t2
      (have z:=Za C<|Za f1 f2;push_cast[z]<;>repeat' apply Za)
      all_goals first|omega|skip
     have f2:decide (1114111<r)=false:=decide_eq_false t2;by_cases t3:55296<=r/\r<57344
     ·obtain rfl:=Y ⟨a1,.inr (.inr t3)⟩;have f3:decide (55296<=r)=true:=decide_eq_true t3.1;have f4:decide (r<57344)=true:=decide_eq_true t3.2
      (have z:=Za C<|Za f1<|Za f2<|Za f3 f4;push_cast[z]<;>repeat' apply Za)
      all_goals first|omega|skip
     obtain⟨x1,x2⟩:=hg Om a1 Om;rw[x1,x2,hN];by_cases t4:55296<=r
     ·have f3:decide (55296<=r)=true:=decide_eq_true t4;have f4:decide (r<57344)=false:=Df'
      (have z:=Za C<|Za f1<|Za f2<|Za f3 f4;push_cast[z]<;>repeat' apply Za)
      all_goals first|omega|skip
     ·have f3:decide (55296<=r)=false:=decide_eq_false t4
      (have z:=Za C<|Za f1<|Za f2 f3;push_cast[z]<;>repeat' apply Za)
      all_goals first|omega|skip)
 ·have ab:bAt s i<192\/248<=bAt s i:=by
   apply Classical.byContradiction;intro h;apply hc;by_cases a:bAt s i<224
   ·exact⟨2,192,128,.inl ⟨rfl,rfl,rfl,Om,a⟩⟩
   by_cases a:bAt s i<240
   ·exact⟨3,224,2048,.inr (.inl ⟨rfl,rfl,rfl,Om,a⟩)⟩
   ·exact⟨4,240,65536,.inr (.inr ⟨rfl,rfl,rfl,Om,Om⟩)⟩
  have hX:atR s i=if bAt s i<128 then(bAt s i,1) else(0,0):=by
   have hd:Lib.decodeN (s.size-i) (bAt s i) (bAt s (i+1)) (bAt s (i+2)) (bAt s (i+3))=if bAt s i<128 then(bAt s i,1) else(65533,1):=by
    unfold Lib.decodeN
    repeat' split
    all_goals first|rfl|(exfalso;omega)
   unfold atR atN;rw[if_neg Om,hd];split<;>simp only<;>first|rfl|(rw[if_neg Om])
  rw[hX];clear hX hc;generalize bAt s i=b0 at*;by_cases t1:b0<128
  ·have Z:decide ((b0:Int)<128)=true:=Dt';rw[if_pos t1];refine Zf [] ?_
   (have z:=Za V<|Za e0<|Za Z w3;push_cast[z]<;>repeat' apply Za)<;>try omega
  rw[if_neg t1];have Z:decide ((b0:Int)<128)=false:=Df';by_cases t2:b0<192
  ·have q2:decide ((192:Int)<=b0)=false:=Df';have O:decide ((224:Int)<=b0)=false:=Df';have U:decide ((240:Int)<=b0)=false:=Df';refine Zf [] ?_
   (have z:=Za V<|Za e0<|Za Z<|Za q2<|Za O<|Za U w3;push_cast[z]<;>repeat' apply Za)<;>try omega
  ·have q2:decide ((192:Int)<=b0)=true:=Dt';have q3:decide ((b0:Int)<224)=false:=Df';have O:decide ((224:Int)<=b0)=true:=Dt';have q5:decide ((b0:Int)<240)=false:=Df';have U:decide ((240:Int)<=b0)=true:=Dt';have q7:decide ((b0:Int)<248)=false:=Df';refine Zf [] ?_
   (have z:=Za V<|Za e0<|Za Z<|Za q2<|Za q3<|Za O<|Za q5<|Za U<|Za q7 w3;push_cast[z]<;>repeat' apply Za)<;>try omega
def TB(s:Baa)(i:Nat)(h:i<s.size):atR s i=if (Lib.decodeL (s.data.toList.drop i)).1=65533/\(Lib.decodeL (s.data.toList.drop i)).2=1 then(0,0) else Lib.decodeL (s.data.toList.drop i):=by
 have hl:s.data.toList.length=s.size:=rfl;unfold atR atN;rw[if_neg Om,Lib.decodeL_drop,Lib.decode_N,hl];rfl
def Gn{s:Baa}(h:i<s.size):s.data.toList.drop i≠[]:=by
 have hl:s.data.toList.length=s.size:=rfl;intro e;have:=congrArg List.length e;rw[A2t,A2r] at this;omega
def A23{s:Baa}(h:i<s.size)(hn:(atR s i).2≠0):atR s i=Lib.decodeL (s.data.toList.drop i)/\i+(atR s i).2<=s.size/\1<=(atR s i).2:=by
 have hl:s.data.toList.length=s.size:=rfl;have h2:=Lib.decodeL_le _ (Gn h);rw[A2t] at h2;rw[TB s i h] at hn|-;split at hn
 ·exact absurd rfl hn
 ·rename_i hc;rw[if_neg hc];exact⟨rfl,Om,Om⟩
def Wz(s:Baa)(i:Nat)(h:i<s.size):Lib.validD (s.data.toList.drop i)=if (atR s i).2=0 then false else Lib.validD (s.data.toList.drop (i+(atR s i).2)):=by
 have C:=Lib.decodeL_width (s.data.toList.drop i);rw[Lib.validD_step _ (Gn h),TB s i h];split
 ·simp
 ·rw[if_neg Om,A3N]
def L8(s:Baa)(hs:s.size<=4611686018427387904):A0 prog 57 [sD s] (bD (AK s)):=by
 have hl:s.data.toList.length=s.size:=rfl;refine Zf [] ?_
 (push_cast<;>repeat' apply Za)
 refine Zl (λi=>i<=s.size/\Lib.validD (s.data.toList.drop i)=AK s) (λi=>⟨[(3,iD i),(0,sD s)],[],40⟩) (λi=>s.size-i) 0 ⟨A2w _,by rw[A3W];rfl⟩ ?_ λi hi=>?_
 ·apply Zw<;>push_cast
 ·obtain⟨h1,h2⟩:=hi;push_cast;refine Ad (λN=>?_) (λN=>?_)
  ·have M:i<s.size:=by simpa using N
   have O:=r_At s i hs Om;have C:=Wz s i M;have U:=λhn=>A23 M hn;generalize atR s i=x at*;obtain⟨r,n⟩:=x;simp only at C U O;by_cases hn:n=0
   ·subst hn;rw[if_pos rfl,h2] at C
    (have z:=trivial;push_cast<;>repeat' (first|refine Zc O ?_|apply Za)<;>push_cast)
    rw[C]
   ·obtain⟨_,V,Y⟩:=U hn;rw[if_neg hn,h2] at C;have b1:((n:Int)==0)=false:=by simpa using hn
    (have z:=b1;push_cast[z]<;>repeat' (first|refine Zc O ?_|apply Za)<;>push_cast[z])
    refine⟨i+n,⟨V,C.symm⟩,Om,?_⟩;apply Zw<;>push_cast;exact A9 Om Om
  ·have M:i=s.size:=by simp at N;omega
   subst M;rw[<-h2,A2v Om]
   (push_cast<;>repeat' apply Za)
   rfl
def L7(k:Baa)(hs:k.size<=4611686018427387904):A0 prog 24 [sD k] (iD (Ce k)):=by
 have C:=L8 k hs;unfold Ce FV;refine Zk [] λH Hb=>?_
 (have z:=trivial;push_cast<;>repeat' (first|apply Zi<;>intro _|refine Zc C ?_|apply Za)<;>push_cast)
 all_goals(clear C H Hb;first|(simp_all;done)|(simp_all;omega)|grind)
end Go.Ab
namespace Go.Proofs
open Go.Ab Go.Proofs Go.Proofs.Tryz Go.RowKit Go.Shelf
attribute [local go_sem] Oper.semAt_some
def rnA(s:Baa)(p:Nat):Nat×Nat:=Lib.decodeL (s.data.toList.drop p)
def P4(s:Baa)(p:Nat):Array Value:=#[.int .i64 p,.int .i32 (rnA s p).1]
def rnK(s:Baa)(bx:Nat)(w0:World)(p:Nat)(W:World):Prop:=Below w0.heap.size w0 W/\W.cell? ⟨bx,0,none⟩=some (.string s)/\p<=s.size/\Lib.validD (s.data.toList.drop p)=true
def Uv(s:Baa)(p:Nat)(h:p<s.size):Lib.decodeGo (s.extract p s.size)=rnA s p:=by
 have hl:s.data.toList.length=s.size:=rfl;have e:s.extract p s.size=⟨(s.data.toList.drop p).toArray⟩:=by
  apply ByteArray.ext;rw[A3E];apply Array.ext';rw[A3O];show((s.data.toList.drop p).take (s.size-p))=_;rw[A2g (by rw[A2t];omega)]
 rw[e];unfold Lib.decodeGo;rw[if_neg ?_]
 ·rfl
 ·show ¬(s.data.toList.drop p).toArray.size=0;rw[A2A,A2t];omega
def Uw{s:Baa}{p:Nat}(h:p<s.size)(C:Lib.validD (s.data.toList.drop p)=true):¬((rnA s p).1=65533/\(rnA s p).2=1)/\Lib.validD (s.data.toList.drop (p+(rnA s p).2))=true/\p+(rnA s p).2<=s.size/\1<=(rnA s p).2/\(rnA s p).1<=1114111:=by
 have hl:s.data.toList.length=s.size:=rfl;rw[Lib.validD_step _ (Gn h)] at C;have h2:=Lib.decodeL_le _ (Gn h);have N:=Lib.decodeL_width (s.data.toList.drop p);have M:=Lib.decodeL_rune (s.data.toList.drop p);rw[A2t] at h2;unfold rnA;split at C
 ·cases C
 ·rename_i hc;rw[A3N] at C;exact⟨hc,C,Om,Om,M⟩
set_option maxRecDepth 100000 in
set_option maxHeartbeats 1000000 in
def c_runes1(n:Nat)(s:Baa)(hs:s.size<=1048576)(bx:Nat)(w0:World)(hT:∀W,Below w0.heap.size w0 W->Lib.Utf8Tabs (Tryz.sDecode_ren.g 3) (Tryz.sDecode_ren.g 4) W):
  Tells n prog 385 #[.pointer (some ⟨bx,0,none⟩)] (P4 s) (λp=>p+(rnA s p).2) (λp=>p<s.size) 0 s.size (rnK s bx w0):=by
 intro l J hK hJb hY W h0;refine callsIn_of_wp func385 rfl trivial ?_;simp only[ntmps385,A2A,A2l,A2r,Nat.reduceAdd,Nat.reduceSub,A3e,A3f,A3v,A38,A2h,A2d]
 gi_wp2
 gi_loopw [3] (λp wr=>∃q:Nat,p=.int .i64 q/\J q wr) (λp wr=>s.size-(intOf p).toNat)
 case atStart=>exact ⟨0,rfl,h0⟩
 case round=>
  obtain⟨q,rfl,hJ⟩:=hrel;obtain⟨k1,k2,k3,k4⟩:=hK _ _ hJ;by_cases hq:q<s.size
  ·obtain⟨v1,v2,v3,v4,v5⟩:=Uw hq k4;have hsl:=Uv s q hq;have hD:=Any.utf8_DecodeRuneInString Tryz.sDecode (s.extract q s.size) wr (hT wr k1);rw[hsl] at hD;have hY2:=λW h=>hY q W h hq;unfold P4 at hY2;generalize rnA s q=x at*;obtain⟨r,wd⟩:=x;simp only at*;have hv:¬((r:Int)=65533/\(wd:Int)=1):=Om
   gi_wp2
   refine⟨trivial,λh=>(by cases h),(callsIn_wide.2 hD).mono ?_⟩;rintro e w2 ⟨rfl,hb⟩;obtain⟨fn,tmps,assign,body,hy,hR⟩:=hY2 w2 (hJb q wr w2 hJ hb);rcases Decidable.em (r=65533) with rfl|hr
   ·have hw:¬((wd:Int)=1):=Om;have hw2:((wd:Int)==1)=false:=by simpa using hw
    change(Instr.yield l #[Value.int .i64 q,Value.int .i32 65533]).run _ _=_ at hy
    gi_wp2
    refine⟨λh=>(by cases h),hR.mono ?_⟩;rintro e w3 ⟨rfl,hJ3⟩
    gi_wp2
    go_roundw
    case rel=>exact ⟨q+wd,Sq',hJ3⟩
    case measure=>simp only[intOf];omega
   ·have hr2:¬((r:Int)=65533):=Om
    gi_wp2
    refine⟨λh=>(by cases h),hR.mono ?_⟩;rintro e w3 ⟨rfl,hJ3⟩
    gi_wp2
    go_roundw
    case rel=>exact ⟨q+wd,Sq',hJ3⟩
    case measure=>simp only[intOf];omega
  ·obtain rfl:q=s.size:=Om
   gi_wp2
   go_end0
   exact⟨⟨_,rfl⟩,hJ⟩
attribute [local go_sem] Oper.semAt_some
set_option maxHeartbeats 1000000 in
def Zn(n:Nat)(s:Baa)(w:World):
  CallsIn Fence.wide n prog 347 #[.string s] w λe w'=>e=.returned (.func (.func 385) #[] #[.pointer (some ⟨w.heap.size,0,none⟩)])/\w'=w.alloc (.cells #[.string s] 9):=by
 refine callsIn_of_wp func347 rfl trivial ?_;simp only[ntmps347,A2A,A2l,A2r,Nat.reduceAdd,Nat.reduceSub,A3e,A3f,A3v,A38,A2h,A2d]
 gi_wp2
 go_ret
 exact⟨rfl,rfl⟩
set_option maxHeartbeats 1000000 in
def Qi(n:Nat)(r:Nat)(w:World):
  CallsIn Fence.wide n prog 348 #[.int .i32 r] w λe w'=>e=.returned (.bool (decide (32<=r/\r≠34/\r≠92)))/\w'=w:=by
 refine callsIn_of_wp func348 rfl trivial ?_;simp only[ntmps348,A2A,A2l,A2r,Nat.reduceAdd,Nat.reduceSub,A3e,A3f,A3v,A38,A2h,A2d]
 gi_wp2
 ·rename_i h1 h2;obtain rfl:r=34:=Om
  go_ret
  exact⟨rfl,rfl⟩
 ·rename_i h1 h2
  go_ret
  refine⟨?_,rfl⟩;refine congrArg Ending.returned (?_:Value.bool ((r:Int) !=34&&(r:Int) !=92)=Value.bool (decide (32<=r/\r≠34/\r≠92)));congr 1;rw[Bool.eq_iff_iff];simp;omega
 ·rename_i h1
  go_ret
  refine⟨?_,rfl⟩;have:decide (32<=r)=false:=Df';rw[this];rfl
def letD:DataW Unit:=(((((((DataW.map []).put (.int .i32 34) (.lit (.int .i32 34))).put (.int .i32 92) (.lit (.int .i32 92))).put (.int .i32 8) (.lit (.int .i32 98))).put (.int .i32 9) (.lit (.int .i32 116))).put (.int .i32 10) (.lit (.int .i32 110))).put (.int .i32 12) (.lit (.int .i32 102))).put (.int .i32 13) (.lit (.int .i32 114))
abbrev Pz(b:Nat)(w:World):Prop:=w.ownsMap prog 21 (plainElem (H:=Unit) prog 21) b 7 letD
def Jw(r:Nat):Option UInt8:=if r=8 then some 98 else if r=9 then some 116 else if r=10 then some 110 else if r=12 then some 102 else if r=13 then some 114 else if r=34 then some 34 else if r=92 then some 92 else none
def YX:letD=.map [(.int .i32 8,.lit (.int .i32 98)),(.int .i32 9,.lit (.int .i32 116)),(.int .i32 10,.lit (.int .i32 110)),(.int .i32 12,.lit (.int .i32 102)),(.int .i32 13,.lit (.int .i32 114)),(.int .i32 34,.lit (.int .i32 34)),(.int .i32 92,.lit (.int .i32 92))]:=by
 rfl
def letD_has(r:Nat):Maps.has letD (.int .i32 r)=(Jw r).isSome:=by
 rw[YX,Maps.has_eq];have h:∀a:Nat,(Lit.sameKey (.int .i32 a) (.int .i32 r))=decide (r=a):=λa=>by
  simp only[Lit.sameKey,true_and];exact decide_eq_decide.2 Om
 have e:((([(Lit.int .i32 8,DataW.lit (H:=Unit) (.int .i32 98)),(.int .i32 9,.lit (.int .i32 116)),(.int .i32 10,.lit (.int .i32 110)),(.int .i32 12,.lit (.int .i32 102)),(.int .i32 13,.lit (.int .i32 114)),(.int .i32 34,.lit (.int .i32 34)),(.int .i32 92,.lit (.int .i32 92))]).any λp=>p.1.sameKey (.int .i32 r)))=(decide (r=8) ||(decide (r=9) ||(decide (r=10) ||(decide (r=12) ||(decide (r=13) ||(decide (r=34) ||decide (r=92))))))):=by
  simp only[List.any_cons,List.any_nil,A43];exact congr (congrArg _ (h 8)) (congr (congrArg _ (h 9)) (congr (congrArg _ (h 10)) (congr (congrArg _ (h 12)) (congr (congrArg _ (h 13)) (congr (congrArg _ (h 34)) (h 92))))))
 rw[e];unfold Jw
 repeat' split
 all_goals simp_all
def letD_at(r:Nat)(c:Int)(h:letD.atKey (.int .i32 r) (.lit (.int .i32 0))=.lit (.int .i32 c))(b:UInt8)(hb:Jw r=some b):c=b.toNat:=by
 rw[YX] at h;unfold Jw at hb
 repeat' split at hb
 all_goals first
  |(cases hb;subst_vars;have:=DataW.lit.inj h;cases this;rfl)
  |cases hb
set_option maxHeartbeats 1000000 in
def A1E(n:Nat)(w:World):
  CallsIn Fence.wide n prog 350 #[] w λe w'=>e=.returned (.map (some w.heap.size))/\Pz w.heap.size w'/\Below w.heap.size w w':=by
 have hmm:=@run_makeMap prog;have K:=Maps.int_keyed underlying21;have hw:∀a:Nat,a<=127->keyOf prog 21 (.int .i32 a)=some (.int .i32 a)/\plainElem (H:=Unit) prog 21 (.int .i32 a)=some (.lit (.int .i32 a),[]):=λa ha=>by
  have:(Lit.int .i32 a).wf=true:=by simp[Lit.wf,IntKind.min,IntKind.max,IntKind.bits,IntKind.signed];omega
  exact⟨Maps.keyOf_int_mk underlying21 this,plainElem_int underlying21 this⟩
 have h0:=World.ownsMap_made w prog 21 (plainElem (H:=Unit) prog 21);obtain⟨w1,r1,h1,g1⟩:=h0.update K underlying407 Dq' (hw 34 Dq').1 (hw 34 Dq').2;obtain⟨w2,r2,h2,g2⟩:=h1.update K underlying407 Dq' (hw 92 Dq').1 (hw 92 Dq').2;obtain⟨w3,r3,h3,g3⟩:=h2.update K underlying407 Dq' (hw 8 Dq').1 (hw 98 Dq').2;obtain⟨w4,r4,h4,g4⟩:=h3.update K underlying407 Dq' (hw 9 Dq').1 (hw 116 Dq').2;obtain⟨w5,r5,h5,g5⟩:=h4.update K underlying407 Dq' (hw 10 Dq').1 (hw 110 Dq').2;obtain⟨w6,r6,h6,g6⟩:=h5.update K underlying407 Dq' (hw 12 Dq').1 (hw 102 Dq').2;obtain⟨w7,r7,h7,g7⟩:=h6.update K underlying407 Dq' (hw 13 Dq').1 (hw 114 Dq').2;refine callsIn_of_wp func350 rfl trivial ?_;simp only[ntmps350,A2A,A2l,A2r,Nat.reduceAdd,Nat.reduceSub,A3e,A3f,A3v,A38,A2h,A2d];simp only[A3X] at r1 r2 r3 r4 r5 r6 r7
 gi_wp2
 go_ret
 refine⟨rfl,h7,?_⟩;have hlt:∀ {D:DataW Unit} {n:Nat} {a:World},a.ownsMap prog 21 (plainElem (H:=Unit) prog 21) w.heap.size n D->w.heap.size<a.heap.size:=λ⟨_,_,h,_⟩=>(A2H.1 h).1;have gb:∀ {a b:World},w.heap.size<a.heap.size->a.grownBy b (some w.heap.size)->Below w.heap.size a b:=λ{a b} hs g=>⟨g.os,g.tape,g.output,g.size,λk hk=>g.block k Om So'⟩
 exact(((((((((Below.refl _ w).alloc (A2e _) _).trans (gb (hlt h0) g1)).trans (gb (hlt h1) g2)).trans (gb (hlt h2) g3)).trans (gb (hlt h3) g4)).trans (gb (hlt h4) g5)).trans (gb (hlt h5) g6)).trans (gb (hlt h6) g7))
attribute [local go_sem] Oper.semAt_some
def Ka(n:Nat):UInt8:=if n<10 then(48+n).toUInt8 else(87+n).toUInt8
def L4(l:Lua):Lua:=
 if 32<=(Lib.decodeL l).1/\(Lib.decodeL l).1≠34/\(Lib.decodeL l).1≠92 then Lib.encodeRune (Lib.decodeL l).1
 else match Jw (Lib.decodeL l).1 with
  |some c=>[92,c]
  |none=>[92,117,48,48,Ka ((Lib.decodeL l).1/16),Ka ((Lib.decodeL l).1%16)]
def F5:Nat->Lua->Lua
 |0,_=>[]
 |n+1,l=>if l=[] then [] else L4 l++F5 n (l.drop (Lib.decodeL l).2)
def GP(n:Nat):F5 n []=[]:=by cases n<;>simp [F5]
def M2:∀(n m:Nat) (l:Lua),l.length<=n->l.length<=m->F5 n l=F5 m l
 |0,m,l,h,_=>by
  have:l=[]:=A3c.1 Om;subst this;rw[GP,GP]
 |n+1,0,l,_,h=>by
  have:l=[]:=A3c.1 Om;subst this;rw[GP,GP]
 |n+1,m+1,l,h,k=>by
  simp only[F5];have h1:=Lib.decodeL_width l;split
  ·rfl
  ·rename_i hn;have:0<l.length:=A3S.2 hn;rw[M2 n m _ (by rw[A2t];omega) (by rw[A2t];omega)]
def QR(l:Lua)(h:l≠[]):F5 l.length l=L4 l++F5 (l.drop (Lib.decodeL l).2).length (l.drop (Lib.decodeL l).2):=by
 have h1:=Lib.decodeL_width l;have h2:0<l.length:=A3S.2 h;rw[M2 l.length (l.length-1+1) l Om Om];simp only[F5,if_neg h];rw[M2 (l.length-1) (l.drop (Lib.decodeL l).2).length _ (by rw[A2t];omega) Om]
def QO(l:Lua)(h:l≠[])(C:¬((Lib.decodeL l).1=65533/\(Lib.decodeL l).2=1)):(L4 l).length=MT (Lib.decodeL l):=by
 have e:=Lib.encode_decode l h C;have hl:=Lib.decodeL_le l h;unfold L4 MT;generalize Lib.decodeL l=x at*;obtain⟨r,N⟩:=x;simp only at*;by_cases c:32<=r/\r≠34/\r≠92
 ·rw[if_pos c,e,A2x,if_neg Om,if_neg Om];omega
 ·rw[if_neg c];unfold Jw
  repeat' split
  all_goals first
   |rfl
   |(exfalso;simp_all;done)
   |(exfalso;omega)
   |skip
  all_goals
   rename_i M hr;rcases hr with rfl|rfl|rfl|rfl|rfl|rfl|rfl<;>simp at M
def UK:∀(n:Nat) (l:Lua),l.length<=n->Lib.validD l=true->(F5 n l).length=La n l
 |0,l,_,_=>rfl
 |n+1,l,h,hv=>by
  simp only[F5,La];split
  ·rfl
  ·rename_i hn;rw[Lib.validD_step l hn] at hv;split at hv
   ·cases hv
   ·rename_i hc;have h1:=Lib.decodeL_width l;have h2:0<l.length:=A3S.2 hn;rw[A2a,QO l hn hc,UK n _ (by rw[A2t];omega) hv]
def Dk(s:Baa):Baa:=if AK s=true then⟨([34]++F5 s.data.toList.length s.data.toList++[34]).toArray⟩ else bea
def JQ(s:Baa):(Dk s).size=Nl s:=by
 unfold Dk Nl;split
 ·rename_i h;show([34]++F5 s.data.toList.length s.data.toList++[34]).toArray.size=_;rw[A2A,A2a,A2a,UK _ _ (A2e _) h];simp;omega
 ·rfl
def Dx(W W':World):Prop:=∀(k:Nat) (o:Obj),W.heap[k]? =some o->(∀r,o≠Obj.loop r)->W'.heap[k]? =some o
def Dx.below{W W':World}(h:Below W.heap.size W W'):Dx W W':=λk o C _=>(h.block k (A2H.1 C).1).trans C
def Dx.put{W:World}{l:Nat}{r:Loop}(M:Obj)(h:W.heap[l]? =some (Obj.loop r)):Dx W (W.putObj l M):=λk o C N=>(World.putObj_heap_other (λe=>by subst e;rw[h] at C;exact N r (Option.some.inj C).symm)).trans C
def Jp{W W':World}(M:Dx W W'){B:Nat}{e:TypeId}{v:Value}{n:Nat}{C:List Value}(h:W.ownsRowF B e 1 v n C):W'.ownsRowF B e 1 v n C:=by
 refine⟨h.1,?_⟩;rcases h.2 with hn|⟨g,cap,cur,fz,hv,hbg,hg,rest⟩
 ·exact .inl hn
 ·exact .inr ⟨g,cap,cur,fz,hv,hbg,M g _ hg (λr e=>by cases e),rest⟩
def MC{W W':World}(C:Dx W W'){B b:Nat}{l:Lua}(h:Tryz.bld B b l W):Tryz.bld B b l W':=by
 rcases h with⟨M,v,hb,N,O⟩|⟨M,v,hb,N,O⟩
 ·exact .inl ⟨M,v,C _ _ hb (λr e=>by cases e),Jp C N,O⟩
 ·exact .inr ⟨M,v,C _ _ hb (λr e=>by cases e),Jp C N,O⟩
def Xw{W W':World}(C:Dx W W'){m:Nat}(h:Pz m W):Pz m W':=by
 obtain⟨es,c,hb,M⟩:=h;exact⟨es,c,C _ _ hb (λr e=>by cases e),M⟩
def A0U{W W':World}{b:Nat}(C:Lib.OthersKept 5 (some b) W W'){m:Nat}(hm:m≠b)(h:Pz m W):Pz m W':=by
 obtain⟨es,c,hb,M⟩:=h;exact⟨es,c,C _ _ hb (λe=>hm (Option.some.inj e)) (λ_ _ e=>by cases e),M⟩
def E3{B b:Nat}{l:Lua}{W:World}(h:Tryz.bld B b l W):b<W.heap.size:=by
 rcases h with⟨_,v,hb,_⟩|⟨_,v,hb,_⟩<;>exact (A2H.1 hb).1
def letM_ne{B b:Nat}{l:Lua}{W:World}{m:Nat}(h:Tryz.bld B b l W)(hm:Pz m W):m≠b:=by
 obtain⟨es,c,hb,_⟩:=hm;rcases h with⟨_,v,C,_⟩|⟨_,v,C,_⟩<;>(intro e;subst e;rw[hb] at C;cases C)
def MG{W W':World}{b C:Nat}{l:Lua}{B:Nat}(O:Tryz.bld B b l W)(M:Lib.OthersKept 5 (some b) W W')(N:C≠b){v:Value}(h:W.heap[C]? =some (.cells #[v] 407 (0,0))):W'.heap[C]? =some (.cells #[v] 407 (0,0)):=
 M _ _ h (λe=>N (Option.some.inj e)) (λ_ _ e=>by simp at e)
def box_kept{W W':World}{b C:Nat}(M:Lib.OthersKept 5 (some b) W W')(N:C≠b){v:Value}(h:W.heap[C]? =some (.cells #[v] 9 (0,0))):W'.heap[C]? =some (.cells #[v] 9 (0,0)):=
 M _ _ h (λe=>N (Option.some.inj e)) (λ_ _ e=>by simp at e)
def MX{W W':World}{b:Nat}{l:Lua}{B:Nat}(O:Tryz.bld B b l W)(hb:Below B W W')(U:Lib.OthersKept 5 (some b) W W'):KeepsOthers W W':=
 ⟨hb.size,λk o M N=>U k o M (λe=>by
  cases e;rcases O with⟨_,v,C,_⟩|⟨_,v,C,_⟩<;>(rw[M] at C;cases C;cases N)) (λ_ _ e=>by subst e;cases N)⟩
def MapC(b4:Nat)(W:World):Prop:=W.heap[b4]? =some (.cells #[.map none] 407 (0,0))\/∃m,W.heap[b4]? =some (.cells #[.map (some m)] 407 (0,0))/\Pz m W
def MapC.keepL{W W':World}(C:Dx W W'){M:Nat}(h:MapC M W):MapC M W':=by
 rcases h with h|⟨m,h1,h2⟩
 ·exact .inl (C _ _ h (λr e=>by cases e))
 ·exact .inr ⟨m,C _ _ h1 (λr e=>by cases e),Xw C h2⟩
def Cm{W W':World}(C:Dx W W'){b:Nat}{v:Value}{T:TypeId}(h:W.heap[b]? =some (.cells #[v] T (0,0))):W'.heap[b]? =some (.cells #[v] T (0,0)):=C _ _ h (λr e=>by cases e)
structure TO(s:ByteArray)(w0:World)(b4 b bx:Nat)(p:Nat)(W:World):Prop where
 text:∃acc:List UInt8,Tryz.bld b b acc W/\[34]++F5 s.data.toList.length s.data.toList=acc++F5 (s.data.toList.drop p).length (s.data.toList.drop p)/\acc.length<=6*p+1
 below:Below w0.heap.size w0 W
 blt:w0.heap.size<=b
 ne4:b4≠b
 nex:bx≠b
 box:W.heap[bx]? =some (.cells #[.string s] 9 (0,0))
 map:MapC b4 W
 le:p<=s.size
 ok:Lib.validD (s.data.toList.drop p)=true
def TO.keepL{s:Baa}{w0:World}{M b N p:Nat}{W W':World}(h:TO s w0 M b N p W)(C:Dx W W')(hb:Below w0.heap.size w0 W'):TO s w0 M b N p W':=by
 obtain⟨⟨acc,h1,h2,O⟩,h4,U,V,Y,Z,h6,h7,h8⟩:=h;exact⟨⟨acc,MC C h1,h2,O⟩,hb,U,V,Y,Cm C Z,h6.keepL C,h7,h8⟩
structure Qu(s:ByteArray)(w0:World)(b4 b bx:Nat)(W:World)(acc:List UInt8)(W':World):Prop where
 bld:Tryz.bld b b acc W'
 below:Below w0.heap.size w0 W'
 blt:w0.heap.size<=b
 ne4:b4≠b
 nex:bx≠b
 box:W'.heap[bx]? =some (.cells #[.string s] 9 (0,0))
 map:MapC b4 W'
 keep:KeepsOthers W W'
def TO.start{s:Baa}{w0:World}{C b M p:Nat}{W:World}(h:TO s w0 C b M p W):∃acc:Lua,Qu s w0 C b M W acc W/\[34]++F5 s.data.toList.length s.data.toList=acc++F5 (s.data.toList.drop p).length (s.data.toList.drop p)/\acc.length<=6*p+1:=by
 obtain⟨⟨acc,h1,h2,N⟩,O,U,V,Y,Z,h6,h7,h8⟩:=h;exact⟨acc,⟨h1,O,U,V,Y,Z,h6,KeepsOthers.refl _⟩,h2,N⟩
def Qu.write{s:Baa}{w0:World}{V b Y:Nat}{W N M:World}{acc Z:Lua}(h:Qu s w0 V b Y W acc N)(hB:Tryz.bld b b Z M)(hb:Below b N M)(C:Lib.OthersKept 5 (some b) N M):Qu s w0 V b Y W Z M:=by
 obtain⟨h1,h2,h3,O,h5,h6,U,h8⟩:=h;refine⟨hB,h2.trans (hb.mono h3),h3,O,h5,box_kept C h5 h6,?_,h8.trans (MX h1 hb C)⟩;rcases U with U|⟨m,m1,m2⟩
 ·exact .inl (MG h1 C O U)
 ·exact .inr ⟨m,MG h1 C O m1,A0U C (letM_ne h1 m2) m2⟩
def Qu.letters{s:Baa}{w0:World}{C b Y:Nat}{W V M:World}{acc:Lua}(h:Qu s w0 C b Y W acc V)(h0:V.heap[C]? =some (.cells #[.map none] 407 (0,0)))(hb:Below V.heap.size V M){m:Nat}(hm:Pz m M)(hx:Y≠C)(a5:w0.heap.size<=C):
  Qu s w0 C b Y W acc (M.setCell ⟨C,0,none⟩ (.map (some m)))/\(M.setCell ⟨C,0,none⟩ (.map (some m))).heap[C]? =some (.cells #[.map (some m)] 407 (0,0))/\Pz m (M.setCell ⟨C,0,none⟩ (.map (some m))):=by
 obtain⟨h1,h2,h3,Z,h5,h6,h7,h8⟩:=h;have hk:=Dx.below hb;have O:M.heap[C]? =some (.cells #[.map none] 407 (0,0)):=Cm hk h0;have o:∀k,k≠C->(M.setCell ⟨C,0,none⟩ (.map (some m))).heap[k]? =M.heap[k]?:=λk h=>Below.heap_setCell _ _ _ _ h;have n4:(M.setCell ⟨C,0,none⟩ (.map (some m))).heap[C]? =some (.cells #[.map (some m)] 407 (0,0)):=by
  simp[World.setCell,Array.getElem?_modify,O]
 have a2:Pz m (M.setCell ⟨C,0,none⟩ (.map (some m))):=by
  obtain⟨es,c,hh,a0⟩:=hm;exact⟨es,c,(o m (λe=>by subst e;rw[hh] at O;cases O)).trans hh,a0⟩
 refine⟨⟨?_,?_,h3,Z,h5,(o _ hx).trans (Cm hk h6),.inr ⟨m,n4,a2⟩,?_⟩,n4,a2⟩
 ·have U:=MC hk h1;have a3:∀ {v:Value} {l:List Value},M.ownsRowF b 5 1 v l.length l->(M.setCell ⟨C,0,none⟩ (.map (some m))).ownsRowF b 5 1 v l.length l:=λ{v l} N=>by
   refine⟨N.1,?_⟩;rcases N.2 with hn|⟨g,cap,cur,fz,hv,hbg,hg,a0⟩
   ·exact .inl hn
   ·exact .inr ⟨g,cap,cur,fz,hv,hbg,(o g (λe=>by subst e;rw[hg] at O;simp at O)).trans hg,a0⟩
  rcases U with⟨U,v,hb,N,a1⟩|⟨U,v,hb,N,a1⟩
  ·exact .inl ⟨U,v,(o b (λe=>Z e.symm)).trans hb,a3 N,a1⟩
  ·exact .inr ⟨U,v,(o b (λe=>Z e.symm)).trans hb,a3 N,a1⟩
 ·exact(h2.trans (hb.mono h2.size)).setCell (p:=⟨C,0,none⟩) a5 _
 ·exact(h8.trans ⟨hb.size,λk o a4 _=>(hb.block k (A2H.1 a4).1).trans a4⟩).trans (KeepsOthers.setCell _ _ _)
def Qu.next{s:Baa}{w0:World}{C b M p:Nat}{W W':World}{acc:Lua}(hp:p<s.size)(N:Lib.validD (s.data.toList.drop p)=true)(e:[34]++F5 s.data.toList.length s.data.toList=acc++F5 (s.data.toList.drop p).length (s.data.toList.drop p))(hl:acc.length<=6*p+1){x:Lua}(O:x=L4 (s.data.toList.drop p))(h:Qu s w0 C b M W (acc++x) W'):KeepsOthers W W'/\TO s w0 C b M (p+(rnA s p).2) W':=by
 obtain⟨U,V,Y,v4,v5⟩:=Uw hp N;subst O;obtain⟨h1,h2,Z,h4,h5,h6,h7,h8⟩:=h;refine⟨h8,⟨⟨_,h1,?_,?_⟩,h2,Z,h4,h5,h6,h7,Y,V⟩⟩
 ·rw[e,QR _ (Gn hp),A3N,A2c];rfl
 ·rw[A2a,QO _ (Gn hp) U];have:=(P2 (s.data.toList.drop p)).2;unfold rnA at*;omega
def Ri{m:Nat}{W:World}(h:Pz m W)(r:Nat)(hr:r<=1114111):∃c:Int,(Instr.lookup 407 (.map (some m)) (.int .i32 r) true).run prog W=.ok (.tuple #[.int .i32 c,.bool (Jw r).isSome]) W/\∀b,Jw r=some b->c=b.toNat:=by
 have M:(Lit.int .i32 r).wf=true:=by simp[Lit.wf,IntKind.min,IntKind.max,IntKind.bits,IntKind.signed];omega
 obtain⟨v,ps,C,N⟩:=h.look_ok (Maps.int_keyed underlying21) underlying407 (zeroValue21 W) (plainElem_int underlying21 (q:=.i32) (a:=0) Dq') (Maps.keyOf_int_mk underlying21 M);obtain⟨c,rfl,hc,O⟩:=plainElem_int_inv underlying21 N;rw[letD_has] at C;exact⟨c,C,λb hb=>letD_at r c (congrArg Prod.fst hc) b hb⟩
def Z7(m:Option Nat)(w:World):(binOp .eql 407 (.map m) (.map none)).run prog w=.ok (.bool m.isNone) w:=by
 have h:(Op.equal 407 (.map m) (.map none)).run prog w=.ok m.isNone w:=HV (P:=prog) (w:=w) 9999 underlying407 m;simp only[binOp,A2o,h,Result.andThen,A2u]
def and_15{r:Nat}(h:r<32):bits BinOp.and IntKind.i32 (r:Int) 15=((r%16:Nat):Int):=by
 have key:∀i:Fin 32,bits BinOp.and IntKind.i32 (i.val:Int) 15=((i.val%16:Nat):Int):=Dq';exact key ⟨r,h⟩
def SY{i:Nat}(h:i<16)(h2:i<(⟨#[48,49,50,51,52,53,54,55,56,57,97,98,99,100,101,102]⟩:Baa).size):(⟨#[48,49,50,51,52,53,54,55,56,57,97,98,99,100,101,102]⟩:Baa)[i]'h2=Ka i:=by
 have key:∀i:Fin 16,(⟨#[48,49,50,51,52,53,54,55,56,57,97,98,99,100,101,102]⟩:Baa)[i.val]'(by show i.val<16;exact i.isLt)=Ka i.val:=Dq';exact key ⟨i,h⟩
def V8{r:Nat}{b:UInt8}(h:Jw r=some b):Lib.encodeRune b.toNat=[b]/\b.toNat<=127:=by
 unfold Jw at h
 repeat' split at h
 all_goals first
  |(cases h;exact⟨Dq',Dq'⟩)
  |cases h
def Rj{r:Nat}(h:Jw r=none)(hs:¬(32<=r/\r≠34/\r≠92)):r<32:=by
 unfold Jw at h
 repeat' split at h
 all_goals first
  |(cases h;done)
  |omega
set_option maxHeartbeats 1000000 in
def c_valid(n:Nat)(s:Baa)(w:World)(hs:s.size<=1048576)(hT:Lib.Utf8Tabs (Tryz.sValid_ren.g 3) (Tryz.sValid_ren.g 4) w):
  CallsIn Fence.wide n prog 139 #[.string s] w λe w'=>e=.returned (.bool (AK s))/\Below w.heap.size w w':=by
 have hV:=Any.utf8_ValidString Tryz.sValid s w (A2N hs Dq') hT;refine callsIn_of_wp func139 rfl trivial ?_;simp only[ntmps139,A2A,A2l,A2r,Nat.reduceAdd,Nat.reduceSub,A3e,A3f,A3v,A38,A2h,A2d]
 gi_wp2
 refine⟨trivial,λh=>(by cases h),(callsIn_wide.2 hV).mono ?_⟩;rintro e w2 ⟨rfl,hb⟩
 gi_wp2
 go_ret
 exact⟨rfl,hb⟩
end Go.Proofs
