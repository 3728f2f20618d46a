/- The program is walked: part 17 of 18. -/
import Derived.Test.YtmobnaefbcegbaaGreatDoorV15
set_option maxHeartbeats 4000000
set_option maxRecDepth 20000
set_option linter.all false
namespace Go.Ab
open Go.Proofs Go.Proofs.Tryz Go.RowKit Go.Shelf
variable{v:GV}{L:Lga}
def FU(v:GV):List GV:=if v.kind=5 then v.list else if v.kind=6 then v.obj.map (·.2) else []
def XR(v:GV):C9 v=1+Cf (FU v):=by
 rw[JD];unfold FU;split
 ·rfl
 ·split
  ·rw[Q7]
  ·simp[Cf]
def r_Within(v:GV)(hs:Sm v):A4 prog 94 [.agg (A7 v)] [] (.gref 2 (FU v).length) [(2,.grow ((FU v).map A7) 6)]:=by
 have a3:=hs.list_le;have a4:=hs.obj_le;rw[A3];unfold FU;by_cases U:v.kind=5
 ·rw[if_pos U,U];generalize v.list=l at*;have M:=Aw (f:=A7) Bn l;refine Zd [8] ?_;have a0:∀y ∈ l.map A7,y.length=6:=λy C=>by obtain⟨x,_,rfl⟩:=A2p.1 C;exact AH x
  (have z:=M;push_cast[z]<;>repeat' (first|apply Zi<;>intro _|exact Zo|with_reducible apply Za)<;>push_cast[z])
  all_goals first|omega|exact a0|(intro y C;cases C;done)|skip
  apply Zr [(2,80)] rfl<;>push_cast [M]
 ·rw[if_neg U];have e5:(v.kind==5)=false:=by simpa using U
  by_cases V:v.kind=6
  ·rw[if_pos V,V];generalize v.obj=l at*;have M:=Aw (f:=A8) Ap l;refine Zd [8] ?_
   (have z:=M;push_cast[z]<;>repeat' (first|apply Zi<;>intro _|exact Zo|with_reducible apply Za)<;>push_cast[z])<;>try omega
   refine Zl (λi=>i<=l.length) (λi=>⟨[(4,iD i),(3,.gref 160 i),(1,.ptr [iD 6,bD v.b,iD v.n,sD v.s,.slice (v.list.map A7) false,.slice (l.map A8) false] 0)],[(160,.grow (((l.take i).map (·.2)).map A7) 6)],100⟩) (λi=>l.length-i) 0 (A2w _) ?_ λi hi=>?_
   ·refine Aq.trans (s':=⟨[(3,.slice [] true),(4,iD 0),(1,.ptr [iD 6,bD v.b,iD v.n,sD v.s,.slice (v.list.map A7) false,.slice (l.map A8) false] 0)],[],80⟩) ?_ ?_
    ·apply Zw<;>push_cast
    refine Aq.trans (Aq.nilgrowE 6) ?_;apply Zw<;>push_cast
   ·push_cast;refine Ad (λZ=>?_) (λZ=>?_)
    ·have N:i<l.length:=by simpa using Z
     have e1:=Bc N;have w2:IntKind.i64.wrap (↑i+1)=↑i+1:=A9 Om Om;have et:((l.take (i+1)).map (·.2)).map A7=((l.take i).map (·.2)).map A7++[A7 (l.getD i zM).2]:=by
      rw[A2J N,A2F,A2F];simp[A29,A2f N]
     have a1:(((l.take i).map (·.2)).map A7).length=i:=So';have oX:=Bn (l.getD i zM).2;have oT:=E8 ((l.take i).map (·.2));generalize l.getD i zM=x at*;have h6:=AH x.2;have t6:=GG x.2;have a2:∀d ∈ A7 x.2,AV d=true:=λd O=>by
      rw[A3] at O;simp only[A2s,A3b,or_false] at O;rcases O with rfl|rfl|rfl|rfl|rfl|rfl<;>rfl
     have a0:∀y ∈ ((l.take i).map (·.2)).map A7,y.length=6:=λy C=>by obtain⟨x,_,rfl⟩:=A2p.1 C;exact AH x
     generalize((l.take i).map (·.2)).map A7=Y at*
     (have z:=Za e1<|Za M<|Za @Aj<|Za oX<|Za oT<|Za h6<|Za t6 @a1;push_cast[z]<;>repeat' (first|apply Zi<;>intro _|exact Zo|with_reducible apply Za)<;>push_cast[z])<;>try omega
     all_goals first|(intro y C;cases A2b.1 C;exact h6)|(intro y C d O;cases A2b.1 C;exact a2 d O)|skip
     refine⟨i+1,N,Om,?_⟩;rw[et];apply Zr [(160,304)] rfl<;>push_cast [M,oT];all_goals first|exact w2|skip
    ·have N:i=l.length:=by simp at Z;omega
     subst N;rw[A2I]
     (have z:=M;push_cast[z]<;>repeat' (first|apply Zi<;>intro _|exact Zo|with_reducible apply Za)<;>push_cast[z])<;>try omega
     apply Zr [(2,160)] rfl<;>push_cast [M]
  ·rw[if_neg V];have e6:(v.kind==6)=false:=by simpa using V
   refine Zd [8] ?_
   (have z:=Za e5 e6;push_cast[z]<;>repeat' (first|apply Zi<;>intro _|exact Zo|with_reducible apply Za)<;>push_cast[z])
   refine Aq.trans (Aq.nilgrowE 6) ?_;apply Zr [(2,96)] rfl<;>push_cast
def kidsV_lt{x:GV}(h:x ∈ FU v):SizeOf.sizeOf x<SizeOf.sizeOf v:=by
 unfold FU at h;split at h
 ·exact GV.list_lt h
 ·split at h
  ·obtain⟨p,hp,rfl⟩:=A2p.1 h;exact GV.obj_lt hp
  ·cases h
def kidsV_sm{x:GV}(hs:Sm v)(h:x ∈ FU v):Sm x:=by
 unfold FU at h;split at h
 ·exact hs.list x h
 ·split at h
  ·obtain⟨p,hp,rfl⟩:=A2p.1 h;exact hs.obj p hp
  ·cases h
def A13(hs:Sm v):(FU v).length<=1048576:=by
 unfold FU;split
 ·exact hs.list_le
 ·split
  ·rw[A2k];exact hs.obj_le
  ·simp
def r_Deep(v:GV)(hs:Sm v)(hb:C9 v<=65):A0 prog 59 [.agg (A7 v)] (iD (C9 v:Nat)):=by
 have V:=r_Within v hs;have a1:=A13 hs;rw[XR] at hb|-;have a0:∀i,i<(FU v).length->A0 prog 59 [.agg (A7 ((FU v).getD i zV))] (iD (C9 ((FU v).getD i zV):Nat)):=λi hi=>
  r_Deep _ (kidsV_sm hs (Ae hi)) (by have:=Q6 (Ae (d:=zV) hi);omega)
 generalize FU v=l at*;have N:=E8 l;rw[A3 v] at V|-;refine Zf [0] ?_
 (have z:=N;push_cast[z]<;>repeat' (first|apply Zi<;>intro _|refine Zs [] V ?_|exact Zo|with_reducible apply Za)<;>push_cast[z])
 refine Zl (λi=>i<=l.length) (λi=>⟨[(5,iD i),(4,.gref 34 l.length),(3,iD (Cf (l.take i):Nat))],[(34,.grow (l.map A7) 6)],60⟩) (λi=>l.length-i) 0 Sq' ?_ λi hi=>?_
 ·apply Zw<;>push_cast;all_goals simp[Cf]
 ·push_cast;refine⟨Om,?_⟩;refine Ad (λO=>?_) (λO=>?_)
  ·have C:i<l.length:=by simpa using O
   have Y:=DU C;have hr:=a0 i C;have e2:=Nb C;have a2:=AH (l.getD i zV);have a3:=GG (l.getD i zV);have Z:IntKind.i64.wrap (↑i+1)=↑i+1:=A9 Om Om;generalize l.getD i zV=x at*;generalize Cf (l.take i)=M at*;by_cases hc:M<C9 x
   ·have b1:decide ((M:Int)<C9 x)=true:=Dt'
    (have z:=Za Y<|Za N b1;push_cast[z]<;>repeat' (first|apply Zi<;>intro _|refine Zc (hr ..) ?_|exact Zo|with_reducible apply Za)<;>push_cast[z])<;>try omega
    refine⟨i+1,C,Om,?_⟩;have U:Cf (l.take (i+1))=C9 x:=Om;rw[U];apply Zw<;>push_cast;all_goals first|exact Z|skip
   ·have b1:decide ((M:Int)<C9 x)=false:=Df'
    (have z:=Za Y<|Za N b1;push_cast[z]<;>repeat' (first|apply Zi<;>intro _|refine Zc (hr ..) ?_|exact Zo|with_reducible apply Za)<;>push_cast[z])<;>try omega
    refine⟨i+1,C,Om,?_⟩;have U:Cf (l.take (i+1))=M:=Om;rw[U];apply Zw<;>push_cast;all_goals first|exact Z|skip
  ·have C:i=l.length:=by simp at O;omega
   subst C;rw[A2I]
   (push_cast<;>repeat' (first|apply Zi<;>intro _|exact Zp|with_reducible apply Za)<;>push_cast)
   rw[A9 Om Om];omega
termination_by SizeOf.sizeOf v
decreasing_by exact kidsV_lt (Ae hi)
def M1(v:GV)(hs:Sm v)(V:wtV v<=2097152):A0 prog 25 [.agg (A7 v)] (iD (Ao v)):=by
 have C:=r_vMay v hs;unfold Ao;by_cases h1:Bb v 1=0
 ·rw[if_neg (by simpa using h1)];rw[h1] at C;have Y:=Lx v 1 h1;have M:=r_Deep v hs Om;have Z:=SR v hs;have N:=Xc v 1 h1 hs Om;have O:(⟨(CP v).toArray⟩:Baa).size=CN v:=by
   show(CP v).toArray.size=_;rw[A2A,JP v 1 h1]
  generalize(⟨(CP v).toArray⟩:Baa)=T at*;rw[A3 v] at C M N|-;by_cases h2:16<C9 v
  ·rw[if_pos h2];have b1:decide ((16:Int)<C9 v)=true:=Dt';refine Zf [0] ?_
   (have z:=b1;push_cast[z]<;>repeat' (first|apply Zi<;>intro _|refine Zc C ?_|refine Zc M ?_|exact Zo|with_reducible apply Za)<;>push_cast[z])
  ·rw[if_neg h2];have b1:decide ((16:Int)<C9 v)=false:=Df';by_cases U:1024<CN v
   ·rw[if_pos U];have b2:decide ((1024:Int)<CN v)=true:=Dt';refine Zf [0] ?_
    (have z:=Za b1<|Za b2 @O;push_cast[z]<;>repeat' (first|apply Zi<;>intro _|refine Zc C ?_|refine Zc M ?_|refine Zc N ?_|exact Zo|with_reducible apply Za)<;>push_cast[z])<;>try omega
   ·rw[if_neg U];have b2:decide ((1024:Int)<CN v)=false:=Df';refine Zf [0] ?_
    (have z:=Za b1<|Za b2 @O;push_cast[z]<;>repeat' (first|apply Zi<;>intro _|refine Zc C ?_|refine Zc M ?_|refine Zc N ?_|exact Zo|with_reducible apply Za)<;>push_cast[z])<;>try omega
 ·rw[if_pos h1];have b1:(Bb v 1 !=0)=true:=by simpa using h1
  rw[A3 v] at C|-;generalize Bb v 1=c at*;refine Zf [0] ?_
  (have z:=b1;push_cast[z]<;>repeat' (first|apply Zi<;>intro _|refine Zc C ?_|exact Zo|with_reducible apply Za)<;>push_cast[z])
def r_Eq0(v:GV):A0 prog 223 [.agg (A7 v),.agg zT] (bD (BE v)):=by
 rw[A3];refine Zk [0,8] λH Hb=>?_
 (push_cast<;>repeat' (first|apply Zi<;>intro _|exact Zp|with_reducible apply Za)<;>push_cast)
 all_goals first
  |(clear H Hb;have a2:bea=(⟨#[]⟩:Baa):=rfl;simp_all [BE,DV];done)
  |skip
 rename_i M N O U V Y;have z1:v.kind=0:=by simpa using M
 have z2:v.b=false:=by simpa using N
 have Z:v.n=0:=by simpa using O
 have z4:v.s=bea:=by simpa using U
 have C:v.list.length=0:=by simpa using V
 have z6:v.obj.length=0:=by simpa using Y
 have hz:BE v=true:=by
  unfold BE;have he:noS bea=true:=by rw[DV];rfl
  rw[z1,z2,Z,z4,C,z6,he];rfl
 rw[hz];have a0:v.list=[]:=A3c.1 C;have a1:v.obj=[]:=A3c.1 z6;clear M N O U V Y C z6;rw[a0,a1];refine AWp.loopI mixed Kq' (ι:=Unit) (λ_=>True) (λ_=>⟨[(5,iD 0),(2,.ptr [iD v.kind,bD v.b,iD v.n,sD v.s,.slice [] false,.slice [] false] 0)],[],400⟩) (λ_=>0) () trivial ?_ λ_ _=>?_
 ·apply Zw<;>push_cast
 ·(push_cast<;>repeat' (first|apply Zi<;>intro _|exact Zp|with_reducible apply Za)<;>push_cast)
  refine AWp.loopI mixed Kq' (ι:=Unit) (λ_=>True) (λ_=>⟨[(6,iD 0),(2,.ptr [iD v.kind,bD v.b,iD v.n,sD v.s,.slice [] false,.slice [] false] 0)],[],600⟩) (λ_=>0) () trivial ?_ λ_ _=>?_
  ·apply Zw<;>push_cast
  ·(push_cast<;>repeat' (first|apply Zi<;>intro _|exact Zp|with_reducible apply Za)<;>push_cast)
def DI(v:GV):A0 prog 155 [.agg (A7 v)] (bD (BE v)):=by
 have h:=r_Eq0 v;rw[A3] at h|-;refine Zf [0] ?_
 (have z:=trivial;push_cast<;>repeat' (first|apply Zi<;>intro _|refine Zc h ?_|exact Zp|with_reducible apply Za)<;>push_cast)
def YE(s:Baa)(hs:s.size<=4611686018427387904):A0 prog 156 [sD s] (bD (TA s)):=by
 have h:=L8 s hs;refine Zk [] λH Hb=>?_
 (have z:=trivial;push_cast<;>repeat' (first|apply Zi<;>intro _|refine Zc h ?_|exact Zp|with_reducible apply Za)<;>push_cast)
 all_goals(clear H Hb h;first|(simp_all [TA];done)|(simp_all [TA];omega))
def r_key(m:GM)(C:m.key.size<=4611686018427387904)(ht:m.to.size<=4611686018427387904):A0 prog 98 [.agg (Ai m)] (bD (Ck m)):=by
 have h1:=YE m.key C;have h2:=YE m.to ht;have M:=L7 m.key C;rw[Ay,A3 m.was,A3 m.value];simp only[A2d,A2h,A2c];refine Zk [0] λH Hb=>?_
 (have z:=trivial;push_cast<;>repeat' (first|apply Zi<;>intro _|refine Zc h1 ?_|refine Zc h2 ?_|refine Zc M ?_|exact Zp|with_reducible apply Za)<;>push_cast)
 all_goals(clear H Hb h1 h2 M;simp_all [Ck,DV])
section
variable(k:Int)(key tx:Baa)(n:Int)(had:Bool)(was:GV)(has:Bool)(value:GV)(l:List GM)
def r_mbare1(C:k=1):A0 prog 97 [.agg (Ai (.mk k key tx n had was has value l))] (bD (!AG (.mk k key tx n had was has value l))):=by
 have h1:=DI was;have h2:=DI value;rw[A3] at h1 h2;rw[Ay,A3 (GM.was _),A3 (GM.value _)];simp only[A2d,A2h,A2c];unfold AG;simp only[GM.kind,GM.key,GM.to,GM.n,GM.had,GM.was,GM.has,GM.value,GM.list];generalize BE was=M at*;generalize BE value=N at*;subst C;cases had<;>cases has;all_goals
  refine Zk [0] λH Hb=>?_
  (have z:=trivial;push_cast<;>repeat' (first|apply Zi<;>intro _|refine Zc h1 ?_|refine Zc h2 ?_|exact Zp|with_reducible apply Za)<;>push_cast)
 all_goals(clear h1 h2 H Hb;simp_all [DV])
def r_mbare2(C:k=2):A0 prog 97 [.agg (Ai (.mk k key tx n had was has value l))] (bD (!AG (.mk k key tx n had was has value l))):=by
 have h1:=DI was;have h2:=DI value;rw[A3] at h1 h2;rw[Ay,A3 (GM.was _),A3 (GM.value _)];simp only[A2d,A2h,A2c];unfold AG;simp only[GM.kind,GM.key,GM.to,GM.n,GM.had,GM.was,GM.has,GM.value,GM.list];generalize BE was=M at*;generalize BE value=N at*;subst C;cases had<;>cases has;all_goals
  refine Zk [0] λH Hb=>?_
  (have z:=trivial;push_cast<;>repeat' (first|apply Zi<;>intro _|refine Zc h1 ?_|refine Zc h2 ?_|exact Zp|with_reducible apply Za)<;>push_cast)
 all_goals(clear h1 h2 H Hb;simp_all [DV])
def r_mbare3(C:k=3):A0 prog 97 [.agg (Ai (.mk k key tx n had was has value l))] (bD (!AG (.mk k key tx n had was has value l))):=by
 have h1:=DI was;have h2:=DI value;rw[A3] at h1 h2;rw[Ay,A3 (GM.was _),A3 (GM.value _)];simp only[A2d,A2h,A2c];unfold AG;simp only[GM.kind,GM.key,GM.to,GM.n,GM.had,GM.was,GM.has,GM.value,GM.list];generalize BE was=M at*;generalize BE value=N at*;subst C;cases had<;>cases has;all_goals
  refine Zk [0] λH Hb=>?_
  (have z:=trivial;push_cast<;>repeat' (first|apply Zi<;>intro _|refine Zc h1 ?_|refine Zc h2 ?_|exact Zp|with_reducible apply Za)<;>push_cast)
 all_goals(clear h1 h2 H Hb;simp_all [DV])
def r_mbare4(C:k=4):A0 prog 97 [.agg (Ai (.mk k key tx n had was has value l))] (bD (!AG (.mk k key tx n had was has value l))):=by
 have h1:=DI was;have h2:=DI value;rw[A3] at h1 h2;rw[Ay,A3 (GM.was _),A3 (GM.value _)];simp only[A2d,A2h,A2c];unfold AG;simp only[GM.kind,GM.key,GM.to,GM.n,GM.had,GM.was,GM.has,GM.value,GM.list];generalize BE was=M at*;generalize BE value=N at*;subst C;cases had<;>cases has;all_goals
  refine Zk [0] λH Hb=>?_
  (have z:=trivial;push_cast<;>repeat' (first|apply Zi<;>intro _|refine Zc h1 ?_|refine Zc h2 ?_|exact Zp|with_reducible apply Za)<;>push_cast)
 all_goals(clear h1 h2 H Hb;simp_all [DV])
def r_mbare5(C:k=5):A0 prog 97 [.agg (Ai (.mk k key tx n had was has value l))] (bD (!AG (.mk k key tx n had was has value l))):=by
 have h1:=DI was;have h2:=DI value;rw[A3] at h1 h2;rw[Ay,A3 (GM.was _),A3 (GM.value _)];simp only[A2d,A2h,A2c];unfold AG;simp only[GM.kind,GM.key,GM.to,GM.n,GM.had,GM.was,GM.has,GM.value,GM.list];generalize BE was=M at*;generalize BE value=N at*;subst C;cases had<;>cases has;all_goals
  refine Zk [0] λH Hb=>?_
  (have z:=trivial;push_cast<;>repeat' (first|apply Zi<;>intro _|refine Zc h1 ?_|refine Zc h2 ?_|exact Zp|with_reducible apply Za)<;>push_cast)
 all_goals(clear h1 h2 H Hb;simp_all [DV])
def r_mbare6(C:k=6):A0 prog 97 [.agg (Ai (.mk k key tx n had was has value l))] (bD (!AG (.mk k key tx n had was has value l))):=by
 have h1:=DI was;have h2:=DI value;rw[A3] at h1 h2;rw[Ay,A3 (GM.was _),A3 (GM.value _)];simp only[A2d,A2h,A2c];unfold AG;simp only[GM.kind,GM.key,GM.to,GM.n,GM.had,GM.was,GM.has,GM.value,GM.list];generalize BE was=M at*;generalize BE value=N at*;subst C;cases had<;>cases has;all_goals
  refine Zk [0] λH Hb=>?_
  (have z:=trivial;push_cast<;>repeat' (first|apply Zi<;>intro _|refine Zc h1 ?_|refine Zc h2 ?_|exact Zp|with_reducible apply Za)<;>push_cast)
 all_goals(clear h1 h2 H Hb;simp_all [DV])
def r_mbare7(C:k=7):A0 prog 97 [.agg (Ai (.mk k key tx n had was has value l))] (bD (!AG (.mk k key tx n had was has value l))):=by
 have h1:=DI was;have h2:=DI value;rw[A3] at h1 h2;rw[Ay,A3 (GM.was _),A3 (GM.value _)];simp only[A2d,A2h,A2c];unfold AG;simp only[GM.kind,GM.key,GM.to,GM.n,GM.had,GM.was,GM.has,GM.value,GM.list];generalize BE was=M at*;generalize BE value=N at*;subst C;cases had<;>cases has;all_goals
  refine Zk [0] λH Hb=>?_
  (have z:=trivial;push_cast<;>repeat' (first|apply Zi<;>intro _|refine Zc h1 ?_|refine Zc h2 ?_|exact Zp|with_reducible apply Za)<;>push_cast)
 all_goals(clear h1 h2 H Hb;simp_all [DV])
def r_mbare0(C:k<1\/7<k):A0 prog 97 [.agg (Ai (.mk k key tx n had was has value l))] (bD (!AG (.mk k key tx n had was has value l))):=by
 have h1:=DI was;have h2:=DI value;rw[A3] at h1 h2;rw[Ay,A3 (GM.was _),A3 (GM.value _)];simp only[A2d,A2h,A2c];unfold AG;simp only[GM.kind,GM.key,GM.to,GM.n,GM.had,GM.was,GM.has,GM.value,GM.list];generalize BE was=zw at*;generalize BE value=zv at*;have M:(k==1)=false:=So';have N:(k==2)=false:=So';have O:(k==3)=false:=So';have U:(k==4)=false:=So';have V:(k==5)=false:=So';have Y:(k==6)=false:=So';have Z:(k==7)=false:=So';simp only[M,N,O,U,V,Y,Z,Bool.or_self,A2G,if_false,Bool.or_true,Bool.not_true];rcases C with C|C
 ·have b1:decide (k<1)=true:=decide_eq_true C;refine Zf [0] ?_
  (have z:=b1;push_cast[z]<;>repeat' (first|apply Zi<;>intro _|refine Zc h1 ?_|refine Zc h2 ?_|exact Zo|with_reducible apply Za)<;>push_cast[z])
 ·have b1:decide (k<1)=false:=Df';have b2:decide (7<k)=true:=decide_eq_true C;refine Zf [0] ?_
  (have z:=Za b1 b2;push_cast[z]<;>repeat' (first|apply Zi<;>intro _|refine Zc h1 ?_|refine Zc h2 ?_|exact Zo|with_reducible apply Za)<;>push_cast[z])
end
def r_mbare(m:GM):A0 prog 97 [.agg (Ai m)] (bD (!AG m)):=by
 obtain⟨k,key,tx,n,had,was,has,value,l⟩:=m;by_cases h:k<1\/7<k
 ·exact r_mbare0 _ _ _ _ _ _ _ _ _ h
 ·have:k=1\/k=2\/k=3\/k=4\/k=5\/k=6\/k=7:=Om;rcases this with h|h|h|h|h|h|h
  ·exact r_mbare1 _ _ _ _ _ _ _ _ _ h
  ·exact r_mbare2 _ _ _ _ _ _ _ _ _ h
  ·exact r_mbare3 _ _ _ _ _ _ _ _ _ h
  ·exact r_mbare4 _ _ _ _ _ _ _ _ _ h
  ·exact r_mbare5 _ _ _ _ _ _ _ _ _ h
  ·exact r_mbare6 _ _ _ _ _ _ _ _ _ h
  ·exact r_mbare7 _ _ _ _ _ _ _ _ _ h
def YF(m:GM)(N:AY m<=1099511627776):A0 prog 61 [.agg (Ai m)] (iD (AY m:Nat)):=by
 have O:∀x,SizeOf.sizeOf x<SizeOf.sizeOf m->AY x<=1099511627776->A0 prog 61 [.agg (Ai x)] (iD (AY x:Nat)):=λx Y h=>YF x h;have Z:=Hl m.list;rw[DM] at N|-;rw[Ay,A3 m.was,A3 m.value];simp only[A2d,A2h,A2c];refine Zf [0] ?_
 (push_cast<;>repeat' (first|apply Zi<;>intro _|exact Zp|with_reducible apply Za)<;>push_cast)
 refine Zl (λi=>i<=m.list.length) (λi=>⟨[(4,iD i),(3,iD ((1+Br (m.list.take i):Nat):Int)),(1,.ptr [iD m.kind,sD m.key,sD m.to,iD m.n,bD m.had,iD m.was.kind,bD m.was.b,iD m.was.n,sD m.was.s,.slice (m.was.list.map A7) false,.slice (m.was.obj.map A8) false,bD m.has,iD m.value.kind,bD m.value.b,iD m.value.n,sD m.value.s,.slice (m.value.list.map A7) false,.slice (m.value.obj.map A8) false,.slice (m.list.map Ai) false] 0)],[],200⟩) (λi=>m.list.length-i) 0 Sq' ?_ λi hi=>?_
 ·apply Zw<;>push_cast;simp[Br]
 ·push_cast;refine Ad (λM=>?_) (λM=>?_)
  ·have C:i<m.list.length:=by simpa using M
   have U:=EV C;obtain⟨V,t2⟩:=Do C;have hr:=O (m.list.getD i zU) (GM.list_lt (Ae C)) Om
   (have z:=U;push_cast[z]<;>repeat' (first|apply Zi<;>intro _|refine Zc (hr ..) ?_|exact Zo|with_reducible apply Za)<;>push_cast[z])<;>try omega
   refine⟨i+1,C,Om,?_⟩;apply Zw<;>push_cast;refine⟨A9 Om Om,?_⟩;rw[V,A3m,<-Int.add_assoc];exact A9 Om Om
  ·have C:i=m.list.length:=by simp at M;omega
   subst C
   (push_cast<;>repeat' (first|apply Zi<;>intro _|exact Zp|with_reducible apply Za)<;>push_cast)<;>try omega
   all_goals rw[A2I]
termination_by SizeOf.sizeOf m
def Py{F:GV->Int}{d:Nat}:∀ {l:List GM},(∀j,j<l.length->BG F (l.getD j zU) d=0)->CD F l d=0
 |[],_=>rfl
 |v::l,h=>by
  have h0:BG F v d=0:=h 0 Sq';simp only[CD,h0];exact Py λj C=>h (j+1) So'
def Lj{F:GV->Int}{d:Nat}:∀ {l:List GM} {i:Nat},i<l.length->(∀j,j<i->BG F (l.getD j zU) d=0)->BG F (l.getD i zU) d≠0->CD F l d=BG F (l.getD i zU) d
 |v::l,0,_,_,h=>by
  simp only[A39] at h|-;simp only[CD,if_pos h]
 |v::l,i+1,hi,h0,h=>by
  have C:BG F v d=0:=h0 0 Om;simp only[CD,C,A3t] at h|-;exact Lj (by simpa using hi) (λj M=>h0 (j+1) Om) h
section
variable{F:GV->Int}
def r_lk(k:Int)(had has V Y:Bool)(h1:(k==1)=V)(h5:(k==5)=Y)(key tx:Baa)(n:Int)(was value:GV)(l:List GM)(d:Nat)(hl:l.length<=1048576)(hd:d<=6)
  (N:A0 prog 97 [.agg (Ai (.mk k key tx n had was has value l))] (bD true)) (O:A0 prog 98 [.agg (Ai (.mk k key tx n had was has value l))] (bD true))
  (k4:A0 prog 25 [.agg (A7 was)] (iD (F was))) (k5:A0 prog 25 [.agg (A7 value)] (iD (F value)))
  (a0:∀i,i<l.length->A0 prog 62 [.agg (Ai (l.getD i zU)),iD ((d:Int)+1)] (iD (BG F (l.getD i zU) (d+1)))):
  A0 prog 62 [.agg (Ai (.mk k key tx n had was has value l)),iD d] (iD (bif had&&F was !=0 then F was else bif (has ||(V ||Y))&&F value !=0 then F value else CD F l (d+1))):=by
 have w1:IntKind.i64.wrap (↑d+1)=↑d+1:=A9 Om Om;have b1:decide ((6:Int)<d)=false:=Df';rw[Ay] at N O|-;rw[A3] at k4 k5;simp only[GM.kind,GM.key,GM.to,GM.n,GM.had,GM.was,GM.has,GM.value,GM.list,A3 was,A3 value,A2d,A2h,A2c] at N O|-;generalize F was=fw at*;generalize F value=fv at*;generalize b2:(fw !=0)=x;generalize U:(fv !=0)=y;have C:∀b:Bool,b=true\/b=false:=Dq';rcases C had with a1|a1<;>rcases C x with a5|a5<;>rcases C has with a2|a2<;>rcases C V with a3|a3<;>rcases C Y with a4|a4<;>rcases C y with a6|a6<;>rw [a5] at b2<;>rw [a6] at U<;>rw [a3] at h1<;>rw [a4] at h5<;>simp only[a1,a2,a3,a4,a5,a6,Bool.true_and,Bool.false_and,Bool.true_or,A42,cond_true,cond_false,Bool.or_true,A43] at N O|- <;>
 (refine Zf [0] ?_
  (have z:=Za b1<|Za b2<|Za U<|Za h1 h5;push_cast[z]<;>repeat' (first|apply Zi<;>intro _|refine Zc N ?_|refine Zc O ?_|refine Zc k4 ?_|refine Zc k5 ?_|exact Zo|with_reducible apply Za)<;>push_cast[z])
  try
   refine Zl (λi=>i<=l.length/\∀j,j<i->BG F (l.getD j zU) (d+1)=0) (λi=>⟨[(7,iD i),(1,iD d),(2,.ptr [iD k,sD key,sD tx,iD n,bD had,iD was.kind,bD was.b,iD was.n,sD was.s,.slice (was.list.map A7) false,.slice (was.obj.map A8) false,bD has,iD value.kind,bD value.b,iD value.n,sD value.s,.slice (value.list.map A7) false,.slice (value.obj.map A8) false,.slice (l.map Ai) false] 0)],[],400⟩) (λi=>l.length-i) 0 Sq' ?_ λi hi=>?_
   ·rw[a1,a2];apply Zw<;>push_cast
   ·obtain⟨h1,h2⟩:=hi;push_cast;refine Ad (λZ=>?_) (λZ=>?_)
    ·have M:i<l.length:=by simpa using Z
     have e1:=EV M;have hr:=a0 i M;have a7:=Lj M h2;have w2:IntKind.i64.wrap (↑i+1)=↑i+1:=A9 Om Om;have oX:=Ax (l.getD i zU);generalize hx:l.getD i zU=x at*;by_cases hc:BG F x (d+1)=0
     ·rw[hc] at hr
      (have z:=Za e1<|Za w1 oX;push_cast[z]<;>repeat' (first|apply Zi<;>intro _|refine Zc (hr ..) ?_|exact Zo|with_reducible apply Za)<;>push_cast[z])
      all_goals first|omega|skip
      refine⟨i+1,⟨M,λj hj=>?_⟩,Om,?_⟩
      ·by_cases a8:j=i
       ·rw[a8,hx];exact hc
       ·exact h2 j Om
      ·apply Zw<;>push_cast;all_goals first|exact w2|skip
     ·have U:(BG F x (d+1) !=0)=true:=by simpa using hc
      rw[a7 hc];generalize BG F x (d+1)=c at*
      (have z:=Za e1<|Za w1<|Za U oX;push_cast[z]<;>repeat' (first|apply Zi<;>intro _|refine Zc (hr ..) ?_|exact Zo|with_reducible apply Za)<;>push_cast[z])
      all_goals first|omega|skip
    ·have M:i=l.length:=by simp at Z;omega
     subst M;rw[Py h2]
     (push_cast<;>repeat' (first|apply Zi<;>intro _|exact Zp|with_reducible apply Za)<;>push_cast))
def r_look(hF:∀v,Sm v->wtV v<=2097152->A0 prog 25 [.agg (A7 v)] (iD (F v)))(m:GM)(d:Nat)(hm:SmU m)(a3:wtU m<=2097152)(hd:d<=7):A0 prog 62 [.agg (Ai m),iD d] (iD (BG F m d)):=by
 have V:∀x,SizeOf.sizeOf x<SizeOf.sizeOf m->SmU x->wtU x<=2097152->d+1<=7->A0 prog 62 [.agg (Ai x),iD ((d:Int)+1)] (iD (BG F x (d+1))):=λx _ h1 N h2=>by
  have:=r_look hF x (d+1) h1 N h2;rwa[A3m] at this
 obtain⟨_,Y,Z,hk,ht,hl,hls⟩:=hm;have a4:=J4 m;have C:=r_mbare m;have M:=r_key m Om Om;have k4:=hF m.was Y Om;have k5:=hF m.value Z Om;have a0:AG m=false->m.has=true->m.kind=4:=λh h2=>by
  unfold AG at h;rw[h2] at h;by_cases N:m.kind=4
  ·exact N
  ·have e4:(m.kind==4)=false:=by simpa using N
   rw[e4] at h;revert h;cases(!m.had&& !BE m.was)<;>simp
   repeat' split
   all_goals simp_all
 have a1:d<=6->∀i,i<m.list.length->A0 prog 62 [.agg (Ai (m.list.getD i zU)),iD ((d:Int)+1)] (iD (BG F (m.list.getD i zU) (d+1))):=λO i hi=>
  V _ (GM.list_lt (Ae hi)) (hls _ (Ae hi)) (by have:=GC (Ae (d:=zU) hi);omega) Om
 rw[H2];cases hs:AG m with
 |true=>
  rw[hs] at C;rw[if_pos rfl];rw[Ay] at C|-;simp only[A3 m.was,A3 m.value,A2d,A2h,A2c] at C|-;refine Zf [0] ?_
  (have z:=trivial;push_cast<;>repeat' (first|apply Zi<;>intro _|refine Zc C ?_|exact Zp|with_reducible apply Za)<;>push_cast)
 |false=>
  rw[hs] at C;rw[if_neg Dq'];by_cases O:6<d
  ·rw[if_pos O];have b1:decide ((6:Int)<d)=true:=Dt';rw[Ay] at C|-;simp only[A3 m.was,A3 m.value,A2d,A2h,A2c] at C|-;refine Zf [0] ?_
   (have z:=b1;push_cast[z]<;>repeat' (first|apply Zi<;>intro _|refine Zc C ?_|exact Zo|with_reducible apply Za)<;>push_cast[z])
  ·rw[if_neg O];cases U:Ck m with
   |false=>
    rw[U] at M;rw[if_pos rfl];have b1:decide ((6:Int)<d)=false:=Df';rw[Ay] at C M|-;simp only[A3 m.was,A3 m.value,A2d,A2h,A2c] at C M|-;refine Zf [0] ?_
    (have z:=b1;push_cast[z]<;>repeat' (first|apply Zi<;>intro _|refine Zc C ?_|refine Zc M ?_|exact Zo|with_reducible apply Za)<;>push_cast[z])
   |true=>
    rw[U] at M;rw[if_neg Dq'];have a6:=a0 hs;have a2:=a1 Om;clear V hF a0 a1 hs U a4 a3 Y Z hk ht hls;obtain⟨k,key,tx,n,had,was,has,value,l⟩:=m;simp only[GM.kind,GM.key,GM.to,GM.n,GM.had,GM.was,GM.has,GM.value,GM.list] at*;have a5:d<=6:=Om;have:=r_lk (F:=F) k had has _ _ rfl rfl key tx n was value l d hl a5 C M k4 k5 a2;refine A0.res this ?_;have:∀x y:Int,x=y->Go.Ab.lo (iD x) (iD y):=λx y h=>h▸Av _;apply this;clear this C M k4 k5 a2;simp only[cond_eq_ite,A2i,A40,beq_iff_eq,bne_iff_ne,ne_eq];cases had<;>cases has<;>by_cases c1:k=1<;>by_cases c5:k=5<;>simp_all
termination_by SizeOf.sizeOf m
end
def Xb(m:GM)(hm:SmU m)(O:wtU m<=2097152)(U:AY m<=1099511627776):A0 prog 26 [.agg (Ai m)] (iD (Ec Ao m)):=by
 have C:=YF m U;have V:=Ax m;have M:=r_look (F:=Ao) M1 m 1 hm O Om;change A0 _ _ [_,iD 1] _ at M;unfold Ec;rw[Ay,A3 m.was,A3 m.value] at C M|-;simp only[A2d,A2h,A2c] at C M|-;by_cases N:64<AY m
 ·rw[if_pos N];have b1:decide ((64:Int)<(AY m:Nat))=true:=Dt';refine Zf [0] ?_
  (have z:=b1;push_cast[z]<;>repeat' (first|apply Zi<;>intro _|refine Zc C ?_|exact Zo|with_reducible apply Za)<;>push_cast[z])
 ·rw[if_neg N];have b1:decide ((64:Int)<(AY m:Nat))=false:=Df';refine Zf [0] ?_
  (have z:=b1;push_cast[z]<;>repeat' (first|apply Zi<;>intro _|refine Zc C ?_|refine Zc M ?_|exact Zo|with_reducible apply Za)<;>push_cast[z])
abbrev mB(l:Lga):Blk:=.rows [[.slice (l.map A8) false]] 1
def S7{α:Type}(l:List α)(n i:Nat)(h:l.length<=n+i):(l.drop i).take n=l.drop i:=A2g (by rw[A2t];omega)
def JF(l:Lga)(i n:Nat):(∀y ∈ (l.map A8).take i,y.length=7)/\(∀y ∈ ((l.map A8).drop i).take n,y.length=7)/\(∀y ∈ (l.map A8).take i,∀d ∈ y,AV d=true)/\(∀y ∈ ((l.map A8).drop i).take n,∀d ∈ y,AV d=true):=
 ⟨λy h=>Bs l y (A34 h),λy h=>Bs l y (A32 (A34 h)),λy h=>CL l y (A34 h),λy h=>CL l y (A32 (A34 h))⟩
def JI(l:Lga)(hn:l.length<=1048576):A4 prog 225 [AX l] [] (.ref 2 0 0 1) [(2,mB l)]:=by
 refine Zd [] ?_
 (push_cast<;>repeat' (first|apply Zi<;>intro _|exact Zp|with_reducible apply Za)<;>push_cast)
 all_goals first|omega|exact Bs _|exact CL l|(intro y C;cases C;done)|exact Jy _ _|skip
 refine Aq.trans (Aq.fzB (b:=48) rfl) ?_;push_cast[Ac];apply Zr [(2,64)] rfl<;>push_cast
def Jy{α:Type}(A:List α)(x:α):A.length+1=(A++[x]).length:=Sq'
def ins_has(l:Lga)(e:GE)(h:Cp l e.1=true):(l.map A8).take (AL l e.1)++[sD e.1::A7 e.2]++((l.map A8).drop (AL l e.1+1)).take (l.length-(AL l e.1+1))=(Fh l e).map A8:=by
 have hlt:=HF h;rw[S7 _ _ _ So',Fh,if_pos h,List.set_eq_take_append_cons_drop,if_pos hlt];simp[A3U,A44,Aj]
def ins_not(l:Lga)(e:GE)(h:Cp l e.1=false):(l.map A8).take (AL l e.1)++[sD e.1::A7 e.2]++((l.map A8).drop (AL l e.1)).take (l.length-AL l e.1)=(Fh l e).map A8:=by
 rw[S7 _ _ _ So',Fh,if_neg (by simp[h])];simp[DE,A3U,A44,Aj]
def cut_has(l:Lga)(k:Baa)(h:Cp l k=true):(l.map A8).take (AL l k)++((l.map A8).drop (AL l k+1)).take (l.length-(AL l k+1))=(Cr l (AL l k)).map A8:=by
 have hlt:=HF h;rw[S7 _ _ _ So',Cr];simp[A3U,A44]
def c_MPut(l:Lga)(e:GE)(hn:l.length<=1048575):A4 prog 295 [.ref 1 0 0 1,sD e.1,.agg (A7 e.2)] [(1,mB l)] (.tup []) [(1,mB (Fh l e))]:=by
 have M:=c_at l e.1 Om;have hp:=Sv l e.1;have N:=λi n=>(JF l i n).1;have O:=λi n=>(JF l i n).2.1;have U:=λi n=>(JF l i n).2.2.1;have V:=λi n=>(JF l i n).2.2.2;have Y:IntKind.i64.wrap (↑(AL l e.1)+1)=↑(AL l e.1)+1:=A9 Om Om;have Z:((AL l e.1:Int)+1).toNat=AL l e.1+1:=Om;cases hh:Cp l e.1 with
 |true=>
  rw[hh] at M;have hlt:=HF hh;refine Zd [] ?_
  (have z:=Za Y Z;push_cast[z]<;>repeat' (first|apply Zi<;>intro _|refine Zq M ?_ ?_|exact Zo|with_reducible apply Za)<;>push_cast[z])
  all_goals first|omega|exact N _ 0|exact O _ _|exact U _ 0|exact V _ _|exact Bs l|(intro y C;cases C;done)|exact Jy _ _|(intro y C;rw[A2b.1 C];exact H7 e)|(intro y C;rw[A2b.1 C];exact A2q.1 (BW e))|(simp only[A2x,A2t,A2a,A2k,A2l,A2r];omega)|skip
  rw[<-A2a,ins_has l e hh];refine Aq.trans (Aq.fzB (b:=312) (x:=.grow ((Fh l e).map A8) 7) rfl) ?_;push_cast[Ac];apply Zw<;>push_cast [Ac]
 |false=>
  rw[hh] at M;refine Zd [] ?_
  (have z:=Za Y Z;push_cast[z]<;>repeat' (first|apply Zi<;>intro _|refine Zq M ?_ ?_|exact Zo|with_reducible apply Za)<;>push_cast[z])
  all_goals first|omega|exact N _ 0|exact O _ _|exact U _ 0|exact V _ _|exact Bs l|(intro y C;cases C;done)|exact Jy _ _|(intro y C;rw[A2b.1 C];exact H7 e)|(intro y C;rw[A2b.1 C];exact A2q.1 (BW e))|(simp only[A2x,A2t,A2a,A2k,A2l,A2r];omega)|skip
  rw[<-A2a,ins_not l e hh];refine Aq.trans (Aq.fzB (b:=288) (x:=.grow ((Fh l e).map A8) 7) rfl) ?_;push_cast[Ac];apply Zw<;>push_cast [Ac]
def ZJ(l:Lga)(k:Baa)(hn:l.length<=1048575)(h:Cp l k=false):A4 prog 226 [.ref 1 0 0 1,sD k] [(1,mB l)] (bD false) [(1,mB l)]:=by
 have C:=c_at l k Om;rw[h] at C;refine Zd [] ?_
 (have z:=trivial;push_cast<;>repeat' (first|apply Zi<;>intro _|refine Zq C ?_ ?_|exact Zp|with_reducible apply Za)<;>push_cast)<;>try omega
 apply Zw<;>push_cast
def ZI(l:Lga)(k:Baa)(hn:l.length<=1048575)(h:Cp l k=true):A4 prog 226 [.ref 1 0 0 1,sD k] [(1,mB l)] (bD true) [(1,mB (Cr l (AL l k)))]:=by
 have C:=c_at l k Om;rw[h] at C;have hlt:=HF h;have M:=λi n=>(JF l i n).1;have N:=λi n=>(JF l i n).2.1;have O:=λi n=>(JF l i n).2.2.1;have U:=λi n=>(JF l i n).2.2.2;have V:IntKind.i64.wrap (↑(AL l k)+1)=↑(AL l k)+1:=A9 Om Om;have Y:((AL l k:Int)+1).toNat=AL l k+1:=Om;refine Zd [] ?_
 (have z:=Za V Y;push_cast[z]<;>repeat' (first|apply Zi<;>intro _|refine Zq C ?_ ?_|exact Zo|with_reducible apply Za)<;>push_cast[z])
 all_goals first|omega|exact M _ 0|exact N _ _|exact O _ 0|exact U _ _|exact Bs l|(intro y Z;cases Z;done)|exact Jy _ _|(simp only[A2x,A2t,A2a,A2k,A2l,A2r];omega)|skip
 rw[<-A2a,cut_has l k h];refine Aq.trans (Aq.fzB (b:=208) (x:=.grow ((Cr l (AL l k)).map A8) 7) rfl) ?_;push_cast[Ac];apply Zw<;>push_cast [Ac]
def begS_ext(k p:Baa)(h:p.size<=k.size):Cn k p=decide (k.extract 0 p.size=p):=by
 have C:k.size=k.data.toList.length:=rfl;have hp:p.size=p.data.toList.length:=rfl;have e:(k.extract 0 p.size).data.toList=k.data.toList.take p.size:=by
  rw[A3E,A3O];simp[List.extract]
 unfold Cn Lib.hasPrefix;rw[Bool.eq_iff_iff,decide_eq_true_eq,List.isPrefixOf_iff_prefix,List.prefix_iff_eq_take];constructor
 ·intro h;apply MD;show(k.extract 0 p.size).data.toList=p.data.toList;rw[e,hp];exact h.symm
 ·intro h;have:=congrArg (λx:Baa=>x.data.toList) h;change(k.extract 0 p.size).data.toList=p.data.toList at this;rw[e,hp] at this;exact this.symm
def UH(k p:Baa)(C:k.size<=4611686018427387904):A0 prog 294 [sD k,sD p] (bD (Cn k p)):=by
 refine Zf [] ?_;rcases A2z k.size p.size with h|h
 ·have b1:decide ((p.size:Int)<=k.size)=false:=Df';have e:Cn k p=false:=by
   cases hb:Cn k p with
   |false=>rfl
   |true=>
    unfold Cn Lib.hasPrefix at hb;have:=(List.isPrefixOf_iff_prefix.1 hb).length_le;have C:k.size=k.data.toList.length:=rfl;have hp:p.size=p.data.toList.length:=rfl;omega
  rw[e]
  (have z:=b1;push_cast[z]<;>repeat' (first|apply Zi<;>intro _|exact Zo|with_reducible apply Za)<;>push_cast[z])
 ·have b1:decide ((p.size:Int)<=k.size)=true:=Dt';rw[begS_ext k p h]
  (have z:=b1;push_cast[z]<;>repeat' (first|apply Zi<;>intro _|exact Zo|with_reducible apply Za)<;>push_cast[z])<;>try omega
def c_MCopyB(l:Lga)(hn:l.length<=1048576):A4 prog 225 [.ref 1 0 0 1] [(1,mB l)] (.ref 2 0 0 1) [(1,mB l),(2,mB l)]:=by
 refine Zd [] ?_
 (push_cast<;>repeat' (first|apply Zi<;>intro _|exact Zp|with_reducible apply Za)<;>push_cast)
 all_goals first|omega|exact Bs _|exact CL l|(intro y C;cases C;done)|exact Jy _ _|skip
 refine Aq.trans (Aq.fzB (b:=48) rfl) ?_;push_cast[Ac];apply Zr [(2,64)] rfl<;>push_cast
def UF(l:Lga)(hn:l.length<=1048576):A4 prog 290 [AX l] [] (.ref 4 0 0 2) [(2,mB l),(4,.rows [[.ref 2 0 0 1,.slice [] true]] 2)]:=by
 have M:=JI l hn;have C:=Ac l;refine Zd [] ?_
 (have z:=C;push_cast[z]<;>repeat' (first|apply Zi<;>intro _|refine Zs [] M ?_|exact Zo|with_reducible apply Za)<;>push_cast[z])
 apply Zr [(2,26),(4,40)] rfl<;>push_cast [C]
def YI(l:Lga)(e:GE)(hn:l.length<=1048575)(N:e.1.size<=4611686018427387904)(f:Int)(hF:A0 prog 25 [.agg (A7 e.2)] (iD f))(h0:BM f e.1≠0):
  A4 prog 291 [.ref 1 0 0 2,sD e.1,.agg (A7 e.2)] [(1,.rows [[.ref 3 0 0 1,.slice [] true]] 2),(3,mB l)] (iD (BM f e.1)) [(1,.rows [[.ref 3 0 0 1,.slice [] true]] 2),(3,mB l)]:=by
 have M:=L7 e.1 N;have C:=Ac l;unfold BM at h0|-;rw[A3] at hF|-;by_cases hc:Ce e.1=0
 ·rw[if_pos hc] at h0|-;rw[hc] at M;have b1:(f !=0)=true:=by simpa using h0
  refine Zd [8] ?_
  (have z:=Za C b1;push_cast[z]<;>repeat' (first|apply Zi<;>intro _|refine Zc M ?_|refine Zc hF ?_|exact Zo|with_reducible apply Za)<;>push_cast[z])
  apply Zw<;>push_cast [C]
 ·rw[if_neg hc];have b1:(Ce e.1 !=0)=true:=by simpa using hc
  refine Zd [8] ?_
  (have z:=Za C b1;push_cast[z]<;>repeat' (first|apply Zi<;>intro _|refine Zc M ?_|exact Zo|with_reducible apply Za)<;>push_cast[z])
  apply Zw<;>push_cast [C]
def YH(l:Lga)(e:GE)(hn:l.length<=1048575)(U:e.1.size<=4611686018427387904)(hF:A0 prog 25 [.agg (A7 e.2)] (iD 0))(h0:Ce e.1=0):
  A4 prog 291 [.ref 1 0 0 2,sD e.1,.agg (A7 e.2)] [(1,.rows [[.ref 3 0 0 1,.slice [] true]] 2),(3,mB l)] (iD 0) [(1,.rows [[.ref 3 0 0 1,.gref 2 1]] 2),(2,.grow [[.ref 4 0 0 1]] 1),(4,mB l),(3,mB (Fh l e))]:=by
 have M:=L7 e.1 U;rw[h0] at M;have V:=c_MCopyB l Om;have hP:=c_MPut l e hn;have N:=Ac l;have oI:=Ac (Fh l e);rw[A3] at hF hP|-;refine Zd [8] ?_
 (have z:=Za N oI;push_cast[z]<;>repeat' (first|apply Zi<;>intro _|refine Zc M ?_|refine Zc hF ?_|refine Zs [(1,3)] V ?_|refine Zs [(1,3)] hP ?_|exact Zo|with_reducible apply Za)<;>push_cast[z])
 all_goals first|(intro y C;cases C;done)|(intro y C;cases A2b.1 C;rfl)|(intro y C d O;cases C;done)|(intro y C d O;cases A2b.1 C;cases A2b.1 O;rfl)|skip
 apply Zr [(2,176),(4,162)] rfl<;>push_cast [N,oI]
def r_put(l:Lga)(k:Baa)(v:GV)(hn:l.length<=1048575)(N:k.size<=4611686018427387904)(f:Int)(hF:A0 prog 25 [.agg (A7 v)] (iD f)):
  A0 prog 224 [AX l,sD k,.agg (A7 v)] (.tup [AX (if BM f k=0 then Fh l (k,v) else l),iD (BM f k)]):=by
 have O:=UF l Om;have C:=Ac l;by_cases h0:BM f k=0
 ·rw[if_pos h0,h0];unfold BM at h0;by_cases M:Ce k=0
  ·rw[if_pos M] at h0;rw[h0] at hF;have hP:=YH l (k,v) hn N hF M;have oI:=Ac (Fh l (k,v));simp only at hP;rw[A3] at hP|-;generalize Fh l (k,v)=L at*;refine A0.of_awpW func224 rfl ntmps224 Kq' Sq' (congrArg Array.toList results224) ?_;refine Bh.seqV [0] mixed Kq' ?_
   (have z:=C;push_cast[z]<;>repeat' (first|apply Zi<;>intro _|exact Zo|with_reducible apply Za)<;>push_cast[z])
   refine Bh.seqV [] mixed Kq' ?_
   (have z:=C;push_cast[z]<;>repeat' (first|apply Zi<;>intro _|refine Zs [] O ?_|exact Zo|with_reducible apply Za)<;>push_cast[z])
   refine Bh.seqV [] mixed Kq' ?_
   (have z:=Za C oI;push_cast[z]<;>repeat' (first|apply Zi<;>intro _|refine Zs [(1,36),(3,34)] hP ?_|exact Zo|with_reducible apply Za)<;>push_cast[z])
   refine Bh.vc [34] mixed Kq' ?_
   (have z:=Za C oI;push_cast[z]<;>repeat' (first|apply Zi<;>intro _|exact Zo|with_reducible apply Za)<;>push_cast[z])
  ·rw[if_neg M] at h0;exact absurd h0 Dq'
 ·rw[if_neg h0];have hP:=YI l (k,v) hn N f hF h0;simp only at hP;rw[A3] at hP|-;generalize BM f k=c at*;refine A0.of_awpW func224 rfl ntmps224 Kq' Sq' (congrArg Array.toList results224) ?_;refine Bh.seqV [0] mixed Kq' ?_
  (have z:=C;push_cast[z]<;>repeat' (first|apply Zi<;>intro _|exact Zo|with_reducible apply Za)<;>push_cast[z])
  refine Bh.seqV [] mixed Kq' ?_
  (have z:=C;push_cast[z]<;>repeat' (first|apply Zi<;>intro _|refine Zs [] O ?_|exact Zo|with_reducible apply Za)<;>push_cast[z])
  refine Bh.seqV [] mixed Kq' ?_
  (have z:=C;push_cast[z]<;>repeat' (first|apply Zi<;>intro _|refine Zs [(1,36),(3,34)] hP ?_|exact Zo|with_reducible apply Za)<;>push_cast[z])
  refine Bh.vc [34] mixed Kq' ?_
  (have z:=C;push_cast[z]<;>repeat' (first|apply Zi<;>intro _|exact Zo|with_reducible apply Za)<;>push_cast[z])
def r_putS(l:Lga)(k:Baa)(v:GV)(hn:l.length<=1048575)(N:k.size<=4611686018427387904)(f:Int)(hF:A0 prog 25 [.agg (A7 v)] (iD f)):
  A4 prog 224 [AX l,sD k,.agg (A7 v)] [] (.tup [AX (if BM f k=0 then Fh l (k,v) else l),iD (BM f k)]) []:=by
 have O:=UF l Om;have C:=Ac l;by_cases h0:BM f k=0
 ·rw[if_pos h0,h0];unfold BM at h0;by_cases M:Ce k=0
  ·rw[if_pos M] at h0;rw[h0] at hF;have hP:=YH l (k,v) hn N hF M;have oI:=Ac (Fh l (k,v));simp only at hP;rw[A3] at hP|-;generalize Fh l (k,v)=L at*;refine A4.of_awpW func224 rfl ntmps224 Kq' Sq' (congrArg Array.toList results224) ?_;refine Bh.seqV [8] mixed Kq' ?_
   (have z:=C;push_cast[z]<;>repeat' (first|apply Zi<;>intro _|exact Zo|with_reducible apply Za)<;>push_cast[z])
   refine Bh.seqV [] mixed Kq' ?_
   (have z:=C;push_cast[z]<;>repeat' (first|apply Zi<;>intro _|refine Zs [] O ?_|exact Zo|with_reducible apply Za)<;>push_cast[z])
   refine Bh.seqV [] mixed Kq' ?_
   (have z:=Za C oI;push_cast[z]<;>repeat' (first|apply Zi<;>intro _|refine Zs [(1,44),(3,42)] hP ?_|exact Zo|with_reducible apply Za)<;>push_cast[z])
   refine Bh.vc [42] mixed Kq' ?_
   (have z:=Za C oI;push_cast[z]<;>repeat' (first|apply Zi<;>intro _|exact Zo|with_reducible apply Za)<;>push_cast[z])
   apply Zw<;>push_cast [oI]
  ·rw[if_neg M] at h0;exact absurd h0 Dq'
 ·rw[if_neg h0];have hP:=YI l (k,v) hn N f hF h0;simp only at hP;rw[A3] at hP|-;generalize BM f k=c at*;refine A4.of_awpW func224 rfl ntmps224 Kq' Sq' (congrArg Array.toList results224) ?_;refine Bh.seqV [8] mixed Kq' ?_
  (have z:=C;push_cast[z]<;>repeat' (first|apply Zi<;>intro _|exact Zo|with_reducible apply Za)<;>push_cast[z])
  refine Bh.seqV [] mixed Kq' ?_
  (have z:=C;push_cast[z]<;>repeat' (first|apply Zi<;>intro _|refine Zs [] O ?_|exact Zo|with_reducible apply Za)<;>push_cast[z])
  refine Bh.seqV [] mixed Kq' ?_
  (have z:=C;push_cast[z]<;>repeat' (first|apply Zi<;>intro _|refine Zs [(1,44),(3,42)] hP ?_|exact Zo|with_reducible apply Za)<;>push_cast[z])
  refine Bh.vc [42] mixed Kq' ?_
  (have z:=C;push_cast[z]<;>repeat' (first|apply Zi<;>intro _|exact Zo|with_reducible apply Za)<;>push_cast[z])
  apply Zw<;>push_cast [C]
def ovf_ref(n d:Int)(h1: -9223372036854775808<=n)(h2:n<=9223372036854775807)(M: -9223372036854775808<=d)(N:d<=9223372036854775807):ovf n d=((decide (0<d)&&decide (9223372036854775807-d<n)) ||(decide (d<0)&&decide (n< -9223372036854775808-d))):=by
 unfold ovf;have e:(-9223372036854775808<=n+d/\n+d<=9223372036854775807/\IntKind.i64.wrap (n+d)=n+d)\/(9223372036854775807<n+d/\IntKind.i64.wrap (n+d)=n+d-18446744073709551616)\/(n+d< -9223372036854775808/\IntKind.i64.wrap (n+d)=n+d+18446744073709551616):=by
  simp only[IntKind.wrap,IntKind.bits,IntKind.signed];simp;omega
 rw[Bool.eq_iff_iff];simp only[A40,A2i,decide_eq_true_eq];rcases e with⟨C,O,e⟩|⟨C,e⟩|⟨C,e⟩<;>rw [e]<;>omega
section
variable{L:Lga}(hs:Srt L)(hn:L.length<=1048575)
include hs hn
theorem YJ(k:Baa):A0 prog 293 [AX L,sD k] (.tup [.agg (A7 (AR (Am k L))),.val (.bool (Am k L).isSome)]):=by
 have h:=c_Get L k Om;have e:=T5 k L hs;rw[<-e];cases hh:Cp L k with
 |true=>rw [hh] at h;simpa[AR] using h
 |false=>rw [hh] at h;simpa[AR] using h
theorem r_As(k:Baa)(N:Bool)(was:GV):A0 prog 228 [AX L,sD k,bD N,.agg (A7 was)] (bD (((Am k L).isSome==N)&&(!(Am k L).isSome ||(J2 (AR (Am k L)) was==0)))):=by
 have C:=YJ hs hn k;have M:=EY (AR (Am k L)) was;have O:=Ac L;generalize AR (Am k L)=v at*;generalize(Am k L).isSome=x at*;generalize J2 v was=c at*;rw[A3] at C;rw[A3 v,A3 was] at M;rw[A3 was];refine Zk [0,32] λH Hb=>?_
 (have z:=O;push_cast[z]<;>repeat' (first|apply Zi<;>intro _|refine Zc C ?_|refine Zc M ?_|exact Zo|with_reducible apply Za)<;>push_cast[z])
 all_goals(clear C M H Hb;simp_all)
omit hs in
theorem Sr(k:Baa)(v:GV)(C:k.size<=4611686018427387904)(f:Int)(hF:A0 prog 25 [.agg (A7 v)] (iD f)):
  A0 prog 224 [AX L,sD k,.agg (A7 v)] (.tup [AX (if BM f k=0 then B4 (k,v) L else L),iD (BM f k)]):=by
 have h:=r_put L k v hn C f hF;rwa[Lo] at h
theorem r_inc(k:Baa)(d:Int)(hk:k.size<=4611686018427387904)(h3: -9223372036854775808<=d)(h4:d<=9223372036854775807)(hv:Sm (AR (Am k L)))(f:Int)(hF:A0 prog 25 [.agg (A7 (Es L k d))] (iD f)):
  A0 prog 227 [AX L,sD k,iD d] (.tup [AX (if Gv L k d f=0 then B4 (k,Es L k d) L else L),iD (Gv L k d f)]):=by
 have N:=YJ hs hn k;have hP:=Sr hn k (Es L k d) hk f hF;have U:=Ac L;have a0:=Ac (if BM f k=0 then B4 (k,Es L k d) L else L);have Y:=hP.lo (ds':=[AX L,sD k,.agg [iD 3,bD false,.val (.int .i64 (Es L k d).n),sD bea,.slice [] true,.slice [] true]]) (by
  rw[A3];exact⟨Av _,Av _,⟨Av _,Av _,Av _,Av _,⟨trivial,λe=>by cases e⟩,⟨trivial,λe=>by cases e⟩,trivial⟩,trivial⟩)
 have a6:(Es L k d).n=IntKind.i64.wrap ((AR (Am k L)).n+d):=rfl;rw[a6] at Y;have hz:(Am k L).isSome=false->(AR (Am k L)).n=0:=λh=>by
  cases hg:Am k L with
  |none=>rfl
  |some v=>rw [hg] at h;cases h
 have O:=ovf_ref (AR (Am k L)).n d hv.int.1 hv.int.2 h3 h4;have wa:0<d->IntKind.i64.wrap (9223372036854775807-d)=9223372036854775807-d:=λh=>A9 Om Om;have wb:d<0->IntKind.i64.wrap (-9223372036854775808-d)= -9223372036854775808-d:=λh=>A9 Om Om;have a8:(Am k L).isSome=true->(AR (Am k L)).kind≠3->Gv L k d f=9:=λh1 h2=>by unfold Gv;rw[if_pos ⟨h1,h2⟩]
 have a4:((Am k L).isSome=true->(AR (Am k L)).kind=3)->ovf (AR (Am k L)).n d=true->Gv L k d f=7:=λh1 h2=>by unfold Gv;rw[if_neg (λh=>h.2 (h1 h.1)),if_pos h2]
 have a1:((Am k L).isSome=true->(AR (Am k L)).kind=3)->ovf (AR (Am k L)).n d=false->Gv L k d f=BM f k:=λh1 h2=>by unfold Gv;rw[if_neg (λh=>h.2 (h1 h.1)),if_neg (by rw[h2];decide)]
 generalize Gv L k d f=ic at*;generalize Es L k d=iv at*;clear hP a6 hF;generalize AR (Am k L)=v at*;generalize(Am k L).isSome=x at*;rw[A3] at N;cases x with
 |true=>
  by_cases a5:v.kind=3
  ·have b1:(v.kind !=3)=false:=by simpa using a5
   have V:true=true->v.kind=3:=λ_=>a5;by_cases Z:0<d
   ·have b2:decide (0<d)=true:=decide_eq_true Z;have C:decide (d<0)=false:=Df';have a2:=wa Z;cases M:decide (9223372036854775807-d<v.n) with
    |true=>
     rw[a4 V (by rw[O,b2,C,M];rfl)];rw[if_neg Dq'];refine Zf [32] ?_
     (have z:=Za U<|Za b1<|Za b2<|Za C<|Za a2 M;push_cast[z]<;>repeat' (first|apply Zi<;>intro _|refine Zc N ?_|exact Zo|with_reducible apply Za)<;>push_cast[z])
    |false=>
     rw[a1 V (by rw[O,b2,C,M];rfl)];generalize(if BM f k=0 then B4 (k,iv) L else L)=L2 at*;refine Zf [32] ?_
     (have z:=Za U<|Za a0<|Za b1<|Za b2<|Za C<|Za a2 M;push_cast[z]<;>repeat' (first|apply Zi<;>intro _|refine Zc N ?_|refine Zc (Y ..) ?_|exact Zo|with_reducible apply Za)<;>push_cast[z])
   ·have b2:decide (0<d)=false:=decide_eq_false Z;by_cases d2:d<0
    ·have C:decide (d<0)=true:=decide_eq_true d2;have a3:=wb d2;cases M:decide (v.n< -9223372036854775808-d) with
     |true=>
      rw[a4 V (by rw[O,b2,C,M];rfl)];rw[if_neg Dq'];refine Zf [32] ?_
      (have z:=Za U<|Za b1<|Za b2<|Za C<|Za a3 M;push_cast[z]<;>repeat' (first|apply Zi<;>intro _|refine Zc N ?_|exact Zo|with_reducible apply Za)<;>push_cast[z])
     |false=>
      rw[a1 V (by rw[O,b2,C,M];rfl)];generalize(if BM f k=0 then B4 (k,iv) L else L)=L2 at*;refine Zf [32] ?_
      (have z:=Za U<|Za a0<|Za b1<|Za b2<|Za C<|Za a3 M;push_cast[z]<;>repeat' (first|apply Zi<;>intro _|refine Zc N ?_|refine Zc (Y ..) ?_|exact Zo|with_reducible apply Za)<;>push_cast[z])
    ·have C:decide (d<0)=false:=decide_eq_false d2;rw[a1 V (by rw[O,b2,C];rfl)];generalize(if BM f k=0 then B4 (k,iv) L else L)=L2 at*;refine Zf [32] ?_
     (have z:=Za U<|Za a0<|Za b1<|Za b2 C;push_cast[z]<;>repeat' (first|apply Zi<;>intro _|refine Zc N ?_|refine Zc (Y ..) ?_|exact Zo|with_reducible apply Za)<;>push_cast[z])
  ·have b1:(v.kind !=3)=true:=by simpa using a5
   rw[a8 rfl a5,if_neg Dq'];refine Zf [32] ?_
   (have z:=Za U b1;push_cast[z]<;>repeat' (first|apply Zi<;>intro _|refine Zc N ?_|exact Zo|with_reducible apply Za)<;>push_cast[z])
 |false=>
  have V:false=true->v.kind=3:=λh=>by cases h
  have a7:=hz rfl;rw[a7] at Y O;rw[Int.zero_add] at Y;have wd:IntKind.i64.wrap d=d:=A9 Om Om;rw[wd] at Y;have z0:IntKind.i64.wrap (0+d)=d:=by rw[Int.zero_add,wd]
  have a9:ovf v.n d=ovf 0 d:=by rw[a7]
  rw[<-a9] at O;by_cases Z:0<d
  ·have b2:decide (0<d)=true:=decide_eq_true Z;have C:decide (d<0)=false:=Df';have a2:=wa Z;cases M:decide (9223372036854775807-d<0) with
   |true=>
    rw[a4 V (by rw[O,b2,C,M];rfl)];rw[if_neg Dq'];refine Zf [32] ?_
    (have z:=Za U<|Za wd<|Za z0<|Za b2<|Za C<|Za a2 M;push_cast[z]<;>repeat' (first|apply Zi<;>intro _|refine Zc N ?_|exact Zo|with_reducible apply Za)<;>push_cast[z])
   |false=>
    rw[a1 V (by rw[O,b2,C,M];rfl)];generalize(if BM f k=0 then B4 (k,iv) L else L)=L2 at*;refine Zf [32] ?_
    (have z:=Za U<|Za a0<|Za wd<|Za z0<|Za b2<|Za C<|Za a2 M;push_cast[z]<;>repeat' (first|apply Zi<;>intro _|refine Zc N ?_|refine Zc (Y ..) ?_|exact Zo|with_reducible apply Za)<;>push_cast[z])
  ·have b2:decide (0<d)=false:=decide_eq_false Z;by_cases d2:d<0
   ·have C:decide (d<0)=true:=decide_eq_true d2;have a3:=wb d2;cases M:decide (0< -9223372036854775808-d) with
    |true=>
     rw[a4 V (by rw[O,b2,C,M];rfl)];rw[if_neg Dq'];refine Zf [32] ?_
     (have z:=Za U<|Za wd<|Za z0<|Za b2<|Za C<|Za a3 M;push_cast[z]<;>repeat' (first|apply Zi<;>intro _|refine Zc N ?_|exact Zo|with_reducible apply Za)<;>push_cast[z])
    |false=>
     rw[a1 V (by rw[O,b2,C,M];rfl)];generalize(if BM f k=0 then B4 (k,iv) L else L)=L2 at*;refine Zf [32] ?_
     (have z:=Za U<|Za a0<|Za wd<|Za z0<|Za b2<|Za C<|Za a3 M;push_cast[z]<;>repeat' (first|apply Zi<;>intro _|refine Zc N ?_|refine Zc (Y ..) ?_|exact Zo|with_reducible apply Za)<;>push_cast[z])
   ·have C:decide (d<0)=false:=decide_eq_false d2;rw[a1 V (by rw[O,b2,C];rfl)];generalize(if BM f k=0 then B4 (k,iv) L else L)=L2 at*;refine Zf [32] ?_
    (have z:=Za U<|Za a0<|Za wd<|Za z0<|Za b2 C;push_cast[z]<;>repeat' (first|apply Zi<;>intro _|refine Zc N ?_|refine Zc (Y ..) ?_|exact Zo|with_reducible apply Za)<;>push_cast[z])
end
section
variable{L:Lga}(hs:Srt L)(hn:L.length<=1048575)
include hs hn
theorem r_add(k:Baa)(w:GV)(hk:k.size<=4611686018427387904)(hv:Sm (AR (Am k L)))(f:Int)(hF:A0 prog 25 [.agg (A7 (DC L k w))] (iD f)):
  A0 prog 229 [AX L,sD k,.agg (A7 w)] (.tup [AX (if HT L k f=0 then B4 (k,DC L k w) L else L),iD (HT L k f)]):=by
 have U:=YJ hs hn k;have hP:=r_putS L k (DC L k w) hn hk f hF;rw[Lo] at hP;have N:=Ac L;have a3:=Ac (if BM f k=0 then B4 (k,DC L k w) L else L);have oS:Aa ((AR (Am k L)).list.map A7++[A7 w])=true:=by
  rw[show(AR (Am k L)).list.map A7++[A7 w]=((AR (Am k L)).list++[w]).map A7 by simp];exact Aw Bn _
 have V:A4 prog 224 [AX L,sD k,.agg [iD 5,bD false,iD 0,sD bea,.gref 3 ((AR (Am k L)).list.length+1),.slice [] true]] [(3,.grow ((AR (Am k L)).list.map A7++[A7 w]) 6)]
   (.tup [AX (if BM f k=0 then B4 (k,DC L k w) L else L),iD (BM f k)]) []:=by
  generalize(if BM f k=0 then B4 (k,DC L k w) L else L)=L2 at*;rw[A3] at hP;have e1:(DC L k w).list.map A7=(AR (Am k L)).list.map A7++[A7 w]:=by simp[DC,GV.list]
  have e2:(DC L k w).obj.map A8=[]:=by simp[DC,GV.obj]
  rw[e1,e2] at hP;simp only[DC,GV.kind,GV.b,GV.n,GV.s] at hP;refine A4.weakIn ?_ ?_ hP
  ·rfl
  ·refine Aq.trans (Aq.fzB (b:=3) (x:=.grow ((AR (Am k L)).list.map A7++[A7 w]) 6) rfl) ?_;have l0:(AR (Am k L)).list.length+1=((AR (Am k L)).list.map A7++[A7 w]).length:=Sq';rw[l0];push_cast[N,oS];apply Zw<;>push_cast [N,oS,Bp];all_goals first|exact λh=>h.elim|skip
 have a8:(Am k L).isSome=true->(AR (Am k L)).kind≠5->HT L k f=9:=λh1 h2=>by unfold HT;rw[if_pos ⟨h1,h2⟩]
 have a9:((Am k L).isSome=true->(AR (Am k L)).kind=5)->256<=(AR (Am k L)).list.length->HT L k f=6:=λh1 h2=>by unfold HT;rw[if_neg (λh=>h.2 (h1 h.1)),if_pos h2]
 have a4:((Am k L).isSome=true->(AR (Am k L)).kind=5)->¬256<=(AR (Am k L)).list.length->HT L k f=BM f k:=λh1 h2=>by unfold HT;rw[if_neg (λh=>h.2 (h1 h.1)),if_neg h2]
 have hz:(Am k L).isSome=false->(AR (Am k L)).list=[]:=λh=>by
  cases hg:Am k L with
  |none=>rfl
  |some v=>rw [hg] at h;cases h
 generalize HT L k f=ic at*;generalize DC L k w=iv at*;clear hP hF;have aa:=hv.list_le;generalize AR (Am k L)=v at*;generalize(Am k L).isSome=x at*;rw[A3] at U;have Y:=Bn w;have O:=AH w;have wt:=GG w;have a2:∀d ∈ A7 w,AV d=true:=λd M=>by
  rw[A3] at M;simp only[A2s,A3b,or_false] at M;rcases M with rfl|rfl|rfl|rfl|rfl|rfl<;>rfl
 have Z:(A7 w).all AV=true:=A2q.2 a2;have a5:∀y ∈ v.list.map A7,y.length=6:=λy C=>by obtain⟨x,_,rfl⟩:=A2p.1 C;exact AH x
 have ol:=E8 v.list;cases x with
 |true=>
  by_cases a0:v.kind=5
  ·have b1:(v.kind !=5)=false:=by simpa using a0
   have a1:true=true->v.kind=5:=λ_=>a0;by_cases a6:256<=v.list.length
   ·have b2:decide ((256:Int)<=v.list.length)=true:=Dt';rw[a9 a1 a6,if_neg Dq'];generalize A7 w=W at*;refine Zf [0,32] ?_
    (have z:=Za N<|Za b1<|Za b2<|Za Y<|Za O<|Za wt<|Za @Z ol;push_cast[z]<;>repeat' (first|apply Zi<;>intro _|refine Zc U ?_|exact Zo|with_reducible apply Za)<;>push_cast[z])
    all_goals first|omega|exact a5|(intro y C;cases C;done)|skip
   ·have b2:decide ((256:Int)<=v.list.length)=false:=Df';rw[a4 a1 a6];generalize(if BM f k=0 then B4 (k,iv) L else L)=L2 at*;generalize A7 w=W at*;refine Zf [0,32] ?_
    (have z:=Za N<|Za a3<|Za b1<|Za b2<|Za Y<|Za O<|Za wt<|Za @Z ol;push_cast[z]<;>repeat' (first|apply Zi<;>intro _|refine Zc U ?_|refine Zs [(3,240)] (V ..) ?_|exact Zo|with_reducible apply Za)<;>push_cast[z])
    all_goals first|omega|exact a5|(intro y C;cases C;done)|(intro y C;cases A2b.1 C;exact O)|(intro y C d M;cases A2b.1 C;exact a2 d M)|skip
  ·have b1:(v.kind !=5)=true:=by simpa using a0
   rw[a8 rfl a0,if_neg Dq'];generalize A7 w=W at*;refine Zf [0,32] ?_
   (have z:=Za N<|Za b1<|Za Y<|Za O<|Za wt @Z;push_cast[z]<;>repeat' (first|apply Zi<;>intro _|refine Zc U ?_|exact Zo|with_reducible apply Za)<;>push_cast[z])
 |false=>
  have a1:false=true->v.kind=5:=λh=>by cases h
  have a7:=hz rfl;rw[a7] at V;rw[a4 a1 (by rw[a7];simp)];generalize(if BM f k=0 then B4 (k,iv) L else L)=L2 at*;simp only[A2E,A2h,A2r,A3T] at V;generalize A7 w=W at*;refine Zf [0,32] ?_
  (have z:=Za N<|Za a3<|Za Y<|Za O<|Za wt @Z;push_cast[z]<;>repeat' (first|apply Zi<;>intro _|refine Zc U ?_|refine Zs [(3,176)] (V ..) ?_|exact Zo|with_reducible apply Za)<;>push_cast[z])
  all_goals first|omega|(intro y C;cases C;done)|(intro y C;cases A2b.1 C;exact O)|(intro y C d M;cases C;done)|(intro y C d M;cases A2b.1 C;exact a2 d M)|skip
end
def UM:∀ {l:Lga} {e:GE},(∀x ∈ l,ltS x.1 e.1=true)->B4 e l=l++[e]
 |[],_,_=>rfl
 |x::l,e,h=>by
  simp only[B4];rw[if_pos (h x Sq'),UM λy C=>h y (by simp[C])];rfl
def Vm(k:Baa)(L:Lga):(Am k L).isSome=D9 k L:=by
 unfold Am D9;rw[Option.isSome_map]
 induction L with
 |nil=>rfl
 |cons x L C=>
  simp only[List.find?_cons,List.any_cons];cases decide (x.1=k)<;>simp [C]
def V4{p t:Baa}{L:Lga}{e:GE}{b:Lga}:∀ {a:Lga},(∀x ∈ a,mvF p t L x=0)->mvF p t L e≠0->(Hx p t L (a++e::b)).1=mvF p t L e
 |[],_,h=>by rw[A2h,Le,if_pos h]
 |x::a,h0,h=>by
  rw[A2d,Le,if_neg (by simp[h0 x Sq'])];exact V4 (a:=a) (λy C=>h0 y (by simp[C])) h
def Ux(k p:Baa)(h:Cn k p=true):Jj k p=k.extract p.size k.size:=by
 have hl:k.data.toList.length=k.size:=rfl;have hp:p.size=p.data.toList.length:=rfl;unfold Cn at h;unfold Jj Lib.trimPrefix;rw[if_pos h];apply ByteArray.ext;rw[A3E];apply Array.ext';rw[A3O];show _=(k.data.toList.drop p.size).take (k.size-p.size);rw[A2g (by rw[A2t];omega),hp]
def A22{p:Baa}{i:Nat}(hi:i<L.length):BK p (L.take (i+1))=BK p (L.take i)++(if Cn (L.getD i zM).1 p then [L.getD i zM] else [])/\EJ p (L.take (i+1))=EJ p (L.take i)++(if Cn (L.getD i zM).1 p then [] else [L.getD i zM]):=by
 have e:L[i]=L.getD i zM:=by rw[A29,A2f hi];rfl
 unfold BK EJ;rw[A2J hi,A3y,A3y,e];generalize L.getD i zM=x at*;cases hb:Cn x.1 p<;>simp [hb,List.filter_cons]
def Yg{p:Baa}{i:Nat}(hi:i<L.length)(hb:Cn (L.getD i zM).1 p=true):BK p L=BK p (L.take i)++L.getD i zM::BK p (L.drop (i+1)):=by
 conv=>lhs;rw[<-A2O i L,C7 (d:=zM) hi]
 unfold BK;rw[A3y,List.filter_cons,if_pos hb]
def r_move(L:Lga)(h:VOk L)(hn:L.length<=100000)(p t:Baa)(hp:p.size<=1048576)(ht:t.size<=1048576):
  A0 prog 230 [AX L,sD p,sD t] (.tup [AX (if(Dr Ao p t L).1=0 then(Dr Ao p t L).2 else L),.val (.int .i64 (Dr Ao p t L).1)]):=by
 have M:=Ac L;have an:∀e ∈ L,e.1.size<=64:=λe he=>EO (h.key e he);obtain⟨c,hc⟩:∃c,c=(Dr Ao p t L).1:=⟨_,rfl⟩
 obtain⟨R,hR⟩:∃R,R=(if(Dr Ao p t L).1=0 then(Dr Ao p t L).2 else L):=⟨_,rfl⟩
 rw[<-hR,<-hc];have a5:∀i,i<L.length->(∀x ∈ BK p (L.take i),mvF p t L x=0)->Cn (L.getD i zM).1 p=true->mvF p t L (L.getD i zM)≠0->c=mvF p t L (L.getD i zM)/\R=L:=λi hi h0 hb hf=>by
  have e:=V4 (b:=BK p (L.drop (i+1))) h0 hf;rw[<-Yg hi hb] at e;have e2:(Dr Ao p t L).1=mvF p t L (L.getD i zM):=by
   unfold Dr;rw[if_pos (by rw[e];exact hf)];exact e
  exact⟨hc.trans e2,by rw[hR,e2,if_neg hf]⟩
 refine Zf [] ?_
 (have z:=M;push_cast[z]<;>repeat' (first|apply Zi<;>intro _|exact Zo|with_reducible apply Za)<;>push_cast[z])
 refine Zl (λi=>i<=L.length/\∀x ∈ BK p (L.take i),mvF p t L x=0) (λi=>⟨[(10,iD i),(9,.gref 56 ((BK p (L.take i)).map (mvT p t)).length),(8,.ref 24 0 0 1),(0,AX L),(1,sD p),(2,sD t)],[(24,mB (EJ p (L.take i))),(56,.grow (((BK p (L.take i)).map (mvT p t)).map A8) 7)],60⟩) (λi=>L.length-i) 0 ⟨A2w _,by simp[BK]⟩ ?_ λi hi=>?_
 ·refine Aq.trans (s':=⟨[(9,.slice [] true),(10,iD 0),(8,.ref 24 0 0 1),(0,AX L),(1,sD p),(2,sD t)],[(24,.rows [[.slice [] true]] 1)],28⟩) ?_ ?_
  ·apply Zw<;>push_cast [M]
  refine Aq.trans (Aq.nilgrowE 7) ?_;have e1:BK p (L.take 0)=[]:=by simp[BK]
  have e2:EJ p (L.take 0)=[]:=by simp[EJ]
  rw[e1,e2];apply Zw<;>push_cast [M];all_goals exact λh=>h.elim
 ·obtain⟨h1,h2⟩:=hi;push_cast[M];refine Ad (λha=>?_) (λha=>?_)
  ·have C:i<L.length:=by simpa using ha
   have e1:=Bc C;have ao:=Ae (d:=zM) C;obtain⟨tb,tn⟩:=A22 (p:=p) C;have hk:=an _ ao;have hB:=UH (L.getD i zM).1 p Om;have w1:IntKind.i64.wrap (↑i+1)=↑i+1:=A9 Om Om;have a7:=a5 i C h2;cases hb:Cn (L.getD i zM).1 p with
   |false=>
    rw[hb] at hB tb tn;simp only[A2G,if_false,A2y] at tb tn;have hlt:∀x ∈ EJ p (L.take i),ltS x.1 (L.getD i zM).1=true:=λx U=>by
     have a6:=(A2U.1 U).1;obtain⟨j,hj,rfl⟩:=List.getElem_of_mem a6;rw[A2x] at hj;have:=Nr h.srt (i:=j) (j:=i) Om C;rw[List.getElem_take];rwa[show L.getD j zM=L[j] by rw[A29,A2f Om];rfl] at this
    have b3:(EJ p (L.take i)).length<=i:=by
     have:=A2S (λe:GE=>!Cn e.1 p) (L.take i);rw[A2x] at this;unfold EJ;omega
    have a8:=c_MPut (EJ p (L.take i)) (L.getD i zM) Om;rw[Lo,UM hlt,<-tn] at a8;have o1:=Ac (EJ p (L.take i));have o2:=Ac (EJ p (L.take (i+1)));have o3:=Ac ((BK p (L.take i)).map (mvT p t));rw[A3] at a8;have V:nr (L.map A8) i=.val (.string (L.getD i zM).1)::A7 (L.getD i zM).2:=e1;rw[A3] at V;clear a5 a7 hc hR;generalize L.getD i zM=x at*;obtain⟨xk,xv⟩:=x;simp only at*
    (have z:=Za M<|Za V<|Za o1<|Za o2 o3;push_cast[z]<;>repeat' (first|apply Zi<;>intro _|refine Zc hB ?_|refine Zs [(1,24)] (a8 ..) ?_|exact Zo|with_reducible apply Za)<;>push_cast[z])<;>try omega
    refine⟨i+1,⟨C,by rw[tb];exact h2⟩,Om,?_⟩;rw[tb];apply Zw<;>push_cast [M,o2,o3];all_goals first|exact w1|skip
   |true=>
    rw[hb] at hB tb tn;simp only[if_true,A2y] at tb tn;have hM:=L7 (BY (L.getD i zM).1 p t) (by unfold BY;rw[Ux _ _ hb,A2R,ByteArray.size_extract];omega);have hG:=YJ h.srt (by omega:L.length<=1048575) (BY (L.getD i zM).1 p t);have ad:=λhh=>UH (BY (L.getD i zM).1 p t) p hh;have Y:mvF p t L (L.getD i zM)=if Ce (BY (L.getD i zM).1 p t)≠0 then 8 else if(Am (BY (L.getD i zM).1 p t) L).isSome=true/\Cn (BY (L.getD i zM).1 p t) p=false then 13 else 0:=by
     unfold mvF;rw[Vm]
    have a0:BY (L.getD i zM).1 p t=t++(L.getD i zM).1.extract p.size (L.getD i zM).1.size:=by unfold BY;rw[Ux _ _ hb]
    have b4:p.size<=(L.getD i zM).1.size:=by
     unfold Cn Lib.hasPrefix at hb;exact(List.isPrefixOf_iff_prefix.1 hb).length_le
    have ap:(BK p (L.take i)).length<=i:=by
     have:=A2S (λe:GE=>Cn e.1 p) (L.take i);rw[A2x] at this;unfold BK;omega
    have aq:(BY (L.getD i zM).1 p t).size<=2097152:=by rw[a0,A2R,ByteArray.size_extract];omega
    have a3:=ad Om;have o1:=Ac (EJ p (L.take i));have o3:=Ac ((BK p (L.take i)).map (mvT p t));have V:nr (L.map A8) i=.val (.string (L.getD i zM).1)::A7 (L.getD i zM).2:=e1;rw[A3] at V hG;clear ad a5 hc hR;obtain⟨N,hnk2⟩:∃N,N=BY (L.getD i zM).1 p t:=⟨_,rfl⟩
    have ar:Ce N=0->((Am N L).isSome=true->Cn N p=true)->mvF p t L (L.getD i zM)=0:=λq1 q2=>by
     rw[Y,<-hnk2,if_neg (by simp[q1]),if_neg (λhh=>by rw[q2 hh.1] at hh;exact absurd hh.2 Dq')]
    rw[<-hnk2] at hM hG Y a0 aq a3;have au:mvT p t (L.getD i zM)=(N,(L.getD i zM).2):=by rw[hnk2]
    generalize AR (Am N L)=gv at*;generalize(Am N L).isSome=gx at*;clear hnk2;generalize L.getD i zM=x at*;obtain⟨xk,xv⟩:=x;simp only at*;have zx:(xk.extract p.size xk.size).size=xk.size-p.size:=by rw[ByteArray.size_extract];omega
    by_cases a4:Ce N=0
    case neg=>
     have b1:(Ce N !=0)=true:=by simpa using a4
     rw[if_pos a4] at Y;obtain⟨q1,q2⟩:=a7 hb (by rw[Y];decide);rw[q1,q2,Y]
     (have z:=Za M<|Za V<|Za o1<|Za o3<|Za b1<|Za zx (a0).symm;push_cast[z]<;>repeat' (first|apply Zi<;>intro _|refine Zc hB ?_|refine Zc hM ?_|exact Zo|with_reducible apply Za)<;>push_cast[z])<;>try omega
    rw[a4] at hM;by_cases a9:gx=true/\Cn N p=false
    ·obtain⟨g1,g2⟩:=a9;rw[if_neg (by simp[a4]),if_pos ⟨g1,g2⟩] at Y;obtain⟨q1,q2⟩:=a7 hb (by rw[Y];decide);rw[q1,q2,Y];subst g1;rw[g2] at a3
     (have z:=Za M<|Za V<|Za o1<|Za o3<|Za zx (a0).symm;push_cast[z]<;>repeat' (first|apply Zi<;>intro _|refine Zc hB ?_|refine Zc hM ?_|refine Zc hG ?_|refine Zc a3 ?_|exact Zo|with_reducible apply Za)<;>push_cast[z])<;>try omega
    ·have av:=ar a4 (λhh=>by
      cases hq:Cn N p with
      |true=>rfl
      |false=>exact absurd ⟨hh,hq⟩ a9)
     have ae:∀x ∈ BK p (L.take (i+1)),mvF p t L x=0:=λx U=>by
      rw[tb] at U;rcases A2Y.1 U with U|U
      ·exact h2 x U
      ·rw[A2b.1 U];exact av
     have et:((BK p (L.take (i+1))).map (mvT p t))=(BK p (L.take i)).map (mvT p t)++[(N,xv)]:=by rw[tb,A2F,A2m,A2E,au]
     have o4:=Ac ((BK p (L.take (i+1))).map (mvT p t));have b5:((BK p (L.take i)).map (mvT p t)).length<=i:=by rw[A2k];exact ap
     rw[et] at o4;have aa:(((BK p (L.take i)).map (mvT p t))++[(N,xv)]).map A8=(((BK p (L.take i)).map (mvT p t))).map A8++[sD N::A7 xv]:=by rw[A2F];rfl
     rw[aa,A3 xv] at o4;have ah:(BK p (L.take (i+1))).length=(BK p (L.take i)).length+1:=by rw[tb];simp
     cases gx with
     |false=>
      (have z:=Za M<|Za V<|Za o1<|Za o3<|Za o4<|Za zx (a0).symm;push_cast[z]<;>repeat' (first|apply Zi<;>intro _|refine Zc hB ?_|refine Zc hM ?_|refine Zc hG ?_|exact Zo|with_reducible apply Za)<;>push_cast[z])
      all_goals first|omega|(intro y Z;cases Z;done)|(intro y Z;cases A2b.1 Z;rfl)|exact Bs _|(intro y Z d hd;cases A2b.1 Z;simp only[A2s,A3b,or_false] at hd;rcases hd with rfl|rfl|rfl|rfl|rfl|rfl|rfl<;>rfl)|skip
      refine⟨i+1,⟨C,ae⟩,Om,?_⟩;rw[tn,et,aa,A3 xv,ah];apply Zr [(56,584)] rfl<;>push_cast [M,o1,o3,o4];all_goals first|exact w1|skip
     |true=>
      have aw:Cn N p=true:=by
       cases hq:Cn N p with
       |true=>rfl
       |false=>exact absurd ⟨rfl,hq⟩ a9
      rw[aw] at a3
      (have z:=Za M<|Za V<|Za o1<|Za o3<|Za o4<|Za zx (a0).symm;push_cast[z]<;>repeat' (first|apply Zi<;>intro _|refine Zc hB ?_|refine Zc hM ?_|refine Zc hG ?_|refine Zc a3 ?_|exact Zo|with_reducible apply Za)<;>push_cast[z])
      all_goals first|omega|(intro y Z;cases Z;done)|(intro y Z;cases A2b.1 Z;rfl)|exact Bs _|(intro y Z d hd;cases A2b.1 Z;simp only[A2s,A3b,or_false] at hd;rcases hd with rfl|rfl|rfl|rfl|rfl|rfl|rfl<;>rfl)|skip
      refine⟨i+1,⟨C,ae⟩,Om,?_⟩;rw[tn,et,aa,A3 xv,ah];apply Zr [(56,584)] rfl<;>push_cast [M,o1,o3,o4];all_goals first|exact w1|skip
  ·have C:i=L.length:=by simp at ha;omega
   subst C;rw[A2I] at h2|-;have ab:∀e ∈ (BK p L).map (mvT p t),Ce e.1=0/\Ao e.2=0/\Sm e.2:=λe he=>by
    obtain⟨x,U,rfl⟩:=A2p.1 he;have a6:x ∈ L:=(A2U.1 U).1;have ac:=h2 x U;refine⟨?_,h.fit x a6,h.sm x a6⟩;unfold mvF at ac;split at ac
    ·exact absurd ac Dq'
    ·rename_i hq;simpa using hq
   have Y:Dr Ao p t L=(0,DF ((BK p L).map (mvT p t)) (EJ p L)):=by
    unfold Dr;rw[Pm h2,if_neg Sq',Jo λe he=>by
     obtain⟨q1,q2,q3⟩:=ab e he;unfold BM;rw[if_pos q1,q2]]
   rw[Y] at hc hR;simp only[if_true] at hR;have ax:VOk (EJ p L):=h.sub List.filter_sublist;have b6:(EJ p L).length+((BK p L).map (mvT p t)).length<=200000:=by
    have a1:=A2S (λe:GE=>Cn e.1 p) L;have a2:=A2S (λe:GE=>!Cn e.1 p) L;rw[A2k];unfold EJ BK;omega
   have ay:(BK p L).length=((BK p L).map (mvT p t)).length:=by rw[A2k]
   generalize(BK p L).map (mvT p t)=G at*;generalize EJ p L=O at*;subst hc;have oG:=Ac G;have o0:=Ac O;clear a5 Y h2
   (have z:=Za M<|Za oG o0;push_cast[z]<;>repeat' (first|apply Zi<;>intro _|exact Zo|with_reducible apply Za)<;>push_cast[z])<;>try omega
   rw[ay];refine Zl (λi=>i<=G.length) (λi=>⟨[(16,iD i),(15,iD 0),(9,.slice (G.map A8) false),(8,AX (DF (G.take i) O))],[],200⟩) (λi=>G.length-i) 0 (A2w _) ?_ λi hi=>?_
   ·refine Aq.trans (Aq.fzB (b:=56) (x:=.grow (G.map A8) 7) rfl) ?_;refine Aq.trans (Aq.fzB (b:=24) (x:=mB O) rfl) ?_;have e0:DF (G.take 0) O=O:=by simp[DF]
    rw[e0];push_cast[M,oG,o0];apply Zw<;>push_cast [M,oG,o0]
   ·obtain⟨az,ai⟩:=PI (g:=G.take i) (R:=O) (λe he=>ab e (A34 he)) ax;have oR:=Ac (DF (G.take i) O);push_cast[M,oG,oR];refine Ad (λha=>?_) (λha=>?_)
    ·have C:i<G.length:=by simpa using ha
     have e1:=Bc C;have hm:=Ae (d:=zM) C;obtain⟨q1,q2,q3⟩:=ab _ hm;have w1:IntKind.i64.wrap (↑i+1)=↑i+1:=A9 Om Om;have hl:(DF (G.take i) O).length<=1048575:=by rw[A2x] at ai;omega
     have aj:=M1 (G.getD i zM).2 q3 (by have:=T6 q2;omega);rw[q2] at aj;have hP:=Sr hl (G.getD i zM).1 (G.getD i zM).2 (by have:=EO q1;omega) 0 aj;have hz:BM 0 (G.getD i zM).1=0:=by unfold BM;rw[if_pos q1]
     rw[hz,if_pos rfl] at hP;have ak:DF (G.take (i+1)) O=B4 (G.getD i zM) (DF (G.take i) O):=by
      rw[A2J C,PH];congr 1;rw[A29,A2f C];rfl
     have al:A0 prog 224 [AX (DF (G.take i) O),.val (.string (G.getD i zM).1),.agg (A7 (G.getD i zM).2)] (.tup [AX (DF (G.take (i+1)) O),iD 0]):=by rw[ak];exact hP
     have am:=Ac (DF (G.take (i+1)) O);clear hP ak az ai;have V:nr (G.map A8) i=.val (.string (G.getD i zM).1)::A7 (G.getD i zM).2:=e1;rw[A3] at V al;generalize G.getD i zM=x at*;generalize DF (G.take i) O=R1 at*
     (have z:=Za M<|Za oG<|Za oR<|Za am V;push_cast[z]<;>repeat' (first|apply Zi<;>intro _|refine Zc al ?_|exact Zo|with_reducible apply Za)<;>push_cast[z])<;>try omega
     refine⟨i+1,C,Om,?_⟩;apply Zw<;>push_cast [am];all_goals first|exact w1|skip
    ·have C:i=G.length:=by simp at ha;omega
     subst C;rw[A2I] at oR|-;rw[hR]
     (have z:=oR;push_cast[z]<;>repeat' (first|apply Zi<;>intro _|exact Zo|with_reducible apply Za)<;>push_cast[z])<;>try omega
def A4.sz{P:Program}{f:FuncId}{ds:List D}{H:Hp}{r:D}{H':Hp}(C:By P f=true)(h:szL ds->A4 P f ds H r H'):A4 P f ds H r H':=by
 unfold A4;exact⟨C,λw M0 G I mu vs M N O hr=>by
  have hs:szL ds:=Gs λi hi=>(hr.2 i hi).sz;have:=h hs;unfold A4 at this;exact this.2 w M0 G I mu vs M N O hr⟩
section
variable{L X:Lga}{m:GM}{c:Int}
def r_step1(M:m.kind=1)(hP:A0 prog 224 [AX L,sD m.key,.agg (A7 m.value)] (.tup [AX X,iD c])):
  A4 prog 157 [AX L,.agg (Ai m)] [] (.tup [AX X,iD c]) []:=by
 have N:=Ac L;have C:=Ac X;rw[A3] at hP;rw[Ay,A3 m.was,A3 m.value,M];simp only[A2d,A2h,A2c];refine Zd [8] ?_
 (have z:=Za N C;push_cast[z]<;>repeat' (first|apply Zi<;>intro _|refine Zc hP ?_|exact Zo|with_reducible apply Za)<;>push_cast[z])
 apply Zw<;>push_cast [C]
def r_step3(M:m.kind=3)(hP:A0 prog 227 [AX L,sD m.key,iD m.n] (.tup [AX X,iD c])):
  A4 prog 157 [AX L,.agg (Ai m)] [] (.tup [AX X,iD c]) []:=by
 have N:=Ac L;have C:=Ac X;rw[Ay,A3 m.was,A3 m.value,M];simp only[A2d,A2h,A2c];refine Zd [8] ?_
 (have z:=Za N C;push_cast[z]<;>repeat' (first|apply Zi<;>intro _|refine Zc hP ?_|exact Zo|with_reducible apply Za)<;>push_cast[z])
 apply Zw<;>push_cast [C]
def r_step5(M:m.kind=5)(hP:A0 prog 229 [AX L,sD m.key,.agg (A7 m.value)] (.tup [AX X,iD c])):
  A4 prog 157 [AX L,.agg (Ai m)] [] (.tup [AX X,iD c]) []:=by
 have N:=Ac L;have C:=Ac X;rw[A3] at hP;rw[Ay,A3 m.was,A3 m.value,M];simp only[A2d,A2h,A2c];refine Zd [8] ?_
 (have z:=Za N C;push_cast[z]<;>repeat' (first|apply Zi<;>intro _|refine Zc hP ?_|exact Zo|with_reducible apply Za)<;>push_cast[z])
 apply Zw<;>push_cast [C]
def r_step6(M:m.kind=6)(hP:A0 prog 230 [AX L,sD m.key,sD m.to] (.tup [AX X,iD c])):
  A4 prog 157 [AX L,.agg (Ai m)] [] (.tup [AX X,iD c]) []:=by
 have N:=Ac L;have C:=Ac X;rw[Ay,A3 m.was,A3 m.value,M];simp only[A2d,A2h,A2c];refine Zd [8] ?_
 (have z:=Za N C;push_cast[z]<;>repeat' (first|apply Zi<;>intro _|refine Zc hP ?_|exact Zo|with_reducible apply Za)<;>push_cast[z])
 apply Zw<;>push_cast [C]
def r_step2a(M:m.kind=2)(hn:L.length<=1048575)(h:Cp L m.key=false):
  A4 prog 157 [AX L,.agg (Ai m)] [] (.tup [AX L,iD 12]) []:=by
 have C:=Ac L;have N:=JI L Om;have O:=ZJ L m.key hn h;rw[Ay,A3 m.was,A3 m.value,M];simp only[A2d,A2h,A2c];refine Zd [8] ?_
 (have z:=C;push_cast[z]<;>repeat' (first|apply Zi<;>intro _|refine Zs [] N ?_|refine Zs [(1,90)] O ?_|exact Zo|with_reducible apply Za)<;>push_cast[z])
 apply Zw<;>push_cast [C]
def r_step2b(M:m.kind=2)(hn:L.length<=1048575)(h:Cp L m.key=true):
  A4 prog 157 [AX L,.agg (Ai m)] [] (.tup [AX (Cr L (AL L m.key)),iD 0]) []:=by
 have N:=Ac L;have C:=Ac (Cr L (AL L m.key));have O:=JI L Om;have U:=ZI L m.key hn h;rw[Ay,A3 m.was,A3 m.value,M];simp only[A2d,A2h,A2c];refine Zd [8] ?_
 (have z:=Za N C;push_cast[z]<;>repeat' (first|apply Zi<;>intro _|refine Zs [] O ?_|refine Zs [(1,90)] U ?_|exact Zo|with_reducible apply Za)<;>push_cast[z])
 refine Aq.trans (Aq.fzB (b:=90) (x:=mB (Cr L (AL L m.key))) rfl) ?_;push_cast[C];apply Zw<;>push_cast [C]
def r_step4f(N:m.kind=4)(C:A0 prog 228 [AX L,sD m.key,bD m.had,.agg (A7 m.was)] (bD false)):A4 prog 157 [AX L,.agg (Ai m)] [] (.tup [AX L,iD 13]) []:=by
 have M:=Ac L;rw[A3] at C;rw[Ay,A3 m.was,A3 m.value,N];simp only[A2d,A2h,A2c];refine Zd [8] ?_
 (have z:=M;push_cast[z]<;>repeat' (first|apply Zi<;>intro _|refine Zc C ?_|exact Zo|with_reducible apply Za)<;>push_cast[z])
 apply Zw<;>push_cast [M]
def r_step4p(N:m.kind=4)(hh:m.has=true)(C:A0 prog 228 [AX L,sD m.key,bD m.had,.agg (A7 m.was)] (bD true))(hP:A0 prog 224 [AX L,sD m.key,.agg (A7 m.value)] (.tup [AX X,iD c])):A4 prog 157 [AX L,.agg (Ai m)] [] (.tup [AX X,iD c]) []:=by
 rw[A3] at hP;have O:=Ac L;have M:=Ac X;rw[A3] at C;rw[Ay,A3 m.was,A3 m.value,N,hh];simp only[A2d,A2h,A2c];refine Zd [8] ?_
 (have z:=Za O M;push_cast[z]<;>repeat' (first|apply Zi<;>intro _|refine Zc C ?_|refine Zc hP ?_|exact Zo|with_reducible apply Za)<;>push_cast[z])
 apply Zw<;>push_cast [M]
def r_step4a(N:m.kind=4)(hh:m.has=false)(hn:L.length<=1048575)(h:Cp L m.key=false)(M:A0 prog 228 [AX L,sD m.key,bD m.had,.agg (A7 m.was)] (bD true)):A4 prog 157 [AX L,.agg (Ai m)] [] (.tup [AX L,iD 0]) []:=by
 have O:=JI L Om;have U:=ZJ L m.key hn h;have C:=Ac L;rw[A3] at M;rw[Ay,A3 m.was,A3 m.value,N,hh];simp only[A2d,A2h,A2c];refine Zd [8] ?_
 (have z:=C;push_cast[z]<;>repeat' (first|apply Zi<;>intro _|refine Zc M ?_|refine Zs [] O ?_|refine Zs [(1,210)] U ?_|exact Zo|with_reducible apply Za)<;>push_cast[z])
 refine Aq.trans (Aq.fzB (b:=210) (x:=mB L) rfl) ?_;push_cast[C];apply Zw<;>push_cast [C]
def r_step4b(N:m.kind=4)(hh:m.has=false)(hn:L.length<=1048575)(h:Cp L m.key=true)(M:A0 prog 228 [AX L,sD m.key,bD m.had,.agg (A7 m.was)] (bD true)):A4 prog 157 [AX L,.agg (Ai m)] [] (.tup [AX (Cr L (AL L m.key)),iD 0]) []:=by
 have O:=JI L Om;have U:=ZI L m.key hn h;have C:=Ac (Cr L (AL L m.key));have V:=Ac L;rw[A3] at M;rw[Ay,A3 m.was,A3 m.value,N,hh];simp only[A2d,A2h,A2c];refine Zd [8] ?_
 (have z:=Za V C;push_cast[z]<;>repeat' (first|apply Zi<;>intro _|refine Zc M ?_|refine Zs [] O ?_|refine Zs [(1,210)] U ?_|exact Zo|with_reducible apply Za)<;>push_cast[z])
 refine Aq.trans (Aq.fzB (b:=210) (x:=mB (Cr L (AL L m.key))) rfl) ?_;push_cast[C];apply Zw<;>push_cast [C]
def r_step7f(N:m.kind=7)(C:A0 prog 228 [AX L,sD m.key,bD m.had,.agg (A7 m.was)] (bD false)):A4 prog 157 [AX L,.agg (Ai m)] [] (.tup [AX L,iD 13]) []:=by
 have M:=Ac L;rw[A3] at C;rw[Ay,A3 m.was,A3 m.value,N];simp only[A2d,A2h,A2c];refine Zd [8] ?_
 (have z:=M;push_cast[z]<;>repeat' (first|apply Zi<;>intro _|refine Zc C ?_|exact Zo|with_reducible apply Za)<;>push_cast[z])
 apply Zw<;>push_cast [M]
def YD(hk:m.kind=7)(a2:m.list.length<=1048576)(hA:A0 prog 228 [AX L,sD m.key,bD m.had,.agg (A7 m.was)] (bD true))(G:Nat->Lga)(h0:G 0=L)(J:Nat)(hJ:J<=m.list.length)
  (h1:∀i,i<J->A4 prog 157 [AX (G i),.agg (Ai (m.list.getD i zU))] [] (.tup [AX (G (i+1)),iD 0]) [])
  (h2:J<m.list.length->∃Y,c≠0/\X=L/\A4 prog 157 [AX (G J),.agg (Ai (m.list.getD J zU))] [] (.tup [AX Y,iD c]) [])
  (N:J=m.list.length->c=0/\X=G J):A4 prog 157 [AX L,.agg (Ai m)] [] (.tup [AX X,iD c]) []:=by
 have C:=Ac L;have oX:=Ac X;rw[A3] at hA;rw[Ay,A3 m.was,A3 m.value,hk];simp only[A2d,A2h,A2c];refine Zd [8] ?_
 (have z:=C;push_cast[z]<;>repeat' (first|apply Zi<;>intro _|refine Zc hA ?_|exact Zo|with_reducible apply Za)<;>push_cast[z])
 refine Zl (λi=>i<=J) (λi=>⟨[(9,iD i),(8,AX (G i)),(3,.ptr [iD 7,sD m.key,sD m.to,iD m.n,bD m.had,iD m.was.kind,bD m.was.b,iD m.was.n,sD m.was.s,.slice (m.was.list.map A7) false,.slice (m.was.obj.map A8) false,bD m.has,iD m.value.kind,bD m.value.b,iD m.value.n,sD m.value.s,.slice (m.value.list.map A7) false,.slice (m.value.obj.map A8) false,.slice (m.list.map Ai) false] 0),(0,AX L)],[],400⟩) (λi=>J-i) 0 (A2w _) ?_ λi hi=>?_
 ·rw[h0];apply Zw<;>push_cast [C]
 ·have M:=Ac (G i);have a0:=Ac (G (i+1));push_cast[C,M];refine Ad (λO=>?_) (λO=>?_)
  ·have U:i<m.list.length:=by simpa using O
   have e1:=EV U;have w1:IntKind.i64.wrap (↑i+1)=↑i+1:=A9 Om Om;have oY:=Ax (m.list.getD i zU);rcases A2z i J with hiJ|hiJ
   ·have hr:=h1 i hiJ;clear h1 h2 N;generalize m.list.getD i zU=x at*
    (have z:=Za C<|Za M<|Za a0<|Za e1 oY;push_cast[z]<;>repeat' (first|apply Zi<;>intro _|refine Zs [] (hr ..) ?_|exact Zo|with_reducible apply Za)<;>push_cast[z])<;>try omega
    refine⟨i+1,hiJ,Om,?_⟩;apply Zw<;>push_cast [C,a0];all_goals first|exact w1|skip
   ·obtain rfl:i=J:=Om;obtain⟨Y,V,Z,hr⟩:=h2 U;have a1:=Ac Y;have b1:(c !=0)=true:=by simpa using V
    clear h1 h2 N;generalize m.list.getD i zU=x at*;rw[Z]
    (have z:=Za C<|Za M<|Za @a1<|Za e1<|Za oY b1;push_cast[z]<;>repeat' (first|apply Zi<;>intro _|refine Zs [] (hr ..) ?_|exact Zo|with_reducible apply Za)<;>push_cast[z])<;>try omega
    apply Zw<;>push_cast [C]
  ·have U:¬i<m.list.length:=by simpa using O
   obtain rfl:i=J:=Om;obtain⟨V,Z⟩:=N Om;rw[V,Z]
   (have z:=Za C M;push_cast[z]<;>repeat' (first|apply Zi<;>intro _|exact Zo|with_reducible apply Za)<;>push_cast[z])<;>try omega
   apply Zw<;>push_cast [M]
end
def remL_id{k:Baa}(h:D9 k L=false):BX k L=L:=by
 unfold D9 at h;unfold BX;refine A3Q.2 λx C=>?_;have:=List.any_eq_false.1 h x C;simpa using this
def A1a(h:VOk L){k:Baa}(C:k.size=0):Am k L=none:=by
 cases M:Am k L with
 |none=>rfl
 |some v=>
  have:=Pq M;have h0:=h.key _ this;unfold Ce FV at h0;rw[if_pos C] at h0;cases h0
def stepM_eq(F:GV->Int)(m:GM)(L:Lga):Bv F m L=if m.kind=1 then(BM (F m.value) m.key,if BM (F m.value) m.key=0 then B4 (m.key,m.value) L else L)
   else if m.kind=2 then(if D9 m.key L=true then(0,BX m.key L) else(12,L))
   else if m.kind=3 then(Gv L m.key m.n (F (Es L m.key m.n)),if Gv L m.key m.n (F (Es L m.key m.n))=0 then B4 (m.key,Es L m.key m.n) L else L)
   else if m.kind=4 then(VU m L (F m.value),VT m L (F m.value))
   else if m.kind=5 then(HT L m.key (F (DC L m.key m.value)),if HT L m.key (F (DC L m.key m.value))=0 then B4 (m.key,DC L m.key m.value) L else L)
   else if m.kind=6 then Dr F m.key m.to L
   else if m.kind=7 then(if m.key.size≠0/\F1 m L=false then(13,L) else Dn F m.list L)
   else(9,L):=by cases m;rfl
def r_step:∀(n:Nat) (m:GM) (d:Nat) (L:Lga),SizeOf.sizeOf m<=n->SmU m->wtU m<=1048576->BG Ao m d=0->VOk L->L.length+AY m<=8192->
  ∃X,A4 prog 157 [AX L,.agg (Ai m)] [] (.tup [AX X,.val (.int .i64 (Bv Ao m L).1)]) []/\((Bv Ao m L).1=0->X=(Bv Ao m L).2)
 |0,m,d,L,hn,_,_,_,_,_=>by cases m;simp at hn
 |n+1,m,d,L,hn,hm,hw,h0,hL,hsz=>by
  obtain⟨_,m1,m2,m3,m4,m5,m6⟩:=hm;obtain⟨p1,p2,p3,p4,p5,p6⟩:=N2 h0;have ah:=J4 m;have C:=stepM_eq Ao m L;have N:L.length<=1048575:=Om;have a0:m.key.size<=4611686018427387904:=Om;have a5:=SA hL m.key;have a1:=SZ m.key L hL.srt;have M:=r_As hL.srt N m.key m.had m.was;change A0 _ _ _ (bD (F1 m L)) at M;by_cases k1:m.kind=1
  ·rw[if_pos k1] at C;have hP:=Sr N m.key m.value a0 (Ao m.value) (M1 _ m2 Om);rw[C];exact⟨_,r_step1 k1 hP,λ_=>rfl⟩
  rw[if_neg k1] at C;by_cases k2:m.kind=2
  ·rw[if_pos k2] at C;cases hh:Cp L m.key with
   |true=>
    rw[<-a1,hh,if_pos rfl] at C;rw[C];exact⟨_,r_step2b k2 N hh,λ_=>Nz _ _ hL.srt hh⟩
   |false=>
    rw[<-a1,hh,if_neg Dq'] at C;rw[C];exact⟨_,r_step2a k2 N hh,λh=>absurd h (show ¬((12:Int)=0) by decide)⟩
  rw[if_neg k2] at C;by_cases k3:m.kind=3
  ·rw[if_pos k3] at C;rw[C];refine⟨_,A4.sz Kq' λO=>?_,λ_=>rfl⟩;have a6:=O.2.1;rw[Ay] at a6;have ab:=a6.2.2.2.1;simp only[szD,okP,DJ,DK] at ab;exact r_step3 k3 (r_inc hL.srt N m.key m.n a0 Om Om a5.1 _ (M1 _ (SW _ _ _) (by rw[Z2];omega)))
  rw[if_neg k3] at C;by_cases U:m.kind=4
  ·rw[if_pos U] at C;unfold VU VT at C;cases hs:F1 m L with
   |false=>
    rw[hs] at M C;rw[if_neg Dq',if_neg Dq'] at C;rw[C];exact⟨_,r_step4f U M,λh=>absurd h (show ¬((13:Int)=0) by decide)⟩
   |true=>
    rw[hs] at M C;rw[if_pos rfl,if_pos rfl] at C;cases hh:m.has with
    |true=>
     rw[hh] at C;simp only[if_true] at C;have hP:=Sr N m.key m.value a0 (Ao m.value) (M1 _ m2 Om);rw[C];exact⟨_,r_step4p U hh M hP,λ_=>rfl⟩
    |false=>
     rw[hh] at C;simp only[A2G,if_false] at C;rw[C];cases hq:Cp L m.key with
     |true=>exact ⟨_,r_step4b U hh N hq M,λ_=>Nz _ _ hL.srt hq⟩
     |false=>exact ⟨_,r_step4a U hh N hq M,λ_=>(remL_id (by rw[<-a1];exact hq)).symm⟩
  rw[if_neg U] at C;by_cases k5:m.kind=5
  ·rw[if_pos k5] at C;have ha:=TE hL m.key m2;have hP:=r_add hL.srt N m.key m.value a0 a5.1 _ (M1 _ ha.1 Om);rw[C];exact⟨_,r_step5 k5 hP,λ_=>rfl⟩
  rw[if_neg k5] at C;by_cases k6:m.kind=6
  ·rw[if_pos k6] at C;have hP:=r_move L hL Om m.key m.to m3 m4;rw[C];exact⟨_,r_step6 k6 hP,λh=>if_pos h⟩
  rw[if_neg k6] at C;by_cases Z:m.kind=7
  ·rw[if_pos Z] at C;by_cases hs:m.key.size≠0/\F1 m L=false
   ·rw[if_pos hs] at C;rw[hs.2] at M;rw[C];exact⟨_,r_step7f Z M,λh=>absurd h (show ¬((13:Int)=0) by decide)⟩
   ·rw[if_neg hs] at C;have ac:F1 m L=true:=by
     by_cases a2:m.key.size=0
     ·have ad:m.had=false:=by
       unfold Ck at p3;have e6:(m.kind==6)=false:=by simpa using k6
       have e7:(m.kind==7)=true:=by simpa using Z
       have en:noS m.key=true:=by rw[V1];exact decide_eq_true a2
       rw[e6,e7,en] at p3;simpa using p3
      unfold F1;rw[A1a hL a2,ad];rfl
     ·cases h2:F1 m L with
      |true=>rfl
      |false=>exact absurd ⟨a2,h2⟩ hs
    rw[ac] at M;have ai:=DM m;let V:Nat->Lga:=λi=>Vs Ao m.list L i;have a3:V 0=L:=ZN _ _ _;have a7:∀i,i<m.list.length->V (i+1)=(Bv Ao (m.list.getD i zU) (V i)).2:=λi hi=>TG _ hi;have a8:∀i (hi:i<m.list.length),VOk (V i)->(V i).length<=L.length+Br (m.list.take i)->∃X,A4 prog 157 [AX (V i),.agg (Ai (m.list.getD i zU))] [] (.tup [AX X,.val (.int .i64 (Bv Ao (m.list.getD i zU) (V i)).1)]) []/\((Bv Ao (m.list.getD i zU) (V i)).1=0->X=(Bv Ao (m.list.getD i zU) (V i)).2):=λi hi hv hl=>by
     have a4:=Ae (d:=zU) hi;have h1:=GM.list_lt a4;have h2:=GC a4;obtain⟨t1,t2⟩:=Do hi;exact r_step n _ (d+1) _ Om (m6 _ a4) Om (Gi p6 i hi) hv Om
    have a9:∀J,J<=m.list.length->(∀i,i<J->(Bv Ao (m.list.getD i zU) (V i)).1=0)->VOk (V J)/\(V J).length<=L.length+Br (m.list.take J):=λJ=>by
     induction J with
     |zero=>intro _ _;rw[a3];exact⟨hL,by simp[Br]⟩
     |succ J ih=>
      intro hJ O;obtain⟨a,b⟩:=ih Om λi hi=>O i Om;have hi:J<m.list.length:=Om;have ae:=O J Om;obtain⟨c1,c2⟩:=KX (m.list.getD J zU) (V J) (m6 _ (Ae hi)) a;obtain⟨t1,t2⟩:=Do hi;unfold GL at c1 c2;rw[if_pos ae,<-a7 J hi] at c1 c2;exact⟨c1,Om⟩
    have aa:∀J,J<=m.list.length->(∀i,i<J->(Bv Ao (m.list.getD i zU) (V i)).1=0)->∀i,i<J->A4 prog 157 [AX (V i),.agg (Ai (m.list.getD i zU))] [] (.tup [AX (V (i+1)),iD 0]) []:=λJ hJ O i hi=>by
     obtain⟨a,b⟩:=a9 i Om λj hj=>O j Om;obtain⟨X,q1,q2⟩:=a8 i Om a b;rw[O i hi] at q1;rw[q2 (O i hi),<-a7 i Om] at q1;exact q1
    rcases Hj Ao m.list L with⟨c1,c2⟩|⟨J,c1,c2,c3,c4⟩
    ·rw[C,c1];exact⟨V m.list.length,YD Z m5 M V a3 m.list.length (A2e _) (aa _ (A2e _) c2) (λh=>absurd h (Nat.lt_irrefl _)) (λ_=>⟨rfl,rfl⟩),λ_=>rfl⟩
    ·rw[C];obtain⟨a,b⟩:=a9 J Om c2;obtain⟨Y,q1,q2⟩:=a8 J c1 a b;rw[show(Bv Ao (m.list.getD J zU) (V J)).1=(Dn Ao m.list L).1 from c3] at q1;exact⟨L,YD Z m5 M V a3 J Om (aa J Om c2) (λ_=>⟨Y,c4,rfl,q1⟩) (λh=>Om),λh=>absurd h c4⟩
  ·rw[if_neg Z] at C;exfalso;unfold AG at p1;have e1:(m.kind==1)=false:=by simpa using k1
   have e2:(m.kind==2)=false:=by simpa using k2
   have e3:(m.kind==3)=false:=by simpa using k3
   have e4:(m.kind==4)=false:=by simpa using U
   have e5:(m.kind==5)=false:=by simpa using k5
   have e6:(m.kind==6)=false:=by simpa using k6
   have e7:(m.kind==7)=false:=by simpa using Z
   simp[e1,e2,e3,e4,e5,e6,e7] at p1
def r_Run(V:VOk L)(hl:L.length<=8000)(m:GM)(hm:SmU m)(Y:wtU m<=1048576)(Z:AY m<=1099511627776):
  A0 prog 99 [AX L,.agg (Ai m)] (.tup [AX (DN m L).2,.val (.int .i64 (DN m L).1)]):=by
 have C:=Xb m hm Om Z;have O:=Ac L;unfold DN;by_cases hc:Ec Ao m=0
 ·rw[if_neg (by simpa using hc)];rw[hc] at C;unfold Ec at hc;have a0:AY m<=64:=by
   rcases A2z 64 (AY m) with h|h
   ·rw[if_pos h] at hc;cases hc
   ·exact h
  rw[if_neg Om] at hc;obtain⟨X,M,hX⟩:=r_step _ m 1 L (A2e _) hm Y hc V Om;have U:=Ac X;have oU:=Ax m;unfold GL;by_cases N:(Bv Ao m L).1=0
  ·rw[if_pos N,<-hX N];rw[N] at M|-;rw[Ay,A3 m.was,A3 m.value] at C M|-;simp only[A2d,A2h,A2c] at C M|-;refine Zf [0] ?_
   (have z:=Za O U;push_cast[z]<;>repeat' (first|apply Zi<;>intro _|refine Zc C ?_|refine Zs [] M ?_|exact Zo|with_reducible apply Za)<;>push_cast[z])
  ·rw[if_neg N];have b1:((Bv Ao m L).1 !=0)=true:=by simpa using N
   generalize(Bv Ao m L).1=c at*;rw[Ay,A3 m.was,A3 m.value] at C M|-;simp only[A2d,A2h,A2c] at C M|-;refine Zf [0] ?_
   (have z:=Za O<|Za U b1;push_cast[z]<;>repeat' (first|apply Zi<;>intro _|refine Zc C ?_|refine Zs [] M ?_|exact Zo|with_reducible apply Za)<;>push_cast[z])
 ·rw[if_pos hc];have b1:(Ec Ao m !=0)=true:=by simpa using hc
  generalize Ec Ao m=c at*;rw[Ay,A3 m.was,A3 m.value] at C|-;simp only[A2d,A2h,A2c] at C|-;refine Zf [0] ?_
  (have z:=Za O b1;push_cast[z]<;>repeat' (first|apply Zi<;>intro _|refine Zc C ?_|exact Zo|with_reducible apply Za)<;>push_cast[z])
end Go.Ab
