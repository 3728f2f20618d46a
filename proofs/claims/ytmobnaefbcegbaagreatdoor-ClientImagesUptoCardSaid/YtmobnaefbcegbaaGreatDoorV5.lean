/- The program is walked: part 6 of 18. -/
import Derived.Test.YtmobnaefbcegbaaGreatDoorV4
set_option maxHeartbeats 4000000
set_option maxRecDepth 20000
set_option linter.all false
namespace Go.Ab
abbrev Lga:=List GE
open Go.Proofs Go.Proofs.Tryz
variable{α:Type}{i:Nat}{v:GV}{X:LLa}
def Gx{α:Type}(f:α->List D)(z:List D)(l:List α)(i:Nat):LLa:=(l.take i).map f++List.replicate (l.length-i) z
def FJ(f:α->List D)(z:List D)(l:List α):List.replicate l.length z=Gx f z l 0:=by simp[Gx]
def H6(f:α->List D)(z:List D)(l:List α)(h:l.length<=i):Gx f z l i=l.map f:=by
 simp[Gx,A2g h,Nat.sub_eq_zero_of_le h]
def Jz(f:α->List D)(z:List D)(l:List α)(i:Nat):(Gx f z l i).length=l.length:=by
 simp[Gx];omega
def H4(f:α->List D)(z:List D)(l:List α)(d:α)(h:i<l.length):(Gx f z l i).set i (f (l.getD i d))=Gx f z l (i+1):=by
 have C:(l.take i).length=i:=So';have M:l.length-i=(l.length-(i+1))+1:=Om;simp only[Gx];rw[List.set_append_right _ _ So'];simp only[A2k,C,Nat.sub_self];rw[M,A3R,List.set_cons_zero,A3j,A2F,A2c];simp[A2f h,A29]
def JT(f:α->List D)(z:List D)(l:List α)(h:i<l.length):nr (Gx f z l i) i=z:=by
 simp only[nr,Gx,A29];rw[A3a So'];have C:(l.take i).length=i:=So';simp[C,List.getElem?_replicate,show i-min i l.length<l.length-i by omega]
def H5{f:α->List D}{z:List D}(hf:∀x,An (f x)=true)(N:An z=true)(l:List α)(i:Nat):Aa (Gx f z l i)=true:=by
 have key:∀(a b:LLa),Aa a=true->Aa b=true->Aa (a++b)=true:=by
  intro a b M hb
  induction a with
  |nil=>exact hb
  |cons x a C=>simp only[A2d,Aa,A2i] at*;exact⟨M.1,C M.2⟩
 refine key _ _ (Aw hf _) ?_
 induction l.length-i with
 |zero=>rfl
 |succ n C=>simp only[A3R,Aa,N,C,A2L]
attribute [push_cast] Jz
inductive Sm:GV->Prop where
 |mk (k:Int) (b:Bool) (n:Int) (s:ByteArray) (l:List GV) (o:List (ByteArray×GV)) (hl:l.length<=1048576) (ho:o.length<=1048576) (h:∀x ∈ l,Sm x) (h':∀p ∈ o,Sm p.2) (hn: -9223372036854775808<=n/\n<=9223372036854775807) (hz:s.size<=1048576) (hk:∀p ∈ o,p.1.size<=1048576):Sm (.mk k b n s l o)
def Sm.int(h:Sm v): -9223372036854775808<=v.n/\v.n<=9223372036854775807:=by cases h;assumption
def Sm.text(h:Sm v):v.s.size<=1048576:=by cases h;assumption
theorem Sm.key(h:Sm v):∀p ∈ v.obj,p.1.size<=1048576:=by cases h;assumption
def Sm.list_le(h:Sm v):v.list.length<=1048576:=by cases h;assumption
def Sm.obj_le(h:Sm v):v.obj.length<=1048576:=by cases h;assumption
theorem Sm.list{v:GV}(h:Sm v):∀x ∈ v.list,Sm x:=by cases h;assumption
theorem Sm.obj{v:GV}(h:Sm v):∀p ∈ v.obj,Sm p.2:=by cases h;assumption
abbrev z6:List D:=[iD 0,bD false,iD 0,sD bea,.slice [] true,.slice [] true]
abbrev z7:List D:=sD bea::z6
def XH(l:List GV)(i:Nat):Aa (Gx A7 z6 l i)=true:=H5 Bn rfl l i
def XI(l:List (Baa×GV))(i:Nat):Aa (Gx A8 z7 l i)=true:=H5 Ap rfl l i
attribute [push_cast] XH XI
def cp1(v:GV)(i:Nat):St:=⟨[(23,iD i),(22,iD v.list.length),(21,.slice (v.list.map A7) false),(3,.ref 24 0 0 6),(2,.ref 8 0 0 6),(1,.ptr [iD v.kind,bD v.b,iD v.n,sD v.s,.slice (v.list.map A7) false,.slice (v.obj.map A8) false] 0)],
 [(24,.rows [[iD v.kind,bD v.b,iD v.n,sD v.s,.sref 128 0 v.list.length v.list.length 6,.slice [] true]] 6),(128,.rows (Gx A7 z6 v.list i) 6),(8,.rows [z6] 6)],92⟩
def cp2(v:GV)(m:D)(R:Hp)(nx:Nat)(c i:Nat):St:=⟨[(47,iD i),(46,iD v.obj.length),(45,.slice (v.obj.map A8) false),(3,.ref 24 0 0 6),(2,.ref 8 0 0 6)],
 (24,.rows [[iD v.kind,bD v.b,iD v.n,sD v.s,m,.sref c 0 v.obj.length v.obj.length 7]] 6)::(c,.rows (Gx A8 z7 v.obj i) 7)::(8,.rows [z6] 6)::R,nx⟩
def Ba(p:Baa×GV):(A8 p).length=7:=by rw[Aj,A2l,AH]
def lo_all{p:Prop}[Decidable p]{Y:LLa}{n:Nat}{t:Bool}{d:D}(hp:p)(h:X.length<=n)(e:X=Y):lo (if p then .slice (X.take n) t else d) (.slice Y false):=by
 rw[if_pos hp,A2g h,e,Fa];exact⟨Bp _,λh=>by cases h⟩
def Gj{n:Nat}(h:decide ((0:Int)<↑n)=false)(e:X.length=n):EM [] X:=by
 have:X=[]:=A2D (by simp at h;omega);rw[this];exact Bp _
def Di(v:GV):List D:=[iD v.kind,bD v.b,iD v.n,sD v.s,.slice (v.list.map A7) true,.slice (v.obj.map A8) true]
def loL_T(v:GV):loL (Di v) (A7 v):=by
 rw[A3,Di];simp[loL,lo,Bp]
def Nu{p:Prop}[Decidable p]{Y:LLa}{n:Nat}{t:Bool}{d:D}(hp:p)(h:X.length<=n)(e:X=Y)(ht:t=true):lo (if p then .slice (X.take n) t else d) (.slice Y true):=by
 rw[if_pos hp,A2g h,e,Fa];exact⟨Bp _,λ_=>ht⟩
def lo_T0(v:GV):lo (.agg (Di v)) (.agg (A7 v)):=by rw[Mi];exact loL_T v
def lo_T(v:GV)(b:D):lo (.tup [.agg (Di v),b]) (.tup [.agg (A7 v),b]):=by
 rw[lo_tup];exact⟨lo_T0 v,Av _,trivial⟩
def NE(v:GV)(hs:Sm v):A0 prog 141 [.agg (A7 v)] (.agg (Di v)):=by
 have hl:=hs.list_le;have Z:=hs.obj_le;have V:∀x,SizeOf.sizeOf x<SizeOf.sizeOf v->Sm x->A0 prog 141 [.agg (A7 x)] (.agg (A7 x)):=λx h Y=>(NE x Y).res (lo_T0 x);rw[A3,Di];refine Zf [0] ?_
 (push_cast<;>repeat' (first|apply Zi<;>intro _|exact Zp|apply Za)<;>push_cast)<;>try omega
 ·refine Zl (λi=>i<=v.list.length) (λi=>cp1 v i) (λi=>v.list.length-i) 0 Sq' ?_ λi hi=>?_
  ·unfold cp1;rw[FJ A7 z6 v.list];apply Zw<;>push_cast [AH]
  ·unfold cp1;push_cast;refine Ad (λM=>?_) (λM=>?_)
   ·have C:i<v.list.length:=by simpa using M
    have O:=DU C;have N:=JT A7 z6 v.list C;have hr:=V (v.list.getD i zV) (GV.list_lt (Ae C)) (hs.list _ (Ae C));have U:=H4 A7 z6 v.list zV C
    (have z:=Za O N;push_cast[z]<;>repeat' (first|apply Zi<;>intro _|refine Zc (hr ..) ?_|exact Zo|apply Za)<;>push_cast[z])<;>try omega
    refine⟨i+1,C,Om,?_⟩;apply Zw<;>push_cast [U,N];all_goals first|exact A9 Om Om |skip
   ·have C:i=v.list.length:=by simp at M;omega
    subst C
    (have z:=(H6 A7 z6 v.list (A2e _));push_cast[z]<;>repeat' (first|apply Zi<;>intro _|exact Zo|apply Za)<;>push_cast[z])<;>try omega
    ·refine Zl (λi=>i<=v.obj.length) (λi=>cp2 v (.sref 128 0 v.list.length v.list.length 6) [(128,.rows (v.list.map A7) 6)] 152 248 i) (λi=>v.obj.length-i) 0 Sq' ?_ λi hi=>?_
     ·unfold cp2;rw[FJ A8 z7 v.obj];apply Zw<;>push_cast [AH,Ba]
     ·unfold cp2;push_cast;refine Ad (λM=>?_) (λM=>?_)
      ·have C:i<v.obj.length:=by simpa using M
       have O:=Bc C;have N:=JT A8 z7 v.obj C;have hr:=V (v.obj.getD i zM).2 (GV.obj_lt (Ae C)) (hs.obj _ (Ae C));have U:=H4 A8 z7 v.obj zM C
       (have z:=Za O<|Za N @Aj;push_cast[z]<;>repeat' (first|apply Zi<;>intro _|refine Zc (hr ..) ?_|exact Zo|apply Za)<;>push_cast[z])<;>try omega
       refine⟨i+1,C,Om,?_⟩;apply Zw<;>push_cast [U,N,<-Aj];all_goals first|exact A9 Om Om |skip
      ·have C:i=v.obj.length:=by simp at M;omega
       subst C
       (have z:=(H6 A8 z7 v.obj (A2e _));push_cast[z]<;>repeat' (first|apply Zi<;>intro _|exact Zo|apply Za)<;>push_cast[z])
       all_goals first|omega|exact λh=>h.elim|exact Nu Om Sq' rfl Sq' |exact Gj (n:=v.obj.length) (by assumption) (A2k ..)|exact Gj (n:=v.list.length) (by assumption) (A2k ..)|skip
    all_goals first|exact λh=>h.elim|exact Nu Om Sq' rfl Sq' |exact Gj (n:=v.obj.length) (by assumption) (A2k ..)|exact Gj (n:=v.list.length) (by assumption) (A2k ..)|skip
 ·refine Zl (λi=>i<=v.obj.length) (λi=>cp2 v (.slice [] true) [] 108 160 i) (λi=>v.obj.length-i) 0 Sq' ?_ λi hi=>?_
  ·unfold cp2;rw[FJ A8 z7 v.obj];apply Zw<;>push_cast [AH,Ba]
  ·unfold cp2;push_cast;refine Ad (λM=>?_) (λM=>?_)
   ·have C:i<v.obj.length:=by simpa using M
    have O:=Bc C;have N:=JT A8 z7 v.obj C;have hr:=V (v.obj.getD i zM).2 (GV.obj_lt (Ae C)) (hs.obj _ (Ae C));have U:=H4 A8 z7 v.obj zM C
    (have z:=Za O<|Za N @Aj;push_cast[z]<;>repeat' (first|apply Zi<;>intro _|refine Zc (hr ..) ?_|exact Zo|apply Za)<;>push_cast[z])<;>try omega
    refine⟨i+1,C,Om,?_⟩;apply Zw<;>push_cast [U,N,<-Aj];all_goals first|exact A9 Om Om |skip
   ·have C:i=v.obj.length:=by simp at M;omega
    subst C
    (have z:=(H6 A8 z7 v.obj (A2e _));push_cast[z]<;>repeat' (first|apply Zi<;>intro _|exact Zo|apply Za)<;>push_cast[z])
    all_goals first|omega|exact λh=>h.elim|exact Nu Om Sq' rfl Sq' |exact Gj (n:=v.obj.length) (by assumption) (A2k ..)|exact Gj (n:=v.list.length) (by assumption) (A2k ..)|skip
 all_goals first|exact λh=>h.elim|exact Nu Om Sq' rfl Sq' |exact Gj (n:=v.obj.length) (by assumption) (A2k ..)|exact Gj (n:=v.list.length) (by assumption) (A2k ..)|skip
termination_by SizeOf.sizeOf v
def JJ(v:GV)(hs:Sm v):A0 prog 141 [.agg (A7 v)] (.agg (A7 v)):=(NE v hs).res (lo_T0 v)
def Qk(l:Lga)(t:Bool)(hl:l.length<=1048576)(hs:∀e ∈ l,Sm e.2):A4 prog 207 [.slice (l.map A8) t] [] (.sref 0 0 l.length l.length 7) [(0,.rows (l.map A8) 7)]:=by
 refine Zd [] ?_
 (push_cast<;>repeat' apply Za)<;>try omega
 refine Zl (λi=>i<=l.length) (λi=>⟨[(11,iD i),(10,iD l.length),(9,.slice (l.map A8) t),(3,.sref 32 0 l.length l.length 7)],[(32,.rows (Gx A8 z7 l i) 7)],36⟩) (λi=>l.length-i) 0 Sq' ?_ λi hi=>?_
 ·rw[FJ A8 z7 l];apply Zw<;>push_cast [Ba]
 ·push_cast;refine Ad (λM=>?_) (λM=>?_)
  ·have C:i<l.length:=by simpa using M
   have O:=Bc C;have N:=JT A8 z7 l C;have hr:=JJ (l.getD i zM).2 (hs _ (Ae C));have U:=H4 A8 z7 l zM C
   (have z:=Za O<|Za N @Aj;push_cast[z]<;>repeat' (first|refine Zc (hr ..) ?_|exact Zo|apply Za)<;>push_cast[z])<;>try omega
   refine⟨i+1,C,Om,?_⟩;apply Zw<;>push_cast [U,N,<-Aj];all_goals first|exact A9 Om Om |skip
  ·have C:i=l.length:=by simp at M;omega
   subst C
   (have z:=(H6 A8 z7 l (A2e _));push_cast[z]<;>repeat' apply Za)
   apply Zr [(0,32)] rfl<;>push_cast
def c_Last(t:GT):A0 prog 421 [Ah t] (sD t.last):=by
 cases t with
 |nil=>
  rw[Bl];refine Zf [] ?_
  (push_cast<;>repeat' apply Za)
  all_goals first|rfl|simp [GT.last]|skip
 |node e k h c f l C=>
  rw[Bi];refine Zf [] ?_
  (push_cast<;>repeat' apply Za)
  all_goals simp[GT.last]
def GT.size(t:GT):Nat:=t.es.length+t.kids.length
def MB(t:GT)(h:t.size<=4611686018427387904):A0 prog 205 [Ah t] (iD t.size):=by
 cases t with
 |nil=>
  rw[Bl];refine Zf [] ?_
  (push_cast<;>repeat' apply Za)
  all_goals simp[GT.size,GT.es,GT.kids]
 |node e k hh c f l C=>
  rw[Bi];simp only[GT.size,GT.es,GT.kids] at h;refine Zf [] ?_
  (push_cast<;>repeat' (first|exact Zp|apply Za))
  simp only[GT.size,GT.es,GT.kids];rw[A9 Om Om];simp
def GT.sound(t:GT)(root:Bool):Bool:=match t with
 |.nil=>root
 |t=>!t.thin&&(root ||decide (4<=t.size))
def c_Sound(t:GT)(M:Bool)(h:t.size<=4611686018427387904):A0 prog 220 [Ah t,bD M] (bD (t.sound M)):=by
 cases t with
 |nil=>
  rw[Bl];refine Zf [] ?_
  (push_cast<;>repeat' apply Za)
  all_goals first|rfl|simp [GT.sound]
 |node e k hh c f l N=>
  have C:=MB (.node e k hh c f l N) h;simp only[GT.size,GT.es,GT.kids] at C;rw[Bi] at C|-;refine Zf [] ?_
  (have z:=trivial;push_cast<;>repeat' (first|apply Zi<;>intro _|refine Zc (C ..) ?_|apply Za)<;>push_cast)
  all_goals simp_all [GT.sound,GT.thin,GT.size,GT.es,GT.kids]
  exact decide_eq_decide.2 Om
def HR(t:GT)(h:t.es=[]):A0 prog 134 [Ah t] (.slice [] true):=by
 cases t with
 |nil=>
  rw[Bl];refine Zf [] ?_
  (push_cast<;>repeat' apply Za)
 |node e k hh c f l C=>
  simp only[GT.es] at h;subst h;rw[Bi];refine Zf [] ?_
  (push_cast<;>repeat' apply Za)
def Ea(t:GT)(h:t.es≠[])(hl:t.es.length<=1048576)(hs:∀e ∈ t.es,Sm e.2):A4 prog 134 [Ah t] [] (.sref 0 0 t.es.length t.es.length 7) [(0,.rows (t.es.map A8) 7)]:=by
 cases t with
 |nil=>exact absurd rfl h
 |node e k hh c f l N=>
  simp only[GT.es] at h hl hs|-;have hn:¬(e.length=0):=λC=>h (A2D C);rw[Bi];refine Zd [] ?_;have M:((e.length:Int)==0)=false:=So'
  (have z:=M;push_cast[z]<;>repeat' (first|refine Zs [] (Qk e false hl hs) ?_|apply Za)<;>push_cast[z])
  apply Zr [(0,128)] rfl<;>push_cast
def A1v(l:Lga)(t:Bool)(f:Nat)(hl:l.length<=4611686018427387904)(h:∀i,1<=i->i<l.length->A0 prog f [.agg (A8 (l.getD (i-1) zM)),.agg (A8 (l.getD i zM))] (bD true)):
  A0 prog 287 [.slice (l.map A8) t,.func (.func f) [] []] (bD true):=by
 refine Zf [] ?_
 (push_cast<;>repeat' apply Za)
 refine Zl (λi=>1<=i/\i<=l.length+1) (λi=>⟨[(5,iD i),(1,.func (.func f) [] []),(0,.slice (l.map A8) t)],[],10⟩) (λi=>l.length+1-i) 1 Sq' ?_ λi hi=>?_
 ·apply Zw<;>push_cast
 ·push_cast;refine Ad (λC=>?_) (λC=>?_)
  ·have M:i<l.length:=by simpa using C
   have N:IntKind.i64.wrap (↑i-1)=((i-1:Nat):Int):=by rw[A9 Om Om];omega
   have O:=Bc M;have U:=Bc (show i-1<l.length by omega);have hr:=h i hi.1 M
   (have z:=Za N<|Za O U;push_cast[z]<;>repeat' (first|refine Zv (hr ..) ?_|exact Zo|apply Za)<;>push_cast[z])<;>try omega
   refine⟨i+1,Om,Om,?_⟩;apply Zw<;>push_cast;exact A9 Om Om
  ·(push_cast<;>repeat' apply Za)
def Tu(t:GT)(i:Nat)(hi:i<t.es.length)(hs:∀e ∈ t.es,Sm e.2):A0 prog 240 [Ah t,iD i] (.tup [.agg (A8 (t.es.getD i zM)),bD true]):=by
 cases t with
 |nil=>exact absurd hi (by simp[GT.es])
 |node e k hh c f l M=>
  simp only[GT.es] at hi hs|-;have C:=Bc hi;have hr:=JJ (e.getD i zM).2 (hs _ (Ae hi));have h0:decide ((i:Int)<0)=false:=Sq';have h1:decide ((e.length:Int)<=i)=false:=So';rw[Bi];refine Zf [] ?_
  (have z:=Za C<|Za @Aj<|Za h0 h1;push_cast[z]<;>repeat' (first|refine Zc (hr ..) ?_|exact Zo|apply Za)<;>push_cast[z])<;>try omega
def loL_z6:loL z6 (A7 zV):=by simp[zV,A7,JB,JC,loL,EM,lo]
def loL_z7:loL z7 (A8 zM):=by simp[zM,A8,A7,JB,JC,loL,EM,lo]
def c_Entry0(t:GT)(i:Nat)(hi:t.es.length<=i)(hm:i<=4611686018427387904):A0 prog 240 [Ah t,iD i] (.tup [.agg (A8 zM),bD false]):=by
 cases t with
 |nil=>
  rw[Bl];refine Zf [] ?_
  (push_cast<;>repeat' (first|with_reducible apply Za))
  exact loL_z7
 |node e k hh c f l C=>
  simp only[GT.es] at hi|-;have h0:decide ((i:Int)<0)=false:=Sq';have h1:decide ((e.length:Int)<=i)=true:=So';rw[Bi];refine Zf [] ?_
  (have z:=Za h0 h1;push_cast[z]<;>repeat' (first|with_reducible apply Za))
  exact loL_z7
def c_Leaf1(x y:GE):A0 prog 288 [.agg (A8 x),.agg (A8 y)] (bD (ltS x.1 y.1)):=by
 refine Zf [] ?_
 (have z:=@Aj;push_cast[z]<;>repeat' apply Za)
def AO(l:Lga):GT:=.node l [] 0 l.length (l.getD 0 zM).1 (l.getD (l.length-1) zM).1 false
def c_Leaf(l:Lga)(t:Bool)(hl:l.length<=8)(hs:∀e ∈ l,Sm e.2)(hr:∀i,1<=i->i<l.length->ltS (l.getD (i-1) zM).1 (l.getD i zM).1=true):
  A0 prog 215 [.slice (l.map A8) t] (.tup [Ah (AO l),iD 0]):=by
 have h1:=A1v l t 288 Om λi h M=>by
  have:=c_Leaf1 (l.getD (i-1) zM) (l.getD i zM);rw[hr i h M] at this;exact this
 have h0:decide ((8:Int)<l.length)=false:=Df';unfold AO;rw[Bi];rcases A2K l.length with hz|hz
 ·have C:decide ((0:Int)<l.length)=false:=Df';refine Zf [] ?_
  (have z:=Za h0 C;push_cast[z]<;>repeat' (first|refine Zc h1 ?_|refine Zs [] (Qk l t Om hs) ?_|apply Za)<;>push_cast[z])
  all_goals first|omega|exact λh=>h.elim|exact lo_all Om Sq' rfl|skip
  all_goals rw[A2D hz];rfl
 have C:decide ((0:Int)<l.length)=true:=Dt';have N:IntKind.i64.wrap (↑l.length-1)=((l.length-1:Nat):Int):=by rw[A9 Om Om];omega
 have O:=Bc hz;have U:=Bc (show l.length-1<l.length by omega);refine Zf [] ?_
 (have z:=Za h0<|Za C<|Za N<|Za O<|Za U @Aj;push_cast[z]<;>repeat' (first|refine Zc h1 ?_|refine Zs [] (Qk l t Om hs) ?_|exact Zo|apply Za)<;>push_cast[z])
 all_goals first|omega|exact λh=>h.elim|exact lo_all Om Sq' rfl|skip
def c_CloneK(l:List GT)(hl:0<l.length)(hm:l.length<=1048576):A4 prog 208 [.slice (l.map Ar) false] [] (.gref 0 l.length) [(0,.grow (l.map Ar) 1)]:=by
 have h0:decide (l.length<=0)=false:=Df';refine Zd [] ?_
 (have z:=h0;push_cast[z]<;>repeat' apply Za)<;>try omega
 intro _
 (have z:=h0;repeat' apply Za)
 all_goals first|omega|(simp[Ar];done)|skip
 apply Zr [(0,48)] rfl<;>push_cast
def Fi(t:GT)(hl:0<t.kids.length)(hm:t.kids.length<=1048576):A4 prog 135 [Ah t] [] (.gref 0 t.kids.length) [(0,.grow (t.kids.map Ar) 1)]:=by
 cases t with
 |nil=>exact absurd hl (by simp[GT.kids])
 |node e k hh c f l C=>
  simp only[GT.kids] at hl hm|-;rw[Bi];refine Zd [] ?_
  (have z:=trivial;push_cast<;>repeat' (first|refine Zs [] (c_CloneK k hl hm) ?_|apply Za)<;>push_cast)
  apply Zr [(0,64)] rfl<;>push_cast
def A1u(l:List GT)(t:Bool)(f:Nat)(hl:l.length<=4611686018427387904)(h:∀i,1<=i->i<l.length->A0 prog f [Ah (l.getD (i-1) .nil),Ah (l.getD i .nil)] (bD true)):
  A0 prog 221 [.slice (l.map Ar) t,.func (.func f) [] []] (bD true):=by
 refine Zf [] ?_
 (push_cast<;>repeat' apply Za)
 refine Zl (λi=>1<=i/\i<=l.length+1) (λi=>⟨[(5,iD i),(1,.func (.func f) [] []),(0,.slice (l.map Ar) t)],[],10⟩) (λi=>l.length+1-i) 1 Sq' ?_ λi hi=>?_
 ·apply Zw<;>push_cast
 ·push_cast;refine Ad (λC=>?_) (λC=>?_)
  ·have M:i<l.length:=by simpa using C
   have N:IntKind.i64.wrap (↑i-1)=((i-1:Nat):Int):=by rw[A9 Om Om];omega
   have O:=Bx M;have U:=Bx (show i-1<l.length by omega);have hr:=h i hi.1 M
   (have z:=Za N<|Za O<|Za U @Ar.eq_1;push_cast[z]<;>repeat' (first|refine Zv (hr ..) ?_|exact Zo|apply Za)<;>push_cast[z])<;>try omega
   refine⟨i+1,Om,Om,?_⟩;apply Zw<;>push_cast;exact A9 Om Om
  ·(push_cast<;>repeat' apply Za)
def c_Inner1(x y:GT)(C:x≠ .nil)(M:y≠ .nil):A0 prog 222 [Ah x,Ah y] (bD (ltS x.last y.first)):=by
 cases x with
 |nil=>exact absurd rfl C
 |node=>
  cases y with
  |nil=>exact absurd rfl M
  |node=>
   rw[Bi,Bi];refine Zf [] ?_
   (push_cast<;>repeat' (first|exact Zp|apply Za))
   all_goals rfl
def Kb(l:List GT)(i:Nat):Int:=((l.take i).map GT.count).sum
def GF(l:List GT)(i:Nat):Bool:=(l.take i).any λk=>!k.sound false
def Hf{l:List α}(d:α)(h:i<l.length):l.take (i+1)=l.take i++[l.getD i d]:=by
 rw[A3j,A2f h,A29,A2f h];rfl
def A1n{l:List GT}(h:i<l.length):Kb l (i+1)=Kb l i+(l.getD i .nil).count:=by
 rw[Kb,Hf .nil h,A2F,List.sum_append];simp[Kb]
def WG{l:List GT}(h:i<l.length):GF l (i+1)=(GF l i ||!(l.getD i .nil).sound false):=by
 rw[GF,Hf .nil h,List.any_append];simp only[List.any_cons,List.any_nil,A43,GF]
def AP(l:List GT):GT:=.node [] l ((l.getD 0 .nil).height+1) (Kb l l.length) (l.getD 0 .nil).first (l.getD (l.length-1) .nil).last (GF l l.length)
def WK{l:List GT}(h:i<l.length):(l.take i).map Ar++[[Ah (l.getD i .nil)]]=(l.take (i+1)).map Ar:=by
 rw[Hf .nil h,A2F];rfl
def GT.ne_nil{t:GT}(h:t≠ .nil):∃e k hh c f l C,t=.node e k hh c f l C:=by
 cases t with
 |nil=>exact absurd rfl h
 |node e k hh c f l C=>exact ⟨e,k,hh,c,f,l,C,rfl⟩
def inK(l:List GT):Nat->D
 |0=>.slice [] true
 |i+1=>.gref 4 (i+1)
def inH(l:List GT):Nat->Hp
 |0=>[]
 |i+1=>[(4,.grow ((l.take (i+1)).map Ar) 1)]
def SX(l:List GT)(h:0<i):inK l i=.gref 4 i/\inH l i=[(4,.grow ((l.take i).map Ar) 1)]:=by
 cases i with
 |zero=>exact absurd h Sq'
 |succ i=>exact ⟨rfl,rfl⟩
def inK_zero(l:List GT)(h:i=0):inK l i=.slice [] true/\inH l i=[]:=by subst h;exact⟨rfl,rfl⟩
def inS(l:List GT)(H:Int)(i:Nat):St:=⟨[(24,iD i),(23,iD l.length),(22,.slice (l.map Ar) false),(4,.ref 128 0 0 7),(0,.slice (l.map Ar) false)],(128,.rows [[.slice [] true,inK l i,iD H,iD (Kb l i),sD bea,sD bea,bD (GF l i)]] 7)::inH l i,100⟩
def c_Inner(l:List GT)(h2:2<=l.length)(h8:l.length<=8)(hn:∀i,i<l.length->l.getD i .nil≠ .nil/\(l.getD i .nil).count≠0/\(l.getD i .nil).height=(l.getD 0 .nil).height/\(l.getD i .nil).size<=8)
  (hh:0<=(l.getD 0 .nil).height/\(l.getD 0 .nil).height<=4611686018427387904) (hc:∀i,i<=l.length->0<=Kb l i/\Kb l i<=4611686018427387904) (hr:∀i,1<=i->i<l.length->ltS (l.getD (i-1) .nil).last (l.getD i .nil).first=true):
  A0 prog 150 [.slice (l.map Ar) false] (.tup [Ah (AP l),iD 0]):=by
 have h1:=A1u l false 222 Om λi h h'=>by
  have:=c_Inner1 (l.getD (i-1) .nil) (l.getD i .nil) (hn _ Om).1 (hn _ h').1;rw[hr i h h'] at this;exact this
 have b1:decide ((l.length:Int)<2)=false:=Df';have b2:decide ((8:Int)<l.length)=false:=Df';have V:=Bx (show 0<l.length by omega);have hH:=BP (l.getD 0 .nil);have w1:IntKind.i64.wrap ((l.getD 0 .nil).height+1)=(l.getD 0 .nil).height+1:=A9 Om Om;unfold AP;rw[Bi];refine Zf [] ?_
 (have z:=Za b1<|Za b2<|Za V<|Za @Ar.eq_1 w1;push_cast[z]<;>repeat' (first|apply Zi<;>intro _|refine Zc hH ?_|exact Zo|apply Za)<;>push_cast[z])<;>try omega
 refine Zl (λi=>i<=l.length) (λi=>inS l ((l.getD 0 .nil).height+1) i) (λi=>l.length-i) 0 Sq' ?_ λi hi=>?_
 ·unfold inS inK inH;have:Kb l 0=0:=rfl;have:GF l 0=false:=rfl;apply Zw<;>push_cast;exact⟨rfl,rfl⟩
 ·unfold inS;push_cast;refine Ad (λha=>?_) (λha=>?_)
  ·have M:i<l.length:=by simpa using ha
   obtain⟨n1,n2,n3,n4⟩:=hn i M;have Y:=Bx M;have N:=ND (l.getD i .nil);have Z:=c_Sound (l.getD i .nil) false Om;have k1:=A1n M;have k2:=WG M;have k3:=WK M;have k4:=hc (i+1) M;generalize l.getD i .nil=x at n1 n2 n3 n4 Y N Z k1 k2 k3;obtain⟨e,k,a0,c,f,la,th,rfl⟩:=GT.ne_nil n1;simp only[GT.count,GT.height] at n2 n3 k1 N;rw[Bi] at N Z k3;simp only[Ar,Bi] at Y;have b3:((c:Int)==0)=false:=by simpa using n2
   have b4:IntKind.i64.wrap (a0+1)=(l.getD 0 .nil).height+1:=by rw[n3];exact w1
   have b5:IntKind.i64.wrap (Kb l i+c)=Kb l (i+1):=by rw[<-k1];exact A9 Om Om
   have k5:(l.take i).length=i:=by rw[A2x];omega
   obtain⟨g3,g4⟩:=SX l (Nat.succ_pos i);rcases A2K i with hz|hz
   ·obtain⟨O,U⟩:=inK_zero l hz;rw[O,U]
    (have z:=Za Y<|Za b3<|Za b4<|Za b5 k5;push_cast[z]<;>repeat' (first|apply Zi<;>intro _|refine Zc N ?_|refine Zc Z ?_|exact Zo|apply Za)<;>push_cast[z])
    all_goals first|omega|(intro y C;cases C;done)|(intro y C;cases A2b.1 C;rfl)|(intro y C d hd;cases A2b.1 C;cases A2b.1 hd;rfl)|(simp[Ar];done)|skip
    all_goals
     refine⟨i+1,M,Om,?_⟩;rw[g3,g4,<-k3,k2];apply Zr [(4,408)] rfl<;>push_cast
    all_goals first|exact A9 Om Om |(rw[show GF l i=true by assumption];rfl)|(rw[show GF l i=false by assumption];rfl)|skip
    all_goals
     subst hz;refine⟨⟨Av _,?_⟩,Bp _⟩;first|(rw[show GF l 0=true by assumption];rfl)|(rw[show GF l 0=false by assumption];rfl)
   ·obtain⟨O,U⟩:=SX l hz;rw[O,U]
    (have z:=Za Y<|Za b3<|Za b4<|Za b5 k5;push_cast[z]<;>repeat' (first|apply Zi<;>intro _|refine Zc N ?_|refine Zc Z ?_|exact Zo|apply Za)<;>push_cast[z])
    all_goals first|omega|(intro y C;cases C;done)|(intro y C;cases A2b.1 C;rfl)|(intro y C d hd;cases A2b.1 C;cases A2b.1 hd;rfl)|(simp[Ar];done)|skip
    all_goals
     refine⟨i+1,M,Om,?_⟩;rw[g3,g4,<-k3,k2];apply Zr [(4,408)] rfl<;>push_cast
    all_goals first|exact A9 Om Om |(rw[show GF l i=true by assumption];rfl)|(rw[show GF l i=false by assumption];rfl)
  ·have M:i=l.length:=by simp at ha;omega
   subst M;obtain⟨O,U⟩:=SX l (show 0<l.length by omega);have k5:(l.take l.length).length=l.length:=by rw[A2x];omega
   have e0:IntKind.i64.wrap (↑l.length-1)=((l.length-1:Nat):Int):=by rw[A9 Om Om];omega
   have e3:=Bx (show l.length-1<l.length by omega);have m0:=(hn 0 Om).1;have m1:=(hn (l.length-1) Om).1;generalize l.getD (l.length-1) .nil=y at m1 e3;generalize l.getD 0 .nil=x at m0 V w1;obtain⟨e,k,a0,c,f,la,th,rfl⟩:=GT.ne_nil m0;obtain⟨e',k',a1,c',f',a2,a3,rfl⟩:=GT.ne_nil m1;simp only[Ar,Bi] at V e3;rw[O,U]
   (have z:=Za e0<|Za V<|Za e3 k5;push_cast[z]<;>repeat' (first|apply Zi<;>intro _|refine Zc h1 ?_|exact Zo|apply Za)<;>push_cast[z])
   all_goals first|omega|exact λh=>h.elim|rfl|(rw[A2I];exact Bp _)|skip
def BS(p:Nat->Bool):Nat->Nat->Nat
 |i,0=>i
 |i,n+1=>if p i then i else BS p (i+1) n
def Rr{p:Nat->Bool}{n k:Nat}:∀(m i:Nat),i+m=n->i<=k->k<=n->(∀x,i<=x->x<k->p x=false)->(∀x,k<=x->x<n->p x=true)->BS p i m=k
 |0,i,h1,h2,h3,h4,h5=>by simp only[BS];omega
 |m+1,i,h1,h2,h3,h4,h5=>by
  simp only[BS];by_cases C:i=k
  ·subst C;rw[if_pos (h5 i (A2e _) Om)]
  ·rw[if_neg (by rw[h4 i (A2e _) Om];simp)];exact Rr m (i+1) Om Om h3 (λx M C=>h4 x Om C) h5
def FI(p:Nat->Bool):∀(m i:Nat),BS p i m<=i+m
 |0,i=>by simp[BS]
 |m+1,i=>by
  simp only[BS];split
  ·omega
  ·have:=FI p m (i+1);omega
def mid_eq{j:Nat}(h:i+j<9223372036854775808):IntKind.i64.wrap ((IntKind.u64.wrap (IntKind.i64.wrap (↑i+↑j))).fdiv (2^min 1 IntKind.u64.bits))=(((i+j)/2:Nat):Int):=by
 have C:IntKind.i64.wrap (↑i+↑j)=(↑i+↑j:Int):=A9 Om Om;have M:IntKind.u64.wrap (↑i+↑j:Int)=(↑i+↑j:Int):=by simp only[IntKind.wrap,IntKind.bits,IntKind.signed];simp;omega
 have N:((2:Int)^min 1 IntKind.u64.bits)=2:=by rfl
 rw[C,M,N];have O:(↑i+↑j:Int).fdiv 2=(((i+j)/2:Nat):Int):=by
  rw[Int.fdiv_eq_ediv_of_nonneg _ Dq'];omega
 rw[O];exact A9 Om Om
def LD(n:Nat)(g:Nat)(cs:List D)(p:Nat->Bool)(M:An cs=true)(hn:n<=4611686018427387904)(h:∀i,i<n->A0 prog g (iD i::cs) (bD (p i)))(hm:∀i j,i<=j->j<n->p i=true->p j=true):
  A0 prog 211 [iD n,.func (.func g) [] cs] (iD (BS p 0 n)):=by
 refine Zf [] ?_
 (push_cast<;>repeat' apply Za)
 refine AWp.loopI mixed Kq' (ι:=Nat×Nat) (λq=>q.1<=q.2/\q.2<=n/\(∀x,x<q.1->p x=false)/\(∀x,q.2<=x->x<n->p x=true)) (λq=>⟨[(5,iD q.1),(6,iD q.2),(1,.func (.func g) [] cs)],[],0⟩) (λq=>q.2-q.1) (0,n) (by simp;intro x h1 N;omega) ?_ λq Z=>?_
 ·apply Zw<;>push_cast<;>simp [M,Ch,D8,Lk,lo]
 ·obtain⟨i,j⟩:=q;obtain⟨h1,N,O,U⟩:=Z;simp only at h1 N O U;push_cast;refine Ad (λV=>?_) (λV=>?_)
  ·have a2:i<j:=by simpa using V
   have em:=mid_eq (i:=i) (j:=j) Om;have Y:(i+j)/2<n:=Om;have a0:i<=(i+j)/2/\(i+j)/2<j:=Om;generalize(i+j)/2=m at em Y a0
   (have z:=Za em @M;push_cast[z]<;>repeat' (first|apply Zi<;>intro _|refine Zv (h m Y) ?_|apply Za)<;>push_cast[z])
   ·rename_i k;simp only[A3u] at k;refine⟨(m+1,j),⟨by simp only;omega,N,λx C=>?_,U⟩,by simp only;omega,?_⟩
    ·cases hp:p x with
     |false=>rfl
     |true=>have:=hm x m (by simp only at C;omega) Y hp;rw[this] at k;cases k
    ·apply Zw<;>push_cast<;>simp [M,Ch,D8,Lk,lo];exact A9 Om Om
   ·rename_i k;simp only[A3A] at k;refine⟨(i,m),⟨by simp only;omega,by simp only;omega,O,λx C a1=>hm m x (by simp only at C;omega) a1 k⟩,by simp only;omega,?_⟩;apply Zw<;>push_cast<;>simp [M,Ch,D8,Lk,lo]
  ·(push_cast<;>repeat' apply Za)
   have:i=j:=by simp at V;omega
   subst this;rw[Rr n 0 Om (A2w _) N (λx _ C=>O x C) U]
def JK(k:Baa):(k=⟨#[]⟩)↔k.size=0:=by
 constructor
 ·intro h;subst h;rfl
 ·intro h;apply MD;have:(bl k).length=0:=h;rw[A3c.1 this];rfl
def FV(valid:Bool)(k:Baa):Int:=if k.size=0 then 8 else if 64<k.size then 6 else if valid then 0 else 3
abbrev Ty(k:Baa):D:=.ptr [sD k] 0
def Y2(k:Baa):A0 prog 136 [Ty k] (bD (decide (k.size=0))):=by
 refine Zf [] ?_
 (push_cast<;>repeat' apply Za)
 simp[JK]
def Y1(k:Baa):A0 prog 137 [Ty k] (bD (decide (64<k.size))):=by
 refine Zf [] ?_
 (push_cast<;>repeat' apply Za)
 congr 1;exact propext Om
def Y0(k:Baa)(v:Bool)(C:A0 prog 139 [sD k] (bD v)):A0 prog 138 [Ty k] (bD (!v)):=by
 refine Zf [] ?_
 (have z:=trivial;push_cast<;>repeat' (first|refine Zc (C ..) ?_|apply Za)<;>push_cast)
def A1w(k:Baa):A0 prog 85 [sD k] (.slice [[iD 8,.func (.func 136) [] [Ty k]],[iD 6,.func (.func 137) [] [Ty k]],[iD 3,.func (.func 138) [] [Ty k]]] false):=by
 refine Zf [0] ?_
 (push_cast<;>repeat' apply Za)
 all_goals simp
def A1F(k:Baa)(v:Bool)(U:A0 prog 139 [sD k] (bD v)):A0 prog 49 [sD k] (iD (FV v k)):=by
 refine Zf [] ?_
 (have z:=trivial;push_cast<;>repeat' (first|refine Zc (A1w ..) ?_|apply Za)<;>push_cast)
 refine Zl (λi=>i<=3/\(0<i->k.size≠0)/\(1<i->k.size<=64)/\(2<i->v=true)) (λi=>⟨[(8,iD i),(7,iD 3),(6,.slice [[iD 8,.func (.func 136) [] [Ty k]],[iD 6,.func (.func 137) [] [Ty k]],[iD 3,.func (.func 138) [] [Ty k]]] false)],[],0⟩) (λi=>3-i) 0 Sq' ?_ λi hi=>?_
 ·apply Zw<;>push_cast<;>simp
 ·obtain⟨h1,C,M,V⟩:=hi;have hc:i=0\/i=1\/i=2\/i=3:=Om;rcases hc with rfl|rfl|rfl|rfl
  ·(have z:=trivial;push_cast<;>repeat' (first|apply Zi<;>intro _|refine Zv (Y2 ..) ?_|apply Za)<;>push_cast)
   ·rename_i h;simp only[decide_eq_true_eq] at h;simp[FV,h]
   ·rename_i h;simp only[decide_eq_false_iff_not] at h;refine⟨1,⟨Om,λ_=>h,Om,Om⟩,Om,?_⟩;apply Zw<;>push_cast<;>simp [A9]
  ·(have z:=trivial;push_cast<;>repeat' (first|apply Zi<;>intro _|refine Zv (Y1 ..) ?_|apply Za)<;>push_cast)
   ·rename_i h;simp only[decide_eq_true_eq] at h;have:=C Om;simp[FV,h,this]
   ·rename_i h;simp only[decide_eq_false_iff_not] at h;refine⟨2,⟨Om,λ_=>C Om,λ_=>Om,Om⟩,Om,?_⟩;apply Zw<;>push_cast<;>simp [A9]
  ·(have z:=trivial;push_cast<;>repeat' (first|apply Zi<;>intro _|with_reducible apply Za|(with_reducible show A5 _ _ _ _ _ _ _ _;refine A5.callV rfl (by(try push_cast);exact Y0 _ _ U) Gda rfl (by first|rfl|push_cast) ?_)|fail)<;>push_cast)
   ·rename_i h;have N:=C Om;have Y:=M Om;have O:¬64<k.size:=Om;simp only[A3u] at h;simp[FV,N,O,h]
   ·rename_i h;simp only[A3A] at h;refine⟨3,⟨Om,λ_=>C Om,λ_=>M Om,λ_=>h⟩,Om,?_⟩;apply Zw<;>push_cast<;>simp [A9]
  ·(push_cast<;>repeat' apply Za)
   have N:=C Om;have Y:=M Om;have O:¬64<k.size:=Om;simp[FV,N,O,V]
def VV(l:List GT)(k:Baa)(i:Nat)(hi:i<l.length):A0 prog 216 [iD i,.ptr [.slice (l.map Ar) false] 0,.ptr [sD k] 0] (bD (ltS k (l.getD i .nil).first)):=by
 have C:=Bx hi;refine Zf [] ?_
 (have z:=Za C @Ar.eq_1;push_cast[z]<;>repeat' (first|refine Zc (ZL ..) ?_|exact Zo|apply Za)<;>push_cast[z])
 all_goals omega
def AS(l:List GT)(k:Baa):Nat:=BS (λi=>ltS k (l.getD i .nil).first) 0 l.length-1
def ES(l:List GT)(k:Baa)(hm:∀i j,i<=j->j<l.length->ltS k (l.getD i .nil).first=true->ltS k (l.getD j .nil).first=true)(hn:l.length<=4611686018427387904):
  A0 prog 147 [.slice (l.map Ar) false,sD k] (iD (AS l k)):=by
 have hs:=LD l.length 216 [.ptr [.slice (l.map Ar) false] 0,.ptr [sD k] 0] (λi=>ltS k (l.getD i .nil).first) (by simp only[An,D.pure,CF,A2L]) hn (λi hi=>VV l k i hi) hm;refine Zf [0,8] ?_
 (have z:=trivial;push_cast<;>repeat' (first|refine Zc (hs ..) ?_|apply Za)<;>push_cast)
 have C:=FI (λi=>ltS k (l.getD i .nil).first) l.length 0;unfold AS;generalize BS (λi=>ltS k (l.getD i .nil).first) 0 l.length=m at C;rw[A9 Om Om];split<;>omega
def c_place1(l:Lga)(t:Bool)(k:Baa)(i:Nat)(hi:i<l.length):A0 prog 212 [iD i,.ptr [.slice (l.map A8) t] 0,.ptr [sD k] 0] (bD (!ltS (l.getD i zM).1 k)):=by
 have C:=Bc hi;refine Zf [] ?_
 (have z:=Za C @Aj;push_cast[z]<;>repeat' (first|exact Zo|apply Za))<;>try omega
def AL(l:Lga)(k:Baa):Nat:=BS (λi=>!ltS (l.getD i zM).1 k) 0 l.length
def Cp(l:Lga)(k:Baa):Bool:=decide (AL l k<l.length)&&decide ((l.getD (AL l k) zM).1=k)
def LB(l:Lga)(t:Bool)(k:Baa)(hm:∀i j,i<=j->j<l.length->ltS (l.getD i zM).1 k=false->ltS (l.getD j zM).1 k=false)(hn:l.length<=4611686018427387904):
  A0 prog 143 [.slice (l.map A8) t,sD k] (.tup [iD (AL l k),bD (Cp l k)]):=by
 have hs:=LD l.length 212 [.ptr [.slice (l.map A8) t] 0,.ptr [sD k] 0] (λi=>!ltS (l.getD i zM).1 k) (by simp only[An,D.pure,Ac,A2L]) hn (λi hi=>c_place1 l t k i hi) (λi j h M N=>by have:=hm i j h M;revert this N;cases ltS (l.getD i zM).1 k<;>simp);refine Zf [0,8] ?_;rcases A2z (AL l k) l.length with hp|hp
 ·have h0:decide ((AL l k:Int)<l.length)=true:=Dt';have C:=Bc hp;unfold Cp;rw[decide_eq_true hp];unfold AL at h0 C hp|-
  (have z:=Za h0<|Za C @Aj;push_cast[z]<;>repeat' (first|refine Zc (hs ..) ?_|exact Zo|apply Za)<;>push_cast[z])<;>try omega
 ·have h0:decide ((AL l k:Int)<l.length)=false:=Df';unfold Cp;rw[Df'];unfold AL at h0 hp|-
  (have z:=h0;push_cast[z]<;>repeat' (first|refine Zc (hs ..) ?_|exact Zo|apply Za)<;>push_cast[z])
def HQ(l:Lga)(t:Bool)(hl:l.length<=8)(hs:∀e ∈ l,Sm e.2)(hr:∀i,1<=i->i<l.length->ltS (l.getD (i-1) zM).1 (l.getD i zM).1=true):
  A0 prog 146 [.slice (l.map A8) t] (Ah (AO l)):=by
 have h:=c_Leaf l t hl hs hr;refine Zf [] ?_
 (have z:=trivial;push_cast<;>repeat' (first|refine Zc h ?_|apply Za)<;>push_cast)
def En(l:List GT):GT:=if l.length=1 then l.getD 0 .nil else AP l
structure OkK(l:List GT):Prop where
 h8:l.length<=8
 hn:∀i,i<l.length->l.getD i .nil≠ .nil/\(l.getD i .nil).count≠0/\(l.getD i .nil).height=(l.getD 0 .nil).height/\(l.getD i .nil).size<=8
 hh:0<=(l.getD 0 .nil).height/\(l.getD 0 .nil).height<=4611686018427387904
 hc:∀i,i<=l.length->0<=Kb l i/\Kb l i<=4611686018427387904
 hr:∀i,1<=i->i<l.length->ltS (l.getD (i-1) .nil).last (l.getD i .nil).first=true
structure OkE(l:List GE):Prop where
 hl:l.length<=8
 hs:∀e ∈ l,Sm e.2
 hr:∀i,1<=i->i<l.length->ltS (l.getD (i-1) zM).1 (l.getD i zM).1=true
def Eu(l:List GT)(h1:1<=l.length)(h:OkK l):A0 prog 91 [.slice (l.map Ar) false] (Ah (En l)):=by
 have C:=Bx (show 0<l.length by omega);unfold En;rcases Nat.eq_or_lt_of_le h1 with hz|hz
 ·have h0:((l.length:Int)==1)=true:=So';rw[if_pos hz.symm];refine Zf [] ?_
  (have z:=Za h0<|Za C @Ar.eq_1;push_cast[z]<;>repeat' apply Za)
  all_goals first|omega|exact Av _|exact Bs _|exact Ds _|skip
 ·have h0:((l.length:Int)==1)=false:=So';have hc:=c_Inner l hz h.h8 h.hn h.hh h.hc h.hr;rw[if_neg Om];refine Zf [] ?_
  (have z:=Za h0<|Za C @Ar.eq_1;push_cast[z]<;>repeat' (first|refine Zc (hc ..) ?_|apply Za)<;>push_cast[z])
  all_goals first|omega|exact Av _|exact Bs _|exact Ds _|skip
def Bs(l:Lga):∀x ∈ l.map A8,x.length=7:=by
 intro x C;obtain⟨y,_,rfl⟩:=A2p.1 C;exact Ba y
def Ds(l:List GT):∀x ∈ l.map Ar,x.length=1:=by
 intro x C;obtain⟨y,_,rfl⟩:=A2p.1 C;rfl
def Cy{l:LLa}(h:Aa l=true):∀n,Aa (l.take n)=true:=by
 induction l with
 |nil=>intro n;simp[Aa]
 |cons x l C=>
  simp only[Aa,A2i] at h;intro n;cases n with
  |zero=>rfl
  |succ n=>simp only[A3i,Aa,h.1,C h.2 n,A2L]
def Cz{l:LLa}(h:Aa l=true):∀n,Aa (l.drop n)=true:=by
 induction l with
 |nil=>intro n;simp[Aa]
 |cons x l C=>
  simp only[Aa,A2i] at h;intro n;cases n with
  |zero=>simp only[A3W,Aa,h.1,h.2,A2L]
  |succ n=>exact C h.2 n
def Ky(l:Lga):GT×GT:=if l.length<=8 then(AO l,.nil) else(AO (l.take 4),AO (l.drop 4))
def Jf(l:List GT):GT×GT:=if l.length<=8 then(En l,.nil) else(En (l.take 4),En (l.drop 4))
def VZ(l:Lga)(h:if l.length<=8 then OkE l else OkE (l.take 4)/\OkE (l.drop 4)):
  A0 prog 145 [.slice (l.map A8) false,.func (.func 146) [] []] (.tup [Ah (Ky l).1,Ah (Ky l).2]):=by
 unfold Ky;by_cases C:l.length<=8
 ·have h0:decide ((l.length:Int)<=8)=true:=Dt';rw[if_pos C] at h|-;have hc:=HQ l false h.hl h.hs h.hr;rw[Bl];refine Zf [] ?_
  (have z:=h0;push_cast[z]<;>repeat' (first|refine Zv (hc ..) ?_|apply Za)<;>push_cast[z])
  all_goals first|omega|exact Av _|exact Bs _|exact Ds _|skip
 ·have h0:decide ((l.length:Int)<=8)=false:=Df';rw[if_neg C] at h|-;have hc:=HQ (l.take 4) false h.1.hl h.1.hs h.1.hr;have M:=HQ (l.drop 4) false h.2.hl h.2.hs h.2.hr;rw[A3U] at hc;rw[A44] at M;have N:=Cy (Ac l) 4;have O:=Cz (Ac l) 4;have U:List.take (l.length-4) (List.drop 4 (List.map A8 l))=List.drop 4 (List.map A8 l):=A2g Sq';refine Zf [] ?_
  (have z:=Za h0<|Za N<|Za O U;push_cast[z]<;>repeat' (first|refine Zv (hc ..) ?_|refine Zv (M ..) ?_|exact Zo|apply Za)<;>push_cast[z])
  all_goals first|omega|exact Av _|exact Bs _|exact Ds _|skip
def VY(l:List GT)(h1:1<=l.length)(h:if l.length<=8 then OkK l else OkK (l.take 4)/\OkK (l.drop 4)):
  A0 prog 149 [.slice (l.map Ar) false,.func (.func 91) [] []] (.tup [Ah (Jf l).1,Ah (Jf l).2]):=by
 unfold Jf;by_cases C:l.length<=8
 ·have h0:decide ((l.length:Int)<=8)=true:=Dt';rw[if_pos C] at h|-;have hc:=Eu l h1 h;rw[Bl];refine Zf [] ?_
  (have z:=h0;push_cast[z]<;>repeat' (first|refine Zv (hc ..) ?_|apply Za)<;>push_cast[z])
  all_goals first|omega|exact Av _|exact Bs _|exact Ds _|skip
 ·have h0:decide ((l.length:Int)<=8)=false:=Df';rw[if_neg C] at h|-;have hc:=Eu (l.take 4) So' h.1;have M:=Eu (l.drop 4) So' h.2;rw[A3U] at hc;rw[A44] at M;have N:=Cy (CF l) 4;have O:=Cz (CF l) 4;have U:List.take (l.length-4) (List.drop 4 (List.map Ar l))=List.drop 4 (List.map Ar l):=A2g Sq';refine Zf [] ?_
  (have z:=Za h0<|Za N<|Za O U;push_cast[z]<;>repeat' (first|refine Zv (hc ..) ?_|refine Zv (M ..) ?_|exact Zo|apply Za)<;>push_cast[z])
  all_goals first|omega|exact Av _|exact Bs _|exact Ds _|skip
def DE{α:Type}(l:List α)(i:Nat)(x:α):List α:=l.take i++x::l.drop i
def Uj(X Z:List α)(i:Nat)(x:α)(hi:i<=X.length)(U:Z.length=X.length+1-i):AI (AI (X.take i++Z) i [x]) (i+1) (X.drop i)=X.take i++x::X.drop i:=by
 have C:(X.take i).length=i:=So';have M:AI (X.take i++Z) i [x]=X.take i++x::Z.drop 1:=by
  have h1:(X.take i).drop (i+1)=[]:=A2v Om;simp only[AI,A3x];rw[A3P C,List.drop_append,h1,C,A3C];rfl
 have N:(X.take i++x::Z.drop 1).take (i+1)=X.take i++[x]:=by
  have h1:(X.take i).take (i+1)=X.take i:=A2g Om;rw[List.take_append,h1,C,A3C];rfl
 have O:(X.take i++x::Z.drop 1).drop (i+1+(X.drop i).length)=[]:=A2v (by
  simp only[A2a,A2l,A2t,C];omega)
 rw[M];simp only[AI];rw[N,O];simp
def FD{β:Type}(f:α->β)(l:List α)(i:Nat)(x:α):(DE l i x).map f=(l.map f).take i++f x::(l.map f).drop i:=by
 simp[DE,A3U,A44]
def one_encV(v:GV):∀d ∈ A7 v,AV d=true:=by
 rw[A3];intro d C;simp only[A2s,A3b,or_false] at C;rcases C with rfl|rfl|rfl|rfl|rfl|rfl<;>rfl
def UW(x:GE):∀d ∈ A8 x,AV d=true:=by
 intro d C;rcases A2s.1 C with rfl|C
 ·rfl
 ·exact one_encV _ d C
def CL(l:Lga):∀x ∈ l.map A8,∀d ∈ x,AV d=true:=by
 intro x C;obtain⟨y,_,rfl⟩:=A2p.1 C;exact UW y
def M6(l:List GT):∀x ∈ l.map Ar,∀d ∈ x,AV d=true:=by
 intro x M d C;obtain⟨y,_,rfl⟩:=A2p.1 M;rcases A2s.1 C with rfl|C
 ·exact Bg y
 ·cases C
def ST(x:GE):∀y ∈ [A8 x],y.length=7:=λy C=>by cases A2b.1 C;exact Ba x
def SB(x:GE):∀y ∈ [A8 x],∀d ∈ y,AV d=true:=λy C=>by cases A2b.1 C;exact UW x
def Rl(l:Lga)(i:Nat):∀y ∈ (l.map A8).drop i,y.length=7:=λy C=>Bs l y (A32 C)
def QU(l:Lga)(i:Nat):∀y ∈ (l.map A8).drop i,∀d ∈ y,AV d=true:=λy C=>CL l y (A32 C)
def c_insE(l:Lga)(x:GE)(i:Nat)(hi:i<=l.length)(hn:l.length<=1048576):
  A4 prog 144 [.sref 1 0 l.length l.length 7,iD i,.sref 3 0 1 1 7] [(1,.rows (l.map A8) 7),(3,.rows [A8 x] 7)] (.gref 0 (l.length+1)) [(0,.grow ((DE l i x).map A8) 7)]:=by
 rcases A2z i l.length with hz|hz
 ·have b1:((i:Int)==l.length)=false:=So';have O:IntKind.i64.wrap (↑l.length+1)=(l.length:Int)+1:=A9 Om Om;have U:IntKind.i64.wrap (↑l.length+1-↑i)=((l.length+1-i:Nat):Int):=by rw[A9 Om Om];omega
  have V:IntKind.i64.wrap (↑i+1)=(i:Int)+1:=A9 Om Om;have C:((i:Int)+1).toNat=i+1:=Om;have t2:((i:Int)+↑(l.length+1-i)).toNat=l.length+1:=Om;have Y:min 1 (l.length+1-i)=1:=Om;have t5:min (l.length-i) (l.length+1-(i+1))=l.length-i:=Om;have Z:List.take (l.length-i) (List.drop i (List.map A8 l))=List.drop i (List.map A8 l):=A2g Sq';have b2:decide ((l.length:Int)<(l.length:Int)+1)=true:=Dt';have b3:decide (i<l.length)=true:=decide_eq_true hz;have t7:i+(l.length+1-i)=l.length+1:=Om;have t8:(List.drop i (List.map A8 l)).length=l.length-i:=Sq';have key:=Uj (l.map A8) (List.replicate (l.length+1-i) z7) i (A8 x) So' Sq';simp only[z7,z6] at key;have t9:((l.length:Int)+1).toNat=l.length+1:=Om;have M:=Cy (Ac l) i;have N:=Cz (Ac l) i;refine Zd [] ?_
  (have z:=Za b1<|Za O<|Za U<|Za V<|Za C<|Za Y<|Za Z<|Za t7<|Za t8<|Za t9<|Za b2<|Za b3 @Nat.min_self;push_cast[z]<;>repeat' (first|exact Zo|apply Za))
  all_goals first|omega|exact ST x|exact SB x|exact Rl l i|exact QU l i|(simp;omega)|(simp[AI];omega)|skip
  rw[FD];apply Zr [(0,240)] rfl<;>push_cast [key,M,N]
 ·have b1:((i:Int)==l.length)=true:=So';have b2:decide (l.length+1<=l.length)=false:=Df';have C:i=l.length:=Om;subst C;refine Zd [] ?_
  (have z:=Za b1 b2;push_cast[z]<;>repeat' apply Za)
  all_goals first|omega|exact ST x|exact SB x|(simp;omega)|skip
  rw[FD];have M:=Cy (Ac l) l.length;have N:=Cz (Ac l) l.length;have p3:List.drop l.length (List.map A8 l)=[]:=A2v Sq';apply Zr [(0,144)] rfl<;>push_cast [M,N,p3]
def x_ovlK:Povl prog 218:=
 Povl.of func218 Kq' Kq' Kq' Kq' Kq' (size:=1) (tS:=157) (tR:=4) (e:=69) (λw=>Kq')
def unD_encT(b c cap sz:Nat)(t:GT):unD b c cap sz (Ah t)=Ah t:=by cases t<;>simp only[Ah]<;>rfl
def unD_encK(b c cap sz:Nat)(t:GT):(Ar t).map (unD b c cap sz)=Ar t:=by simp only[Ar,A2m,A2E,unD_encT]
def grS_encT(b c n cap:Nat)(t:GT):grS b c n cap (Ah t)=Ah t:=by cases t<;>simp only[Ah]<;>rfl
def Vi(b c n cap:Nat)(t:GT):(Ar t).map (grS b c n cap)=Ar t:=by simp only[Ar,A2m,A2E,grS_encT]
def Lm(x:GT):∀y ∈ [Ar x],y.length=1:=λy C=>by cases A2b.1 C;rfl
def Jr(x:GT):∀y ∈ [Ar x],∀d ∈ y,AV d=true:=λy M d C=>by
 cases A2b.1 M;rcases A2s.1 C with rfl|C
 ·exact Bg x
 ·cases C
def Mk(l:List GT)(i:Nat):∀y ∈ (l.map Ar).drop i,y.length=1:=λy C=>Ds l y (A32 C)
def M7(l:List GT)(i:Nat):∀y ∈ (l.map Ar).drop i,∀d ∈ y,AV d=true:=λy C=>M6 l y (A32 C)
def A0V(l:List GT)(c m i:Nat):∀y ∈ List.take m (List.drop i (List.map Ar l++List.replicate c [D.any])),y.length=1:=by
 intro y C;rcases A2Y.1 (A32 (A34 C)) with h|h
 ·exact Ds l y h
 ·rw[(List.mem_replicate.1 h).2];rfl
def YQ(X Y:List α){n:Nat}(hn:X.length=n)(hi:i<=n):((X++Y).drop i).take (n-i)=X.drop i:=by
 rw[List.drop_append_of_le_length Om,A3r So',A2g So']
def U6(X Y:List α)(x:α){n:Nat}(hn:X.length=n)(hi:i<=n)(V:0<Y.length):(AI (AI (X++Y) (i+1) (X.drop i)) i [x]).take (n+1)=X.take i++x::X.drop i:=by
 have C:(X.take i).length=i:=So';have M:(X++Y).take (i+1)=X.take i++((X.drop i++Y).take 1):=by
  have:X++Y=X.take i++(X.drop i++Y):=by rw[<-A2c,A2O]
  rw[this,List.take_append,A2g Om,C,A3C]
 obtain⟨z,hz⟩:∃z,(X.drop i++Y).take 1=[z]:=by
  cases h:X.drop i++Y with
  |nil=> have h1:(X.drop i++Y).length=0:=by rw[h];rfl
         rw[A2a] at h1;omega
  |cons z r=>exact ⟨z,rfl⟩
 rw[hz] at M;have N:AI (X++Y) (i+1) (X.drop i)=X.take i++z::(X.drop i++(X++Y).drop (i+1+(X.drop i).length)):=by
  simp only[AI];rw[M];simp
 rw[N];generalize(X++Y).drop (i+1+(X.drop i).length)=W;have O:AI (X.take i++z::(X.drop i++W)) i [x]=X.take i++x::(X.drop i++W):=by
  have h1:(X.take i).drop (i+1)=[]:=A2v Om;simp only[AI,A3x];rw[A3P C,List.drop_append,h1,C,A3C];rfl
 rw[O];have U:X.take i++x::(X.drop i++W)=(X.take i++x::X.drop i)++W:=Sq';rw[U,A3r So',A2g So']
def c_insK(l:List GT)(x:GT)(i:Nat)(hi:i<=l.length)(h0:0<l.length)(hn:l.length<=1048576):
  A4 prog 148 [.gref 1 l.length,iD i,.sref 3 0 1 1 1] [(1,.grow (l.map Ar) 1),(3,.rows [Ar x] 1)] (.gref 0 (l.length+1)) [(0,.grow ((DE l i x).map Ar) 1)]:=by
 refine A4.of_awp func148 rfl ntmps148 Kq' Sq' (congrArg Array.toList results148) (AWp.sz λH Hb=>AWp.ungrow (b:=1) rfl (λa2=>?_) (λcap a3 a4 a5=>Zy ?_))
 ·have:l.length=0:=by simpa using congrArg List.length a2
  omega
 have a6:l.length<=cap:=by simpa using a3
 have V:IntKind.i64.wrap (↑l.length+1)=(l.length:Int)+1:=A9 Om Om;have Y:IntKind.i64.wrap (↑l.length+1-↑i)=((l.length+1-i:Nat):Int):=by rw[A9 Om Om];omega
 have Z:IntKind.i64.wrap (↑i+1)=(i:Int)+1:=A9 Om Om;have t1:((i:Int)+1).toNat=i+1:=Om;have t2:((i:Int)+↑(l.length+1-i)).toNat=l.length+1:=Om;have N:min 1 (l.length+1-i)=1:=Om;have O:((l.length:Int)+1).toNat=l.length+1:=Om;have t7:i+(l.length+1-i)=l.length+1:=Om;have m1:(List.map Ar l++List.replicate (cap-l.length) [D.any]).length=cap:=So';have C:=unD_encK 1 8 cap 1 x;have r1:List.take i (List.map Ar l++List.replicate (cap-l.length) [D.any])=List.take i (List.map Ar l):=A3r So';have r2:List.take (l.length-i) (List.drop i (List.map Ar l++List.replicate (cap-l.length) [D.any]))=List.drop i (List.map Ar l):=YQ _ _ Sq' hi;have r3:List.take (l.length-i) (List.take (l.length+1-i) (List.drop i (List.map Ar l++List.replicate (cap-l.length) [D.any])))=List.drop i (List.map Ar l):=by
  rw[List.take_take,Nat.min_eq_left Om,r2]
 have t8:(List.drop i (List.map Ar l)).length=l.length-i:=Sq';have p1:=Cy (CF l) i;have p2:=Cz (CF l) i;rcases A2z i l.length with hz|hz
 ·have b1:((i:Int)==l.length)=false:=So';have t5:min (l.length-i) (l.length+1-(i+1))=l.length-i:=Om;have t6:List.take (l.length-i) (List.drop i (List.map Ar l))=List.drop i (List.map Ar l):=A2g Sq';have b3:decide (i<cap)=true:=Dt';have b4:decide (i+1<l.length+1)=true:=Dt';rcases A2z cap (l.length+1) with hq|hq
  ·have b2:decide ((cap:Int)<(l.length:Int)+1)=true:=Dt';have key:=Uj (l.map Ar) (List.replicate (l.length+1-i) [D.val (Value.pointer none)]) i (Ar x) So' Sq'
   (have z:=Za b1<|Za V<|Za Y<|Za Z<|Za t1<|Za t2<|Za N<|Za t5<|Za @Nat.min_self<|Za t6<|Za t7<|Za t8<|Za O<|Za b2<|Za b3<|Za b4<|Za m1<|Za C<|Za r1 r2;push_cast[z]<;>repeat' (first|exact Zo|apply Za))
   all_goals first|omega|exact Lm x|exact Jr x|exact Mk l i|exact M7 l i|(simp;omega)|(simp[AI];omega)|skip
   rw[FD];apply Zr [(0,242)] rfl<;>push_cast [N,t5,Nat.min_self,t6,t8,O,C,r1,r2,key,p1,p2]
  ·have b2:decide ((cap:Int)<(l.length:Int)+1)=false:=Df';have b5:decide (i+1<cap)=true:=Dt';have a0:(List.take (l.length+1-i) (List.drop i (List.map Ar l++List.replicate (cap-l.length) [D.any]))).length=l.length+1-i:=So';have a1:min (l.length+1-i) (l.length-i)=l.length-i:=Om;have key:=U6 (l.map Ar) (List.replicate (cap-l.length) [D.any]) (Ar x) (i:=i) (n:=l.length) Sq' hi So';have M:(AI (AI (List.map Ar l++List.replicate (cap-l.length) [D.any]) (i+1) (List.drop i (List.map Ar l))) i [Ar x]).length=cap:=by simp[AI];omega
   (have z:=Za b1<|Za V<|Za Y<|Za Z<|Za t1<|Za t2<|Za N<|Za t5<|Za @Nat.min_self<|Za t7<|Za O<|Za a0<|Za a1<|Za b2<|Za b3<|Za b4<|Za b5<|Za m1<|Za C r3;push_cast[z]<;>repeat' (first|exact Zo|with_reducible apply Za|(with_reducible show A5 _ _ _ _ _ _ _ _;refine A5.ovl x_ovlK Gda rfl rfl rfl rfl Dq' ?_ ?_)|fail)<;>push_cast[z])
   all_goals first|omega|exact Lm x|exact Jr x|exact Mk l i|exact M7 l i|exact A0V l _ _ i|(simp;omega)|(simp[AI];omega)|skip
   rw[FD];refine Aq.trans (Aq.regrow (b:=8) (l.length+1) rfl ?_ ?_) ?_
   ·push_cast[a0,a1,r3,C,M];omega
   ·push_cast[a0,a1,r3,C,M];omega
   push_cast[a0,a1,r3,C,M,key,Vi];apply Zr [(0,418)] rfl<;>push_cast [p1,p2]
 ·have b1:((i:Int)==l.length)=true:=So';have ei:i=l.length:=Om;subst ei;have U:List.drop l.length (List.map Ar l)=[]:=A2v Sq';have p4:List.take l.length (List.map Ar l)=List.map Ar l:=A2g Sq';rcases A2z cap (l.length+1) with hq|hq
  ·have b2:decide (l.length+1<=cap)=false:=Df'
   (have z:=Za b1<|Za V<|Za Y<|Za Z<|Za t1<|Za t2<|Za N<|Za t7<|Za O<|Za b2<|Za m1 C;push_cast[z]<;>repeat' (first|exact Zo|apply Za))
   all_goals first|omega|exact Lm x|exact Jr x|(simp;omega)|(simp[AI];omega)|skip
   rw[FD];apply Zr [(0,146)] rfl<;>push_cast [r1,p1,p2,U,p4]
  ·have b2:decide (l.length+1<=cap)=true:=Dt'
   (have z:=Za b1<|Za V<|Za Y<|Za Z<|Za t1<|Za t2<|Za N<|Za t7<|Za O<|Za b2<|Za m1 C;push_cast[z]<;>repeat' (first|exact Zo|apply Za))
   all_goals first|omega|exact Lm x|exact Jr x|(simp;omega)|(simp[AI];omega)|skip
   have key:=U6 (l.map Ar) (List.replicate (cap-l.length) [D.any]) (Ar x) (i:=l.length) (n:=l.length) Sq' hi So';rw[U,Ef] at key;have M:(AI (List.map Ar l++List.replicate (cap-l.length) [D.any]) l.length [Ar x]).length=cap:=by simp[AI];omega
   rw[FD,U];refine Aq.trans (Aq.regrow (b:=8) (l.length+1) rfl ?_ ?_) ?_
   ·push_cast[M];omega
   ·push_cast[M];omega
   push_cast[M,key,U,p4,Vi];apply Zr [(0,162)] rfl<;>push_cast [p1,p2,U,p4]
def Cr{α:Type}(l:List α)(i:Nat):List α:=l.take i++l.drop (i+1)
def setL_cut(X:List α)(i n:Nat)(z:α)(hn:X.length=n)(hi:i<n):AI (AI X i (X.drop (i+1))) (n-1) [z]=X.take i++X.drop (i+1)++[z]:=by
 have C:(X.take i++X.drop (i+1)).length=n-1:=So';have M:AI X i (X.drop (i+1))=(X.take i++X.drop (i+1))++X.drop (n-1):=by
  simp only[AI];have:i+(X.drop (i+1)).length=n-1:=So';rw[this,A2c]
 rw[M];simp only[AI,A3x];rw[A3P C];have N:((X.take i++X.drop (i+1))++X.drop (n-1)).drop (n-1+1)=[]:=A2v (by rw[A2a,C,A2t];omega);rw[N,A2y]
def K2{β:Type}(f:α->β)(l:List α)(i:Nat):(Cr l i).map f=(l.map f).take i++(l.map f).drop (i+1):=by simp[Cr,A3U,A44]
def c_delE(l:Lga)(i:Nat)(hi:i<l.length)(hn:l.length<=1048576):
  A4 prog 204 [.sref 1 0 l.length l.length 7,iD i,iD ((i+1:Nat):Int)] [(1,.rows (l.map A8) 7)] (.sref 1 0 (l.length-1) l.length 7) [(1,.rows ((Cr l i).map A8++[z7]) 7)]:=by
 have b1:((i:Int)==(i:Int)+1)=false:=So';have O:((i:Int)+1).toNat=i+1:=Om;have w1:IntKind.i64.wrap (↑l.length-1)=((l.length-1:Nat):Int):=by rw[A9 Om Om];omega
 have b5:decide (l.length-1<l.length)=true:=Dt';have t9:(((l.length-1:Nat):Int)).toNat=l.length-1:=Om;have U:(i+1==0)=false:=rfl;have V:l.length-(l.length-1)=1:=Om;have key:=setL_cut (l.map A8) i l.length z7 Sq' hi;have Y:=Cy (Ac l) i;have Z:=Cz (Ac l) (i+1);simp only[z7,z6] at key;rcases A2z (i+1) l.length with hz|hz
 ·have M:decide (i+1<l.length)=true:=decide_eq_true hz;have tk:List.take (l.length-(i+1)) (List.drop (i+1) (List.map A8 l))=List.drop (i+1) (List.map A8 l):=A2g Sq';have t2:(List.drop (i+1) (List.map A8 l)).length=l.length-(i+1):=Sq';have C:i+(l.length-(i+1))=l.length-1:=Om;have N:decide (l.length-1<=l.length)=true:=Dt';refine Zd [] ?_
  (have z:=Za b1<|Za O<|Za M<|Za N<|Za b5<|Za tk<|Za t2<|Za C<|Za V U;push_cast[z]<;>repeat' (first|exact Zo|apply Za))
  all_goals first|omega|exact Rl l _|exact QU l _|(simp;done)|skip
  all_goals first|(simp[AI];omega)|skip
  rw[K2];apply Zw<;>push_cast [V,key,Y,Z]
 ·have M:decide (i+1<l.length)=false:=Df';have N:decide (i<=l.length)=true:=Dt';have C:l.length-1=i:=Om;have b6:decide (i<l.length)=true:=Dt';have t5:l.length-i=1:=Om;have p3:List.drop (i+1) (List.map A8 l)=[]:=A2v So';rw[p3,Ef,C,A2y] at key;rw[C];refine Zd [] ?_
  (have z:=Za b1<|Za O<|Za M<|Za N<|Za b6<|Za t5<|Za U @Ef;push_cast[z]<;>repeat' (first|exact Zo|apply Za))
  all_goals first|omega|(intro y hy;cases hy;done)|(simp;done)|(simp;omega)|skip
  rw[K2,p3];apply Zw<;>push_cast [t5,key,Y,Z]
def take_cut(X Y:List α)(i n:Nat)(z:α)(hn:X.length=n)(hi:i<n):(AI (AI (X++Y) i (X.drop (i+1))) (n-1) [z]).take (n-1)=X.take i++X.drop (i+1):=by
 have M:(X.take i++X.drop (i+1)).length=n-1:=So';have C:∃W,AI (X++Y) i (X.drop (i+1))=(X.take i++X.drop (i+1))++W:=by
  refine⟨(X++Y).drop (i+(X.drop (i+1)).length),?_⟩;simp only[AI];rw[A3r Om,A2c]
 obtain⟨W,C⟩:=C;rw[C];simp only[AI];rw[A3P M,A3P M]
def c_delK(l:List GT)(i:Nat)(hi:i<l.length)(hn:l.length<=1048576):
  A4 prog 284 [.gref 1 l.length,iD i,iD ((i+1:Nat):Int)] [(1,.grow (l.map Ar) 1)] (.gref 0 (l.length-1)) [(0,.grow ((Cr l i).map Ar) 1)]:=by
 refine A4.of_awp func284 rfl ntmps284 Kq' Sq' (congrArg Array.toList results284) (AWp.sz λH Hb=>AWp.ungrow (b:=1) rfl (λa0=>?_) (λcap a1 a2 a3=>Zy ?_))
 ·have:l.length=0:=by simpa using congrArg List.length a0
  omega
 have a4:l.length<=cap:=by simpa using a1
 have b1:((i:Int)==(i:Int)+1)=false:=So';have U:((i:Int)+1).toNat=i+1:=Om;have V:(i+1==0)=false:=rfl;have Y:(List.map Ar l++List.replicate (cap-l.length) [D.any]).length=cap:=So';have t3:i+(l.length-(i+1))=l.length-1:=Om;have t4:l.length-(l.length-1)=1:=Om;have Z:decide (i<cap)=true:=Dt';have b4:decide (l.length-1<=cap)=true:=Dt';have b5:decide (l.length-1<cap)=true:=Dt';have r2:List.take (l.length-(i+1)) (List.drop (i+1) (List.map Ar l++List.replicate (cap-l.length) [D.any]))=List.drop (i+1) (List.map Ar l):=YQ _ _ Sq' hi;have t2:(List.drop (i+1) (List.map Ar l)).length=l.length-(i+1):=Sq';have key:=take_cut (l.map Ar) (List.replicate (cap-l.length) [D.any]) i l.length [D.val (Value.pointer none)] Sq' hi;have C:(AI (AI (List.map Ar l++List.replicate (cap-l.length) [D.any]) i (List.drop (i+1) (List.map Ar l))) (l.length-1) [[D.val (Value.pointer none)]]).length=cap:=by simp[AI];omega
 have p1:=Cy (CF l) i;have p2:=Cz (CF l) (i+1);rcases A2z (i+1) cap with hz|hz
 ·have M:decide (i+1<cap)=true:=decide_eq_true hz
  (have z:=Za b1<|Za U<|Za V<|Za Y<|Za t2<|Za t3<|Za t4<|Za Z<|Za b4<|Za b5<|Za M r2;push_cast[z]<;>repeat' (first|exact Zo|apply Za))
  all_goals first|omega|exact Mk l _|exact M7 l _|(simp;done)|(simp[AI];omega)|skip
  rw[K2];refine Aq.trans (Aq.regrow (b:=8) (l.length-1) rfl ?_ ?_) ?_
  ·push_cast[C];omega
  ·push_cast[C];omega
  push_cast[C,key];apply Zr [(0,242)] rfl<;>push_cast [p1,p2]
 ·have M:decide (i+1<cap)=false:=Df';have t5:l.length-i=1:=Om;have N:l.length-1=i:=Om;have O:List.drop (i+1) (List.map Ar l)=[]:=A2v So';rw[O,Ef,A2y,N] at key;rw[O,Ef,N] at C;rw[K2,O,A2y,N];have b7:decide (i<=cap)=true:=Dt'
  (have z:=Za b1<|Za U<|Za V<|Za Y<|Za Z<|Za M<|Za b7<|Za t5 @Ef;push_cast[z]<;>repeat' (first|exact Zo|apply Za))
  all_goals first|omega|(intro y hy;cases hy;done)|(simp;done)|(simp;omega)|skip
  refine Aq.trans (Aq.regrow (b:=8) i rfl ?_ ?_) ?_
  ·push_cast[C];omega
  ·push_cast[C];omega
  push_cast[C,key];apply Zr [(0,242)] rfl<;>push_cast [p1]
def c_insE0(x:GE):A4 prog 144 [.slice [] true,iD 0,.sref 3 0 1 1 7] [(3,.rows [A8 x] 7)] (.gref 0 1) [(0,.grow [A8 x] 7)]:=by
 refine Zd [] ?_
 (push_cast<;>repeat' apply Za)
 all_goals first|omega|exact ST x|exact SB x|(intro y C;cases C;done)|skip
 apply Zr [(0,144)] rfl<;>push_cast
def FR(e:GE):nd (A8 e) 0=sD e.1:=rfl
def ER(e:GE):(A8 e).drop 7=[]:=A2v (by rw[Ba];exact A2e _)
def Fh(l:Lga)(e:GE):Lga:=if Cp l e.1=true then l.set (AL l e.1) e else DE l (AL l e.1) e
def c_with0(t:GT)(e:GE)(h0:t.height=0)(hl:t.es≠[])(h8:t.es.length<=8)(hs:∀e ∈ t.es,Sm e.2)(hm:∀i j,i<=j->j<t.es.length->ltS (t.es.getD i zM).1 e.1=false->ltS (t.es.getD j zM).1 e.1=false)
  (a0:if (Fh t.es e).length<=8 then OkE (Fh t.es e) else OkE ((Fh t.es e).take 4)/\OkE ((Fh t.es e).drop 4)):
  A0 prog 90 [Ah t,.agg (A8 e)] (.tup [Ah (Ky (Fh t.es e)).1,Ah (Ky (Fh t.es e)).2]):=by
 have M:=BP t;rw[h0] at M;have hE:=Ea t hl Om hs;have hp:=LB t.es false e.1 hm Om;have C:=VZ _ a0;have a4:=FI (λi=>!ltS (t.es.getD i zM).1 e.1) 0 t.es.length;have a1:AL t.es e.1<=t.es.length:=by have:=FI (λi=>!ltS (t.es.getD i zM).1 e.1) t.es.length 0;unfold AL;omega
 have tk:List.take t.es.length (List.map A8 t.es)=List.map A8 t.es:=A2g Sq';refine Zf [0] ?_;cases hh:Cp t.es e.1 with
 |true=>
  have hlt:AL t.es e.1<t.es.length:=by
   unfold Cp at hh;simp only[A2i,decide_eq_true_eq] at hh;exact hh.1
  unfold Fh at C|-;rw[if_pos hh] at C|-;rw[hh] at hp;have d7:List.drop 7 (nr (List.map A8 t.es) (AL t.es e.1))=[]:=by rw[Bc hlt];exact A2v (by rw[Ba];exact A2e _)
  have ms:(List.map A8 t.es).set (AL t.es e.1) (A8 e)=List.map A8 (t.es.set (AL t.es e.1) e):=(A3L ..).symm;have a2:List.take t.es.length (List.map A8 (t.es.set (AL t.es e.1) e))=List.map A8 (t.es.set (AL t.es e.1) e):=A2g Sq';have N:=FR e;have O:=Ba e;have U:=Ap e;have V:=BW e;have Y:=CI e;have Z:=ER e;generalize A8 e=X at*
  (have z:=Za tk<|Za a2<|Za d7<|Za ms<|Za N<|Za O<|Za U<|Za V<|Za Y Z;push_cast[z]<;>repeat' (first|refine Zc M ?_|refine Zs [] hE ?_|refine Zq (hp ..) ?_ ?_|refine Zg C ?_ ?_|apply Za)<;>push_cast[z])
  all_goals first|omega|(simp;done)|skip
 |false=>
  unfold Fh at C|-;rw[if_neg (by rw[hh];simp)] at C|-;rw[hh] at hp;have hi:=c_insE t.es e (AL t.es e.1) a1 Om;have a3:(DE t.es (AL t.es e.1) e).length=t.es.length+1:=by simp[DE];omega
  have N:=FR e;have O:=Ba e;have U:=Ap e;have V:=BW e;have Y:=CI e;have Z:=ER e;generalize A8 e=X at*
  (have z:=Za tk<|Za N<|Za O<|Za U<|Za V<|Za Y<|Za Z @a3;push_cast[z]<;>repeat' (first|refine Zc M ?_|refine Zs [] hE ?_|refine Zq (hp ..) ?_ ?_|refine Zs [(1,56),(3,176)] (hi ..) ?_|refine Zg C ?_ ?_|apply Za)<;>push_cast[z])
  all_goals first|omega|(simp;done)|skip
def c_withN(t:GT)(e:GE)(h0:t.height=0)(hl:t.es=[])(N:Sm e.2):
  A0 prog 90 [Ah t,.agg (A8 e)] (.tup [Ah (AO [e]),Ah .nil]):=by
 have M:=BP t;rw[h0] at M;have hE:=HR t hl;have hp:=LB [] true e.1 (λi j _ h=>absurd h Sq') Sq';have O:AL [] e.1=0:=rfl;have U:Cp [] e.1=false:=rfl;rw[O,U] at hp;have V:OkE [e]:=⟨Sq',λx Y=>by rw[A2b.1 Y];exact N,λi h Z=>absurd Z So'⟩
 have C:=VZ [e] (by rw[if_pos Sq'];exact V);have a0:Ky [e]=(AO [e],.nil):=rfl;rw[a0] at C;have hi:=c_insE0 e;simp only[A2E,A2m] at hp C;refine Zf [0] ?_;have x0:=FR e;have x1:=Ba e;have x2:=Ap e;have x3:=BW e;have x4:=CI e;have x5:=ER e;generalize A8 e=X at*
 (have z:=Za x0<|Za x1<|Za x2<|Za x3<|Za x4 x5;push_cast[z]<;>repeat' (first|refine Zc M ?_|refine Zc hE ?_|refine Zc (hp ..) ?_|refine Zs [(3,176)] (hi ..) ?_|refine Zg C ?_ ?_|apply Za)<;>push_cast[z])
 all_goals first|omega|(simp;done)|skip
def Cl{t:GT}(h:t≠ .nil):∃cs,Ah t=.ptr cs 0:=by
 obtain⟨e,k,hh,c,f,l,C,rfl⟩:=GT.ne_nil h;exact⟨_,Bi ..⟩
def c_withI(t:GT)(e:GE)(L:GT)(h0:t.height≠0)(h1:0<t.kids.length)(h8:t.kids.length<=8)(hm:∀i j,i<=j->j<t.kids.length->ltS e.1 (t.kids.getD i .nil).first=true->ltS e.1 (t.kids.getD j .nil).first=true)(hi:AS t.kids e.1<t.kids.length)
  (C:A0 prog 90 [Ah (t.kids.getD (AS t.kids e.1) .nil),.agg (A8 e)] (.tup [Ah L,Ah .nil]))
  (U:OkK (t.kids.set (AS t.kids e.1) L)) (V:L≠ .nil):
  A0 prog 90 [Ah t,.agg (A8 e)] (.tup [Ah (En (t.kids.set (AS t.kids e.1) L)),Ah .nil]):=by
 have Y:=BP t;have b0:(t.height==0)=false:=by simpa using h0
 have Z:=Fi t h1 Om;have hw:=ES t.kids e.1 hm Om;have M:=VY (t.kids.set (AS t.kids e.1) L) So' (by rw[if_pos So'];exact U);have a0:Jf (t.kids.set (AS t.kids e.1) L)=(En (t.kids.set (AS t.kids e.1) L),.nil):=by unfold Jf;rw[if_pos So']
 rw[a0] at M;have ea:=Bx hi;have O:(List.map Ar t.kids).set (AS t.kids e.1) [Ah L]=List.map Ar (t.kids.set (AS t.kids e.1) L):=(A3L (f:=Ar) ..).symm;rw[Bl] at C M|-;obtain⟨cs,a1⟩:=Cl V;have N:=A6 L;rw[a1] at N C O;simp only[D.pure] at N;have x0:=FR e;have x1:=Ba e;have x2:=Ap e;have x3:=BW e;have x4:=CI e;have x5:=ER e;generalize A8 e=X at*;refine Zf [0] ?_
 (have z:=Za x0<|Za x1<|Za x2<|Za x3<|Za x4<|Za x5<|Za b0<|Za ea<|Za @Ar.eq_1<|Za N O;push_cast[z]<;>repeat' (first|refine Zc Y ?_|refine Zs [] Z ?_|refine Zq (hw ..) ?_ ?_|refine Zc (C ..) ?_|refine Zg M ?_ ?_|exact Zo|apply Za)<;>push_cast[z])
 all_goals first|omega|(simp;done)|skip
def c_withJ(t:GT)(e:GE)(L R:GT)(h0:t.height≠0)(h1:0<t.kids.length)(h8:t.kids.length<=8)(hm:∀i j,i<=j->j<t.kids.length->ltS e.1 (t.kids.getD i .nil).first=true->ltS e.1 (t.kids.getD j .nil).first=true)(hi:AS t.kids e.1<t.kids.length)
  (M:A0 prog 90 [Ah (t.kids.getD (AS t.kids e.1) .nil),.agg (A8 e)] (.tup [Ah L,Ah R])) (Z:L≠ .nil) (hR:R≠ .nil) (l:List GT) (hl:l=DE (t.kids.set (AS t.kids e.1) L) (AS t.kids e.1+1) R)
  (a0:if l.length<=8 then OkK l else OkK (l.take 4)/\OkK (l.drop 4)):
  A0 prog 90 [Ah t,.agg (A8 e)] (.tup [Ah (Jf l).1,Ah (Jf l).2]):=by
 have hH:=BP t;have b0:(t.height==0)=false:=by simpa using h0
 have hK:=Fi t h1 Om;have hw:=ES t.kids e.1 hm Om;have a1:l.length=t.kids.length+1:=by rw[hl];simp[DE];omega
 have hS:=VY l Om a0;have C:=c_insK (t.kids.set (AS t.kids e.1) L) R (AS t.kids e.1+1) So' So' So';rw[<-hl,A3l] at C;have ea:=Bx hi;have U:(List.map Ar t.kids).set (AS t.kids e.1) [Ah L]=List.map Ar (t.kids.set (AS t.kids e.1) L):=(A3L (f:=Ar) ..).symm;obtain⟨cs,a2⟩:=Cl Z;obtain⟨rs,V⟩:=Cl hR;have N:=A6 L;have O:=A6 R;have er:Ar R=[Ah R]:=rfl;rw[er,V] at C;rw[a2] at N M U;rw[V] at O M;simp only[D.pure] at N O;have Y:IntKind.i64.wrap (((AS t.kids e.1:Nat):Int)+1)=((AS t.kids e.1+1:Nat):Int):=by rw[A9 Om Om];omega
 push_cast at Y C;have x0:=FR e;have x1:=Ba e;have x2:=Ap e;have x3:=BW e;have x4:=CI e;have x5:=ER e;generalize A8 e=X at*;refine Zf [0] ?_
 (have z:=Za x0<|Za x1<|Za x2<|Za x3<|Za x4<|Za x5<|Za b0<|Za ea<|Za @Ar.eq_1<|Za N<|Za O<|Za U<|Za Y @a1;push_cast[z]<;>repeat' (first|refine Zc hH ?_|refine Zs [] hK ?_|refine Zq (hw ..) ?_ ?_|refine Zc (M ..) ?_|refine Zs [(1,56),(3,288)] C ?_|refine Zg hS ?_ ?_|exact Zo|apply Za)<;>push_cast[z])
 all_goals first|omega|(simp;done)|skip
def Pb:∀(a b:LLa),Aa (a++b)=(Aa a&&Aa b)
 |[],b=>by simp[Aa]
 |x::a,b=>by simp[Aa,Pb a b,Bool.and_assoc]
attribute [push_cast] Pb Aa
def c_insE1(l:Lga)(x:GE)(hl:0<l.length)(hn:l.length<=1048576):
  A4 prog 144 [.sref 1 0 l.length l.length 7,iD 0,.sref 3 0 1 1 7] [(1,.rows (l.map A8) 7),(3,.rows [A8 x] 7)] (.gref 0 (l.length+1)) [(0,.grow ((x::l).map A8) 7)]:=by
 have h:=c_insE l x 0 (A2w _) hn;have e:DE l 0 x=x::l:=by simp[DE]
 rw[e] at h;exact h
def c_pairE1(l r:Lga)(hl:4<l.length)(a0:l.length<=9)(hr:0<r.length)(a1:r.length<=8)(h1:OkE (l.take (l.length-1)))(C:OkE (l.getD (l.length-1) zM::r)):
  A4 prog 282 [.sref 1 0 l.length l.length 7,.sref 3 0 r.length r.length 7,.func (.func 146) [] []] [(1,.rows (l.map A8) 7),(3,.rows (r.map A8) 7)]
   (.tup [Ah (AO (l.take (l.length-1))),Ah (AO (l.getD (l.length-1) zM::r))]) []:=by
 have b1:decide ((4:Int)<l.length)=true:=Dt';have O:IntKind.i64.wrap (↑l.length-1)=((l.length-1:Nat):Int):=by rw[A9 Om Om];omega
 have M:=HQ (l.take (l.length-1)) false h1.hl h1.hs h1.hr;have N:=HQ (l.getD (l.length-1) zM::r) false C.hl C.hs C.hr;have hi:=c_insE1 r (l.getD (l.length-1) zM) hr Om;have U:=Bc (show l.length-1<l.length by omega);have b2:decide (l.length-1<l.length)=true:=Dt';have V:(((l.length-1:Nat):Int)).toNat=l.length-1:=Om;rw[A3U] at M;have Y:l.length<=9223372036854775807:=Om;have Z:List.take l.length (List.map A8 l)=List.map A8 l:=A2g Sq';have p1:=Cy (Ac l) (l.length-1);generalize l.getD (l.length-1) zM=e at*;have x0:=FR e;have x1:=Ba e;have x2:=Ap e;have x3:=BW e;have x4:=CI e;have x5:=ER e;simp only[A2m] at N hi;generalize A8 e=X at*;refine Zd [1] ?_
 (have z:=Za @Nat.le_refl<|Za Y<|Za Z<|Za b1<|Za O<|Za U<|Za b2<|Za V<|Za p1<|Za x0<|Za x1<|Za x2<|Za x3<|Za x4 x5;push_cast[z]<;>repeat' (first|refine Zv (M ..) ?_|refine Zs [(1,3),(3,176)] (hi ..) ?_|exact Zo|with_reducible apply Za|(with_reducible show A5 _ _ _ _ _ _ _ _;refine A5.giveV (by(try push_cast[z]);rfl) (by(try push_cast[z]);rfl) (by(try push_cast[z]);exact N ..) Gda rfl ?_ (by push_cast[z]) ?_)|fail)<;>push_cast[z])
 all_goals first|omega|exact Bs l|exact .inr Om |(simp;done)|skip
 apply Zw<;>push_cast
def c_pairE2(l r:Lga)(hl:l.length<=4)(hr:4<r.length)(a5:r.length<=9)(h1:OkE (l++[r.getD 0 zM]))(C:OkE (r.drop 1)):
  A4 prog 282 [.sref 1 0 l.length l.length 7,.sref 3 0 r.length r.length 7,.func (.func 146) [] []] [(1,.rows (l.map A8) 7),(3,.rows (r.map A8) 7)]
   (.tup [Ah (AO (l++[r.getD 0 zM])),Ah (AO (r.drop 1))]) []:=by
 have b1:decide ((4:Int)<l.length)=false:=Df';have b2:decide ((4:Int)<r.length)=true:=Dt';have V:decide (0<r.length)=true:=Dt';have Y:decide (1<r.length)=true:=Dt';have M:=HQ (l++[r.getD 0 zM]) false h1.hl h1.hs h1.hr;have N:=HQ (r.drop 1) true C.hl C.hs C.hr;have Z:=Bc (show 0<r.length by omega);have a0:l.length<=9223372036854775807:=Om;have a1:r.length<=9223372036854775807:=Om;have a2:List.take l.length (List.map A8 l)=List.map A8 l:=A2g Sq';have a3:List.take r.length (List.map A8 r)=List.map A8 r:=A2g Sq';have a4:List.take (r.length-1) (List.drop 1 (List.map A8 r))=List.drop 1 (List.map A8 r):=A2g Sq';rw[A2F,A2m,A2E] at M;rw[A44] at N;have p1:=Cz (Ac r) 1;have O:∀x ∈ [r.getD 0 zM].map A8,x.length=7:=Bs _;have U:∀x ∈ [r.getD 0 zM].map A8,∀d ∈ x,AV d=true:=CL _;rw[A2m,A2E] at O U;generalize r.getD 0 zM=e at*;have x0:=FR e;have x1:=Ba e;have x2:=Ap e;have x3:=BW e;have x4:=CI e;have x5:=ER e;generalize A8 e=X at*;refine Zd [1,3] ?_
 (have z:=Za @Nat.le_refl<|Za a0<|Za a1<|Za a2<|Za a3<|Za a4<|Za b1<|Za b2<|Za V<|Za Y<|Za Z<|Za p1<|Za x0<|Za x1<|Za x2<|Za x3<|Za x4 x5;push_cast[z]<;>repeat' (first|refine Zv (N ..) ?_|exact Zo|with_reducible apply Za|(with_reducible show A5 _ _ _ _ _ _ _ _;refine A5.giveV (by(try push_cast[z]);rfl) (by(try push_cast[z]);rfl) (by(try push_cast[z]);exact M ..) Gda rfl ?_ (by push_cast[z]) ?_)|fail)<;>push_cast[z])
 all_goals first|omega|exact Bs _|exact CL _|exact O|exact U|exact .inr Om |(simp;done)|skip
 apply Zw<;>push_cast
def c_pairE3(l r:Lga)(hl:l.length<=4)(V:0<r.length)(hr:r.length<=4)(h1:OkE (l++r)):
  A4 prog 282 [.sref 1 0 l.length l.length 7,.sref 3 0 r.length r.length 7,.func (.func 146) [] []] [(1,.rows (l.map A8) 7),(3,.rows (r.map A8) 7)]
   (.tup [Ah (AO (l++r)),Ah .nil]) []:=by
 have b1:decide ((4:Int)<l.length)=false:=Df';have b2:decide ((4:Int)<r.length)=false:=Df';have C:=HQ (l++r) false h1.hl h1.hs h1.hr;have M:l.length<=9223372036854775807:=Om;have N:r.length<=9223372036854775807:=Om;have O:List.take l.length (List.map A8 l)=List.map A8 l:=A2g Sq';have U:List.take r.length (List.map A8 r)=List.map A8 r:=A2g Sq';rw[A2F] at C;rw[Bl];refine Zd [1,3] ?_
 (have z:=Za @Nat.le_refl<|Za M<|Za N<|Za O<|Za U<|Za b1 b2;push_cast[z]<;>repeat' (first|with_reducible apply Za|(with_reducible show A5 _ _ _ _ _ _ _ _;refine A5.giveV (by(try push_cast[z]);rfl) (by(try push_cast[z]);rfl) (by(try push_cast[z]);exact C ..) Gda rfl ?_ (by push_cast[z]) ?_)|fail)<;>push_cast[z])
 all_goals first|omega|exact Bs _|exact CL _|exact .inr Om |(simp;done)|skip
 apply Zw<;>push_cast
def c_insK0(l:List GT)(x:GT)(h0:0<l.length)(hn:l.length<=1048576):
  A4 prog 148 [.gref 1 l.length,iD 0,.sref 3 0 1 1 1] [(1,.grow (l.map Ar) 1),(3,.rows [Ar x] 1)] (.gref 0 (l.length+1)) [(0,.grow ((x::l).map Ar) 1)]:=by
 have h:=c_insK l x 0 (A2w _) h0 hn;have e:DE l 0 x=x::l:=by simp[DE]
 rw[e] at h;exact h
def c_pairK1(l r:List GT)(hl:4<l.length)(a2:l.length<=9)(hr:0<r.length)(a3:r.length<=8)(h1:OkK (l.take (l.length-1)))(O:OkK (l.getD (l.length-1) .nil::r)):
  A4 prog 283 [.gref 1 l.length,.gref 3 r.length,.func (.func 91) [] []] [(1,.grow (l.map Ar) 1),(3,.grow (r.map Ar) 1)]
   (.tup [Ah (En (l.take (l.length-1))),Ah (En (l.getD (l.length-1) .nil::r))]) []:=by
 have b1:decide ((4:Int)<l.length)=true:=Dt';have V:IntKind.i64.wrap (↑l.length-1)=((l.length-1:Nat):Int):=by rw[A9 Om Om];omega
 have U:=Eu (l.take (l.length-1)) So' h1;have C:=Eu (l.getD (l.length-1) .nil::r) Sq' O;have hi:=c_insK0 r (l.getD (l.length-1) .nil) hr Om;have M:=Bx (show l.length-1<l.length by omega);have b2:decide (l.length-1<l.length)=true:=Dt';have Y:(((l.length-1:Nat):Int)).toNat=l.length-1:=Om;rw[A3U] at U;have Z:l.length<=9223372036854775807:=Om;have p1:=Cy (CF l) (l.length-1);have a0:l.getD (l.length-1) .nil≠ .nil:=(O.hn 0 Sq').1;generalize l.getD (l.length-1) .nil=e at*;obtain⟨cs,a1⟩:=Cl a0;have N:=A6 e;simp only[A2m,Ar] at C hi M;rw[a1] at N C hi M;simp only[D.pure] at N;refine Zd [1] ?_
 (have z:=Za Z<|Za b1<|Za V<|Za M<|Za b2<|Za Y<|Za p1 N;push_cast[z]<;>repeat' (first|refine Zv (U ..) ?_|refine Zs [(1,3),(3,176)] (hi ..) ?_|exact Zo|with_reducible apply Za|(with_reducible show A5 _ _ _ _ _ _ _ _;refine A5.giveV (by(try push_cast[z]);rfl) (by(try push_cast[z]);rfl) (by(try push_cast[z]);exact C ..) Gda rfl ?_ (by push_cast[z]) ?_)|fail)<;>push_cast[z])
 all_goals first|omega|exact Ds l|exact .inr Om |(simp;done)|skip
 apply Zw<;>push_cast
def c_pairK2(l r:List GT)(hl:l.length<=4)(a5:0<l.length)(hr:4<r.length)(a6:r.length<=9)(h1:OkK (l++[r.getD 0 .nil]))(V:OkK (r.drop 1)):
  A4 prog 283 [.gref 1 l.length,.gref 3 r.length,.func (.func 91) [] []] [(1,.grow (l.map Ar) 1),(3,.grow (r.map Ar) 1)]
   (.tup [Ah (En (l++[r.getD 0 .nil])),Ah (En (r.drop 1))]) []:=by
 have b1:decide ((4:Int)<l.length)=false:=Df';have b2:decide ((4:Int)<r.length)=true:=Dt';have Y:decide (0<r.length)=true:=Dt';have Z:decide (1<r.length)=true:=Dt';have C:=Eu (l++[r.getD 0 .nil]) Sq' h1;have U:=Eu (r.drop 1) So' V;have M:=Bx (show 0<r.length by omega);have a0:l.length<=9223372036854775807:=Om;have a1:r.length<=9223372036854775807:=Om;have a2:List.take (r.length-1) (List.drop 1 (List.map Ar r))=List.drop 1 (List.map Ar r):=A2g Sq';rw[A2F,A2m,A2E] at C;rw[A44] at U;have p1:=Cz (CF r) 1;have a3:r.getD 0 .nil≠ .nil:=by
  have:=(h1.hn l.length Sq').1;simpa[A29] using this
 generalize r.getD 0 .nil=e at*;obtain⟨cs,a4⟩:=Cl a3;have N:=A6 e;have O:=Jr e;simp only[Ar] at C M O;rw[a4] at N C M O;simp only[D.pure] at N;refine Zd [3] ?_
 (have z:=Za a0<|Za a1<|Za a2<|Za b1<|Za b2<|Za Y<|Za Z<|Za M<|Za p1 N;push_cast[z]<;>repeat' (first|refine Zv (U ..) ?_|exact Zo|with_reducible apply Za|(with_reducible show A5 _ _ _ _ _ _ _ _;refine A5.giveV (by(try push_cast[z]);rfl) (by(try push_cast[z]);rfl) (by(try push_cast[z]);exact C ..) Gda rfl ?_ (by push_cast[z]) ?_)|fail)<;>push_cast[z])
 all_goals first|omega|exact Ds _|exact M6 _|exact O|(intro y hy;cases A2b.1 hy;rfl)|exact .inr Om |(simp;done)|skip
 apply Zw<;>push_cast
def c_pairK3(l r:List GT)(hl:l.length<=4)(O:0<l.length)(U:0<r.length)(hr:r.length<=4)(h1:OkK (l++r)):
  A4 prog 283 [.gref 1 l.length,.gref 3 r.length,.func (.func 91) [] []] [(1,.grow (l.map Ar) 1),(3,.grow (r.map Ar) 1)]
   (.tup [Ah (En (l++r)),Ah .nil]) []:=by
 have b1:decide ((4:Int)<l.length)=false:=Df';have b2:decide ((4:Int)<r.length)=false:=Df';have C:=Eu (l++r) So' h1;have M:l.length<=9223372036854775807:=Om;have N:r.length<=9223372036854775807:=Om;rw[A2F] at C;rw[Bl];refine Zd [3] ?_
 (have z:=Za M<|Za N<|Za b1 b2;push_cast[z]<;>repeat' (first|with_reducible apply Za|(with_reducible show A5 _ _ _ _ _ _ _ _;refine A5.giveV (by(try push_cast[z]);rfl) (by(try push_cast[z]);rfl) (by(try push_cast[z]);exact C ..) Gda rfl ?_ (by push_cast[z]) ?_)|fail)<;>push_cast[z])
 all_goals first|omega|exact Ds _|exact M6 _|exact .inr Om |(simp;done)|skip
 apply Zw<;>push_cast
def TD(h:i<=1048576)(n:Nat)(hn:n<=1048576):IntKind.i64.wrap ((i:Int)+(n:Int))=((i+n:Nat):Int):=by rw[A9 Om Om];omega
def c_mendE1(kids:List GT)(i j:Nat)(X:GT)(hj:j=i-1)(hn:kids.length<=9)(C:j+1<kids.length)(hi:i<kids.length)(Y:X≠ .nil)(Z:(kids.getD j .nil).height=0)(a0:(kids.getD j .nil).es≠[])(a8:(kids.getD j .nil).es.length<=8)(a1:∀e ∈ (kids.getD j .nil).es,Sm e.2)(a2:(kids.getD (j+1) .nil).es≠[])(a9:(kids.getD (j+1) .nil).es.length<=8)(a3:∀e ∈ (kids.getD (j+1) .nil).es,Sm e.2)
  (hp:A4 prog 282 [.sref 1 0 (kids.getD j .nil).es.length (kids.getD j .nil).es.length 7,.sref 3 0 (kids.getD (j+1) .nil).es.length (kids.getD (j+1) .nil).es.length 7,.func (.func 146) [] []] [(1,.rows ((kids.getD j .nil).es.map A8) 7),(3,.rows ((kids.getD (j+1) .nil).es.map A8) 7)] (.tup [Ah X,Ah .nil]) []):
  A4 prog 206 [.gref 1 kids.length,iD i] [(1,.grow (kids.map Ar) 1)] (.gref 0 (kids.length-1)) [(0,.grow ((Cr (kids.set j X) (j+1)).map Ar) 1)]:=by
 have m0:(if IntKind.i64.wrap ((i:Int)-1)<0 then(0:Int) else IntKind.i64.wrap ((i:Int)-1))=(j:Int):=by
  rw[A9 Om Om];split<;>omega
 have m1:(if IntKind.i64.wrap ((i:Int)-1)<=0 then(0:Int) else IntKind.i64.wrap ((i:Int)-1))=(j:Int):=by
  rw[A9 Om Om];split<;>omega
 have w1:IntKind.i64.wrap ((j:Int)+1)=((j+1:Nat):Int):=TD Om 1 Om;have w2:IntKind.i64.wrap ((j:Int)+2)=((j+2:Nat):Int):=TD Om 2 Om;have t1:((j:Int)+1).toNat=j+1:=Om;have b0:((kids.getD j .nil).height==0)=true:=by simpa using Z
 have hH:=BP (kids.getD j .nil);have a4:=Ea (kids.getD j .nil) a0 Om a1;have a5:=Ea (kids.getD (j+1) .nil) a2 Om a3;have N:=Bx (show j<kids.length by omega);have O:=Bx C;simp only[Ar] at N O;have bj:decide (j<kids.length)=true:=Dt';have a6:decide (j+1<kids.length)=true:=decide_eq_true C;have U:(List.map Ar kids).set j [Ah X]=List.map Ar (kids.set j X):=(A3L (f:=Ar) ..).symm;obtain⟨cs,a7⟩:=Cl Y;have M:=A6 X;have V:=c_delK (kids.set j X) (j+1) (by simpa using C) So';rw[A3l] at V;rw[Bl] at hp;rw[a7] at M hp U;simp only[D.pure] at M;generalize kids.getD j .nil=L at*;generalize kids.getD (j+1) .nil=R at*;have oL:=A6 L;have oR:=A6 R;refine Zd [] ?_
 (have z:=Za m0<|Za m1<|Za w1<|Za w2<|Za t1<|Za b0<|Za N<|Za O<|Za bj<|Za a6<|Za U<|Za M<|Za oL oR;push_cast[z]<;>repeat' (first|refine Zc hH ?_|refine Zs [] a4 ?_|refine Zs [] a5 ?_|refine Zs [(1,168),(3,184)] (hp ..) ?_|refine Zs [] (V ..) ?_|exact Zo|apply Za)<;>push_cast[z])
 all_goals first|omega|(simp;done)|skip
 apply Zr [(0,336)] rfl<;>push_cast
def Wh(kids:List GT)(i j:Nat)(X Y:GT)(hj:j=i-1)(hn:kids.length<=9)(C:j+1<kids.length)(hi:i<kids.length)(hX:X≠ .nil)(hY:Y≠ .nil)(a0:(kids.getD j .nil).height=0)(a1:(kids.getD j .nil).es≠[])(aa:(kids.getD j .nil).es.length<=8)(a2:∀e ∈ (kids.getD j .nil).es,Sm e.2)(a3:(kids.getD (j+1) .nil).es≠[])(ab:(kids.getD (j+1) .nil).es.length<=8)(a4:∀e ∈ (kids.getD (j+1) .nil).es,Sm e.2)
  (hp:A4 prog 282 [.sref 1 0 (kids.getD j .nil).es.length (kids.getD j .nil).es.length 7,.sref 3 0 (kids.getD (j+1) .nil).es.length (kids.getD (j+1) .nil).es.length 7,.func (.func 146) [] []] [(1,.rows ((kids.getD j .nil).es.map A8) 7),(3,.rows ((kids.getD (j+1) .nil).es.map A8) 7)] (.tup [Ah X,Ah Y]) []):
  A4 prog 206 [.gref 1 kids.length,iD i] [(1,.grow (kids.map Ar) 1)] (.gref 0 kids.length) [(0,.grow (((kids.set j X).set (j+1) Y).map Ar) 1)]:=by
 have m0:(if IntKind.i64.wrap ((i:Int)-1)<0 then(0:Int) else IntKind.i64.wrap ((i:Int)-1))=(j:Int):=by
  rw[A9 Om Om];split<;>omega
 have m1:(if IntKind.i64.wrap ((i:Int)-1)<=0 then(0:Int) else IntKind.i64.wrap ((i:Int)-1))=(j:Int):=by
  rw[A9 Om Om];split<;>omega
 have w1:IntKind.i64.wrap ((j:Int)+1)=((j+1:Nat):Int):=TD Om 1 Om;have w2:IntKind.i64.wrap ((j:Int)+2)=((j+2:Nat):Int):=TD Om 2 Om;have U:((j:Int)+1).toNat=j+1:=Om;have b0:((kids.getD j .nil).height==0)=true:=by simpa using a0
 have hH:=BP (kids.getD j .nil);have a5:=Ea (kids.getD j .nil) a1 Om a2;have a6:=Ea (kids.getD (j+1) .nil) a3 Om a4;have V:=Bx (show j<kids.length by omega);have Z:=Bx C;simp only[Ar] at V Z;have bj:decide (j<kids.length)=true:=Dt';have a7:decide (j+1<kids.length)=true:=decide_eq_true C;have ms:(List.map Ar kids).set j [Ah X]=List.map Ar (kids.set j X):=(A3L (f:=Ar) ..).symm;obtain⟨cs,a8⟩:=Cl hX;have M:=A6 X;have N:(List.map Ar (kids.set j X)).set (j+1) [Ah Y]=List.map Ar ((kids.set j X).set (j+1) Y):=(A3L (f:=Ar) ..).symm;obtain⟨ds,a9⟩:=Cl hY;have O:=A6 Y;rw[a8] at M hp ms;rw[a9] at O hp N;simp only[D.pure] at M O;generalize kids.getD j .nil=L at*;generalize kids.getD (j+1) .nil=R at*;have oL:=A6 L;have oR:=A6 R;refine Zd [] ?_
 (have z:=Za m0<|Za m1<|Za w1<|Za w2<|Za U<|Za b0<|Za V<|Za Z<|Za bj<|Za a7<|Za ms<|Za N<|Za M<|Za O<|Za oL oR;push_cast[z]<;>repeat' (first|refine Zc hH ?_|refine Zs [] a5 ?_|refine Zs [] a6 ?_|refine Zs [(1,168),(3,184)] (hp ..) ?_|exact Zo|apply Za)<;>push_cast[z])
 all_goals first|omega|(simp;omega)|(simp;done)|skip
 have d1:List.drop 1 (nr (List.map Ar (kids.set j X)) (j+1))=[]:=by rw[Bx (by simpa using C)];rfl
 apply Zr [(0,1)] rfl<;>push_cast [N,U,d1]
def c_mendK1(kids:List GT)(i j:Nat)(X:GT)(hj:j=i-1)(hn:kids.length<=9)(C:j+1<kids.length)(hi:i<kids.length)(Y:X≠ .nil)(Z:(kids.getD j .nil).height≠0)(a0:0<(kids.getD j .nil).kids.length)(a6:(kids.getD j .nil).kids.length<=8)(a1:0<(kids.getD (j+1) .nil).kids.length)(a7:(kids.getD (j+1) .nil).kids.length<=8)
  (hp:A4 prog 283 [.gref 1 (kids.getD j .nil).kids.length,.gref 3 (kids.getD (j+1) .nil).kids.length,.func (.func 91) [] []] [(1,.grow ((kids.getD j .nil).kids.map Ar) 1),(3,.grow ((kids.getD (j+1) .nil).kids.map Ar) 1)] (.tup [Ah X,Ah .nil]) []):
  A4 prog 206 [.gref 1 kids.length,iD i] [(1,.grow (kids.map Ar) 1)] (.gref 0 (kids.length-1)) [(0,.grow ((Cr (kids.set j X) (j+1)).map Ar) 1)]:=by
 have m0:(if IntKind.i64.wrap ((i:Int)-1)<0 then(0:Int) else IntKind.i64.wrap ((i:Int)-1))=(j:Int):=by
  rw[A9 Om Om];split<;>omega
 have m1:(if IntKind.i64.wrap ((i:Int)-1)<=0 then(0:Int) else IntKind.i64.wrap ((i:Int)-1))=(j:Int):=by
  rw[A9 Om Om];split<;>omega
 have w1:IntKind.i64.wrap ((j:Int)+1)=((j+1:Nat):Int):=TD Om 1 Om;have w2:IntKind.i64.wrap ((j:Int)+2)=((j+2:Nat):Int):=TD Om 2 Om;have t1:((j:Int)+1).toNat=j+1:=Om;have b0:((kids.getD j .nil).height==0)=false:=by simpa using Z
 have hH:=BP (kids.getD j .nil);have a2:=Fi (kids.getD j .nil) a0 Om;have a3:=Fi (kids.getD (j+1) .nil) a1 Om;have N:=Bx (show j<kids.length by omega);have O:=Bx C;simp only[Ar] at N O;have bj:decide (j<kids.length)=true:=Dt';have a4:decide (j+1<kids.length)=true:=decide_eq_true C;have U:(List.map Ar kids).set j [Ah X]=List.map Ar (kids.set j X):=(A3L (f:=Ar) ..).symm;obtain⟨cs,a5⟩:=Cl Y;have M:=A6 X;have V:=c_delK (kids.set j X) (j+1) (by simpa using C) So';rw[A3l] at V;rw[Bl] at hp;rw[a5] at M hp U;simp only[D.pure] at M;generalize kids.getD j .nil=L at*;generalize kids.getD (j+1) .nil=R at*;have oL:=A6 L;have oR:=A6 R;refine Zd [] ?_
 (have z:=Za m0<|Za m1<|Za w1<|Za w2<|Za t1<|Za b0<|Za N<|Za O<|Za bj<|Za a4<|Za U<|Za M<|Za oL oR;push_cast[z]<;>repeat' (first|refine Zc hH ?_|refine Zs [] a2 ?_|refine Zs [] a3 ?_|refine Zs [(1,168),(3,184)] (hp ..) ?_|refine Zs [] (V ..) ?_|exact Zo|apply Za)<;>push_cast[z])
 all_goals first|omega|(simp;done)|skip
 apply Zr [(0,336)] rfl<;>push_cast
def Wg(kids:List GT)(i j:Nat)(X Y:GT)(hj:j=i-1)(hn:kids.length<=9)(C:j+1<kids.length)(hi:i<kids.length)(hX:X≠ .nil)(hY:Y≠ .nil)(a0:(kids.getD j .nil).height≠0)(a1:0<(kids.getD j .nil).kids.length)(a8:(kids.getD j .nil).kids.length<=8)(a2:0<(kids.getD (j+1) .nil).kids.length)(a9:(kids.getD (j+1) .nil).kids.length<=8)
  (hp:A4 prog 283 [.gref 1 (kids.getD j .nil).kids.length,.gref 3 (kids.getD (j+1) .nil).kids.length,.func (.func 91) [] []] [(1,.grow ((kids.getD j .nil).kids.map Ar) 1),(3,.grow ((kids.getD (j+1) .nil).kids.map Ar) 1)] (.tup [Ah X,Ah Y]) []):
  A4 prog 206 [.gref 1 kids.length,iD i] [(1,.grow (kids.map Ar) 1)] (.gref 0 kids.length) [(0,.grow (((kids.set j X).set (j+1) Y).map Ar) 1)]:=by
 have m0:(if IntKind.i64.wrap ((i:Int)-1)<0 then(0:Int) else IntKind.i64.wrap ((i:Int)-1))=(j:Int):=by
  rw[A9 Om Om];split<;>omega
 have m1:(if IntKind.i64.wrap ((i:Int)-1)<=0 then(0:Int) else IntKind.i64.wrap ((i:Int)-1))=(j:Int):=by
  rw[A9 Om Om];split<;>omega
 have w1:IntKind.i64.wrap ((j:Int)+1)=((j+1:Nat):Int):=TD Om 1 Om;have w2:IntKind.i64.wrap ((j:Int)+2)=((j+2:Nat):Int):=TD Om 2 Om;have U:((j:Int)+1).toNat=j+1:=Om;have b0:((kids.getD j .nil).height==0)=false:=by simpa using a0
 have hH:=BP (kids.getD j .nil);have a3:=Fi (kids.getD j .nil) a1 Om;have a4:=Fi (kids.getD (j+1) .nil) a2 Om;have V:=Bx (show j<kids.length by omega);have Z:=Bx C;simp only[Ar] at V Z;have bj:decide (j<kids.length)=true:=Dt';have a5:decide (j+1<kids.length)=true:=decide_eq_true C;have ms:(List.map Ar kids).set j [Ah X]=List.map Ar (kids.set j X):=(A3L (f:=Ar) ..).symm;obtain⟨cs,a6⟩:=Cl hX;have M:=A6 X;have N:(List.map Ar (kids.set j X)).set (j+1) [Ah Y]=List.map Ar ((kids.set j X).set (j+1) Y):=(A3L (f:=Ar) ..).symm;obtain⟨ds,a7⟩:=Cl hY;have O:=A6 Y;rw[a6] at M hp ms;rw[a7] at O hp N;simp only[D.pure] at M O;generalize kids.getD j .nil=L at*;generalize kids.getD (j+1) .nil=R at*;have oL:=A6 L;have oR:=A6 R;refine Zd [] ?_
 (have z:=Za m0<|Za m1<|Za w1<|Za w2<|Za U<|Za b0<|Za V<|Za Z<|Za bj<|Za a5<|Za ms<|Za N<|Za M<|Za O<|Za oL oR;push_cast[z]<;>repeat' (first|refine Zc hH ?_|refine Zs [] a3 ?_|refine Zs [] a4 ?_|refine Zs [(1,168),(3,184)] (hp ..) ?_|exact Zo|apply Za)<;>push_cast[z])
 all_goals first|omega|(simp;omega)|(simp;done)|skip
 have d1:List.drop 1 (nr (List.map Ar (kids.set j X)) (j+1))=[]:=by rw[Bx (by simpa using C)];rfl
 apply Zr [(0,1)] rfl<;>push_cast [N,U,d1]
end Go.Ab
