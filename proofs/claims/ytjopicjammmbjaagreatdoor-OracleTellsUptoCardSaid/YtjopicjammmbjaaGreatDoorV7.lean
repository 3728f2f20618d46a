/- The layer by which the program is walked, and what its functions do: part 8 of 16. -/
import Derived.Test.YtjopicjammmbjaaGreatDoorV6
set_option maxHeartbeats 4000000
set_option maxRecDepth 20000
set_option linter.unusedVariables false
set_option linter.unusedSimpArgs false
set_option linter.unnecessarySimpa false
namespace Go.Ab
open Go.Proofs Go.Proofs.Tryz
def Hy{α:Type}(f:α->List D)(z:List D)(l:List α)(i:Nat):List (List D):=(l.take i).map f++List.replicate (l.length-i) z
theorem HX{α:Type}(f:α->List D)(z:List D)(l:List α):List.replicate l.length z=Hy f z l 0:=by simp[Hy]
theorem Kg{α:Type}(f:α->List D)(z:List D)(l:List α){i:Nat}(h:l.length<=i):Hy f z l i=l.map f:=by
 simp[Hy,A0f h,Nat.sub_eq_zero_of_le h]
theorem SF{α:Type}(f:α->List D)(z:List D)(l:List α)(i:Nat):(Hy f z l i).length=l.length:=by
 simp[Hy];omega
theorem Kf{α:Type}(f:α->List D)(z:List D)(l:List α)(d:α){i:Nat}(h:i<l.length):(Hy f z l i).set i (f (l.getD i d))=Hy f z l (i+1):=by
 have e1:(l.take i).length=i:=by simp;omega
 have e2:l.length-i=(l.length-(i+1))+1:=by omega
 simp only[Hy]
 rw[List.set_append_right _ _ (by simp;omega)]
 simp only[A0b,e1,Nat.sub_self]
 rw[e2,List.replicate_succ,List.set_cons_zero,A20,A12,A05]
 simp[A06 h,A03]
theorem LR{α:Type}(f:α->List D)(z:List D)(l:List α){i:Nat}(h:i<l.length):nr (Hy f z l i) i=z:=by
 simp only[nr,Hy,A03]
 rw[A0r (by simp;omega)]
 have e1:(l.take i).length=i:=by simp;omega
 simp[e1,A1D,show i-min i l.length<l.length-i by omega]
theorem Pk{α:Type}{f:α->List D}{z:List D}(hf:∀ x,Av (f x)=true)(hz:Av z=true)(l:List α)(i:Nat):Am (Hy f z l i)=true:=by
 have key:∀ (a b:List (List D)),Am a=true->Am b=true->Am (a++b)=true:=by
  intro a b ha hb
  induction a with
  |nil=>exact hb
  |cons x a ih=>simp only[A07,Am,A0c] at*;exact⟨ha.1,ih ha.2⟩
 refine key _ _ (AA hf _) ?_
 induction l.length-i with
 |zero=>rfl
 |succ n ih=>simp only[List.replicate_succ,Am,hz,ih,A0X]
attribute [push_cast] SF
inductive Sm:GV->Prop where
 |mk (k:Int) (b:Bool) (n:Int) (s:ByteArray) (l:List GV) (o:List (ByteArray×GV)) (hl:l.length<=1048576) (ho:o.length<=1048576) (h:∀ x ∈ l,Sm x) (h':∀ p ∈ o,Sm p.2) (hn: -9223372036854775808<=n/\n<=9223372036854775807) (hz:s.size<=1048576) (hk:∀ p ∈ o,p.1.size<=1048576):Sm (.mk k b n s l o)
theorem Sm.int{v:GV}(h:Sm v): -9223372036854775808<=v.n/\v.n<=9223372036854775807:=by cases h;assumption
theorem Sm.text{v:GV}(h:Sm v):v.s.size<=1048576:=by cases h;assumption
theorem Sm.key{v:GV}(h:Sm v):∀ p ∈ v.obj,p.1.size<=1048576:=by cases h;assumption
theorem Sm.list_le{v:GV}(h:Sm v):v.list.length<=1048576:=by cases h;assumption
theorem Sm.obj_le{v:GV}(h:Sm v):v.obj.length<=1048576:=by cases h;assumption
theorem Sm.list{v:GV}(h:Sm v):∀ x ∈ v.list,Sm x:=by cases h;assumption
theorem Sm.obj{v:GV}(h:Sm v):∀ p ∈ v.obj,Sm p.2:=by cases h;assumption
abbrev z6:List D:=[.val (.int .i64 0),.val (.bool false),.val (.int .i64 0),.val (.string ByteArray.empty),.slice [] true,.slice [] true]
abbrev z7:List D:=.val (.string ByteArray.empty)::z6
theorem Uu(l:List GV)(i:Nat):Am (Hy Aa z6 l i)=true:=Pk Bh rfl l i
theorem Uv(l:List (ByteArray×GV))(i:Nat):Am (Hy Ac z7 l i)=true:=Pk Bd rfl l i
attribute [push_cast] Uu Uv
def cp1(v:GV)(i:Nat):St:=⟨[(23,.val (.int .i64 i)),(22,.val (.int .i64 v.list.length)),(21,.slice (v.list.map Aa) false),(3,.ref 24 0 0 6),(2,.ref 8 0 0 6),(1,.ptr [.val (.int .i64 v.kind),.val (.bool v.b),.val (.int .i64 v.n),.val (.string v.s),.slice (v.list.map Aa) false,.slice (v.obj.map Ac) false] 0)],
 [(24,.rows [[.val (.int .i64 v.kind),.val (.bool v.b),.val (.int .i64 v.n),.val (.string v.s),.sref 128 0 v.list.length v.list.length 6,.slice [] true]] 6),(128,.rows (Hy Aa z6 v.list i) 6),(8,.rows [z6] 6)],92⟩
def cp2(v:GV)(m:D)(R:Hp)(nx:Nat)(c i:Nat):St:=⟨[(47,.val (.int .i64 i)),(46,.val (.int .i64 v.obj.length)),(45,.slice (v.obj.map Ac) false),(3,.ref 24 0 0 6),(2,.ref 8 0 0 6)],
 (24,.rows [[.val (.int .i64 v.kind),.val (.bool v.b),.val (.int .i64 v.n),.val (.string v.s),m,.sref c 0 v.obj.length v.obj.length 7]] 6)::(c,.rows (Hy Ac z7 v.obj i) 7)::(8,.rows [z6] 6)::R,nx⟩
theorem AT(p:ByteArray×GV):(Ac p).length=7:=by rw[Ao,A0g,AS]
theorem ZT{p:Prop}[Decidable p]{X Y:List (List D)}{n:Nat}{t:Bool}{d:D}(hp:p)(h:X.length<=n)(e:X=Y):lo (if p then .slice (X.take n) t else d) (.slice Y false):=by
 rw[if_pos hp,A0f h,e,K6];exact⟨BG _,fun h=>by cases h⟩
theorem Fl{X:List (List D)}{n:Nat}(h:decide ((0:Int)<↑n)=false)(e:X.length=n):E5 [] X:=by
 have:X=[]:=A0J (by simp at h;omega)
 rw[this];exact BG _
def CQ(v:GV):List D:=[.val (.int .i64 v.kind),.val (.bool v.b),.val (.int .i64 v.n),.val (.string v.s),.slice (v.list.map Aa) true,.slice (v.obj.map Ac) true]
theorem loL_T(v:GV):loL (CQ v) (Aa v):=by
 rw[A0,CQ]
 simp[loL,lo,BG]
theorem LV{p:Prop}[Decidable p]{X Y:List (List D)}{n:Nat}{t:Bool}{d:D}(hp:p)(h:X.length<=n)(e:X=Y)(ht:t=true):lo (if p then .slice (X.take n) t else d) (.slice Y true):=by
 rw[if_pos hp,A0f h,e,K6];exact⟨BG _,fun _=>ht⟩
theorem ZU(v:GV):lo (.agg (CQ v)) (.agg (Aa v)):=by rw[Ui];exact loL_T v
theorem lo_T(v:GV)(b:D):lo (.tup [.agg (CQ v),b]) (.tup [.agg (Aa v),b]):=by
 rw[ZS];exact⟨ZU v,An _,trivial⟩
theorem M1(v:GV)(hs:Sm v):A3 prog 119 [.agg (Aa v)] (.agg (CQ v)):=by
 have hl:=hs.list_le
 have ho:=hs.obj_le
 have hrec:∀ x,SizeOf.sizeOf x<SizeOf.sizeOf v->Sm x->A3 prog 119 [.agg (Aa x)] (.agg (Aa x)):=fun x h hx=>(M1 x hx).res (ZU x)
 rw[A0,CQ]
 refine Zf [0] func119 rfl ntmps119 results119 ?_
 ((try push_cast)<;>repeat' (first|apply Zi<;>intro _|exact Zp|with_reducible apply Za)<;>try push_cast)
 all_goals first|omega|skip
 ·refine Zl (fun i=>i<=v.list.length) (fun i=>cp1 v i) (fun i=>v.list.length-i) 0 (by simp) ?_ fun i hi=>?_
  ·unfold cp1
   rw[HX Aa z6 v.list]
   apply Zw<;>push_cast [AS]
  ·unfold cp1
   push_cast
   refine A6 (fun ha=>?_) (fun ha=>?_)
   ·have hi':i<v.list.length:=by simpa using ha
    have e1:=DM hi'
    have e2:=LR Aa z6 v.list hi'
    have hr:=hrec (v.list.getD i zV) (GV.list_lt (Ad hi')) (hs.list _ (Ad hi'))
    have e3:=Kf Aa z6 v.list zV hi'
    (have z:=Za e1 e2;(try push_cast[z])<;>repeat' (first|apply Zi<;>intro _|refine Zc (hr ..) ?_|exact Zo|with_reducible apply Za)<;>try push_cast[z])
    all_goals first|omega|skip
    refine⟨i+1,hi',by omega,?_⟩
    apply Zw<;>push_cast [e3,e2]
    all_goals first|exact A9 (by omega) (by omega)|skip
   ·have hi':i=v.list.length:=by simp at ha;omega
    subst hi'
    (have z:=(Kg Aa z6 v.list (A0e _));(try push_cast[z])<;>repeat' (first|apply Zi<;>intro _|exact Zo|with_reducible apply Za)<;>try push_cast[z])
    all_goals first|omega|skip
    ·refine Zl (fun i=>i<=v.obj.length) (fun i=>cp2 v (.sref 128 0 v.list.length v.list.length 6) [(128,.rows (v.list.map Aa) 6)] 152 248 i) (fun i=>v.obj.length-i) 0 (by simp) ?_ fun i hi=>?_
     ·unfold cp2
      rw[HX Ac z7 v.obj]
      apply Zw<;>push_cast [AS,AT]
     ·unfold cp2
      push_cast
      refine A6 (fun ha=>?_) (fun ha=>?_)
      ·have hi':i<v.obj.length:=by simpa using ha
       have e1:=AV hi'
       have e2:=LR Ac z7 v.obj hi'
       have hr:=hrec (v.obj.getD i zM).2 (GV.obj_lt (Ad hi')) (hs.obj _ (Ad hi'))
       have e3:=Kf Ac z7 v.obj zM hi'
       (have z:=Za e1<|Za e2 @Ao;(try push_cast[z])<;>repeat' (first|apply Zi<;>intro _|refine Zc (hr ..) ?_|exact Zo|with_reducible apply Za)<;>try push_cast[z])
       all_goals first|omega|skip
       refine⟨i+1,hi',by omega,?_⟩
       apply Zw<;>push_cast [e3,e2,<-Ao]
       all_goals first|exact A9 (by omega) (by omega)|skip
      ·have hi':i=v.obj.length:=by simp at ha;omega
       subst hi'
       (have z:=(Kg Ac z7 v.obj (A0e _));(try push_cast[z])<;>repeat' (first|apply Zi<;>intro _|exact Zo|with_reducible apply Za)<;>try push_cast[z])
       all_goals first|omega|exact fun h=>h.elim|exact LV (by omega) (by simp) rfl (by simp)|exact Fl (n:=v.obj.length) (by assumption) (A0b ..)|exact Fl (n:=v.list.length) (by assumption) (A0b ..)|skip
    all_goals first|exact fun h=>h.elim|exact LV (by omega) (by simp) rfl (by simp)|exact Fl (n:=v.obj.length) (by assumption) (A0b ..)|exact Fl (n:=v.list.length) (by assumption) (A0b ..)|skip
 ·refine Zl (fun i=>i<=v.obj.length) (fun i=>cp2 v (.slice [] true) [] 108 160 i) (fun i=>v.obj.length-i) 0 (by simp) ?_ fun i hi=>?_
  ·unfold cp2
   rw[HX Ac z7 v.obj]
   apply Zw<;>push_cast [AS,AT]
  ·unfold cp2
   push_cast
   refine A6 (fun ha=>?_) (fun ha=>?_)
   ·have hi':i<v.obj.length:=by simpa using ha
    have e1:=AV hi'
    have e2:=LR Ac z7 v.obj hi'
    have hr:=hrec (v.obj.getD i zM).2 (GV.obj_lt (Ad hi')) (hs.obj _ (Ad hi'))
    have e3:=Kf Ac z7 v.obj zM hi'
    (have z:=Za e1<|Za e2 @Ao;(try push_cast[z])<;>repeat' (first|apply Zi<;>intro _|refine Zc (hr ..) ?_|exact Zo|with_reducible apply Za)<;>try push_cast[z])
    all_goals first|omega|skip
    refine⟨i+1,hi',by omega,?_⟩
    apply Zw<;>push_cast [e3,e2,<-Ao]
    all_goals first|exact A9 (by omega) (by omega)|skip
   ·have hi':i=v.obj.length:=by simp at ha;omega
    subst hi'
    (have z:=(Kg Ac z7 v.obj (A0e _));(try push_cast[z])<;>repeat' (first|apply Zi<;>intro _|exact Zo|with_reducible apply Za)<;>try push_cast[z])
    all_goals first|omega|exact fun h=>h.elim|exact LV (by omega) (by simp) rfl (by simp)|exact Fl (n:=v.obj.length) (by assumption) (A0b ..)|exact Fl (n:=v.list.length) (by assumption) (A0b ..)|skip
 all_goals first|exact fun h=>h.elim|exact LV (by omega) (by simp) rfl (by simp)|exact Fl (n:=v.obj.length) (by assumption) (A0b ..)|exact Fl (n:=v.list.length) (by assumption) (A0b ..)|skip
termination_by SizeOf.sizeOf v
theorem UQ(v:GV)(hs:Sm v):A3 prog 119 [.agg (Aa v)] (.agg (Aa v)):=(M1 v hs).res (ZU v)
theorem Ns(l:List GE)(t:Bool)(hl:l.length<=1048576)(hs:∀ e ∈ l,Sm e.2):A4 prog 91 [.slice (l.map Ac) t] [] (.sref 0 0 l.length l.length 7) [(0,.rows (l.map Ac) 7)]:=by
 refine Zd [] func91 rfl ntmps91 results91 ?_
 ((try push_cast)<;>repeat' (first|apply Zi<;>intro _|exact Zp|with_reducible apply Za)<;>try push_cast)
 all_goals first|omega|skip
 refine Zl (fun i=>i<=l.length) (fun i=>⟨[(11,.val (.int .i64 i)),(10,.val (.int .i64 l.length)),(9,.slice (l.map Ac) t),(3,.sref 32 0 l.length l.length 7)],[(32,.rows (Hy Ac z7 l i) 7)],36⟩) (fun i=>l.length-i) 0 (by simp) ?_ fun i hi=>?_
 ·rw[HX Ac z7 l]
  apply Zw<;>push_cast [AT]
 ·push_cast
  refine A6 (fun ha=>?_) (fun ha=>?_)
  ·have hi':i<l.length:=by simpa using ha
   have e1:=AV hi'
   have e2:=LR Ac z7 l hi'
   have hr:=UQ (l.getD i zM).2 (hs _ (Ad hi'))
   have e3:=Kf Ac z7 l zM hi'
   (have z:=Za e1<|Za e2 @Ao;(try push_cast[z])<;>repeat' (first|apply Zi<;>intro _|refine Zc (hr ..) ?_|exact Zo|with_reducible apply Za)<;>try push_cast[z])
   all_goals first|omega|skip
   refine⟨i+1,hi',by omega,?_⟩
   apply Zw<;>push_cast [e3,e2,<-Ao]
   all_goals first|exact A9 (by omega) (by omega)|skip
  ·have hi':i=l.length:=by simp at ha;omega
   subst hi'
   (have z:=(Kg Ac z7 l (A0e _));(try push_cast[z])<;>repeat' (first|apply Zi<;>intro _|exact Zo|with_reducible apply Za)<;>try push_cast[z])
   apply Zr [(0,32)] rfl<;>push_cast
theorem c_Last(t:GT):A3 prog 247 [Ag t] (.val (.string t.last)):=by
 cases t with
 |nil=>
  rw[At]
  refine Zf [] func247 rfl ntmps247 results247 ?_
  ((try push_cast)<;>repeat' (first|apply Zi<;>intro _|exact Zp|with_reducible apply Za)<;>try push_cast)
  all_goals first|rfl|simp [GT.last]|skip
 |node e k h c f l th=>
  rw[AZ]
  refine Zf [] func247 rfl ntmps247 results247 ?_
  ((try push_cast)<;>repeat' (first|apply Zi<;>intro _|exact Zp|with_reducible apply Za)<;>try push_cast)
  all_goals simp[GT.last]
def GT.size(t:GT):Nat:=t.es.length+t.kids.length
theorem La(t:GT)(h:t.size<=4611686018427387904):A3 prog 130 [Ag t] (.val (.int .i64 t.size)):=by
 cases t with
 |nil=>
  rw[At]
  refine Zf [] func130 rfl ntmps130 results130 ?_
  ((try push_cast)<;>repeat' (first|apply Zi<;>intro _|exact Zp|with_reducible apply Za)<;>try push_cast)
  all_goals simp[GT.size,GT.es,GT.kids]
 |node e k hh c f l th=>
  rw[AZ]
  simp only[GT.size,GT.es,GT.kids] at h
  refine Zf [] func130 rfl ntmps130 results130 ?_
  ((try push_cast)<;>repeat' (first|apply Zi<;>intro _|exact Zp|with_reducible apply Za)<;>try push_cast)
  simp only[GT.size,GT.es,GT.kids]
  rw[A9 (by omega) (by omega)];simp
def GT.sound(t:GT)(root:Bool):Bool:=match t with
 |.nil=>root
 |t=>!t.thin&&(root ||decide (4<=t.size))
theorem c_Sound(t:GT)(root:Bool)(h:t.size<=4611686018427387904):A3 prog 182 [Ag t,.val (.bool root)] (.val (.bool (t.sound root))):=by
 cases t with
 |nil=>
  rw[At]
  refine Zf [] func182 rfl ntmps182 results182 ?_
  ((try push_cast)<;>repeat' (first|apply Zi<;>intro _|exact Zp|with_reducible apply Za)<;>try push_cast)
  all_goals first|rfl|simp [GT.sound]
 |node e k hh c f l th=>
  have hz:=La (.node e k hh c f l th) h
  simp only[GT.size,GT.es,GT.kids] at hz
  rw[AZ] at hz|-
  refine Zf [] func182 rfl ntmps182 results182 ?_
  (have z:=trivial;(try push_cast)<;>repeat' (first|apply Zi<;>intro _|refine Zc (hz ..) ?_|exact Zp|with_reducible apply Za)<;>try push_cast)
  all_goals simp_all [GT.sound,GT.thin,GT.size,GT.es,GT.kids]
  exact decide_eq_decide.2 (by omega)
theorem GU(t:GT)(h:t.es=[]):A3 prog 56 [Ag t] (.slice [] true):=by
 cases t with
 |nil=>
  rw[At]
  refine Zf [] func56 rfl ntmps56 results56 ?_
  ((try push_cast)<;>repeat' (first|apply Zi<;>intro _|exact Zp|with_reducible apply Za)<;>try push_cast)
 |node e k hh c f l th=>
  simp only[GT.es] at h
  subst h
  rw[AZ]
  refine Zf [] func56 rfl ntmps56 results56 ?_
  ((try push_cast)<;>repeat' (first|apply Zi<;>intro _|exact Zp|with_reducible apply Za)<;>try push_cast)
theorem DE(t:GT)(h:t.es≠[])(hl:t.es.length<=1048576)(hs:∀ e ∈ t.es,Sm e.2):A4 prog 56 [Ag t] [] (.sref 0 0 t.es.length t.es.length 7) [(0,.rows (t.es.map Ac) 7)]:=by
 cases t with
 |nil=>exact absurd rfl h
 |node e k hh c f l th=>
  simp only[GT.es] at h hl hs|-
  have hn:¬(e.length=0):=fun h'=>h (A0J h')
  rw[AZ]
  refine Zd [] func56 rfl ntmps56 results56 ?_
  have he:((e.length:Int)==0)=false:=by simp;omega
  (have z:=he;(try push_cast[z])<;>repeat' (first|apply Zi<;>intro _|refine Zs [] (Ns e false hl hs) ?_|exact Zo|with_reducible apply Za)<;>try push_cast[z])
  apply Zr [(0,128)] rfl<;>push_cast
theorem Xs(l:List GE)(t:Bool)(f:Nat)(hl:l.length<=4611686018427387904)(h:∀ i,1<=i->i<l.length->A3 prog f [.agg (Ac (l.getD (i-1) zM)),.agg (Ac (l.getD i zM))] (.val (.bool true))):
  A3 prog 213 [.slice (l.map Ac) t,.func (.func f) [] []] (.val (.bool true)):=by
 refine Zf [] func213 rfl ntmps213 results213 ?_
 ((try push_cast)<;>repeat' (first|apply Zi<;>intro _|exact Zp|with_reducible apply Za)<;>try push_cast)
 refine Zl (fun i=>1<=i/\i<=l.length+1) (fun i=>⟨[(5,.val (.int .i64 i)),(1,.func (.func f) [] []),(0,.slice (l.map Ac) t)],[],10⟩) (fun i=>l.length+1-i) 1 (by simp) ?_ fun i hi=>?_
 ·apply Zw<;>push_cast
 ·push_cast
  refine A6 (fun ha=>?_) (fun ha=>?_)
  ·have hi':i<l.length:=by simpa using ha
   have e0:IntKind.i64.wrap (↑i-1)=((i-1:Nat):Int):=by rw[A9 (by omega) (by omega)];omega
   have e1:=AV hi'
   have e2:=AV (show i-1<l.length by omega)
   have hr:=h i hi.1 hi'
   (have z:=Za e0<|Za e1 e2;(try push_cast[z])<;>repeat' (first|apply Zi<;>intro _|refine Zv (hr ..) ?_|exact Zo|with_reducible apply Za)<;>try push_cast[z])
   all_goals first|omega|skip
   refine⟨i+1,by omega,by omega,?_⟩
   apply Zw<;>push_cast
   exact A9 (by omega) (by omega)
  ·((try push_cast)<;>repeat' (first|apply Zi<;>intro _|exact Zp|with_reducible apply Za)<;>try push_cast)
theorem QO(t:GT)(i:Nat)(hi:i<t.es.length)(hs:∀ e ∈ t.es,Sm e.2):A3 prog 132 [Ag t,.val (.int .i64 i)] (.tup [.agg (Ac (t.es.getD i zM)),.val (.bool true)]):=by
 cases t with
 |nil=>exact absurd hi (by simp[GT.es])
 |node e k hh c f l th=>
  simp only[GT.es] at hi hs|-
  have e1:=AV hi
  have hr:=UQ (e.getD i zM).2 (hs _ (Ad hi))
  have h0:decide ((i:Int)<0)=false:=by simp
  have h1:decide ((e.length:Int)<=i)=false:=by simp;omega
  rw[AZ]
  refine Zf [] func132 rfl ntmps132 results132 ?_
  (have z:=Za e1<|Za @Ao<|Za h0 h1;(try push_cast[z])<;>repeat' (first|apply Zi<;>intro _|refine Zc (hr ..) ?_|exact Zo|with_reducible apply Za)<;>try push_cast[z])
  all_goals first|omega|skip
theorem ZW:loL z6 (Aa zV):=by simp[zV,Aa,Ki,Kk,loL,E5,lo]
theorem ZV:loL z7 (Ac zM):=by simp[zM,Ac,Aa,Ki,Kk,loL,E5,lo]
theorem c_Entry0(t:GT)(i:Nat)(hi:t.es.length<=i)(hm:i<=4611686018427387904):A3 prog 132 [Ag t,.val (.int .i64 i)] (.tup [.agg (Ac zM),.val (.bool false)]):=by
 cases t with
 |nil=>
  rw[At]
  refine Zf [] func132 rfl ntmps132 results132 ?_
  ((try push_cast)<;>repeat' (first|apply Zi<;>intro _|exact Zp|with_reducible apply Za)<;>try push_cast)
  exact ZV
 |node e k hh c f l th=>
  simp only[GT.es] at hi|-
  have h0:decide ((i:Int)<0)=false:=by simp
  have h1:decide ((e.length:Int)<=i)=true:=by simp;omega
  rw[AZ]
  refine Zf [] func132 rfl ntmps132 results132 ?_
  (have z:=Za h0 h1;(try push_cast[z])<;>repeat' (first|apply Zi<;>intro _|exact Zo|with_reducible apply Za)<;>try push_cast[z])
  exact ZV
theorem c_Leaf1(x y:GE):A3 prog 214 [.agg (Ac x),.agg (Ac y)] (.val (.bool (ltS x.1 y.1))):=by
 refine Zf [] func214 rfl ntmps214 results214 ?_
 (have z:=@Ao;(try push_cast[z])<;>repeat' (first|apply Zi<;>intro _|exact Zo|with_reducible apply Za)<;>try push_cast[z])
def AC(l:List GE):GT:=.node l [] 0 l.length (l.getD 0 zM).1 (l.getD (l.length-1) zM).1 false
theorem c_Leaf(l:List GE)(t:Bool)(hl:l.length<=8)(hs:∀ e ∈ l,Sm e.2)(hr:∀ i,1<=i->i<l.length->ltS (l.getD (i-1) zM).1 (l.getD i zM).1=true):
  A3 prog 179 [.slice (l.map Ac) t] (.tup [Ag (AC l),.val (.int .i64 0)]):=by
 have h1:=Xs l t 214 (by omega) fun i h h'=>by
  have:=c_Leaf1 (l.getD (i-1) zM) (l.getD i zM)
  rw[hr i h h'] at this
  exact this
 have h0:decide ((8:Int)<l.length)=false:=decide_eq_false (by omega)
 unfold AC
 rw[AZ]
 rcases A0M l.length with hz|hz
 ·have h2:decide ((0:Int)<l.length)=false:=decide_eq_false (by omega)
  refine Zf [] func179 rfl ntmps179 results179 ?_
  (have z:=Za h0 h2;(try push_cast[z])<;>repeat' (first|apply Zi<;>intro _|refine Zc h1 ?_|refine Zs [] (Ns l t (by omega) hs) ?_|exact Zo|with_reducible apply Za)<;>try push_cast[z])
  all_goals first|omega|exact fun h=>h.elim|exact ZT (by omega) (by simp) rfl|skip
  all_goals rw[A0J hz];rfl
 have h2:decide ((0:Int)<l.length)=true:=decide_eq_true (by omega)
 have e0:IntKind.i64.wrap (↑l.length-1)=((l.length-1:Nat):Int):=by rw[A9 (by omega) (by omega)];omega
 have e1:=AV hz
 have e2:=AV (show l.length-1<l.length by omega)
 refine Zf [] func179 rfl ntmps179 results179 ?_
 (have z:=Za h0<|Za h2<|Za e0<|Za e1<|Za e2 @Ao;(try push_cast[z])<;>repeat' (first|apply Zi<;>intro _|refine Zc h1 ?_|refine Zs [] (Ns l t (by omega) hs) ?_|exact Zo|with_reducible apply Za)<;>try push_cast[z])
 all_goals first|omega|exact fun h=>h.elim|exact ZT (by omega) (by simp) rfl|skip
theorem c_CloneK(l:List GT)(hl:0<l.length)(hm:l.length<=1048576):A4 prog 92 [.slice (l.map Ak) false] [] (.gref 0 l.length) [(0,.grow (l.map Ak) 1)]:=by
 have h0:decide (l.length<=0)=false:=decide_eq_false (by omega)
 refine Zd [] func92 rfl ntmps92 results92 ?_
 (have z:=h0;(try push_cast[z])<;>repeat' (first|apply Zi<;>intro _|exact Zo|with_reducible apply Za)<;>try push_cast[z])
 all_goals first|omega|skip
 intro _
 (have z:=h0;(try push_cast[z])<;>repeat' (first|apply Zi<;>intro _|exact Zo|with_reducible apply Za)<;>try push_cast[z])
 all_goals first|omega|(simp[Ak];done)|skip
 apply Zr [(0,48)] rfl<;>push_cast
theorem Ev(t:GT)(hl:0<t.kids.length)(hm:t.kids.length<=1048576):A4 prog 57 [Ag t] [] (.gref 0 t.kids.length) [(0,.grow (t.kids.map Ak) 1)]:=by
 cases t with
 |nil=>exact absurd hl (by simp[GT.kids])
 |node e k hh c f l th=>
  simp only[GT.kids] at hl hm|-
  rw[AZ]
  refine Zd [] func57 rfl ntmps57 results57 ?_
  (have z:=trivial;(try push_cast)<;>repeat' (first|apply Zi<;>intro _|refine Zs [] (c_CloneK k hl hm) ?_|exact Zp|with_reducible apply Za)<;>try push_cast)
  apply Zr [(0,64)] rfl<;>push_cast
theorem Xr(l:List GT)(t:Bool)(f:Nat)(hl:l.length<=4611686018427387904)(h:∀ i,1<=i->i<l.length->A3 prog f [Ag (l.getD (i-1) .nil),Ag (l.getD i .nil)] (.val (.bool true))):
  A3 prog 183 [.slice (l.map Ak) t,.func (.func f) [] []] (.val (.bool true)):=by
 refine Zf [] func183 rfl ntmps183 results183 ?_
 ((try push_cast)<;>repeat' (first|apply Zi<;>intro _|exact Zp|with_reducible apply Za)<;>try push_cast)
 refine Zl (fun i=>1<=i/\i<=l.length+1) (fun i=>⟨[(5,.val (.int .i64 i)),(1,.func (.func f) [] []),(0,.slice (l.map Ak) t)],[],10⟩) (fun i=>l.length+1-i) 1 (by simp) ?_ fun i hi=>?_
 ·apply Zw<;>push_cast
 ·push_cast
  refine A6 (fun ha=>?_) (fun ha=>?_)
  ·have hi':i<l.length:=by simpa using ha
   have e0:IntKind.i64.wrap (↑i-1)=((i-1:Nat):Int):=by rw[A9 (by omega) (by omega)];omega
   have e1:=B9 hi'
   have e2:=B9 (show i-1<l.length by omega)
   have hr:=h i hi.1 hi'
   (have z:=Za e0<|Za e1<|Za e2 @Ak.eq_1;(try push_cast[z])<;>repeat' (first|apply Zi<;>intro _|refine Zv (hr ..) ?_|exact Zo|with_reducible apply Za)<;>try push_cast[z])
   all_goals first|omega|skip
   refine⟨i+1,by omega,by omega,?_⟩
   apply Zw<;>push_cast
   exact A9 (by omega) (by omega)
  ·((try push_cast)<;>repeat' (first|apply Zi<;>intro _|exact Zp|with_reducible apply Za)<;>try push_cast)
theorem c_Inner1(x y:GT)(hx:x≠ .nil)(hy:y≠ .nil):A3 prog 184 [Ag x,Ag y] (.val (.bool (ltS x.last y.first))):=by
 cases x with
 |nil=>exact absurd rfl hx
 |node=>
  cases y with
  |nil=>exact absurd rfl hy
  |node=>
   rw[AZ,AZ]
   refine Zf [] func184 rfl ntmps184 results184 ?_
   ((try push_cast)<;>repeat' (first|apply Zi<;>intro _|exact Zp|with_reducible apply Za)<;>try push_cast)
   all_goals rfl
def Ja(l:List GT)(i:Nat):Int:=((l.take i).map GT.count).sum
def FJ(l:List GT)(i:Nat):Bool:=(l.take i).any fun k=>!k.sound false
theorem Gc{α:Type}{l:List α}{i:Nat}(d:α)(h:i<l.length):l.take (i+1)=l.take i++[l.getD i d]:=by
 rw[A20,A06 h,A03,A06 h];rfl
theorem Xl{l:List GT}{i:Nat}(h:i<l.length):Ja l (i+1)=Ja l i+(l.getD i .nil).count:=by
 rw[Ja,Gc .nil h,A12,List.sum_append];simp[Ja]
theorem Ts{l:List GT}{i:Nat}(h:i<l.length):FJ l (i+1)=(FJ l i ||!(l.getD i .nil).sound false):=by
 rw[FJ,Gc .nil h,List.any_append];simp only[List.any_cons,List.any_nil,A23,FJ]
def AF(l:List GT):GT:=.node [] l ((l.getD 0 .nil).height+1) (Ja l l.length) (l.getD 0 .nil).first (l.getD (l.length-1) .nil).last (FJ l l.length)
theorem Tw{l:List GT}{i:Nat}(h:i<l.length):(l.take i).map Ak++[[Ag (l.getD i .nil)]]=(l.take (i+1)).map Ak:=by
 rw[Gc .nil h,A12];rfl
theorem GT.ne_nil{t:GT}(h:t≠ .nil):∃ e k hh c f l th,t=.node e k hh c f l th:=by
 cases t with
 |nil=>exact absurd rfl h
 |node e k hh c f l th=>exact ⟨e,k,hh,c,f,l,th,rfl⟩
def inK(l:List GT):Nat->D
 |0=>.slice [] true
 |i+1=>.gref 4 (i+1)
def inH(l:List GT):Nat->Hp
 |0=>[]
 |i+1=>[(4,.grow ((l.take (i+1)).map Ak) 1)]
theorem Qu(l:List GT){i:Nat}(h:0<i):inK l i=.gref 4 i/\inH l i=[(4,.grow ((l.take i).map Ak) 1)]:=by
 cases i with
 |zero=>exact absurd h (by simp)
 |succ i=>exact ⟨rfl,rfl⟩
theorem inK_zero(l:List GT){i:Nat}(h:i=0):inK l i=.slice [] true/\inH l i=[]:=by subst h;exact⟨rfl,rfl⟩
def inS(l:List GT)(H:Int)(i:Nat):St:=⟨[(24,.val (.int .i64 i)),(23,.val (.int .i64 l.length)),(22,.slice (l.map Ak) false),(4,.ref 128 0 0 7),(0,.slice (l.map Ak) false)],(128,.rows [[.slice [] true,inK l i,.val (.int .i64 H),.val (.int .i64 (Ja l i)),.val (.string ByteArray.empty),.val (.string ByteArray.empty),.val (.bool (FJ l i))]] 7)::inH l i,100⟩
theorem c_Inner(l:List GT)(h2:2<=l.length)(h8:l.length<=8)(hn:∀ i,i<l.length->l.getD i .nil≠ .nil/\(l.getD i .nil).count≠0/\(l.getD i .nil).height=(l.getD 0 .nil).height/\(l.getD i .nil).size<=8)
  (hh:0<=(l.getD 0 .nil).height/\(l.getD 0 .nil).height<=4611686018427387904) (hc:∀ i,i<=l.length->0<=Ja l i/\Ja l i<=4611686018427387904) (hr:∀ i,1<=i->i<l.length->ltS (l.getD (i-1) .nil).last (l.getD i .nil).first=true):
  A3 prog 139 [.slice (l.map Ak) false] (.tup [Ag (AF l),.val (.int .i64 0)]):=by
 have h1:=Xr l false 184 (by omega) fun i h h'=>by
  have:=c_Inner1 (l.getD (i-1) .nil) (l.getD i .nil) (hn _ (by omega)).1 (hn _ h').1
  rw[hr i h h'] at this
  exact this
 have b1:decide ((l.length:Int)<2)=false:=decide_eq_false (by omega)
 have b2:decide ((8:Int)<l.length)=false:=decide_eq_false (by omega)
 have e1:=B9 (show 0<l.length by omega)
 have hH:=Bx (l.getD 0 .nil)
 have w1:IntKind.i64.wrap ((l.getD 0 .nil).height+1)=(l.getD 0 .nil).height+1:=A9 (by omega) (by omega)
 unfold AF
 rw[AZ]
 refine Zf [] func139 rfl ntmps139 results139 ?_
 (have z:=Za b1<|Za b2<|Za e1<|Za @Ak.eq_1 w1;(try push_cast[z])<;>repeat' (first|apply Zi<;>intro _|refine Zc hH ?_|exact Zo|with_reducible apply Za)<;>try push_cast[z])
 all_goals first|omega|skip
 refine Zl (fun i=>i<=l.length) (fun i=>inS l ((l.getD 0 .nil).height+1) i) (fun i=>l.length-i) 0 (by simp) ?_ fun i hi=>?_
 ·unfold inS inK inH
  have:Ja l 0=0:=rfl
  have:FJ l 0=false:=rfl
  apply Zw<;>push_cast
  exact⟨rfl,rfl⟩
 ·unfold inS
  push_cast
  refine A6 (fun ha=>?_) (fun ha=>?_)
  ·have hi':i<l.length:=by simpa using ha
   obtain⟨n1,n2,n3,n4⟩:=hn i hi'
   have e2:=B9 hi'
   have hC:=LZ (l.getD i .nil)
   have hS:=c_Sound (l.getD i .nil) false (by omega)
   have k1:=Xl hi'
   have k2:=Ts hi'
   have k3:=Tw hi'
   have k4:=hc (i+1) hi'
   generalize l.getD i .nil=x at n1 n2 n3 n4 e2 hC hS k1 k2 k3
   obtain⟨e,k,hh',c,f,la,th,rfl⟩:=GT.ne_nil n1
   simp only[GT.count,GT.height] at n2 n3 k1 hC
   rw[AZ] at hC hS k3
   simp only[Ak,AZ] at e2
   have b3:((c:Int)==0)=false:=by simpa using n2
   have b4:IntKind.i64.wrap (hh'+1)=(l.getD 0 .nil).height+1:=by rw[n3];exact w1
   have b5:IntKind.i64.wrap (Ja l i+c)=Ja l (i+1):=by rw[<-k1];exact A9 (by omega) (by omega)
   have k5:(l.take i).length=i:=by rw[A0s];omega
   obtain⟨g3,g4⟩:=Qu l (Nat.succ_pos i)
   rcases A0M i with hz|hz
   ·obtain⟨g1,g2⟩:=inK_zero l hz
    rw[g1,g2]
    (have z:=Za e2<|Za b3<|Za b4<|Za b5 k5;(try push_cast[z])<;>repeat' (first|apply Zi<;>intro _|refine Zc hC ?_|refine Zc hS ?_|exact Zo|with_reducible apply Za)<;>try push_cast[z])
    all_goals first|omega|(intro y hy;cases hy;done)|(intro y hy;cases A0d.1 hy;rfl)|(intro y hy d hd;cases A0d.1 hy;cases A0d.1 hd;rfl)|(simp[Ak];done)|skip
    all_goals
     refine⟨i+1,hi',by omega,?_⟩
     rw[g3,g4,<-k3,k2]
     apply Zr [(4,408)] rfl<;>push_cast
    all_goals first|exact A9 (by omega) (by omega)|(rw[show FJ l i=true by assumption];rfl)|(rw[show FJ l i=false by assumption];rfl)|skip
    all_goals
     subst hz
     refine⟨⟨An _,?_⟩,BG _⟩
     first|(rw[show FJ l 0=true by assumption];rfl)|(rw[show FJ l 0=false by assumption];rfl)
   ·obtain⟨g1,g2⟩:=Qu l hz
    rw[g1,g2]
    (have z:=Za e2<|Za b3<|Za b4<|Za b5 k5;(try push_cast[z])<;>repeat' (first|apply Zi<;>intro _|refine Zc hC ?_|refine Zc hS ?_|exact Zo|with_reducible apply Za)<;>try push_cast[z])
    all_goals first|omega|(intro y hy;cases hy;done)|(intro y hy;cases A0d.1 hy;rfl)|(intro y hy d hd;cases A0d.1 hy;cases A0d.1 hd;rfl)|(simp[Ak];done)|skip
    all_goals
     refine⟨i+1,hi',by omega,?_⟩
     rw[g3,g4,<-k3,k2]
     apply Zr [(4,408)] rfl<;>push_cast
    all_goals first|exact A9 (by omega) (by omega)|(rw[show FJ l i=true by assumption];rfl)|(rw[show FJ l i=false by assumption];rfl)
  ·have hi':i=l.length:=by simp at ha;omega
   subst hi'
   obtain⟨g1,g2⟩:=Qu l (show 0<l.length by omega)
   have k5:(l.take l.length).length=l.length:=by rw[A0s];omega
   have e0:IntKind.i64.wrap (↑l.length-1)=((l.length-1:Nat):Int):=by rw[A9 (by omega) (by omega)];omega
   have e3:=B9 (show l.length-1<l.length by omega)
   have m0:=(hn 0 (by omega)).1
   have m1:=(hn (l.length-1) (by omega)).1
   generalize l.getD (l.length-1) .nil=y at m1 e3
   generalize l.getD 0 .nil=x at m0 e1 w1
   obtain⟨e,k,hh',c,f,la,th,rfl⟩:=GT.ne_nil m0
   obtain⟨e',k',hh2,c',f',la',th',rfl⟩:=GT.ne_nil m1
   simp only[Ak,AZ] at e1 e3
   rw[g1,g2]
   (have z:=Za e0<|Za e1<|Za e3 k5;(try push_cast[z])<;>repeat' (first|apply Zi<;>intro _|refine Zc h1 ?_|exact Zo|with_reducible apply Za)<;>try push_cast[z])
   all_goals first|omega|exact fun h=>h.elim|rfl|(rw[A0Q];exact BG _)|skip
def Bz(p:Nat->Bool):Nat->Nat->Nat
 |i,0=>i
 |i,n+1=>if p i then i else Bz p (i+1) n
theorem Pi{p:Nat->Bool}{n k:Nat}:∀ (m i:Nat),i+m=n->i<=k->k<=n->(∀ x,i<=x->x<k->p x=false)->(∀ x,k<=x->x<n->p x=true)->Bz p i m=k
 |0,i,h1,h2,h3,h4,h5=>by simp only[Bz];omega
 |m+1,i,h1,h2,h3,h4,h5=>by
  simp only[Bz]
  by_cases hk:i=k
  ·subst hk;rw[if_pos (h5 i (A0e _) (by omega))]
  ·rw[if_neg (by rw[h4 i (A0e _) (by omega)];simp)]
   exact Pi m (i+1) (by omega) (by omega) h3 (fun x hx hk=>h4 x (by omega) hk) h5
theorem EV(p:Nat->Bool):∀ (m i:Nat),Bz p i m<=i+m
 |0,i=>by simp[Bz]
 |m+1,i=>by
  simp only[Bz]
  split
  ·omega
  ·have:=EV p m (i+1);omega
theorem mid_eq{i j:Nat}(h:i+j<9223372036854775808):IntKind.i64.wrap ((IntKind.u64.wrap (IntKind.i64.wrap (↑i+↑j))).fdiv (2^min 1 IntKind.u64.bits))=(((i+j)/2:Nat):Int):=by
 have e1:IntKind.i64.wrap (↑i+↑j)=(↑i+↑j:Int):=A9 (by omega) (by omega)
 have e2:IntKind.u64.wrap (↑i+↑j:Int)=(↑i+↑j:Int):=by simp only[IntKind.wrap,IntKind.bits,IntKind.signed];simp;omega
 have e3:((2:Int)^min 1 IntKind.u64.bits)=2:=by rfl
 rw[e1,e2,e3]
 have e4:(↑i+↑j:Int).fdiv 2=(((i+j)/2:Nat):Int):=by
  rw[Int.fdiv_eq_ediv_of_nonneg _ (by decide)];omega
 rw[e4]
 exact A9 (by omega) (by omega)
theorem Kn(n:Nat)(g:Nat)(cs:List D)(p:Nat->Bool)(hpu:Av cs=true)(hn:n<=4611686018427387904)(h:∀ i,i<n->A3 prog g (.val (.int .i64 i)::cs) (.val (.bool (p i))))(hm:∀ i j,i<=j->j<n->p i=true->p j=true):
  A3 prog 129 [.val (.int .i64 n),.func (.func g) [] cs] (.val (.int .i64 (Bz p 0 n))):=by
 refine Zf [] func129 rfl ntmps129 results129 ?_
 ((try push_cast)<;>repeat' (first|apply Zi<;>intro _|exact Zp|with_reducible apply Za)<;>try push_cast)
 refine AWp.loopI mixed (by kernel_rfl) (ι:=Nat×Nat) (fun q=>q.1<=q.2/\q.2<=n/\(∀ x,x<q.1->p x=false)/\(∀ x,q.2<=x->x<n->p x=true)) (fun q=>⟨[(5,.val (.int .i64 q.1)),(6,.val (.int .i64 q.2)),(1,.func (.func g) [] cs)],[],0⟩) (fun q=>q.2-q.1) (0,n) (by simp;intro x h1 h2;omega) ?_ fun q hq=>?_
 ·apply Zw<;>push_cast<;>simp [hpu,C0,CF,K7,lo]
 ·obtain⟨i,j⟩:=q
  obtain⟨h1,h2,h3,h4⟩:=hq
  simp only at h1 h2 h3 h4
  push_cast
  refine A6 (fun ha=>?_) (fun ha=>?_)
  ·have ha':i<j:=by simpa using ha
   have em:=mid_eq (i:=i) (j:=j) (by omega)
   have hmn:(i+j)/2<n:=by omega
   have hij:i<=(i+j)/2/\(i+j)/2<j:=by omega
   generalize(i+j)/2=m at em hmn hij
   (have z:=Za em @hpu;(try push_cast[z])<;>repeat' (first|apply Zi<;>intro _|refine Zv (h m hmn) ?_|exact Zo|with_reducible apply Za)<;>try push_cast[z])
   ·rename_i k
    simp only[A1e] at k
    refine⟨(m+1,j),⟨by simp only;omega,h2,fun x hx=>?_,h4⟩,by simp only;omega,?_⟩
    ·cases hp:p x with
     |false=>rfl
     |true=>have:=hm x m (by simp only at hx;omega) hmn hp;rw[this] at k;cases k
    ·apply Zw<;>push_cast<;>simp [hpu,C0,CF,K7,lo]
     exact A9 (by omega) (by omega)
   ·rename_i k
    simp only[A1q] at k
    refine⟨(i,m),⟨by simp only;omega,by simp only;omega,h3,fun x hx hxn=>hm m x (by simp only at hx;omega) hxn k⟩,by simp only;omega,?_⟩
    apply Zw<;>push_cast<;>simp [hpu,C0,CF,K7,lo]
  ·((try push_cast)<;>repeat' (first|apply Zi<;>intro _|exact Zp|with_reducible apply Za)<;>try push_cast)
   have:i=j:=by simp at ha;omega
   subst this
   rw[Pi n 0 (by omega) (A0t _) h2 (fun x _ hx=>h3 x hx) h4]
theorem Fe(k:ByteArray):(k=⟨#[]⟩)↔k.size=0:=by
 constructor
 ·intro h;subst h;rfl
 ·intro h
  apply Ld
  have:(bl k).length=0:=h
  rw[A0G.1 this];rfl
def Gz(valid:Bool)(k:ByteArray):Int:=if k.size=0 then 8 else if 64<k.size then 6 else if valid then 0 else 3
abbrev QS(k:ByteArray):D:=.ptr [.val (.string k)] 0
theorem UL(k:ByteArray):A3 prog 199 [QS k] (.val (.bool (decide (k.size=0)))):=by
 refine Zf [] func199 rfl ntmps199 results199 ?_
 ((try push_cast)<;>repeat' (first|apply Zi<;>intro _|exact Zp|with_reducible apply Za)<;>try push_cast)
 simp[Fe]
theorem UK(k:ByteArray):A3 prog 200 [QS k] (.val (.bool (decide (64<k.size)))):=by
 refine Zf [] func200 rfl ntmps200 results200 ?_
 ((try push_cast)<;>repeat' (first|apply Zi<;>intro _|exact Zp|with_reducible apply Za)<;>try push_cast)
 congr 1;exact propext (by omega)
theorem UJ(k:ByteArray)(v:Bool)(hv:A3 prog 196 [.val (.string k)] (.val (.bool v))):A3 prog 201 [QS k] (.val (.bool (!v))):=by
 refine Zf [] func201 rfl ntmps201 results201 ?_
 (have z:=trivial;(try push_cast)<;>repeat' (first|apply Zi<;>intro _|refine Zc (hv ..) ?_|exact Zp|with_reducible apply Za)<;>try push_cast)
theorem Xt(k:ByteArray):A3 prog 158 [.val (.string k)] (.slice [[.val (.int .i64 8),.func (.func 199) [] [QS k]],[.val (.int .i64 6),.func (.func 200) [] [QS k]],[.val (.int .i64 3),.func (.func 201) [] [QS k]]] false):=by
 refine Zf [0] func158 rfl ntmps158 results158 ?_
 ((try push_cast)<;>repeat' (first|apply Zi<;>intro _|exact Zp|with_reducible apply Za)<;>try push_cast)
 all_goals simp
theorem Xw(k:ByteArray)(v:Bool)(hv:A3 prog 196 [.val (.string k)] (.val (.bool v))):A3 prog 117 [.val (.string k)] (.val (.int .i64 (Gz v k))):=by
 refine Zf [] func117 rfl ntmps117 results117 ?_
 (have z:=trivial;(try push_cast)<;>repeat' (first|apply Zi<;>intro _|refine Zc (Xt ..) ?_|exact Zp|with_reducible apply Za)<;>try push_cast)
 refine Zl (fun i=>i<=3/\(0<i->k.size≠0)/\(1<i->k.size<=64)/\(2<i->v=true)) (fun i=>⟨[(8,.val (.int .i64 i)),(7,.val (.int .i64 3)),(6,.slice [[.val (.int .i64 8),.func (.func 199) [] [QS k]],[.val (.int .i64 6),.func (.func 200) [] [QS k]],[.val (.int .i64 3),.func (.func 201) [] [QS k]]] false)],[],0⟩) (fun i=>3-i) 0 (by simp) ?_ fun i hi=>?_
 ·apply Zw<;>push_cast<;>simp
 ·obtain⟨h1,h2,h3,h4⟩:=hi
  have hc:i=0∨i=1∨i=2∨i=3:=by omega
  rcases hc with rfl|rfl|rfl|rfl
  ·(have z:=trivial;(try push_cast)<;>repeat' (first|apply Zi<;>intro _|refine Zv (UL ..) ?_|exact Zp|with_reducible apply Za)<;>try push_cast)
   ·rename_i h;simp only[decide_eq_true_eq] at h;simp[Gz,h]
   ·rename_i h;simp only[decide_eq_false_iff_not] at h
    refine⟨1,⟨by omega,fun _=>h,by omega,by omega⟩,by omega,?_⟩
    apply Zw<;>push_cast<;>simp [A9]
  ·(have z:=trivial;(try push_cast)<;>repeat' (first|apply Zi<;>intro _|refine Zv (UK ..) ?_|exact Zp|with_reducible apply Za)<;>try push_cast)
   ·rename_i h;simp only[decide_eq_true_eq] at h
    have:=h2 (by omega)
    simp[Gz,h,this]
   ·rename_i h;simp only[decide_eq_false_iff_not] at h
    refine⟨2,⟨by omega,fun _=>h2 (by omega),fun _=>by omega,by omega⟩,by omega,?_⟩
    apply Zw<;>push_cast<;>simp [A9]
  ·(have z:=trivial;(try push_cast)<;>repeat' (first|apply Zi<;>intro _|exact Zp|with_reducible apply Za|(with_reducible show Af _ _ _ _ _ _ _ _;refine Af.callV rfl (by(try push_cast);exact UJ _ _ hv) (by first|exact .inl rfl|exact .inr ⟨_,_,_,rfl,rfl,rfl⟩) rfl (by first|rfl|push_cast) ?_)<;>try push_cast|fail)<;>try push_cast)
   ·rename_i h
    have g1:=h2 (by omega)
    have g2:=h3 (by omega)
    have g3:¬64<k.size:=by omega
    simp only[A1e] at h
    simp[Gz,g1,g3,h]
   ·rename_i h
    simp only[A1q] at h
    refine⟨3,⟨by omega,fun _=>h2 (by omega),fun _=>h3 (by omega),fun _=>h⟩,by omega,?_⟩
    apply Zw<;>push_cast<;>simp [A9]
  ·((try push_cast)<;>repeat' (first|apply Zi<;>intro _|exact Zp|with_reducible apply Za)<;>try push_cast)
   have g1:=h2 (by omega)
   have g2:=h3 (by omega)
   have g3:¬64<k.size:=by omega
   simp[Gz,g1,g3,h4]
theorem T0(l:List GT)(k:ByteArray)(i:Nat)(hi:i<l.length):A3 prog 174 [.val (.int .i64 i),.ptr [.slice (l.map Ak) false] 0,.ptr [.val (.string k)] 0] (.val (.bool (ltS k (l.getD i .nil).first))):=by
 have ea:=B9 hi
 refine Zf [] func174 rfl ntmps174 results174 ?_
 (have z:=Za ea @Ak.eq_1;(try push_cast[z])<;>repeat' (first|apply Zi<;>intro _|refine Zc (VU ..) ?_|exact Zo|with_reducible apply Za)<;>try push_cast[z])
 all_goals omega
def AG(l:List GT)(k:ByteArray):Nat:=Bz (fun i=>ltS k (l.getD i .nil).first) 0 l.length-1
theorem Ed(l:List GT)(k:ByteArray)(hm:∀ i j,i<=j->j<l.length->ltS k (l.getD i .nil).first=true->ltS k (l.getD j .nil).first=true)(hn:l.length<=4611686018427387904):
  A3 prog 128 [.slice (l.map Ak) false,.val (.string k)] (.val (.int .i64 (AG l k))):=by
 have hs:=Kn l.length 174 [.ptr [.slice (l.map Ak) false] 0,.ptr [.val (.string k)] 0] (fun i=>ltS k (l.getD i .nil).first) (by simp only[Av,D.pure,Ci,A0X]) hn (fun i hi=>T0 l k i hi) hm
 refine Zf [0,8] func128 rfl ntmps128 results128 ?_
 (have z:=trivial;(try push_cast)<;>repeat' (first|apply Zi<;>intro _|refine Zc (hs ..) ?_|exact Zp|with_reducible apply Za)<;>try push_cast)
 have hle:=EV (fun i=>ltS k (l.getD i .nil).first) l.length 0
 unfold AG
 generalize Bz (fun i=>ltS k (l.getD i .nil).first) 0 l.length=m at hle
 rw[A9 (by omega) (by omega)]
 split<;>omega
theorem c_place1(l:List GE)(t:Bool)(k:ByteArray)(i:Nat)(hi:i<l.length):A3 prog 176 [.val (.int .i64 i),.ptr [.slice (l.map Ac) t] 0,.ptr [.val (.string k)] 0] (.val (.bool (!ltS (l.getD i zM).1 k))):=by
 have ea:=AV hi
 refine Zf [] func176 rfl ntmps176 results176 ?_
 (have z:=Za ea @Ao;(try push_cast[z])<;>repeat' (first|apply Zi<;>intro _|exact Zo|with_reducible apply Za)<;>try push_cast[z])
 all_goals first|omega|skip
def AB(l:List GE)(k:ByteArray):Nat:=Bz (fun i=>!ltS (l.getD i zM).1 k) 0 l.length
def C5(l:List GE)(k:ByteArray):Bool:=decide (AB l k<l.length)&&decide ((l.getD (AB l k) zM).1=k)
theorem Km(l:List GE)(t:Bool)(k:ByteArray)(hm:∀ i j,i<=j->j<l.length->ltS (l.getD i zM).1 k=false->ltS (l.getD j zM).1 k=false)(hn:l.length<=4611686018427387904):
  A3 prog 133 [.slice (l.map Ac) t,.val (.string k)] (.tup [.val (.int .i64 (AB l k)),.val (.bool (C5 l k))]):=by
 have hs:=Kn l.length 176 [.ptr [.slice (l.map Ac) t] 0,.ptr [.val (.string k)] 0] (fun i=>!ltS (l.getD i zM).1 k) (by simp only[Av,D.pure,A7,A0X]) hn (fun i hi=>c_place1 l t k i hi) (fun i j h h' h2=>by have:=hm i j h h';revert this h2;cases ltS (l.getD i zM).1 k<;>simp)
 refine Zf [0,8] func133 rfl ntmps133 results133 ?_
 rcases A0v (AB l k) l.length with hp|hp
 ·have h0:decide ((AB l k:Int)<l.length)=true:=decide_eq_true (by omega)
  have ea:=AV hp
  unfold C5
  rw[decide_eq_true hp]
  unfold AB at h0 ea hp|-
  (have z:=Za h0<|Za ea @Ao;(try push_cast[z])<;>repeat' (first|apply Zi<;>intro _|refine Zc (hs ..) ?_|exact Zo|with_reducible apply Za)<;>try push_cast[z])
  all_goals first|omega|skip
 ·have h0:decide ((AB l k:Int)<l.length)=false:=decide_eq_false (by omega)
  unfold C5
  rw[decide_eq_false (by omega)]
  unfold AB at h0 hp|-
  (have z:=h0;(try push_cast[z])<;>repeat' (first|apply Zi<;>intro _|refine Zc (hs ..) ?_|exact Zo|with_reducible apply Za)<;>try push_cast[z])
  all_goals first|omega|skip
theorem GQ(l:List GE)(t:Bool)(hl:l.length<=8)(hs:∀ e ∈ l,Sm e.2)(hr:∀ i,1<=i->i<l.length->ltS (l.getD (i-1) zM).1 (l.getD i zM).1=true):
  A3 prog 136 [.slice (l.map Ac) t] (Ag (AC l)):=by
 have h:=c_Leaf l t hl hs hr
 refine Zf [] func136 rfl ntmps136 results136 ?_
 (have z:=trivial;(try push_cast)<;>repeat' (first|apply Zi<;>intro _|refine Zc h ?_|exact Zp|with_reducible apply Za)<;>try push_cast)
def DP(l:List GT):GT:=if l.length=1 then l.getD 0 .nil else AF l
structure OkK(l:List GT):Prop where
 h8:l.length<=8
 hn:∀ i,i<l.length->l.getD i .nil≠ .nil/\(l.getD i .nil).count≠0/\(l.getD i .nil).height=(l.getD 0 .nil).height/\(l.getD i .nil).size<=8
 hh:0<=(l.getD 0 .nil).height/\(l.getD 0 .nil).height<=4611686018427387904
 hc:∀ i,i<=l.length->0<=Ja l i/\Ja l i<=4611686018427387904
 hr:∀ i,1<=i->i<l.length->ltS (l.getD (i-1) .nil).last (l.getD i .nil).first=true
structure OkE(l:List GE):Prop where
 hl:l.length<=8
 hs:∀ e ∈ l,Sm e.2
 hr:∀ i,1<=i->i<l.length->ltS (l.getD (i-1) zM).1 (l.getD i zM).1=true
theorem DR(l:List GT)(h1:1<=l.length)(h:OkK l):A3 prog 89 [.slice (l.map Ak) false] (Ag (DP l)):=by
 have e1:=B9 (show 0<l.length by omega)
 unfold DP
 rcases Nat.eq_or_lt_of_le h1 with hz|hz
 ·have h0:((l.length:Int)==1)=true:=by simp;omega
  rw[if_pos hz.symm]
  refine Zf [] func89 rfl ntmps89 results89 ?_
  (have z:=Za h0<|Za e1 @Ak.eq_1;(try push_cast[z])<;>repeat' (first|apply Zi<;>intro _|exact Zo|with_reducible apply Za)<;>try push_cast[z])
  all_goals first|omega|exact An _|exact B4 _|exact D4 _|skip
 ·have h0:((l.length:Int)==1)=false:=by simp;omega
  have hc:=c_Inner l hz h.h8 h.hn h.hh h.hc h.hr
  rw[if_neg (by omega)]
  refine Zf [] func89 rfl ntmps89 results89 ?_
  (have z:=Za h0<|Za e1 @Ak.eq_1;(try push_cast[z])<;>repeat' (first|apply Zi<;>intro _|refine Zc (hc ..) ?_|exact Zo|with_reducible apply Za)<;>try push_cast[z])
  all_goals first|omega|exact An _|exact B4 _|exact D4 _|skip
theorem B4(l:List GE):∀ x ∈ l.map Ac,x.length=7:=by
 intro x hx
 obtain⟨y,_,rfl⟩:=A0j.1 hx
 exact AT y
theorem D4(l:List GT):∀ x ∈ l.map Ak,x.length=1:=by
 intro x hx
 obtain⟨y,_,rfl⟩:=A0j.1 hx
 rfl
theorem Cb{l:List (List D)}(h:Am l=true):∀ n,Am (l.take n)=true:=by
 induction l with
 |nil=>intro n;simp[Am]
 |cons x l ih=>
  simp only[Am,A0c] at h
  intro n
  cases n with
  |zero=>rfl
  |succ n=>simp only[List.take_succ_cons,Am,h.1,ih h.2 n,A0X]
theorem Cc{l:List (List D)}(h:Am l=true):∀ n,Am (l.drop n)=true:=by
 induction l with
 |nil=>intro n;simp[Am]
 |cons x l ih=>
  simp only[Am,A0c] at h
  intro n
  cases n with
  |zero=>simp only[A1T,Am,h.1,h.2,A0X]
  |succ n=>exact ih h.2 n
def Jt(l:List GE):GT×GT:=if l.length<=8 then(AC l,.nil) else(AC (l.take 4),AC (l.drop 4))
def Hc(l:List GT):GT×GT:=if l.length<=8 then(DP l,.nil) else(DP (l.take 4),DP (l.drop 4))
theorem T4(l:List GE)(h:if l.length<=8 then OkE l else OkE (l.take 4)/\OkE (l.drop 4)):
  A3 prog 135 [.slice (l.map Ac) false,.func (.func 136) [] []] (.tup [Ag (Jt l).1,Ag (Jt l).2]):=by
 unfold Jt
 by_cases hz:l.length<=8
 ·have h0:decide ((l.length:Int)<=8)=true:=decide_eq_true (by omega)
  rw[if_pos hz] at h|-
  have hc:=GQ l false h.hl h.hs h.hr
  rw[At]
  refine Zf [] func135 rfl ntmps135 results135 ?_
  (have z:=h0;(try push_cast[z])<;>repeat' (first|apply Zi<;>intro _|refine Zv (hc ..) ?_|exact Zo|with_reducible apply Za)<;>try push_cast[z])
  all_goals first|omega|exact An _|exact B4 _|exact D4 _|skip
 ·have h0:decide ((l.length:Int)<=8)=false:=decide_eq_false (by omega)
  rw[if_neg hz] at h|-
  have hc:=GQ (l.take 4) false h.1.hl h.1.hs h.1.hr
  have hd:=GQ (l.drop 4) false h.2.hl h.2.hs h.2.hr
  rw[A1J] at hc
  rw[A24] at hd
  have p1:=Cb (A7 l) 4
  have p2:=Cc (A7 l) 4
  have tk:List.take (l.length-4) (List.drop 4 (List.map Ac l))=List.drop 4 (List.map Ac l):=A0f (by simp)
  refine Zf [] func135 rfl ntmps135 results135 ?_
  (have z:=Za h0<|Za p1<|Za p2 tk;(try push_cast[z])<;>repeat' (first|apply Zi<;>intro _|refine Zv (hc ..) ?_|refine Zv (hd ..) ?_|exact Zo|with_reducible apply Za)<;>try push_cast[z])
  all_goals first|omega|exact An _|exact B4 _|exact D4 _|skip
theorem T3(l:List GT)(h1:1<=l.length)(h:if l.length<=8 then OkK l else OkK (l.take 4)/\OkK (l.drop 4)):
  A3 prog 138 [.slice (l.map Ak) false,.func (.func 89) [] []] (.tup [Ag (Hc l).1,Ag (Hc l).2]):=by
 unfold Hc
 by_cases hz:l.length<=8
 ·have h0:decide ((l.length:Int)<=8)=true:=decide_eq_true (by omega)
  rw[if_pos hz] at h|-
  have hc:=DR l h1 h
  rw[At]
  refine Zf [] func138 rfl ntmps138 results138 ?_
  (have z:=h0;(try push_cast[z])<;>repeat' (first|apply Zi<;>intro _|refine Zv (hc ..) ?_|exact Zo|with_reducible apply Za)<;>try push_cast[z])
  all_goals first|omega|exact An _|exact B4 _|exact D4 _|skip
 ·have h0:decide ((l.length:Int)<=8)=false:=decide_eq_false (by omega)
  rw[if_neg hz] at h|-
  have hc:=DR (l.take 4) (by simp;omega) h.1
  have hd:=DR (l.drop 4) (by simp;omega) h.2
  rw[A1J] at hc
  rw[A24] at hd
  have p1:=Cb (Ci l) 4
  have p2:=Cc (Ci l) 4
  have tk:List.take (l.length-4) (List.drop 4 (List.map Ak l))=List.drop 4 (List.map Ak l):=A0f (by simp)
  refine Zf [] func138 rfl ntmps138 results138 ?_
  (have z:=Za h0<|Za p1<|Za p2 tk;(try push_cast[z])<;>repeat' (first|apply Zi<;>intro _|refine Zv (hc ..) ?_|refine Zv (hd ..) ?_|exact Zo|with_reducible apply Za)<;>try push_cast[z])
  all_goals first|omega|exact An _|exact B4 _|exact D4 _|skip
def Df{α:Type}(l:List α)(i:Nat)(x:α):List α:=l.take i++x::l.drop i
theorem Rx{α:Type}(X Z:List α)(i:Nat)(x:α)(hi:i<=X.length)(hz:Z.length=X.length+1-i):AM (AM (X.take i++Z) i [x]) (i+1) (X.drop i)=X.take i++x::X.drop i:=by
 have e1:(X.take i).length=i:=by simp;omega
 have e2:AM (X.take i++Z) i [x]=X.take i++x::Z.drop 1:=by
  have h1:(X.take i).drop (i+1)=[]:=A0B (by omega)
  simp only[AM,A1H]
  rw[List.take_left' e1,List.drop_append,h1,e1,A1O]
  rfl
 have e3:(X.take i++x::Z.drop 1).take (i+1)=X.take i++[x]:=by
  have h1:(X.take i).take (i+1)=X.take i:=A0f (by omega)
  rw[List.take_append,h1,e1,A1O]
  rfl
 have e4:(X.take i++x::Z.drop 1).drop (i+1+(X.drop i).length)=[]:=A0B (by
  simp only[A08,A0g,A0n,e1];omega)
 rw[e2]
 simp only[AM]
 rw[e3,e4]
 simp
theorem EQ{α β:Type}(f:α->β)(l:List α)(i:Nat)(x:α):(Df l i x).map f=(l.map f).take i++f x::(l.map f).drop i:=by
 simp[Df,A1J,A24]
theorem Ze(v:GV):∀ d ∈ Aa v,BF d=true:=by
 rw[A0]
 intro d hd
 simp only[A0o,A1i,or_false] at hd
 rcases hd with rfl|rfl|rfl|rfl|rfl|rfl<;>rfl
theorem S5(x:GE):∀ d ∈ Ac x,BF d=true:=by
 intro d hd
 rcases A0o.1 hd with rfl|hd
 ·rfl
 ·exact Ze _ d hd
theorem Cp(l:List GE):∀ x ∈ l.map Ac,∀ d ∈ x,BF d=true:=by
 intro x hx
 obtain⟨y,_,rfl⟩:=A0j.1 hx
 exact S5 y
theorem KM(l:List GT):∀ x ∈ l.map Ak,∀ d ∈ x,BF d=true:=by
 intro x hx d hd
 obtain⟨y,_,rfl⟩:=A0j.1 hx
 rcases A0o.1 hd with rfl|hd
 ·exact N5 y
 ·cases hd
theorem Qp(x:GE):∀ y ∈ [Ac x],y.length=7:=fun y hy=>by cases A0d.1 hy;exact AT x
theorem Qc(x:GE):∀ y ∈ [Ac x],∀ d ∈ y,BF d=true:=fun y hy=>by cases A0d.1 hy;exact S5 x
theorem Pd(l:List GE)(i:Nat):∀ y ∈ (l.map Ac).drop i,y.length=7:=fun y hy=>B4 l y (A0V hy)
theorem NW(l:List GE)(i:Nat):∀ y ∈ (l.map Ac).drop i,∀ d ∈ y,BF d=true:=fun y hy=>Cp l y (A0V hy)
theorem c_insE(l:List GE)(x:GE)(i:Nat)(hi:i<=l.length)(hn:l.length<=1048576):
  A4 prog 134 [.sref 1 0 l.length l.length 7,.val (.int .i64 i),.sref 3 0 1 1 7] [(1,.rows (l.map Ac) 7),(3,.rows [Ac x] 7)] (.gref 0 (l.length+1)) [(0,.grow ((Df l i x).map Ac) 7)]:=by
 rcases A0v i l.length with hz|hz
 ·have b1:((i:Int)==l.length)=false:=by simp;omega
  have w1:IntKind.i64.wrap (↑l.length+1)=(l.length:Int)+1:=A9 (by omega) (by omega)
  have w2:IntKind.i64.wrap (↑l.length+1-↑i)=((l.length+1-i:Nat):Int):=by rw[A9 (by omega) (by omega)];omega
  have w3:IntKind.i64.wrap (↑i+1)=(i:Int)+1:=A9 (by omega) (by omega)
  have t1:((i:Int)+1).toNat=i+1:=by omega
  have t2:((i:Int)+↑(l.length+1-i)).toNat=l.length+1:=by omega
  have t3:(l.length:Int)+1=((l.length+1:Nat):Int):=by omega
  have t4:min 1 (l.length+1-i)=1:=by omega
  have t5:min (l.length-i) (l.length+1-(i+1))=l.length-i:=by omega
  have t6:List.take (l.length-i) (List.drop i (List.map Ac l))=List.drop i (List.map Ac l):=A0f (by simp)
  have b2:decide ((l.length:Int)<(l.length:Int)+1)=true:=decide_eq_true (by omega)
  have b3:decide (i<l.length)=true:=decide_eq_true hz
  have b4:decide (i+1<l.length+1)=true:=decide_eq_true (by omega)
  have t7:i+(l.length+1-i)=l.length+1:=by omega
  have t8:(List.drop i (List.map Ac l)).length=l.length-i:=by simp
  have key:=Rx (l.map Ac) (List.replicate (l.length+1-i) z7) i (Ac x) (by simp;omega) (by simp)
  simp only[z7,z6] at key
  have t9:((l.length:Int)+1).toNat=l.length+1:=by omega
  have p1:=Cb (A7 l) i
  have p2:=Cc (A7 l) i
  refine Zd [] func134 rfl ntmps134 results134 ?_
  (have z:=Za b1<|Za w1<|Za w2<|Za w3<|Za t1<|Za t2<|Za t4<|Za t5<|Za t6<|Za t7<|Za t8<|Za t9<|Za b2<|Za b3<|Za b4 @Nat.min_self;(try push_cast[z])<;>repeat' (first|apply Zi<;>intro _|exact Zo|with_reducible apply Za)<;>try push_cast[z])
  all_goals first|omega|exact Qp x|exact Qc x|exact Pd l i|exact NW l i|(simp;omega)|(simp[AM];omega)|skip
  rw[EQ]
  apply Zr [(0,240)] rfl<;>push_cast [t9,t4,t5,t6,key,p1,p2]
 ·have b1:((i:Int)==l.length)=true:=by simp;omega
  have b2:decide (l.length+1<=l.length)=false:=decide_eq_false (by omega)
  have t1:i=l.length:=by omega
  subst t1
  refine Zd [] func134 rfl ntmps134 results134 ?_
  (have z:=Za b1 b2;(try push_cast[z])<;>repeat' (first|apply Zi<;>intro _|exact Zo|with_reducible apply Za)<;>try push_cast[z])
  all_goals first|omega|exact Qp x|exact Qc x|(simp;omega)|skip
  rw[EQ]
  have p1:=Cb (A7 l) l.length
  have p2:=Cc (A7 l) l.length
  have p3:List.drop l.length (List.map Ac l)=[]:=A0B (by simp)
  apply Zr [(0,144)] rfl<;>push_cast [p1,p2,p3]
theorem x_ovlK:XS prog 180:=
 XS.of func180 (by kernel_rfl) (by kernel_rfl) (by kernel_rfl) (by kernel_rfl) (by kernel_rfl) (size:=1) (tS:=129) (tR:=4) (e:=72) (fun w=>by kernel_rfl)
theorem XX(b c cap sz:Nat)(t:GT):unD b c cap sz (Ag t)=Ag t:=by cases t<;>simp only[Ag]<;>rfl
theorem XY(b c cap sz:Nat)(t:GT):(Ak t).map (unD b c cap sz)=Ak t:=by simp only[Ak,A0k,A0S,XX]
theorem grS_encT(b c n cap:Nat)(t:GT):grS b c n cap (Ag t)=Ag t:=by cases t<;>simp only[Ag]<;>rfl
theorem Ss(b c n cap:Nat)(t:GT):(Ak t).map (grS b c n cap)=Ak t:=by simp only[Ak,A0k,A0S,grS_encT]
theorem K9(x:GT):∀ y ∈ [Ak x],y.length=1:=fun y hy=>by cases A0d.1 hy;rfl
theorem Hq(x:GT):∀ y ∈ [Ak x],∀ d ∈ y,BF d=true:=fun y hy d hd=>by
 cases A0d.1 hy
 rcases A0o.1 hd with rfl|hd
 ·exact N5 x
 ·cases hd
theorem KY(l:List GT)(i:Nat):∀ y ∈ (l.map Ak).drop i,y.length=1:=fun y hy=>D4 l y (A0V hy)
theorem KN(l:List GT)(i:Nat):∀ y ∈ (l.map Ak).drop i,∀ d ∈ y,BF d=true:=fun y hy=>KM l y (A0V hy)
theorem WX(l:List GT)(c m i:Nat):∀ y ∈ List.take m (List.drop i (List.map Ak l++List.replicate c [D.any])),y.length=1:=by
 intro y hy
 rcases A1a.1 (A0V (A0W hy)) with h|h
 ·exact D4 l y h
 ·rw[(List.mem_replicate.1 h).2];rfl
theorem Vl{α:Type}(X Y:List α){i n:Nat}(hn:X.length=n)(hi:i<=n):((X++Y).drop i).take (n-i)=X.drop i:=by
 rw[List.drop_append_of_le_length (by omega),A1x (by simp;omega),A0f (by simp;omega)]
theorem Rq{α:Type}(X Y:List α)(x:α){i n:Nat}(hn:X.length=n)(hi:i<=n)(hy:0<Y.length):(AM (AM (X++Y) (i+1) (X.drop i)) i [x]).take (n+1)=X.take i++x::X.drop i:=by
 have e1:(X.take i).length=i:=by simp;omega
 have e0:(X++Y).take (i+1)=X.take i++((X.drop i++Y).take 1):=by
  have:X++Y=X.take i++(X.drop i++Y):=by rw[<-A05,A0R]
  rw[this,List.take_append,A0f (by omega),e1,A1O]
 obtain⟨z,hz⟩:∃ z,(X.drop i++Y).take 1=[z]:=by
  cases h:X.drop i++Y with
  |nil=> have h1:(X.drop i++Y).length=0:=by rw[h];rfl
         rw[A08] at h1;omega
  |cons z r=>exact ⟨z,rfl⟩
 rw[hz] at e0
 have e2:AM (X++Y) (i+1) (X.drop i)=X.take i++z::(X.drop i++(X++Y).drop (i+1+(X.drop i).length)):=by
  simp only[AM];rw[e0];simp
 rw[e2]
 generalize(X++Y).drop (i+1+(X.drop i).length)=W
 have e3:AM (X.take i++z::(X.drop i++W)) i [x]=X.take i++x::(X.drop i++W):=by
  have h1:(X.take i).drop (i+1)=[]:=A0B (by omega)
  simp only[AM,A1H]
  rw[List.take_left' e1,List.drop_append,h1,e1,A1O]
  rfl
 rw[e3]
 have e4:X.take i++x::(X.drop i++W)=(X.take i++x::X.drop i)++W:=by simp
 rw[e4,A1x (by simp;omega),A0f (by simp;omega)]
theorem c_insK(l:List GT)(x:GT)(i:Nat)(hi:i<=l.length)(h0:0<l.length)(hn:l.length<=1048576):
  A4 prog 137 [.gref 1 l.length,.val (.int .i64 i),.sref 3 0 1 1 1] [(1,.grow (l.map Ak) 1),(3,.rows [Ak x] 1)] (.gref 0 (l.length+1)) [(0,.grow ((Df l i x).map Ak) 1)]:=by
 refine A4.of_awp func137 rfl ntmps137 (by kernel_rfl) (by simp) (congrArg Array.toList results137) (AWp.sz fun H Hb=>AWp.ungrow (b:=1) rfl (fun hg0=>?_) (fun cap hg1 hg2 hg3=>Zy ?_))
 ·have:l.length=0:=by simpa using congrArg List.length hg0
  omega
 have hc0:l.length<=cap:=by simpa using hg1
 have w1:IntKind.i64.wrap (↑l.length+1)=(l.length:Int)+1:=A9 (by omega) (by omega)
 have w2:IntKind.i64.wrap (↑l.length+1-↑i)=((l.length+1-i:Nat):Int):=by rw[A9 (by omega) (by omega)];omega
 have w3:IntKind.i64.wrap (↑i+1)=(i:Int)+1:=A9 (by omega) (by omega)
 have t1:((i:Int)+1).toNat=i+1:=by omega
 have t2:((i:Int)+↑(l.length+1-i)).toNat=l.length+1:=by omega
 have t4:min 1 (l.length+1-i)=1:=by omega
 have t9:((l.length:Int)+1).toNat=l.length+1:=by omega
 have t7:i+(l.length+1-i)=l.length+1:=by omega
 have m1:(List.map Ak l++List.replicate (cap-l.length) [D.any]).length=cap:=by simp;omega
 have u1:=XY 1 8 cap 1 x
 have r1:List.take i (List.map Ak l++List.replicate (cap-l.length) [D.any])=List.take i (List.map Ak l):=A1x (by simp;omega)
 have r2:List.take (l.length-i) (List.drop i (List.map Ak l++List.replicate (cap-l.length) [D.any]))=List.drop i (List.map Ak l):=Vl _ _ (by simp) hi
 have r3:List.take (l.length-i) (List.take (l.length+1-i) (List.drop i (List.map Ak l++List.replicate (cap-l.length) [D.any])))=List.drop i (List.map Ak l):=by
  rw[List.take_take,Nat.min_eq_left (by omega),r2]
 have t8:(List.drop i (List.map Ak l)).length=l.length-i:=by simp
 have p1:=Cb (Ci l) i
 have p2:=Cc (Ci l) i
 rcases A0v i l.length with hz|hz
 ·have b1:((i:Int)==l.length)=false:=by simp;omega
  have t5:min (l.length-i) (l.length+1-(i+1))=l.length-i:=by omega
  have t6:List.take (l.length-i) (List.drop i (List.map Ak l))=List.drop i (List.map Ak l):=A0f (by simp)
  have b3:decide (i<cap)=true:=decide_eq_true (by omega)
  have b4:decide (i+1<l.length+1)=true:=decide_eq_true (by omega)
  rcases A0v cap (l.length+1) with hq|hq
  ·have b2:decide ((cap:Int)<(l.length:Int)+1)=true:=decide_eq_true (by omega)
   have key:=Rx (l.map Ak) (List.replicate (l.length+1-i) [D.val (Value.pointer none)]) i (Ak x) (by simp;omega) (by simp)
   (have z:=Za b1<|Za w1<|Za w2<|Za w3<|Za t1<|Za t2<|Za t4<|Za t5<|Za @Nat.min_self<|Za t6<|Za t7<|Za t8<|Za t9<|Za b2<|Za b3<|Za b4<|Za m1<|Za u1<|Za r1 r2;(try push_cast[z])<;>repeat' (first|apply Zi<;>intro _|exact Zo|with_reducible apply Za)<;>try push_cast[z])
   all_goals first|omega|exact K9 x|exact Hq x|exact KY l i|exact KN l i|(simp;omega)|(simp[AM];omega)|skip
   rw[EQ]
   apply Zr [(0,242)] rfl<;>push_cast [t4,t5,Nat.min_self,t6,t8,t9,u1,r1,r2,key,p1,p2]
  ·have b2:decide ((cap:Int)<(l.length:Int)+1)=false:=decide_eq_false (by omega)
   have b5:decide (i+1<cap)=true:=decide_eq_true (by omega)
   have t10:(List.take (l.length+1-i) (List.drop i (List.map Ak l++List.replicate (cap-l.length) [D.any]))).length=l.length+1-i:=by simp;omega
   have t11:min (l.length+1-i) (l.length-i)=l.length-i:=by omega
   have key:=Rq (l.map Ak) (List.replicate (cap-l.length) [D.any]) (Ak x) (i:=i) (n:=l.length) (by simp) hi (by simp;omega)
   have m3:(AM (AM (List.map Ak l++List.replicate (cap-l.length) [D.any]) (i+1) (List.drop i (List.map Ak l))) i [Ak x]).length=cap:=by simp[AM];omega
   (have z:=Za b1<|Za w1<|Za w2<|Za w3<|Za t1<|Za t2<|Za t4<|Za t5<|Za @Nat.min_self<|Za t7<|Za t9<|Za t10<|Za t11<|Za b2<|Za b3<|Za b4<|Za b5<|Za m1<|Za u1 r3;(try push_cast[z])<;>repeat' (first|apply Zi<;>intro _|exact Zo|with_reducible apply Za|(with_reducible show Af _ _ _ _ _ _ _ _;refine Af.ovl x_ovlK (by first|exact .inl rfl|exact .inr ⟨_,_,_,rfl,rfl,rfl⟩) rfl rfl rfl rfl (by decide) ?_ ?_)<;>try push_cast[z]|fail)<;>try push_cast[z])
   all_goals first|omega|exact K9 x|exact Hq x|exact KY l i|exact KN l i|exact WX l _ _ i|(simp;omega)|(simp[AM];omega)|skip
   rw[EQ]
   refine Ar.trans (Ar.regrow (b:=8) (l.length+1) rfl ?_ ?_) ?_
   ·push_cast[t10,t11,r3,u1,m3];omega
   ·push_cast[t10,t11,r3,u1,m3];omega
   push_cast[t10,t11,r3,u1,m3,key,Ss]
   apply Zr [(0,418)] rfl<;>push_cast [p1,p2]
 ·have b1:((i:Int)==l.length)=true:=by simp;omega
  have ei:i=l.length:=by omega
  subst ei
  have p3:List.drop l.length (List.map Ak l)=[]:=A0B (by simp)
  have p4:List.take l.length (List.map Ak l)=List.map Ak l:=A0f (by simp)
  rcases A0v cap (l.length+1) with hq|hq
  ·have b2:decide (l.length+1<=cap)=false:=decide_eq_false (by omega)
   (have z:=Za b1<|Za w1<|Za w2<|Za w3<|Za t1<|Za t2<|Za t4<|Za t7<|Za t9<|Za b2<|Za m1 u1;(try push_cast[z])<;>repeat' (first|apply Zi<;>intro _|exact Zo|with_reducible apply Za)<;>try push_cast[z])
   all_goals first|omega|exact K9 x|exact Hq x|(simp;omega)|(simp[AM];omega)|skip
   rw[EQ]
   apply Zr [(0,146)] rfl<;>push_cast [r1,p1,p2,p3,p4]
  ·have b2:decide (l.length+1<=cap)=true:=decide_eq_true (by omega)
   (have z:=Za b1<|Za w1<|Za w2<|Za w3<|Za t1<|Za t2<|Za t4<|Za t7<|Za t9<|Za b2<|Za m1 u1;(try push_cast[z])<;>repeat' (first|apply Zi<;>intro _|exact Zo|with_reducible apply Za)<;>try push_cast[z])
   all_goals first|omega|exact K9 x|exact Hq x|(simp;omega)|(simp[AM];omega)|skip
   have key:=Rq (l.map Ak) (List.replicate (cap-l.length) [D.any]) (Ak x) (i:=l.length) (n:=l.length) (by simp) hi (by simp;omega)
   rw[p3,DG] at key
   have m3:(AM (List.map Ak l++List.replicate (cap-l.length) [D.any]) l.length [Ak x]).length=cap:=by simp[AM];omega
   rw[EQ,p3]
   refine Ar.trans (Ar.regrow (b:=8) (l.length+1) rfl ?_ ?_) ?_
   ·push_cast[m3];omega
   ·push_cast[m3];omega
   push_cast[m3,key,p3,p4,Ss]
   apply Zr [(0,162)] rfl<;>push_cast [p1,p2,p3,p4]
def C6{α:Type}(l:List α)(i:Nat):List α:=l.take i++l.drop (i+1)
theorem Yd{α:Type}(X:List α)(i n:Nat)(z:α)(hn:X.length=n)(hi:i<n):AM (AM X i (X.drop (i+1))) (n-1) [z]=X.take i++X.drop (i+1)++[z]:=by
 have e1:(X.take i++X.drop (i+1)).length=n-1:=by simp;omega
 have e2:AM X i (X.drop (i+1))=(X.take i++X.drop (i+1))++X.drop (n-1):=by
  simp only[AM]
  have:i+(X.drop (i+1)).length=n-1:=by simp;omega
  rw[this,A05]
 rw[e2]
 simp only[AM,A1H]
 rw[List.take_left' e1]
 have e3:((X.take i++X.drop (i+1))++X.drop (n-1)).drop (n-1+1)=[]:=A0B (by rw[A08,e1,A0n];omega)
 rw[e3,A0E]
theorem J3{α β:Type}(f:α->β)(l:List α)(i:Nat):(C6 l i).map f=(l.map f).take i++(l.map f).drop (i+1):=by simp[C6,A1J,A24]
theorem c_delE(l:List GE)(i:Nat)(hi:i<l.length)(hn:l.length<=1048576):
  A4 prog 140 [.sref 1 0 l.length l.length 7,.val (.int .i64 i),.val (.int .i64 ((i+1:Nat):Int))] [(1,.rows (l.map Ac) 7)] (.sref 1 0 (l.length-1) l.length 7) [(1,.rows ((C6 l i).map Ac++[z7]) 7)]:=by
 have b1:((i:Int)==(i:Int)+1)=false:=by simp;omega
 have t1:((i:Int)+1).toNat=i+1:=by omega
 have w1:IntKind.i64.wrap (↑l.length-1)=((l.length-1:Nat):Int):=by rw[A9 (by omega) (by omega)];omega
 have b5:decide (l.length-1<l.length)=true:=decide_eq_true (by omega)
 have t9:(((l.length-1:Nat):Int)).toNat=l.length-1:=by omega
 have q0:(i+1==0)=false:=rfl
 have t4:l.length-(l.length-1)=1:=by omega
 have key:=Yd (l.map Ac) i l.length z7 (by simp) hi
 have p1:=Cb (A7 l) i
 have p2:=Cc (A7 l) (i+1)
 simp only[z7,z6] at key
 rcases A0v (i+1) l.length with hz|hz
 ·have b3:decide (i+1<l.length)=true:=decide_eq_true hz
  have tk:List.take (l.length-(i+1)) (List.drop (i+1) (List.map Ac l))=List.drop (i+1) (List.map Ac l):=A0f (by simp)
  have t2:(List.drop (i+1) (List.map Ac l)).length=l.length-(i+1):=by simp
  have t3:i+(l.length-(i+1))=l.length-1:=by omega
  have b4:decide (l.length-1<=l.length)=true:=decide_eq_true (by omega)
  refine Zd [] func140 rfl ntmps140 results140 ?_
  (have z:=Za b1<|Za t1<|Za b3<|Za b4<|Za b5<|Za tk<|Za t2<|Za t3<|Za t4 q0;(try push_cast[z])<;>repeat' (first|apply Zi<;>intro _|exact Zo|with_reducible apply Za)<;>try push_cast[z])
  all_goals first|omega|exact Pd l _|exact NW l _|(simp;done)|skip
  all_goals first|(simp[AM];omega)|skip
  rw[J3]
  apply Zw<;>push_cast [t4,key,p1,p2]
 ·have b3:decide (i+1<l.length)=false:=decide_eq_false (by omega)
  have b4:decide (i<=l.length)=true:=decide_eq_true (by omega)
  have t3:l.length-1=i:=by omega
  have b6:decide (i<l.length)=true:=decide_eq_true (by omega)
  have t5:l.length-i=1:=by omega
  have p3:List.drop (i+1) (List.map Ac l)=[]:=A0B (by simp;omega)
  rw[p3,DG,t3,A0E] at key
  rw[t3]
  refine Zd [] func140 rfl ntmps140 results140 ?_
  (have z:=Za b1<|Za t1<|Za b3<|Za b4<|Za b6<|Za t5<|Za q0 @DG;(try push_cast[z])<;>repeat' (first|apply Zi<;>intro _|exact Zo|with_reducible apply Za)<;>try push_cast[z])
  all_goals first|omega|(intro y hy;cases hy;done)|(simp;done)|(simp;omega)|skip
  rw[J3,p3]
  apply Zw<;>push_cast [t5,key,p1,p2]
theorem Y4{α:Type}(X Y:List α)(i n:Nat)(z:α)(hn:X.length=n)(hi:i<n):(AM (AM (X++Y) i (X.drop (i+1))) (n-1) [z]).take (n-1)=X.take i++X.drop (i+1):=by
 have e1:(X.take i++X.drop (i+1)).length=n-1:=by simp;omega
 have e2:∃ W,AM (X++Y) i (X.drop (i+1))=(X.take i++X.drop (i+1))++W:=by
  refine⟨(X++Y).drop (i+(X.drop (i+1)).length),?_⟩
  simp only[AM]
  rw[A1x (by omega),A05]
 obtain⟨W,e2⟩:=e2
 rw[e2]
 simp only[AM]
 rw[List.take_left' e1,List.take_left' e1]
theorem c_delK(l:List GT)(i:Nat)(hi:i<l.length)(hn:l.length<=1048576):
  A4 prog 187 [.gref 1 l.length,.val (.int .i64 i),.val (.int .i64 ((i+1:Nat):Int))] [(1,.grow (l.map Ak) 1)] (.gref 0 (l.length-1)) [(0,.grow ((C6 l i).map Ak) 1)]:=by
 refine A4.of_awp func187 rfl ntmps187 (by kernel_rfl) (by simp) (congrArg Array.toList results187) (AWp.sz fun H Hb=>AWp.ungrow (b:=1) rfl (fun hg0=>?_) (fun cap hg1 hg2 hg3=>Zy ?_))
 ·have:l.length=0:=by simpa using congrArg List.length hg0
  omega
 have hc0:l.length<=cap:=by simpa using hg1
 have b1:((i:Int)==(i:Int)+1)=false:=by simp;omega
 have t1:((i:Int)+1).toNat=i+1:=by omega
 have q0:(i+1==0)=false:=rfl
 have m1:(List.map Ak l++List.replicate (cap-l.length) [D.any]).length=cap:=by simp;omega
 have t3:i+(l.length-(i+1))=l.length-1:=by omega
 have t4:l.length-(l.length-1)=1:=by omega
 have b3:decide (i<cap)=true:=decide_eq_true (by omega)
 have b4:decide (l.length-1<=cap)=true:=decide_eq_true (by omega)
 have b5:decide (l.length-1<cap)=true:=decide_eq_true (by omega)
 have r2:List.take (l.length-(i+1)) (List.drop (i+1) (List.map Ak l++List.replicate (cap-l.length) [D.any]))=List.drop (i+1) (List.map Ak l):=Vl _ _ (by simp) hi
 have t2:(List.drop (i+1) (List.map Ak l)).length=l.length-(i+1):=by simp
 have key:=Y4 (l.map Ak) (List.replicate (cap-l.length) [D.any]) i l.length [D.val (Value.pointer none)] (by simp) hi
 have m3:(AM (AM (List.map Ak l++List.replicate (cap-l.length) [D.any]) i (List.drop (i+1) (List.map Ak l))) (l.length-1) [[D.val (Value.pointer none)]]).length=cap:=by simp[AM];omega
 have p1:=Cb (Ci l) i
 have p2:=Cc (Ci l) (i+1)
 rcases A0v (i+1) cap with hz|hz
 ·have b6:decide (i+1<cap)=true:=decide_eq_true hz
  (have z:=Za b1<|Za t1<|Za q0<|Za m1<|Za t2<|Za t3<|Za t4<|Za b3<|Za b4<|Za b5<|Za b6 r2;(try push_cast[z])<;>repeat' (first|apply Zi<;>intro _|exact Zo|with_reducible apply Za)<;>try push_cast[z])
  all_goals first|omega|exact KY l _|exact KN l _|(simp;done)|(simp[AM];omega)|skip
  rw[J3]
  refine Ar.trans (Ar.regrow (b:=8) (l.length-1) rfl ?_ ?_) ?_
  ·push_cast[m3];omega
  ·push_cast[m3];omega
  push_cast[m3,key]
  apply Zr [(0,242)] rfl<;>push_cast [p1,p2]
 ·have b6:decide (i+1<cap)=false:=decide_eq_false (by omega)
  have t5:l.length-i=1:=by omega
  have t6:l.length-1=i:=by omega
  have p3:List.drop (i+1) (List.map Ak l)=[]:=A0B (by simp;omega)
  rw[p3,DG,A0E,t6] at key
  rw[p3,DG,t6] at m3
  rw[J3,p3,A0E,t6]
  have b7:decide (i<=cap)=true:=decide_eq_true (by omega)
  (have z:=Za b1<|Za t1<|Za q0<|Za m1<|Za b3<|Za b6<|Za b7<|Za t5 @DG;(try push_cast[z])<;>repeat' (first|apply Zi<;>intro _|exact Zo|with_reducible apply Za)<;>try push_cast[z])
  all_goals first|omega|(intro y hy;cases hy;done)|(simp;done)|(simp;omega)|skip
  refine Ar.trans (Ar.regrow (b:=8) i rfl ?_ ?_) ?_
  ·push_cast[m3];omega
  ·push_cast[m3];omega
  push_cast[m3,key]
  apply Zr [(0,242)] rfl<;>push_cast [p1]
theorem c_insE0(x:GE):A4 prog 134 [.slice [] true,.val (.int .i64 0),.sref 3 0 1 1 7] [(3,.rows [Ac x] 7)] (.gref 0 1) [(0,.grow [Ac x] 7)]:=by
 refine Zd [] func134 rfl ntmps134 results134 ?_
 ((try push_cast)<;>repeat' (first|apply Zi<;>intro _|exact Zp|with_reducible apply Za)<;>try push_cast)
 all_goals first|omega|exact Qp x|exact Qc x|(intro y hy;cases hy;done)|skip
 apply Zr [(0,144)] rfl<;>push_cast
theorem F5(e:GE):nd (Ac e) 0=.val (.string e.1):=rfl
theorem Eb(e:GE):(Ac e).drop 7=[]:=A0B (by rw[AT];exact A0e _)
def Eu(l:List GE)(e:GE):List GE:=if C5 l e.1=true then l.set (AB l e.1) e else Df l (AB l e.1) e
theorem c_with0(t:GT)(e:GE)(h0:t.height=0)(hl:t.es≠[])(h8:t.es.length<=8)(hs:∀ e ∈ t.es,Sm e.2)(hm:∀ i j,i<=j->j<t.es.length->ltS (t.es.getD i zM).1 e.1=false->ltS (t.es.getD j zM).1 e.1=false)
  (hsp:if (Eu t.es e).length<=8 then OkE (Eu t.es e) else OkE ((Eu t.es e).take 4)/\OkE ((Eu t.es e).drop 4)):
  A3 prog 88 [Ag t,.agg (Ac e)] (.tup [Ag (Jt (Eu t.es e)).1,Ag (Jt (Eu t.es e)).2]):=by
 have hH:=Bx t
 rw[h0] at hH
 have hE:=DE t hl (by omega) hs
 have hp:=Km t.es false e.1 hm (by omega)
 have hS:=T4 _ hsp
 have hle:=EV (fun i=>!ltS (t.es.getD i zM).1 e.1) 0 t.es.length
 have hpos:AB t.es e.1<=t.es.length:=by have:=EV (fun i=>!ltS (t.es.getD i zM).1 e.1) t.es.length 0;unfold AB;omega
 have tk:List.take t.es.length (List.map Ac t.es)=List.map Ac t.es:=A0f (by simp)
 refine Zf [0] func88 rfl ntmps88 results88 ?_
 cases hh:C5 t.es e.1 with
 |true=>
  have hlt:AB t.es e.1<t.es.length:=by
   unfold C5 at hh;simp only[A0c,decide_eq_true_eq] at hh;exact hh.1
  unfold Eu at hS|-
  rw[if_pos hh] at hS|-
  rw[hh] at hp
  have d7:List.drop 7 (nr (List.map Ac t.es) (AB t.es e.1))=[]:=by rw[AV hlt];exact A0B (by rw[AT];exact A0e _)
  have ms:(List.map Ac t.es).set (AB t.es e.1) (Ac e)=List.map Ac (t.es.set (AB t.es e.1) e):=(A1I ..).symm
  have tk2:List.take t.es.length (List.map Ac (t.es.set (AB t.es e.1) e))=List.map Ac (t.es.set (AB t.es e.1) e):=A0f (by simp)
  have x0:=F5 e
  have x1:=AT e
  have x2:=Bd e
  have x3:=Cf e
  have x4:=Db e
  have x5:=Eb e
  generalize Ac e=X at*
  (have z:=Za tk<|Za tk2<|Za d7<|Za ms<|Za x0<|Za x1<|Za x2<|Za x3<|Za x4 x5;(try push_cast[z])<;>repeat' (first|apply Zi<;>intro _|refine Zc hH ?_|refine Zs [] hE ?_|refine Zq (hp ..) ?_ ?_|refine Zg hS ?_ ?_|exact Zo|with_reducible apply Za)<;>try push_cast[z])
  all_goals first|omega|(simp;done)|skip
 |false=>
  unfold Eu at hS|-
  rw[if_neg (by rw[hh];simp)] at hS|-
  rw[hh] at hp
  have hi:=c_insE t.es e (AB t.es e.1) hpos (by omega)
  have hlen:(Df t.es (AB t.es e.1) e).length=t.es.length+1:=by simp[Df];omega
  have x0:=F5 e
  have x1:=AT e
  have x2:=Bd e
  have x3:=Cf e
  have x4:=Db e
  have x5:=Eb e
  generalize Ac e=X at*
  (have z:=Za tk<|Za x0<|Za x1<|Za x2<|Za x3<|Za x4<|Za x5 @hlen;(try push_cast[z])<;>repeat' (first|apply Zi<;>intro _|refine Zc hH ?_|refine Zs [] hE ?_|refine Zq (hp ..) ?_ ?_|refine Zs [(1,56),(3,176)] (hi ..) ?_|refine Zg hS ?_ ?_|exact Zo|with_reducible apply Za)<;>try push_cast[z])
  all_goals first|omega|(simp;done)|skip
theorem c_withN(t:GT)(e:GE)(h0:t.height=0)(hl:t.es=[])(hse:Sm e.2):
  A3 prog 88 [Ag t,.agg (Ac e)] (.tup [Ag (AC [e]),Ag .nil]):=by
 have hH:=Bx t
 rw[h0] at hH
 have hE:=GU t hl
 have hp:=Km [] true e.1 (fun i j _ h=>absurd h (by simp)) (by simp)
 have hpe:AB [] e.1=0:=rfl
 have hhe:C5 [] e.1=false:=rfl
 rw[hpe,hhe] at hp
 have hok:OkE [e]:=⟨by simp,fun x hx=>by rw[A0d.1 hx];exact hse,fun i h h'=>absurd h' (by simp;omega)⟩
 have hS:=T4 [e] (by rw[if_pos (by simp)];exact hok)
 have hs1:Jt [e]=(AC [e],.nil):=rfl
 rw[hs1] at hS
 have hi:=c_insE0 e
 simp only[A0S,A0k] at hp hS
 refine Zf [0] func88 rfl ntmps88 results88 ?_
 have x0:=F5 e
 have x1:=AT e
 have x2:=Bd e
 have x3:=Cf e
 have x4:=Db e
 have x5:=Eb e
 generalize Ac e=X at*
 (have z:=Za x0<|Za x1<|Za x2<|Za x3<|Za x4 x5;(try push_cast[z])<;>repeat' (first|apply Zi<;>intro _|refine Zc hH ?_|refine Zc hE ?_|refine Zc (hp ..) ?_|refine Zs [(3,176)] (hi ..) ?_|refine Zg hS ?_ ?_|exact Zo|with_reducible apply Za)<;>try push_cast[z])
 all_goals first|omega|(simp;done)|skip
theorem C3{t:GT}(h:t≠ .nil):∃ cs,Ag t=.ptr cs 0:=by
 obtain⟨e,k,hh,c,f,l,th,rfl⟩:=GT.ne_nil h
 exact⟨_,AZ ..⟩
theorem c_withI(t:GT)(e:GE)(L:GT)(h0:t.height≠0)(h1:0<t.kids.length)(h8:t.kids.length<=8)(hm:∀ i j,i<=j->j<t.kids.length->ltS e.1 (t.kids.getD i .nil).first=true->ltS e.1 (t.kids.getD j .nil).first=true)(hi:AG t.kids e.1<t.kids.length)
  (hrec:A3 prog 88 [Ag (t.kids.getD (AG t.kids e.1) .nil),.agg (Ac e)] (.tup [Ag L,Ag .nil]))
  (hok:OkK (t.kids.set (AG t.kids e.1) L)) (hL:L≠ .nil):
  A3 prog 88 [Ag t,.agg (Ac e)] (.tup [Ag (DP (t.kids.set (AG t.kids e.1) L)),Ag .nil]):=by
 have hH:=Bx t
 have b0:(t.height==0)=false:=by simpa using h0
 have hK:=Ev t h1 (by omega)
 have hw:=Ed t.kids e.1 hm (by omega)
 have hS:=T3 (t.kids.set (AG t.kids e.1) L) (by simp;omega) (by rw[if_pos (by simp;omega)];exact hok)
 have hs1:Hc (t.kids.set (AG t.kids e.1) L)=(DP (t.kids.set (AG t.kids e.1) L),.nil):=by unfold Hc;rw[if_pos (by simp;omega)]
 rw[hs1] at hS
 have ea:=B9 hi
 have ms:(List.map Ak t.kids).set (AG t.kids e.1) [Ag L]=List.map Ak (t.kids.set (AG t.kids e.1) L):=(A1I (f:=Ak) ..).symm
 rw[At] at hrec hS|-
 obtain⟨cs,hcs⟩:=C3 hL
 have o2:=A5 L
 rw[hcs] at o2 hrec ms
 simp only[D.pure] at o2
 have x0:=F5 e
 have x1:=AT e
 have x2:=Bd e
 have x3:=Cf e
 have x4:=Db e
 have x5:=Eb e
 generalize Ac e=X at*
 refine Zf [0] func88 rfl ntmps88 results88 ?_
 (have z:=Za x0<|Za x1<|Za x2<|Za x3<|Za x4<|Za x5<|Za b0<|Za ea<|Za @Ak.eq_1<|Za o2 ms;(try push_cast[z])<;>repeat' (first|apply Zi<;>intro _|refine Zc hH ?_|refine Zs [] hK ?_|refine Zq (hw ..) ?_ ?_|refine Zc (hrec ..) ?_|refine Zg hS ?_ ?_|exact Zo|with_reducible apply Za)<;>try push_cast[z])
 all_goals first|omega|(simp;done)|skip
theorem c_withJ(t:GT)(e:GE)(L R:GT)(h0:t.height≠0)(h1:0<t.kids.length)(h8:t.kids.length<=8)(hm:∀ i j,i<=j->j<t.kids.length->ltS e.1 (t.kids.getD i .nil).first=true->ltS e.1 (t.kids.getD j .nil).first=true)(hi:AG t.kids e.1<t.kids.length)
  (hrec:A3 prog 88 [Ag (t.kids.getD (AG t.kids e.1) .nil),.agg (Ac e)] (.tup [Ag L,Ag R])) (hL:L≠ .nil) (hR:R≠ .nil) (l:List GT) (hl:l=Df (t.kids.set (AG t.kids e.1) L) (AG t.kids e.1+1) R)
  (hok:if l.length<=8 then OkK l else OkK (l.take 4)/\OkK (l.drop 4)):
  A3 prog 88 [Ag t,.agg (Ac e)] (.tup [Ag (Hc l).1,Ag (Hc l).2]):=by
 have hH:=Bx t
 have b0:(t.height==0)=false:=by simpa using h0
 have hK:=Ev t h1 (by omega)
 have hw:=Ed t.kids e.1 hm (by omega)
 have hlen:l.length=t.kids.length+1:=by rw[hl];simp[Df];omega
 have hS:=T3 l (by omega) hok
 have hI:=c_insK (t.kids.set (AG t.kids e.1) L) R (AG t.kids e.1+1) (by simp;omega) (by simp;omega) (by simp;omega)
 rw[<-hl,A19] at hI
 have ea:=B9 hi
 have ms:(List.map Ak t.kids).set (AG t.kids e.1) [Ag L]=List.map Ak (t.kids.set (AG t.kids e.1) L):=(A1I (f:=Ak) ..).symm
 obtain⟨cs,hcs⟩:=C3 hL
 obtain⟨rs,hrs⟩:=C3 hR
 have o2:=A5 L
 have o3:=A5 R
 have er:Ak R=[Ag R]:=rfl
 rw[er,hrs] at hI
 rw[hcs] at o2 hrec ms
 rw[hrs] at o3 hrec
 simp only[D.pure] at o2 o3
 have w1:IntKind.i64.wrap (((AG t.kids e.1:Nat):Int)+1)=((AG t.kids e.1+1:Nat):Int):=by rw[A9 (by omega) (by omega)];omega
 push_cast at w1 hI
 have x0:=F5 e
 have x1:=AT e
 have x2:=Bd e
 have x3:=Cf e
 have x4:=Db e
 have x5:=Eb e
 generalize Ac e=X at*
 refine Zf [0] func88 rfl ntmps88 results88 ?_
 (have z:=Za x0<|Za x1<|Za x2<|Za x3<|Za x4<|Za x5<|Za b0<|Za ea<|Za @Ak.eq_1<|Za o2<|Za o3<|Za ms<|Za w1 @hlen;(try push_cast[z])<;>repeat' (first|apply Zi<;>intro _|refine Zc hH ?_|refine Zs [] hK ?_|refine Zq (hw ..) ?_ ?_|refine Zc (hrec ..) ?_|refine Zs [(1,56),(3,288)] hI ?_|refine Zg hS ?_ ?_|exact Zo|with_reducible apply Za)<;>try push_cast[z])
 all_goals first|omega|(simp;done)|skip
theorem Mt:∀ (a b:List (List D)),Am (a++b)=(Am a&&Am b)
 |[],b=>by simp[Am]
 |x::a,b=>by simp[Am,Mt a b,Bool.and_assoc]
attribute [push_cast] Mt Am
theorem c_insE1(l:List GE)(x:GE)(hl:0<l.length)(hn:l.length<=1048576):
  A4 prog 134 [.sref 1 0 l.length l.length 7,.val (.int .i64 0),.sref 3 0 1 1 7] [(1,.rows (l.map Ac) 7),(3,.rows [Ac x] 7)] (.gref 0 (l.length+1)) [(0,.grow ((x::l).map Ac) 7)]:=by
 have h:=c_insE l x 0 (A0t _) hn
 have e:Df l 0 x=x::l:=by simp[Df]
 rw[e] at h
 exact h
theorem c_pairE1(l r:List GE)(hl:4<l.length)(hl8:l.length<=9)(hr:0<r.length)(hr8:r.length<=8)(h1:OkE (l.take (l.length-1)))(h2:OkE (l.getD (l.length-1) zM::r)):
  A4 prog 185 [.sref 1 0 l.length l.length 7,.sref 3 0 r.length r.length 7,.func (.func 136) [] []] [(1,.rows (l.map Ac) 7),(3,.rows (r.map Ac) 7)]
   (.tup [Ag (AC (l.take (l.length-1))),Ag (AC (l.getD (l.length-1) zM::r))]) []:=by
 have b1:decide ((4:Int)<l.length)=true:=decide_eq_true (by omega)
 have w1:IntKind.i64.wrap (↑l.length-1)=((l.length-1:Nat):Int):=by rw[A9 (by omega) (by omega)];omega
 have hc1:=GQ (l.take (l.length-1)) false h1.hl h1.hs h1.hr
 have hc2:=GQ (l.getD (l.length-1) zM::r) false h2.hl h2.hs h2.hr
 have hi:=c_insE1 r (l.getD (l.length-1) zM) hr (by omega)
 have ea:=AV (show l.length-1<l.length by omega)
 have b2:decide (l.length-1<l.length)=true:=decide_eq_true (by omega)
 have t9:(((l.length-1:Nat):Int)).toNat=l.length-1:=by omega
 rw[A1J] at hc1
 have hz:l.length<=9223372036854775807:=by omega
 have tk:List.take l.length (List.map Ac l)=List.map Ac l:=A0f (by simp)
 have p1:=Cb (A7 l) (l.length-1)
 generalize l.getD (l.length-1) zM=e at*
 have x0:=F5 e
 have x1:=AT e
 have x2:=Bd e
 have x3:=Cf e
 have x4:=Db e
 have x5:=Eb e
 simp only[A0k] at hc2 hi
 generalize Ac e=X at*
 refine Zd [1] func185 rfl ntmps185 results185 ?_
 (have z:=Za @Nat.le_refl<|Za hz<|Za tk<|Za b1<|Za w1<|Za ea<|Za b2<|Za t9<|Za p1<|Za x0<|Za x1<|Za x2<|Za x3<|Za x4 x5;(try push_cast[z])<;>repeat' (first|apply Zi<;>intro _|refine Zv (hc1 ..) ?_|refine Zs [(1,3),(3,176)] (hi ..) ?_|exact Zo|with_reducible apply Za|(with_reducible show Af _ _ _ _ _ _ _ _;refine Af.giveV (by(try push_cast[z]);rfl) (by(try push_cast[z]);rfl) (by(try push_cast[z]);exact hc2 ..) (by first|exact .inl rfl|exact .inr ⟨_,_,_,rfl,rfl,rfl⟩) rfl ?_ (by push_cast[z]) ?_)<;>try push_cast[z]|fail)<;>try push_cast[z])
 all_goals first|omega|exact B4 l|exact .inr (by omega)|(simp;done)|skip
 apply Zw<;>push_cast
theorem c_pairE2(l r:List GE)(hl:l.length<=4)(hr:4<r.length)(hr8:r.length<=9)(h1:OkE (l++[r.getD 0 zM]))(h2:OkE (r.drop 1)):
  A4 prog 185 [.sref 1 0 l.length l.length 7,.sref 3 0 r.length r.length 7,.func (.func 136) [] []] [(1,.rows (l.map Ac) 7),(3,.rows (r.map Ac) 7)]
   (.tup [Ag (AC (l++[r.getD 0 zM])),Ag (AC (r.drop 1))]) []:=by
 have b1:decide ((4:Int)<l.length)=false:=decide_eq_false (by omega)
 have b2:decide ((4:Int)<r.length)=true:=decide_eq_true (by omega)
 have b3:decide (0<r.length)=true:=decide_eq_true (by omega)
 have b4:decide (1<r.length)=true:=decide_eq_true (by omega)
 have hc1:=GQ (l++[r.getD 0 zM]) false h1.hl h1.hs h1.hr
 have hc2:=GQ (r.drop 1) true h2.hl h2.hs h2.hr
 have ea:=AV (show 0<r.length by omega)
 have hz1:l.length<=9223372036854775807:=by omega
 have hz2:r.length<=9223372036854775807:=by omega
 have tk1:List.take l.length (List.map Ac l)=List.map Ac l:=A0f (by simp)
 have tk2:List.take r.length (List.map Ac r)=List.map Ac r:=A0f (by simp)
 have tk3:List.take (r.length-1) (List.drop 1 (List.map Ac r))=List.drop 1 (List.map Ac r):=A0f (by simp)
 rw[A12,A0k,A0S] at hc1
 rw[A24] at hc2
 have p1:=Cc (A7 r) 1
 have g1:∀ x ∈ [r.getD 0 zM].map Ac,x.length=7:=B4 _
 have g2:∀ x ∈ [r.getD 0 zM].map Ac,∀ d ∈ x,BF d=true:=Cp _
 rw[A0k,A0S] at g1 g2
 generalize r.getD 0 zM=e at*
 have x0:=F5 e
 have x1:=AT e
 have x2:=Bd e
 have x3:=Cf e
 have x4:=Db e
 have x5:=Eb e
 generalize Ac e=X at*
 refine Zd [1,3] func185 rfl ntmps185 results185 ?_
 (have z:=Za @Nat.le_refl<|Za hz1<|Za hz2<|Za tk1<|Za tk2<|Za tk3<|Za b1<|Za b2<|Za b3<|Za b4<|Za ea<|Za p1<|Za x0<|Za x1<|Za x2<|Za x3<|Za x4 x5;(try push_cast[z])<;>repeat' (first|apply Zi<;>intro _|refine Zv (hc2 ..) ?_|exact Zo|with_reducible apply Za|(with_reducible show Af _ _ _ _ _ _ _ _;refine Af.giveV (by(try push_cast[z]);rfl) (by(try push_cast[z]);rfl) (by(try push_cast[z]);exact hc1 ..) (by first|exact .inl rfl|exact .inr ⟨_,_,_,rfl,rfl,rfl⟩) rfl ?_ (by push_cast[z]) ?_)<;>try push_cast[z]|fail)<;>try push_cast[z])
 all_goals first|omega|exact B4 _|exact Cp _|exact g1|exact g2|exact .inr (by omega)|(simp;done)|skip
 apply Zw<;>push_cast
theorem c_pairE3(l r:List GE)(hl:l.length<=4)(hr0:0<r.length)(hr:r.length<=4)(h1:OkE (l++r)):
  A4 prog 185 [.sref 1 0 l.length l.length 7,.sref 3 0 r.length r.length 7,.func (.func 136) [] []] [(1,.rows (l.map Ac) 7),(3,.rows (r.map Ac) 7)]
   (.tup [Ag (AC (l++r)),Ag .nil]) []:=by
 have b1:decide ((4:Int)<l.length)=false:=decide_eq_false (by omega)
 have b2:decide ((4:Int)<r.length)=false:=decide_eq_false (by omega)
 have hc1:=GQ (l++r) false h1.hl h1.hs h1.hr
 have hz1:l.length<=9223372036854775807:=by omega
 have hz2:r.length<=9223372036854775807:=by omega
 have tk1:List.take l.length (List.map Ac l)=List.map Ac l:=A0f (by simp)
 have tk2:List.take r.length (List.map Ac r)=List.map Ac r:=A0f (by simp)
 rw[A12] at hc1
 rw[At]
 refine Zd [1,3] func185 rfl ntmps185 results185 ?_
 (have z:=Za @Nat.le_refl<|Za hz1<|Za hz2<|Za tk1<|Za tk2<|Za b1 b2;(try push_cast[z])<;>repeat' (first|apply Zi<;>intro _|exact Zo|with_reducible apply Za|(with_reducible show Af _ _ _ _ _ _ _ _;refine Af.giveV (by(try push_cast[z]);rfl) (by(try push_cast[z]);rfl) (by(try push_cast[z]);exact hc1 ..) (by first|exact .inl rfl|exact .inr ⟨_,_,_,rfl,rfl,rfl⟩) rfl ?_ (by push_cast[z]) ?_)<;>try push_cast[z]|fail)<;>try push_cast[z])
 all_goals first|omega|exact B4 _|exact Cp _|exact .inr (by omega)|(simp;done)|skip
 apply Zw<;>push_cast
theorem c_insK0(l:List GT)(x:GT)(h0:0<l.length)(hn:l.length<=1048576):
  A4 prog 137 [.gref 1 l.length,.val (.int .i64 0),.sref 3 0 1 1 1] [(1,.grow (l.map Ak) 1),(3,.rows [Ak x] 1)] (.gref 0 (l.length+1)) [(0,.grow ((x::l).map Ak) 1)]:=by
 have h:=c_insK l x 0 (A0t _) h0 hn
 have e:Df l 0 x=x::l:=by simp[Df]
 rw[e] at h
 exact h
theorem c_pairK1(l r:List GT)(hl:4<l.length)(hl8:l.length<=9)(hr:0<r.length)(hr8:r.length<=8)(h1:OkK (l.take (l.length-1)))(h2:OkK (l.getD (l.length-1) .nil::r)):
  A4 prog 186 [.gref 1 l.length,.gref 3 r.length,.func (.func 89) [] []] [(1,.grow (l.map Ak) 1),(3,.grow (r.map Ak) 1)]
   (.tup [Ag (DP (l.take (l.length-1))),Ag (DP (l.getD (l.length-1) .nil::r))]) []:=by
 have b1:decide ((4:Int)<l.length)=true:=decide_eq_true (by omega)
 have w1:IntKind.i64.wrap (↑l.length-1)=((l.length-1:Nat):Int):=by rw[A9 (by omega) (by omega)];omega
 have hc1:=DR (l.take (l.length-1)) (by simp;omega) h1
 have hc2:=DR (l.getD (l.length-1) .nil::r) (by simp) h2
 have hi:=c_insK0 r (l.getD (l.length-1) .nil) hr (by omega)
 have ea:=B9 (show l.length-1<l.length by omega)
 have b2:decide (l.length-1<l.length)=true:=decide_eq_true (by omega)
 have t9:(((l.length-1:Nat):Int)).toNat=l.length-1:=by omega
 rw[A1J] at hc1
 have hz:l.length<=9223372036854775807:=by omega
 have p1:=Cb (Ci l) (l.length-1)
 have hne:l.getD (l.length-1) .nil≠ .nil:=(h2.hn 0 (by simp)).1
 generalize l.getD (l.length-1) .nil=e at*
 obtain⟨cs,hcs⟩:=C3 hne
 have o2:=A5 e
 simp only[A0k,Ak] at hc2 hi ea
 rw[hcs] at o2 hc2 hi ea
 simp only[D.pure] at o2
 refine Zd [1] func186 rfl ntmps186 results186 ?_
 (have z:=Za hz<|Za b1<|Za w1<|Za ea<|Za b2<|Za t9<|Za p1 o2;(try push_cast[z])<;>repeat' (first|apply Zi<;>intro _|refine Zv (hc1 ..) ?_|refine Zs [(1,3),(3,176)] (hi ..) ?_|exact Zo|with_reducible apply Za|(with_reducible show Af _ _ _ _ _ _ _ _;refine Af.giveV (by(try push_cast[z]);rfl) (by(try push_cast[z]);rfl) (by(try push_cast[z]);exact hc2 ..) (by first|exact .inl rfl|exact .inr ⟨_,_,_,rfl,rfl,rfl⟩) rfl ?_ (by push_cast[z]) ?_)<;>try push_cast[z]|fail)<;>try push_cast[z])
 all_goals first|omega|exact D4 l|exact .inr (by omega)|(simp;done)|skip
 apply Zw<;>push_cast
theorem c_pairK2(l r:List GT)(hl:l.length<=4)(hl0:0<l.length)(hr:4<r.length)(hr8:r.length<=9)(h1:OkK (l++[r.getD 0 .nil]))(h2:OkK (r.drop 1)):
  A4 prog 186 [.gref 1 l.length,.gref 3 r.length,.func (.func 89) [] []] [(1,.grow (l.map Ak) 1),(3,.grow (r.map Ak) 1)]
   (.tup [Ag (DP (l++[r.getD 0 .nil])),Ag (DP (r.drop 1))]) []:=by
 have b1:decide ((4:Int)<l.length)=false:=decide_eq_false (by omega)
 have b2:decide ((4:Int)<r.length)=true:=decide_eq_true (by omega)
 have b3:decide (0<r.length)=true:=decide_eq_true (by omega)
 have b4:decide (1<r.length)=true:=decide_eq_true (by omega)
 have hc1:=DR (l++[r.getD 0 .nil]) (by simp) h1
 have hc2:=DR (r.drop 1) (by simp;omega) h2
 have ea:=B9 (show 0<r.length by omega)
 have hz1:l.length<=9223372036854775807:=by omega
 have hz2:r.length<=9223372036854775807:=by omega
 have tk3:List.take (r.length-1) (List.drop 1 (List.map Ak r))=List.drop 1 (List.map Ak r):=A0f (by simp)
 rw[A12,A0k,A0S] at hc1
 rw[A24] at hc2
 have p1:=Cc (Ci r) 1
 have hne:r.getD 0 .nil≠ .nil:=by
  have:=(h1.hn l.length (by simp)).1
  simpa[A03] using this
 generalize r.getD 0 .nil=e at*
 obtain⟨cs,hcs⟩:=C3 hne
 have o2:=A5 e
 have g2:=Hq e
 simp only[Ak] at hc1 ea g2
 rw[hcs] at o2 hc1 ea g2
 simp only[D.pure] at o2
 refine Zd [3] func186 rfl ntmps186 results186 ?_
 (have z:=Za hz1<|Za hz2<|Za tk3<|Za b1<|Za b2<|Za b3<|Za b4<|Za ea<|Za p1 o2;(try push_cast[z])<;>repeat' (first|apply Zi<;>intro _|refine Zv (hc2 ..) ?_|exact Zo|with_reducible apply Za|(with_reducible show Af _ _ _ _ _ _ _ _;refine Af.giveV (by(try push_cast[z]);rfl) (by(try push_cast[z]);rfl) (by(try push_cast[z]);exact hc1 ..) (by first|exact .inl rfl|exact .inr ⟨_,_,_,rfl,rfl,rfl⟩) rfl ?_ (by push_cast[z]) ?_)<;>try push_cast[z]|fail)<;>try push_cast[z])
 all_goals first|omega|exact D4 _|exact KM _|exact g2|(intro y hy;cases A0d.1 hy;rfl)|exact .inr (by omega)|(simp;done)|skip
 apply Zw<;>push_cast
theorem c_pairK3(l r:List GT)(hl:l.length<=4)(hl0:0<l.length)(hr0:0<r.length)(hr:r.length<=4)(h1:OkK (l++r)):
  A4 prog 186 [.gref 1 l.length,.gref 3 r.length,.func (.func 89) [] []] [(1,.grow (l.map Ak) 1),(3,.grow (r.map Ak) 1)]
   (.tup [Ag (DP (l++r)),Ag .nil]) []:=by
 have b1:decide ((4:Int)<l.length)=false:=decide_eq_false (by omega)
 have b2:decide ((4:Int)<r.length)=false:=decide_eq_false (by omega)
 have hc1:=DR (l++r) (by simp;omega) h1
 have hz1:l.length<=9223372036854775807:=by omega
 have hz2:r.length<=9223372036854775807:=by omega
 rw[A12] at hc1
 rw[At]
 refine Zd [3] func186 rfl ntmps186 results186 ?_
 (have z:=Za hz1<|Za hz2<|Za b1 b2;(try push_cast[z])<;>repeat' (first|apply Zi<;>intro _|exact Zo|with_reducible apply Za|(with_reducible show Af _ _ _ _ _ _ _ _;refine Af.giveV (by(try push_cast[z]);rfl) (by(try push_cast[z]);rfl) (by(try push_cast[z]);exact hc1 ..) (by first|exact .inl rfl|exact .inr ⟨_,_,_,rfl,rfl,rfl⟩) rfl ?_ (by push_cast[z]) ?_)<;>try push_cast[z]|fail)<;>try push_cast[z])
 all_goals first|omega|exact D4 _|exact KM _|exact .inr (by omega)|(simp;done)|skip
 apply Zw<;>push_cast
theorem R9{i:Nat}(h:i<=1048576)(n:Nat)(hn:n<=1048576):IntKind.i64.wrap ((i:Int)+(n:Int))=((i+n:Nat):Int):=by rw[A9 (by omega) (by omega)];omega
theorem c_mendE1(kids:List GT)(i j:Nat)(X:GT)(hj:j=i-1)(hn:kids.length<=9)(hjk:j+1<kids.length)(hi:i<kids.length)(hX:X≠ .nil)(hL0:(kids.getD j .nil).height=0)(hLn:(kids.getD j .nil).es≠[])(hL8:(kids.getD j .nil).es.length<=8)(hLs:∀ e ∈ (kids.getD j .nil).es,Sm e.2)(hRn:(kids.getD (j+1) .nil).es≠[])(hR8:(kids.getD (j+1) .nil).es.length<=8)(hRs:∀ e ∈ (kids.getD (j+1) .nil).es,Sm e.2)
  (hp:A4 prog 185 [.sref 1 0 (kids.getD j .nil).es.length (kids.getD j .nil).es.length 7,.sref 3 0 (kids.getD (j+1) .nil).es.length (kids.getD (j+1) .nil).es.length 7,.func (.func 136) [] []] [(1,.rows ((kids.getD j .nil).es.map Ac) 7),(3,.rows ((kids.getD (j+1) .nil).es.map Ac) 7)] (.tup [Ag X,Ag .nil]) []):
  A4 prog 141 [.gref 1 kids.length,.val (.int .i64 i)] [(1,.grow (kids.map Ak) 1)] (.gref 0 (kids.length-1)) [(0,.grow ((C6 (kids.set j X) (j+1)).map Ak) 1)]:=by
 have m0:(if IntKind.i64.wrap ((i:Int)-1)<0 then(0:Int) else IntKind.i64.wrap ((i:Int)-1))=(j:Int):=by
  rw[A9 (by omega) (by omega)];split<;>omega
 have m1:(if IntKind.i64.wrap ((i:Int)-1)<=0 then(0:Int) else IntKind.i64.wrap ((i:Int)-1))=(j:Int):=by
  rw[A9 (by omega) (by omega)];split<;>omega
 have w1:IntKind.i64.wrap ((j:Int)+1)=((j+1:Nat):Int):=R9 (by omega) 1 (by omega)
 have w2:IntKind.i64.wrap ((j:Int)+2)=((j+2:Nat):Int):=R9 (by omega) 2 (by omega)
 have t1:((j:Int)+1).toNat=j+1:=by omega
 have b0:((kids.getD j .nil).height==0)=true:=by simpa using hL0
 have hH:=Bx (kids.getD j .nil)
 have hE1:=DE (kids.getD j .nil) hLn (by omega) hLs
 have hE2:=DE (kids.getD (j+1) .nil) hRn (by omega) hRs
 have ea:=B9 (show j<kids.length by omega)
 have eb:=B9 hjk
 simp only[Ak] at ea eb
 have bj:decide (j<kids.length)=true:=decide_eq_true (by omega)
 have bj1:decide (j+1<kids.length)=true:=decide_eq_true hjk
 have ms:(List.map Ak kids).set j [Ag X]=List.map Ak (kids.set j X):=(A1I (f:=Ak) ..).symm
 obtain⟨cs,hcs⟩:=C3 hX
 have o2:=A5 X
 have hd:=c_delK (kids.set j X) (j+1) (by simpa using hjk) (by simp;omega)
 rw[A19] at hd
 rw[At] at hp
 rw[hcs] at o2 hp ms
 simp only[D.pure] at o2
 generalize kids.getD j .nil=L at*
 generalize kids.getD (j+1) .nil=R at*
 have oL:=A5 L
 have oR:=A5 R
 refine Zd [] func141 rfl ntmps141 results141 ?_
 (have z:=Za m0<|Za m1<|Za w1<|Za w2<|Za t1<|Za b0<|Za ea<|Za eb<|Za bj<|Za bj1<|Za ms<|Za o2<|Za oL oR;(try push_cast[z])<;>repeat' (first|apply Zi<;>intro _|refine Zc hH ?_|refine Zs [] hE1 ?_|refine Zs [] hE2 ?_|refine Zs [(1,168),(3,184)] (hp ..) ?_|refine Zs [] (hd ..) ?_|exact Zo|with_reducible apply Za)<;>try push_cast[z])
 all_goals first|omega|(simp;done)|skip
 apply Zr [(0,336)] rfl<;>push_cast
theorem T6(kids:List GT)(i j:Nat)(X Y:GT)(hj:j=i-1)(hn:kids.length<=9)(hjk:j+1<kids.length)(hi:i<kids.length)(hX:X≠ .nil)(hY:Y≠ .nil)(hL0:(kids.getD j .nil).height=0)(hLn:(kids.getD j .nil).es≠[])(hL8:(kids.getD j .nil).es.length<=8)(hLs:∀ e ∈ (kids.getD j .nil).es,Sm e.2)(hRn:(kids.getD (j+1) .nil).es≠[])(hR8:(kids.getD (j+1) .nil).es.length<=8)(hRs:∀ e ∈ (kids.getD (j+1) .nil).es,Sm e.2)
  (hp:A4 prog 185 [.sref 1 0 (kids.getD j .nil).es.length (kids.getD j .nil).es.length 7,.sref 3 0 (kids.getD (j+1) .nil).es.length (kids.getD (j+1) .nil).es.length 7,.func (.func 136) [] []] [(1,.rows ((kids.getD j .nil).es.map Ac) 7),(3,.rows ((kids.getD (j+1) .nil).es.map Ac) 7)] (.tup [Ag X,Ag Y]) []):
  A4 prog 141 [.gref 1 kids.length,.val (.int .i64 i)] [(1,.grow (kids.map Ak) 1)] (.gref 0 kids.length) [(0,.grow (((kids.set j X).set (j+1) Y).map Ak) 1)]:=by
 have m0:(if IntKind.i64.wrap ((i:Int)-1)<0 then(0:Int) else IntKind.i64.wrap ((i:Int)-1))=(j:Int):=by
  rw[A9 (by omega) (by omega)];split<;>omega
 have m1:(if IntKind.i64.wrap ((i:Int)-1)<=0 then(0:Int) else IntKind.i64.wrap ((i:Int)-1))=(j:Int):=by
  rw[A9 (by omega) (by omega)];split<;>omega
 have w1:IntKind.i64.wrap ((j:Int)+1)=((j+1:Nat):Int):=R9 (by omega) 1 (by omega)
 have w2:IntKind.i64.wrap ((j:Int)+2)=((j+2:Nat):Int):=R9 (by omega) 2 (by omega)
 have t1:((j:Int)+1).toNat=j+1:=by omega
 have b0:((kids.getD j .nil).height==0)=true:=by simpa using hL0
 have hH:=Bx (kids.getD j .nil)
 have hE1:=DE (kids.getD j .nil) hLn (by omega) hLs
 have hE2:=DE (kids.getD (j+1) .nil) hRn (by omega) hRs
 have ea:=B9 (show j<kids.length by omega)
 have eb:=B9 hjk
 simp only[Ak] at ea eb
 have bj:decide (j<kids.length)=true:=decide_eq_true (by omega)
 have bj1:decide (j+1<kids.length)=true:=decide_eq_true hjk
 have ms:(List.map Ak kids).set j [Ag X]=List.map Ak (kids.set j X):=(A1I (f:=Ak) ..).symm
 obtain⟨cs,hcs⟩:=C3 hX
 have o2:=A5 X
 have ms2:(List.map Ak (kids.set j X)).set (j+1) [Ag Y]=List.map Ak ((kids.set j X).set (j+1) Y):=(A1I (f:=Ak) ..).symm
 obtain⟨ds,hds⟩:=C3 hY
 have o3:=A5 Y
 rw[hcs] at o2 hp ms
 rw[hds] at o3 hp ms2
 simp only[D.pure] at o2 o3
 generalize kids.getD j .nil=L at*
 generalize kids.getD (j+1) .nil=R at*
 have oL:=A5 L
 have oR:=A5 R
 refine Zd [] func141 rfl ntmps141 results141 ?_
 (have z:=Za m0<|Za m1<|Za w1<|Za w2<|Za t1<|Za b0<|Za ea<|Za eb<|Za bj<|Za bj1<|Za ms<|Za ms2<|Za o2<|Za o3<|Za oL oR;(try push_cast[z])<;>repeat' (first|apply Zi<;>intro _|refine Zc hH ?_|refine Zs [] hE1 ?_|refine Zs [] hE2 ?_|refine Zs [(1,168),(3,184)] (hp ..) ?_|exact Zo|with_reducible apply Za)<;>try push_cast[z])
 all_goals first|omega|(simp;omega)|(simp;done)|skip
 have d1:List.drop 1 (nr (List.map Ak (kids.set j X)) (j+1))=[]:=by rw[B9 (by simpa using hjk)];rfl
 apply Zr [(0,1)] rfl<;>push_cast [ms2,t1,d1]
theorem c_mendK1(kids:List GT)(i j:Nat)(X:GT)(hj:j=i-1)(hn:kids.length<=9)(hjk:j+1<kids.length)(hi:i<kids.length)(hX:X≠ .nil)(hL0:(kids.getD j .nil).height≠0)(hLn:0<(kids.getD j .nil).kids.length)(hL8:(kids.getD j .nil).kids.length<=8)(hRn:0<(kids.getD (j+1) .nil).kids.length)(hR8:(kids.getD (j+1) .nil).kids.length<=8)
  (hp:A4 prog 186 [.gref 1 (kids.getD j .nil).kids.length,.gref 3 (kids.getD (j+1) .nil).kids.length,.func (.func 89) [] []] [(1,.grow ((kids.getD j .nil).kids.map Ak) 1),(3,.grow ((kids.getD (j+1) .nil).kids.map Ak) 1)] (.tup [Ag X,Ag .nil]) []):
  A4 prog 141 [.gref 1 kids.length,.val (.int .i64 i)] [(1,.grow (kids.map Ak) 1)] (.gref 0 (kids.length-1)) [(0,.grow ((C6 (kids.set j X) (j+1)).map Ak) 1)]:=by
 have m0:(if IntKind.i64.wrap ((i:Int)-1)<0 then(0:Int) else IntKind.i64.wrap ((i:Int)-1))=(j:Int):=by
  rw[A9 (by omega) (by omega)];split<;>omega
 have m1:(if IntKind.i64.wrap ((i:Int)-1)<=0 then(0:Int) else IntKind.i64.wrap ((i:Int)-1))=(j:Int):=by
  rw[A9 (by omega) (by omega)];split<;>omega
 have w1:IntKind.i64.wrap ((j:Int)+1)=((j+1:Nat):Int):=R9 (by omega) 1 (by omega)
 have w2:IntKind.i64.wrap ((j:Int)+2)=((j+2:Nat):Int):=R9 (by omega) 2 (by omega)
 have t1:((j:Int)+1).toNat=j+1:=by omega
 have b0:((kids.getD j .nil).height==0)=false:=by simpa using hL0
 have hH:=Bx (kids.getD j .nil)
 have hE1:=Ev (kids.getD j .nil) hLn (by omega)
 have hE2:=Ev (kids.getD (j+1) .nil) hRn (by omega)
 have ea:=B9 (show j<kids.length by omega)
 have eb:=B9 hjk
 simp only[Ak] at ea eb
 have bj:decide (j<kids.length)=true:=decide_eq_true (by omega)
 have bj1:decide (j+1<kids.length)=true:=decide_eq_true hjk
 have ms:(List.map Ak kids).set j [Ag X]=List.map Ak (kids.set j X):=(A1I (f:=Ak) ..).symm
 obtain⟨cs,hcs⟩:=C3 hX
 have o2:=A5 X
 have hd:=c_delK (kids.set j X) (j+1) (by simpa using hjk) (by simp;omega)
 rw[A19] at hd
 rw[At] at hp
 rw[hcs] at o2 hp ms
 simp only[D.pure] at o2
 generalize kids.getD j .nil=L at*
 generalize kids.getD (j+1) .nil=R at*
 have oL:=A5 L
 have oR:=A5 R
 refine Zd [] func141 rfl ntmps141 results141 ?_
 (have z:=Za m0<|Za m1<|Za w1<|Za w2<|Za t1<|Za b0<|Za ea<|Za eb<|Za bj<|Za bj1<|Za ms<|Za o2<|Za oL oR;(try push_cast[z])<;>repeat' (first|apply Zi<;>intro _|refine Zc hH ?_|refine Zs [] hE1 ?_|refine Zs [] hE2 ?_|refine Zs [(1,168),(3,184)] (hp ..) ?_|refine Zs [] (hd ..) ?_|exact Zo|with_reducible apply Za)<;>try push_cast[z])
 all_goals first|omega|(simp;done)|skip
 apply Zr [(0,336)] rfl<;>push_cast
theorem T5(kids:List GT)(i j:Nat)(X Y:GT)(hj:j=i-1)(hn:kids.length<=9)(hjk:j+1<kids.length)(hi:i<kids.length)(hX:X≠ .nil)(hY:Y≠ .nil)(hL0:(kids.getD j .nil).height≠0)(hLn:0<(kids.getD j .nil).kids.length)(hL8:(kids.getD j .nil).kids.length<=8)(hRn:0<(kids.getD (j+1) .nil).kids.length)(hR8:(kids.getD (j+1) .nil).kids.length<=8)
  (hp:A4 prog 186 [.gref 1 (kids.getD j .nil).kids.length,.gref 3 (kids.getD (j+1) .nil).kids.length,.func (.func 89) [] []] [(1,.grow ((kids.getD j .nil).kids.map Ak) 1),(3,.grow ((kids.getD (j+1) .nil).kids.map Ak) 1)] (.tup [Ag X,Ag Y]) []):
  A4 prog 141 [.gref 1 kids.length,.val (.int .i64 i)] [(1,.grow (kids.map Ak) 1)] (.gref 0 kids.length) [(0,.grow (((kids.set j X).set (j+1) Y).map Ak) 1)]:=by
 have m0:(if IntKind.i64.wrap ((i:Int)-1)<0 then(0:Int) else IntKind.i64.wrap ((i:Int)-1))=(j:Int):=by
  rw[A9 (by omega) (by omega)];split<;>omega
 have m1:(if IntKind.i64.wrap ((i:Int)-1)<=0 then(0:Int) else IntKind.i64.wrap ((i:Int)-1))=(j:Int):=by
  rw[A9 (by omega) (by omega)];split<;>omega
 have w1:IntKind.i64.wrap ((j:Int)+1)=((j+1:Nat):Int):=R9 (by omega) 1 (by omega)
 have w2:IntKind.i64.wrap ((j:Int)+2)=((j+2:Nat):Int):=R9 (by omega) 2 (by omega)
 have t1:((j:Int)+1).toNat=j+1:=by omega
 have b0:((kids.getD j .nil).height==0)=false:=by simpa using hL0
 have hH:=Bx (kids.getD j .nil)
 have hE1:=Ev (kids.getD j .nil) hLn (by omega)
 have hE2:=Ev (kids.getD (j+1) .nil) hRn (by omega)
 have ea:=B9 (show j<kids.length by omega)
 have eb:=B9 hjk
 simp only[Ak] at ea eb
 have bj:decide (j<kids.length)=true:=decide_eq_true (by omega)
 have bj1:decide (j+1<kids.length)=true:=decide_eq_true hjk
 have ms:(List.map Ak kids).set j [Ag X]=List.map Ak (kids.set j X):=(A1I (f:=Ak) ..).symm
 obtain⟨cs,hcs⟩:=C3 hX
 have o2:=A5 X
 have ms2:(List.map Ak (kids.set j X)).set (j+1) [Ag Y]=List.map Ak ((kids.set j X).set (j+1) Y):=(A1I (f:=Ak) ..).symm
 obtain⟨ds,hds⟩:=C3 hY
 have o3:=A5 Y
 rw[hcs] at o2 hp ms
 rw[hds] at o3 hp ms2
 simp only[D.pure] at o2 o3
 generalize kids.getD j .nil=L at*
 generalize kids.getD (j+1) .nil=R at*
 have oL:=A5 L
 have oR:=A5 R
 refine Zd [] func141 rfl ntmps141 results141 ?_
 (have z:=Za m0<|Za m1<|Za w1<|Za w2<|Za t1<|Za b0<|Za ea<|Za eb<|Za bj<|Za bj1<|Za ms<|Za ms2<|Za o2<|Za o3<|Za oL oR;(try push_cast[z])<;>repeat' (first|apply Zi<;>intro _|refine Zc hH ?_|refine Zs [] hE1 ?_|refine Zs [] hE2 ?_|refine Zs [(1,168),(3,184)] (hp ..) ?_|exact Zo|with_reducible apply Za)<;>try push_cast[z])
 all_goals first|omega|(simp;omega)|(simp;done)|skip
 have d1:List.drop 1 (nr (List.map Ak (kids.set j X)) (j+1))=[]:=by rw[B9 (by simpa using hjk)];rfl
 apply Zr [(0,1)] rfl<;>push_cast [ms2,t1,d1]
end Go.Ab
