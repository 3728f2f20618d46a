/- The layer by which the program is walked, and what its functions do: part 9 of 16. -/
import Derived.Test.YtjopicjammmbjaaGreatDoorV7
import Derived.Shelf.SlIter.Nil
import Derived.Shelf.SortM.Plain
import Derived.Shelf.SortM.SortNone
import Derived.Ground.GgzProg
import Derived.Ground.SlgmProg
set_option maxHeartbeats 4000000
set_option maxRecDepth 20000
set_option linter.unusedVariables false
set_option linter.unusedSimpArgs false
set_option linter.unnecessarySimpa false
namespace Go.Ab
open Go.Proofs Go.Proofs.Tryz
theorem c_wo0(t:GT)(k:ByteArray)(h0:t.height=0)(hl:t.es≠[])(h8:t.es.length<=8)(hs:∀ e ∈ t.es,Sm e.2)(hm:∀ i j,i<=j->j<t.es.length->ltS (t.es.getD i zM).1 k=false->ltS (t.es.getD j zM).1 k=false)(hh:C5 t.es k=false):
  A3 prog 90 [Ag t,.val (.string k)] (.tup [Ag t,.val (.bool false)]):=by
 have hH:=Bx t
 rw[h0] at hH
 have hE:=DE t hl (by omega) hs
 have hp:=Km t.es false k hm (by omega)
 rw[hh] at hp
 have tk:List.take t.es.length (List.map Ac t.es)=List.map Ac t.es:=A0f (by simp)
 refine Zf [] func90 rfl ntmps90 results90 ?_
 (have z:=tk;(try push_cast[z])<;>repeat' (first|apply Zi<;>intro _|refine Zc hH ?_|refine Zs [] hE ?_|refine Zq (hp ..) ?_ ?_|exact Zo|with_reducible apply Za)<;>try push_cast[z])
 all_goals first|omega|(simp;done)|exact An _|skip
theorem c_wo0n(t:GT)(k:ByteArray)(h0:t.height=0)(hl:t.es=[]):
  A3 prog 90 [Ag t,.val (.string k)] (.tup [Ag t,.val (.bool false)]):=by
 have hH:=Bx t
 rw[h0] at hH
 have hE:=GU t hl
 have hp:=Km [] true k (fun i j _ h=>absurd h (by simp)) (by simp)
 have hpe:AB [] k=0:=rfl
 have hhe:C5 [] k=false:=rfl
 rw[hpe,hhe] at hp
 simp only[A0S] at hp
 refine Zf [] func90 rfl ntmps90 results90 ?_
 (have z:=trivial;(try push_cast)<;>repeat' (first|apply Zi<;>intro _|refine Zc hH ?_|refine Zc hE ?_|refine Zc (hp ..) ?_|exact Zp|with_reducible apply Za)<;>try push_cast)
 all_goals first|omega|(simp;done)|exact An _|skip
theorem take_z7(X:List (List D))(z:List D){n:Nat}(h:X.length=n):(X++[z]).take n=X:=by rw[A1x (by omega),A0f (by omega)]
theorem c_wo1(t:GT)(k:ByteArray)(h0:t.height=0)(h8:t.es.length<=8)(hs:∀ e ∈ t.es,Sm e.2)(hm:∀ i j,i<=j->j<t.es.length->ltS (t.es.getD i zM).1 k=false->ltS (t.es.getD j zM).1 k=false)(hh:C5 t.es k=true)(hlt:AB t.es k<t.es.length)
  (hok:OkE (C6 t.es (AB t.es k))):
  A3 prog 90 [Ag t,.val (.string k)] (.tup [Ag (AC (C6 t.es (AB t.es k))),.val (.bool true)]):=by
 have hH:=Bx t
 rw[h0] at hH
 have hE:=DE t (by intro h;rw[h] at hlt;simp at hlt) (by omega) hs
 have hp:=Km t.es false k hm (by omega)
 rw[hh] at hp
 have hd:=c_delE t.es (AB t.es k) hlt (by omega)
 have hL:=GQ (C6 t.es (AB t.es k)) false hok.hl hok.hs hok.hr
 have tk:List.take t.es.length (List.map Ac t.es)=List.map Ac t.es:=A0f (by simp)
 have w1:IntKind.i64.wrap ((AB t.es k:Nat)+1:Int)=((AB t.es k+1:Nat):Int):=R9 (by omega) 1 (by omega)
 have hcl:(C6 t.es (AB t.es k)).length=t.es.length-1:=by simp[C6];omega
 have tk2:List.take (t.es.length-1) (List.map Ac (C6 t.es (AB t.es k))++[z7])=List.map Ac (C6 t.es (AB t.es k)):=take_z7 _ _ (by rw[A0b,hcl])
 generalize hq:AB t.es k=q at*
 generalize C6 t.es q=C at*
 simp only[z7,z6] at tk2 hd
 push_cast at w1 hd
 refine Zf [] func90 rfl ntmps90 results90 ?_
 (have z:=Za tk<|Za tk2<|Za w1 @hcl;(try push_cast[z])<;>repeat' (first|apply Zi<;>intro _|refine Zc hH ?_|refine Zs [] hE ?_|refine Zq (hp ..) ?_ ?_|refine Zs [(1,48)] (hd ..) ?_|refine Zg hL ?_ ?_|exact Zo|with_reducible apply Za)<;>try push_cast[z])
 all_goals first|omega|(simp;done)|(simp;omega)|exact An _|skip
section
variable(t:GT)(k:ByteArray)(K:GT)(h0:t.height≠0)(h1:0<t.kids.length)(h8:t.kids.length<=8)(hm:∀ i j,i<=j->j<t.kids.length->ltS k (t.kids.getD i .nil).first=true->ltS k (t.kids.getD j .nil).first=true)(hi:AG t.kids k<t.kids.length)
include h0 h1 h8 hm hi
theorem c_wo2(hrec:A3 prog 90 [Ag (t.kids.getD (AG t.kids k) .nil),.val (.string k)] (.tup [Ag K,.val (.bool false)])):
  A3 prog 90 [Ag t,.val (.string k)] (.tup [Ag t,.val (.bool false)]):=by
 have hH:=Bx t
 have b0:(t.height==0)=false:=by simpa using h0
 have hK:=Ev t h1 (by omega)
 have hw:=Ed t.kids k hm (by omega)
 have ea:=B9 hi
 have oK:=A5 K
 refine Zf [] func90 rfl ntmps90 results90 ?_
 (have z:=Za b0<|Za ea<|Za @Ak.eq_1 oK;(try push_cast[z])<;>repeat' (first|apply Zi<;>intro _|refine Zc hH ?_|refine Zs [] hK ?_|refine Zq (hw ..) ?_ ?_|refine Zc (hrec ..) ?_|exact Zo|with_reducible apply Za)<;>try push_cast[z])
 all_goals first|omega|(simp;done)|exact An _|skip
theorem c_wo3(hrec:A3 prog 90 [Ag (t.kids.getD (AG t.kids k) .nil),.val (.string k)] (.tup [Ag K,.val (.bool true)]))(hK0:K≠ .nil)(hK4:4<=K.size)(hK8:K.size<=8)(hok:OkK (t.kids.set (AG t.kids k) K)):
  A3 prog 90 [Ag t,.val (.string k)] (.tup [Ag (DP (t.kids.set (AG t.kids k) K)),.val (.bool true)]):=by
 have hH:=Bx t
 have b0:(t.height==0)=false:=by simpa using h0
 have hK:=Ev t h1 (by omega)
 have hw:=Ed t.kids k hm (by omega)
 have ea:=B9 hi
 have hz:=La K (by omega)
 have b1:decide ((K.size:Int)<4)=false:=decide_eq_false (by omega)
 have hI:=DR (t.kids.set (AG t.kids k) K) (by simp;omega) hok
 have ms:(List.map Ak t.kids).set (AG t.kids k) [Ag K]=List.map Ak (t.kids.set (AG t.kids k) K):=(A1I (f:=Ak) ..).symm
 obtain⟨cs,hcs⟩:=C3 hK0
 have o2:=A5 K
 rw[hcs] at o2 hrec ms hz
 simp only[D.pure] at o2
 refine Zf [] func90 rfl ntmps90 results90 ?_
 (have z:=Za b0<|Za b1<|Za ea<|Za @Ak.eq_1<|Za o2 ms;(try push_cast[z])<;>repeat' (first|apply Zi<;>intro _|refine Zc hH ?_|refine Zs [] hK ?_|refine Zq (hw ..) ?_ ?_|refine Zc (hrec ..) ?_|refine Zc (hz ..) ?_|refine Zg hI ?_ ?_|exact Zo|with_reducible apply Za)<;>try push_cast[z])
 all_goals first|omega|(simp;done)|exact An _|skip
theorem c_wo4(hrec:A3 prog 90 [Ag (t.kids.getD (AG t.kids k) .nil),.val (.string k)] (.tup [Ag K,.val (.bool true)]))(hK0:K≠ .nil)(hK4:K.size<4)(l:List GT)(hl1:1<=l.length)(hok:OkK l)
  (hmend:A4 prog 141 [.gref 1 t.kids.length,.val (.int .i64 (AG t.kids k))] [(1,.grow ((t.kids.set (AG t.kids k) K).map Ak) 1)] (.gref 0 l.length) [(0,.grow (l.map Ak) 1)]):
  A3 prog 90 [Ag t,.val (.string k)] (.tup [Ag (DP l),.val (.bool true)]):=by
 have hH:=Bx t
 have b0:(t.height==0)=false:=by simpa using h0
 have hK:=Ev t h1 (by omega)
 have hw:=Ed t.kids k hm (by omega)
 have ea:=B9 hi
 have hz:=La K (by omega)
 have b1:decide ((K.size:Int)<4)=true:=decide_eq_true (by omega)
 have hI:=DR l hl1 hok
 have ms:(List.map Ak t.kids).set (AG t.kids k) [Ag K]=List.map Ak (t.kids.set (AG t.kids k) K):=(A1I (f:=Ak) ..).symm
 obtain⟨cs,hcs⟩:=C3 hK0
 have o2:=A5 K
 rw[hcs] at o2 hrec ms hz
 simp only[D.pure] at o2
 refine Zf [] func90 rfl ntmps90 results90 ?_
 (have z:=Za b0<|Za b1<|Za ea<|Za @Ak.eq_1<|Za o2 ms;(try push_cast[z])<;>repeat' (first|apply Zi<;>intro _|refine Zc hH ?_|refine Zs [] hK ?_|refine Zq (hw ..) ?_ ?_|refine Zc (hrec ..) ?_|refine Zc (hz ..) ?_|refine Zs [(1,48)] (hmend ..) ?_|refine Zg hI ?_ ?_|exact Zo|with_reducible apply Za)<;>try push_cast[z])
 all_goals first|omega|(simp;done)|exact An _|skip
end
abbrev AR(l:List GE):D:=.ptr [.slice (l.map Ac) false] 0
theorem RZ{l:List GE}{k:ByteArray}{i:Nat}(hi:i<l.length)(h0:∀ j,j<i->ltS (l.getD j zM).1 k=true)(h:ltS (l.getD i zM).1 k=false):AB l k=i:=by
 unfold AB
 have key:∀ (m a:Nat),a+m=l.length->a<=i->Bz (fun i=>!ltS (l.getD i zM).1 k) a m=i:=by
  intro m
  induction m with
  |zero=>intro a h1 h2;omega
  |succ m ih=>
   intro a h1 h2
   simp only[Bz]
   by_cases ha:a=i
   ·subst ha;rw[if_pos (by rw[h];rfl)]
   ·rw[if_neg (by rw[h0 a (by omega)];simp)]
    exact ih (a+1) (by omega) (by omega)
 exact key _ 0 (by omega) (A0t _)
theorem Z1{l:List GE}{k:ByteArray}(h0:∀ j,j<l.length->ltS (l.getD j zM).1 k=true):AB l k=l.length:=by
 unfold AB
 have key:∀ (m a:Nat),a+m=l.length->Bz (fun i=>!ltS (l.getD i zM).1 k) a m=l.length:=by
  intro m
  induction m with
  |zero=>intro a h1;simp only[Bz];omega
  |succ m ih=>
   intro a h1
   simp only[Bz]
   rw[if_neg (by rw[h0 a (by omega)];simp)]
   exact ih (a+1) (by omega)
 exact key _ 0 (by omega)
theorem Q6(l:List GE)(k:ByteArray):AB l k<=l.length:=by have:=EV (fun i=>!ltS (l.getD i zM).1 k) l.length 0;unfold AB;omega
theorem GC{l:List GE}{k:ByteArray}(h:C5 l k=true):AB l k<l.length:=by
 unfold C5 at h;simp only[A0c,decide_eq_true_eq] at h;exact h.1
theorem c_at(l:List GE)(k:ByteArray)(hn:l.length<=4611686018427387904):A3 prog 98 [AR l,.val (.string k)] (.tup [.val (.int .i64 (AB l k)),.val (.bool (C5 l k))]):=by
 refine Zf [] func98 rfl ntmps98 results98 ?_
 ((try push_cast)<;>repeat' (first|apply Zi<;>intro _|exact Zp|with_reducible apply Za)<;>try push_cast)
 refine Zl (fun i=>i<=l.length/\∀ j,j<i->ltS (l.getD j zM).1 k=true) (fun i=>⟨[(6,.val (.int .i64 i)),(1,.val (.string k)),(0,AR l)],[],10⟩) (fun i=>l.length-i) 0 ⟨A0t _,fun j h=>absurd h (by simp)⟩ ?_ fun i hi=>?_
 ·apply Zw<;>push_cast
  all_goals simp[AR,An]
 ·obtain⟨h1,h2⟩:=hi
  push_cast
  refine A6 (fun ha=>?_) (fun ha=>?_)
  ·have hi':i<l.length:=by simpa using ha
   have e1:=AV hi'
   (have z:=Za e1 @Ao;(try push_cast[z])<;>repeat' (first|apply Zi<;>intro _|exact Zo|with_reducible apply Za)<;>try push_cast[z])
   all_goals first|omega|skip
   ·rename_i h
    simp only[A1e] at h
    rw[RZ hi' h2 h]
   ·rename_i h
    simp only[A1e] at h
    simp[C5,RZ hi' h2 h,hi']
   ·rename_i h
    simp only[A1q] at h
    refine⟨i+1,⟨hi',fun j hj=>?_⟩,by omega,?_⟩
    ·by_cases hji:j=i
     ·subst hji;exact h
     ·exact h2 j (by omega)
    ·apply Zw<;>push_cast
     all_goals first|exact A9 (by omega) (by omega)|simp [AR,An]
  ·have hi':i=l.length:=by simp at ha;omega
   subst hi'
   have hp:=Z1 h2
   ((try push_cast)<;>repeat' (first|apply Zi<;>intro _|exact Zp|with_reducible apply Za)<;>try push_cast)
   ·rw[hp]
   ·simp[C5,hp]
theorem c_Get(l:List GE)(k:ByteArray)(hn:l.length<=4611686018427387904):A3 prog 99 [AR l,.val (.string k)] (.tup [.agg (Aa (if C5 l k then(l.getD (AB l k) zM).2 else zV)),.val (.bool (C5 l k))]):=by
 have ha:=c_at l k hn
 cases hh:C5 l k with
 |true=>
  rw[hh] at ha
  have e1:=AV (GC hh)
  simp only[if_true]
  refine Zf [] func99 rfl ntmps99 results99 ?_
  (have z:=Za e1 @Ao;(try push_cast[z])<;>repeat' (first|apply Zi<;>intro _|refine Zc (ha ..) ?_|exact Zo|with_reducible apply Za)<;>try push_cast[z])
  all_goals first|omega|(have:=GC hh;omega)
 |false=>
  rw[hh] at ha
  simp only[if_false,A0q]
  refine Zf [] func99 rfl ntmps99 results99 ?_
  (have z:=trivial;(try push_cast)<;>repeat' (first|apply Zi<;>intro _|refine Zc (ha ..) ?_|exact Zp|with_reducible apply Za)<;>try push_cast)
  all_goals exact ZW
theorem Nj:∀ {a b c:List UInt8},Bo a b<0->Bo b c<0->Bo a c<0
 |[],[],c,h,k=>by simp[Bo] at h
 |[],_::_,[],h,k=>by simp[Bo] at k
 |[],_::_,_::_,h,k=>by simp[Bo]
 |_::_,[],c,h,k=>by simp[Bo] at h
 |_::_,_::_,[],h,k=>by simp[Bo] at k
 |x::a,y::b,z::c,h,k=>by
  simp only[Bo] at h k|-
  by_cases h1:x=y
  ·subst h1
   by_cases h2:x=z
   ·subst h2;simp only[if_true] at h k|-;exact Nj h k
   ·simp only[if_true,if_neg h2] at k|-
    exact k
  ·simp only[if_neg h1] at h
   have hlt:x<y:=by
    by_cases hh:x<y
    ·exact hh
    ·simp[hh] at h
   by_cases h2:y=z
   ·subst h2;simp[h1,hlt]
   ·simp only[if_neg h2] at k
    have hlt2:y<z:=by
     by_cases hh:y<z
     ·exact hh
     ·simp[hh] at k
    have h3:x<z:=UInt8.lt_trans hlt hlt2
    have h4:x≠z:=UInt8.ne_of_lt h3
    simp[h3,h4]
theorem C9{a b c:ByteArray}(h:ltS a b=true)(k:ltS b c=true):ltS a c=true:=by
 simp only[ltS,decide_eq_true_eq] at*;exact Nj h k
theorem F6(a:ByteArray):ltS a a=false:=by
 have:=(QE a a).2 rfl
 simp[ltS,this]
theorem Es{a b:ByteArray}(h:ltS a b=true):a≠b:=fun e=>by subst e;rw[F6] at h;cases h
theorem P5{a b:ByteArray}(h:ltS a b=true):ltS b a=false:=by
 cases hb:ltS b a with
 |false=>rfl
 |true=>have:=C9 h hb;rw[F6] at this;cases this
theorem KV{a b:ByteArray}(h:ltS a b=false)(hne:a≠b):ltS b a=true:=by
 have e:=QE a b
 have n:=Nl a b
 simp only[ltS,decide_eq_true_eq,decide_eq_false_iff_not] at*
 have:Ep a b≠0:=fun h0=>hne (e.1 h0)
 omega
theorem P4{a b c:ByteArray}(h:ltS a b=true)(k:ltS c b=false):ltS a c=true:=by
 by_cases hbc:b=c
 ·subst hbc;exact h
 ·exact C9 h (KV k fun e=>hbc e.symm)
def Srt(l:List GE):Prop:=l.Pairwise fun a b=>ltS a.1 b.1=true
def AU(e:GE):List GE->List GE
 |[]=>[e]
 |x::l=>if ltS x.1 e.1 then x::AU e l else if x.1=e.1 then e::l else e::x::l
def BE(k:ByteArray)(l:List GE):List GE:=l.filter fun x=>decide (x.1≠k)
def Ah(k:ByteArray)(l:List GE):Option GV:=(l.find? fun x=>decide (x.1=k)).map (·.2)
def CG(k:ByteArray)(l:List GE):Bool:=l.any fun x=>decide (x.1=k)
theorem ER(x:GE)(l:List GE)(k:ByteArray):AB (x::l) k=if ltS x.1 k then AB l k+1 else 0:=by
 have key:∀ (m i:Nat),Bz (fun i=>!ltS ((x::l).getD i zM).1 k) (i+1) m=Bz (fun i=>!ltS (l.getD i zM).1 k) i m+1:=by
  intro m
  induction m with
  |zero=>intro i;simp[Bz]
  |succ m ih=>
   intro i
   simp only[Bz,A1R]
   split
   ·rfl
   ·exact ih (i+1)
 unfold AB
 simp only[A0g,Bz,A0K]
 cases h:ltS x.1 k with
 |true=>simpa using key l.length 0
 |false=>simp
theorem W4(k:ByteArray):∀ l:List GE,l.take (AB l k)=l.takeWhile fun x=>ltS x.1 k
 |[]=>rfl
 |x::l=>by
  rw[ER]
  cases h:ltS x.1 k with
  |true=>simp [h,W4 k l]
  |false=>simp [h]
theorem Pw(k:ByteArray):∀ l:List GE,l.drop (AB l k)=l.dropWhile fun x=>ltS x.1 k
 |[]=>rfl
 |x::l=>by
  rw[ER]
  cases h:ltS x.1 k with
  |true=>simp [h,Pw k l]
  |false=>simp [h]
theorem HW(x:GE)(l:List GE)(k:ByteArray):C5 (x::l) k=if ltS x.1 k then C5 l k else decide (x.1=k):=by
 unfold C5
 rw[ER]
 cases h:ltS x.1 k with
 |true=>simp
 |false=>simp
theorem Srt.head{x:GE}{l:List GE}(h:Srt (x::l)):∀ y ∈ l,ltS x.1 y.1=true:=(List.pairwise_cons.1 h).1
theorem Srt.tail{x:GE}{l:List GE}(h:Srt (x::l)):Srt l:=(List.pairwise_cons.1 h).2
theorem Qw(k:ByteArray):∀ l:List GE,Srt l->C5 l k=CG k l
 |[],_=>rfl
 |x::l,h=>by
  rw[HW]
  simp only[CG,List.any_cons]
  cases hx:ltS x.1 k with
  |true=>
   have:decide (x.1=k)=false:=decide_eq_false (Es hx)
   simp only[if_true,this,Bool.false_or]
   exact Qw k l h.tail
  |false=>
   simp only[A0q,if_false]
   have:(l.any fun y=>decide (y.1=k))=false:=by
    rw[List.any_eq_false]
    intro y hy
    simp only[decide_eq_true_eq]
    rintro rfl
    have:=h.head y hy
    rw[this] at hx;cases hx
   rw[this,A23]
theorem Kb(e:GE):∀ l:List GE,Eu l e=AU e l
 |[]=>rfl
 |x::l=>by
  have ih:=Kb e l
  unfold Eu at ih|-
  rw[HW,ER]
  simp only[AU]
  cases hx:ltS x.1 e.1 with
  |true=>
   simp only[if_true] at ih|-
   rw[<-ih]
   split
   ·simp
   ·simp[Df]
  |false=>
   simp only[A0q,if_false]
   by_cases hk:x.1=e.1
   ·simp[hk]
   ·simp[hk,Df]
theorem LX(k:ByteArray):∀ l:List GE,Srt l->C5 l k=true->C6 l (AB l k)=BE k l
 |[],_,h=>by cases h
 |x::l,hs,h=>by
  rw[HW] at h
  rw[ER]
  simp only[BE]
  cases hx:ltS x.1 k with
  |true=>
   simp only[hx,if_true] at h|-
   have:=LX k l hs.tail h
   simp only[BE] at this
   rw[A25 (by simpa using Es hx),<-this]
   simp[C6]
  |false=>
   simp only[hx,A0q,if_false,decide_eq_true_eq] at h|-
   rw[A26 (by simpa using h)]
   have:l.filter (fun x=>decide (x.1≠k))=l:=A1Q.2 fun y hy=>by
    have:=hs.head y hy
    rw[h] at this
    simpa using(Es this).symm
   rw[this]
   simp[C6]
theorem KG{k:ByteArray}{l:List GE}(h:CG k l=false):BE k l=l:=by
 unfold CG at h
 rw[List.any_eq_false] at h
 exact A1Q.2 fun y hy=>by simpa using h y hy
theorem Qz(k:ByteArray):∀ l:List GE,Srt l->(if C5 l k then some (l.getD (AB l k) zM).2 else none)=Ah k l
 |[],_=>rfl
 |x::l,hs=>by
  rw[HW,ER]
  simp only[Ah,List.find?_cons]
  cases hx:ltS x.1 k with
  |true=>
   have:decide (x.1=k)=false:=decide_eq_false (Es hx)
   simp only[if_true,this]
   have:=Qz k l hs.tail
   simp only[Ah] at this
   simpa using this
  |false=>
   by_cases hk:x.1=k
   ·simp[hk]
   ·have hn:(l.find? fun y=>decide (y.1=k))=none:=List.find?_eq_none.2 fun y hy=>by
     simp only[decide_eq_true_eq]
     rintro rfl
     have:=hs.head y hy
     rw[this] at hx;cases hx
    simp[hk,hn]
theorem RX{e:GE}:∀ {a b:List GE},(∀ x ∈ a,ltS x.1 e.1=true)->AU e (a++b)=a++AU e b
 |[],b,_=>rfl
 |x::a,b,h=>by
  simp only[A07,AU,h x A0C,if_true]
  rw[RX fun y hy=>h y (A0l _ hy)]
theorem Ms{e:GE}:∀ {a b:List GE},(∀ x ∈ b,ltS e.1 x.1=true)->AU e (a++b)=AU e a++b
 |[],[],_=>rfl
 |[],y::b,h=>by
  have hy:=h y A0C
  simp[AU,P5 hy,(Es hy).symm]
 |x::a,b,h=>by
  simp only[A07,AU]
  split
  ·rw[Ms h];rfl
  ·split<;>rfl
theorem A00{e x:GE}:∀ {l:List GE},x ∈ AU e l->x=e∨x ∈ l
 |[],h=>by simp[AU] at h;exact .inl h
 |y::l,h=>by
  simp only[AU] at h
  split at h
  ·rcases A0o.1 h with rfl|h
   ·exact .inr A0C
   ·rcases A00 h with h|h
    ·exact .inl h
    ·exact .inr (A0l _ h)
  ·split at h
   ·rcases A0o.1 h with rfl|h
    ·exact .inl rfl
    ·exact .inr (A0l _ h)
   ·rcases A0o.1 h with rfl|h
    ·exact .inl rfl
    ·exact .inr h
theorem Ek{e:GE}:∀ {l:List GE},Srt l->Srt (AU e l)
 |[],_=>List.pairwise_singleton _ _
 |x::l,h=>by
  simp only[AU]
  split
  ·rename_i hx
   refine List.pairwise_cons.2 ⟨fun y hy=>?_,Ek h.tail⟩
   rcases A00 hy with rfl|hy
   ·exact hx
   ·exact h.head y hy
  ·rename_i hx
   split
   ·rename_i hk
    refine List.pairwise_cons.2 ⟨fun y hy=>?_,h.tail⟩
    rw[<-hk];exact h.head y hy
   ·rename_i hk
    have hlt:=KV (by simpa using hx) hk
    refine List.pairwise_cons.2 ⟨fun y hy=>?_,h⟩
    rcases A0o.1 hy with rfl|hy
    ·exact hlt
    ·exact C9 hlt (h.head y hy)
theorem CY(e:GE):∀ l:List GE,(AU e l).length<=l.length+1/\l.length<=(AU e l).length
 |[]=>by simp[AU]
 |x::l=>by
  have:=CY e l
  simp only[AU]
  split
  ·simp;omega
  ·split<;>simp
theorem Hk{k:ByteArray}{l:List GE}(h:Srt l):Srt (BE k l):=List.Pairwise.filter _ h
theorem RM(k:ByteArray)(a b:List GE):BE k (a++b)=BE k a++BE k b:=A1B ..
theorem LP{l:List GE}(h:Srt l){i j:Nat}(hij:i<j)(hj:j<l.length):ltS (l.getD i zM).1 (l.getD j zM).1=true:=by
 have:=A1W.1 h i j (by omega) hj hij
 rw[A03,A03,A06 (show i<l.length by omega),A06 hj]
 exact this
theorem Md{l:List GE}(h:∀ i,1<=i->i<l.length->ltS (l.getD (i-1) zM).1 (l.getD i zM).1=true):Srt l:=by
 refine A1W.2 fun i j hi hj hij=>?_
 have key:∀ n i,i+1+n<l.length->ltS (l.getD i zM).1 (l.getD (i+1+n) zM).1=true:=by
  intro n
  induction n with
  |zero=>intro i hi;have:=h (i+1) (by omega) hi;simpa using this
  |succ n ih=>
   intro i hi
   have h2:=h (i+1+(n+1)) (by omega) hi
   have e:i+1+(n+1)-1=i+1+n:=by omega
   rw[e] at h2
   exact C9 (ih i (by omega)) h2
 have:=key (j-i-1) i (by omega)
 have e:i+1+(j-i-1)=j:=by omega
 rw[e] at this
 rw[A03,A03,A06 hi,A06 hj] at this
 exact this
theorem JP{l:List GE}(h:Srt l)(k:ByteArray):∀ i j,i<=j->j<l.length->ltS (l.getD i zM).1 k=false->ltS (l.getD j zM).1 k=false:=by
 intro i j hij hj hi
 rcases Nat.eq_or_lt_of_le hij with rfl|hlt
 ·exact hi
 ·cases hk:ltS (l.getD j zM).1 k with
  |false=>rfl
  |true=>have:=C9 (LP h hlt hj) hk;rw[this] at hi;cases hi
theorem Ds{α:Type}{l:List α}(h:l≠[]):0<l.length:=List.length_pos_iff.2 h
def A8:Nat->GT->List GE
 |0,t=>t.es
 |h+1,t=>t.kids.flatMap (A8 h)
def Wf:Nat->GT->Prop
 |0,t=>∃ l,t=AC l/\OkE l/\l≠[]
 |h+1,t=>∃ l,t=AF l/\2<=l.length/\l.length<=8/\(∀ k ∈ l,Wf h k/\4<=k.size)/\Srt (l.flatMap (A8 h))
theorem FY{l:List GE}(h:l≠[]):l.getD 0 zM ∈ l:=by
 cases l with
 |nil=>exact absurd rfl h
 |cons x l=>simp
theorem MN{l:List GE}(h:l≠[]):l.getD (l.length-1) zM ∈ l:=by
 have:l.length-1<l.length:=by have:=Ds h;omega
 exact Ad this
theorem Us{α:Type}{a b:List α}{d:α}{i:Nat}(h:i<a.length):(a++b).getD i d=a.getD i d:=by
 rw[A03,A03,A0x h]
theorem Ur{α:Type}{a b:List α}{d:α}{i:Nat}(h:a.length<=i):(a++b).getD i d=b.getD (i-a.length) d:=by
 rw[A03,A03,A0r h]
structure WfD(h:Nat)(t:GT):Prop where
 nn:t≠ .nil
 height:t.height=h
 count:t.count=(A8 h t).length
 ne:A8 h t≠[]
 srt:Srt (A8 h t)
 first:t.first=((A8 h t).getD 0 zM).1
 last:t.last=((A8 h t).getD ((A8 h t).length-1) zM).1
 size:t.size<=8
 hlt:h<(A8 h t).length
 sm:∀ e ∈ A8 h t,Sm e.2
theorem Jm{l:List GT}{f:GT->List GE}(hn:∀ k ∈ l,f k≠[])(h:0<l.length):(l.flatMap f).getD 0 zM=(f (l.getD 0 .nil)).getD 0 zM:=by
 cases l with
 |nil=>simp at h
 |cons k l=>
  have:=Ds (hn k A0C)
  rw[A0I,Us this];rfl
theorem Ke{f:GT->List GE}:∀ {l:List GT},(∀ k ∈ l,f k≠[])->0<l.length->(l.flatMap f).getD ((l.flatMap f).length-1) zM=(f (l.getD (l.length-1) .nil)).getD ((f (l.getD (l.length-1) .nil)).length-1) zM
 |[],_,h=>by simp at h
 |[k],hn,_=>by simp
 |k::k'::l,hn,_=>by
  have ih:=Ke (l:=k'::l) (fun x hx=>hn x (A0l _ hx)) (by simp)
  have hpos:0<((k'::l).flatMap f).length:=by
   have:=Ds (hn k' (by simp))
   rw[A0I,A08];omega
  rw[A0I,A08]
  rw[Ur (by omega)]
  have e:(f k).length+((k'::l).flatMap f).length-1-(f k).length=((k'::l).flatMap f).length-1:=by omega
  rw[e,ih]
  simp
theorem Ni{f:GT->List GE}:∀ {l:List GT},(∀ k ∈ l,k.count=(f k).length)->(l.map GT.count).sum=(l.flatMap f).length
 |[],_=>rfl
 |k::l,h=>by
  simp only[A0k,A1S,A0I,A08]
  rw[Ni fun x hx=>h x (A0l _ hx),h k A0C]
  omega
theorem Hw{f:GT->List GE}{l:List GT}{k:GT}(h:k ∈ l):(f k).length<=(l.flatMap f).length:=by
 induction l with
 |nil=>cases h
 |cons x l ih=>
  rw[A0I,A08]
  rcases A0o.1 h with rfl|h
  ·omega
  ·have:=ih h;omega
theorem Wf.d:∀ {h:Nat} {t:GT},Wf h t->WfD h t
 |0,t,hw=>by
  obtain⟨l,rfl,ho,hn⟩:=hw
  exact⟨by simp[AC],rfl,by simp[AC,GT.count,A8,GT.es],hn,Md ho.hr,rfl,rfl,by simp[GT.size,AC,GT.es,GT.kids,ho.hl],by simpa[A8,AC,GT.es] using Ds hn,ho.hs⟩
 |h+1,t,hw=>by
  obtain⟨l,rfl,h2,h8,hk,hs⟩:=hw
  have hd:∀ k ∈ l,WfD h k:=fun k hk'=>Wf.d (hk k hk').1
  have hfl:A8 (h+1) (AF l)=l.flatMap (A8 h):=rfl
  have h0:l.getD 0 .nil ∈ l:=Ad (by omega)
  have hl:l.getD (l.length-1) .nil ∈ l:=Ad (by omega)
  have hne:∀ k ∈ l,A8 h k≠[]:=fun k hk'=>(hd k hk').ne
  refine⟨by simp[AF],?_,?_,?_,hs,?_,?_,?_,?_,fun e he=>?_⟩
  ·show(l.getD 0 .nil).height+1=_
   rw[(hd _ h0).height];simp
  ·rw[hfl]
   show Ja l l.length=_
   rw[Ja,A0Q]
   exact Ni fun k hk'=>(hd k hk').count
  ·rw[hfl]
   intro hc
   have:=Jm hne (show 0<l.length by omega)
   have h3:=Hw (f:=A8 h) h0
   rw[hc] at h3
   have:=Ds (hne _ h0)
   simp at h3;simp[h3] at this
  ·rw[hfl,Jm hne (by omega)];exact(hd _ h0).first
  ·rw[hfl,Ke hne (by omega)];exact(hd _ hl).last
  ·show 0+l.length<=8;omega
  ·rw[hfl]
   match l,h2 with
   |a::b::l,_=>
    have h1:=(hd a (by simp)).hlt
    have h2:=Ds (hne b (by simp))
    simp only[A0I,A08]
    omega
  ·rw[hfl,A1F] at he
   obtain⟨k,hk',he⟩:=he
   exact(hd k hk').sm e he
theorem LB{p:Nat->Bool}:∀ (m i:Nat),(Bz p i m<i+m->p (Bz p i m)=true)/\(∀ x,i<=x->x<Bz p i m->p x=false)/\i<=Bz p i m
 |0,i=>by simp only[Bz];exact⟨fun h=>absurd h (by omega),fun x h h'=>by omega,A0e _⟩
 |m+1,i=>by
  simp only[Bz]
  by_cases hp:p i=true
  ·rw[if_pos hp];exact⟨fun _=>hp,fun x h h'=>by omega,A0e _⟩
  ·rw[if_neg hp]
   obtain⟨h1,h2,h3⟩:=LB (p:=p) m (i+1)
   refine⟨fun h=>h1 (by omega),fun x hx hx'=>?_,by omega⟩
   by_cases hxi:x=i
   ·subst hxi;simpa using hp
   ·exact h2 x (by omega) hx'
theorem Ky{f:GT->List GE}{l:List GT}(h:Srt (l.flatMap f)){i j:Nat}(hij:i<j)(hj:j<l.length){x y:GE}(hx:x ∈ f (l.getD i .nil))(hy:y ∈ f (l.getD j .nil)):ltS x.1 y.1=true:=by
 have h2:=(List.pairwise_flatMap.1 h).2
 have h3:=A1W.1 h2 i j (by omega) hj hij
 rw[A03,A06 (by omega)] at hx
 rw[A03,A06 hj] at hy
 exact h3 x hx y hy
theorem PN{f:GT->List GE}(l:List GT)(i:Nat):((l.take i).flatMap f).length<=(l.flatMap f).length:=by
 have:l.flatMap f=(l.take i).flatMap f++(l.drop i).flatMap f:=by rw[<-A0u,A0R]
 rw[this,A08];omega
theorem F3{h:Nat}{l:List GT}(h1:1<=l.length)(h8:l.length<=8)(hk:∀ k ∈ l,Wf h k)(hs:Srt (l.flatMap (A8 h)))(hb:(l.flatMap (A8 h)).length<=4611686018427387904):OkK l:=by
 have hd:∀ i,i<l.length->WfD h (l.getD i .nil):=fun i hi=>(hk _ (Ad hi)).d
 refine⟨h8,fun i hi=>?_,?_,fun i hi=>?_,fun i h1 h2=>?_⟩
 ·have d:=hd i hi
  have d0:=hd 0 (by omega)
  refine⟨d.nn,?_,by rw[d.height,d0.height],d.size⟩
  rw[d.count]
  have:=Ds d.ne
  omega
 ·have d0:=hd 0 (by omega)
  have h2:=d0.hlt
  have h3:=Hw (f:=A8 h) (Ad (d:=GT.nil) (show 0<l.length by omega))
  rw[d0.height];omega
 ·have e:Ja l i=(((l.take i).flatMap (A8 h)).length:Int):=Ni fun k hk'=>((hk k (A0W hk')).d).count
  have:=PN (f:=A8 h) l i
  rw[e];omega
 ·have d1:=hd (i-1) (by omega)
  have d2:=hd i h2
  rw[d1.last,d2.first]
  exact Ky hs (show i-1<i by omega) h2 (MN d1.ne) (FY d2.ne)
theorem Gy{h:Nat}{l:List GT}{k:ByteArray}(h1:1<=l.length)(hk:∀ x ∈ l,Wf h x)(hs:Srt (l.flatMap (A8 h))):
  AG l k<l.length/\(∀ i j,i<=j->j<l.length->ltS k (l.getD i .nil).first=true->ltS k (l.getD j .nil).first=true)/\
  (∀ i x,i<AG l k->x ∈ A8 h (l.getD i .nil)->ltS x.1 k=true)/\(∀ j x,AG l k<j->j<l.length->x ∈ A8 h (l.getD j .nil)->ltS k x.1=true):=by
 have hd:∀ i,i<l.length->WfD h (l.getD i .nil):=fun i hi=>(hk _ (Ad hi)).d
 have hfirst:∀ i x,i<l.length->x ∈ A8 h (l.getD i .nil)->ltS x.1 (l.getD i .nil).first=false:=by
  intro i x hi hx
  have d:=hd i hi
  rw[d.first]
  cases hlt:ltS x.1 ((A8 h (l.getD i .nil)).getD 0 zM).1 with
  |false=>rfl
  |true=>
   obtain⟨n,hn,rfl⟩:=List.getElem_of_mem hx
   have e:∀ (F:List GE) (hn:n<F.length),F[n]=F.getD n zM:=fun F hn=>by rw[A03,A06 hn];rfl
   rw[e _ hn] at hlt
   rcases A0M n with rfl|hp
   ·rw[F6] at hlt;cases hlt
   ·have:=P5 (LP d.srt hp hn);rw[this] at hlt;cases hlt
 have hm:∀ i j,i<=j->j<l.length->ltS k (l.getD i .nil).first=true->ltS k (l.getD j .nil).first=true:=by
  intro i j hij hj hi
  rcases Nat.eq_or_lt_of_le hij with rfl|hlt
  ·exact hi
  ·have di:=hd i (by omega)
   have dj:=hd j hj
   refine C9 hi ?_
   rw[di.first,dj.first]
   exact Ky hs hlt hj (FY di.ne) (FY dj.ne)
 obtain⟨f1,f2,_⟩:=LB (p:=fun i=>ltS k (l.getD i .nil).first) l.length 0
 have hle:=EV (fun i=>ltS k (l.getD i .nil).first) l.length 0
 unfold AG
 generalize Bz (fun i=>ltS k (l.getD i .nil).first) 0 l.length=p at f1 f2 hle
 refine⟨by omega,hm,fun i x hi hx=>?_,fun j x hj hj' hx=>?_⟩
 ·have d:=hd (p-1) (by omega)
  have g:ltS k (l.getD (p-1) .nil).first=false:=f2 (p-1) (by omega) (by omega)
  have:ltS x.1 (l.getD (p-1) .nil).first=true:=by rw[d.first];exact Ky hs hi (by omega) hx (FY d.ne)
  exact P4 this g
 ·have g:ltS k (l.getD j .nil).first=true:=hm p j (by omega) hj' (f1 (by omega))
  exact P4 g (hfirst j x hj' hx)
theorem PP{α:Type}(l:List α)(d:α){i:Nat}(h:i<l.length):l=l.take i++l.getD i d::l.drop (i+1):=by
 rw[<-BI h,A0R]
theorem set3{α:Type}(l:List α)(x:α){i:Nat}(h:i<l.length):l.set i x=l.take i++x::l.drop (i+1):=by
 rw[List.set_eq_take_append_cons_drop,if_pos h]
theorem Jh{α:Type}{l:List α}{i:Nat}{d x:α}(h:x ∈ l.take i):∃ j,j<i/\j<l.length/\l.getD j d=x:=by
 obtain⟨n,hn,rfl⟩:=List.getElem_of_mem h
 simp only[A0s] at hn
 refine⟨n,by omega,by omega,?_⟩
 rw[A03,A06 (by omega)];simp
theorem Ji{α:Type}{l:List α}{i:Nat}{d x:α}(h:x ∈ l.drop i):∃ j,i<=j/\j<l.length/\l.getD j d=x:=by
 obtain⟨n,hn,rfl⟩:=List.getElem_of_mem h
 simp only[A0n] at hn
 refine⟨i+n,by omega,by omega,?_⟩
 rw[A03,A06 (by omega)];simp
theorem L0{h:Nat}{l:List GT}{k:ByteArray}(h1:1<=l.length)(hk:∀ x ∈ l,Wf h x)(hs:Srt (l.flatMap (A8 h))):
  (∀ x ∈ (l.take (AG l k)).flatMap (A8 h),ltS x.1 k=true)/\(∀ x ∈ (l.drop (AG l k+1)).flatMap (A8 h),ltS k x.1=true)/\
  l.flatMap (A8 h)=(l.take (AG l k)).flatMap (A8 h)++A8 h (l.getD (AG l k) .nil)++(l.drop (AG l k+1)).flatMap (A8 h):=by
 obtain⟨s1,_,s3,s4⟩:=Gy (k:=k) h1 hk hs
 refine⟨fun x hx=>?_,fun x hx=>?_,?_⟩
 ·obtain⟨t,ht,hx⟩:=A1F.1 hx
  obtain⟨j,h2,_,rfl⟩:=Jh (d:=GT.nil) ht
  exact s3 j x h2 hx
 ·obtain⟨t,ht,hx⟩:=A1F.1 hx
  obtain⟨j,h2,h3,rfl⟩:=Ji (d:=GT.nil) ht
  exact s4 j x (by omega) h3 hx
 ·conv=>lhs;rw[PP l .nil s1]
  rw[A0u,A0I,A05]
theorem Cr{l:List GE}(h:OkE l)(hn:l≠[]):Wf 0 (AC l):=⟨l,rfl,h,hn⟩
theorem DO{h:Nat}{l:List GT}(h2:2<=l.length)(h8:l.length<=8)(hk:∀ k ∈ l,Wf h k/\4<=k.size)(hs:Srt (l.flatMap (A8 h))):Wf (h+1) (DP l)/\A8 (h+1) (DP l)=l.flatMap (A8 h)/\(DP l).size=l.length:=by
 have e:DP l=AF l:=by unfold DP;rw[if_neg (by omega)]
 rw[e]
 exact⟨⟨l,rfl,h2,h8,hk,hs⟩,rfl,by simp[GT.size,AF,GT.es,GT.kids]⟩
theorem E0{l:List GE}(h8:l.length<=8)(hs:∀ e ∈ l,Sm e.2)(hr:Srt l):OkE l:=⟨h8,hs,fun i h1 h2=>LP hr (show i-1<i by omega) h2⟩
def WithOk(h:Nat)(t:GT)(e:GE)(L R:GT):Prop:=
 Wf h L/\(4<=t.size->4<=L.size)/\((R=.nil/\A8 h L=AU e (A8 h t))∨(Wf h R/\4<=R.size/\4<=L.size/\A8 h L++A8 h R=AU e (A8 h t)))
theorem V2:∀ (h:Nat) (t:GT) (e:GE),Wf h t->Sm e.2->(A8 h t).length<=1099511627776->∃ L R,A3 prog 88 [Ag t,.agg (Ac e)] (.tup [Ag L,Ag R])/\WithOk h t e L R
 |0,t,e,hw,he,hb=>by
  have d:=hw.d
  obtain⟨l,rfl,ho,hn⟩:=hw
  have hes:(AC l).es=l:=rfl
  have hsrt:Srt l:=Md ho.hr
  have hput:=Kb e l
  have hlen:=CY e l
  have h9:(AU e l).length<=9:=by have:=ho.hl;omega
  have hsm:∀ x ∈ AU e l,Sm x.2:=fun x hx=>by
   rcases A00 hx with rfl|hx
   ·exact he
   ·exact ho.hs x hx
  have hps:=Ek (e:=e) hsrt
  have hw0:=c_with0 (AC l) e rfl (by rw[hes];exact hn) ho.hl ho.hs (by rw[hes];exact JP hsrt e.1) (by
   rw[hes,hput]
   split
   ·rename_i h8;exact E0 h8 hsm hps
   ·exact⟨E0 (by simp;omega) (fun x hx=>hsm x (A0W hx)) (List.Pairwise.take hps),E0 (by simp;omega) (fun x hx=>hsm x (A0V hx)) (List.Pairwise.drop hps)⟩)
  rw[hes,hput] at hw0
  refine⟨_,_,hw0,?_⟩
  have hpos:=Ds hn
  unfold Jt
  split
  ·rename_i h8
   refine⟨Cr (E0 h8 hsm hps) (fun hc=>hn (by have:=hlen.2;rw[hc] at this;simpa using this)),fun h4=>?_,.inl ⟨rfl,rfl⟩⟩
   simp only[GT.size,AC,GT.es,GT.kids,A0i,A1b] at h4|-;omega
  ·rename_i h8
   have e1:((AU e l).take 4).length=4:=by simp;omega
   have e2:4<=((AU e l).drop 4).length:=by simp;omega
   refine⟨Cr (E0 (by omega) (fun x hx=>hsm x (A0W hx)) (List.Pairwise.take hps)) (fun hc=>by rw[hc] at e1;simp at e1),fun _=>?_,.inr ⟨Cr (E0 (by simp;omega) (fun x hx=>hsm x (A0V hx)) (List.Pairwise.drop hps)) (fun hc=>by rw[hc] at e2;simp at e2),?_,?_,?_⟩⟩
   ·simp only[GT.size,AC,GT.es,GT.kids,A0i,A1b];omega
   ·simp only[GT.size,AC,GT.es,GT.kids,A0i,A1b];omega
   ·simp only[GT.size,AC,GT.es,GT.kids,A0i,A1b];omega
   ·exact A0R 4 (AU e l)
 |h+1,t,e,hw,he,hb=>by
  have d:=hw.d
  obtain⟨l,rfl,h2,h8,hk,hs⟩:=hw
  have hkids:(AF l).kids=l:=rfl
  have hfl:A8 (h+1) (AF l)=l.flatMap (A8 h):=rfl
  rw[hfl] at hb
  have hkw:∀ k ∈ l,Wf h k:=fun k hk'=>(hk k hk').1
  obtain⟨s1,s2,_,_⟩:=Gy (k:=e.1) (show 1<=l.length by omega) hkw hs
  obtain⟨p1,p2,p3⟩:=L0 (k:=e.1) (show 1<=l.length by omega) hkw hs
  have hmem:l.getD (AG l e.1) .nil ∈ l:=Ad s1
  have hkid:=hk _ hmem
  obtain⟨L,R,hrec,hwo⟩:=V2 h (l.getD (AG l e.1) .nil) e hkid.1 he (A0L (Hw hmem) hb)
  obtain⟨o1,o2,o3⟩:=hwo
  have hput:AU e (l.flatMap (A8 h))=(l.take (AG l e.1)).flatMap (A8 h)++AU e (A8 h (l.getD (AG l e.1) .nil))++(l.drop (AG l e.1+1)).flatMap (A8 h):=by
   rw[p3,A05,RX p1,Ms p2,A05]
  have hht:(AF l).height≠0:=by rw[d.height];simp;omega
  have hps:Srt (AU e (l.flatMap (A8 h))):=Ek hs
  have hpl:=(CY e (l.flatMap (A8 h))).1
  have hL0:L≠ .nil:=o1.d.nn
  generalize hi:AG l e.1=i at*
  rcases o3 with⟨rfl,o4⟩|⟨o4,o5,o6,o7⟩
  ·
   have hf:(l.set i L).flatMap (A8 h)=AU e (l.flatMap (A8 h)):=by
    rw[set3 l L s1,A0u,A0I,o4,hput,A05]
   have hkl:∀ k ∈ l.set i L,Wf h k/\4<=k.size:=fun k hk'=>by
    rcases List.mem_or_eq_of_mem_set hk' with hk'|rfl
    ·exact hk k hk'
    ·exact⟨o1,o2 hkid.2⟩
   have hok:OkK (l.set i L):=F3 (by simp;omega) (by simp;omega) (fun k hk'=>(hkl k hk').1) (by rw[hf];exact hps) (by rw[hf];omega)
   have hcall:=c_withI (AF l) e L hht (by rw[hkids];omega) (by rw[hkids];exact h8) (by rw[hkids];exact s2) (by rw[hkids,hi];exact s1) (by rw[hkids,hi];exact hrec) (by rw[hkids,hi];exact hok) hL0
   rw[hkids,hi] at hcall
   obtain⟨w1,w2,w3⟩:=DO (l:=l.set i L) (h:=h) (by simp;omega) (by simp;omega) hkl (by rw[hf];exact hps)
   refine⟨_,_,hcall,w1,fun h4=>?_,.inl ⟨rfl,by rw[w2,hf,hfl]⟩⟩
   rw[w3,A19]
   simpa[GT.size,AF,GT.es,GT.kids] using h4
  ·
   have hR0:R≠ .nil:=o4.d.nn
   have hl':Df (l.set i L) (i+1) R=l.take i++L::R::l.drop (i+1):=by
    have e1:(l.take i).length=i:=by simp;omega
    rw[set3 l L s1]
    simp only[Df]
    have e3:l.take i++L::l.drop (i+1)=(l.take i++[L])++l.drop (i+1):=by simp
    have e4:(l.take i++[L]).length=i+1:=by simp;omega
    rw[e3,List.take_left' e4,List.drop_left' e4]
    simp
   have hf:(Df (l.set i L) (i+1) R).flatMap (A8 h)=AU e (l.flatMap (A8 h)):=by
    rw[hl',A0u,A0I,A0I,hput,<-o7]
    simp only[A05]
   have hll:(Df (l.set i L) (i+1) R).length=l.length+1:=by rw[hl'];simp;omega
   have hkl:∀ k ∈ Df (l.set i L) (i+1) R,Wf h k/\4<=k.size:=fun k hk'=>by
    rw[hl'] at hk'
    simp only[A1a,A0o] at hk'
    rcases hk' with hk'|rfl|rfl|hk'
    ·exact hk k (A0W hk')
    ·exact⟨o1,o6⟩
    ·exact⟨o4,o5⟩
    ·exact hk k (A0V hk')
   generalize hq:Df (l.set i L) (i+1) R=q at*
   have hqs:Srt (q.flatMap (A8 h)):=by rw[hf];exact hps
   have hqb:(q.flatMap (A8 h)).length<=4611686018427387904:=by rw[hf];omega
   have ht1:q.flatMap (A8 h)=(q.take 4).flatMap (A8 h)++(q.drop 4).flatMap (A8 h):=by rw[<-A0u,A0R]
   have hsT:Srt ((q.take 4).flatMap (A8 h)):=by rw[ht1] at hqs;exact(A1k.1 hqs).1
   have hsD:Srt ((q.drop 4).flatMap (A8 h)):=by rw[ht1] at hqs;exact(A1k.1 hqs).2.1
   have hlb:=congrArg List.length ht1
   rw[A08] at hlb
   have hok:if q.length<=8 then OkK q else OkK (q.take 4)/\OkK (q.drop 4):=by
    split
    ·rename_i hq8;exact F3 (by omega) hq8 (fun k hk'=>(hkl k hk').1) hqs hqb
    ·exact⟨F3 (by simp;omega) (by simp;omega) (fun k hk'=>(hkl k (A0W hk')).1) hsT (by omega),F3 (by simp;omega) (by simp;omega) (fun k hk'=>(hkl k (A0V hk')).1) hsD (by omega)⟩
   have hcall:=c_withJ (AF l) e L R hht (by rw[hkids];omega) (by rw[hkids];exact h8) (by rw[hkids];exact s2) (by rw[hkids,hi];exact s1) (by rw[hkids,hi];exact hrec) hL0 hR0 q (by rw[hkids,hi];exact hq.symm) hok
   refine⟨_,_,hcall,?_⟩
   unfold Hc
   split
   ·rename_i hq8
    obtain⟨w1,w2,w3⟩:=DO (l:=q) (h:=h) (by omega) hq8 hkl hqs
    refine⟨w1,fun h4=>by rw[w3];simp[GT.size,AF,GT.es,GT.kids] at h4;omega,.inl ⟨rfl,by rw[w2,hf,hfl]⟩⟩
   ·obtain⟨w1,w2,w3⟩:=DO (l:=q.take 4) (h:=h) (by simp;omega) (by simp;omega) (fun k hk'=>hkl k (A0W hk')) hsT
    obtain⟨v1,v2,v3⟩:=DO (l:=q.drop 4) (h:=h) (by simp;omega) (by simp;omega) (fun k hk'=>hkl k (A0V hk')) hsD
    refine⟨w1,fun h4=>by rw[w3];simp;omega,.inr ⟨v1,by rw[v3];simp;omega,by rw[w3];simp;omega,?_⟩⟩
    rw[w2,v2,<-ht1,hf,hfl]
def MendTo(kids:List GT)(i j:Nat)(X Y:GT):Prop:=
 (Y=.nil->A4 prog 141 [.gref 1 kids.length,.val (.int .i64 i)] [(1,.grow (kids.map Ak) 1)] (.gref 0 (kids.length-1)) [(0,.grow ((C6 (kids.set j X) (j+1)).map Ak) 1)])/\
 (Y≠ .nil->A4 prog 141 [.gref 1 kids.length,.val (.int .i64 i)] [(1,.grow (kids.map Ak) 1)] (.gref 0 kids.length) [(0,.grow (((kids.set j X).set (j+1) Y).map Ak) 1)])
def Mends(h:Nat)(a b X Y:GT):Prop:=
 Wf h X/\4<=X.size/\((Y=.nil/\A8 h X=A8 h a++A8 h b)∨(Wf h Y/\4<=Y.size/\A8 h X++A8 h Y=A8 h a++A8 h b))/\
 ∀(kids:List GT) (i j:Nat),j=i-1->kids.length<=9->j+1<kids.length->i<kids.length->kids.getD j .nil=a->kids.getD (j+1) .nil=b->MendTo kids i j X Y
theorem Dc(l:List GE):(AC l).size=l.length:=by simp[GT.size,AC,GT.es,GT.kids]
theorem E7(l:List GT):(AF l).size=l.length:=by simp[GT.size,AF,GT.es,GT.kids]
theorem lastD{α:Type}(l:List α)(d:α)(h:0<l.length):l.take (l.length-1)++[l.getD (l.length-1) d]=l:=by
 have:=PP l d (show l.length-1<l.length by omega)
 have e:l.drop (l.length-1+1)=[]:=A0B (by omega)
 rw[e] at this
 exact this.symm
theorem headD{α:Type}(l:List α)(d:α)(h:0<l.length):l.getD 0 d::l.drop 1=l:=by
 have:=PP l d h
 simpa using this.symm
theorem mends0{l r:List GE}(ho:OkE l)(hr:OkE r)(hln:l≠[])(hrn:r≠[])(hs:Srt (l++r))(hz:(l.length=3/\4<=r.length)∨(r.length=3/\4<=l.length)):∃ X Y,Mends 0 (AC l) (AC r) X Y:=by
 have h8:=ho.hl
 have h8':=hr.hl
 have hsm:∀ e ∈ l++r,Sm e.2:=fun e he=>by rcases A1a.1 he with h|h;exact ho.hs e h;exact hr.hs e h
 have hea:(AC l).es=l:=rfl
 have heb:(AC r).es=r:=rfl
 by_cases h1:4<l.length
 ·have e1:=lastD l zM (by omega)
  have hcat:l.take (l.length-1)++(l.getD (l.length-1) zM::r)=l++r:=by
   conv=>rhs;rw[<-e1]
   simp
  have hsm':∀ e ∈ l.take (l.length-1)++(l.getD (l.length-1) zM::r),Sm e.2:=by rw[hcat];exact hsm
  have hs':=hs
  rw[<-hcat] at hs'
  have o1:OkE (l.take (l.length-1)):=E0 (by simp;omega) (fun e he=>hsm' e (A1E _ he)) (A1k.1 hs').1
  have o2:OkE (l.getD (l.length-1) zM::r):=E0 (by simp;omega) (fun e he=>hsm' e (A1A _ he)) (A1k.1 hs').2.1
  refine⟨AC (l.take (l.length-1)),AC (l.getD (l.length-1) zM::r),Cr o1 (fun h=>by have:=congrArg List.length h;simp at this;omega),by rw[Dc];simp;omega,.inr ⟨Cr o2 (by simp),by rw[Dc];simp;omega,hcat⟩,fun kids i j hj hn hjk hi ha hb=>⟨fun hY=>by simp[AC] at hY,fun hY=>?_⟩⟩
  have hp:=c_pairE1 l r h1 (by omega) (by omega) h8' o1 o2
  exact T6 kids i j _ _ hj hn hjk hi (by simp[AC]) hY (by rw[ha];rfl) (by rw[ha];exact hln) (by rw[ha];exact h8) (by rw[ha];exact ho.hs) (by rw[hb];exact hrn) (by rw[hb];exact h8') (by rw[hb];exact hr.hs) (by rw[ha,hb];exact hp)
 by_cases h2:4<r.length
 ·have e1:=headD r zM (by omega)
  have hcat:(l++[r.getD 0 zM])++r.drop 1=l++r:=by
   rw[A05,A1U,e1]
  have hsm':∀ e ∈ (l++[r.getD 0 zM])++r.drop 1,Sm e.2:=by rw[hcat];exact hsm
  have hs':=hs
  rw[<-hcat] at hs'
  have o1:OkE (l++[r.getD 0 zM]):=E0 (by simp;omega) (fun e he=>hsm' e (A1E _ he)) (A1k.1 hs').1
  have o2:OkE (r.drop 1):=E0 (by simp;omega) (fun e he=>hsm' e (A1A _ he)) (A1k.1 hs').2.1
  refine⟨AC (l++[r.getD 0 zM]),AC (r.drop 1),Cr o1 (by simp),by rw[Dc];simp;omega,.inr ⟨Cr o2 (fun h=>by have:=congrArg List.length h;simp at this;omega),by rw[Dc];simp;omega,hcat⟩,fun kids i j hj hn hjk hi ha hb=>⟨fun hY=>by simp[AC] at hY,fun hY=>?_⟩⟩
  have hp:=c_pairE2 l r (by omega) h2 (by omega) o1 o2
  exact T6 kids i j _ _ hj hn hjk hi (by simp[AC]) hY (by rw[ha];rfl) (by rw[ha];exact hln) (by rw[ha];exact h8) (by rw[ha];exact ho.hs) (by rw[hb];exact hrn) (by rw[hb];exact h8') (by rw[hb];exact hr.hs) (by rw[ha,hb];exact hp)
 ·have o1:OkE (l++r):=E0 (by simp;omega) hsm hs
  refine⟨AC (l++r),.nil,Cr o1 (by simp[hln]),by rw[Dc];simp;omega,.inl ⟨rfl,rfl⟩,fun kids i j hj hn hjk hi ha hb=>⟨fun _=>?_,fun hY=>absurd rfl hY⟩⟩
  have hp:=c_pairE3 l r (by omega) (by omega) (by omega) o1
  exact c_mendE1 kids i j _ hj hn hjk hi (by simp[AC]) (by rw[ha];rfl) (by rw[ha];exact hln) (by rw[ha];exact h8) (by rw[ha];exact ho.hs) (by rw[hb];exact hrn) (by rw[hb];exact h8') (by rw[hb];exact hr.hs) (by rw[ha,hb];exact hp)
theorem mends1{h:Nat}{l r:List GT}(hl:∀ k ∈ l,Wf h k/\4<=k.size)(hr:∀ k ∈ r,Wf h k/\4<=k.size)(h8:l.length<=8)(h8':r.length<=8)(hs:Srt (l.flatMap (A8 h)++r.flatMap (A8 h)))(hb:((l++r).flatMap (A8 h)).length<=4611686018427387904)(hz:(l.length=3/\4<=r.length)∨(r.length=3/\4<=l.length)):∃ X Y,Mends (h+1) (AF l) (AF r) X Y:=by
 have hall:∀ k ∈ l++r,Wf h k/\4<=k.size:=fun e he=>by rcases A1a.1 he with h|h;exact hl e h;exact hr e h
 rw[<-A0u] at hs
 have hka:(AF l).kids=l:=rfl
 have hkb:(AF r).kids=r:=rfl
 have hha:(AF l).height≠0:=by
  show(l.getD 0 .nil).height+1≠0
  have:=((hl _ (Ad (d:=GT.nil) (show 0<l.length by omega))).1).d.height
  rw[this];omega
 have part:∀ a b:List GT,a++b=l++r->2<=a.length->a.length<=8->2<=b.length->b.length<=8->OkK a/\OkK b/\(Wf (h+1) (DP a)/\A8 (h+1) (DP a)=a.flatMap (A8 h)/\(DP a).size=a.length)/\(Wf (h+1) (DP b)/\A8 (h+1) (DP b)=b.flatMap (A8 h)/\(DP b).size=b.length):=by
  intro a b he a2 a8 b2 b8
  rw[<-he] at hall hs hb
  rw[A0u] at hs hb
  rw[A08] at hb
  have pa:=A1k.1 hs
  exact⟨F3 (by omega) a8 (fun k hk=>(hall k (A1E _ hk)).1) pa.1 (by omega),F3 (by omega) b8 (fun k hk=>(hall k (A1A _ hk)).1) pa.2.1 (by omega),
   DO a2 a8 (fun k hk=>hall k (A1E _ hk)) pa.1,DO b2 b8 (fun k hk=>hall k (A1A _ hk)) pa.2.1⟩
 have hfl:∀ a b:List GT,a++b=l++r->a.flatMap (A8 h)++b.flatMap (A8 h)=A8 (h+1) (AF l)++A8 (h+1) (AF r):=fun a b he=>by
  rw[<-A0u,he,A0u];rfl
 by_cases h1:4<l.length
 ·have e1:=lastD l .nil (by omega)
  have hcat:l.take (l.length-1)++(l.getD (l.length-1) .nil::r)=l++r:=by
   conv=>rhs;rw[<-e1]
   simp
  obtain⟨o1,o2,⟨w1,w2,w3⟩,v1,v2,v3⟩:=part _ _ hcat (by simp;omega) (by simp;omega) (by simp;omega) (by simp;omega)
  refine⟨_,_,w1,by rw[w3];simp;omega,.inr ⟨v1,by rw[v3];simp;omega,by rw[w2,v2];exact hfl _ _ hcat⟩,fun kids i j hj hn hjk hi ha hb=>⟨fun hY=>absurd hY v1.d.nn,fun hY=>?_⟩⟩
  have hp:=c_pairK1 l r h1 (by omega) (by omega) h8' o1 o2
  exact T5 kids i j _ _ hj hn hjk hi w1.d.nn hY (by rw[ha];exact hha) (by rw[ha,hka];omega) (by rw[ha];exact h8) (by rw[hb,hkb];omega) (by rw[hb];exact h8') (by rw[ha,hb];exact hp)
 by_cases h2:4<r.length
 ·have e1:=headD r .nil (by omega)
  have hcat:(l++[r.getD 0 .nil])++r.drop 1=l++r:=by
   rw[A05,A1U,e1]
  obtain⟨o1,o2,⟨w1,w2,w3⟩,v1,v2,v3⟩:=part _ _ hcat (by simp;omega) (by simp;omega) (by simp;omega) (by simp;omega)
  refine⟨_,_,w1,by rw[w3];simp;omega,.inr ⟨v1,by rw[v3];simp;omega,by rw[w2,v2];exact hfl _ _ hcat⟩,fun kids i j hj hn hjk hi ha hb=>⟨fun hY=>absurd hY v1.d.nn,fun hY=>?_⟩⟩
  have hp:=c_pairK2 l r (by omega) (by omega) h2 (by omega) o1 o2
  exact T5 kids i j _ _ hj hn hjk hi w1.d.nn hY (by rw[ha];exact hha) (by rw[ha,hka];omega) (by rw[ha];exact h8) (by rw[hb,hkb];omega) (by rw[hb];exact h8') (by rw[ha,hb];exact hp)
 ·rw[A0u,A08] at hb
  have o1:OkK (l++r):=F3 (by simp;omega) (by simp;omega) (fun k hk=>(hall k hk).1) hs (by rw[A0u,A08];omega)
  obtain⟨w1,w2,w3⟩:=DO (l:=l++r) (h:=h) (by simp;omega) (by simp;omega) hall hs
  refine⟨_,.nil,w1,by rw[w3];simp;omega,.inl ⟨rfl,by rw[w2,A0u];rfl⟩,fun kids i j hj hn hjk hi ha hb=>⟨fun _=>?_,fun hY=>absurd rfl hY⟩⟩
  have hp:=c_pairK3 l r (by omega) (by omega) (by omega) (by omega) o1
  exact c_mendK1 kids i j _ hj hn hjk hi w1.d.nn (by rw[ha];exact hha) (by rw[ha,hka];omega) (by rw[ha];exact h8) (by rw[hb,hkb];omega) (by rw[hb];exact h8') (by rw[ha,hb];exact hp)
theorem mends:∀ (h:Nat) (a b:GT),Wf h a->Wf h b->Srt (A8 h a++A8 h b)->(A8 h a++A8 h b).length<=4611686018427387904->(a.size=3/\4<=b.size)∨(b.size=3/\4<=a.size)->∃ X Y,Mends h a b X Y
 |0,a,b,ha,hb,hs,_,hz=>by
  obtain⟨l,rfl,ho,hn⟩:=ha
  obtain⟨r,rfl,hr,hrn⟩:=hb
  rw[Dc,Dc] at hz
  exact mends0 ho hr hn hrn hs hz
 |h+1,a,b,ha,hb,hs,hbd,hz=>by
  obtain⟨l,rfl,h2,h8,hk,hs1⟩:=ha
  obtain⟨r,rfl,h2',h8',hk',hs1'⟩:=hb
  rw[E7,E7] at hz
  exact mends1 hk hk' h8 h8' hs (by rw[A0u];exact hbd) hz
def WoR(k:ByteArray):Nat->GT->GT->Prop
 |0,t,t'=>∃ l,t'=AC l/\OkE l/\l=BE k (A8 0 t)/\t.size<=l.length+1
 |h+1,t,t'=>(Wf (h+1) t'/\A8 (h+1) t'=BE k (A8 (h+1) t)/\t.size<=t'.size+1)∨(t.size=2/\Wf h t'/\A8 h t'=BE k (A8 (h+1) t))
theorem Mo{k:ByteArray}{l:List GE}(h:∀ x ∈ l,x.1≠k):BE k l=l:=A1Q.2 fun y hy=>by simpa using h y hy
theorem Sl(k:ByteArray)(a b:List GE):CG k (a++b)=(CG k a ||CG k b):=List.any_append
theorem Pg{k:ByteArray}{l:List GE}(h:∀ x ∈ l,x.1≠k):CG k l=false:=by
 unfold CG;rw[List.any_eq_false];intro x hx;simpa using h x hx
theorem RL{k:ByteArray}:∀ {l:List GE},Srt l->l.length<=(BE k l).length+1
 |[],_=>by simp
 |x::l,h=>by
  unfold BE
  by_cases hx:x.1=k
  ·rw[A26 (by simpa using hx)]
   have:l.filter (fun x=>decide (x.1≠k))=l:=Mo fun y hy hyk=>by
    have:=h.head y hy
    rw[hx,hyk,F6] at this;cases this
   rw[this];simp
  ·rw[A25 (by simpa using hx)]
   have:=RL (k:=k) h.tail
   unfold BE at this
   simp only[A0g];omega
theorem getD_set_ne{α:Type}{l:List α}{i j:Nat}{x d:α}(h:i≠j):(l.set i x).getD j d=l.getD j d:=by
 rw[A03,A03,List.getElem?_set_ne h]
theorem Sy{α:Type}{l:List α}{i:Nat}{x d:α}(h:i<l.length):(l.set i x).getD i d=x:=by
 rw[A03,List.getElem?_set_self h];rfl
theorem split4{α:Type}(l:List α)(d:α){j:Nat}(h:j+1<l.length):l=l.take j++l.getD j d::l.getD (j+1) d::l.drop (j+2):=by
 have h1:=PP l d (show j<l.length by omega)
 have h2:l.drop (j+1)=l.getD (j+1) d::l.drop (j+2):=BI (by omega)
 rw[h2] at h1
 exact h1
theorem set_set{α:Type}(l:List α)(X Y:α){j:Nat}(h:j+1<l.length):(l.set j X).set (j+1) Y=l.take j++X::Y::l.drop (j+2):=by
 apply A1z
 intro n
 rw[List.getElem?_set]
 by_cases h1:j+1=n
 ·subst h1
  have e:(l.take j).length=j:=by simp;omega
  rw[if_pos rfl,A19,if_pos h,A0r (by omega),e]
  simp
 ·rw[if_neg h1,List.getElem?_set]
  by_cases h2:j=n
  ·subst h2
   have e:(l.take j).length=j:=by simp;omega
   rw[if_pos rfl,if_pos (by omega),A0r (by omega),e]
   simp
  ·rw[if_neg h2]
   have e:(l.take j).length=j:=by simp;omega
   by_cases h3:n<j
   ·rw[A0x (by omega),A1C,if_pos h3]
   ·rw[A0r (by omega),e]
    have e2:n-j=(n-j-2)+2:=by omega
    rw[e2,A13,A13,A1d]
    congr 1;omega
theorem cut_set{α:Type}(l:List α)(X:α){j:Nat}(h:j+1<l.length):C6 (l.set j X) (j+1)=l.take j++X::l.drop (j+2):=by
 unfold C6
 rw[set3 l X (show j<l.length by omega)]
 have e3:l.take j++X::l.drop (j+1)=(l.take j++[X])++l.drop (j+1):=by simp
 have e4:(l.take j++[X]).length=j+1:=by simp;omega
 rw[e3,List.take_left' e4,List.drop_append,e4]
 have e5:(l.take j++[X]).drop (j+1+1)=[]:=A0B (by rw[e4];omega)
 rw[e5,List.drop_drop]
 have e6:j+1+1-(j+1)+(j+1)=j+2∨j+1+(j+1+1-(j+1))=j+2:=by omega
 simp
theorem M6:∀ (h:Nat) (t:GT) (k:ByteArray),Wf h t->(A8 h t).length<=1099511627776->
  (CG k (A8 h t)=false/\A3 prog 90 [Ag t,.val (.string k)] (.tup [Ag t,.val (.bool false)]))∨
  (CG k (A8 h t)=true/\∃ t',A3 prog 90 [Ag t,.val (.string k)] (.tup [Ag t',.val (.bool true)])/\WoR k h t t')
 |0,t,k,hw,hb=>by
  obtain⟨l,rfl,ho,hn⟩:=hw
  have hes:(AC l).es=l:=rfl
  have hsrt:Srt l:=Md ho.hr
  have hh:=Qw k l hsrt
  have hfl:A8 0 (AC l)=l:=rfl
  rw[hfl]
  cases hk:CG k l with
  |false=>
   rw[hk] at hh
   exact .inl ⟨rfl,c_wo0 (AC l) k rfl hn ho.hl ho.hs (by rw[hes];exact JP hsrt k) hh⟩
  |true=>
   rw[hk] at hh
   have hc:=LX k l hsrt hh
   have hok:OkE (BE k l):=E0 (A0L (A0Y _ _) ho.hl) (fun e he=>ho.hs e (A11.1 he).1) (Hk hsrt)
   have hcall:=c_wo1 (AC l) k rfl ho.hl ho.hs (by rw[hes];exact JP hsrt k) hh (GC hh) (by rw[hes,hc];exact hok)
   rw[hes,hc] at hcall
   exact .inr ⟨rfl,_,hcall,_,rfl,hok,rfl,by rw[Dc];exact RL hsrt⟩
 |h+1,t,k,hw,hb=>by
  have d:=hw.d
  obtain⟨l,rfl,h2,h8,hk,hs⟩:=hw
  have hkids:(AF l).kids=l:=rfl
  have hfl:A8 (h+1) (AF l)=l.flatMap (A8 h):=rfl
  rw[hfl] at hb|-
  have hkw:∀ k ∈ l,Wf h k:=fun k hk'=>(hk k hk').1
  obtain⟨s1,s2,_,_⟩:=Gy (k:=k) (show 1<=l.length by omega) hkw hs
  obtain⟨p1,p2,p3⟩:=L0 (k:=k) (show 1<=l.length by omega) hkw hs
  have hmem:l.getD (AG l k) .nil ∈ l:=Ad s1
  have hkid:=hk _ hmem
  have hht:(AF l).height≠0:=by rw[d.height];simp;omega
  have n1:∀ x ∈ (l.take (AG l k)).flatMap (A8 h),x.1≠k:=fun x hx=>Es (p1 x hx)
  have n2:∀ x ∈ (l.drop (AG l k+1)).flatMap (A8 h),x.1≠k:=fun x hx=>(Es (p2 x hx)).symm
  have hhas:CG k (l.flatMap (A8 h))=CG k (A8 h (l.getD (AG l k) .nil)):=by
   rw[p3,Sl,Sl,Pg n1,Pg n2,Bool.false_or,A23]
  have hrem:BE k (l.flatMap (A8 h))=(l.take (AG l k)).flatMap (A8 h)++BE k (A8 h (l.getD (AG l k) .nil))++(l.drop (AG l k+1)).flatMap (A8 h):=by
   rw[p3,RM,RM,Mo n1,Mo n2]
  have hrs:Srt (BE k (l.flatMap (A8 h))):=Hk hs
  have hrl:(BE k (l.flatMap (A8 h))).length<=(l.flatMap (A8 h)).length:=A0Y _ _
  rw[hhas]
  rcases M6 h (l.getD (AG l k) .nil) k hkid.1 (A0L (Hw hmem) hb) with⟨q1,q2⟩|⟨q1,K,q2,q3⟩
  ·exact .inl ⟨q1,c_wo2 (AF l) k _ hht (by rw[hkids];omega) h8 s2 s1 q2⟩
  refine .inr ⟨q1,?_⟩
  have hK:Wf h K/\A8 h K=BE k (A8 h (l.getD (AG l k) .nil))/\3<=K.size:=by
   have hz4:=hkid.2
   cases h with
   |zero=>
    obtain⟨m,rfl,m1,m2,m3⟩:=q3
    refine⟨Cr m1 (fun hm=>?_),m2,by rw[Dc];omega⟩
    rw[hm] at m3;simp only[A0i] at m3;omega
   |succ h=>
    rcases q3 with⟨m1,m2,m3⟩|⟨m1,_⟩
    ·exact⟨m1,m2,by omega⟩
    ·omega
  obtain⟨k1,k2,k3⟩:=hK
  have hk8:=k1.d.size
  generalize hi:AG l k=i at*
  have hf:(l.set i K).flatMap (A8 h)=BE k (l.flatMap (A8 h)):=by
   rw[set3 l K s1,A0u,A0I,k2,hrem,A05]
  by_cases h4:4<=K.size
  ·have hkl:∀ x ∈ l.set i K,Wf h x/\4<=x.size:=fun x hx=>by
    rcases List.mem_or_eq_of_mem_set hx with hx|rfl
    ·exact hk x hx
    ·exact⟨k1,h4⟩
   have hok:OkK (l.set i K):=F3 (by simp;omega) (by simp;omega) (fun x hx=>(hkl x hx).1) (by rw[hf];exact hrs) (by rw[hf];omega)
   have hcall:=c_wo3 (AF l) k K hht (by rw[hkids];omega) h8 s2 (by rw[hkids,hi];exact s1) (by rw[hkids,hi];exact q2) k1.d.nn h4 hk8 (by rw[hkids,hi];exact hok)
   rw[hkids,hi] at hcall
   obtain⟨w1,w2,w3⟩:=DO (l:=l.set i K) (h:=h) (by simp;omega) (by simp;omega) hkl (by rw[hf];exact hrs)
   exact⟨_,hcall,.inl ⟨w1,by rw[w2,hf,hfl],by rw[w3,A19,E7];omega⟩⟩
  ·
   have hz3:K.size=3:=by omega
   have hjl:i-1+1<l.length:=by omega
   have hlen:(l.set i K).length=l.length:=by simp
   generalize hq:l.set i K=q at*
   have hqk:∀ n,n<q.length->Wf h (q.getD n .nil)/\(n≠i->4<=(q.getD n .nil).size)/\(n=i->(q.getD n .nil).size=3):=fun n hn=>by
    rw[<-hq]
    by_cases hni:n=i
    ·subst hni;rw[Sy s1];exact⟨k1,fun h=>absurd rfl h,fun _=>hz3⟩
    ·rw[getD_set_ne (fun h=>hni h.symm)]
     have:=hk _ (Ad (d:=GT.nil) (show n<l.length by omega))
     exact⟨this.1,fun _=>this.2,fun h=>absurd h hni⟩
   generalize hj:i-1=j at*
   have hqs:Srt (q.flatMap (A8 h)):=by rw[hf];exact hrs
   have e4:=split4 q .nil (show j+1<q.length by omega)
   have hfq:q.flatMap (A8 h)=(q.take j).flatMap (A8 h)++(A8 h (q.getD j .nil)++A8 h (q.getD (j+1) .nil))++(q.drop (j+2)).flatMap (A8 h):=by
    conv=>lhs;rw[e4]
    simp only[A0u,A0I,A05]
   have hq1:=hqs
   rw[hfq] at hq1
   have hmid:=(A1k.1 (A1k.1 hq1).1).2.1
   have hlb:=congrArg List.length hfq
   rw[hf] at hlb
   simp only[A08] at hlb
   obtain⟨a1,a2,a3⟩:=hqk j (by omega)
   obtain⟨b1,b2,b3⟩:=hqk (j+1) (by omega)
   obtain⟨X,Y,x1,x2,x3,x4⟩:=mends h (q.getD j .nil) (q.getD (j+1) .nil) a1 b1 hmid (by rw[A08];omega) (by
    by_cases hij:i=j
    ·exact .inl ⟨a3 hij.symm,b2 (by omega)⟩
    ·exact .inr ⟨b3 (by omega),a2 (fun h=>hij h.symm)⟩)
   obtain⟨c1,c2⟩:=x4 q i j hj.symm (by omega) (by omega) (by omega) rfl rfl
   have hmemT:∀ x ∈ q.take j,Wf h x/\4<=x.size:=fun x hx=>by
    obtain⟨n,n1,n2,rfl⟩:=Jh (d:=GT.nil) hx
    have:=hqk n n2
    exact⟨this.1,this.2.1 (by omega)⟩
   have hmemD:∀ x ∈ q.drop (j+2),Wf h x/\4<=x.size:=fun x hx=>by
    obtain⟨n,n1,n2,rfl⟩:=Ji (d:=GT.nil) hx
    have:=hqk n n2
    exact⟨this.1,this.2.1 (by omega)⟩
   rcases x3 with⟨rfl,x5⟩|⟨y1,y2,x5⟩
   ·
    have hcut:=cut_set q X (show j+1<q.length by omega)
    have hf2:(q.take j++X::q.drop (j+2)).flatMap (A8 h)=BE k (l.flatMap (A8 h)):=by
     rw[A0u,A0I,x5,<-hf,hfq]
     simp only[A05]
    have hkl:∀ x ∈ q.take j++X::q.drop (j+2),Wf h x/\4<=x.size:=fun x hx=>by
     simp only[A1a,A0o] at hx
     rcases hx with hx|rfl|hx
     ·exact hmemT x hx
     ·exact⟨x1,x2⟩
     ·exact hmemD x hx
    have hl2:(q.take j++X::q.drop (j+2)).length=l.length-1:=by simp;omega
    have hm:=c1 rfl
    rw[hcut] at hm
    generalize q.take j++X::q.drop (j+2)=z at*
    have hok:OkK z:=F3 (by omega) (by omega) (fun x hx=>(hkl x hx).1) (by rw[hf2];exact hrs) (by rw[hf2];omega)
    have hcall:=c_wo4 (AF l) k K hht (by rw[hkids];omega) h8 s2 (by rw[hkids,hi];exact s1) (by rw[hkids,hi];exact q2) k1.d.nn (by omega) z (by omega) hok (by
     rw[hkids,hi,hq]
     have e5:q.length=l.length:=hlen
     rw[e5,<-hl2] at hm
     exact hm)
    refine⟨_,hcall,?_⟩
    by_cases hz2:2<=z.length
    ·obtain⟨w1,w2,w3⟩:=DO (l:=z) (h:=h) hz2 (by omega) hkl (by rw[hf2];exact hrs)
     exact .inl ⟨w1,by rw[w2,hf2,hfl],by rw[w3,E7];omega⟩
    ·have hz1:z.length=1:=by omega
     match z,hz1,hkl,hf2 with
     |[x],_,hkl,hf2=>
      refine .inr ⟨by rw[E7];simp at hl2;omega,(hkl x (by simp)).1,?_⟩
      rw[hfl,<-hf2]
      simp[DP]
   ·
    have hss:=set_set q X Y (show j+1<q.length by omega)
    have hf2:(q.take j++X::Y::q.drop (j+2)).flatMap (A8 h)=BE k (l.flatMap (A8 h)):=by
     rw[A0u,A0I,A0I,<-hf,hfq,<-x5]
     simp only[A05]
    have hkl:∀ x ∈ q.take j++X::Y::q.drop (j+2),Wf h x/\4<=x.size:=fun x hx=>by
     simp only[A1a,A0o] at hx
     rcases hx with hx|rfl|rfl|hx
     ·exact hmemT x hx
     ·exact⟨x1,x2⟩
     ·exact⟨y1,y2⟩
     ·exact hmemD x hx
    have hl2:(q.take j++X::Y::q.drop (j+2)).length=l.length:=by simp;omega
    have hm:=c2 y1.d.nn
    rw[hss] at hm
    generalize q.take j++X::Y::q.drop (j+2)=z at*
    have hok:OkK z:=F3 (by omega) (by omega) (fun x hx=>(hkl x hx).1) (by rw[hf2];exact hrs) (by rw[hf2];omega)
    have hcall:=c_wo4 (AF l) k K hht (by rw[hkids];omega) h8 s2 (by rw[hkids,hi];exact s1) (by rw[hkids,hi];exact q2) k1.d.nn (by omega) z (by omega) hok (by
     rw[hkids,hi,hq]
     have e5:q.length=l.length:=hlen
     have e6:q.length=z.length:=by omega
     rw[e5,hl2.symm] at hm
     rw[<-hl2]
     exact hm)
    obtain⟨w1,w2,w3⟩:=DO (l:=z) (h:=h) (by omega) (by omega) hkl (by rw[hf2];exact hrs)
    exact⟨_,hcall,.inl ⟨w1,by rw[w2,hf2,hfl],by rw[w3,E7];omega⟩⟩
theorem Dd(t:GT):Ag t=.val (.pointer none)∨∃ cs,Ag t=.ptr cs 0:=by
 cases t with
 |nil=>exact .inl At
 |node=>exact .inr ⟨_,AZ ..⟩
theorem c_get1(t:GT)(k:ByteArray)(i:Nat)(hi:i<t.es.length)(hs:∀ e ∈ t.es,Sm e.2):A3 prog 131 [.val (.int .i64 i),.ptr [Ag t] 0,.ptr [.val (.string k)] 0] (.val (.bool (!ltS (t.es.getD i zM).1 k))):=by
 have hE:=QO t i hi hs
 have oT:=A5 t
 refine Zf [] func131 rfl ntmps131 results131 ?_
 (have z:=Za @Ao oT;(try push_cast[z])<;>repeat' (first|apply Zi<;>intro _|refine Zc hE ?_|exact Zo|with_reducible apply Za)<;>try push_cast[z])
theorem Ux(v:GV):Av (CQ v)=true:=by
 have h:=Bh v
 rw[A0] at h
 rw[CQ]
 simpa[Av,D.pure] using h
theorem QD(v:GV):(CQ v).length=6:=rfl
theorem Xe(v:GV):(CQ v).all BF=true:=rfl
theorem Ty(v:GV):(CQ v).take 6=CQ v:=rfl
attribute [push_cast] Ux QD Xe Ty
theorem c_EntryT(t:GT)(i:Nat)(hi:i<t.es.length)(hs:∀ e ∈ t.es,Sm e.2):A3 prog 132 [Ag t,.val (.int .i64 i)] (.tup [.agg (.val (.string (t.es.getD i zM).1)::CQ (t.es.getD i zM).2),.val (.bool true)]):=by
 cases t with
 |nil=>exact absurd hi (by simp[GT.es])
 |node e k hh c f l th=>
  simp only[GT.es] at hi hs|-
  have e1:=AV hi
  have hr:=M1 (e.getD i zM).2 (hs _ (Ad hi))
  have h0:decide ((i:Int)<0)=false:=by simp
  have h1:decide ((e.length:Int)<=i)=false:=by simp;omega
  rw[AZ]
  refine Zf [] func132 rfl ntmps132 results132 ?_
  (have z:=Za e1<|Za @Ao<|Za h0 h1;(try push_cast[z])<;>repeat' (first|apply Zi<;>intro _|refine Zc (hr ..) ?_|exact Zo|with_reducible apply Za)<;>try push_cast[z])
  all_goals first|omega|skip
theorem Vp:loL z6 (CQ zV):=AJ z6
theorem VP(t:GT)(k:ByteArray)(h0:t.height=0)(h8:t.es.length<=8)(hk0:t.kids=[])(hs:∀ e ∈ t.es,Sm e.2)(hm:∀ i j,i<=j->j<t.es.length->ltS (t.es.getD i zM).1 k=false->ltS (t.es.getD j zM).1 k=false):
  A3 prog 87 [Ag t,.val (.string k)] (.tup [.agg (CQ (if C5 t.es k then(t.es.getD (AB t.es k) zM).2 else zV)),.val (.bool (C5 t.es k))]):=by
 have hH:=Bx t
 rw[h0] at hH
 have hsz:t.size=t.es.length:=by simp[GT.size,hk0]
 have hz:=La t (by omega)
 rw[hsz] at hz
 have oT:=A5 t
 have hS:=Kn t.es.length 131 [.ptr [Ag t] 0,.ptr [.val (.string k)] 0] (fun i=>!ltS (t.es.getD i zM).1 k) (by simp only[Av,D.pure,oT,A0X]) (by omega) (fun i hi=>c_get1 t k i hi hs) (fun i j h h' h2=>by have:=hm i j h h';revert this h2;cases ltS (t.es.getD i zM).1 k<;>simp)
 change A3 _ _ _ (.val (.int .i64 (AB t.es k))) at hS
 rcases A0v (AB t.es k) t.es.length with hp|hp
 ·have hE:=c_EntryT t (AB t.es k) hp hs
  by_cases hkk:(t.es.getD (AB t.es k) zM).1=k
  ·have hh:C5 t.es k=true:=by unfold C5;rw[decide_eq_true hp,decide_eq_true hkk];rfl
   have b1:decide ((t.es.getD (AB t.es k) zM).1=k)=true:=decide_eq_true hkk
   rw[hh]
   simp only[if_true]
   generalize AB t.es k=q at*
   generalize t.es.getD q zM=e at*
   rcases Dd t with hf|⟨cs,hf⟩
   all_goals
    rw[hf] at hH hz hS hE oT|-
    try simp only[D.pure] at oT
    refine Zf [0,8] func87 rfl ntmps87 results87 ?_
    (have z:=Za @Ao<|Za oT b1;(try push_cast[z])<;>repeat' (first|apply Zi<;>intro _|refine Zc hH ?_|refine Zc (hz ..) ?_|refine Zc hS ?_|refine Zc hE ?_|exact Zo|with_reducible apply Za)<;>try push_cast[z])
  ·have hh:C5 t.es k=false:=by unfold C5;rw[decide_eq_false hkk,Bool.and_false]
   have b1:decide ((t.es.getD (AB t.es k) zM).1=k)=false:=decide_eq_false hkk
   rw[hh]
   simp only[if_false,A0q]
   generalize AB t.es k=q at*
   generalize t.es.getD q zM=e at*
   rcases Dd t with hf|⟨cs,hf⟩
   all_goals
    rw[hf] at hH hz hS hE oT|-
    try simp only[D.pure] at oT
    refine Zf [0,8] func87 rfl ntmps87 results87 ?_
    (have z:=Za @Ao<|Za oT b1;(try push_cast[z])<;>repeat' (first|apply Zi<;>intro _|refine Zc hH ?_|refine Zc (hz ..) ?_|refine Zc hS ?_|refine Zc hE ?_|exact Zo|with_reducible apply Za)<;>try push_cast[z])
    all_goals exact Vp
 ·have hh:C5 t.es k=false:=by unfold C5;rw[decide_eq_false (by omega),Bool.false_and]
  have hE:=c_Entry0 t (AB t.es k) hp (by have:=Q6 t.es k;omega)
  rw[hh]
  simp only[if_false,A0q]
  generalize AB t.es k=q at*
  rcases Dd t with hf|⟨cs,hf⟩
  all_goals
   rw[hf] at hH hz hS hE oT|-
   try simp only[D.pure] at oT
   refine Zf [0,8] func87 rfl ntmps87 results87 ?_
   (have z:=Za @Ao oT;(try push_cast[z])<;>repeat' (first|apply Zi<;>intro _|refine Zc hH ?_|refine Zc (hz ..) ?_|refine Zc hS ?_|refine Zc hE ?_|exact Zo|with_reducible apply Za)<;>try push_cast[z])
   all_goals exact Vp
theorem c_getKT(t:GT)(k:ByteArray)(h0:0<t.height)(h1:0<t.kids.length)(h8:t.kids.length<=8)(hm:∀ i j,i<=j->j<t.kids.length->ltS k (t.kids.getD i .nil).first=true->ltS k (t.kids.getD j .nil).first=true)(hi:AG t.kids k<t.kids.length)(v:GV)(b:Bool)
  (hrec:A3 prog 87 [Ag (t.kids.getD (AG t.kids k) .nil),.val (.string k)] (.tup [.agg (CQ v),.val (.bool b)])):
  A3 prog 87 [Ag t,.val (.string k)] (.tup [.agg (CQ v),.val (.bool b)]):=by
 have hH:=Bx t
 have b0:decide (0<t.height)=true:=decide_eq_true h0
 have hK:=Ev t h1 (by omega)
 have hw:=Ed t.kids k hm (by omega)
 have ea:=B9 hi
 have oT:=A5 t
 rcases Dd t with hf|⟨cs,hf⟩
 all_goals
  rw[hf] at hH hK oT|-
  try simp only[D.pure] at oT
  refine Zf [0,8] func87 rfl ntmps87 results87 ?_
  (have z:=Za b0<|Za ea<|Za @Ak.eq_1 oT;(try push_cast[z])<;>repeat' (first|apply Zi<;>intro _|refine Zc hH ?_|refine Zs [] hK ?_|refine Zq (hw ..) ?_ ?_|refine Zc (hrec ..) ?_|exact Zo|with_reducible apply Za)<;>try push_cast[z])
  all_goals first|omega|(simp;done)|exact AJ _|skip
def AH(o:Option GV):GV:=o.getD zV
theorem VA:∀ (h:Nat) (t:GT) (k:ByteArray),Wf h t->(A8 h t).length<=1099511627776->A3 prog 87 [Ag t,.val (.string k)] (.tup [.agg (CQ (AH (Ah k (A8 h t)))),.val (.bool (Ah k (A8 h t)).isSome)])
 |0,t,k,hw,hb=>by
  obtain⟨l,rfl,ho,hn⟩:=hw
  have hsrt:Srt l:=Md ho.hr
  have hg:=Qz k l hsrt
  have h:=VP (AC l) k rfl ho.hl rfl ho.hs (JP hsrt k)
  have hfl:A8 0 (AC l)=l:=rfl
  have hes:(AC l).es=l:=rfl
  rw[hes] at h
  rw[hfl,<-hg]
  cases hh:C5 l k with
  |true=>rw [hh] at h;exact h
  |false=>rw [hh] at h;exact h
 |h+1,t,k,hw,hb=>by
  have d:=hw.d
  obtain⟨l,rfl,h2,h8,hk,hs⟩:=hw
  have hkids:(AF l).kids=l:=rfl
  have hfl:A8 (h+1) (AF l)=l.flatMap (A8 h):=rfl
  rw[hfl] at hb|-
  have hkw:∀ k ∈ l,Wf h k:=fun k hk'=>(hk k hk').1
  obtain⟨s1,s2,_,_⟩:=Gy (k:=k) (show 1<=l.length by omega) hkw hs
  obtain⟨p1,p2,p3⟩:=L0 (k:=k) (show 1<=l.length by omega) hkw hs
  have hmem:l.getD (AG l k) .nil ∈ l:=Ad s1
  have n1:((l.take (AG l k)).flatMap (A8 h)).find? (fun x=>decide (x.1=k))=none:=List.find?_eq_none.2 fun x hx=>by simpa using Es (p1 x hx)
  have n2:((l.drop (AG l k+1)).flatMap (A8 h)).find? (fun x=>decide (x.1=k))=none:=List.find?_eq_none.2 fun x hx=>by simpa using(Es (p2 x hx)).symm
  have hg:Ah k (l.flatMap (A8 h))=Ah k (A8 h (l.getD (AG l k) .nil)):=by
   rw[p3]
   simp only[Ah,List.find?_append,n1,n2,Option.none_or,Option.or_none]
  rw[hg]
  exact c_getKT (AF l) k (by rw[d.height];omega) (by rw[hkids];omega) h8 s2 s1 _ _ (VA h _ k (hkw _ hmem) (A0L (Hw hmem) hb))
def DF(t:GT)(l:List GE):Prop:=(t=.nil/\l=[])∨∃ h,Wf h t/\A8 h t=l
abbrev Be(t:GT):D:=.agg [Ag t]
theorem DF.srt{t:GT}{l:List GE}(h:DF t l):Srt l:=by
 rcases h with⟨_,rfl⟩|⟨h,hw,rfl⟩
 ·exact List.Pairwise.nil
 ·exact hw.d.srt
theorem DF.count{t:GT}{l:List GE}(h:DF t l):t.count=l.length:=by
 rcases h with⟨rfl,rfl⟩|⟨h,hw,rfl⟩
 ·rfl
 ·exact hw.d.count
theorem c_getNT(k:ByteArray):A3 prog 87 [Ag .nil,.val (.string k)] (.tup [.agg (CQ zV),.val (.bool false)]):=
 VP .nil k rfl (by simp[GT.es]) rfl (by simp[GT.es]) (by simp[GT.es])
theorem NK{t:GT}{l:List GE}(h:DF t l)(hb:l.length<=1099511627776)(k:ByteArray):A3 prog 53 [Be t,.val (.string k)] (.tup [.agg (CQ (AH (Ah k l))),.val (.bool (Ah k l).isSome)]):=by
 have hg:A3 prog 87 [Ag t,.val (.string k)] (.tup [.agg (CQ (AH (Ah k l))),.val (.bool (Ah k l).isSome)]):=by
  rcases h with⟨rfl,rfl⟩|⟨h,hw,rfl⟩
  ·exact c_getNT k
  ·exact VA h t k hw hb
 generalize AH (Ah k l)=v at*
 generalize(Ah k l).isSome=b at*
 have oT:=A5 t
 refine Zf [0] func53 rfl ntmps53 results53 ?_
 (have z:=oT;(try push_cast[z])<;>repeat' (first|apply Zi<;>intro _|refine Zc (hg ..) ?_|exact Zo|with_reducible apply Za)<;>try push_cast[z])
 all_goals first|exact AJ _|exact An _|skip
theorem Ro{t:GT}{l:List GE}(h:DF t l)(hb:l.length<=1099511627776)(k:ByteArray):A3 prog 53 [Be t,.val (.string k)] (.tup [.agg (Aa (AH (Ah k l))),.val (.bool (Ah k l).isSome)]):=(NK h hb k).res (lo_T _ _)
theorem c_Put1(t:GT)(k:ByteArray)(v:GV)(L:GT)(hc:A3 prog 88 [Ag t,.agg (Ac (k,v))] (.tup [Ag L,Ag .nil])):
  A3 prog 54 [Be t,.val (.string k),.agg (Aa v)] (Be L):=by
 have oT:=A5 t
 have oL:=A5 L
 rw[Ao,At] at hc
 simp only at hc
 simp only[Be]
 rcases Dd L with hf|⟨cs,hf⟩
 all_goals
  rw[hf] at hc oL|-
  try simp only[D.pure] at oL
  refine Zf [0,4] func54 rfl ntmps54 results54 ?_
  (have z:=Za oT oL;(try push_cast[z])<;>repeat' (first|apply Zi<;>intro _|refine Zc (hc ..) ?_|exact Zo|with_reducible apply Za)<;>try push_cast[z])
  all_goals first|exact AJ _|exact An _|skip
theorem c_Put2(t:GT)(k:ByteArray)(v:GV)(L R:GT)(hR:R≠ .nil)(hok:OkK [L,R])(hc:A3 prog 88 [Ag t,.agg (Ac (k,v))] (.tup [Ag L,Ag R])):
  A3 prog 54 [Be t,.val (.string k),.agg (Aa v)] (Be (DP [L,R])):=by
 have oT:=A5 t
 have hI:=DR [L,R] (by simp) hok
 have hL:L≠ .nil:=(hok.hn 0 (by simp)).1
 have oI:=A5 (DP [L,R])
 obtain⟨cs,hcs⟩:=C3 hR
 obtain⟨ds,hds⟩:=C3 hL
 have oR:=A5 R
 have oL:=A5 L
 simp only[A0k,A0S,Ak] at hI
 rw[Ao] at hc
 simp only at hc
 rw[hcs] at hc hI oR
 rw[hds] at hc hI oL
 simp only[D.pure] at oR oL
 simp only[Be]
 rcases Dd (DP [L,R]) with hf|⟨es,hf⟩
 all_goals
  rw[hf] at hI oI|-
  try simp only[D.pure] at oI
  refine Zf [0,4] func54 rfl ntmps54 results54 ?_
  (have z:=Za oT<|Za oR<|Za oL oI;(try push_cast[z])<;>repeat' (first|apply Zi<;>intro _|refine Zc (hc ..) ?_|refine Zg hI ?_ ?_|exact Zo|with_reducible apply Za)<;>try push_cast[z])
  all_goals first|exact AJ _|exact An _|skip
theorem Y0{t:GT}{l:List GE}(h:DF t l)(hb:l.length<=1099511627775)(k:ByteArray)(v:GV)(hv:Sm v):∃ t',A3 prog 54 [Be t,.val (.string k),.agg (Aa v)] (Be t')/\DF t' (AU (k,v) l):=by
 rcases h with⟨rfl,rfl⟩|⟨h,hw,rfl⟩
 ·have hok:OkE [(k,v)]:=E0 (by simp) (fun e he=>by rw[A0d.1 he];exact hv) (List.pairwise_singleton _ _)
  exact⟨_,c_Put1 .nil k v _ (c_withN .nil (k,v) rfl rfl hv),.inr ⟨0,Cr hok (by simp),rfl⟩⟩
 ·obtain⟨L,R,hc,hwo⟩:=V2 h t (k,v) hw hv (by omega)
  obtain⟨o1,o2,o3⟩:=hwo
  have hlen:=(CY (k,v) (A8 h t)).1
  have hps:=Ek (e:=(k,v)) hw.d.srt
  rcases o3 with⟨rfl,o4⟩|⟨o4,o5,o6,o7⟩
  ·exact⟨_,c_Put1 t k v L hc,.inr ⟨h,o1,o4⟩⟩
  ·have hf:[L,R].flatMap (A8 h)=AU (k,v) (A8 h t):=by simpa using o7
   have hk:∀ x ∈ [L,R],Wf h x/\4<=x.size:=fun x hx=>by
    simp only[A0o,A1i,or_false] at hx
    rcases hx with rfl|rfl
    ·exact⟨o1,o6⟩
    ·exact⟨o4,o5⟩
   have hok:OkK [L,R]:=F3 (by simp) (by simp) (fun x hx=>(hk x hx).1) (by rw[hf];exact hps) (by rw[hf];omega)
   obtain⟨w1,w2,w3⟩:=DO (l:=[L,R]) (h:=h) (by simp) (by simp) hk (by rw[hf];exact hps)
   exact⟨_,c_Put2 t k v L R o4.d.nn hok hc,.inr ⟨h+1,w1,by rw[w2,hf]⟩⟩
theorem QP(t t':GT)(k:ByteArray)(b:Bool)(hn:t'.count≠0)(hc:A3 prog 90 [Ag t,.val (.string k)] (.tup [Ag t',.val (.bool b)])):
  A3 prog 55 [Be t,.val (.string k)] (.tup [Be t',.val (.bool b)]):=by
 have oT:=A5 t
 have oT':=A5 t'
 have hC:=LZ t'
 have b0:(t'.count==0)=false:=by simpa using hn
 simp only[Be]
 rcases Dd t' with hf|⟨es,hf⟩
 all_goals
  rw[hf] at hc hC oT'|-
  try simp only[D.pure] at oT'
  refine Zf [0] func55 rfl ntmps55 results55 ?_
  (have z:=Za oT<|Za oT' b0;(try push_cast[z])<;>repeat' (first|apply Zi<;>intro _|refine Zc (hc ..) ?_|refine Zc hC ?_|exact Zo|with_reducible apply Za)<;>try push_cast[z])
  all_goals first|exact AJ _|exact An _|skip
theorem c_Del2(t t':GT)(k:ByteArray)(b:Bool)(hn:t'.count=0)(hc:A3 prog 90 [Ag t,.val (.string k)] (.tup [Ag t',.val (.bool b)])):
  A3 prog 55 [Be t,.val (.string k)] (.tup [Be .nil,.val (.bool b)]):=by
 have oT:=A5 t
 have oT':=A5 t'
 have hC:=LZ t'
 have b0:(t'.count==0)=true:=by simpa using hn
 simp only[Be,At]
 refine Zf [0] func55 rfl ntmps55 results55 ?_
 (have z:=Za oT<|Za oT' b0;(try push_cast[z])<;>repeat' (first|apply Zi<;>intro _|refine Zc (hc ..) ?_|refine Zc hC ?_|exact Zo|with_reducible apply Za)<;>try push_cast[z])
 all_goals first|exact AJ _|exact An _|skip
theorem Y1{t:GT}{l:List GE}(h:DF t l)(hb:l.length<=1099511627775)(k:ByteArray):∃ t',A3 prog 55 [Be t,.val (.string k)] (.tup [Be t',.val (.bool (CG k l))])/\DF t' (BE k l):=by
 rcases h with⟨rfl,rfl⟩|⟨h,hw,rfl⟩
 ·exact⟨_,c_Del2 .nil .nil k false rfl (c_wo0n .nil k rfl rfl),.inl ⟨rfl,rfl⟩⟩
 ·have d:=hw.d
  rcases M6 h t k hw (by omega) with⟨q1,q2⟩|⟨q1,t',q2,q3⟩
  ·rw[q1,KG q1]
   exact⟨_,QP t t k false (by rw[d.count];have:=Ds d.ne;omega) q2,.inr ⟨h,hw,rfl⟩⟩
  ·rw[q1]
   cases h with
   |zero=>
    obtain⟨m,rfl,m1,m2,m3⟩:=q3
    by_cases hm:m=[]
    ·subst hm
     exact⟨_,c_Del2 t _ k true rfl q2,.inl ⟨rfl,m2.symm⟩⟩
    ·refine⟨_,QP t _ k true ?_ q2,.inr ⟨0,Cr m1 hm,m2⟩⟩
     show(m.length:Int)≠0
     have:=Ds hm;omega
   |succ h=>
    rcases q3 with⟨m1,m2,m3⟩|⟨_,m1,m2⟩
    ·exact⟨_,QP t _ k true (by rw[m1.d.count];have:=Ds m1.d.ne;omega) q2,.inr ⟨h+1,m1,m2⟩⟩
    ·exact⟨_,QP t _ k true (by rw[m1.d.count];have:=Ds m1.d.ne;omega) q2,.inr ⟨h,m1,m2⟩⟩
theorem Bb(k:ByteArray)(x:GE)(l:List GE):Ah k (x::l)=if x.1=k then some x.2 else Ah k l:=by
 unfold Ah
 rw[List.find?_cons]
 by_cases h:x.1=k<;>simp [h]
theorem CH{k:ByteArray}:∀ {l:List GE},(∀ y ∈ l,ltS k y.1=true)->Ah k l=none
 |[],_=>rfl
 |x::l,h=>by
  rw[Bb,if_neg (fun e=>Es (h x (A0C ..)) e.symm)]
  exact CH fun y hy=>h y (A0l _ hy)
theorem EU(e:GE)(k:ByteArray):∀ l:List GE,Ah k (AU e l)=if e.1=k then some e.2 else Ah k l
 |[]=>by rw[AU,Bb]
 |x::l=>by
  rw[AU]
  split
  ·rename_i h
   rw[Bb,Bb,EU e k l]
   by_cases h1:x.1=k
   ·rw[if_pos h1,if_neg (fun e2=>by rw[h1,e2,F6] at h;cases h),if_pos h1]
   ·rw[if_neg h1,if_neg h1]
  ·split
   ·rename_i h h2
    rw[Bb,Bb,h2]
    by_cases h1:e.1=k<;>simp [h1]
   ·rw[Bb]
theorem ET(a k:ByteArray):∀ l:List GE,Ah k (BE a l)=if a=k then none else Ah k l
 |[]=>by by_cases h:a=k<;>simp [BE,Ah,h]
 |x::l=>by
  have ih:=ET a k l
  unfold BE at ih|-
  rw[List.filter_cons]
  by_cases h:x.1=a
  ·subst h
   simp only[ne_eq,not_true_eq_false,decide_false,A0q,if_false]
   rw[ih,Bb]
   by_cases h1:x.1=k<;>simp [h1]
  ·simp only[ne_eq,h,not_false_eq_true,decide_true,if_true]
   rw[Bb,Bb,ih]
   by_cases h1:x.1=k
   ·rw[if_pos h1,if_pos h1,if_neg (fun e=>h (by rw[h1,e]))]
   ·rw[if_neg h1,if_neg h1]
theorem F9(k:ByteArray):∀ l:List GE,CG k l=(Ah k l).isSome
 |[]=>rfl
 |x::l=>by
  have ih:=F9 k l
  unfold CG at ih|-
  rw[Bb,List.any_cons,ih]
  by_cases h:x.1=k<;>simp [h]
theorem LQ:∀ {a b:List GE},Srt a->Srt b->(∀ k,Ah k a=Ah k b)->a=b
 |[],[],_,_,_=>rfl
 |[],y::b,_,_,h=>by have:=h y.1;rw[Bb,if_pos rfl] at this;cases this
 |x::a,[],_,_,h=>by have:=h x.1;rw[Bb,if_pos rfl] at this;cases this
 |x::a,y::b,ha,hb,h=>by
  have hx:=h x.1
  have hy:=h y.1
  rw[Bb,if_pos rfl,Bb] at hx
  rw[Bb,Bb,if_pos rfl] at hy
  have hxy:x.1=y.1:=by
   by_cases h1:y.1=x.1
   ·exact h1.symm
   ·rw[if_neg h1] at hx
    rw[if_neg (fun e=>h1 e.symm)] at hy
    have m1:ltS y.1 x.1=true:=by
     by_cases h2:ltS y.1 x.1=true
     ·exact h2
     ·have h3:=KV (by simpa using h2) h1
      rw[CH fun z hz=>C9 h3 (hb.head z hz)] at hx
      cases hx
    rw[CH fun z hz=>C9 m1 (ha.head z hz)] at hy
    cases hy
  have hv:x.2=y.2:=by rw[if_pos hxy.symm] at hx;simpa using hx
  have hxe:x=y:=Prod.ext hxy hv
  subst hxe
  refine congrArg _ (LQ ha.tail hb.tail fun k=>?_)
  by_cases hk:x.1=k
  ·subst hk
   rw[CH fun z hz=>ha.head z hz,CH fun z hz=>hb.head z hz]
  ·have:=h k
   rwa[Bb,Bb,if_neg hk,if_neg hk] at this
def lk(es:List CE)(k:ByteArray):Option C8:=(es.find? fun e=>decide (e.1=k)).map (·.2.2)
theorem Ef(k:ByteArray)(x:CE)(l:List CE):lk (x::l) k=if x.1=k then some x.2.2 else lk l k:=by
 unfold lk
 rw[List.find?_cons]
 by_cases h:x.1=k<;>simp [h]
theorem G5(k:ByteArray):∀ (es:List CE) (i:Nat),(BQ k es i).map (·.2)=lk es k
 |[],_=>rfl
 |e::es,i=>by
  rw[BQ,Ef]
  by_cases h:k=e.1
  ·rw[if_pos h,if_pos h.symm];rfl
  ·rw[if_neg h,if_neg (fun e=>h e.symm),G5 k es (i+1)]
theorem SW(k:ByteArray):∀ (es:List CE) (i j:Nat) (s:C8),BQ k es i=some (j,s)->∃ n,es[j-i]? =some (k,n,s)/\i<=j
 |[],_,_,_,h=>by cases h
 |e::es,i,j,s,h=>by
  rw[BQ] at h
  split at h
  ·rename_i hk
   simp only[A04,A0a] at h
   obtain⟨rfl,rfl⟩:=h
   exact⟨e.2.1,by rw[Nat.sub_self,hk];rfl,A0e _⟩
  ·obtain⟨n,h1,h2⟩:=SW k es (i+1) j s h
   refine⟨n,?_,by omega⟩
   have:j-i=(j-(i+1))+1:=by omega
   rw[this,A13];exact h1
structure Do(es:List CE)(ck:Nat):Prop where
 keys:(es.map (·.1)).Nodup
 births:(es.map (·.2.1)).Nodup
 lt:∀ e ∈ es,e.2.1<ck
 sm:∀ e ∈ es,Sm e.2.2.2/\(e.2.2.1=false->e.2.2.2=zV)/\e.1.size<=64
theorem Qm{es:List CE}{k:ByteArray}(h:k ∉ es.map (·.1)):lk es k=none:=by
 unfold lk
 rw[Option.map_eq_none_iff,List.find?_eq_none]
 intro e he
 have:e.1≠k:=fun h1=>h (A0j.2 ⟨e,he,h1⟩)
 simpa using this
theorem Uk{es:List CE}{k:ByteArray}{s:C8}(h:lk es k=some s):∃ n,(k,n,s) ∈ es:=by
 unfold lk at h
 rw[A1v] at h
 obtain⟨e,he,rfl⟩:=h
 have h1:=List.find?_some he
 have h2:=A1V he
 simp only[decide_eq_true_eq] at h1
 exact⟨e.2.1,by rw[<-h1];exact h2⟩
theorem KX:∀ {es:List CE} {k:ByteArray} {n:Nat} {s:C8},(es.map (·.1)).Nodup->(k,n,s) ∈ es->lk es k=some s
 |x::es,k,n,s,hn,h=>by
  rw[Ef]
  rcases A0o.1 h with h|h
  ·subst h;rw[if_pos rfl]
  ·rw[A0k,A1h] at hn
   rw[if_neg (fun e=>hn.1 (A0j.2 ⟨_,h,e.symm⟩)),KX hn.2 h]
theorem GK{es:List CE}{k:ByteArray}(h:BQ k es 0=none):lk es k=none:=by rw[<-G5 k es 0,h];rfl
theorem GJ{es:List CE}{k:ByteArray}{i:Nat}{s:C8}(h:BQ k es 0=some (i,s)):lk es k=some s/\∃ n,es[i]? =some (k,n,s):=by
 refine⟨by rw[<-G5 k es 0,h];rfl,?_⟩
 obtain⟨n,h1,_⟩:=SW k es 0 i s h
 exact⟨n,h1⟩
theorem lk_key{es:List CE}{k:ByteArray}(h:lk es k=none):k ∉ es.map (·.1):=fun hm=>by
 obtain⟨e,he,h1⟩:=A0j.1 hm
 unfold lk at h
 rw[Option.map_eq_none_iff,List.find?_eq_none] at h
 exact h e he (by simpa using h1)
theorem WV(a b:List CE)(k:ByteArray):lk (a++b) k=(lk a k).or (lk b k):=by
 unfold lk
 rw[List.find?_append]
 cases List.find? (fun e=>decide (e.1=k)) a<;>rfl
theorem P9{k:ByteArray}{s s0:C8}:∀ {es:List CE} {i n:Nat},(es.map (·.1)).Nodup->es[i]? =some (k,n,s0)->∀ k',lk (es.modify i fun e=>(e.1,e.2.1,s)) k'=if k=k' then some s else lk es k'
 |x::es,0,n,hn,h,k'=>by
  simp only[A0P,A04] at h
  subst h
  rw[List.modify_zero_cons,Ef,Ef]
  by_cases h1:k=k'<;>simp [h1]
 |x::es,i+1,n,hn,h,k'=>by
  rw[A13] at h
  rw[A0k,A1h] at hn
  rw[List.modify_succ_cons,Ef,Ef,P9 hn.2 h k']
  by_cases h1:x.1=k'
  ·rw[if_pos h1,if_pos h1,if_neg (fun e=>hn.1 (A0j.2 ⟨_,A1L h,by rw[h1];exact e⟩))]
  ·rw[if_neg h1,if_neg h1]
theorem Sf{k:ByteArray}{s0:C8}:∀ {es:List CE} {i n:Nat},(es.map (·.1)).Nodup->es[i]? =some (k,n,s0)->∀ k',lk (es.eraseIdx i) k'=if k=k' then none else lk es k'
 |x::es,0,n,hn,h,k'=>by
  simp only[A0P,A04] at h
  subst h
  rw[List.eraseIdx_cons_zero,Ef]
  rw[A0k,A1h] at hn
  by_cases h1:k=k'
  ·subst h1;rw[if_pos rfl,Qm hn.1]
  ·simp[h1]
 |x::es,i+1,n,hn,h,k'=>by
  rw[A13] at h
  rw[A0k,A1h] at hn
  rw[List.eraseIdx_cons_succ,Ef,Ef,Sf hn.2 h k']
  by_cases h1:x.1=k'
  ·rw[if_pos h1,if_pos h1,if_neg (fun e=>hn.1 (A0j.2 ⟨_,A1L h,by rw[h1];exact e⟩))]
  ·rw[if_neg h1,if_neg h1]
theorem Qn{es:List CE}{ck:Nat}(h:Do es ck)(k:ByteArray)(s:C8)(k':ByteArray):lk (JG es ck k s).1 k'=if k=k' then some s else lk es k':=by
 unfold JG
 cases hf:BQ k es 0 with
 |none=>
  rw[WV]
  by_cases h1:k=k'
  ·subst h1;rw[GK hf,if_pos rfl];simp[lk]
  ·rw[if_neg h1];simp[lk,h1]
 |some p=>
  obtain⟨i,s0⟩:=p
  obtain⟨_,n,h1⟩:=GJ hf
  exact P9 h.keys h1 k'
theorem lk_cdel{es:List CE}{ck:Nat}(h:Do es ck)(k:ByteArray)(k':ByteArray):lk (UH es k) k'=if k=k' then none else lk es k':=by
 unfold UH
 cases hf:BQ k es 0 with
 |none=>
  by_cases h1:k=k'
  ·subst h1;rw[if_pos rfl];exact GK hf
  ·rw[if_neg h1]
 |some p=>
  obtain⟨i,s0⟩:=p
  obtain⟨_,n,h1⟩:=GJ hf
  exact Sf h.keys h1 k'
theorem Hr(es:List CE)(i:Nat)(s:C8):(es.modify i fun e=>(e.1,e.2.1,s)).map (·.1)=es.map (·.1)/\(es.modify i fun e=>(e.1,e.2.1,s)).map (·.2.1)=es.map (·.2.1):=by
 constructor<;>
 ·apply A1z
  intro j
  simp only[A0A,A1K]
  by_cases h:i=j
  ·subst h;cases es[i]? <;>simp
  ·simp[h]
theorem MD{es:List CE}{i:Nat}{s:C8}{e:CE}(h:e ∈ es.modify i fun e=>(e.1,e.2.1,s)):∃ x ∈ es,e.1=x.1/\e.2.1=x.2.1/\(e=x∨e.2.2=s):=by
 obtain⟨j,hj,rfl⟩:=A16.1 h
 rw[List.length_modify] at hj
 refine⟨es[j],A18 hj,?_⟩
 rw[List.getElem_modify]
 split<;>simp
theorem Do.set{es:List CE}{ck:Nat}(h:Do es ck){k:ByteArray}{s:C8}(hs:Sm s.2/\(s.1=false->s.2=zV)/\k.size<=64):Do (JG es ck k s).1 (JG es ck k s).2:=by
 unfold JG
 cases hf:BQ k es 0 with
 |none=>
  have hk:=lk_key (GK hf)
  refine⟨?_,?_,fun e he=>?_,fun e he=>?_⟩
  ·simp only[A12,A0k,A0S]
   rw[List.nodup_append]
   refine⟨h.keys,by simp,fun a ha b hb e=>?_⟩
   rw[A0d] at hb
   subst hb;subst e;exact hk ha
  ·simp only[A12,A0k,A0S]
   rw[List.nodup_append]
   refine⟨h.births,by simp,fun a ha b hb e=>?_⟩
   rw[A0d] at hb
   subst hb;subst e
   obtain⟨x,hx,h1⟩:=A0j.1 ha
   have:=h.lt x hx
   omega
  ·rcases A1a.1 he with he|he
   ·exact Nat.lt_succ_of_lt (h.lt e he)
   ·rw[A0d.1 he];exact Nat.lt_succ_self _
  ·rcases A1a.1 he with he|he
   ·exact h.sm e he
   ·rw[A0d.1 he];exact hs
 |some p=>
  obtain⟨i,s0⟩:=p
  obtain⟨_,n,h1⟩:=GJ hf
  have hk:k.size<=64:=hs.2.2
  refine⟨by rw[(Hr es i s).1];exact h.keys,by rw[(Hr es i s).2];exact h.births,fun e he=>?_,fun e he=>?_⟩
  ·obtain⟨x,hx,_,h3,_⟩:=MD he
   rw[h3];exact h.lt x hx
  ·obtain⟨x,hx,h2,_,h4⟩:=MD he
   rcases h4 with rfl|h4
   ·exact h.sm _ hx
   ·rw[h4,h2];exact⟨hs.1,hs.2.1,(h.sm x hx).2.2⟩
theorem Do.del{es:List CE}{ck:Nat}(h:Do es ck)(k:ByteArray):Do (UH es k) ck:=by
 unfold UH
 cases hf:BQ k es 0 with
 |none=>exact h
 |some p=>
  obtain⟨i,s0⟩:=p
  have hsub:(es.eraseIdx i).Sublist es:=List.eraseIdx_sublist ..
  exact⟨List.Sublist.nodup (hsub.map _) h.keys,List.Sublist.nodup (hsub.map _) h.births,fun e he=>h.lt e (hsub.subset he),fun e he=>h.sm e (hsub.subset he)⟩
def FI(es:List CE)(l:List GE):List GE:=es.foldl (fun a e=>if e.2.2.1 then AU (e.1,e.2.2.2) a else BE e.1 a) l
theorem Da:∀ (es:List CE) {l:List GE},Srt l->Srt (FI es l)
 |[],_,h=>h
 |e::es,l,h=>Da es (l:=if e.2.2.1 then AU (e.1,e.2.2.2) l else BE e.1 l) (by split;exact Ek h;exact Hk h)
def LL(s:C8):Option GV:=if s.1 then some s.2 else none
theorem Cz(k:ByteArray):∀ (es:List CE) (l:List GE),(es.map (·.1)).Nodup->Ah k (FI es l)=match lk es k with|some s=>LL s|none=>Ah k l
 |[],l,_=>rfl
 |e::es,l,h=>by
  rw[A0k,A1h] at h
  show Ah k (FI es (if e.2.2.1 then AU (e.1,e.2.2.2) l else BE e.1 l))=_
  rw[Cz k es _ h.2,Ef]
  by_cases h1:e.1=k
  ·subst h1
   rw[Qm h.1,if_pos rfl]
   simp only[LL]
   cases e.2.2.1
   ·simp only[A0q,if_false];rw[ET,if_pos rfl]
   ·simp only[if_true];rw[EU,if_pos rfl]
  ·rw[if_neg h1]
   cases lk es k with
   |some s=>rfl
   |none=>
    simp only
    cases e.2.2.1
    ·simp only[A0q,if_false];rw[ET,if_neg h1]
    ·simp only[if_true];rw[EU,if_neg h1]
theorem Lh{a b:List CE}{l:List GE}(hl:Srt l)(ha:(a.map (·.1)).Nodup)(hb:(b.map (·.1)).Nodup)(h:∀ k,lk a k=lk b k):FI a l=FI b l:=
 LQ (Da a hl) (Da b hl) fun k=>by rw[Cz k a l ha,Cz k b l hb,h k]
theorem VZ{es:List CE}{ck:Nat}(h:Do es ck){l:List GE}(hl:Srt l){k:ByteArray}{s:C8}(hs:Sm s.2/\(s.1=false->s.2=zV)/\k.size<=64):FI (JG es ck k s).1 l=if s.1 then AU (k,s.2) (FI es l) else BE k (FI es l):=by
 have hv:=Da es hl
 refine LQ (Da _ hl) (by split;exact Ek hv;exact Hk hv) fun k'=>?_
 rw[Cz k' _ l (h.set hs).keys,Qn h]
 by_cases h1:k=k'
 ·subst h1
  rw[if_pos rfl]
  simp only[LL]
  cases s.1
  ·simp only[A0q,if_false];rw[ET,if_pos rfl]
  ·simp only[if_true];rw[EU,if_pos rfl]
 ·rw[if_neg h1]
  rw[<-Cz k' es l h.keys]
  cases s.1
  ·simp only[A0q,if_false];rw[ET,if_neg h1]
  ·simp only[if_true];rw[EU,if_neg h1]
def OV.es(o:OV):List CE:=(o.chg.getD ([],0)).1
def OV.ck(o:OV):Nat:=(o.chg.getD ([],0)).2
def OV.view(o:OV)(l:List GE):List GE:=FI o.es l
structure XT(o:OV)(l:List GE):Prop where
 tr:DF o.below l
 ch:Do o.es o.ck
theorem VQ(o:OV)(l:List GE)(h:XT o l)(hb:l.length<=1099511627776)(k:ByteArray):
  A4 prog 120 [.ref 1 0 0 3,.val (.string k)] (ovH o) (.tup [.agg (CQ (AH (Ah k (o.view l)))),.val (.bool (Ah k (o.view l)).isSome)]) (ovH o):=by
 have hT:=NK h.tr hb k
 have hv:=Cz k o.es l h.ch.keys
 simp only[Be] at hT
 have hch:=h.ch
 unfold OV.view
 obtain⟨b,c,u⟩:=o
 have oB:=A5 b
 cases c with
 |none=>
  simp only[OV.es,Option.getD_none] at hv|-
  rw[hv]
  simp only[lk,List.find?_nil,Option.map_none]
  generalize AH (Ah k l)=v at*
  generalize(Ah k l).isSome=x at*
  rcases u with _|u<;>simp only[KL,JA]
  all_goals
   refine Zd [] func120 rfl ntmps120 results120 ?_
   (have z:=oB;(try push_cast[z])<;>repeat' (first|apply Zi<;>intro _|refine Zc hT ?_|exact Zo|with_reducible apply Za)<;>try push_cast[z])
   all_goals first|exact AJ _|exact An _|skip
   all_goals(apply Zw<;>push_cast)
 |some c=>
  obtain⟨es,ck⟩:=c
  simp only[OV.es,OV.ck,A0D] at hv hch|-
  cases hf:BQ k es 0 with
  |none=>
   rw[GK hf] at hv
   rw[hv]
   simp only
   generalize AH (Ah k l)=v at*
   generalize(Ah k l).isSome=x at*
   rcases u with _|u<;>simp only[Ho,Dw]
   all_goals
    refine Zd [] func120 rfl ntmps120 results120 ?_
    (have z:=Za oB<|Za @AO hf;(try push_cast[z])<;>repeat' (first|apply Zi<;>intro _|refine Zc hT ?_|exact Zo|with_reducible apply Za)<;>try push_cast[z])
    all_goals first|exact AJ _|exact An _|skip
    all_goals(apply Zw<;>push_cast)
  |some p=>
   obtain⟨i,s⟩:=p
   obtain⟨h1,n,h2⟩:=GJ hf
   have hsm:=hch.sm _ (A1L h2)
   rw[h1] at hv
   rw[hv]
   have hC:=M1 s.2 hsm.1
   have ho:AH (LL s)=s.2:=by
    unfold LL
    cases hs:s.1 with
    |true=>rfl
    |false=>exact (hsm.2.1 hs).symm
   have ho2:(LL s).isSome=s.1:=by unfold LL;cases s.1<;>rfl
   simp only[ho,ho2]
   obtain⟨sb,sv⟩:=s
   simp only at hC
   rcases u with _|u<;>simp only[Ho,Dw]
   all_goals
    refine Zd [] func120 rfl ntmps120 results120 ?_
    (have z:=Za oB<|Za @AO<|Za hf @CA;(try push_cast[z])<;>repeat' (first|apply Zi<;>intro _|refine Zc hC ?_|exact Zo|with_reducible apply Za)<;>try push_cast[z])
    all_goals first|exact AJ _|exact An _|skip
    all_goals(apply Zw<;>push_cast)
theorem UP(o:OV)(l:List GE)(h:XT o l)(hb:l.length<=1099511627776)(k:ByteArray):
  A4 prog 120 [.ref 1 0 0 3,.val (.string k)] (ovH o) (.tup [.agg (Aa (AH (Ah k (o.view l)))),.val (.bool (Ah k (o.view l)).isSome)]) (ovH o):=(VQ o l h hb k).res (lo_T _ _)
def OV.us(o:OV):List Bt:=o.und.getD []
theorem Sm_zV:Sm zV:=.mk _ _ _ _ [] [] (by simp) (by simp) (by simp) (by simp) (by decide) (by decide) (by simp)
theorem c_ODel0(o:OV)(l:List GE)(h:XT o l)(hb:l.length<=1099511627776)(k:ByteArray)(hh:CG k (o.view l)=false):
  A4 prog 78 [.ref 1 0 0 3,.val (.string k)] (ovH o) (.val (.bool false)) (ovH o):=by
 have hG:=UP o l h hb k
 rw[<-F9,hh] at hG
 generalize AH (Ah k (o.view l))=v at*
 obtain⟨b,c,u⟩:=o
 have oB:=A5 b
 rcases c with _|⟨es,ck⟩<;>rcases u with _|u<;>simp only[KL,Ho,JA,Dw] at hG|-
 all_goals
  refine Zd [] func78 rfl ntmps78 results78 ?_
  (have z:=oB;(try push_cast[z])<;>repeat' (first|apply Zi<;>intro _|refine Zs [(1,1),(2,2),(4,4)] hG ?_|exact Zo|with_reducible apply Za)<;>try push_cast[z])
  apply Zr [(2,34),(4,36)] rfl<;>push_cast
theorem Wd(o:OV)(k:ByteArray)(s:C8):∃ es ck u,o.step k s=⟨o.below,some (es,ck),some u⟩:=⟨_,_,_,rfl⟩
theorem c_ODel1(o:OV)(l:List GE)(h:XT o l)(hb:l.length<=1099511627776)(k:ByteArray)(hh:CG k (o.view l)=true)(hn:o.us.length<1073741824):
  A4 prog 78 [.ref 1 0 0 3,.val (.string k)] (ovH o) (.val (.bool true)) (ovH (o.step k (false,zV))):=by
 have hG:=UP o l h hb k
 have hS:=(c_step o k (false,zV) hn).args (ds':=[.ref 1 0 0 3,.val (.string k),.agg (.val (.bool false)::z6)]) ⟨An _,An _,⟨An _,ZW⟩,trivial⟩
 rw[<-F9,hh] at hG
 generalize AH (Ah k (o.view l))=v at*
 obtain⟨es',ck',u',hst⟩:=Wd o k (false,zV)
 rw[hst] at hS|-
 obtain⟨b,c,u⟩:=o
 have oB:=A5 b
 simp only[z6] at hS
 rcases c with _|⟨es,ck⟩<;>rcases u with _|u<;>simp only[KL,Ho,JA,Dw] at hG hS|-
 all_goals
  refine Zd [] func78 rfl ntmps78 results78 ?_
  (have z:=oB;(try push_cast[z])<;>repeat' (first|apply Zi<;>intro _|refine Zs [(1,1),(2,2),(4,4)] hG ?_|refine Zs [(1,1),(2,34),(4,36)] hS ?_|exact Zo|with_reducible apply Za)<;>try push_cast[z])
  apply Zr [(2,130),(4,132)] rfl<;>push_cast
end Go.Ab
namespace Go.Proofs
open Go.Maps Go.Proofs Go.Proofs.Tryz Go.RowKit Go.Shelf Go.Sort
def Tryz.keysA_ren:Go.Shelf.Ren:=⟨fun|7=>52|10=>86|n=>n,fun|23=>112|26=>9|3=>123|28=>120|0=>0|27=>119|33=>134|4=>4|n=>n,fun|n=>n⟩
theorem Tryz.keysA:Go.Proofs.SlLaysZ.n7 prog Tryz.keysA_ren:= {
 mixed:=by kernel_rfl
 f7:=⟨f52.name,by decide,func52.trans (congrArg some (by kernel_rfl))⟩
 f10:=⟨f86.name,by decide,func86.trans (congrArg some (by kernel_rfl))⟩
 t0:=underlying0
 a0:=isAgg0
 z0:=sizeOf0
 v0:=zeroValue0
 t4:=underlying4
 a4:=isAgg4
 z4:=sizeOf4
 v4:=zeroValue4
 t23:=underlying112
 a23:=isAgg112
 z23:=sizeOf112
 v23:=zeroValue112
 t26:=underlying9
 a26:=isAgg9
 z26:=sizeOf9
 v26:=zeroValue9
 t27:=underlying119
 a27:=isAgg119
 z27:=sizeOf119
 v27:=zeroValue119
 t28:=underlying120
 a28:=isAgg120
 z28:=sizeOf120
 v28:=zeroValue120
 t33:=underlying134
 a33:=isAgg134
 z33:=sizeOf134
 v33:=zeroValue134}
def Tryz.sortedA_ren:Go.Shelf.Ren:=⟨fun|6=>51|8=>84|9=>85|11=>124|13=>126|12=>125|23=>172|24=>173|14=>163|15=>164|16=>165|17=>166|18=>167|19=>168|20=>169|21=>170|22=>171|25=>206|26=>207|27=>208|28=>209|29=>210|30=>211|31=>237|n=>n,fun|26=>9|28=>120|24=>117|0=>0|3=>3|37=>190|48=>229|50=>23|4=>4|40=>223|39=>222|45=>165|5=>5|9=>9|51=>260|55=>264|57=>284|58=>40|33=>134|n=>n,fun|n=>n⟩
theorem Tryz.sortedA:Go.Proofs.SlLaysZ.n6 prog Tryz.sortedA_ren:= {
 mixed:=by kernel_rfl
 f6:=⟨f51.name,by decide,func51.trans (congrArg some (by kernel_rfl))⟩
 f8:=⟨f84.name,by decide,func84.trans (congrArg some (by kernel_rfl))⟩
 f11:=⟨f124.name,by decide,func124.trans (congrArg some (by kernel_rfl))⟩
 t0:=underlying0
 a0:=isAgg0
 z0:=sizeOf0
 v0:=zeroValue0
 t24:=underlying117
 a24:=isAgg117
 z24:=sizeOf117
 v24:=zeroValue117
 t26:=underlying9
 a26:=isAgg9
 z26:=sizeOf9
 v26:=zeroValue9
 t28:=underlying120
 a28:=isAgg120
 z28:=sizeOf120
 v28:=zeroValue120
 i26:=by kernel_rfl}
def Tryz.sortA_ren:Go.Shelf.Ren:=⟨fun|6=>85|8=>126|9=>125|19=>172|20=>173|21=>163|22=>164|23=>165|24=>166|25=>167|26=>168|27=>169|28=>170|29=>171|36=>206|31=>207|32=>208|37=>209|38=>210|39=>211|41=>237|n=>n,fun|27=>117|29=>9|3=>3|32=>190|26=>117|0=>0|44=>229|46=>23|4=>4|36=>223|35=>222|41=>165|5=>5|9=>9|53=>260|57=>264|63=>284|64=>40|n=>n,fun|n=>n⟩
theorem Tryz.sortA:Go.Proofs.SlLaysM.n6 prog Tryz.sortA_ren:= {
 mixed:=by kernel_rfl
 f6:=⟨f85.name,by decide,func85.trans (congrArg some (by kernel_rfl))⟩
 f8:=func126.trans (congrArg some (by kernel_rfl))
 f9:=⟨f125.name,by decide,func125.trans (congrArg some (by kernel_rfl))⟩
 f19:=func172.trans (congrArg some (by kernel_rfl))
 f20:=func173.trans (congrArg some (by kernel_rfl))
 f21:=⟨f163.name,by decide,func163.trans (congrArg some (by kernel_rfl))⟩
 f22:=⟨f164.name,by decide,func164.trans (congrArg some (by kernel_rfl))⟩
 f23:=⟨f165.name,by decide,func165.trans (congrArg some (by kernel_rfl))⟩
 f24:=⟨f166.name,by decide,func166.trans (congrArg some (by kernel_rfl))⟩
 f25:=⟨f167.name,by decide,func167.trans (congrArg some (by kernel_rfl))⟩
 f26:=⟨f168.name,by decide,func168.trans (congrArg some (by kernel_rfl))⟩
 f27:=⟨f169.name,by decide,func169.trans (congrArg some (by kernel_rfl))⟩
 f28:=⟨f170.name,by decide,func170.trans (congrArg some (by kernel_rfl))⟩
 f29:=⟨f171.name,by decide,func171.trans (congrArg some (by kernel_rfl))⟩
 f31:=func207.trans (congrArg some (by kernel_rfl))
 f32:=func208.trans (congrArg some (by kernel_rfl))
 f36:=⟨f206.name,by decide,func206.trans (congrArg some (by kernel_rfl))⟩
 f37:=⟨f209.name,by decide,func209.trans (congrArg some (by kernel_rfl))⟩
 f38:=⟨f210.name,by decide,func210.trans (congrArg some (by kernel_rfl))⟩
 f39:=⟨f211.name,by decide,func211.trans (congrArg some (by kernel_rfl))⟩
 f41:=⟨f237.name,by decide,func237.trans (congrArg some (by kernel_rfl))⟩
 t0:=underlying0
 a0:=isAgg0
 z0:=sizeOf0
 v0:=zeroValue0
 t3:=underlying3
 a3:=isAgg3
 z3:=sizeOf3
 v3:=zeroValue3
 t4:=underlying4
 a4:=isAgg4
 z4:=sizeOf4
 v4:=zeroValue4
 t5:=underlying5
 a5:=isAgg5
 z5:=sizeOf5
 v5:=zeroValue5
 t9:=underlying9
 a9:=isAgg9
 z9:=sizeOf9
 v9:=zeroValue9
 t26:=underlying117
 a26:=isAgg117
 z26:=sizeOf117
 v26:=zeroValue117
 t27:=underlying117
 a27:=isAgg117
 z27:=sizeOf117
 v27:=zeroValue117
 t29:=underlying9
 a29:=isAgg9
 z29:=sizeOf9
 v29:=zeroValue9
 t32:=underlying190
 a32:=isAgg190
 z32:=sizeOf190
 v32:=zeroValue190
 t35:=underlying222
 a35:=isAgg222
 z35:=sizeOf222
 v35:=zeroValue222
 t36:=underlying223
 a36:=isAgg223
 z36:=sizeOf223
 v36:=zeroValue223
 t41:=underlying165
 a41:=isAgg165
 z41:=sizeOf165
 v41:=zeroValue165
 t44:=underlying229
 a44:=isAgg229
 z44:=sizeOf229
 v44:=zeroValue229
 t46:=underlying23
 a46:=isAgg23
 z46:=sizeOf23
 v46:=zeroValue23
 t53:=underlying260
 a53:=isAgg260
 z53:=sizeOf260
 v53:=zeroValue260
 t57:=underlying264
 a57:=isAgg264
 z57:=sizeOf264
 v57:=zeroValue264
 t63:=underlying284
 a63:=isAgg284
 z63:=sizeOf284
 v63:=zeroValue284
 t64:=underlying40
 a64:=isAgg40
 z64:=sizeOf40
 v64:=zeroValue40}
theorem Tryz.sortsA(m:Nat):AnyZ.SortsIn prog Tryz.sortedA_ren Fence.wide m:=
 ⟨fun blk off cap ss W hH hblk hsz=>callsIn_wide.2 (AnyM.slices_Sort_string Tryz.sortA blk off cap ss W hH hblk hsz),
  fun p cap W=>callsIn_wide.2 (AnyM.slices_Sort_string_none Tryz.sortA p cap W)⟩
end Go.Proofs
namespace Go.Ab
open Go.Maps Go.Proofs Go.Proofs.Tryz Go.RowKit Go.Shelf Go.Sort
set_option maxHeartbeats 1000000 in
theorem TB:Nx prog 51 86 9:=fun Bm b nn D0 R w hBm hcell hown hmax hbytes=>by
 refine(callsIn_wide (n:=5)).1 ?_
 have hseq:SeqGives Fence.wide 2 prog 86 #[.pointer (some ⟨Bm,0,none⟩)] encStr (fun ss=>ss.Perm (strKeys D0)) (Maps.size D0) w:=
  AnyZ.keys_gives (ρ:=Tryz.keysA_ren) {Tryz.keysA with} Fence.wide _ trivial rfl (by omega) Bm b nn D0 w hBm hcell hown
 exact AnyZ.sorted_in Tryz.sortedA Fence.wide 5 trivial trivial trivial trivial rfl (by omega) (Tryz.sortsA _) (enters_of func85 (by kernel_rfl) rfl) 86 #[.pointer (some ⟨Bm,0,none⟩)] trivial (enters_of func86 (by kernel_rfl) rfl) _ _ hmax hbytes _ hseq
set_option maxHeartbeats 1000000 in
theorem Rw:LI prog 51 86:=fun Bm w hBm hcell=>by
 refine(callsIn_wide (n:=5)).1 ?_
 have hseq:SeqGives Fence.wide 2 prog 86 #[.pointer (some ⟨Bm,0,none⟩)] encStr (fun ss:List (List UInt8)=>ss=[]) 0 w:=
  AnyZ.keys_gives_nil (ρ:=Tryz.keysA_ren) {Tryz.keysA with} Fence.wide _ trivial rfl Bm w hBm hcell
 refine CallsIn.mono (AnyZ.sorted_in Tryz.sortedA Fence.wide 5 trivial trivial trivial trivial rfl (by omega) (Tryz.sortsA _) (enters_of func85 (by kernel_rfl) rfl) 86 #[.pointer (some ⟨Bm,0,none⟩)] trivial (enters_of func86 (by kernel_rfl) rfl) _ 0 (A0t _) (by omega) w hseq) ?_
 rintro e w' ⟨v,ss,he,hS,_,hnil,hb⟩
 rw[hnil.2 hS] at he
 exact⟨he,hb⟩
theorem c_Keys(es:List CE)(ck:Nat):A4 prog 52 [.mref 1] [(1,.map (es.map Ck) ck)] (.func (.func 86) [] [.ref 0 0 0 1]) [(1,.map (es.map Ck) ck),(0,.rows [[.mref 1]] 1)]:=by
 refine Zd [] func52 rfl ntmps52 results52 ?_
 ((try push_cast)<;>repeat' (first|apply Zi<;>intro _|exact Zp|with_reducible apply Za)<;>try push_cast)
 apply Zr [(0,8)] rfl<;>push_cast
theorem c_KeysN:A4 prog 52 [.val (.map none)] [] (.func (.func 86) [] [.ref 0 0 0 1]) [(0,.rows [[.val (.map none)]] 1)]:=by
 refine Zd [] func52 rfl ntmps52 results52 ?_
 ((try push_cast)<;>repeat' (first|apply Zi<;>intro _|exact Zp|with_reducible apply Za)<;>try push_cast)
 apply Zr [(0,8)] rfl<;>push_cast
theorem c_Sorted(es:List CE)(ck:Nat)(h:Do es ck)(hl:es.length<=1048576):A4 prog 51 [.func (.func 86) [] [.ref 3 0 0 1]] [(1,.map (es.map Ck) ck),(3,.rows [[.mref 1]] 1)] (.slice ((Au (es.map (·.1))).map fun k=>[.val (.string k)]) false) [(1,.map (es.map Ck) ck),(3,.rows [[.mref 1]] 1)]:=
 A4.of_sorted (by kernel_rfl) (by kernel_rfl) TB (es.map Ck) ck (es.map (·.1)) (by rw[A1o,A1o];rfl)
  (fun y hy=>by obtain⟨e,he,rfl⟩:=A0j.1 hy;exact h.lt e he) (by rw[A1o];exact h.births) h.keys
  (fun k hk=>by obtain⟨e,he,rfl⟩:=A0j.1 hk;exact A0L (h.sm e he).2.2 (by decide)) (by simpa using hl)
theorem XD:A4 prog 51 [.func (.func 86) [] [.ref 3 0 0 1]] [(3,.rows [[.val (.map none)]] 1)] (.slice [] true) [(3,.rows [[.val (.map none)]] 1)]:=A4.of_sortedN (by kernel_rfl) Rw
end Go.Ab
