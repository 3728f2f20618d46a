/- The program is walked: part 7 of 18. -/
import Derived.Test.YtmobnaefbcegbaaGreatDoorV5
set_option maxHeartbeats 4000000
set_option maxRecDepth 20000
set_option linter.all false
namespace Go.Ab
open Go.Proofs Go.Proofs.Tryz
variable{l:Lga}{k a:Baa}{i j h:Nat}{α:Type}{f:GT->Lga}{t:GT}
def c_wo0(t:GT)(k:Baa)(h0:t.height=0)(hl:t.es≠[])(h8:t.es.length<=8)(hs:∀e ∈ t.es,Sm e.2)(hm:∀i j,i<=j->j<t.es.length->ltS (t.es.getD i zM).1 k=false->ltS (t.es.getD j zM).1 k=false)(hh:Cp t.es k=false):
  A0 prog 132 [Ah t,sD k] (.tup [Ah t,bD false]):=by
 have C:=BP t;rw[h0] at C;have hE:=Ea t hl Om hs;have hp:=LB t.es false k hm Om;rw[hh] at hp;have M:List.take t.es.length (List.map A8 t.es)=List.map A8 t.es:=A2g Sq';refine Zf [] ?_
 (have z:=M;push_cast[z]<;>repeat' (first|refine Zc C ?_|refine Zs [] hE ?_|refine Zq (hp ..) ?_ ?_|apply Za)<;>push_cast[z])
 all_goals first|omega|(simp;done)|exact Av _|skip
def c_wo0n(t:GT)(k:Baa)(h0:t.height=0)(hl:t.es=[]):
  A0 prog 132 [Ah t,sD k] (.tup [Ah t,bD false]):=by
 have C:=BP t;rw[h0] at C;have hE:=HR t hl;have hp:=LB [] true k (λi j _ h=>absurd h Sq') Sq';have M:AL [] k=0:=rfl;have N:Cp [] k=false:=rfl;rw[M,N] at hp;simp only[A2E] at hp;refine Zf [] ?_
 (have z:=trivial;push_cast<;>repeat' (first|refine Zc C ?_|refine Zc hE ?_|refine Zc (hp ..) ?_|apply Za)<;>push_cast)
 all_goals first|omega|(simp;done)|exact Av _|skip
def take_z7(X:LLa)(z:List D){n:Nat}(h:X.length=n):(X++[z]).take n=X:=by rw[A3r Om,A2g Om]
def c_wo1(t:GT)(k:Baa)(h0:t.height=0)(h8:t.es.length<=8)(hs:∀e ∈ t.es,Sm e.2)(hm:∀i j,i<=j->j<t.es.length->ltS (t.es.getD i zM).1 k=false->ltS (t.es.getD j zM).1 k=false)(hh:Cp t.es k=true)(hlt:AL t.es k<t.es.length)
  (M:OkE (Cr t.es (AL t.es k))):
  A0 prog 132 [Ah t,sD k] (.tup [Ah (AO (Cr t.es (AL t.es k))),bD true]):=by
 have O:=BP t;rw[h0] at O;have hE:=Ea t (by intro h;rw[h] at hlt;simp at hlt) Om hs;have hp:=LB t.es false k hm Om;rw[hh] at hp;have N:=c_delE t.es (AL t.es k) hlt Om;have Z:=HQ (Cr t.es (AL t.es k)) false M.hl M.hs M.hr;have tk:List.take t.es.length (List.map A8 t.es)=List.map A8 t.es:=A2g Sq';have U:IntKind.i64.wrap ((AL t.es k:Nat)+1:Int)=((AL t.es k+1:Nat):Int):=TD Om 1 Om;have V:(Cr t.es (AL t.es k)).length=t.es.length-1:=by simp[Cr];omega
 have Y:List.take (t.es.length-1) (List.map A8 (Cr t.es (AL t.es k))++[z7])=List.map A8 (Cr t.es (AL t.es k)):=take_z7 _ _ (by rw[A2k,V]);generalize hq:AL t.es k=q at*;generalize Cr t.es q=C at*;simp only[z7,z6] at Y N;push_cast at U N;refine Zf [] ?_
 (have z:=Za tk<|Za Y<|Za U @V;push_cast[z]<;>repeat' (first|refine Zc O ?_|refine Zs [] hE ?_|refine Zq (hp ..) ?_ ?_|refine Zs [(1,48)] (N ..) ?_|refine Zg Z ?_ ?_|apply Za)<;>push_cast[z])
 all_goals first|omega|(simp;done)|(simp;omega)|exact Av _|skip
section
variable(t:GT)(k:Baa)(K:GT)(h0:t.height≠0)(h1:0<t.kids.length)(h8:t.kids.length<=8)(hm:∀i j,i<=j->j<t.kids.length->ltS k (t.kids.getD i .nil).first=true->ltS k (t.kids.getD j .nil).first=true)(hi:AS t.kids k<t.kids.length)
include h0 h1 h8 hm hi
theorem c_wo2(C:A0 prog 132 [Ah (t.kids.getD (AS t.kids k) .nil),sD k] (.tup [Ah K,bD false])):
  A0 prog 132 [Ah t,sD k] (.tup [Ah t,bD false]):=by
 have M:=BP t;have b0:(t.height==0)=false:=by simpa using h0
 have N:=Fi t h1 Om;have O:=ES t.kids k hm Om;have U:=Bx hi;have V:=A6 K;refine Zf [] ?_
 (have z:=Za b0<|Za U<|Za @Ar.eq_1 V;push_cast[z]<;>repeat' (first|refine Zc M ?_|refine Zs [] N ?_|refine Zq (O ..) ?_ ?_|refine Zc (C ..) ?_|apply Za)<;>push_cast[z])
 all_goals first|omega|(simp;done)|exact Av _|skip
theorem c_wo3(M:A0 prog 132 [Ah (t.kids.getD (AS t.kids k) .nil),sD k] (.tup [Ah K,bD true]))(U:K≠ .nil)(a1:4<=K.size)(a2:K.size<=8)(V:OkK (t.kids.set (AS t.kids k) K)):
  A0 prog 132 [Ah t,sD k] (.tup [Ah (En (t.kids.set (AS t.kids k) K)),bD true]):=by
 have Y:=BP t;have b0:(t.height==0)=false:=by simpa using h0
 have Z:=Fi t h1 Om;have hw:=ES t.kids k hm Om;have ea:=Bx hi;have N:=MB K Om;have b1:decide ((K.size:Int)<4)=false:=Df';have hI:=Eu (t.kids.set (AS t.kids k) K) So' V;have O:(List.map Ar t.kids).set (AS t.kids k) [Ah K]=List.map Ar (t.kids.set (AS t.kids k) K):=(A3L (f:=Ar) ..).symm;obtain⟨cs,a0⟩:=Cl U;have C:=A6 K;rw[a0] at C M O N;simp only[D.pure] at C;refine Zf [] ?_
 (have z:=Za b0<|Za b1<|Za ea<|Za @Ar.eq_1<|Za C O;push_cast[z]<;>repeat' (first|refine Zc Y ?_|refine Zs [] Z ?_|refine Zq (hw ..) ?_ ?_|refine Zc (M ..) ?_|refine Zc (N ..) ?_|refine Zg hI ?_ ?_|apply Za)<;>push_cast[z])
 all_goals first|omega|(simp;done)|exact Av _|skip
theorem c_wo4(M:A0 prog 132 [Ah (t.kids.getD (AS t.kids k) .nil),sD k] (.tup [Ah K,bD true]))(U:K≠ .nil)(a1:K.size<4)(l:List GT)(V:1<=l.length)(Y:OkK l)
  (Z:A4 prog 206 [.gref 1 t.kids.length,iD (AS t.kids k)] [(1,.grow ((t.kids.set (AS t.kids k) K).map Ar) 1)] (.gref 0 l.length) [(0,.grow (l.map Ar) 1)]):
  A0 prog 132 [Ah t,sD k] (.tup [Ah (En l),bD true]):=by
 have hH:=BP t;have b0:(t.height==0)=false:=by simpa using h0
 have hK:=Fi t h1 Om;have hw:=ES t.kids k hm Om;have ea:=Bx hi;have N:=MB K Om;have b1:decide ((K.size:Int)<4)=true:=Dt';have hI:=Eu l V Y;have O:(List.map Ar t.kids).set (AS t.kids k) [Ah K]=List.map Ar (t.kids.set (AS t.kids k) K):=(A3L (f:=Ar) ..).symm;obtain⟨cs,a0⟩:=Cl U;have C:=A6 K;rw[a0] at C M O N;simp only[D.pure] at C;refine Zf [] ?_
 (have z:=Za b0<|Za b1<|Za ea<|Za @Ar.eq_1<|Za C O;push_cast[z]<;>repeat' (first|refine Zc hH ?_|refine Zs [] hK ?_|refine Zq (hw ..) ?_ ?_|refine Zc (M ..) ?_|refine Zc (N ..) ?_|refine Zs [(1,48)] (Z ..) ?_|refine Zg hI ?_ ?_|apply Za)<;>push_cast[z])
 all_goals first|omega|(simp;done)|exact Av _|skip
end
abbrev AX(l:Lga):D:=.ptr [.slice (l.map A8) false] 0
def UP(hi:i<l.length)(h0:∀j,j<i->ltS (l.getD j zM).1 k=true)(h:ltS (l.getD i zM).1 k=false):AL l k=i:=by
 unfold AL;have key:∀(m a:Nat),a+m=l.length->a<=i->BS (λi=>!ltS (l.getD i zM).1 k) a m=i:=by
  intro m
  induction m with
  |zero=>intro a h1 C;omega
  |succ m M=>
   intro a h1 C;simp only[BS];by_cases N:a=i
   ·subst N;rw[if_pos (by rw[h];rfl)]
   ·rw[if_neg (by rw[h0 a Om];simp)];exact M (a+1) Om Om
 exact key _ 0 Om (A2w _)
def posE_end(h0:∀j,j<l.length->ltS (l.getD j zM).1 k=true):AL l k=l.length:=by
 unfold AL;have key:∀(m a:Nat),a+m=l.length->BS (λi=>!ltS (l.getD i zM).1 k) a m=l.length:=by
  intro m
  induction m with
  |zero=>intro a h1;simp only[BS];omega
  |succ m C=>
   intro a h1;simp only[BS];rw[if_neg (by rw[h0 a Om];simp)];exact C (a+1) Om
 exact key _ 0 Om
def Sv(l:Lga)(k:Baa):AL l k<=l.length:=by have:=FI (λi=>!ltS (l.getD i zM).1 k) l.length 0;unfold AL;omega
def HF(h:Cp l k=true):AL l k<l.length:=by
 unfold Cp at h;simp only[A2i,decide_eq_true_eq] at h;exact h.1
def c_at(l:Lga)(k:Baa)(hn:l.length<=4611686018427387904):A0 prog 292 [AX l,sD k] (.tup [iD (AL l k),bD (Cp l k)]):=by
 refine Zf [] ?_
 (push_cast<;>repeat' apply Za)
 refine Zl (λi=>i<=l.length/\∀j,j<i->ltS (l.getD j zM).1 k=true) (λi=>⟨[(6,iD i),(1,sD k),(0,AX l)],[],10⟩) (λi=>l.length-i) 0 ⟨A2w _,λj h=>absurd h Sq'⟩ ?_ λi hi=>?_
 ·apply Zw<;>push_cast;all_goals simp[AX,Av]
 ·obtain⟨h1,M⟩:=hi;push_cast;refine Ad (λN=>?_) (λN=>?_)
  ·have C:i<l.length:=by simpa using N
   have O:=Bc C
   (have z:=Za O @Aj;push_cast[z]<;>repeat' (first|apply Zi<;>intro _|exact Zo|apply Za)<;>push_cast[z])<;>try omega
   ·rename_i h;simp only[A3u] at h;rw[UP C M h]
   ·rename_i h;simp only[A3u] at h;simp[Cp,UP C M h,C]
   ·rename_i h;simp only[A3A] at h;refine⟨i+1,⟨C,λj V=>?_⟩,Om,?_⟩
    ·by_cases U:j=i
     ·subst U;exact h
     ·exact M j Om
    ·apply Zw<;>push_cast;all_goals first|exact A9 Om Om |simp [AX,Av]
  ·have C:i=l.length:=by simp at N;omega
   subst C;have hp:=posE_end M
   (push_cast<;>repeat' apply Za)
   ·rw[hp]
   ·simp[Cp,hp]
def c_Get(l:Lga)(k:Baa)(hn:l.length<=4611686018427387904):A0 prog 293 [AX l,sD k] (.tup [.agg (A7 (if Cp l k then(l.getD (AL l k) zM).2 else zV)),bD (Cp l k)]):=by
 have C:=c_at l k hn;cases hh:Cp l k with
 |true=>
  rw[hh] at C;have M:=Bc (HF hh);simp only[if_true];refine Zf [] ?_
  (have z:=Za M @Aj;push_cast[z]<;>repeat' (first|refine Zc (C ..) ?_|apply Za)<;>push_cast[z])
  all_goals first|omega|(have:=HF hh;omega)
 |false=>
  rw[hh] at C;simp only[if_false,A2G];refine Zf [] ?_
  (have z:=trivial;push_cast<;>repeat' (first|refine Zc (C ..) ?_|with_reducible apply Za)<;>push_cast)
  all_goals exact loL_z6
def Qb:∀ {a b c:Lua},BD a b<0->BD b c<0->BD a c<0
 |[],[],c,h,k=>Om
 |[],_::_,[],h,k=>by simp[BD] at k
 |[],_::_,_::_,h,k=>by simp[BD]
 |_::_,[],c,h,k=>by simp[BD] at h
 |_::_,_::_,[],h,k=>by simp[BD] at k
 |x::a,y::b,z::c,h,k=>by
  simp[BD] at h k|-;by_cases h1:x=y
  ·subst h1;by_cases C:x=z
   ·subst C;simp at h k|-;exact Qb h k
   simp_all
  grind
theorem Cv{b c:Baa}(h:ltS a b=true)(k:ltS b c=true):ltS a c=true:=by
 simp[ltS,decide_eq_true_eq] at*;exact Qb h k
def EL(a:Baa):ltS a a=false:=by
 have:=(Th a a).2 rfl;simp[ltS,this]
theorem A00{b:Baa}(h:ltS a b=true):a≠b:=λe=>by subst e;rw[EL] at h;cases h
theorem Rd{b:Baa}(h:ltS a b=true):ltS b a=false:=by
 cases hb:ltS b a with
 |false=>rfl
 |true=>have:=Cv h hb;rw[EL] at this;cases this
theorem Mg{b:Baa}(h:ltS a b=false)(C:a≠b):ltS b a=true:=by
 have e:=Th a b;have n:=Qe a b;simp[ltS,decide_eq_true_eq,decide_eq_false_iff_not] at*;grind
def Rc{b c:Baa}(h:ltS a b=true)(k:ltS c b=false):ltS a c=true:=by
 grind [Cv,Mg]
def Srt(l:Lga):Prop:=l.Pairwise λa b=>ltS a.1 b.1=true
def B4(e:GE):Lga->Lga
 |[]=>[e]
 |x::l=>if ltS x.1 e.1 then x::B4 e l else if x.1=e.1 then e::l else e::x::l
def BX(k:Baa)(l:Lga):Lga:=l.filter λx=>decide (x.1≠k)
def Am(k:Baa)(l:Lga):Option GV:=(l.find? λx=>decide (x.1=k)).map (·.2)
def D9(k:Baa)(l:Lga):Bool:=l.any λx=>decide (x.1=k)
theorem FE(x:GE)(l:Lga)(k:Baa):AL (x::l) k=if ltS x.1 k then AL l k+1 else 0:=by
 have key:∀(m i:Nat),BS (λi=>!ltS ((x::l).getD i zM).1 k) (i+1) m=BS (λi=>!ltS (l.getD i zM).1 k) i m+1:=by
  intro m
  induction m with
  |zero=>intro i;simp[BS]
  |succ m C=>
   simp only[BS,A3t];grind
 grind [AL,BS,ltS]
def ZW(k:Baa):∀l:Lga,l.take (AL l k)=l.takeWhile λx=>ltS x.1 k
 |[]=>rfl
 |x::l=>by
  rw[FE];cases h:ltS x.1 k with
  |true=>simp [h,ZW k l]
  |false=>simp [h]
def RC(k:Baa):∀l:Lga,l.drop (AL l k)=l.dropWhile λx=>ltS x.1 k
 |[]=>rfl
 |x::l=>by
  rw[FE];cases h:ltS x.1 k with
  |true=>simp [h,RC k l]
  |false=>simp [h]
def JX(x:GE)(l:Lga)(k:Baa):Cp (x::l) k=if ltS x.1 k then Cp l k else decide (x.1=k):=by
 grind [Cp,FE,ltS]
def Srt.head{x:GE}(h:Srt (x::l)):∀y ∈ l,ltS x.1 y.1=true:=(List.pairwise_cons.1 h).1
def Srt.tail{x:GE}(h:Srt (x::l)):Srt l:=(List.pairwise_cons.1 h).2
def SZ(k:Baa):∀l:Lga,Srt l->Cp l k=D9 k l
 |[],_=>rfl
 |x::l,h=>by
  rw[JX];simp[D9,List.any_cons];cases C:ltS x.1 k with
  |true=>
   have:decide (x.1=k)=false:=decide_eq_false (A00 C);simp[if_true,this,A42];exact SZ k l h.tail
  |false=>
   have:(l.any λy=>decide (y.1=k))=false:=by
    rw[List.any_eq_false];intro y M;simp;rintro rfl;have:=h.head y M;simp_all
   grind
def Lo(e:GE):∀l:Lga,Fh l e=B4 e l
 |[]=>rfl
 |x::l=>by
  have C:=Lo e l;unfold Fh at C|-;rw[JX,FE];simp[B4];cases N:ltS x.1 e.1 with
  |true=>
   simp at C|-;rw[<-C];split
   ·simp
   ·simp[DE]
  |false=>
   by_cases M:x.1=e.1
   ·simp[M]
   ·simp[DE]
def Nz(k:Baa):∀l:Lga,Srt l->Cp l k=true->Cr l (AL l k)=BX k l
 |[],_,h=>by cases h
 |x::l,hs,h=>by
  rw[JX] at h;rw[FE];simp only[BX];cases C:ltS x.1 k with
  |true=>
   simp[C,if_true] at h|-;have:=Nz k l hs.tail h;grind [BX,A00,Cr]
  |false=>
   rw[List.filter_cons_of_neg (by simp_all)];have:l.filter (λx=>decide (x.1≠k))=l:=A3Q.2 λy M=>by
    have:=hs.head y M;grind
   rw[this];simp[Cr]
def LZ(h:D9 k l=false):BX k l=l:=by
 unfold D9 at h;exact A3Q.2 λy C=>by grind
def T5(k:Baa):∀l:Lga,Srt l->(if Cp l k then some (l.getD (AL l k) zM).2 else none)=Am k l
 |[],_=>rfl
 |x::l,hs=>by
  rw[JX,FE];simp[Am,List.find?_cons];cases C:ltS x.1 k with
  |true=>
   have:decide (x.1=k)=false:=decide_eq_false (A00 C);have:=T5 k l hs.tail;simp[Am] at this;simp_all
  |false=>
   by_cases M:x.1=k
   ·simp[M]
   ·have hn:(l.find? λy=>decide (y.1=k))=none:=List.find?_eq_none.2 λy N=>by
     simp;rintro rfl;have:=hs.head y N;simp_all
    grind
def UN{e:GE}:∀ {a b:Lga},(∀x ∈ a,ltS x.1 e.1=true)->B4 e (a++b)=a++B4 e b
 |[],b,_=>rfl
 |x::a,b,h=>by
  simp[A2d,B4,h x A36,if_true];rw[UN (by grind)]
def Pa{e:GE}:∀ {a b:Lga},(∀x ∈ b,ltS e.1 x.1=true)->B4 e (a++b)=B4 e a++b
 |[],[],_=>rfl
 |[],y::b,h=>by
  grind [B4,Rd,A00]
 |x::a,b,h=>by
  simp[A2d,B4];split
  ·rw[Pa h];rfl
  grind
def GQ{e x:GE}:∀ {l:Lga},x ∈ B4 e l->x=e\/x ∈ l
 |[],h=>by simp[B4] at h;simp_all
 |y::l,h=>by
  simp[B4] at h;split at h
  ·rcases A2s.1 h with rfl|h
   ·exact .inr A36
   ·rcases GQ h with h|h
    ·exact .inl h
    ·exact(by simp_all)
  grind
def F6{e:GE}:∀ {l:Lga},Srt l->Srt (B4 e l)
 |[],_=>List.pairwise_singleton _ _
 |x::l,h=>by
  simp[B4];split
  ·rename_i N;refine List.pairwise_cons.2 ⟨λy C=>?_,F6 h.tail⟩;rcases GQ C with rfl|C
   ·exact N
   ·exact h.head y C
  ·rename_i N;split
   ·rename_i M;refine List.pairwise_cons.2 ⟨λy C=>?_,h.tail⟩;rw[<-M];exact h.head y C
   ·rename_i M;have hlt:=Mg (by simp_all) M;refine List.pairwise_cons.2 ⟨λy C=>?_,h⟩;rcases A2s.1 C with rfl|C
    ·exact hlt
    ·exact Cv hlt (h.head y C)
def Dp(e:GE):∀l:Lga,(B4 e l).length<=l.length+1/\l.length<=(B4 e l).length
 |[]=>by simp[B4]
 |x::l=>by
  have:=Dp e l;simp[B4];split
  ·simp;omega
  ·split<;>simp
def Jm(h:Srt l):Srt (BX k l):=List.Pairwise.filter _ h
def UC(k:Baa)(a b:Lga):BX k (a++b)=BX k a++BX k b:=A3y ..
def Nr(h:Srt l)(C:i<j)(M:j<l.length):ltS (l.getD i zM).1 (l.getD j zM).1=true:=by
 have:=A3Z.1 h i j Om M C;grind
def NR(h:∀i,1<=i->i<l.length->ltS (l.getD (i-1) zM).1 (l.getD i zM).1=true):Srt l:=by
 refine A3Z.2 λi j hi C M=>?_;have key:∀n i,i+1+n<l.length->ltS (l.getD i zM).1 (l.getD (i+1+n) zM).1=true:=by
  intro n
  induction n with
  |zero=>grind
  |succ n N=>
   grind [Cv]
 have:=key (j-i-1) i Om;have e:i+1+(j-i-1)=j:=Om;simp_all
def KY(h:Srt l)(k:Baa):∀i j,i<=j->j<l.length->ltS (l.getD i zM).1 k=false->ltS (l.getD j zM).1 k=false:=by
 intro i j C M hi;rcases Nat.eq_or_lt_of_le C with rfl|hlt
 ·exact hi
 ·cases N:ltS (l.getD j zM).1 k with
  |false=>rfl
  |true=>have:=Cv (Nr h hlt M) N;simp_all
theorem EW{l:List α}(h:l≠[]):0<l.length:=A3S.2 h
def Af:Nat->GT->Lga
 |0,t=>t.es
 |h+1,t=>t.kids.flatMap (Af h)
def Wf:Nat->GT->Prop
 |0,t=>∃l,t=AO l/\OkE l/\l≠[]
 |h+1,t=>∃l,t=AP l/\2<=l.length/\l.length<=8/\(∀k ∈ l,Wf h k/\4<=k.size)/\Srt (l.flatMap (Af h))
def H3(h:l≠[]):l.getD 0 zM ∈ l:=by
 grind
def PD(h:l≠[]):l.getD (l.length-1) zM ∈ l:=by
 grind [EW,Ae]
def XE{a b:List α}{d:α}(h:a.length<=i):(a++b).getD i d=b.getD (i-a.length) d:=by
 grind
structure WfD(h:Nat)(t:GT):Prop where
 nn:t≠ .nil
 height:t.height=h
 count:t.count=(Af h t).length
 ne:Af h t≠[]
 srt:Srt (Af h t)
 first:t.first=((Af h t).getD 0 zM).1
 last:t.last=((Af h t).getD ((Af h t).length-1) zM).1
 size:t.size<=8
 hlt:h<(Af h t).length
 sm:∀e ∈ Af h t,Sm e.2
theorem Ko{l:List GT}(hn:∀k ∈ l,f k≠[])(h:0<l.length):(l.flatMap f).getD 0 zM=(f (l.getD 0 .nil)).getD 0 zM:=by
 cases l with
 |nil=>simp at h
 |cons k l=>
  grind
def Lr{f:GT->Lga}:∀ {l:List GT},(∀k ∈ l,f k≠[])->0<l.length->(l.flatMap f).getD ((l.flatMap f).length-1) zM=(f (l.getD (l.length-1) .nil)).getD ((f (l.getD (l.length-1) .nil)).length-1) zM
 |[],_,h=>by simp at h
 |[k],hn,_=>Sq'
 |k::C::l,hn,_=>by
  have N:=Lr (λx M=>hn x (A2V _ M)) Sq';have O:0<((C::l).flatMap f).length:=by
   grind
  rw[A2T,A2a];rw[XE Om];have e:(f k).length+((C::l).flatMap f).length-1-(f k).length=((C::l).flatMap f).length-1:=Om;simp_all
def Qa{f:GT->Lga}:∀ {l:List GT},(∀k ∈ l,k.count=(f k).length)->(l.map GT.count).sum=(l.flatMap f).length
 |[],_=>rfl
 |k::l,h=>by
  simp only[A2m,List.sum_cons,A2T,A2a];rw[Qa λx C=>h x (A2V _ C),h k A36];omega
theorem PA{l:List GT}{k:GT}(h:k ∈ l):(f k).length<=(l.flatMap f).length:=by
 induction l with
 |nil=>cases h
 |cons x l C=>
  grind
def Wf.d:∀ {h:Nat} {t:GT},Wf h t->WfD h t
 |0,t,hw=>by
  obtain⟨l,rfl,U,hn⟩:=hw;exact⟨by simp[AO],rfl,by simp[AO,GT.count,Af,GT.es],hn,NR U.hr,rfl,rfl,by simp[GT.size,AO,GT.es,GT.kids,U.hl],by simpa[Af,AO,GT.es] using EW hn,U.hs⟩
 |h+1,t,hw=>by
  obtain⟨l,rfl,Y,h8,Z,hs⟩:=hw;have C:∀k ∈ l,WfD h k:=λk M=>Wf.d (Z k M).1;have N:Af (h+1) (AP l)=l.flatMap (Af h):=rfl;have h0:l.getD 0 .nil ∈ l:=Ae Om;have hl:l.getD (l.length-1) .nil ∈ l:=Ae Om;have V:∀k ∈ l,Af h k≠[]:=λk M=>(C k M).ne;refine⟨by simp[AP],?_,?_,?_,hs,?_,?_,?_,?_,λe O=>?_⟩
  ·show(l.getD 0 .nil).height+1=_;rw[(C _ h0).height];simp
  ·rw[N];show Kb l l.length=_;rw[Kb,A2I];exact Qa λk M=>(C k M).count
  ·grind [Ko,PA,Af,EW]
  ·rw[N,Ko V Om];exact(C _ h0).first
  ·rw[N,Lr V Om];exact(C _ hl).last
  ·show 0+l.length<=8;omega
  ·rw[N]
   match l,Y with
   |a::b::l,_=>
    have h1:=(C a Sq').hlt;grind [EW]
  ·rw[N,A3D] at O;obtain⟨k,M,O⟩:=O;exact(C k M).sm e O
def N5{p:Nat->Bool}:∀(m i:Nat),(BS p i m<i+m->p (BS p i m)=true)/\(∀x,i<=x->x<BS p i m->p x=false)/\i<=BS p i m
 |0,i=>by grind [BS,absurd]
 |m+1,i=>by
  simp[BS];by_cases hp:p i=true
  ·grind
  ·rw[if_neg hp];obtain⟨h1,C,M⟩:=N5 (p:=p) m (i+1);grind
def LP{l:List GT}(h:Srt (l.flatMap f))(C:i<j)(M:j<l.length){x y:GE}(O:x ∈ f (l.getD i .nil))(U:y ∈ f (l.getD j .nil)):ltS x.1 y.1=true:=by
 have N:=(List.pairwise_flatMap.1 h).2;have V:=A3Z.1 N i j Om M C;grind
def S9(l:List GT)(i:Nat):((l.take i).flatMap f).length<=(l.flatMap f).length:=by
 have:l.flatMap f=(l.take i).flatMap f++(l.drop i).flatMap f:=by rw[<-A2C,A2O]
 simp_all
def FP{l:List GT}(h1:1<=l.length)(h8:l.length<=8)(O:∀k ∈ l,Wf h k)(hs:Srt (l.flatMap (Af h)))(hb:(l.flatMap (Af h)).length<=4611686018427387904):OkK l:=by
 have C:∀i,i<l.length->WfD h (l.getD i .nil):=λi hi=>(O _ (Ae hi)).d;refine⟨h8,λi hi=>?_,?_,λi hi=>?_,λi h1 N=>?_⟩
 ·have d:=C i hi;have M:=C 0 Om;refine⟨d.nn,?_,by rw[d.height,M.height],d.size⟩;rw[d.count];have:=EW d.ne;omega
 ·have M:=C 0 Om;have N:=M.hlt;have Z:=PA (f:=Af h) (Ae (d:=GT.nil) (show 0<l.length by omega));rw[M.height];omega
 ·have e:Kb l i=(((l.take i).flatMap (Af h)).length:Int):=Qa λk Y=>((O k (A34 Y)).d).count;have:=S9 (f:=Af h) l i;omega
 ·have U:=C (i-1) Om;have V:=C i N;rw[U.last,V.first];exact LP hs (show i-1<i by omega) N (PD U.ne) (H3 V.ne)
def HC{l:List GT}(h1:1<=l.length)(Y:∀x ∈ l,Wf h x)(hs:Srt (l.flatMap (Af h))):
  AS l k<l.length/\(∀i j,i<=j->j<l.length->ltS k (l.getD i .nil).first=true->ltS k (l.getD j .nil).first=true)/\
  (∀i x,i<AS l k->x ∈ Af h (l.getD i .nil)->ltS x.1 k=true)/\(∀j x,AS l k<j->j<l.length->x ∈ Af h (l.getD j .nil)->ltS k x.1=true):=by
 have M:∀i,i<l.length->WfD h (l.getD i .nil):=λi hi=>(Y _ (Ae hi)).d;have Z:∀i x,i<l.length->x ∈ Af h (l.getD i .nil)->ltS x.1 (l.getD i .nil).first=false:=by
  intro i x hi C;have d:=M i hi;rw[d.first];cases hlt:ltS x.1 ((Af h (l.getD i .nil)).getD 0 zM).1 with
  |false=>rfl
  |true=>
   obtain⟨n,hn,rfl⟩:=List.getElem_of_mem C;have e:∀(F:Lga) (hn:n<F.length),F[n]=F.getD n zM:=λF hn=>by simp_all
   rw[e _ hn] at hlt;rcases A2K n with rfl|hp
   ·rw[EL] at hlt;cases hlt
   ·have:=Rd (Nr d.srt hp hn);simp_all
 have hm:∀i j,i<=j->j<l.length->ltS k (l.getD i .nil).first=true->ltS k (l.getD j .nil).first=true:=by
  intro i j a0 N hi;rcases Nat.eq_or_lt_of_le a0 with rfl|hlt
  ·exact hi
  ·have O:=M i Om;have U:=M j N;refine Cv hi ?_;rw[O.first,U.first];exact LP hs hlt N (H3 O.ne) (H3 U.ne)
 obtain⟨f1,f2,_⟩:=N5 (p:=λi=>ltS k (l.getD i .nil).first) l.length 0;have a1:=FI (λi=>ltS k (l.getD i .nil).first) l.length 0;unfold AS;generalize BS (λi=>ltS k (l.getD i .nil).first) 0 l.length=p at f1 f2 a1;refine⟨Om,hm,λi x hi C=>?_,λj x N V C=>?_⟩
 ·have d:=M (p-1) Om;have g:ltS k (l.getD (p-1) .nil).first=false:=f2 (p-1) Om Om;have:ltS x.1 (l.getD (p-1) .nil).first=true:=by rw[d.first];exact LP hs hi Om C (H3 d.ne)
  exact Rc this g
 ·have g:ltS k (l.getD j .nil).first=true:=hm p j Om V (f1 Om);exact Rc g (Z j x V C)
theorem Sc(l:List α)(d:α)(h:i<l.length):l=l.take i++l.getD i d::l.drop (i+1):=by
 simp_all
theorem set3(l:List α)(x:α)(h:i<l.length):l.set i x=l.take i++x::l.drop (i+1):=by
 rw[List.set_eq_take_append_cons_drop,if_pos h]
def Kj{l:List α}{d x:α}(h:x ∈ l.take i):∃j,j<i/\j<l.length/\l.getD j d=x:=by
 obtain⟨n,hn,rfl⟩:=List.getElem_of_mem h;simp at hn;refine⟨n,Om,Om,?_⟩;grind
def Kk{l:List α}{d x:α}(h:x ∈ l.drop i):∃j,i<=j/\j<l.length/\l.getD j d=x:=by
 obtain⟨n,hn,rfl⟩:=List.getElem_of_mem h;simp at hn;refine⟨i+n,Om,Om,?_⟩;grind
def Mm{l:List GT}(h1:1<=l.length)(M:∀x ∈ l,Wf h x)(hs:Srt (l.flatMap (Af h))):
  (∀x ∈ (l.take (AS l k)).flatMap (Af h),ltS x.1 k=true)/\(∀x ∈ (l.drop (AS l k+1)).flatMap (Af h),ltS k x.1=true)/\
  l.flatMap (Af h)=(l.take (AS l k)).flatMap (Af h)++Af h (l.getD (AS l k) .nil)++(l.drop (AS l k+1)).flatMap (Af h):=by
 obtain⟨s1,_,O,U⟩:=HC (k:=k) h1 M hs;refine⟨λx C=>?_,λx C=>?_,?_⟩
 ·obtain⟨t,ht,C⟩:=A3D.1 C;obtain⟨j,N,_,rfl⟩:=Kj (d:=GT.nil) ht;grind
 ·obtain⟨t,ht,C⟩:=A3D.1 C;obtain⟨j,N,V,rfl⟩:=Kk (d:=GT.nil) ht;grind
 grind [Sc]
def CM(h:OkE l)(hn:l≠[]):Wf 0 (AO l):=⟨l,rfl,h,hn⟩
def Em{l:List GT}(C:2<=l.length)(h8:l.length<=8)(M:∀k ∈ l,Wf h k/\4<=k.size)(hs:Srt (l.flatMap (Af h))):Wf (h+1) (En l)/\Af (h+1) (En l)=l.flatMap (Af h)/\(En l).size=l.length:=by
 have e:En l=AP l:=by unfold En;grind
 rw[e];exact⟨⟨l,rfl,C,h8,M,hs⟩,rfl,by simp[GT.size,AP,GT.es,GT.kids]⟩
def EG(h8:l.length<=8)(hs:∀e ∈ l,Sm e.2)(hr:Srt l):OkE l:=⟨h8,hs,λi h1 C=>Nr hr (show i-1<i by omega) C⟩
def WithOk(h:Nat)(t:GT)(e:GE)(L R:GT):Prop:=
 Wf h L/\(4<=t.size->4<=L.size)/\((R=.nil/\Af h L=B4 e (Af h t))\/(Wf h R/\4<=R.size/\4<=L.size/\Af h L++Af h R=B4 e (Af h t)))
def Yr:∀(h:Nat) (t:GT) (e:GE),Wf h t->Sm e.2->(Af h t).length<=1099511627776->∃L R,A0 prog 90 [Ah t,.agg (A8 e)] (.tup [Ah L,Ah R])/\WithOk h t e L R
 |0,t,e,hw,he,hb=>by
  obtain⟨l,rfl,V,hn⟩:=hw;have a3:(AO l).es=l:=rfl;have a6:Srt l:=NR V.hr;have Y:=Lo e l;have ap:=Dp e l;have h9:(B4 e l).length<=9:=by have:=V.hl;omega
  have a7:∀x ∈ B4 e l,Sm x.2:=λx hx=>by
   rcases GQ hx with rfl|hx
   ·exact he
   ·exact V.hs x hx
  have M:=F6 (e:=e) a6;have a8:=c_with0 (AO l) e rfl (by simp_all) V.hl V.hs (by rw[a3];exact KY a6 e.1) (by
   rw[a3,Y];split
   ·rename_i h8;exact EG h8 a7 M
   ·exact⟨EG So' (by grind) (List.Pairwise.take M),EG So' (by grind) (List.Pairwise.drop M)⟩)
  rw[a3,Y] at a8;refine⟨_,_,a8,?_⟩;have aq:=EW hn;unfold Ky;split
  ·rename_i h8;refine⟨CM (EG h8 a7 M) (by grind),λZ=>?_,.inl ⟨rfl,rfl⟩⟩;grind [GT.size,AO,GT.es,GT.kids]
  ·rename_i h8;have e1:((B4 e l).take 4).length=4:=So';have e2:4<=((B4 e l).drop 4).length:=So';refine⟨CM (EG Om (by grind) (List.Pairwise.take M)) (λhc=>by simp_all),λ_=>?_,.inr ⟨CM (EG So' (by grind) (List.Pairwise.drop M)) (λhc=>by simp_all),?_,?_,?_⟩⟩
   ·grind [GT.size,AO,GT.es,GT.kids]
   ·grind [GT.size,AO,GT.es,GT.kids]
   ·grind [GT.size,AO,GT.es,GT.kids]
   ·exact A2O 4 (B4 e l)
 |h+1,t,e,hw,he,hb=>by
  have d:=hw.d;obtain⟨l,rfl,h2,h8,hk,hs⟩:=hw;have N:(AP l).kids=l:=rfl;have a9:Af (h+1) (AP l)=l.flatMap (Af h):=rfl;rw[a9] at hb;have aa:∀k ∈ l,Wf h k:=λk C=>(hk k C).1;obtain⟨s1,s2,_,_⟩:=HC (k:=e.1) Om aa hs;obtain⟨p1,p2,p3⟩:=Mm (k:=e.1) Om aa hs;have aj:l.getD (AS l e.1) .nil ∈ l:=Ae s1;have ab:=hk _ aj;obtain⟨L,R,ak,al⟩:=Yr h (l.getD (AS l e.1) .nil) e ab.1 he (by grind);obtain⟨o1,o2,o3⟩:=al;have Y:B4 e (l.flatMap (Af h))=(l.take (AS l e.1)).flatMap (Af h)++B4 e (Af h (l.getD (AS l e.1) .nil))++(l.drop (AS l e.1+1)).flatMap (Af h):=by
   rw[p3,A2c,UN p1,Pa p2,A2c]
  have ac:(AP l).height≠0:=by rw[d.height];simp;omega
  have M:Srt (B4 e (l.flatMap (Af h))):=F6 hs;have ar:=(Dp e (l.flatMap (Af h))).1;have ad:L≠ .nil:=o1.d.nn;generalize hi:AS l e.1=i at*;rcases o3 with⟨rfl,o4⟩|⟨o4,o5,o6,o7⟩
  ·
   have hf:(l.set i L).flatMap (Af h)=B4 e (l.flatMap (Af h)):=by
    rw[set3 l L s1,A2C,A2T,o4,Y,A2c]
   have a0:∀k ∈ l.set i L,Wf h k/\4<=k.size:=λk C=>by
    rcases List.mem_or_eq_of_mem_set C with C|rfl
    ·exact hk k C
    ·exact⟨o1,o2 ab.2⟩
   have ae:OkK (l.set i L):=FP So' So' (λk C=>(a0 k C).1) (by grind) (by grind);have a1:=c_withI (AP l) e L ac (by grind) (by grind) (by grind) (by grind) (by grind) (by grind) ad;rw[N,hi] at a1;obtain⟨w1,w2,O⟩:=Em (l:=l.set i L) (h:=h) So' So' a0 (by grind);refine⟨_,_,a1,w1,λZ=>?_,.inl ⟨rfl,by grind⟩⟩;rw[O,A3l];simpa[GT.size,AP,GT.es,GT.kids] using Z
  ·
   have am:R≠ .nil:=o4.d.nn;have a4:DE (l.set i L) (i+1) R=l.take i++L::R::l.drop (i+1):=by
    have e1:(l.take i).length=i:=So';rw[set3 l L s1];simp[DE];have e3:l.take i++L::l.drop (i+1)=(l.take i++[L])++l.drop (i+1):=Sq';have e4:(l.take i++[L]).length=i+1:=So';rw[e3,A3P e4,List.drop_left' e4];simp
   have hf:(DE (l.set i L) (i+1) R).flatMap (Af h)=B4 e (l.flatMap (Af h)):=by
    rw[a4,A2C,A2T,A2T,Y,<-o7];simp
   have au:(DE (l.set i L) (i+1) R).length=l.length+1:=by rw[a4];simp;omega
   have a0:∀k ∈ DE (l.set i L) (i+1) R,Wf h k/\4<=k.size:=λk C=>by
    rw[a4] at C;simp at C;rcases C with C|rfl|rfl|C
    ·exact(by grind)
    ·exact⟨o1,o6⟩
    ·exact⟨o4,o5⟩
    ·exact(by grind)
   generalize hq:DE (l.set i L) (i+1) R=q at*;have U:Srt (q.flatMap (Af h)):=by rw[hf];exact M
   have an:(q.flatMap (Af h)).length<=4611686018427387904:=by rw[hf];omega
   have a2:q.flatMap (Af h)=(q.take 4).flatMap (Af h)++(q.drop 4).flatMap (Af h):=by rw[<-A2C,A2O]
   have ah:Srt ((q.take 4).flatMap (Af h)):=by rw[a2] at U;exact(A35.1 U).1
   have ai:Srt ((q.drop 4).flatMap (Af h)):=by rw[a2] at U;exact(A35.1 U).2.1
   have ao:=congrArg List.length a2;rw[A2a] at ao;have ae:if q.length<=8 then OkK q else OkK (q.take 4)/\OkK (q.drop 4):=by
    split
    ·rename_i a5;exact FP Om a5 (by grind) U an
    ·exact⟨FP So' So' (by grind) ah Om,FP So' So' (by grind) ai Om⟩
   have a1:=c_withJ (AP l) e L R ac (by rw[N];omega) (by rw[N];exact h8) (by rw[N];exact s2) (by rw[N,hi];exact s1) (by rw[N,hi];exact ak) ad am q (by rw[N,hi];exact hq.symm) ae;refine⟨_,_,a1,?_⟩;unfold Jf;split
   ·rename_i a5;obtain⟨w1,w2,O⟩:=Em (l:=q) (h:=h) Om a5 a0 U;refine⟨w1,λZ=>by rw[O];simp[GT.size,AP,GT.es,GT.kids] at Z;omega,(by grind)⟩
   ·obtain⟨w1,w2,O⟩:=Em (l:=q.take 4) (h:=h) So' So' (by grind) ah;obtain⟨v1,v2,v3⟩:=Em (l:=q.drop 4) (h:=h) So' So' (by grind) ai;refine⟨w1,λZ=>by rw[O];simp;omega,.inr ⟨v1,by rw[v3];simp;omega,by rw[O];simp;omega,?_⟩⟩;rw[w2,v2,<-a2,hf,a9]
def MendTo(kids:List GT)(i j:Nat)(X Y:GT):Prop:=
 (Y=.nil->A4 prog 206 [.gref 1 kids.length,iD i] [(1,.grow (kids.map Ar) 1)] (.gref 0 (kids.length-1)) [(0,.grow ((Cr (kids.set j X) (j+1)).map Ar) 1)])/\
 (Y≠ .nil->A4 prog 206 [.gref 1 kids.length,iD i] [(1,.grow (kids.map Ar) 1)] (.gref 0 kids.length) [(0,.grow (((kids.set j X).set (j+1) Y).map Ar) 1)])
def Mends(h:Nat)(a b X Y:GT):Prop:=
 Wf h X/\4<=X.size/\((Y=.nil/\Af h X=Af h a++Af h b)\/(Wf h Y/\4<=Y.size/\Af h X++Af h Y=Af h a++Af h b))/\
 ∀(kids:List GT) (i j:Nat),j=i-1->kids.length<=9->j+1<kids.length->i<kids.length->kids.getD j .nil=a->kids.getD (j+1) .nil=b->MendTo kids i j X Y
def EN(l:Lga):(AO l).size=l.length:=by simp[GT.size,AO,GT.es,GT.kids]
def EP(l:List GT):(AP l).size=l.length:=by simp[GT.size,AP,GT.es,GT.kids]
def lastD(l:List α)(d:α)(h:0<l.length):l.take (l.length-1)++[l.getD (l.length-1) d]=l:=by
 grind [Sc]
def headD(l:List α)(d:α)(h:0<l.length):l.getD 0 d::l.drop 1=l:=by
 have:=Sc l d h;grind
def mends0{r:Lga}(O:OkE l)(hr:OkE r)(a1:l≠[])(a4:r≠[])(hs:Srt (l++r))(hz:(l.length=3/\4<=r.length)\/(r.length=3/\4<=l.length)):∃X Y,Mends 0 (AO l) (AO r) X Y:=by
 have h8:=O.hl;have a2:=hr.hl;have a3:∀e ∈ l++r,Sm e.2:=λe U=>by rcases A2Y.1 U with h|h;exact O.hs e h;exact hr.hs e h
 have a5:(AO l).es=l:=rfl;have a6:(AO r).es=r:=rfl;by_cases h1:4<l.length
 ·have e1:=lastD l zM Om;have V:l.take (l.length-1)++(l.getD (l.length-1) zM::r)=l++r:=by
   grind
  have N:=hs;rw[<-V] at N;have C:OkE (l.take (l.length-1)):=EG So' (λe U=>by grind) (A35.1 N).1;have Z:OkE (l.getD (l.length-1) zM::r):=EG So' (λe U=>by grind) (A35.1 N).2.1;refine⟨AO (l.take (l.length-1)),AO (l.getD (l.length-1) zM::r),CM C (λh=>by grind),by rw[EN];simp;omega,.inr ⟨CM Z Sq',by rw[EN];simp;omega,V⟩,λkids i j hj hn a0 hi M hb=>⟨λhY=>by simp[AO] at hY,λhY=>?_⟩⟩;have hp:=c_pairE1 l r h1 Om Om a2 C Z;exact Wh kids i j _ _ hj hn a0 hi (by simp[AO]) hY (by rw[M];rfl) (by simp_all) (by simp_all) (by rw[M];exact O.hs) (by simp_all) (by simp_all) (by rw[hb];exact hr.hs) (by simp_all)
 by_cases h2:4<r.length
 ·have e1:=headD r zM Om;have V:(l++[r.getD 0 zM])++r.drop 1=l++r:=by
   simp_all
  have N:=hs;rw[<-V] at N;have C:OkE (l++[r.getD 0 zM]):=EG So' (λe U=>by grind) (A35.1 N).1;have Z:OkE (r.drop 1):=EG So' (λe U=>by grind) (A35.1 N).2.1;refine⟨AO (l++[r.getD 0 zM]),AO (r.drop 1),CM C Sq',by rw[EN];simp;omega,.inr ⟨CM Z (λh=>by grind),by rw[EN];simp;omega,V⟩,λkids i j hj hn a0 hi M hb=>⟨λhY=>by simp[AO] at hY,λhY=>?_⟩⟩;have hp:=c_pairE2 l r Om h2 Om C Z;exact Wh kids i j _ _ hj hn a0 hi (by simp[AO]) hY (by rw[M];rfl) (by simp_all) (by simp_all) (by rw[M];exact O.hs) (by simp_all) (by simp_all) (by rw[hb];exact hr.hs) (by simp_all)
 ·have C:OkE (l++r):=EG So' a3 hs;refine⟨AO (l++r),.nil,CM C (by simp[a1]),by rw[EN];simp;omega,.inl ⟨rfl,rfl⟩,λkids i j hj hn a0 hi M hb=>⟨λ_=>?_,λhY=>absurd rfl hY⟩⟩;have hp:=c_pairE3 l r Om Om Om C;exact c_mendE1 kids i j _ hj hn a0 hi (by simp[AO]) (by rw[M];rfl) (by simp_all) (by simp_all) (by rw[M];exact O.hs) (by simp_all) (by simp_all) (by rw[hb];exact hr.hs) (by simp_all)
def mends1{l r:List GT}(hl:∀k ∈ l,Wf h k/\4<=k.size)(hr:∀k ∈ r,Wf h k/\4<=k.size)(h8:l.length<=8)(a5:r.length<=8)(hs:Srt (l.flatMap (Af h)++r.flatMap (Af h)))(hb:((l++r).flatMap (Af h)).length<=4611686018427387904)(hz:(l.length=3/\4<=r.length)\/(r.length=3/\4<=l.length)):∃X Y,Mends (h+1) (AP l) (AP r) X Y:=by
 have a3:∀k ∈ l++r,Wf h k/\4<=k.size:=λe he=>by grind
 rw[<-A2C] at hs;have a0:(AP l).kids=l:=rfl;have a1:(AP r).kids=r:=rfl;have a6:(AP l).height≠0:=by
  show(l.getD 0 .nil).height+1≠0;have:=((hl _ (Ae (d:=GT.nil) (show 0<l.length by omega))).1).d.height;omega
 have part:∀a b:List GT,a++b=l++r->2<=a.length->a.length<=8->2<=b.length->b.length<=8->OkK a/\OkK b/\(Wf (h+1) (En a)/\Af (h+1) (En a)=a.flatMap (Af h)/\(En a).size=a.length)/\(Wf (h+1) (En b)/\Af (h+1) (En b)=b.flatMap (Af h)/\(En b).size=b.length):=by
  intro a b he a2 a8 b2 b8;rw[<-he] at a3 hs hb;rw[A2C] at hs hb;rw[A2a] at hb;have pa:=A35.1 hs;exact⟨FP Om a8 (by grind) pa.1 Om,FP Om b8 (by grind) pa.2.1 Om,
   Em a2 a8 (by grind) pa.1,Em b2 b8 (by grind) pa.2.1⟩
 have a4:∀a b:List GT,a++b=l++r->a.flatMap (Af h)++b.flatMap (Af h)=Af (h+1) (AP l)++Af (h+1) (AP r):=λa b he=>by
  rw[<-A2C,he,A2C];rfl
 by_cases h1:4<l.length
 ·have e1:=lastD l .nil Om;have M:l.take (l.length-1)++(l.getD (l.length-1) .nil::r)=l++r:=by
   conv=>rhs;rw[<-e1]
   simp
  obtain⟨N,o2,⟨C,w2,O⟩,U,v2,v3⟩:=part _ _ M So' So' So' So';refine⟨_,_,C,by rw[O];simp;omega,.inr ⟨U,by rw[v3];simp;omega,by rw[w2,v2];exact a4 _ _ M⟩,λkids i j V hn Z hi ha hb=>⟨λhY=>absurd hY U.d.nn,λhY=>?_⟩⟩;have hp:=c_pairK1 l r h1 Om Om a5 N o2;exact Wg kids i j _ _ V hn Z hi C.d.nn hY (by simp_all) (by rw[ha,a0];omega) (by simp_all) (by rw[hb,a1];omega) (by simp_all) (by simp_all)
 by_cases h2:4<r.length
 ·have e1:=headD r .nil Om;have M:(l++[r.getD 0 .nil])++r.drop 1=l++r:=by
   simp_all
  obtain⟨N,o2,⟨C,w2,O⟩,U,v2,v3⟩:=part _ _ M So' So' So' So';refine⟨_,_,C,by rw[O];simp;omega,.inr ⟨U,by rw[v3];simp;omega,by rw[w2,v2];exact a4 _ _ M⟩,λkids i j V hn Z hi ha hb=>⟨λhY=>absurd hY U.d.nn,λhY=>?_⟩⟩;have hp:=c_pairK2 l r Om Om h2 Om N o2;exact Wg kids i j _ _ V hn Z hi C.d.nn hY (by simp_all) (by rw[ha,a0];omega) (by simp_all) (by rw[hb,a1];omega) (by simp_all) (by simp_all)
 ·rw[A2C,A2a] at hb;have N:OkK (l++r):=FP So' So' (by simp_all) hs (by rw[A2C,A2a];omega);obtain⟨C,w2,O⟩:=Em So' So' a3 hs;refine⟨_,.nil,C,by rw[O];simp;omega,(by simp_all),λkids i j V hn Z hi ha hb=>⟨λ_=>?_,λhY=>absurd rfl hY⟩⟩;have hp:=c_pairK3 l r Om Om Om Om N;exact c_mendK1 kids i j _ V hn Z hi C.d.nn (by simp_all) (by rw[ha,a0];omega) (by simp_all) (by rw[hb,a1];omega) (by simp_all) (by simp_all)
def mends:∀(h:Nat) (a b:GT),Wf h a->Wf h b->Srt (Af h a++Af h b)->(Af h a++Af h b).length<=4611686018427387904->(a.size=3/\4<=b.size)\/(b.size=3/\4<=a.size)->∃X Y,Mends h a b X Y
 |0,a,b,ha,hb,hs,_,hz=>by
  obtain⟨l,rfl,C,hn⟩:=ha;obtain⟨r,rfl,hr,M⟩:=hb;exact mends0 C hr hn M hs hz
 |h+1,a,b,ha,hb,hs,hbd,hz=>by
  obtain⟨l,rfl,V,h8,N,Z⟩:=ha;obtain⟨r,rfl,a0,O,U,a1⟩:=hb;rw[EP,EP] at hz;exact mends1 N U h8 O hs (by rw[A2C];exact hbd) hz
def WoR(k:Baa):Nat->GT->GT->Prop
 |0,t,t'=>∃l,t'=AO l/\OkE l/\l=BX k (Af 0 t)/\t.size<=l.length+1
 |h+1,t,t'=>(Wf (h+1) t'/\Af (h+1) t'=BX k (Af (h+1) t)/\t.size<=t'.size+1)\/(t.size=2/\Wf h t'/\Af h t'=BX k (Af (h+1) t))
def P7(h:∀x ∈ l,x.1≠k):BX k l=l:=A3Q.2 λy C=>by grind
def Vb(k:Baa)(a b:Lga):D9 k (a++b)=(D9 k a ||D9 k b):=List.any_append
def Rp(h:∀x ∈ l,x.1≠k):D9 k l=false:=by
 grind [D9]
def UB{k:Baa}:∀ {l:Lga},Srt l->l.length<=(BX k l).length+1
 |[],_=>Sq'
 |x::l,h=>by
  unfold BX;by_cases C:x.1=k
  ·rw[List.filter_cons_of_neg (by simp_all)];have:l.filter (λx=>decide (x.1≠k))=l:=P7 λy M N=>by
    have:=h.head y M;rw[C,N,EL] at this;cases this
   grind
  ·rw[List.filter_cons_of_pos (by simp_all)];have:=UB (k:=k) h.tail;grind [BX]
def getD_set_ne{l:List α}{x d:α}(h:i≠j):(l.set i x).getD j d=l.getD j d:=by
 simp_all
def Vn{l:List α}{x d:α}(h:i<l.length):(l.set i x).getD i d=x:=by
 simp_all
def split4(l:List α)(d:α)(h:j+1<l.length):l=l.take j++l.getD j d::l.getD (j+1) d::l.drop (j+2):=by
 grind [Sc,C7]
def set_set(l:List α)(X Y:α)(h:j+1<l.length):(l.set j X).set (j+1) Y=l.take j++X::Y::l.drop (j+2):=by
 apply A3F;intro n;grind
def cut_set(l:List α)(X:α)(h:j+1<l.length):Cr (l.set j X) (j+1)=l.take j++X::l.drop (j+2):=by
 unfold Cr;rw[set3 l X Om];have M:l.take j++X::l.drop (j+1)=(l.take j++[X])++l.drop (j+1):=Sq';have C:(l.take j++[X]).length=j+1:=So';rw[M,A3P C,List.drop_append,C];simp_all
def NK:∀(h:Nat) (t:GT) (k:Baa),Wf h t->(Af h t).length<=1099511627776->
  (D9 k (Af h t)=false/\A0 prog 132 [Ah t,sD k] (.tup [Ah t,bD false]))\/
  (D9 k (Af h t)=true/\∃t',A0 prog 132 [Ah t,sD k] (.tup [Ah t',bD true])/\WoR k h t t')
 |0,t,k,hw,hb=>by
  obtain⟨l,rfl,V,hn⟩:=hw;have aa:(AO l).es=l:=rfl;have Z:Srt l:=NR V.hr;have hh:=SZ k l Z;have a0:Af 0 (AO l)=l:=rfl;rw[a0];cases hk:D9 k l with
  |false=>
   rw[hk] at hh;exact .inl ⟨rfl,c_wo0 (AO l) k rfl hn V.hl V.hs (by rw[aa];exact KY Z k) hh⟩
  |true=>
   rw[hk] at hh;have hc:=Nz k l Z hh;have a4:OkE (BX k l):=EG (A2N (A2S _ _) V.hl) (λe he=>V.hs e (A2U.1 he).1) (Jm Z);have O:=c_wo1 (AO l) k rfl V.hl V.hs (by rw[aa];exact KY Z k) hh (HF hh) (by simp_all);rw[aa,hc] at O;exact .inr ⟨rfl,_,O,_,rfl,a4,rfl,by rw[EN];exact UB Z⟩
 |h+1,t,k,hw,hb=>by
  have d:=hw.d;obtain⟨l,rfl,h2,h8,hk,hs⟩:=hw;have U:(AP l).kids=l:=rfl;have a0:Af (h+1) (AP l)=l.flatMap (Af h):=rfl;rw[a0] at hb|-;have ab:∀k ∈ l,Wf h k:=λk al=>(hk k al).1;obtain⟨s1,s2,_,_⟩:=HC Om ab hs;obtain⟨p1,p2,p3⟩:=Mm Om ab hs;have am:l.getD (AS l k) .nil ∈ l:=Ae s1;have ac:=hk _ am;have a7:(AP l).height≠0:=by rw[d.height];simp;omega
  have n1:∀x ∈ (l.take (AS l k)).flatMap (Af h),x.1≠k:=λx C=>A00 (p1 x C);have n2:∀x ∈ (l.drop (AS l k+1)).flatMap (Af h),x.1≠k:=λx C=>(A00 (p2 x C)).symm;have an:D9 k (l.flatMap (Af h))=D9 k (Af h (l.getD (AS l k) .nil)):=by
   rw[p3,Vb,Vb,Rp n1,Rp n2,A42,A43]
  have ax:BX k (l.flatMap (Af h))=(l.take (AS l k)).flatMap (Af h)++BX k (Af h (l.getD (AS l k) .nil))++(l.drop (AS l k+1)).flatMap (Af h):=by
   rw[p3,UC,UC,P7 n1,P7 n2]
  have a5:Srt (BX k (l.flatMap (Af h))):=Jm hs;have ay:(BX k (l.flatMap (Af h))).length<=(l.flatMap (Af h)).length:=A2S _ _;rw[an];rcases NK h (l.getD (AS l k) .nil) k ac.1 (by grind) with⟨q1,q2⟩|⟨q1,K,q2,q3⟩
  ·exact .inl ⟨q1,c_wo2 (AP l) k _ a7 (by grind) h8 s2 s1 q2⟩
  refine .inr ⟨q1,?_⟩;have hK:Wf h K/\Af h K=BX k (Af h (l.getD (AS l k) .nil))/\3<=K.size:=by
   have az:=ac.2;cases h with
   |zero=>
    obtain⟨m,rfl,m1,m2,m3⟩:=q3;refine⟨CM m1 (λhm=>?_),m2,by rw[EN];omega⟩;grind
   |succ h=>
    rcases q3 with⟨m1,m2,m3⟩|⟨m1,_⟩
    ·exact⟨m1,m2,Om⟩
    ·omega
  obtain⟨k1,k2,k3⟩:=hK;have ao:=k1.d.size;generalize hi:AS l k=i at*;have hf:(l.set i K).flatMap (Af h)=BX k (l.flatMap (Af h)):=by
   grind [set3]
  by_cases h4:4<=K.size
  ·have N:∀x ∈ l.set i K,Wf h x/\4<=x.size:=by grind
   have a4:OkK (l.set i K):=FP So' So' (λx C=>(N x C).1) (by grind) (by grind);have O:=c_wo3 (AP l) k K a7 (by grind) h8 s2 (by grind) (by grind) k1.d.nn h4 ao (by grind);rw[U,hi] at O;obtain⟨w1,w2,w3⟩:=Em So' So' N (by grind);exact⟨_,O,.inl ⟨w1,by grind,by rw[w3,A3l,EP];omega⟩⟩
  ·
   have b4:K.size=3:=Om;have b5:i-1+1<l.length:=Om;have ad:(l.set i K).length=l.length:=Sq';generalize hq:l.set i K=q at*;have a8:∀n,n<q.length->Wf h (q.getD n .nil)/\(n≠i->4<=(q.getD n .nil).size)/\(n=i->(q.getD n .nil).size=3):=λn hn=>by
    rw[<-hq];by_cases ae:n=i
    ·subst ae;rw[Vn s1];exact(by grind)
    ·rw[getD_set_ne (λh=>ae h.symm)];have:=hk _ (Ae (d:=GT.nil) Om);exact(by grind)
   generalize hj:i-1=j at*;have ap:Srt (q.flatMap (Af h)):=by rw[hf];exact a5
   have e4:=split4 q .nil (show j+1<q.length by omega);have a9:q.flatMap (Af h)=(q.take j).flatMap (Af h)++(Af h (q.getD j .nil)++Af h (q.getD (j+1) .nil))++(q.drop (j+2)).flatMap (Af h):=by
    conv=>lhs;rw[e4]
    simp
   have ah:=ap;rw[a9] at ah;have aq:=(A35.1 (A35.1 ah).1).2.1;have ai:=congrArg List.length a9;rw[hf] at ai;simp only[A2a] at ai;obtain⟨a1,a2,a3⟩:=a8 j Om;obtain⟨b1,b2,b3⟩:=a8 (j+1) Om;obtain⟨X,Y,x1,x2,x3,x4⟩:=mends h (q.getD j .nil) (q.getD (j+1) .nil) a1 b1 aq (by rw[A2a];omega) (by
    by_cases b6:i=j
    ·exact Om
    ·exact Om)
   obtain⟨c1,c2⟩:=x4 q i j hj.symm Om Om Om rfl rfl;have aj:∀x ∈ q.take j,Wf h x/\4<=x.size:=λx C=>by
    obtain⟨n,n1,n2,rfl⟩:=Kj (d:=GT.nil) C;have:=a8 n n2;exact⟨this.1,this.2.1 Om⟩
   have ak:∀x ∈ q.drop (j+2),Wf h x/\4<=x.size:=λx C=>by
    obtain⟨n,n1,n2,rfl⟩:=Kk (d:=GT.nil) C;have:=a8 n n2;exact⟨this.1,this.2.1 Om⟩
   rcases x3 with⟨rfl,x5⟩|⟨y1,y2,x5⟩
   ·
    have ar:=cut_set q X (show j+1<q.length by omega);have M:(q.take j++X::q.drop (j+2)).flatMap (Af h)=BX k (l.flatMap (Af h)):=by
     rw[A2C,A2T,x5,<-hf,a9];simp
    have N:∀x ∈ q.take j++X::q.drop (j+2),Wf h x/\4<=x.size:=λx C=>by
     simp at C;rcases C with C|rfl|C
     ·exact aj x C
     ·exact⟨x1,x2⟩
     ·exact ak x C
    have a6:(q.take j++X::q.drop (j+2)).length=l.length-1:=So';have hm:=c1 rfl;rw[ar] at hm;generalize q.take j++X::q.drop (j+2)=z at*;have a4:OkK z:=FP Om Om (λx C=>(N x C).1) (by rw[M];exact a5) (by rw[M];omega);have O:=c_wo4 (AP l) k K a7 (by rw[U];omega) h8 s2 (by rw[U,hi];exact s1) (by rw[U,hi];exact q2) k1.d.nn Om z Om a4 (by
     rw[U,hi,hq];have e5:q.length=l.length:=ad;rw[e5,<-a6] at hm;exact hm)
    refine⟨_,O,?_⟩;by_cases au:2<=z.length
    ·obtain⟨w1,w2,w3⟩:=Em (l:=z) (h:=h) au Om N (by rw[M];exact a5);exact .inl ⟨w1,by rw[w2,M,a0],by rw[w3,EP];omega⟩
    ·have av:z.length=1:=Om
     match z,av,N,M with
     |[x],_,N,M=>
      refine .inr ⟨by rw[EP];simp at a6;omega,(N x Sq').1,?_⟩;rw[a0,<-M];simp[En]
   ·
    have aw:=set_set q X Y (show j+1<q.length by omega);have M:(q.take j++X::Y::q.drop (j+2)).flatMap (Af h)=BX k (l.flatMap (Af h)):=by
     rw[A2C,A2T,A2T,<-hf,a9,<-x5];simp
    have N:∀x ∈ q.take j++X::Y::q.drop (j+2),Wf h x/\4<=x.size:=λx C=>by
     simp at C;rcases C with C|rfl|rfl|C
     ·exact aj x C
     ·exact⟨x1,x2⟩
     ·exact⟨y1,y2⟩
     ·exact ak x C
    have a6:(q.take j++X::Y::q.drop (j+2)).length=l.length:=So';have hm:=c2 y1.d.nn;rw[aw] at hm;generalize q.take j++X::Y::q.drop (j+2)=z at*;have a4:OkK z:=FP Om Om (λx C=>(N x C).1) (by rw[M];exact a5) (by rw[M];omega);have O:=c_wo4 (AP l) k K a7 (by rw[U];omega) h8 s2 (by rw[U,hi];exact s1) (by rw[U,hi];exact q2) k1.d.nn Om z Om a4 (by
     rw[U,hi,hq];have e5:q.length=l.length:=ad;have e6:q.length=z.length:=Om;rw[e5,a6.symm] at hm;rw[<-a6];exact hm)
    obtain⟨w1,w2,w3⟩:=Em (l:=z) (h:=h) Om Om N (by rw[M];exact a5);exact⟨_,O,.inl ⟨w1,by rw[w2,M,a0],by rw[w3,EP];omega⟩⟩
def DA(t:GT):Ah t=.val (.pointer none)\/∃cs,Ah t=.ptr cs 0:=by
 cases t with
 |nil=>exact .inl Bl
 |node=>exact .inr ⟨_,Bi ..⟩
def c_get1(t:GT)(k:Baa)(i:Nat)(hi:i<t.es.length)(hs:∀e ∈ t.es,Sm e.2):A0 prog 239 [iD i,.ptr [Ah t] 0,.ptr [sD k] 0] (bD (!ltS (t.es.getD i zM).1 k)):=by
 have hE:=Tu t i hi hs;have C:=A6 t;refine Zf [] ?_
 (have z:=Za @Aj C;push_cast[z]<;>repeat' (first|refine Zc hE ?_|apply Za)<;>push_cast[z])
def XK(v:GV):An (Di v)=true:=by
 have h:=Bn v;rw[A3] at h;rw[Di];simpa[An,D.pure] using h
def Ta(v:GV):(Di v).length=6:=rfl
def A1f(v:GV):(Di v).all AV=true:=rfl
def WM(v:GV):(Di v).take 6=Di v:=rfl
attribute [push_cast] XK Ta A1f WM
def c_EntryT(t:GT)(i:Nat)(hi:i<t.es.length)(hs:∀e ∈ t.es,Sm e.2):A0 prog 240 [Ah t,iD i] (.tup [.agg (.val (.string (t.es.getD i zM).1)::Di (t.es.getD i zM).2),bD true]):=by
 cases t with
 |nil=>exact absurd hi (by simp[GT.es])
 |node e k hh c f l M=>
  simp only[GT.es] at hi hs|-;have C:=Bc hi;have hr:=NE (e.getD i zM).2 (hs _ (Ae hi));have h0:decide ((i:Int)<0)=false:=Sq';have h1:decide ((e.length:Int)<=i)=false:=So';rw[Bi];refine Zf [] ?_
  (have z:=Za C<|Za @Aj<|Za h0 h1;push_cast[z]<;>repeat' (first|refine Zc (hr ..) ?_|exact Zo|apply Za)<;>push_cast[z])<;>try omega
def YW:loL z6 (Di zV):=B0 z6
def ZE(t:GT)(k:Baa)(h0:t.height=0)(h8:t.es.length<=8)(V:t.kids=[])(hs:∀e ∈ t.es,Sm e.2)(hm:∀i j,i<=j->j<t.es.length->ltS (t.es.getD i zM).1 k=false->ltS (t.es.getD j zM).1 k=false):
  A0 prog 174 [Ah t,sD k] (.tup [.agg (Di (if Cp t.es k then(t.es.getD (AL t.es k) zM).2 else zV)),bD (Cp t.es k)]):=by
 have M:=BP t;rw[h0] at M;have Y:t.size=t.es.length:=by simp[GT.size,V]
 have N:=MB t Om;rw[Y] at N;have C:=A6 t;have O:=LD t.es.length 239 [.ptr [Ah t] 0,.ptr [sD k] 0] (λi=>!ltS (t.es.getD i zM).1 k) (by simp only[An,D.pure,C,A2L]) Om (λi hi=>c_get1 t k i hi hs) (λi j h Z h2=>by have:=hm i j h Z;revert this h2;cases ltS (t.es.getD i zM).1 k<;>simp);change A0 _ _ _ (iD (AL t.es k)) at O;rcases A2z (AL t.es k) t.es.length with hp|hp
 ·have hE:=c_EntryT t (AL t.es k) hp hs;by_cases U:(t.es.getD (AL t.es k) zM).1=k
  ·have hh:Cp t.es k=true:=by unfold Cp;rw[decide_eq_true hp,decide_eq_true U];rfl
   have b1:decide ((t.es.getD (AL t.es k) zM).1=k)=true:=decide_eq_true U;rw[hh];simp only[if_true];generalize AL t.es k=q at*;generalize t.es.getD q zM=e at*;rcases DA t with hf|⟨cs,hf⟩;all_goals
    rw[hf] at M N O hE C|-;try simp only[D.pure] at C
    refine Zf [0,8] ?_
    (have z:=Za @Aj<|Za C b1;push_cast[z]<;>repeat' (first|refine Zc M ?_|refine Zc (N ..) ?_|refine Zc O ?_|refine Zc hE ?_|with_reducible apply Za)<;>push_cast[z])
  ·have hh:Cp t.es k=false:=by unfold Cp;rw[decide_eq_false U,Bool.and_false]
   have b1:decide ((t.es.getD (AL t.es k) zM).1=k)=false:=decide_eq_false U;rw[hh];simp only[if_false,A2G];generalize AL t.es k=q at*;generalize t.es.getD q zM=e at*;rcases DA t with hf|⟨cs,hf⟩;all_goals
    rw[hf] at M N O hE C|-;try simp only[D.pure] at C
    refine Zf [0,8] ?_
    (have z:=Za @Aj<|Za C b1;push_cast[z]<;>repeat' (first|refine Zc M ?_|refine Zc (N ..) ?_|refine Zc O ?_|refine Zc hE ?_|with_reducible apply Za)<;>push_cast[z])
    all_goals exact YW
 ·have hh:Cp t.es k=false:=by unfold Cp;rw[Df',Bool.false_and]
  have hE:=c_Entry0 t (AL t.es k) hp (by have:=Sv t.es k;omega);rw[hh];simp only[if_false,A2G];generalize AL t.es k=q at*;rcases DA t with hf|⟨cs,hf⟩;all_goals
   rw[hf] at M N O hE C|-;try simp only[D.pure] at C
   refine Zf [0,8] ?_
   (have z:=Za @Aj C;push_cast[z]<;>repeat' (first|refine Zc M ?_|refine Zc (N ..) ?_|refine Zc O ?_|refine Zc hE ?_|with_reducible apply Za)<;>push_cast[z])
   all_goals exact YW
def c_getKT(t:GT)(k:Baa)(h0:0<t.height)(h1:0<t.kids.length)(h8:t.kids.length<=8)(hm:∀i j,i<=j->j<t.kids.length->ltS k (t.kids.getD i .nil).first=true->ltS k (t.kids.getD j .nil).first=true)(hi:AS t.kids k<t.kids.length)(v:GV)(b:Bool)
  (O:A0 prog 174 [Ah (t.kids.getD (AS t.kids k) .nil),sD k] (.tup [.agg (Di v),bD b])):
  A0 prog 174 [Ah t,sD k] (.tup [.agg (Di v),bD b]):=by
 have M:=BP t;have b0:decide (0<t.height)=true:=decide_eq_true h0;have N:=Fi t h1 Om;have U:=ES t.kids k hm Om;have V:=Bx hi;have C:=A6 t;rcases DA t with hf|⟨cs,hf⟩;all_goals
  rw[hf] at M N C|-;try simp only[D.pure] at C
  refine Zf [0,8] ?_
  (have z:=Za b0<|Za V<|Za @Ar.eq_1 C;push_cast[z]<;>repeat' (first|refine Zc M ?_|refine Zs [] N ?_|refine Zq (U ..) ?_ ?_|refine Zc (O ..) ?_|exact Zo|apply Za)<;>push_cast[z])
  all_goals first|omega|(simp;done)|exact B0 _|skip
def AR(o:Option GV):GV:=o.getD zV
def Z5:∀(h:Nat) (t:GT) (k:Baa),Wf h t->(Af h t).length<=1099511627776->A0 prog 174 [Ah t,sD k] (.tup [.agg (Di (AR (Am k (Af h t)))),.val (.bool (Am k (Af h t)).isSome)])
 |0,t,k,hw,hb=>by
  obtain⟨l,rfl,C,hn⟩:=hw;have V:Srt l:=NR C.hr;have M:=T5 k l V;have h:=ZE (AO l) k rfl C.hl rfl C.hs (KY V k);have N:Af 0 (AO l)=l:=rfl;have Z:(AO l).es=l:=rfl;rw[Z] at h;rw[N,<-M];cases hh:Cp l k with
  |true=>rw [hh] at h;exact h
  |false=>rw [hh] at h;exact h
 |h+1,t,k,hw,hb=>by
  have d:=hw.d;obtain⟨l,rfl,h2,h8,hk,hs⟩:=hw;have a0:(AP l).kids=l:=rfl;have N:Af (h+1) (AP l)=l.flatMap (Af h):=rfl;rw[N] at hb|-;have O:∀k ∈ l,Wf h k:=λk a1=>(hk k a1).1;obtain⟨s1,s2,_,_⟩:=HC (k:=k) (show 1<=l.length by omega) O hs;obtain⟨p1,p2,p3⟩:=Mm (k:=k) (show 1<=l.length by omega) O hs;have Y:l.getD (AS l k) .nil ∈ l:=Ae s1;have n1:((l.take (AS l k)).flatMap (Af h)).find? (λx=>decide (x.1=k))=none:=List.find?_eq_none.2 λx U=>by simpa using A00 (p1 x U)
  have n2:((l.drop (AS l k+1)).flatMap (Af h)).find? (λx=>decide (x.1=k))=none:=List.find?_eq_none.2 λx U=>by simpa using(A00 (p2 x U)).symm
  have M:Am k (l.flatMap (Af h))=Am k (Af h (l.getD (AS l k) .nil)):=by
   rw[p3];simp only[Am,List.find?_append,n1,n2,Option.none_or,Option.or_none]
  rw[M];exact c_getKT (AP l) k (by rw[d.height];omega) (by rw[a0];omega) h8 s2 s1 _ _ (Z5 h _ k (O _ Y) (A2N (PA Y) hb))
def Dw(t:GT)(l:Lga):Prop:=(t=.nil/\l=[])\/∃h,Wf h t/\Af h t=l
abbrev AF(t:GT):D:=.agg [Ah t]
def Dw.srt{t:GT}{l:Lga}(h:Dw t l):Srt l:=by
 rcases h with⟨_,rfl⟩|⟨h,C,rfl⟩
 ·exact List.Pairwise.nil
 ·exact C.d.srt
def Dw.count{t:GT}{l:Lga}(h:Dw t l):t.count=l.length:=by
 rcases h with⟨rfl,rfl⟩|⟨h,C,rfl⟩
 ·rfl
 ·exact C.d.count
def c_getNT(k:Baa):A0 prog 174 [Ah .nil,sD k] (.tup [.agg (Di zV),bD false]):=
 ZE .nil k rfl (by simp[GT.es]) rfl (by simp[GT.es]) (by simp[GT.es])
def QF(h:Dw t l)(hb:l.length<=1099511627776)(k:Baa):A0 prog 108 [AF t,sD k] (.tup [.agg (Di (AR (Am k l))),.val (.bool (Am k l).isSome)]):=by
 have C:A0 prog 174 [Ah t,sD k] (.tup [.agg (Di (AR (Am k l))),.val (.bool (Am k l).isSome)]):=by
  rcases h with⟨rfl,rfl⟩|⟨h,M,rfl⟩
  ·exact c_getNT k
  ·exact Z5 h t k M hb
 generalize AR (Am k l)=v at*;generalize(Am k l).isSome=b at*;have N:=A6 t;refine Zf [0] ?_
 (have z:=N;push_cast[z]<;>repeat' (first|refine Zc (C ..) ?_|apply Za)<;>push_cast[z])
 all_goals first|exact B0 _|exact Av _|skip
def U3(h:Dw t l)(hb:l.length<=1099511627776)(k:Baa):A0 prog 108 [AF t,sD k] (.tup [.agg (A7 (AR (Am k l))),.val (.bool (Am k l).isSome)]):=(QF h hb k).res (lo_T _ _)
def c_Put1(t:GT)(k:Baa)(v:GV)(L:GT)(hc:A0 prog 90 [Ah t,.agg (A8 (k,v))] (.tup [Ah L,Ah .nil])):
  A0 prog 54 [AF t,sD k,.agg (A7 v)] (AF L):=by
 have M:=A6 t;have C:=A6 L;rw[Aj,Bl] at hc;simp only at hc;simp only[AF];rcases DA L with hf|⟨cs,hf⟩;all_goals
  rw[hf] at hc C|-;try simp only[D.pure] at C
  refine Zf [0,4] ?_
  (have z:=Za M C;push_cast[z]<;>repeat' (first|refine Zc (hc ..) ?_|apply Za)<;>push_cast[z])
  all_goals first|exact B0 _|exact Av _|skip
def c_Put2(t:GT)(k:Baa)(v:GV)(L R:GT)(U:R≠ .nil)(O:OkK [L,R])(hc:A0 prog 90 [Ah t,.agg (A8 (k,v))] (.tup [Ah L,Ah R])):
  A0 prog 54 [AF t,sD k,.agg (A7 v)] (AF (En [L,R])):=by
 have V:=A6 t;have C:=Eu [L,R] Sq' O;have Y:L≠ .nil:=(O.hn 0 Sq').1;have oI:=A6 (En [L,R]);obtain⟨cs,Z⟩:=Cl U;obtain⟨ds,a0⟩:=Cl Y;have M:=A6 R;have N:=A6 L;simp only[A2m,A2E,Ar] at C;rw[Aj] at hc;simp only at hc;rw[Z] at hc C M;rw[a0] at hc C N;simp only[D.pure] at M N;simp only[AF];rcases DA (En [L,R]) with hf|⟨es,hf⟩;all_goals
  rw[hf] at C oI|-;try simp only[D.pure] at oI
  refine Zf [0,4] ?_
  (have z:=Za V<|Za M<|Za N oI;push_cast[z]<;>repeat' (first|refine Zc (hc ..) ?_|refine Zg C ?_ ?_|apply Za)<;>push_cast[z])
  all_goals first|exact B0 _|exact Av _|skip
def TZ(h:Dw t l)(hb:l.length<=1099511627775)(k:Baa)(v:GV)(N:Sm v):∃U,A0 prog 54 [AF t,sD k,.agg (A7 v)] (AF U)/\Dw U (B4 (k,v) l):=by
 rcases h with⟨rfl,rfl⟩|⟨h,V,rfl⟩
 ·have O:OkE [(k,v)]:=EG Sq' (λe he=>by rw[A2b.1 he];exact N) (List.pairwise_singleton _ _);exact⟨_,c_Put1 .nil k v _ (c_withN .nil (k,v) rfl rfl N),.inr ⟨0,CM O Sq',rfl⟩⟩
 ·obtain⟨L,R,hc,a0⟩:=Yr h t (k,v) V N Om;obtain⟨Y,o2,o3⟩:=a0;have a1:=(Dp (k,v) (Af h t)).1;have Z:=F6 (e:=(k,v)) V.d.srt;rcases o3 with⟨rfl,C⟩|⟨C,o5,o6,o7⟩
  ·exact⟨_,c_Put1 t k v L hc,.inr ⟨h,Y,C⟩⟩
  ·have hf:[L,R].flatMap (Af h)=B4 (k,v) (Af h t):=by simpa using o7
   have hk:∀x ∈ [L,R],Wf h x/\4<=x.size:=λx M=>by
    simp only[A2s,A3b,or_false] at M;rcases M with rfl|rfl
    ·exact⟨Y,o6⟩
    ·exact⟨C,o5⟩
   have O:OkK [L,R]:=FP Sq' Sq' (λx M=>(hk x M).1) (by rw[hf];exact Z) (by rw[hf];omega);obtain⟨w1,w2,w3⟩:=Em (l:=[L,R]) (h:=h) Sq' Sq' hk (by rw[hf];exact Z);exact⟨_,c_Put2 t k v L R C.d.nn O hc,.inr ⟨h+1,w1,by rw[w2,hf]⟩⟩
def Tv(t C:GT)(k:Baa)(b:Bool)(hn:C.count≠0)(hc:A0 prog 132 [Ah t,sD k] (.tup [Ah C,bD b])):
  A0 prog 82 [AF t,sD k] (.tup [AF C,bD b]):=by
 have O:=A6 t;have M:=A6 C;have N:=ND C;have b0:(C.count==0)=false:=by simpa using hn
 simp only[AF];rcases DA C with hf|⟨es,hf⟩;all_goals
  rw[hf] at hc N M|-;try simp only[D.pure] at M
  refine Zf [0] ?_
  (have z:=Za O<|Za M b0;push_cast[z]<;>repeat' (first|refine Zc (hc ..) ?_|refine Zc N ?_|apply Za)<;>push_cast[z])
  all_goals first|exact B0 _|exact Av _|skip
def c_Del2(t C:GT)(k:Baa)(b:Bool)(hn:C.count=0)(hc:A0 prog 132 [Ah t,sD k] (.tup [Ah C,bD b])):
  A0 prog 82 [AF t,sD k] (.tup [AF .nil,bD b]):=by
 have M:=A6 t;have N:=A6 C;have O:=ND C;have b0:(C.count==0)=true:=by simpa using hn
 simp only[AF,Bl];refine Zf [0] ?_
 (have z:=Za M<|Za N b0;push_cast[z]<;>repeat' (first|refine Zc (hc ..) ?_|refine Zc O ?_|apply Za)<;>push_cast[z])
 all_goals first|exact B0 _|exact Av _|skip
def tree_del(h:Dw t l)(hb:l.length<=1099511627775)(k:Baa):∃U,A0 prog 82 [AF t,sD k] (.tup [AF U,bD (D9 k l)])/\Dw U (BX k l):=by
 rcases h with⟨rfl,rfl⟩|⟨h,V,rfl⟩
 ·exact⟨_,c_Del2 .nil .nil k false rfl (c_wo0n .nil k rfl rfl),.inl ⟨rfl,rfl⟩⟩
 ·have d:=V.d;rcases NK h t k V Om with⟨O,M⟩|⟨O,U,M,Y⟩
  ·rw[O,LZ O];exact⟨_,Tv t t k false (by rw[d.count];have:=EW d.ne;omega) M,.inr ⟨h,V,rfl⟩⟩
  ·rw[O];cases h with
   |zero=>
    obtain⟨m,rfl,C,N,Z⟩:=Y;by_cases hm:m=[]
    ·subst hm;exact⟨_,c_Del2 t _ k true rfl M,.inl ⟨rfl,N.symm⟩⟩
    ·refine⟨_,Tv t _ k true ?_ M,.inr ⟨0,CM C hm,N⟩⟩;show(m.length:Int)≠0;have:=EW hm;omega
   |succ h=>
    rcases Y with⟨C,N,Z⟩|⟨_,C,N⟩
    ·exact⟨_,Tv t _ k true (by rw[C.d.count];have:=EW C.d.ne;omega) M,.inr ⟨h+1,C,N⟩⟩
    ·exact⟨_,Tv t _ k true (by rw[C.d.count];have:=EW C.d.ne;omega) M,.inr ⟨h,C,N⟩⟩
theorem BH(k:Baa)(x:GE)(l:Lga):Am k (x::l)=if x.1=k then some x.2 else Am k l:=by
 grind [Am]
def Da{k:Baa}:∀ {l:Lga},(∀y ∈ l,ltS k y.1=true)->Am k l=none
 |[],_=>rfl
 |x::l,h=>by
  rw[BH,if_neg (λe=>A00 (by simp_all) e.symm)];exact Da (by grind)
def FH(e:GE)(k:Baa):∀l:Lga,Am k (B4 e l)=if e.1=k then some e.2 else Am k l
 |[]=>by rw[B4,BH]
 |x::l=>by
  rw[B4];split
  ·rename_i h;rw[BH,BH,FH e k l];by_cases h1:x.1=k
   ·rw[if_pos h1,if_neg (λC=>by rw[h1,C,EL] at h;cases h),if_pos h1]
   simp_all
  grind [BH]
def FG(a k:Baa):∀l:Lga,Am k (BX a l)=if a=k then none else Am k l
 |[]=>by by_cases h:a=k<;>simp [BX,Am,h]
 |x::l=>by
  have C:=FG a k l;unfold BX at C|-;rw[List.filter_cons];by_cases h:x.1=a
  ·simp_all [ne_eq,not_true_eq_false,decide_false,if_false,BH]
  ·simp only[ne_eq,h,not_false_eq_true,decide_true,if_true];rw[BH,BH,C];grind
def FW(k:Baa):∀l:Lga,D9 k l=(Am k l).isSome
 |[]=>rfl
 |x::l=>by
  have C:=FW k l;unfold D9 at C|-;rw[BH,List.any_cons,C];by_cases h:x.1=k<;>simp [h]
def Ns:∀ {a b:Lga},Srt a->Srt b->(∀k,Am k a=Am k b)->a=b
 |[],[],_,_,_=>rfl
 |[],y::b,_,_,h=>by have:=h y.1;rw[BH,if_pos rfl] at this;cases this
 |x::a,[],_,_,h=>by have:=h x.1;rw[BH,if_pos rfl] at this;cases this
 |x::a,y::b,ha,hb,h=>by
  have M:=h x.1;have N:=h y.1;rw[BH,if_pos rfl,BH] at M;rw[BH,BH,if_pos rfl] at N;have U:x.1=y.1:=by
   by_cases h1:y.1=x.1
   ·simp_all
   ·rw[if_neg h1] at M;rw[if_neg (λe=>h1 e.symm)] at N;have V:ltS y.1 x.1=true:=by
     by_cases Y:ltS y.1 x.1=true
     ·exact Y
     ·have Z:=Mg (by simp_all) h1;rw[Da λz C=>Cv Z (hb.head z C)] at M;cases M
    rw[Da λz C=>Cv V (ha.head z C)] at N;cases N
  have hv:x.2=y.2:=by simp_all
  have a0:x=y:=Prod.ext U hv;subst a0;refine congrArg _ (Ns ha.tail hb.tail λk=>?_);by_cases O:x.1=k
  ·subst O;rw[Da λz C=>ha.head z C,Da λz C=>hb.head z C]
  ·have:=h k;rwa[BH,BH,if_neg O,if_neg O] at this
def lk(es:List CE)(k:Baa):Option Ct:=(es.find? λe=>decide (e.1=k)).map (·.2.2)
theorem Fw(k:Baa)(x:CE)(l:List CE):lk (x::l) k=if x.1=k then some x.2.2 else lk l k:=by
 grind [lk]
theorem Ha(k:Baa):∀(es:List CE) (i:Nat),(C5 k es i).map (·.2)=lk es k
 |[],_=>rfl
 |e::es,i=>by
  rw[C5,Fw];by_cases h:k=e.1
  ·simp_all
  ·rw[if_neg h,if_neg (λe=>h e.symm),Ha k es (i+1)]
def VR(k:Baa):∀(es:List CE) (i j:Nat) (s:Ct),C5 k es i=some (j,s)->∃n,es[j-i]? =some (k,n,s)/\i<=j
 |[],_,_,_,h=>by cases h
 |e::es,i,j,s,h=>by
  rw[C5] at h;split at h
  ·grind
  ·obtain⟨n,h1,C⟩:=VR k es (i+1) j s h;grind
structure DP(es:List CE)(ck:Nat):Prop where
 keys:(es.map (·.1)).Nodup
 births:(es.map (·.2.1)).Nodup
 lt:∀e ∈ es,e.2.1<ck
 sm:∀e ∈ es,Sm e.2.2.2/\(e.2.2.1=false->e.2.2.2=zV)/\e.1.size<=64
def SP{es:List CE}(h:k ∉ es.map (·.1)):lk es k=none:=by
 grind [lk]
def Xv{es:List CE}{s:Ct}(h:lk es k=some s):∃n,(k,n,s) ∈ es:=by
 unfold lk at h;rw[Option.map_eq_some_iff] at h;grind
def Mj:∀ {es:List CE} {k:Baa} {n:Nat} {s:Ct},(es.map (·.1)).Nodup->(k,n,s) ∈ es->lk es k=some s
 |x::es,k,n,s,hn,h=>by
  rw[Fw];rcases A2s.1 h with h|h
  ·grind
  ·rw[A2m,A3h] at hn;rw[if_neg (λe=>hn.1 (A2p.2 ⟨_,h,e.symm⟩)),Mj hn.2 h]
def HK{es:List CE}(h:C5 k es 0=none):lk es k=none:=by rw[<-Ha k es 0,h];rfl
def KQ{es:List CE}{s:Ct}(h:C5 k es 0=some (i,s)):lk es k=some s/\∃n,es[i]? =some (k,n,s):=by
 refine⟨by rw[<-Ha k es 0,h];rfl,?_⟩;obtain⟨n,h1,_⟩:=VR k es 0 i s h;simp_all
def lk_key{es:List CE}(h:lk es k=none):k ∉ es.map (·.1):=λhm=>by
 unfold lk at h;rw[Option.map_eq_none_iff,List.find?_eq_none] at h;grind
def A0T(a b:List CE)(k:Baa):lk (a++b) k=(lk a k).or (lk b k):=by
 unfold lk;grind
def Rh{k:Baa}{s s0:Ct}:∀ {es:List CE} {i n:Nat},(es.map (·.1)).Nodup->es[i]? =some (k,n,s0)->∀C,lk (es.modify i λe=>(e.1,e.2.1,s)) C=if k=C then some s else lk es C
 |x::es,0,n,hn,h,C=>by
  grind [Fw]
 |x::es,i+1,n,hn,h,C=>by
  rw[A2m,A3h] at hn;rw[List.modify_succ_cons,Fw,Fw,Rh hn.2 h C];grind
def V7{k:Baa}{s0:Ct}:∀ {es:List CE} {i n:Nat},(es.map (·.1)).Nodup->es[i]? =some (k,n,s0)->∀C,lk (es.eraseIdx i) C=if k=C then none else lk es C
 |x::es,0,n,hn,h,C=>by
  simp at h;subst h;rw[List.eraseIdx_cons_zero,Fw];rw[A2m,A3h] at hn;by_cases h1:k=C
  ·subst h1;rw[if_pos rfl,SP hn.1]
  simp_all
 |x::es,i+1,n,hn,h,C=>by
  rw[A2m,A3h] at hn;rw[List.eraseIdx_cons_succ,Fw,Fw,V7 hn.2 h C];grind
def SQ{es:List CE}{ck:Nat}(h:DP es ck)(k:Baa)(s:Ct)(C:Baa):lk (KO es ck k s).1 C=if k=C then some s else lk es C:=by
 unfold KO;cases hf:C5 k es 0 with
 |none=>
  rw[A0T];by_cases h1:k=C
  ·subst h1;rw[HK hf,if_pos rfl];simp[lk]
  ·rw[if_neg h1];simp[lk,h1]
 |some p=>
  obtain⟨_,n,h1⟩:=KQ hf;exact Rh h.keys h1 C
def lk_cdel{es:List CE}{ck:Nat}(h:DP es ck)(k:Baa)(C:Baa):lk (XV es k) C=if k=C then none else lk es C:=by
 unfold XV;cases hf:C5 k es 0 with
 |none=>
  by_cases h1:k=C
  ·subst h1;rw[if_pos rfl];exact HK hf
  simp_all
 |some p=>
  obtain⟨_,n,h1⟩:=KQ hf;exact V7 h.keys h1 C
def Jt(es:List CE)(i:Nat)(s:Ct):(es.modify i λe=>(e.1,e.2.1,s)).map (·.1)=es.map (·.1)/\(es.modify i λe=>(e.1,e.2.1,s)).map (·.2.1)=es.map (·.2.1):=by
 constructor<;>
 ·apply A3F;grind
def Po{es:List CE}{s:Ct}{e:CE}(h:e ∈ es.modify i λe=>(e.1,e.2.1,s)):∃x ∈ es,e.1=x.1/\e.2.1=x.2.1/\(e=x\/e.2.2=s):=by
 obtain⟨j,C,rfl⟩:=A2W.1 h;grind
def DP.set{es:List CE}{ck:Nat}(h:DP es ck){s:Ct}(hs:Sm s.2/\(s.1=false->s.2=zV)/\k.size<=64):DP (KO es ck k s).1 (KO es ck k s).2:=by
 unfold KO;cases hf:C5 k es 0 with
 |none=>
  have Y:=lk_key (HK hf);refine⟨?_,?_,λe C=>?_,λe C=>?_⟩
  ·simp;rw[List.nodup_append];refine⟨h.keys,Sq',λa O b hb e=>?_⟩;simp_all
  ·simp;rw[List.nodup_append];refine⟨h.births,Sq',λa O b hb e=>?_⟩;rw[A2b] at hb;obtain⟨x,M,h1⟩:=A2p.1 O;have:=h.lt x M;omega
  ·rcases A2Y.1 C with C|C
   ·exact Nat.lt_succ_of_lt (h.lt e C)
   simp_all
  ·rcases A2Y.1 C with C|C
   ·exact h.sm e C
   simp_all
 |some p=>
  obtain⟨i,s0⟩:=p;refine⟨by rw[(Jt es i s).1];exact h.keys,by rw[(Jt es i s).2];exact h.births,λe C=>?_,λe C=>?_⟩
  ·obtain⟨x,M,_,U,_⟩:=Po C;rw[U];exact h.lt x M
  ·obtain⟨x,M,V,_,N⟩:=Po C;rcases N with rfl|N
   ·exact h.sm _ M
   ·rw[N,V];exact⟨hs.1,hs.2.1,(h.sm x M).2.2⟩
def DP.del{es:List CE}{ck:Nat}(h:DP es ck)(k:Baa):DP (XV es k) ck:=by
 unfold XV;cases hf:C5 k es 0 with
 |none=>exact h
 |some p=>
  obtain⟨i,s0⟩:=p;have C:(es.eraseIdx i).Sublist es:=List.eraseIdx_sublist ..;exact⟨List.Sublist.nodup (C.map _) h.keys,List.Sublist.nodup (C.map _) h.births,λe M=>h.lt e (C.subset M),λe M=>h.sm e (C.subset M)⟩
def GD(es:List CE)(l:Lga):Lga:=es.foldl (λa e=>if e.2.2.1 then B4 (e.1,e.2.2.2) a else BX e.1 a) l
def Dy:∀(es:List CE) {l:Lga},Srt l->Srt (GD es l)
 |[],_,h=>h
 |e::es,l,h=>Dy es (l:=if e.2.2.1 then B4 (e.1,e.2.2.2) l else BX e.1 l) (by split;exact F6 h;exact Jm h)
def Nm(s:Ct):Option GV:=if s.1 then some s.2 else none
def CY(k:Baa):∀(es:List CE) (l:Lga),(es.map (·.1)).Nodup->Am k (GD es l)=match lk es k with|some s=>Nm s|none=>Am k l
 |[],l,_=>rfl
 |e::es,l,h=>by
  rw[A2m,A3h] at h;show Am k (GD es (if e.2.2.1 then B4 (e.1,e.2.2.2) l else BX e.1 l))=_;rw[CY k es _ h.2,Fw];by_cases h1:e.1=k
  ·subst h1;rw[SP h.1,if_pos rfl];simp[Nm];cases e.2.2.1
   ·simp;rw[FG,if_pos rfl]
   ·simp;rw[FH,if_pos rfl]
  ·rw[if_neg h1];cases lk es k with
   |some s=>rfl
   |none=>
    cases e.2.2.1
    ·simp;rw[FG,if_neg h1]
    ·simp;rw[FH,if_neg h1]
def MK{a b:List CE}(hl:Srt l)(C:(a.map (·.1)).Nodup)(hb:(b.map (·.1)).Nodup)(h:∀k,lk a k=lk b k):GD a l=GD b l:=
 Ns (Dy a hl) (Dy b hl) λk=>by rw[CY k a l C,CY k b l hb,h k]
def ZT{es:List CE}{ck:Nat}(h:DP es ck)(hl:Srt l){s:Ct}(hs:Sm s.2/\(s.1=false->s.2=zV)/\k.size<=64):GD (KO es ck k s).1 l=if s.1 then B4 (k,s.2) (GD es l) else BX k (GD es l):=by
 have M:=Dy es hl;refine Ns (Dy _ hl) (by split;exact F6 M;exact Jm M) λC=>?_;rw[CY C _ l (h.set hs).keys,SQ h];by_cases h1:k=C
 ·subst h1;rw[if_pos rfl];simp[Nm];cases s.1
  ·simp;rw[FG,if_pos rfl]
  ·simp;rw[FH,if_pos rfl]
 ·rw[if_neg h1];rw[<-CY C es l h.keys];cases s.1
  ·simp;rw[FG,if_neg h1]
  ·simp;rw[FH,if_neg h1]
end Go.Ab
namespace Go.Ab
open Go.RowKit
open Go.ChangeMaps (setBlock)
variable{P:Program}{nt:Nat}{ds:List D}{c:Code}
def A0y(w:World)(k:Nat)(o:Obj):w.putObj k o=setBlock w k o:=rfl
def NX{w:World}{I:Nat->Prop}{mu:Nat->Option Value}{nt:Nat}:∀ {ps:List Nat} {ds:List D} {us:List Value} {env:Env} {tmps:Array Value},ds.length=ps.length->us.length=ps.length->(∀t ∈ ps,t<nt)->tmps.size=nt->(∀i,i<ds.length->Rep w I mu (nd ds i) (nv us i))->(∀t,Rep w I mu (env.get t) (tmps.getD t undef))->
  ((ps.zip us).foldl (λt p=>t.setIfInBounds p.1 p.2) tmps).size=nt/\∀t,Rep w I mu (Env.get ((ps.zip ds).reverse++env) t) (((ps.zip us).foldl (λt p=>t.setIfInBounds p.1 p.2) tmps).getD t undef)
 |[],[],[],env,tmps,_,_,_,hs,_,he=>by simp_all
 |p::ps,d::ds,u::us,env,tmps,h1,h2,h3,hs,hd,he=>by
  simp at h1 h2;have:=NX (env:=(p,d)::env) (tmps:=tmps.setIfInBounds p u) h1 h2 (λt ht=>h3 t (A2V _ ht)) (by simp_all) (λi hi=>by simpa[nd,nv] using hd (i+1) (by simp_all)) (λt=>?_)
  ·simp_all
  ·simp only[Env.get];by_cases ht:p=t
   ·subst ht;have hlt:p<tmps.size:=by simp_all
    simp[beq_self_eq_true,cond_true,Array.getD,Array.size_setIfInBounds,hlt,dite_true];simpa[nd,nv] using hd 0 Sq'
   ·have:(p==t)=false:=by simp_all
    simp[this,cond_false];simp_all
 |[],_::_,_,_,_,h,_,_,_,_,_=>by simp at h
 |[],[],_::_,_,_,_,h,_,_,_,_=>by simp at h
 |_::_,[],_,_,_,h,_,_,_,_,_=>by simp at h
 |_::_,_::_,[],_,_,_,h,_,_,_,_=>by simp at h
def TY(hp:Hp)(b:Nat)(x:Blk):(λc=>AZ c (Ak hp c) [(b,some x)])=Ak (upd hp b (some x)):=by
 grind [Lh,AZ]
def DR(y:Nat)(env:Env)(nt:Nat)(ps:List Nat)(a c:Code)(HS':Hp):AE->St->Prop
 |.normal,s=>Aq ⟨[],s.hp,s.nx⟩ ⟨[],(y,.loop env nt .busy none ps a c)::HS',4⟩
 |_,_=>False
def DS(P:Program)(y:Nat)(env:Env)(nt:Nat)(ps:List Nat)(a c:Code)(HS':Hp):AE->St->Prop
 |.normal,s=>Ak s.hp y=some (.loop env nt .ready none ps a c)/\AWp P nt c (DR y env nt ps a c HS') ⟨s.env,upd s.hp y (some (.loop env nt .busy none ps a c)),s.nx⟩
 |_,_=>False
def DG.of_awp{y:Nat}{HS N:Hp}{env:Env}{ps:List Nat}{a:Code}(hy:y%2=1)(a6:ds.length=ps.length)(al:∀t ∈ ps,t<nt)
  (h:AWp P nt a (DS P y env nt ps a c N) ⟨(ps.zip ds).reverse++env,(y,.loop env nt .ready none ps a c)::HS,4⟩):
  DG P y ds ((y,.loop env nt .ready none ps a c)::HS) (bD true) ((y,.loop env nt .ready none ps a c)::N):=by
 unfold DG;intro w M0 O I mu vs l a7 au U C a8;have am:Ak ((y,Blk.loop env nt .ready none ps a c)::HS) y=some (.loop env nt .ready none ps a c):=by simp[Ak]
 obtain⟨k,fn,tmps,kd,h1,h2,h3,h4⟩:=C.blk y _ am;rw[U] at h1;simp at h1;subst h1;have hvl:vs.length=ps.length:=a8.1.trans a6;refine⟨fn,_,a,c,run_yield h2 (by simp[hvl]),?_⟩;have an:(ps.toArray.zip vs.toArray).foldl (λtmps (t,a)=>tmps.setIfInBounds t a) tmps=(ps.zip vs).foldl (λt p=>t.setIfInBounds p.1 p.2) tmps:=by
  simp_all
 rw[an];obtain⟨f1,f2⟩:=NX a6 hvl al h3 a8.2 h4;let G:Gh:=⟨O.st,λb=>if b=y then mu y else O.nm b,[],Fence.wide.inRound l,0,.inr ⟨l,rfl⟩⟩
 have a3:∀ {fr I':Nat->Prop} {mu':Nat->Option Value} {h:Nat->Option Blk} {w':World},AA w M0 G fr I' mu' h w'->mu' y=mu y/\AA w M0 O fr I' mu' h w':=@λfr I' mu' h w' R=>by
  have M:mu' y=some (.pointer (some ⟨l,0,none⟩)):=R.keep y _ hy (by grind);refine⟨M.trans U.symm,⟨R.blk,R.loc,R.inj,R.fresh,R.lt,R.os,R.tape,R.output,R.grown,R.old,R.iold,R.inew,λb x hb V=>?_,R.used⟩⟩;by_cases ao:b=y
  ·subst ao;rw[M];have:=C.keep b x hb V;simp_all
  ·exact R.keep b x hb (by grind)
 refine roundIn_of_wpIn trivial (wpIn_mono (h w M0 G a7 I mu _ w ⟨f1,C8.refl _ _ _ _,f2,⟨C.blk,C.loc,C.inj,C.fresh,C.lt,C.os,C.tape,C.output,C.grown,C.old,C.iold,C.inew,λb x hb V=>?_,C.used⟩⟩) ?_)
 ·have a9:(if b=y then mu y else O.nm b)=some x:=V;split at a9
  ·simp_all
  ·exact C.keep b x hb a9
 ·rintro e a1 w1 ⟨x,s1,I1,aa,hq,he,r1⟩;cases x<;>cases e<;>simp [He] at he<;>simp [DS] at hq;obtain⟨a4,ap⟩:=hq;obtain⟨k1,ab,ac,ad,q1,q2,q3,q4⟩:=r1.w.blk y _ a4;have Y:aa y=some (.pointer (some ⟨l,0,none⟩)):=(a3 r1.w).1.trans U;rw[Y] at q1;simp at q1;subst q1;refine⟨_,run_beginRound q2 rfl,?_⟩;obtain⟨g1,g2⟩:=r1.w.setObj (x:=.loop env nt .busy none ps a c) a4 Y (.loop {state:=.busy,pending:=none,fn:=ab,tmps:=ac,params:=ps.toArray,assign:=a,body:=c,defers:=ad})
   (λhs ho=>⟨l,ab,ac,ad,Y,hs,q3,λt=>(q4 t).mono (λk M=>ho k (by rintro rfl;exact(r1.w.loc y _ _ k a4 Y rfl).2.1 M)) (λ_ h=>h) (λ_ _ h=>h)⟩)
  rw[show s1.fs.hp=Ak s1.hp from rfl,TY] at g1;refine wpIn_mono (ap w M0 G a7 I1 aa a1 _ ⟨r1.size,r1.defers.ext g2,λt=>(r1.env t).ext g2,g1⟩) ?_
  ·rintro e a2 w2 ⟨x,s2,I2,aq,ae,ar,r2⟩;cases x<;>cases e<;>simp [He] at ar<;>simp [DR] at ae;obtain⟨I3,ah,Z⟩:=ae w M0 G nt I2 aq a2 w2 ⟨r2.size,r2.defers,λt=>by simp;exact .any _,r2.w⟩;have a5:Ak ((y,Blk.loop env nt .busy none ps a c)::N) y=some (.loop env nt .busy none ps a c):=by simp[Ak]
   obtain⟨k3,ai,aj,ak,p1,p2,p3,p4⟩:=Z.w.blk y _ a5;have a0:ah y=some (.pointer (some ⟨l,0,none⟩)):=(a3 Z.w).1.trans U;rw[a0] at p1;simp at p1;subst p1;refine⟨_,_,run_endRound none p2,?_⟩;obtain⟨g3,g4⟩:=Z.w.setObj (x:=.loop env nt .ready none ps a c) a5 a0 (.loop {state:=.ready,pending:=none,fn:=ai,tmps:=aj,params:=ps.toArray,assign:=a,body:=c,defers:=ak})
    (λhs ho=>⟨l,ai,aj,ak,a0,hs,p3,λt=>(p4 t).mono (λk M=>ho k (by rintro rfl;exact(Z.w.loc y _ _ k a5 a0 rfl).2.1 M)) (λ_ h=>h) (λ_ _ h=>h)⟩)
   refine⟨_,I3,ah,rfl,.val _ trivial,?_⟩;have g5:=(a3 g3).2;rw[show(St.fs ⟨[],(y,Blk.loop env nt .busy none ps a c)::N,4⟩).hp=Ak ((y,Blk.loop env nt .busy none ps a c)::N) from rfl,TY] at g5;refine g5.sub λb x V=>?_;grind [Lh,Ak]
def Bh(P:Program)(nt:Nat)(c:Code)(Q:AE->St->Prop)(s:St):Prop:=
 ∀w0 M0 I0,GA P w0 M0 I0->(I0.F=Fence.wide/\I0.n=0)->∀I mu a w,Rel w0 M0 I0 nt (frN s.nx) I mu s.fs a w->c.wpIn I0.F I0.n P (ZP w0 M0 I0 nt Q) a w
section
variable{P:Program}{nt:Nat}{Q:AE->St->Prop}{s:St}
def AWp.w{c:Code}(h:AWp P nt c Q s):Bh P nt c Q s:=λw0 M0 I0 g _ I mu a w r=>h w0 M0 I0 g I mu a w r
def Bh.weak{s':St}(hs:Aq s s')(h:Bh P nt c Q s'):Bh P nt c Q s:=λw0 M0 I0 g hF I mu a w r=>
 let⟨I',mu',r'⟩:=hs w0 M0 I0 nt I mu a w r
 h w0 M0 I0 g hF I' mu' a w r'
def Bh.seq{x y:Code}(h:Bh P nt x (seqQ (λs=>Bh P nt y Q s) Q) s):Bh P nt (.seq x y) Q s:=λw0 M0 I0 g hF I mu a w r=>
 wpIn_seq (wpIn_mono (h w0 M0 I0 g hF I mu a w r) λe N w' O=>by
  obtain⟨x,s',I',mu',q,C,M⟩:=O;cases x<;>cases e<;>simp [He] at C
  case normal.normal=>exact q w0 M0 I0 g hF I' mu' N w' M
  all_goals exact⟨_,s',I',mu',q,C,M⟩)
def Bh.block{id:Nat}{c:Code}(h:Bh P nt c (KT id Q) s):Bh P nt (.block id c) Q s:=λw0 M0 I0 g hF I mu a w r=>
 wpIn_block (wpIn_mono (h w0 M0 I0 g hF I mu a w r) λe O w' N=>by
  obtain⟨x,s',I',mu',q,C,M⟩:=N;cases x<;>cases e<;>simp [He] at C
  case exit.exit=>
   rename_i i j;subst C;simp[KT] at q;simp[Exit.inBlock];by_cases hi:i=id
   ·rw[if_pos hi] at q|-;exact⟨.normal,s',I',mu',q,trivial,M⟩
   ·rw[if_neg hi] at q|-;exact⟨.exit i,s',I',mu',q,rfl,M⟩
  all_goals exact⟨_,s',I',mu',q,C,M⟩)
def Bh.seqV(fz:List Nat){x y:Code}(hm:P.follows .mixedOrders=true)(hc:Dh nt x=true)(h:VCS P nt fz x (Ul (Bh P nt y) Q) s):Bh P nt (.seq x y) Q s:=
 Bh.seq (AWp.w (AWp.mono (VC.sound hm hc h) λe s C=>by cases e<;>exact C))
def Bh.vc(fz:List Nat)(hm:P.follows .mixedOrders=true)(hc:Dh nt c=true)(h:VCS P nt fz c Q s):Bh P nt c Q s:=AWp.w (VC.sound hm hc h)
end
@[congr] def AWpW_congr{Q:AE->St->Prop}{s s':St}(h:J7 s=s'):Bh P nt c Q s=Bh P nt c Q s':=by rw[<-h];rfl
def AA.keepI{w0:World}{M0:Nat->Prop}{I0:Gh}{fr I:Nat->Prop}{mu:Nat->Option Value}{hp:Nat->Option Blk}{w:World}(h:AA w0 M0 I0 fr I mu hp w){b k:Nat}{x:Blk}(hb:hp b=some x)(hm:mu b=some (.pointer (some ⟨k,0,none⟩))):
  AA w0 M0 I0 fr (λj=>I j\/j=k) mu (λc=>if c=b then none else hp c) w:=by
 have N:∀c y,(if c=b then none else hp c)=some y->c≠b/\hp c=some y:=by simp_all
 have hk:=h.loc b x _ k hb hm rfl;refine⟨λc y M=>(h.blk c y (N c y M).2).mono (λ_ _=>rfl) (λ_ h=>.inl h) (λ_ _ h=>h) (λ_ _ _ _=>rfl),λc y v j M U C=>?_,λc d y z v u j M Y=>h.inj c d y z v u j (N c y M).2 (N d z Y).2,h.fresh,λj C=>?_,h.os,h.tape,h.output,h.grown,h.old,λj C=>.inl (h.iold j C),λj C=>?_,h.keep,λc y M=>h.used c y (N c y M).2⟩
 ·obtain⟨Z,V⟩:=N c y M;have:=h.loc c y v j V U C;exact⟨this.1,λO=>by rcases O with O|rfl;exact this.2.1 O;exact Z (h.inj c b y x v _ j V hb U hm C rfl),this.2.2⟩
 ·rcases C with C|rfl
  ·exact h.lt j C
  omega
 ·rcases C with C|rfl
  ·exact h.inew j C
  simp_all
def QH{r:Nat->Nat}{e:Env}:∀ {l:Env},Cs r e l->∀t,lo (e.get t) (Bu r (l.get t))
 |[],_,t=>by simp[Env.get,Bu];cases e.get t<;>simp [lo]
 |(k,d)::l,h,t=>by
  simp[Env.get];by_cases C:k=t
  ·subst C;simp;exact h.1
  ·have:(k==t)=false:=by simp_all
   simp[this,cond_false];exact QH h.2 t
def Bh.range{Q:AE->St->Prop}{s:St}{f:Operand}{ps:Array Tmp}{a:Code}{g:Nat}{fs cs:List D}{H H':Hp}{d:D}{env:Env}(y:Nat)(r:Nat->Nat)
  (hf:evO P s.env.get f=.func (.func g) fs cs)
  (hc:A4 P g ds ((y,.loop env nt .ready none ps.toList a c)::H) d ((y,.loop env nt .ready none ps.toList a c)::H'))
  (hy:y%2=1) (ak:r y=2*s.nx) (al:fs++[.yld (2*s.nx)]++cs=Co r ds) (hl:ltL 4 ds=true) (am:Cs r s.env env)
  (hh:Bq r (Ak ((2*s.nx,.loop (H8 (Bu r) env) nt .ready none ps.toList a c)::s.hp)) ((y,.loop env nt .ready none ps.toList a c)::H))
  (an:DH (2*(s.nx+4)) r ((y,.loop env nt .ready none ps.toList a c)::H) []=true) (ao:DH (2*(s.nx+4)) r ((y,.loop env nt .ready none ps.toList a c)::H) ((y,.loop env nt .ready none ps.toList a c)::H')=true)
  (N:Q .normal ⟨s.env,upd (F0 ((2*s.nx,.loop (H8 (Bu r) env) nt .ready none ps.toList a c)::s.hp) (EE (2*(s.nx+4)) r ((y,.loop env nt .ready none ps.toList a c)::H) ((y,.loop env nt .ready none ps.toList a c)::H'))) (2*s.nx) none,s.nx+8⟩):Bh P nt (.rangeFunc f ps a c) Q s:=by
 intro w0 M0 G a7 hF I mu O w R;have ap:∀Y,G.F.fn Y:=λY=>G.fn Y;refine wpIn_rangeFunc λfn _=>?_;have aq:frN s.nx (2*s.nx+2):=⟨Om,Om⟩
 obtain⟨r1,Z⟩:=R.w.new aq (.deferred (some [])) (.pointer (some ⟨w.heap.size,0,none⟩)) rfl (.obj (.deferred (some []))) ⟨w.heap.size,by simp[AM],World.alloc_heap_new w _⟩;have a8:(λb=>frN s.nx b/\b≠2*s.nx+2) (2*s.nx):=⟨⟨Om,Om⟩,Om⟩
 have ar:∀v,Ext I (AM mu (2*s.nx+2) (.pointer (some ⟨w.heap.size,0,none⟩))) (w.alloc (.deferred (some []))) I (AM (AM mu (2*s.nx+2) (.pointer (some ⟨w.heap.size,0,none⟩))) (2*s.nx) v) ((w.alloc (.deferred (some []))).alloc (.loop {state:=.ready,pending:=none,fn:=fn,tmps:=O.tmps,params:=ps,assign:=a,body:=c,defers:=w.heap.size})):=λv=>
  ⟨λ_ h=>h,BN (r1.fresh _ a8),λk N=>Bt _ _ (r1.lt k N)⟩
 obtain⟨r2,e2⟩:=r1.new a8 (.loop {state:=.ready,pending:=none,fn:=fn,tmps:=O.tmps,params:=ps,assign:=a,body:=c,defers:=w.heap.size}) (.pointer (some ⟨w.heap.size+1,0,none⟩)) (by simp[Al]) (.loop (H8 (Bu r) env) nt .ready none ps.toList a c)
  ⟨w.heap.size+1,fn,O.tmps,w.heap.size,by simp[AM],by have:=World.alloc_heap_new (w.alloc (.deferred (some []))) (.loop {state:=.ready,pending:=none,fn:=fn,tmps:=O.tmps,params:=ps,assign:=a,body:=c,defers:=w.heap.size});simp_all,R.size,λt=>by
   rw[K1 rfl];exact(((R.env t).ext Z).ext (ar _)).lo (QH am t)⟩
 generalize au:(w.alloc (.deferred (some []))).alloc (.loop {state:=.ready,pending:=none,fn:=fn,tmps:=O.tmps,params:=ps,assign:=a,body:=c,defers:=w.heap.size})=w2 at r2 e2;generalize a9:AM (AM mu (2*s.nx+2) (.pointer (some ⟨w.heap.size,0,none⟩))) (2*s.nx) (.pointer (some ⟨w.heap.size+1,0,none⟩))=a1 at r2 e2;have av:a1 (2*s.nx+2)=some (.pointer (some ⟨w.heap.size,0,none⟩)):=by rw[<-a9];simp[AM]
 have aa:a1 (2*s.nx)=some (.pointer (some ⟨w.heap.size+1,0,none⟩)):=by rw[<-a9];simp[AM]
 have aw:w2.heap[w.heap.size]? =some (.deferred (some [])):=by
  grind [Bt,World.alloc_heap_new]
 have bi:s.fs.hp (2*s.nx+2)=none:=by
  cases C:s.fs.hp (2*s.nx+2) with
  |none=>rfl
  |some x=>exact absurd ⟨Om,Om⟩ (R.w.used _ x C)
 have r3:=r2.keepI (x:=.obj (.deferred (some []))) (by simp[AZ]) av;have ax:∀b x,Ak ((2*s.nx,Blk.loop (H8 (Bu r) env) nt .ready none ps.toList a c)::s.hp) b=some x->(if b=2*s.nx+2 then none else AZ b (AZ b (s.fs.hp b) [(2*s.nx+2,some (Blk.obj (.deferred (some []))))]) [(2*s.nx,some (Blk.loop (H8 (Bu r) env) nt .ready none ps.toList a c))])=some x:=λb x C=>by
  simp[Ak] at C;by_cases h1:2*s.nx=b
  ·subst h1;simp at C;simp[AZ,C]
  ·have ay:(2*s.nx==b)=false:=by simp_all
   simp[ay,cond_false] at C;by_cases U:b=2*s.nx+2
   ·subst U;exact absurd (show s.fs.hp _=some x from C) (by simp_all)
   ·have ab:¬2*s.nx+2=b:=λh=>U h.symm;simp[AZ,A2Q,A3k,if_neg h1,if_neg U,if_neg ab];exact C
 have r4:=r3.sub ax;have a2:Ext I mu w (λj=>I j\/j=w.heap.size) a1 w2:=by
  refine⟨λ_ h=>.inl h,λb x C=>e2.m b x (Z.m b x C),λk N=>?_⟩;rw[e2.w k N,Z.w k N]
 have a4:Rep w I mu (evO P s.env.get f) (O.eval f):=Ei (a7.at R.w) R.env f;rw[hf] at a4;generalize az:O.eval f=fv at a4;cases a4 with
 |func _ _ _ us vs b3 b4 hu hv=>
 have b5:GA P w0 M0 G:=a7;have b6:Bo w2 (λj=>I j\/j=w.heap.size) a1 (Co r ds) (us++[Value.func (.yield (w.heap.size+1)) #[] #[]]++vs):=by
  rw[<-al];refine Bo.append (Bo.append ⟨b3,λi hi=>(hu i hi).ext a2⟩ ⟨rfl,λi hi=>?_⟩) ⟨b4,λi hi=>(hv i hi).ext a2⟩;simp at hi;subst hi;exact .yld _ _ aa
 obtain⟨M,G',b7,⟨g1,g2,g3,g4,g5,_⟩,b8⟩:=hand (id:=2*(s.nx+4)) r b5 r4 (λj hj=>⟨⟨⟨Om,Om⟩,Om⟩,Om⟩) (λ_ _=>rfl) b6 hl hh an;unfold A4 at hc;obtain⟨b9,ba⟩:=hc;have bb:∀W,(resolve O.eval (rangeCall f (w.heap.size+1)) 0).run P W=.ok {target:=.fn (.func g) vs.toArray,args:=us.toArray++ #[.func (.yield (w.heap.size+1)) #[] #[]]} W:=by
  intro W;simp only[resolve,rangeCall,Deferred.ofValue,az,A2u];congr 2;apply Array.toList_inj.1;simp[Act.eval]
 have bc:(invoke (.fn (.func g) vs.toArray) (us.toArray++ #[Value.func (.yield (w.heap.size+1)) #[] #[]])).run P w2=.ok (.enter g (us++[Value.func (.yield (w.heap.size+1)) #[] #[]]++vs).toArray) w2:=by
  have Z:us.toArray++ #[Value.func (.yield (w.heap.size+1)) #[] #[]]++vs.toArray=(us++[Value.func (.yield (w.heap.size+1)) #[] #[]]++vs).toArray:=by apply Array.ext';simp
  simp only[invoke];exact(congrArg (λz=>(callFunc g z).run P w2) Z).trans (Bj b9 _ w2)
 have bd:=ba w2 M G' _ b7 _ g1 g2 g3 g4;refine⟨w.heap.size+1,[{target:=.collected w.heap.size,args:=#[]}],w2,_,w2,g,_,w2,?_,bb w2,λY _=>ap Y,bc,λh=>(by rw[G.depth] at h;cases h),CallsIn.mono (Qh bd) ?_⟩
 ·rw[hF.1,<-au];exact run_enterLoop_outer fn O.tmps ps a c
 rintro e w3 ⟨v,I3,be,rfl,bf,R3⟩;obtain⟨a5,V,R4,_,bg⟩:=b8 d _ v w3 I3 be ao bf R3;have ac:a5 (2*s.nx)=some (.pointer (some ⟨w.heap.size+1,0,none⟩)):=V.m _ _ aa;have bh:Ak ((y,Blk.loop env nt .ready none ps.toList a c)::H') y=some (.loop env nt .ready none ps.toList a c):=by simp[Ak]
 have ad:(λb=>AZ b (Ak ((2*s.nx,Blk.loop (H8 (Bu r) env) nt .ready none ps.toList a c)::s.hp) b) (CJ (2*(s.nx+4)) r ((y,.loop env nt .ready none ps.toList a c)::H) d ((y,.loop env nt .ready none ps.toList a c)::H')).up)=Ak (F0 ((2*s.nx,Blk.loop (H8 (Bu r) env) nt .ready none ps.toList a c)::s.hp) (EE (2*(s.nx+4)) r ((y,.loop env nt .ready none ps.toList a c)::H) ((y,.loop env nt .ready none ps.toList a c)::H'))):=by
  funext b;rw[FF];rfl
 rw[ad] at R4;have a3:∃x,Ak (F0 ((2*s.nx,Blk.loop (H8 (Bu r) env) nt .ready none ps.toList a c)::s.hp) (EE (2*(s.nx+4)) r ((y,.loop env nt .ready none ps.toList a c)::H) ((y,.loop env nt .ready none ps.toList a c)::H'))) (2*s.nx)=some x/\x=.loop (H8 (Bu (Df (2*(s.nx+4)) r)) env) nt .ready none ps.toList a c:=by
  refine⟨_,?_,rfl⟩;have h1:=bg y _ bh;have U:Df (2*(s.nx+4)) r y=2*s.nx:=by simp[Df,hy,ak]
  rw[U] at h1;rw[<-ad];exact h1
 obtain⟨x,a3,C⟩:=a3;subst C;obtain⟨k5,ae,ah,ai,p1,p2,p3,p4⟩:=R4.blk _ _ a3;rw[ac] at p1;simp at p1;subst p1;refine⟨none,_,run_endLoop p2 Sq',?_⟩;rw[A0y];obtain⟨R5,e5⟩:=R4.setObj (x:=.junk) a3 ac (.loop {state:=.exhausted,pending:=none,fn:=ae,tmps:=ah,params:=ps.toList.toArray,assign:=a,body:=c,defers:=ai}) (λ_ _=>trivial);have a6:Ext I mu w I3 a5 (setBlock w3 (w.heap.size+1) (.loop {state:=.exhausted,pending:=none,fn:=ae,tmps:=ah,params:=ps.toList.toArray,assign:=a,body:=c,defers:=ai})):=
  ⟨λk N=>V.i k (.inl N),λb x C=>V.m b x (a2.m b x C),λk N=>(e5.w k (V.i k (.inl N))).trans ((V.w k (.inl N)).trans (a2.w k N))⟩
 refine⟨.normal,_,I3,a5,N,trivial,⟨R.size,?_,λt=>(R.env t).ext a6,?_⟩⟩
 ·obtain⟨rs,_,d1,d2,d3⟩:=R.defers;refine⟨w.heap.size::rs,Om,by rw[d1];rfl,A3h.2 ⟨λhm=>?_,d2⟩,λq hq=>?_⟩
  ·have:=R.w.lt _ (d3 _ hm).1;omega
  ·rcases A2s.1 hq with rfl|hq
   ·have aj:I3 w.heap.size:=V.i _ (.inr rfl);exact⟨aj,R.w.grown,by rw[e5.w _ aj,V.w _ (.inr rfl)];exact aw⟩
   ·obtain⟨g1,g2,g3⟩:=d3 q hq;exact⟨a6.i q g1,g2,by rw[a6.w q g1];exact g3⟩
 ·refine(R5.sub λb x C=>?_).less λb hb=>?_
  ·have a0:Ak (upd (F0 ((2*s.nx,Blk.loop (H8 (Bu r) env) nt .ready none ps.toList a c)::s.hp) (EE (2*(s.nx+4)) r ((y,.loop env nt .ready none ps.toList a c)::H) ((y,.loop env nt .ready none ps.toList a c)::H'))) (2*s.nx) none) b=some x:=C;rw[Lh] at a0;by_cases hb:2*s.nx=b
   ·rw[if_pos hb] at a0;cases a0
   ·rw[if_neg hb] at a0;simp[AZ,A2Q,A3k,if_neg hb];exact a0
  ·obtain⟨h1,U⟩:=hb;have ab:2*(s.nx+8)<=b:=U;exact⟨⟨⟨⟨h1,Om⟩,Om⟩,Om⟩,λj hj=>Om⟩
def A4.of_awpW{f:FuncId}{fn:Func}{H:Hp}{r:D}{H':Hp}(hf:P.funcs[f]? =some fn)(hb:fn.body=some c)(hn:fn.ntmps=nt)(a0:By P f=true)(a5:ds.length<=nt){rs:List ResultVar}(a1:fn.results.toList=rs)
  (h:Bh P nt c (Qt P rs r H') ⟨BB 0 ds,H,4⟩):A4 P f ds H r H':=by
 subst a1;unfold A4;refine⟨a0,λw M0 O I mu vs a2 a6 C Y=>?_⟩;let G:Gh:=⟨O.st,O.nm,[],Fence.wide,0,.inl rfl⟩
 have hG:∀k,G k->k<w.heap.size:=λk hk=>C.lt k (C.iold k hk);refine callsIn_wide.1 (callsIn_of_wp_marks hf hb trivial (wpIn_mono (h w M0 G a2 ⟨rfl,rfl⟩ I mu _ w ⟨?_,C8.refl _ _ _ _,λt=>Gq Y _ t,⟨C.blk,C.loc,C.inj,C.fresh,C.lt,C.os,C.tape,C.output,C.grown,C.old,C.iold,C.inew,C.keep,C.used⟩⟩) ?_))
 ·have:=Y.1;simp_all
 ·rintro e Z w' ⟨x,s',I',mu',U,he,r'⟩;have fin:∀d,KD P s' fn.results.toList=some d->Aq ⟨[(0,d)],s'.hp,s'.nx⟩ ⟨[(0,r)],H',4⟩->LeavesInM Fence.wide 0 P fn Z.tmps (λe w'=>∃v I' mu',e=.returned v/\Rep w' I' mu' r v/\AA w M0 O (frN 4) I' mu' (Ak H') w') Z.defers .returning w':=by
   intro d N a3;refine r'.leave hG rfl N λv w2 I2 _ W2 h2=>?_;obtain⟨I3,a4,M⟩:=a3 w M0 G 1 I2 mu' {tmps:=#[v],defers:=[]} w2 ⟨rfl,C8.refl _ _ _ _,λt=>by
    cases t with
    |zero=>simpa [St.fs,Env.get] using h2
    |succ t=>simp;exact .any _,W2⟩
   have r0:=M.env 0;exact⟨v,I3,a4,rfl,by simpa[St.fs,Env.get] using r0,⟨M.w.blk,M.w.loc,M.w.inj,M.w.fresh,M.w.lt,M.w.os,M.w.tape,M.w.output,M.w.grown,M.w.old,M.w.iold,M.w.inew,M.w.keep,M.w.used⟩⟩
  cases x<;>cases e<;>simp [He] at he<;>simp [Qt] at U
  case normal.normal=>
   obtain⟨d,N,V⟩:=U;exact fin d N V
  case ret.ret=>
   obtain⟨d,N,V⟩:=U;exact fin d N V
def A0.of_awpW{f:FuncId}{fn:Func}{r:D}(hf:P.funcs[f]? =some fn)(hb:fn.body=some c)(hn:fn.ntmps=nt)(a2:By P f=true)(a5:ds.length<=nt){rs:List ResultVar}(a3:fn.results.toList=rs)
  (h:Bh P nt c (Yn P rs r) ⟨BB 0 ds,[],0⟩):A0 P f ds r:=by
 subst a3;unfold A0;refine⟨a2,λw I vs Y Z hl a6=>?_⟩;let G:Gh:=⟨I,λ_=>none,[],Fence.wide,0,.inl rfl⟩
 refine callsIn_wide.1 (callsIn_of_wp_marks hf hb trivial (wpIn_mono (h w (λ_=>False) G (λg l hl=>⟨(Y g l hl).1,Z g (Y g l hl).1,λh=>h,(Y g l hl).2⟩) ⟨rfl,rfl⟩ I (λ_=>none) _ w ⟨?_,C8.refl _ _ _ _,λt=>?_,⟨λb x N=>by simp[St.fs,Ak] at N,(by simp_all),(by simp_all),λ_ _=>rfl,Z,rfl,rfl,rfl,A2e _,λ_ _ _=>rfl,λ_ h=>h,λ_ h=>.inl h,(by simp_all),λb x N=>by simp[St.fs,Ak] at N⟩⟩) ?_))
 ·simp_all
 ·have a1:=G7 ds 0 t;simp at a1;show Rep w I (λ_=>none) ((BB 0 ds).get t) _;rw[a1];by_cases ht:t<ds.length
  ·rw[if_pos ht];have e:(vs.toArray++Array.replicate (fn.ntmps-vs.toArray.size) undef).getD t undef=nv vs t:=by
    simp_all [nv,A3z,Array.getElem?_append_left]
   simp_all
  ·rw[if_neg ht];exact .any _
 ·rintro e a' w' ⟨x,s',I',mu',hq,he,r'⟩;have fin:∀d,KD P s' fn.results.toList=some d->Go.Ab.lo (Go.Ab.frz (Ak s'.hp) 6 d) r->r.pure=true->LeavesInM Fence.wide 0 P fn a'.tmps (λe w'=>∃v I',e=.returned v/\Rep w' I' (λ_=>none) r v/\(∀k,I k->I' k)/\(∀k,I' k->I k\/w.heap.size<=k)/\(∀k,I' k->k<w'.heap.size)/\Below w.heap.size w w') a'.defers .returning w':=by
   intro d O U V;refine r'.leave Z rfl O λv w2 I2 _ M h2=>?_;have a0:=Rep.frz (J:=λk=>I2 k\/(w.heap.size<=k/\k<w2.heap.size)) M (λk C=>.inl C) (λb x v k N hv C=>.inr (by
     have:=M.loc b x v k N hv C;simp_all)) 6 d v h2
   have a4:Go.Ab.lo (Go.Ab.frz s'.fs.hp 6 d) r:=U;have a0:=a0.lo a4;refine⟨v,_,rfl,a0.unmu V,λk C=>.inl (M.iold k C),λk C=>?_,λk C=>?_,⟨M.os,M.tape,M.output,M.grown,λk C=>M.old k C (λh=>h)⟩⟩
   ·rcases C with C|C
    ·rcases M.inew k C with h3|h3|h3
     ·exact .inl h3
     ·exact h3.elim
     ·exact .inr h3
    omega
   ·rcases C with C|C
    ·exact M.lt k C
    omega
  cases x<;>cases e<;>simp [He] at he<;>simp [Yn] at hq
  case normal.normal=>
   obtain⟨d,O,U,V⟩:=hq;exact fin d O U V
  case ret.ret=>
   obtain⟨d,O,U,V⟩:=hq;exact fin d O U V
end Go.Ab
