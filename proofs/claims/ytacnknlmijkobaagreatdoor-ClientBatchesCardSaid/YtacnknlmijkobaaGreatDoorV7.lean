/- The layer by which the program is walked, and what its functions do: part 8 of 15. -/
import Derived.Test.YtacnknlmijkobaaGreatDoorV6
set_option maxHeartbeats 4000000
set_option maxRecDepth 20000
set_option linter.unusedVariables false
set_option linter.unusedSimpArgs false
set_option linter.unnecessarySimpa false
namespace Go.Ab
open Go.Proofs Go.Proofs.Tryz
def CW{α:Type}(l:List α)(i:Nat)(x:α):List α:=l.take i++x::l.drop i
theorem Rj{α:Type}(X Z:List α)(i:Nat)(x:α)(hi:i<=X.length)(hz:Z.length=X.length+1-i):Au (Au (X.take i++Z) i [x]) (i+1) (X.drop i)=X.take i++x::X.drop i:=by
 have e1:(X.take i).length=i:=by simp;omega
 have e2:Au (X.take i++Z) i [x]=X.take i++x::Z.drop 1:=by
  have h1:(X.take i).drop (i+1)=[]:=A0i (by omega)
  simp only[Au,A18]
  rw[A1K e1,List.drop_append,h1,e1,A1u]
  rfl
 have e3:(X.take i++x::Z.drop 1).take (i+1)=X.take i++[x]:=by
  have h1:(X.take i).take (i+1)=X.take i:=A08 (by omega)
  rw[List.take_append,h1,e1,A1u]
  rfl
 have e4:(X.take i++x::Z.drop 1).drop (i+1+(X.drop i).length)=[]:=A0i (by
  simp only[A04,A0g,A0v,e1];omega)
 rw[e2]
 simp only[Au]
 rw[e3,e4]
 simp
theorem ED{α β:Type}(f:α->β)(l:List α)(i:Nat)(x:α):(CW l i x).map f=(l.map f).take i++f x::(l.map f).drop i:=by
 simp[CW,List.map_take,List.map_drop]
theorem YT(v:GV):∀ d ∈ A5 v,AN d=true:=by
 rw[A4]
 intro d hd
 simp only[A0s,A1x,or_false] at hd
 rcases hd with rfl|rfl|rfl|rfl|rfl|rfl<;>rfl
theorem RM(x:GE):∀ d ∈ A7 x,AN d=true:=by
 intro d hd
 rcases A0s.1 hd with rfl|hd
 ·rfl
 ·exact YT _ d hd
theorem DM(l:List GE):∀ x ∈ l.map A7,∀ d ∈ x,AN d=true:=by
 intro x hx
 obtain⟨y,_,rfl⟩:=A0l.1 hx
 exact RM y
theorem Kb(l:List GT):∀ x ∈ l.map Ai,∀ d ∈ x,AN d=true:=by
 intro x hx d hd
 obtain⟨y,_,rfl⟩:=A0l.1 hx
 rcases A0s.1 hd with rfl|hd
 ·exact B3 y
 ·cases hd
theorem Qa(x:GE):∀ y ∈ [A7 x],y.length=7:=fun y hy=>by cases A0d.1 hy;exact Bg x
theorem PY(x:GE):∀ y ∈ [A7 x],∀ d ∈ y,AN d=true:=fun y hy=>by cases A0d.1 hy;exact RM x
theorem NQ(l:List GE)(i:Nat):∀ y ∈ (l.map A7).drop i,y.length=7:=fun y hy=>C4 l y (A0P hy)
theorem Ns(l:List GE)(i:Nat):∀ y ∈ (l.map A7).drop i,∀ d ∈ y,AN d=true:=fun y hy=>DM l y (A0P hy)
theorem c_insE(l:List GE)(x:GE)(i:Nat)(hi:i<=l.length)(hn:l.length<=1048576):
  A2 prog 161 [.sref 1 0 l.length l.length 7,.val (.int .i64 i),.sref 3 0 1 1 7] [(1,.rows (l.map A7) 7),(3,.rows [A7 x] 7)] (.gref 0 (l.length+1)) [(0,.grow ((CW l i x).map A7) 7)]:=by
 rcases A14 i l.length with hz|hz
 ·have b1:((i:Int)==l.length)=false:=by simp;omega
  have w1:IntKind.i64.wrap (↑l.length+1)=(l.length:Int)+1:=A9 (by omega) (by omega)
  have w2:IntKind.i64.wrap (↑l.length+1-↑i)=((l.length+1-i:Nat):Int):=by rw[A9 (by omega) (by omega)];omega
  have w3:IntKind.i64.wrap (↑i+1)=(i:Int)+1:=A9 (by omega) (by omega)
  have t1:((i:Int)+1).toNat=i+1:=by omega
  have t2:((i:Int)+↑(l.length+1-i)).toNat=l.length+1:=by omega
  have t3:(l.length:Int)+1=((l.length+1:Nat):Int):=by omega
  have t4:min 1 (l.length+1-i)=1:=by omega
  have t5:min (l.length-i) (l.length+1-(i+1))=l.length-i:=by omega
  have t6:List.take (l.length-i) (List.drop i (List.map A7 l))=List.drop i (List.map A7 l):=A08 (by simp)
  have b2:decide ((l.length:Int)<(l.length:Int)+1)=true:=decide_eq_true (by omega)
  have b3:decide (i<l.length)=true:=decide_eq_true hz
  have b4:decide (i+1<l.length+1)=true:=decide_eq_true (by omega)
  have t7:i+(l.length+1-i)=l.length+1:=by omega
  have t8:(List.drop i (List.map A7 l)).length=l.length-i:=by simp
  have key:=Rj (l.map A7) (List.replicate (l.length+1-i) z7) i (A7 x) (by simp;omega) (by simp)
  simp only[z7,z6] at key
  have t9:((l.length:Int)+1).toNat=l.length+1:=by omega
  have p1:=C1 (Bu l) i
  have p2:=C2 (Bu l) i
  refine Zd [] func161 rfl ntmps161 results161 ?_
  (have z:=Za b1<|Za w1<|Za w2<|Za w3<|Za t1<|Za t2<|Za t4<|Za t5<|Za t6<|Za t7<|Za t8<|Za t9<|Za b2<|Za b3<|Za b4 @Nat.min_self;(try push_cast[z])<;>repeat' (first|apply Zi<;>intro _|exact Zo|with_reducible apply Za)<;>try push_cast[z])
  all_goals first|omega|exact Qa x|exact PY x|exact NQ l i|exact Ns l i|(simp;omega)|(simp[Au];omega)|skip
  rw[ED]
  apply Zr [(0,240)] rfl<;>push_cast [t9,t4,t5,t6,key,p1,p2]
 ·have b1:((i:Int)==l.length)=true:=by simp;omega
  have b2:decide (l.length+1<=l.length)=false:=decide_eq_false (by omega)
  have t1:i=l.length:=by omega
  subst t1
  refine Zd [] func161 rfl ntmps161 results161 ?_
  (have z:=Za b1 b2;(try push_cast[z])<;>repeat' (first|apply Zi<;>intro _|exact Zo|with_reducible apply Za)<;>try push_cast[z])
  all_goals first|omega|exact Qa x|exact PY x|(simp;omega)|skip
  rw[ED]
  have p1:=C1 (Bu l) l.length
  have p2:=C2 (Bu l) l.length
  have p3:List.drop l.length (List.map A7 l)=[]:=A0i (by simp)
  apply Zr [(0,144)] rfl<;>push_cast [p1,p2,p3]
theorem x_ovlK:Y0 prog 234:=
 Y0.of func234 (by kernel_rfl) (by kernel_rfl) (by kernel_rfl) (by kernel_rfl) (by kernel_rfl) (size:=1) (tS:=184) (tR:=4) (e:=65) (fun w=>by kernel_rfl)
theorem Y6(b c cap sz:Nat)(t:GT):unD b c cap sz (Ac t)=Ac t:=by cases t<;>simp only[Ac]<;>rfl
theorem Y7(b c cap sz:Nat)(t:GT):(Ai t).map (unD b c cap sz)=Ai t:=by simp only[Ai,A0h,A0G,Y6]
theorem grS_encT(b c n cap:Nat)(t:GT):grS b c n cap (Ac t)=Ac t:=by cases t<;>simp only[Ac]<;>rfl
theorem S4(b c n cap:Nat)(t:GT):(Ai t).map (grS b c n cap)=Ai t:=by simp only[Ai,A0h,A0G,grS_encT]
theorem JE(x:GT):∀ y ∈ [Ai x],y.length=1:=fun y hy=>by cases A0d.1 hy;rfl
theorem GQ(x:GT):∀ y ∈ [Ai x],∀ d ∈ y,AN d=true:=fun y hy d hd=>by
 cases A0d.1 hy
 rcases A0s.1 hd with rfl|hd
 ·exact B3 x
 ·cases hd
theorem Kk(l:List GT)(i:Nat):∀ y ∈ (l.map Ai).drop i,y.length=1:=fun y hy=>CJ l y (A0P hy)
theorem Kc(l:List GT)(i:Nat):∀ y ∈ (l.map Ai).drop i,∀ d ∈ y,AN d=true:=fun y hy=>Kb l y (A0P hy)
theorem WU(l:List GT)(c m i:Nat):∀ y ∈ List.take m (List.drop i (List.map Ai l++List.replicate c [D.any])),y.length=1:=by
 intro y hy
 rcases A1t.1 (A0P (A1e hy)) with h|h
 ·exact CJ l y h
 ·rw[(List.mem_replicate.1 h).2];rfl
theorem V7{α:Type}(X Y:List α){i n:Nat}(hn:X.length=n)(hi:i<=n):((X++Y).drop i).take (n-i)=X.drop i:=by
 rw[List.drop_append_of_le_length (by omega),A1r (by simp;omega),A08 (by simp;omega)]
theorem QZ{α:Type}(X Y:List α)(x:α){i n:Nat}(hn:X.length=n)(hi:i<=n)(hy:0<Y.length):(Au (Au (X++Y) (i+1) (X.drop i)) i [x]).take (n+1)=X.take i++x::X.drop i:=by
 have e1:(X.take i).length=i:=by simp;omega
 have e0:(X++Y).take (i+1)=X.take i++((X.drop i++Y).take 1):=by
  have:X++Y=X.take i++(X.drop i++Y):=by rw[<-A0b,A12]
  rw[this,List.take_append,A08 (by omega),e1,A1u]
 obtain⟨z,hz⟩:∃ z,(X.drop i++Y).take 1=[z]:=by
  cases h:X.drop i++Y with
  |nil=> have h1:(X.drop i++Y).length=0:=by rw[h];rfl
         rw[A04] at h1;omega
  |cons z r=>exact ⟨z,rfl⟩
 rw[hz] at e0
 have e2:Au (X++Y) (i+1) (X.drop i)=X.take i++z::(X.drop i++(X++Y).drop (i+1+(X.drop i).length)):=by
  simp only[Au];rw[e0];simp
 rw[e2]
 generalize(X++Y).drop (i+1+(X.drop i).length)=W
 have e3:Au (X.take i++z::(X.drop i++W)) i [x]=X.take i++x::(X.drop i++W):=by
  have h1:(X.take i).drop (i+1)=[]:=A0i (by omega)
  simp only[Au,A18]
  rw[A1K e1,List.drop_append,h1,e1,A1u]
  rfl
 rw[e3]
 have e4:X.take i++x::(X.drop i++W)=(X.take i++x::X.drop i)++W:=by simp
 rw[e4,A1r (by simp;omega),A08 (by simp;omega)]
theorem c_insK(l:List GT)(x:GT)(i:Nat)(hi:i<=l.length)(h0:0<l.length)(hn:l.length<=1048576):
  A2 prog 163 [.gref 1 l.length,.val (.int .i64 i),.sref 3 0 1 1 1] [(1,.grow (l.map Ai) 1),(3,.rows [Ai x] 1)] (.gref 0 (l.length+1)) [(0,.grow ((CW l i x).map Ai) 1)]:=by
 refine A2.of_awp func163 rfl ntmps163 (by kernel_rfl) (by simp) (congrArg Array.toList results163) (AWp.sz fun H Hb=>AWp.ungrow (b:=1) rfl (fun hg0=>?_) (fun cap hg1 hg2 hg3=>Zy ?_))
 ·have:l.length=0:=by simpa using congrArg List.length hg0
  omega
 have hc0:l.length<=cap:=by simpa using hg1
 have w1:IntKind.i64.wrap (↑l.length+1)=(l.length:Int)+1:=A9 (by omega) (by omega)
 have w2:IntKind.i64.wrap (↑l.length+1-↑i)=((l.length+1-i:Nat):Int):=by rw[A9 (by omega) (by omega)];omega
 have w3:IntKind.i64.wrap (↑i+1)=(i:Int)+1:=A9 (by omega) (by omega)
 have t1:((i:Int)+1).toNat=i+1:=by omega
 have t2:((i:Int)+↑(l.length+1-i)).toNat=l.length+1:=by omega
 have t4:min 1 (l.length+1-i)=1:=by omega
 have t9:((l.length:Int)+1).toNat=l.length+1:=by omega
 have t7:i+(l.length+1-i)=l.length+1:=by omega
 have m1:(List.map Ai l++List.replicate (cap-l.length) [D.any]).length=cap:=by simp;omega
 have u1:=Y7 1 8 cap 1 x
 have r1:List.take i (List.map Ai l++List.replicate (cap-l.length) [D.any])=List.take i (List.map Ai l):=A1r (by simp;omega)
 have r2:List.take (l.length-i) (List.drop i (List.map Ai l++List.replicate (cap-l.length) [D.any]))=List.drop i (List.map Ai l):=V7 _ _ (by simp) hi
 have r3:List.take (l.length-i) (List.take (l.length+1-i) (List.drop i (List.map Ai l++List.replicate (cap-l.length) [D.any])))=List.drop i (List.map Ai l):=by
  rw[List.take_take,Nat.min_eq_left (by omega),r2]
 have t8:(List.drop i (List.map Ai l)).length=l.length-i:=by simp
 have p1:=C1 (Ca l) i
 have p2:=C2 (Ca l) i
 rcases A14 i l.length with hz|hz
 ·have b1:((i:Int)==l.length)=false:=by simp;omega
  have t5:min (l.length-i) (l.length+1-(i+1))=l.length-i:=by omega
  have t6:List.take (l.length-i) (List.drop i (List.map Ai l))=List.drop i (List.map Ai l):=A08 (by simp)
  have b3:decide (i<cap)=true:=decide_eq_true (by omega)
  have b4:decide (i+1<l.length+1)=true:=decide_eq_true (by omega)
  rcases A14 cap (l.length+1) with hq|hq
  ·have b2:decide ((cap:Int)<(l.length:Int)+1)=true:=decide_eq_true (by omega)
   have key:=Rj (l.map Ai) (List.replicate (l.length+1-i) [D.val (Value.pointer none)]) i (Ai x) (by simp;omega) (by simp)
   (have z:=Za b1<|Za w1<|Za w2<|Za w3<|Za t1<|Za t2<|Za t4<|Za t5<|Za @Nat.min_self<|Za t6<|Za t7<|Za t8<|Za t9<|Za b2<|Za b3<|Za b4<|Za m1<|Za u1<|Za r1 r2;(try push_cast[z])<;>repeat' (first|apply Zi<;>intro _|exact Zo|with_reducible apply Za)<;>try push_cast[z])
   all_goals first|omega|exact JE x|exact GQ x|exact Kk l i|exact Kc l i|(simp;omega)|(simp[Au];omega)|skip
   rw[ED]
   apply Zr [(0,242)] rfl<;>push_cast [t4,t5,Nat.min_self,t6,t8,t9,u1,r1,r2,key,p1,p2]
  ·have b2:decide ((cap:Int)<(l.length:Int)+1)=false:=decide_eq_false (by omega)
   have b5:decide (i+1<cap)=true:=decide_eq_true (by omega)
   have t10:(List.take (l.length+1-i) (List.drop i (List.map Ai l++List.replicate (cap-l.length) [D.any]))).length=l.length+1-i:=by simp;omega
   have t11:min (l.length+1-i) (l.length-i)=l.length-i:=by omega
   have key:=QZ (l.map Ai) (List.replicate (cap-l.length) [D.any]) (Ai x) (i:=i) (n:=l.length) (by simp) hi (by simp;omega)
   have m3:(Au (Au (List.map Ai l++List.replicate (cap-l.length) [D.any]) (i+1) (List.drop i (List.map Ai l))) i [Ai x]).length=cap:=by simp[Au];omega
   (have z:=Za b1<|Za w1<|Za w2<|Za w3<|Za t1<|Za t2<|Za t4<|Za t5<|Za @Nat.min_self<|Za t7<|Za t9<|Za t10<|Za t11<|Za b2<|Za b3<|Za b4<|Za b5<|Za m1<|Za u1 r3;(try push_cast[z])<;>repeat' (first|apply Zi<;>intro _|exact Zo|with_reducible apply Za|(with_reducible show A1 _ _ _ _ _ _ _ _;refine A1.ovl x_ovlK (by first|exact .inl rfl|exact .inr ⟨_,_,_,rfl,rfl,rfl⟩) rfl rfl rfl rfl (by decide) ?_ ?_)<;>try push_cast[z]|fail)<;>try push_cast[z])
   all_goals first|omega|exact JE x|exact GQ x|exact Kk l i|exact Kc l i|exact WU l _ _ i|(simp;omega)|(simp[Au];omega)|skip
   rw[ED]
   refine Ar.trans (Ar.regrow (b:=8) (l.length+1) rfl ?_ ?_) ?_
   ·push_cast[t10,t11,r3,u1,m3];omega
   ·push_cast[t10,t11,r3,u1,m3];omega
   push_cast[t10,t11,r3,u1,m3,key,S4]
   apply Zr [(0,418)] rfl<;>push_cast [p1,p2]
 ·have b1:((i:Int)==l.length)=true:=by simp;omega
  have ei:i=l.length:=by omega
  subst ei
  have p3:List.drop l.length (List.map Ai l)=[]:=A0i (by simp)
  have p4:List.take l.length (List.map Ai l)=List.map Ai l:=A08 (by simp)
  rcases A14 cap (l.length+1) with hq|hq
  ·have b2:decide (l.length+1<=cap)=false:=decide_eq_false (by omega)
   (have z:=Za b1<|Za w1<|Za w2<|Za w3<|Za t1<|Za t2<|Za t4<|Za t7<|Za t9<|Za b2<|Za m1 u1;(try push_cast[z])<;>repeat' (first|apply Zi<;>intro _|exact Zo|with_reducible apply Za)<;>try push_cast[z])
   all_goals first|omega|exact JE x|exact GQ x|(simp;omega)|(simp[Au];omega)|skip
   rw[ED]
   apply Zr [(0,146)] rfl<;>push_cast [r1,p1,p2,p3,p4]
  ·have b2:decide (l.length+1<=cap)=true:=decide_eq_true (by omega)
   (have z:=Za b1<|Za w1<|Za w2<|Za w3<|Za t1<|Za t2<|Za t4<|Za t7<|Za t9<|Za b2<|Za m1 u1;(try push_cast[z])<;>repeat' (first|apply Zi<;>intro _|exact Zo|with_reducible apply Za)<;>try push_cast[z])
   all_goals first|omega|exact JE x|exact GQ x|(simp;omega)|(simp[Au];omega)|skip
   have key:=QZ (l.map Ai) (List.replicate (cap-l.length) [D.any]) (Ai x) (i:=l.length) (n:=l.length) (by simp) hi (by simp;omega)
   rw[p3,Do] at key
   have m3:(Au (List.map Ai l++List.replicate (cap-l.length) [D.any]) l.length [Ai x]).length=cap:=by simp[Au];omega
   rw[ED,p3]
   refine Ar.trans (Ar.regrow (b:=8) (l.length+1) rfl ?_ ?_) ?_
   ·push_cast[m3];omega
   ·push_cast[m3];omega
   push_cast[m3,key,p3,p4,S4]
   apply Zr [(0,162)] rfl<;>push_cast [p1,p2,p3,p4]
def Dj{α:Type}(l:List α)(i:Nat):List α:=l.take i++l.drop (i+1)
theorem Yk{α:Type}(X:List α)(i n:Nat)(z:α)(hn:X.length=n)(hi:i<n):Au (Au X i (X.drop (i+1))) (n-1) [z]=X.take i++X.drop (i+1)++[z]:=by
 have e1:(X.take i++X.drop (i+1)).length=n-1:=by simp;omega
 have e2:Au X i (X.drop (i+1))=(X.take i++X.drop (i+1))++X.drop (n-1):=by
  simp only[Au]
  have:i+(X.drop (i+1)).length=n-1:=by simp;omega
  rw[this,A0b]
 rw[e2]
 simp only[Au,A18]
 rw[A1K e1]
 have e3:((X.take i++X.drop (i+1))++X.drop (n-1)).drop (n-1+1)=[]:=A0i (by rw[A04,e1,A0v];omega)
 rw[e3,A0H]
theorem Hz{α β:Type}(f:α->β)(l:List α)(i:Nat):(Dj l i).map f=(l.map f).take i++(l.map f).drop (i+1):=by simp[Dj,List.map_take,List.map_drop]
theorem c_delE(l:List GE)(i:Nat)(hi:i<l.length)(hn:l.length<=1048576):
  A2 prog 157 [.sref 1 0 l.length l.length 7,.val (.int .i64 i),.val (.int .i64 ((i+1:Nat):Int))] [(1,.rows (l.map A7) 7)] (.sref 1 0 (l.length-1) l.length 7) [(1,.rows ((Dj l i).map A7++[z7]) 7)]:=by
 have b1:((i:Int)==(i:Int)+1)=false:=by simp;omega
 have t1:((i:Int)+1).toNat=i+1:=by omega
 have w1:IntKind.i64.wrap (↑l.length-1)=((l.length-1:Nat):Int):=by rw[A9 (by omega) (by omega)];omega
 have b5:decide (l.length-1<l.length)=true:=decide_eq_true (by omega)
 have t9:(((l.length-1:Nat):Int)).toNat=l.length-1:=by omega
 have q0:(i+1==0)=false:=rfl
 have t4:l.length-(l.length-1)=1:=by omega
 have key:=Yk (l.map A7) i l.length z7 (by simp) hi
 have p1:=C1 (Bu l) i
 have p2:=C2 (Bu l) (i+1)
 simp only[z7,z6] at key
 rcases A14 (i+1) l.length with hz|hz
 ·have b3:decide (i+1<l.length)=true:=decide_eq_true hz
  have tk:List.take (l.length-(i+1)) (List.drop (i+1) (List.map A7 l))=List.drop (i+1) (List.map A7 l):=A08 (by simp)
  have t2:(List.drop (i+1) (List.map A7 l)).length=l.length-(i+1):=by simp
  have t3:i+(l.length-(i+1))=l.length-1:=by omega
  have b4:decide (l.length-1<=l.length)=true:=decide_eq_true (by omega)
  refine Zd [] func157 rfl ntmps157 results157 ?_
  (have z:=Za b1<|Za t1<|Za b3<|Za b4<|Za b5<|Za tk<|Za t2<|Za t3<|Za t4 q0;(try push_cast[z])<;>repeat' (first|apply Zi<;>intro _|exact Zo|with_reducible apply Za)<;>try push_cast[z])
  all_goals first|omega|exact NQ l _|exact Ns l _|(simp;done)|skip
  all_goals first|(simp[Au];omega)|skip
  rw[Hz]
  apply Zw<;>push_cast [t4,key,p1,p2]
 ·have b3:decide (i+1<l.length)=false:=decide_eq_false (by omega)
  have b4:decide (i<=l.length)=true:=decide_eq_true (by omega)
  have t3:l.length-1=i:=by omega
  have b6:decide (i<l.length)=true:=decide_eq_true (by omega)
  have t5:l.length-i=1:=by omega
  have p3:List.drop (i+1) (List.map A7 l)=[]:=A0i (by simp;omega)
  rw[p3,Do,t3,A0H] at key
  rw[t3]
  refine Zd [] func157 rfl ntmps157 results157 ?_
  (have z:=Za b1<|Za t1<|Za b3<|Za b4<|Za b6<|Za t5<|Za q0 @Do;(try push_cast[z])<;>repeat' (first|apply Zi<;>intro _|exact Zo|with_reducible apply Za)<;>try push_cast[z])
  all_goals first|omega|(intro y hy;cases hy;done)|(simp;done)|(simp;omega)|skip
  rw[Hz,p3]
  apply Zw<;>push_cast [t5,key,p1,p2]
theorem Yc{α:Type}(X Y:List α)(i n:Nat)(z:α)(hn:X.length=n)(hi:i<n):(Au (Au (X++Y) i (X.drop (i+1))) (n-1) [z]).take (n-1)=X.take i++X.drop (i+1):=by
 have e1:(X.take i++X.drop (i+1)).length=n-1:=by simp;omega
 have e2:∃ W,Au (X++Y) i (X.drop (i+1))=(X.take i++X.drop (i+1))++W:=by
  refine⟨(X++Y).drop (i+(X.drop (i+1)).length),?_⟩
  simp only[Au]
  rw[A1r (by omega),A0b]
 obtain⟨W,e2⟩:=e2
 rw[e2]
 simp only[Au]
 rw[A1K e1,A1K e1]
theorem c_delK(l:List GT)(i:Nat)(hi:i<l.length)(hn:l.length<=1048576):
  A2 prog 231 [.gref 1 l.length,.val (.int .i64 i),.val (.int .i64 ((i+1:Nat):Int))] [(1,.grow (l.map Ai) 1)] (.gref 0 (l.length-1)) [(0,.grow ((Dj l i).map Ai) 1)]:=by
 refine A2.of_awp func231 rfl ntmps231 (by kernel_rfl) (by simp) (congrArg Array.toList results231) (AWp.sz fun H Hb=>AWp.ungrow (b:=1) rfl (fun hg0=>?_) (fun cap hg1 hg2 hg3=>Zy ?_))
 ·have:l.length=0:=by simpa using congrArg List.length hg0
  omega
 have hc0:l.length<=cap:=by simpa using hg1
 have b1:((i:Int)==(i:Int)+1)=false:=by simp;omega
 have t1:((i:Int)+1).toNat=i+1:=by omega
 have q0:(i+1==0)=false:=rfl
 have m1:(List.map Ai l++List.replicate (cap-l.length) [D.any]).length=cap:=by simp;omega
 have t3:i+(l.length-(i+1))=l.length-1:=by omega
 have t4:l.length-(l.length-1)=1:=by omega
 have b3:decide (i<cap)=true:=decide_eq_true (by omega)
 have b4:decide (l.length-1<=cap)=true:=decide_eq_true (by omega)
 have b5:decide (l.length-1<cap)=true:=decide_eq_true (by omega)
 have r2:List.take (l.length-(i+1)) (List.drop (i+1) (List.map Ai l++List.replicate (cap-l.length) [D.any]))=List.drop (i+1) (List.map Ai l):=V7 _ _ (by simp) hi
 have t2:(List.drop (i+1) (List.map Ai l)).length=l.length-(i+1):=by simp
 have key:=Yc (l.map Ai) (List.replicate (cap-l.length) [D.any]) i l.length [D.val (Value.pointer none)] (by simp) hi
 have m3:(Au (Au (List.map Ai l++List.replicate (cap-l.length) [D.any]) i (List.drop (i+1) (List.map Ai l))) (l.length-1) [[D.val (Value.pointer none)]]).length=cap:=by simp[Au];omega
 have p1:=C1 (Ca l) i
 have p2:=C2 (Ca l) (i+1)
 rcases A14 (i+1) cap with hz|hz
 ·have b6:decide (i+1<cap)=true:=decide_eq_true hz
  (have z:=Za b1<|Za t1<|Za q0<|Za m1<|Za t2<|Za t3<|Za t4<|Za b3<|Za b4<|Za b5<|Za b6 r2;(try push_cast[z])<;>repeat' (first|apply Zi<;>intro _|exact Zo|with_reducible apply Za)<;>try push_cast[z])
  all_goals first|omega|exact Kk l _|exact Kc l _|(simp;done)|(simp[Au];omega)|skip
  rw[Hz]
  refine Ar.trans (Ar.regrow (b:=8) (l.length-1) rfl ?_ ?_) ?_
  ·push_cast[m3];omega
  ·push_cast[m3];omega
  push_cast[m3,key]
  apply Zr [(0,242)] rfl<;>push_cast [p1,p2]
 ·have b6:decide (i+1<cap)=false:=decide_eq_false (by omega)
  have t5:l.length-i=1:=by omega
  have t6:l.length-1=i:=by omega
  have p3:List.drop (i+1) (List.map Ai l)=[]:=A0i (by simp;omega)
  rw[p3,Do,A0H,t6] at key
  rw[p3,Do,t6] at m3
  rw[Hz,p3,A0H,t6]
  have b7:decide (i<=cap)=true:=decide_eq_true (by omega)
  (have z:=Za b1<|Za t1<|Za q0<|Za m1<|Za b3<|Za b6<|Za b7<|Za t5 @Do;(try push_cast[z])<;>repeat' (first|apply Zi<;>intro _|exact Zo|with_reducible apply Za)<;>try push_cast[z])
  all_goals first|omega|(intro y hy;cases hy;done)|(simp;done)|(simp;omega)|skip
  refine Ar.trans (Ar.regrow (b:=8) i rfl ?_ ?_) ?_
  ·push_cast[m3];omega
  ·push_cast[m3];omega
  push_cast[m3,key]
  apply Zr [(0,242)] rfl<;>push_cast [p1]
theorem c_insE0(x:GE):A2 prog 161 [.slice [] true,.val (.int .i64 0),.sref 3 0 1 1 7] [(3,.rows [A7 x] 7)] (.gref 0 1) [(0,.grow [A7 x] 7)]:=by
 refine Zd [] func161 rfl ntmps161 results161 ?_
 ((try push_cast)<;>repeat' (first|apply Zi<;>intro _|exact Zp|with_reducible apply Za)<;>try push_cast)
 all_goals first|omega|exact Qa x|exact PY x|(intro y hy;cases hy;done)|skip
 apply Zr [(0,144)] rfl<;>push_cast
theorem EQ(e:GE):nd (A7 e) 0=.val (.string e.1):=rfl
theorem DU(e:GE):(A7 e).drop 7=[]:=A0i (by rw[Bg];exact A0a _)
def N6(l:List GE)(e:GE):List GE:=if DT l e.1=true then l.set (BC l e.1) e else CW l (BC l e.1) e
theorem c_with0(t:GT)(e:GE)(h0:t.height=0)(hl:t.es≠[])(h8:t.es.length<=8)(hs:∀ e ∈ t.es,Sm e.2)(hm:∀ i j,i<=j->j<t.es.length->ltS (t.es.getD i zM).1 e.1=false->ltS (t.es.getD j zM).1 e.1=false)
  (hsp:if (N6 t.es e).length<=8 then OkE (N6 t.es e) else OkE ((N6 t.es e).take 4)/\OkE ((N6 t.es e).drop 4)):
  A0 prog 97 [Ac t,.agg (A7 e)] (.tup [Ac (J6 (N6 t.es e)).1,Ac (J6 (N6 t.es e)).2]):=by
 have hH:=BE t
 rw[h0] at hH
 have hE:=Dk t hl (by omega) hs
 have hp:=JR t.es false e.1 hm (by omega)
 have hS:=SG _ hsp
 have hle:=EH (fun i=>!ltS (t.es.getD i zM).1 e.1) 0 t.es.length
 have hpos:BC t.es e.1<=t.es.length:=by have:=EH (fun i=>!ltS (t.es.getD i zM).1 e.1) t.es.length 0;unfold BC;omega
 have tk:List.take t.es.length (List.map A7 t.es)=List.map A7 t.es:=A08 (by simp)
 refine Zf [0] func97 rfl ntmps97 results97 ?_
 cases hh:DT t.es e.1 with
 |true=>
  have hlt:BC t.es e.1<t.es.length:=by
   unfold DT at hh;simp only[A07,decide_eq_true_eq] at hh;exact hh.1
  unfold N6 at hS|-
  rw[if_pos hh] at hS|-
  rw[hh] at hp
  have d7:List.drop 7 (nr (List.map A7 t.es) (BC t.es e.1))=[]:=by rw[Bk hlt];exact A0i (by rw[Bg];exact A0a _)
  have ms:(List.map A7 t.es).set (BC t.es e.1) (A7 e)=List.map A7 (t.es.set (BC t.es e.1) e):=(A1F ..).symm
  have tk2:List.take t.es.length (List.map A7 (t.es.set (BC t.es e.1) e))=List.map A7 (t.es.set (BC t.es e.1) e):=A08 (by simp)
  have x0:=EQ e
  have x1:=Bg e
  have x2:=Al e
  have x3:=Cv e
  have x4:=Cd e
  have x5:=DU e
  generalize A7 e=X at*
  (have z:=Za tk<|Za tk2<|Za d7<|Za ms<|Za x0<|Za x1<|Za x2<|Za x3<|Za x4 x5;(try push_cast[z])<;>repeat' (first|apply Zi<;>intro _|refine Zc hH ?_|refine Zs [] hE ?_|refine Zq (hp ..) ?_ ?_|refine Zg hS ?_ ?_|exact Zo|with_reducible apply Za)<;>try push_cast[z])
  all_goals first|omega|(simp;done)|skip
 |false=>
  unfold N6 at hS|-
  rw[if_neg (by rw[hh];simp)] at hS|-
  rw[hh] at hp
  have hi:=c_insE t.es e (BC t.es e.1) hpos (by omega)
  have hlen:(CW t.es (BC t.es e.1) e).length=t.es.length+1:=by simp[CW];omega
  have x0:=EQ e
  have x1:=Bg e
  have x2:=Al e
  have x3:=Cv e
  have x4:=Cd e
  have x5:=DU e
  generalize A7 e=X at*
  (have z:=Za tk<|Za x0<|Za x1<|Za x2<|Za x3<|Za x4<|Za x5 @hlen;(try push_cast[z])<;>repeat' (first|apply Zi<;>intro _|refine Zc hH ?_|refine Zs [] hE ?_|refine Zq (hp ..) ?_ ?_|refine Zs [(1,56),(3,176)] (hi ..) ?_|refine Zg hS ?_ ?_|exact Zo|with_reducible apply Za)<;>try push_cast[z])
  all_goals first|omega|(simp;done)|skip
theorem c_withN(t:GT)(e:GE)(h0:t.height=0)(hl:t.es=[])(hse:Sm e.2):
  A0 prog 97 [Ac t,.agg (A7 e)] (.tup [Ac (AB [e]),Ac .nil]):=by
 have hH:=BE t
 rw[h0] at hH
 have hE:=Gf t hl
 have hp:=JR [] true e.1 (fun i j _ h=>absurd h (by simp)) (by simp)
 have hpe:BC [] e.1=0:=rfl
 have hhe:DT [] e.1=false:=rfl
 rw[hpe,hhe] at hp
 have hok:OkE [e]:=⟨by simp,fun x hx=>by rw[A0d.1 hx];exact hse,fun i h h'=>absurd h' (by simp;omega)⟩
 have hS:=SG [e] (by rw[if_pos (by simp)];exact hok)
 have hs1:J6 [e]=(AB [e],.nil):=rfl
 rw[hs1] at hS
 have hi:=c_insE0 e
 simp only[A0G,A0h] at hp hS
 refine Zf [0] func97 rfl ntmps97 results97 ?_
 have x0:=EQ e
 have x1:=Bg e
 have x2:=Al e
 have x3:=Cv e
 have x4:=Cd e
 have x5:=DU e
 generalize A7 e=X at*
 (have z:=Za x0<|Za x1<|Za x2<|Za x3<|Za x4 x5;(try push_cast[z])<;>repeat' (first|apply Zi<;>intro _|refine Zc hH ?_|refine Zc hE ?_|refine Zc (hp ..) ?_|refine Zs [(3,176)] (hi ..) ?_|refine Zg hS ?_ ?_|exact Zo|with_reducible apply Za)<;>try push_cast[z])
 all_goals first|omega|(simp;done)|skip
theorem BW{t:GT}(h:t≠ .nil):∃ cs,Ac t=.ptr cs 0:=by
 obtain⟨e,k,hh,c,f,l,th,rfl⟩:=GT.ne_nil h
 exact⟨_,AW ..⟩
theorem c_withI(t:GT)(e:GE)(L:GT)(h0:t.height≠0)(h1:0<t.kids.length)(h8:t.kids.length<=8)(hm:∀ i j,i<=j->j<t.kids.length->ltS e.1 (t.kids.getD i .nil).first=true->ltS e.1 (t.kids.getD j .nil).first=true)(hi:AD t.kids e.1<t.kids.length)
  (hrec:A0 prog 97 [Ac (t.kids.getD (AD t.kids e.1) .nil),.agg (A7 e)] (.tup [Ac L,Ac .nil]))
  (hok:OkK (t.kids.set (AD t.kids e.1) L)) (hL:L≠ .nil):
  A0 prog 97 [Ac t,.agg (A7 e)] (.tup [Ac (Dv (t.kids.set (AD t.kids e.1) L)),Ac .nil]):=by
 have hH:=BE t
 have b0:(t.height==0)=false:=by simpa using h0
 have hK:=EW t h1 (by omega)
 have hw:=DV t.kids e.1 hm (by omega)
 have hS:=SF (t.kids.set (AD t.kids e.1) L) (by simp;omega) (by rw[if_pos (by simp;omega)];exact hok)
 have hs1:GD (t.kids.set (AD t.kids e.1) L)=(Dv (t.kids.set (AD t.kids e.1) L),.nil):=by unfold GD;rw[if_pos (by simp;omega)]
 rw[hs1] at hS
 have ea:=Bf hi
 have ms:(List.map Ai t.kids).set (AD t.kids e.1) [Ac L]=List.map Ai (t.kids.set (AD t.kids e.1) L):=(A1F (f:=Ai) ..).symm
 rw[B4] at hrec hS|-
 obtain⟨cs,hcs⟩:=BW hL
 have o2:=A3 L
 rw[hcs] at o2 hrec ms
 simp only[D.pure] at o2
 have x0:=EQ e
 have x1:=Bg e
 have x2:=Al e
 have x3:=Cv e
 have x4:=Cd e
 have x5:=DU e
 generalize A7 e=X at*
 refine Zf [0] func97 rfl ntmps97 results97 ?_
 (have z:=Za x0<|Za x1<|Za x2<|Za x3<|Za x4<|Za x5<|Za b0<|Za ea<|Za @Ai.eq_1<|Za o2 ms;(try push_cast[z])<;>repeat' (first|apply Zi<;>intro _|refine Zc hH ?_|refine Zs [] hK ?_|refine Zq (hw ..) ?_ ?_|refine Zc (hrec ..) ?_|refine Zg hS ?_ ?_|exact Zo|with_reducible apply Za)<;>try push_cast[z])
 all_goals first|omega|(simp;done)|skip
theorem c_withJ(t:GT)(e:GE)(L R:GT)(h0:t.height≠0)(h1:0<t.kids.length)(h8:t.kids.length<=8)(hm:∀ i j,i<=j->j<t.kids.length->ltS e.1 (t.kids.getD i .nil).first=true->ltS e.1 (t.kids.getD j .nil).first=true)(hi:AD t.kids e.1<t.kids.length)
  (hrec:A0 prog 97 [Ac (t.kids.getD (AD t.kids e.1) .nil),.agg (A7 e)] (.tup [Ac L,Ac R])) (hL:L≠ .nil) (hR:R≠ .nil) (l:List GT) (hl:l=CW (t.kids.set (AD t.kids e.1) L) (AD t.kids e.1+1) R)
  (hok:if l.length<=8 then OkK l else OkK (l.take 4)/\OkK (l.drop 4)):
  A0 prog 97 [Ac t,.agg (A7 e)] (.tup [Ac (GD l).1,Ac (GD l).2]):=by
 have hH:=BE t
 have b0:(t.height==0)=false:=by simpa using h0
 have hK:=EW t h1 (by omega)
 have hw:=DV t.kids e.1 hm (by omega)
 have hlen:l.length=t.kids.length+1:=by rw[hl];simp[CW];omega
 have hS:=SF l (by omega) hok
 have hI:=c_insK (t.kids.set (AD t.kids e.1) L) R (AD t.kids e.1+1) (by simp;omega) (by simp;omega) (by simp;omega)
 rw[<-hl,A0S] at hI
 have ea:=Bf hi
 have ms:(List.map Ai t.kids).set (AD t.kids e.1) [Ac L]=List.map Ai (t.kids.set (AD t.kids e.1) L):=(A1F (f:=Ai) ..).symm
 obtain⟨cs,hcs⟩:=BW hL
 obtain⟨rs,hrs⟩:=BW hR
 have o2:=A3 L
 have o3:=A3 R
 have er:Ai R=[Ac R]:=rfl
 rw[er,hrs] at hI
 rw[hcs] at o2 hrec ms
 rw[hrs] at o3 hrec
 simp only[D.pure] at o2 o3
 have w1:IntKind.i64.wrap (((AD t.kids e.1:Nat):Int)+1)=((AD t.kids e.1+1:Nat):Int):=by rw[A9 (by omega) (by omega)];omega
 push_cast at w1 hI
 have x0:=EQ e
 have x1:=Bg e
 have x2:=Al e
 have x3:=Cv e
 have x4:=Cd e
 have x5:=DU e
 generalize A7 e=X at*
 refine Zf [0] func97 rfl ntmps97 results97 ?_
 (have z:=Za x0<|Za x1<|Za x2<|Za x3<|Za x4<|Za x5<|Za b0<|Za ea<|Za @Ai.eq_1<|Za o2<|Za o3<|Za ms<|Za w1 @hlen;(try push_cast[z])<;>repeat' (first|apply Zi<;>intro _|refine Zc hH ?_|refine Zs [] hK ?_|refine Zq (hw ..) ?_ ?_|refine Zc (hrec ..) ?_|refine Zs [(1,56),(3,288)] hI ?_|refine Zg hS ?_ ?_|exact Zo|with_reducible apply Za)<;>try push_cast[z])
 all_goals first|omega|(simp;done)|skip
theorem LP:∀ (a b:List (List D)),A6 (a++b)=(A6 a&&A6 b)
 |[],b=>by simp[A6]
 |x::a,b=>by simp[A6,LP a b,Bool.and_assoc]
attribute [push_cast] LP A6
theorem c_insE1(l:List GE)(x:GE)(hl:0<l.length)(hn:l.length<=1048576):
  A2 prog 161 [.sref 1 0 l.length l.length 7,.val (.int .i64 0),.sref 3 0 1 1 7] [(1,.rows (l.map A7) 7),(3,.rows [A7 x] 7)] (.gref 0 (l.length+1)) [(0,.grow ((x::l).map A7) 7)]:=by
 have h:=c_insE l x 0 (A0D _) hn
 have e:CW l 0 x=x::l:=by simp[CW]
 rw[e] at h
 exact h
theorem c_pairE1(l r:List GE)(hl:4<l.length)(hl8:l.length<=9)(hr:0<r.length)(hr8:r.length<=8)(h1:OkE (l.take (l.length-1)))(h2:OkE (l.getD (l.length-1) zM::r)):
  A2 prog 229 [.sref 1 0 l.length l.length 7,.sref 3 0 r.length r.length 7,.func (.func 156) [] []] [(1,.rows (l.map A7) 7),(3,.rows (r.map A7) 7)]
   (.tup [Ac (AB (l.take (l.length-1))),Ac (AB (l.getD (l.length-1) zM::r))]) []:=by
 have b1:decide ((4:Int)<l.length)=true:=decide_eq_true (by omega)
 have w1:IntKind.i64.wrap (↑l.length-1)=((l.length-1:Nat):Int):=by rw[A9 (by omega) (by omega)];omega
 have hc1:=Ge (l.take (l.length-1)) false h1.hl h1.hs h1.hr
 have hc2:=Ge (l.getD (l.length-1) zM::r) false h2.hl h2.hs h2.hr
 have hi:=c_insE1 r (l.getD (l.length-1) zM) hr (by omega)
 have ea:=Bk (show l.length-1<l.length by omega)
 have b2:decide (l.length-1<l.length)=true:=decide_eq_true (by omega)
 have t9:(((l.length-1:Nat):Int)).toNat=l.length-1:=by omega
 rw[List.map_take] at hc1
 have hz:l.length<=9223372036854775807:=by omega
 have tk:List.take l.length (List.map A7 l)=List.map A7 l:=A08 (by simp)
 have p1:=C1 (Bu l) (l.length-1)
 generalize l.getD (l.length-1) zM=e at*
 have x0:=EQ e
 have x1:=Bg e
 have x2:=Al e
 have x3:=Cv e
 have x4:=Cd e
 have x5:=DU e
 simp only[A0h] at hc2 hi
 generalize A7 e=X at*
 refine Zd [1] func229 rfl ntmps229 results229 ?_
 (have z:=Za @Nat.le_refl<|Za hz<|Za tk<|Za b1<|Za w1<|Za ea<|Za b2<|Za t9<|Za p1<|Za x0<|Za x1<|Za x2<|Za x3<|Za x4 x5;(try push_cast[z])<;>repeat' (first|apply Zi<;>intro _|refine Zv (hc1 ..) ?_|refine Zs [(1,3),(3,176)] (hi ..) ?_|exact Zo|with_reducible apply Za|(with_reducible show A1 _ _ _ _ _ _ _ _;refine A1.giveV (by(try push_cast[z]);rfl) (by(try push_cast[z]);rfl) (by(try push_cast[z]);exact hc2 ..) (by first|exact .inl rfl|exact .inr ⟨_,_,_,rfl,rfl,rfl⟩) rfl ?_ (by push_cast[z]) ?_)<;>try push_cast[z]|fail)<;>try push_cast[z])
 all_goals first|omega|exact C4 l|exact .inr (by omega)|(simp;done)|skip
 apply Zw<;>push_cast
theorem c_pairE2(l r:List GE)(hl:l.length<=4)(hr:4<r.length)(hr8:r.length<=9)(h1:OkE (l++[r.getD 0 zM]))(h2:OkE (r.drop 1)):
  A2 prog 229 [.sref 1 0 l.length l.length 7,.sref 3 0 r.length r.length 7,.func (.func 156) [] []] [(1,.rows (l.map A7) 7),(3,.rows (r.map A7) 7)]
   (.tup [Ac (AB (l++[r.getD 0 zM])),Ac (AB (r.drop 1))]) []:=by
 have b1:decide ((4:Int)<l.length)=false:=decide_eq_false (by omega)
 have b2:decide ((4:Int)<r.length)=true:=decide_eq_true (by omega)
 have b3:decide (0<r.length)=true:=decide_eq_true (by omega)
 have b4:decide (1<r.length)=true:=decide_eq_true (by omega)
 have hc1:=Ge (l++[r.getD 0 zM]) false h1.hl h1.hs h1.hr
 have hc2:=Ge (r.drop 1) true h2.hl h2.hs h2.hr
 have ea:=Bk (show 0<r.length by omega)
 have hz1:l.length<=9223372036854775807:=by omega
 have hz2:r.length<=9223372036854775807:=by omega
 have tk1:List.take l.length (List.map A7 l)=List.map A7 l:=A08 (by simp)
 have tk2:List.take r.length (List.map A7 r)=List.map A7 r:=A08 (by simp)
 have tk3:List.take (r.length-1) (List.drop 1 (List.map A7 r))=List.drop 1 (List.map A7 r):=A08 (by simp)
 rw[A0K,A0h,A0G] at hc1
 rw[List.map_drop] at hc2
 have p1:=C2 (Bu r) 1
 have g1:∀ x ∈ [r.getD 0 zM].map A7,x.length=7:=C4 _
 have g2:∀ x ∈ [r.getD 0 zM].map A7,∀ d ∈ x,AN d=true:=DM _
 rw[A0h,A0G] at g1 g2
 generalize r.getD 0 zM=e at*
 have x0:=EQ e
 have x1:=Bg e
 have x2:=Al e
 have x3:=Cv e
 have x4:=Cd e
 have x5:=DU e
 generalize A7 e=X at*
 refine Zd [1,3] func229 rfl ntmps229 results229 ?_
 (have z:=Za @Nat.le_refl<|Za hz1<|Za hz2<|Za tk1<|Za tk2<|Za tk3<|Za b1<|Za b2<|Za b3<|Za b4<|Za ea<|Za p1<|Za x0<|Za x1<|Za x2<|Za x3<|Za x4 x5;(try push_cast[z])<;>repeat' (first|apply Zi<;>intro _|refine Zv (hc2 ..) ?_|exact Zo|with_reducible apply Za|(with_reducible show A1 _ _ _ _ _ _ _ _;refine A1.giveV (by(try push_cast[z]);rfl) (by(try push_cast[z]);rfl) (by(try push_cast[z]);exact hc1 ..) (by first|exact .inl rfl|exact .inr ⟨_,_,_,rfl,rfl,rfl⟩) rfl ?_ (by push_cast[z]) ?_)<;>try push_cast[z]|fail)<;>try push_cast[z])
 all_goals first|omega|exact C4 _|exact DM _|exact g1|exact g2|exact .inr (by omega)|(simp;done)|skip
 apply Zw<;>push_cast
theorem c_pairE3(l r:List GE)(hl:l.length<=4)(hr0:0<r.length)(hr:r.length<=4)(h1:OkE (l++r)):
  A2 prog 229 [.sref 1 0 l.length l.length 7,.sref 3 0 r.length r.length 7,.func (.func 156) [] []] [(1,.rows (l.map A7) 7),(3,.rows (r.map A7) 7)]
   (.tup [Ac (AB (l++r)),Ac .nil]) []:=by
 have b1:decide ((4:Int)<l.length)=false:=decide_eq_false (by omega)
 have b2:decide ((4:Int)<r.length)=false:=decide_eq_false (by omega)
 have hc1:=Ge (l++r) false h1.hl h1.hs h1.hr
 have hz1:l.length<=9223372036854775807:=by omega
 have hz2:r.length<=9223372036854775807:=by omega
 have tk1:List.take l.length (List.map A7 l)=List.map A7 l:=A08 (by simp)
 have tk2:List.take r.length (List.map A7 r)=List.map A7 r:=A08 (by simp)
 rw[A0K] at hc1
 rw[B4]
 refine Zd [1,3] func229 rfl ntmps229 results229 ?_
 (have z:=Za @Nat.le_refl<|Za hz1<|Za hz2<|Za tk1<|Za tk2<|Za b1 b2;(try push_cast[z])<;>repeat' (first|apply Zi<;>intro _|exact Zo|with_reducible apply Za|(with_reducible show A1 _ _ _ _ _ _ _ _;refine A1.giveV (by(try push_cast[z]);rfl) (by(try push_cast[z]);rfl) (by(try push_cast[z]);exact hc1 ..) (by first|exact .inl rfl|exact .inr ⟨_,_,_,rfl,rfl,rfl⟩) rfl ?_ (by push_cast[z]) ?_)<;>try push_cast[z]|fail)<;>try push_cast[z])
 all_goals first|omega|exact C4 _|exact DM _|exact .inr (by omega)|(simp;done)|skip
 apply Zw<;>push_cast
theorem c_insK0(l:List GT)(x:GT)(h0:0<l.length)(hn:l.length<=1048576):
  A2 prog 163 [.gref 1 l.length,.val (.int .i64 0),.sref 3 0 1 1 1] [(1,.grow (l.map Ai) 1),(3,.rows [Ai x] 1)] (.gref 0 (l.length+1)) [(0,.grow ((x::l).map Ai) 1)]:=by
 have h:=c_insK l x 0 (A0D _) h0 hn
 have e:CW l 0 x=x::l:=by simp[CW]
 rw[e] at h
 exact h
theorem c_pairK1(l r:List GT)(hl:4<l.length)(hl8:l.length<=9)(hr:0<r.length)(hr8:r.length<=8)(h1:OkK (l.take (l.length-1)))(h2:OkK (l.getD (l.length-1) .nil::r)):
  A2 prog 230 [.gref 1 l.length,.gref 3 r.length,.func (.func 98) [] []] [(1,.grow (l.map Ai) 1),(3,.grow (r.map Ai) 1)]
   (.tup [Ac (Dv (l.take (l.length-1))),Ac (Dv (l.getD (l.length-1) .nil::r))]) []:=by
 have b1:decide ((4:Int)<l.length)=true:=decide_eq_true (by omega)
 have w1:IntKind.i64.wrap (↑l.length-1)=((l.length-1:Nat):Int):=by rw[A9 (by omega) (by omega)];omega
 have hc1:=Dy (l.take (l.length-1)) (by simp;omega) h1
 have hc2:=Dy (l.getD (l.length-1) .nil::r) (by simp) h2
 have hi:=c_insK0 r (l.getD (l.length-1) .nil) hr (by omega)
 have ea:=Bf (show l.length-1<l.length by omega)
 have b2:decide (l.length-1<l.length)=true:=decide_eq_true (by omega)
 have t9:(((l.length-1:Nat):Int)).toNat=l.length-1:=by omega
 rw[List.map_take] at hc1
 have hz:l.length<=9223372036854775807:=by omega
 have p1:=C1 (Ca l) (l.length-1)
 have hne:l.getD (l.length-1) .nil≠ .nil:=(h2.hn 0 (by simp)).1
 generalize l.getD (l.length-1) .nil=e at*
 obtain⟨cs,hcs⟩:=BW hne
 have o2:=A3 e
 simp only[A0h,Ai] at hc2 hi ea
 rw[hcs] at o2 hc2 hi ea
 simp only[D.pure] at o2
 refine Zd [1] func230 rfl ntmps230 results230 ?_
 (have z:=Za hz<|Za b1<|Za w1<|Za ea<|Za b2<|Za t9<|Za p1 o2;(try push_cast[z])<;>repeat' (first|apply Zi<;>intro _|refine Zv (hc1 ..) ?_|refine Zs [(1,3),(3,176)] (hi ..) ?_|exact Zo|with_reducible apply Za|(with_reducible show A1 _ _ _ _ _ _ _ _;refine A1.giveV (by(try push_cast[z]);rfl) (by(try push_cast[z]);rfl) (by(try push_cast[z]);exact hc2 ..) (by first|exact .inl rfl|exact .inr ⟨_,_,_,rfl,rfl,rfl⟩) rfl ?_ (by push_cast[z]) ?_)<;>try push_cast[z]|fail)<;>try push_cast[z])
 all_goals first|omega|exact CJ l|exact .inr (by omega)|(simp;done)|skip
 apply Zw<;>push_cast
theorem c_pairK2(l r:List GT)(hl:l.length<=4)(hl0:0<l.length)(hr:4<r.length)(hr8:r.length<=9)(h1:OkK (l++[r.getD 0 .nil]))(h2:OkK (r.drop 1)):
  A2 prog 230 [.gref 1 l.length,.gref 3 r.length,.func (.func 98) [] []] [(1,.grow (l.map Ai) 1),(3,.grow (r.map Ai) 1)]
   (.tup [Ac (Dv (l++[r.getD 0 .nil])),Ac (Dv (r.drop 1))]) []:=by
 have b1:decide ((4:Int)<l.length)=false:=decide_eq_false (by omega)
 have b2:decide ((4:Int)<r.length)=true:=decide_eq_true (by omega)
 have b3:decide (0<r.length)=true:=decide_eq_true (by omega)
 have b4:decide (1<r.length)=true:=decide_eq_true (by omega)
 have hc1:=Dy (l++[r.getD 0 .nil]) (by simp) h1
 have hc2:=Dy (r.drop 1) (by simp;omega) h2
 have ea:=Bf (show 0<r.length by omega)
 have hz1:l.length<=9223372036854775807:=by omega
 have hz2:r.length<=9223372036854775807:=by omega
 have tk3:List.take (r.length-1) (List.drop 1 (List.map Ai r))=List.drop 1 (List.map Ai r):=A08 (by simp)
 rw[A0K,A0h,A0G] at hc1
 rw[List.map_drop] at hc2
 have p1:=C2 (Ca r) 1
 have hne:r.getD 0 .nil≠ .nil:=by
  have:=(h1.hn l.length (by simp)).1
  simpa[A02] using this
 generalize r.getD 0 .nil=e at*
 obtain⟨cs,hcs⟩:=BW hne
 have o2:=A3 e
 have g2:=GQ e
 simp only[Ai] at hc1 ea g2
 rw[hcs] at o2 hc1 ea g2
 simp only[D.pure] at o2
 refine Zd [3] func230 rfl ntmps230 results230 ?_
 (have z:=Za hz1<|Za hz2<|Za tk3<|Za b1<|Za b2<|Za b3<|Za b4<|Za ea<|Za p1 o2;(try push_cast[z])<;>repeat' (first|apply Zi<;>intro _|refine Zv (hc2 ..) ?_|exact Zo|with_reducible apply Za|(with_reducible show A1 _ _ _ _ _ _ _ _;refine A1.giveV (by(try push_cast[z]);rfl) (by(try push_cast[z]);rfl) (by(try push_cast[z]);exact hc1 ..) (by first|exact .inl rfl|exact .inr ⟨_,_,_,rfl,rfl,rfl⟩) rfl ?_ (by push_cast[z]) ?_)<;>try push_cast[z]|fail)<;>try push_cast[z])
 all_goals first|omega|exact CJ _|exact Kb _|exact g2|(intro y hy;cases A0d.1 hy;rfl)|exact .inr (by omega)|(simp;done)|skip
 apply Zw<;>push_cast
theorem c_pairK3(l r:List GT)(hl:l.length<=4)(hl0:0<l.length)(hr0:0<r.length)(hr:r.length<=4)(h1:OkK (l++r)):
  A2 prog 230 [.gref 1 l.length,.gref 3 r.length,.func (.func 98) [] []] [(1,.grow (l.map Ai) 1),(3,.grow (r.map Ai) 1)]
   (.tup [Ac (Dv (l++r)),Ac .nil]) []:=by
 have b1:decide ((4:Int)<l.length)=false:=decide_eq_false (by omega)
 have b2:decide ((4:Int)<r.length)=false:=decide_eq_false (by omega)
 have hc1:=Dy (l++r) (by simp;omega) h1
 have hz1:l.length<=9223372036854775807:=by omega
 have hz2:r.length<=9223372036854775807:=by omega
 rw[A0K] at hc1
 rw[B4]
 refine Zd [3] func230 rfl ntmps230 results230 ?_
 (have z:=Za hz1<|Za hz2<|Za b1 b2;(try push_cast[z])<;>repeat' (first|apply Zi<;>intro _|exact Zo|with_reducible apply Za|(with_reducible show A1 _ _ _ _ _ _ _ _;refine A1.giveV (by(try push_cast[z]);rfl) (by(try push_cast[z]);rfl) (by(try push_cast[z]);exact hc1 ..) (by first|exact .inl rfl|exact .inr ⟨_,_,_,rfl,rfl,rfl⟩) rfl ?_ (by push_cast[z]) ?_)<;>try push_cast[z]|fail)<;>try push_cast[z])
 all_goals first|omega|exact CJ _|exact Kb _|exact .inr (by omega)|(simp;done)|skip
 apply Zw<;>push_cast
theorem QF{i:Nat}(h:i<=1048576)(n:Nat)(hn:n<=1048576):IntKind.i64.wrap ((i:Int)+(n:Int))=((i+n:Nat):Int):=by rw[A9 (by omega) (by omega)];omega
theorem c_mendE1(kids:List GT)(i j:Nat)(X:GT)(hj:j=i-1)(hn:kids.length<=9)(hjk:j+1<kids.length)(hi:i<kids.length)(hX:X≠ .nil)(hL0:(kids.getD j .nil).height=0)(hLn:(kids.getD j .nil).es≠[])(hL8:(kids.getD j .nil).es.length<=8)(hLs:∀ e ∈ (kids.getD j .nil).es,Sm e.2)(hRn:(kids.getD (j+1) .nil).es≠[])(hR8:(kids.getD (j+1) .nil).es.length<=8)(hRs:∀ e ∈ (kids.getD (j+1) .nil).es,Sm e.2)
  (hp:A2 prog 229 [.sref 1 0 (kids.getD j .nil).es.length (kids.getD j .nil).es.length 7,.sref 3 0 (kids.getD (j+1) .nil).es.length (kids.getD (j+1) .nil).es.length 7,.func (.func 156) [] []] [(1,.rows ((kids.getD j .nil).es.map A7) 7),(3,.rows ((kids.getD (j+1) .nil).es.map A7) 7)] (.tup [Ac X,Ac .nil]) []):
  A2 prog 160 [.gref 1 kids.length,.val (.int .i64 i)] [(1,.grow (kids.map Ai) 1)] (.gref 0 (kids.length-1)) [(0,.grow ((Dj (kids.set j X) (j+1)).map Ai) 1)]:=by
 have m0:(if IntKind.i64.wrap ((i:Int)-1)<0 then(0:Int) else IntKind.i64.wrap ((i:Int)-1))=(j:Int):=by
  rw[A9 (by omega) (by omega)];split<;>omega
 have m1:(if IntKind.i64.wrap ((i:Int)-1)<=0 then(0:Int) else IntKind.i64.wrap ((i:Int)-1))=(j:Int):=by
  rw[A9 (by omega) (by omega)];split<;>omega
 have w1:IntKind.i64.wrap ((j:Int)+1)=((j+1:Nat):Int):=QF (by omega) 1 (by omega)
 have w2:IntKind.i64.wrap ((j:Int)+2)=((j+2:Nat):Int):=QF (by omega) 2 (by omega)
 have t1:((j:Int)+1).toNat=j+1:=by omega
 have b0:((kids.getD j .nil).height==0)=true:=by simpa using hL0
 have hH:=BE (kids.getD j .nil)
 have hE1:=Dk (kids.getD j .nil) hLn (by omega) hLs
 have hE2:=Dk (kids.getD (j+1) .nil) hRn (by omega) hRs
 have ea:=Bf (show j<kids.length by omega)
 have eb:=Bf hjk
 simp only[Ai] at ea eb
 have bj:decide (j<kids.length)=true:=decide_eq_true (by omega)
 have bj1:decide (j+1<kids.length)=true:=decide_eq_true hjk
 have ms:(List.map Ai kids).set j [Ac X]=List.map Ai (kids.set j X):=(A1F (f:=Ai) ..).symm
 obtain⟨cs,hcs⟩:=BW hX
 have o2:=A3 X
 have hd:=c_delK (kids.set j X) (j+1) (by simpa using hjk) (by simp;omega)
 rw[A0S] at hd
 rw[B4] at hp
 rw[hcs] at o2 hp ms
 simp only[D.pure] at o2
 generalize kids.getD j .nil=L at*
 generalize kids.getD (j+1) .nil=R at*
 have oL:=A3 L
 have oR:=A3 R
 refine Zd [] func160 rfl ntmps160 results160 ?_
 (have z:=Za m0<|Za m1<|Za w1<|Za w2<|Za t1<|Za b0<|Za ea<|Za eb<|Za bj<|Za bj1<|Za ms<|Za o2<|Za oL oR;(try push_cast[z])<;>repeat' (first|apply Zi<;>intro _|refine Zc hH ?_|refine Zs [] hE1 ?_|refine Zs [] hE2 ?_|refine Zs [(1,168),(3,184)] (hp ..) ?_|refine Zs [] (hd ..) ?_|exact Zo|with_reducible apply Za)<;>try push_cast[z])
 all_goals first|omega|(simp;done)|skip
 apply Zr [(0,336)] rfl<;>push_cast
theorem SQ(kids:List GT)(i j:Nat)(X Y:GT)(hj:j=i-1)(hn:kids.length<=9)(hjk:j+1<kids.length)(hi:i<kids.length)(hX:X≠ .nil)(hY:Y≠ .nil)(hL0:(kids.getD j .nil).height=0)(hLn:(kids.getD j .nil).es≠[])(hL8:(kids.getD j .nil).es.length<=8)(hLs:∀ e ∈ (kids.getD j .nil).es,Sm e.2)(hRn:(kids.getD (j+1) .nil).es≠[])(hR8:(kids.getD (j+1) .nil).es.length<=8)(hRs:∀ e ∈ (kids.getD (j+1) .nil).es,Sm e.2)
  (hp:A2 prog 229 [.sref 1 0 (kids.getD j .nil).es.length (kids.getD j .nil).es.length 7,.sref 3 0 (kids.getD (j+1) .nil).es.length (kids.getD (j+1) .nil).es.length 7,.func (.func 156) [] []] [(1,.rows ((kids.getD j .nil).es.map A7) 7),(3,.rows ((kids.getD (j+1) .nil).es.map A7) 7)] (.tup [Ac X,Ac Y]) []):
  A2 prog 160 [.gref 1 kids.length,.val (.int .i64 i)] [(1,.grow (kids.map Ai) 1)] (.gref 0 kids.length) [(0,.grow (((kids.set j X).set (j+1) Y).map Ai) 1)]:=by
 have m0:(if IntKind.i64.wrap ((i:Int)-1)<0 then(0:Int) else IntKind.i64.wrap ((i:Int)-1))=(j:Int):=by
  rw[A9 (by omega) (by omega)];split<;>omega
 have m1:(if IntKind.i64.wrap ((i:Int)-1)<=0 then(0:Int) else IntKind.i64.wrap ((i:Int)-1))=(j:Int):=by
  rw[A9 (by omega) (by omega)];split<;>omega
 have w1:IntKind.i64.wrap ((j:Int)+1)=((j+1:Nat):Int):=QF (by omega) 1 (by omega)
 have w2:IntKind.i64.wrap ((j:Int)+2)=((j+2:Nat):Int):=QF (by omega) 2 (by omega)
 have t1:((j:Int)+1).toNat=j+1:=by omega
 have b0:((kids.getD j .nil).height==0)=true:=by simpa using hL0
 have hH:=BE (kids.getD j .nil)
 have hE1:=Dk (kids.getD j .nil) hLn (by omega) hLs
 have hE2:=Dk (kids.getD (j+1) .nil) hRn (by omega) hRs
 have ea:=Bf (show j<kids.length by omega)
 have eb:=Bf hjk
 simp only[Ai] at ea eb
 have bj:decide (j<kids.length)=true:=decide_eq_true (by omega)
 have bj1:decide (j+1<kids.length)=true:=decide_eq_true hjk
 have ms:(List.map Ai kids).set j [Ac X]=List.map Ai (kids.set j X):=(A1F (f:=Ai) ..).symm
 obtain⟨cs,hcs⟩:=BW hX
 have o2:=A3 X
 have ms2:(List.map Ai (kids.set j X)).set (j+1) [Ac Y]=List.map Ai ((kids.set j X).set (j+1) Y):=(A1F (f:=Ai) ..).symm
 obtain⟨ds,hds⟩:=BW hY
 have o3:=A3 Y
 rw[hcs] at o2 hp ms
 rw[hds] at o3 hp ms2
 simp only[D.pure] at o2 o3
 generalize kids.getD j .nil=L at*
 generalize kids.getD (j+1) .nil=R at*
 have oL:=A3 L
 have oR:=A3 R
 refine Zd [] func160 rfl ntmps160 results160 ?_
 (have z:=Za m0<|Za m1<|Za w1<|Za w2<|Za t1<|Za b0<|Za ea<|Za eb<|Za bj<|Za bj1<|Za ms<|Za ms2<|Za o2<|Za o3<|Za oL oR;(try push_cast[z])<;>repeat' (first|apply Zi<;>intro _|refine Zc hH ?_|refine Zs [] hE1 ?_|refine Zs [] hE2 ?_|refine Zs [(1,168),(3,184)] (hp ..) ?_|exact Zo|with_reducible apply Za)<;>try push_cast[z])
 all_goals first|omega|(simp;omega)|(simp;done)|skip
 have d1:List.drop 1 (nr (List.map Ai (kids.set j X)) (j+1))=[]:=by rw[Bf (by simpa using hjk)];rfl
 apply Zr [(0,1)] rfl<;>push_cast [ms2,t1,d1]
theorem c_mendK1(kids:List GT)(i j:Nat)(X:GT)(hj:j=i-1)(hn:kids.length<=9)(hjk:j+1<kids.length)(hi:i<kids.length)(hX:X≠ .nil)(hL0:(kids.getD j .nil).height≠0)(hLn:0<(kids.getD j .nil).kids.length)(hL8:(kids.getD j .nil).kids.length<=8)(hRn:0<(kids.getD (j+1) .nil).kids.length)(hR8:(kids.getD (j+1) .nil).kids.length<=8)
  (hp:A2 prog 230 [.gref 1 (kids.getD j .nil).kids.length,.gref 3 (kids.getD (j+1) .nil).kids.length,.func (.func 98) [] []] [(1,.grow ((kids.getD j .nil).kids.map Ai) 1),(3,.grow ((kids.getD (j+1) .nil).kids.map Ai) 1)] (.tup [Ac X,Ac .nil]) []):
  A2 prog 160 [.gref 1 kids.length,.val (.int .i64 i)] [(1,.grow (kids.map Ai) 1)] (.gref 0 (kids.length-1)) [(0,.grow ((Dj (kids.set j X) (j+1)).map Ai) 1)]:=by
 have m0:(if IntKind.i64.wrap ((i:Int)-1)<0 then(0:Int) else IntKind.i64.wrap ((i:Int)-1))=(j:Int):=by
  rw[A9 (by omega) (by omega)];split<;>omega
 have m1:(if IntKind.i64.wrap ((i:Int)-1)<=0 then(0:Int) else IntKind.i64.wrap ((i:Int)-1))=(j:Int):=by
  rw[A9 (by omega) (by omega)];split<;>omega
 have w1:IntKind.i64.wrap ((j:Int)+1)=((j+1:Nat):Int):=QF (by omega) 1 (by omega)
 have w2:IntKind.i64.wrap ((j:Int)+2)=((j+2:Nat):Int):=QF (by omega) 2 (by omega)
 have t1:((j:Int)+1).toNat=j+1:=by omega
 have b0:((kids.getD j .nil).height==0)=false:=by simpa using hL0
 have hH:=BE (kids.getD j .nil)
 have hE1:=EW (kids.getD j .nil) hLn (by omega)
 have hE2:=EW (kids.getD (j+1) .nil) hRn (by omega)
 have ea:=Bf (show j<kids.length by omega)
 have eb:=Bf hjk
 simp only[Ai] at ea eb
 have bj:decide (j<kids.length)=true:=decide_eq_true (by omega)
 have bj1:decide (j+1<kids.length)=true:=decide_eq_true hjk
 have ms:(List.map Ai kids).set j [Ac X]=List.map Ai (kids.set j X):=(A1F (f:=Ai) ..).symm
 obtain⟨cs,hcs⟩:=BW hX
 have o2:=A3 X
 have hd:=c_delK (kids.set j X) (j+1) (by simpa using hjk) (by simp;omega)
 rw[A0S] at hd
 rw[B4] at hp
 rw[hcs] at o2 hp ms
 simp only[D.pure] at o2
 generalize kids.getD j .nil=L at*
 generalize kids.getD (j+1) .nil=R at*
 have oL:=A3 L
 have oR:=A3 R
 refine Zd [] func160 rfl ntmps160 results160 ?_
 (have z:=Za m0<|Za m1<|Za w1<|Za w2<|Za t1<|Za b0<|Za ea<|Za eb<|Za bj<|Za bj1<|Za ms<|Za o2<|Za oL oR;(try push_cast[z])<;>repeat' (first|apply Zi<;>intro _|refine Zc hH ?_|refine Zs [] hE1 ?_|refine Zs [] hE2 ?_|refine Zs [(1,168),(3,184)] (hp ..) ?_|refine Zs [] (hd ..) ?_|exact Zo|with_reducible apply Za)<;>try push_cast[z])
 all_goals first|omega|(simp;done)|skip
 apply Zr [(0,336)] rfl<;>push_cast
theorem SP(kids:List GT)(i j:Nat)(X Y:GT)(hj:j=i-1)(hn:kids.length<=9)(hjk:j+1<kids.length)(hi:i<kids.length)(hX:X≠ .nil)(hY:Y≠ .nil)(hL0:(kids.getD j .nil).height≠0)(hLn:0<(kids.getD j .nil).kids.length)(hL8:(kids.getD j .nil).kids.length<=8)(hRn:0<(kids.getD (j+1) .nil).kids.length)(hR8:(kids.getD (j+1) .nil).kids.length<=8)
  (hp:A2 prog 230 [.gref 1 (kids.getD j .nil).kids.length,.gref 3 (kids.getD (j+1) .nil).kids.length,.func (.func 98) [] []] [(1,.grow ((kids.getD j .nil).kids.map Ai) 1),(3,.grow ((kids.getD (j+1) .nil).kids.map Ai) 1)] (.tup [Ac X,Ac Y]) []):
  A2 prog 160 [.gref 1 kids.length,.val (.int .i64 i)] [(1,.grow (kids.map Ai) 1)] (.gref 0 kids.length) [(0,.grow (((kids.set j X).set (j+1) Y).map Ai) 1)]:=by
 have m0:(if IntKind.i64.wrap ((i:Int)-1)<0 then(0:Int) else IntKind.i64.wrap ((i:Int)-1))=(j:Int):=by
  rw[A9 (by omega) (by omega)];split<;>omega
 have m1:(if IntKind.i64.wrap ((i:Int)-1)<=0 then(0:Int) else IntKind.i64.wrap ((i:Int)-1))=(j:Int):=by
  rw[A9 (by omega) (by omega)];split<;>omega
 have w1:IntKind.i64.wrap ((j:Int)+1)=((j+1:Nat):Int):=QF (by omega) 1 (by omega)
 have w2:IntKind.i64.wrap ((j:Int)+2)=((j+2:Nat):Int):=QF (by omega) 2 (by omega)
 have t1:((j:Int)+1).toNat=j+1:=by omega
 have b0:((kids.getD j .nil).height==0)=false:=by simpa using hL0
 have hH:=BE (kids.getD j .nil)
 have hE1:=EW (kids.getD j .nil) hLn (by omega)
 have hE2:=EW (kids.getD (j+1) .nil) hRn (by omega)
 have ea:=Bf (show j<kids.length by omega)
 have eb:=Bf hjk
 simp only[Ai] at ea eb
 have bj:decide (j<kids.length)=true:=decide_eq_true (by omega)
 have bj1:decide (j+1<kids.length)=true:=decide_eq_true hjk
 have ms:(List.map Ai kids).set j [Ac X]=List.map Ai (kids.set j X):=(A1F (f:=Ai) ..).symm
 obtain⟨cs,hcs⟩:=BW hX
 have o2:=A3 X
 have ms2:(List.map Ai (kids.set j X)).set (j+1) [Ac Y]=List.map Ai ((kids.set j X).set (j+1) Y):=(A1F (f:=Ai) ..).symm
 obtain⟨ds,hds⟩:=BW hY
 have o3:=A3 Y
 rw[hcs] at o2 hp ms
 rw[hds] at o3 hp ms2
 simp only[D.pure] at o2 o3
 generalize kids.getD j .nil=L at*
 generalize kids.getD (j+1) .nil=R at*
 have oL:=A3 L
 have oR:=A3 R
 refine Zd [] func160 rfl ntmps160 results160 ?_
 (have z:=Za m0<|Za m1<|Za w1<|Za w2<|Za t1<|Za b0<|Za ea<|Za eb<|Za bj<|Za bj1<|Za ms<|Za ms2<|Za o2<|Za o3<|Za oL oR;(try push_cast[z])<;>repeat' (first|apply Zi<;>intro _|refine Zc hH ?_|refine Zs [] hE1 ?_|refine Zs [] hE2 ?_|refine Zs [(1,168),(3,184)] (hp ..) ?_|exact Zo|with_reducible apply Za)<;>try push_cast[z])
 all_goals first|omega|(simp;omega)|(simp;done)|skip
 have d1:List.drop 1 (nr (List.map Ai (kids.set j X)) (j+1))=[]:=by rw[Bf (by simpa using hjk)];rfl
 apply Zr [(0,1)] rfl<;>push_cast [ms2,t1,d1]
theorem c_wo0(t:GT)(k:ByteArray)(h0:t.height=0)(hl:t.es≠[])(h8:t.es.length<=8)(hs:∀ e ∈ t.es,Sm e.2)(hm:∀ i j,i<=j->j<t.es.length->ltS (t.es.getD i zM).1 k=false->ltS (t.es.getD j zM).1 k=false)(hh:DT t.es k=false):
  A0 prog 95 [Ac t,.val (.string k)] (.tup [Ac t,.val (.bool false)]):=by
 have hH:=BE t
 rw[h0] at hH
 have hE:=Dk t hl (by omega) hs
 have hp:=JR t.es false k hm (by omega)
 rw[hh] at hp
 have tk:List.take t.es.length (List.map A7 t.es)=List.map A7 t.es:=A08 (by simp)
 refine Zf [] func95 rfl ntmps95 results95 ?_
 (have z:=tk;(try push_cast[z])<;>repeat' (first|apply Zi<;>intro _|refine Zc hH ?_|refine Zs [] hE ?_|refine Zq (hp ..) ?_ ?_|exact Zo|with_reducible apply Za)<;>try push_cast[z])
 all_goals first|omega|(simp;done)|exact Am _|skip
theorem c_wo0n(t:GT)(k:ByteArray)(h0:t.height=0)(hl:t.es=[]):
  A0 prog 95 [Ac t,.val (.string k)] (.tup [Ac t,.val (.bool false)]):=by
 have hH:=BE t
 rw[h0] at hH
 have hE:=Gf t hl
 have hp:=JR [] true k (fun i j _ h=>absurd h (by simp)) (by simp)
 have hpe:BC [] k=0:=rfl
 have hhe:DT [] k=false:=rfl
 rw[hpe,hhe] at hp
 simp only[A0G] at hp
 refine Zf [] func95 rfl ntmps95 results95 ?_
 (have z:=trivial;(try push_cast)<;>repeat' (first|apply Zi<;>intro _|refine Zc hH ?_|refine Zc hE ?_|refine Zc (hp ..) ?_|exact Zp|with_reducible apply Za)<;>try push_cast)
 all_goals first|omega|(simp;done)|exact Am _|skip
theorem take_z7(X:List (List D))(z:List D){n:Nat}(h:X.length=n):(X++[z]).take n=X:=by rw[A1r (by omega),A08 (by omega)]
theorem c_wo1(t:GT)(k:ByteArray)(h0:t.height=0)(h8:t.es.length<=8)(hs:∀ e ∈ t.es,Sm e.2)(hm:∀ i j,i<=j->j<t.es.length->ltS (t.es.getD i zM).1 k=false->ltS (t.es.getD j zM).1 k=false)(hh:DT t.es k=true)(hlt:BC t.es k<t.es.length)
  (hok:OkE (Dj t.es (BC t.es k))):
  A0 prog 95 [Ac t,.val (.string k)] (.tup [Ac (AB (Dj t.es (BC t.es k))),.val (.bool true)]):=by
 have hH:=BE t
 rw[h0] at hH
 have hE:=Dk t (by intro h;rw[h] at hlt;simp at hlt) (by omega) hs
 have hp:=JR t.es false k hm (by omega)
 rw[hh] at hp
 have hd:=c_delE t.es (BC t.es k) hlt (by omega)
 have hL:=Ge (Dj t.es (BC t.es k)) false hok.hl hok.hs hok.hr
 have tk:List.take t.es.length (List.map A7 t.es)=List.map A7 t.es:=A08 (by simp)
 have w1:IntKind.i64.wrap ((BC t.es k:Nat)+1:Int)=((BC t.es k+1:Nat):Int):=QF (by omega) 1 (by omega)
 have hcl:(Dj t.es (BC t.es k)).length=t.es.length-1:=by simp[Dj];omega
 have tk2:List.take (t.es.length-1) (List.map A7 (Dj t.es (BC t.es k))++[z7])=List.map A7 (Dj t.es (BC t.es k)):=take_z7 _ _ (by rw[A06,hcl])
 generalize hq:BC t.es k=q at*
 generalize Dj t.es q=C at*
 simp only[z7,z6] at tk2 hd
 push_cast at w1 hd
 refine Zf [] func95 rfl ntmps95 results95 ?_
 (have z:=Za tk<|Za tk2<|Za w1 @hcl;(try push_cast[z])<;>repeat' (first|apply Zi<;>intro _|refine Zc hH ?_|refine Zs [] hE ?_|refine Zq (hp ..) ?_ ?_|refine Zs [(1,48)] (hd ..) ?_|refine Zg hL ?_ ?_|exact Zo|with_reducible apply Za)<;>try push_cast[z])
 all_goals first|omega|(simp;done)|(simp;omega)|exact Am _|skip
section
variable(t:GT)(k:ByteArray)(K:GT)(h0:t.height≠0)(h1:0<t.kids.length)(h8:t.kids.length<=8)(hm:∀ i j,i<=j->j<t.kids.length->ltS k (t.kids.getD i .nil).first=true->ltS k (t.kids.getD j .nil).first=true)(hi:AD t.kids k<t.kids.length)
include h0 h1 h8 hm hi
theorem c_wo2(hrec:A0 prog 95 [Ac (t.kids.getD (AD t.kids k) .nil),.val (.string k)] (.tup [Ac K,.val (.bool false)])):
  A0 prog 95 [Ac t,.val (.string k)] (.tup [Ac t,.val (.bool false)]):=by
 have hH:=BE t
 have b0:(t.height==0)=false:=by simpa using h0
 have hK:=EW t h1 (by omega)
 have hw:=DV t.kids k hm (by omega)
 have ea:=Bf hi
 have oK:=A3 K
 refine Zf [] func95 rfl ntmps95 results95 ?_
 (have z:=Za b0<|Za ea<|Za @Ai.eq_1 oK;(try push_cast[z])<;>repeat' (first|apply Zi<;>intro _|refine Zc hH ?_|refine Zs [] hK ?_|refine Zq (hw ..) ?_ ?_|refine Zc (hrec ..) ?_|exact Zo|with_reducible apply Za)<;>try push_cast[z])
 all_goals first|omega|(simp;done)|exact Am _|skip
theorem c_wo3(hrec:A0 prog 95 [Ac (t.kids.getD (AD t.kids k) .nil),.val (.string k)] (.tup [Ac K,.val (.bool true)]))(hK0:K≠ .nil)(hK4:4<=K.size)(hK8:K.size<=8)(hok:OkK (t.kids.set (AD t.kids k) K)):
  A0 prog 95 [Ac t,.val (.string k)] (.tup [Ac (Dv (t.kids.set (AD t.kids k) K)),.val (.bool true)]):=by
 have hH:=BE t
 have b0:(t.height==0)=false:=by simpa using h0
 have hK:=EW t h1 (by omega)
 have hw:=DV t.kids k hm (by omega)
 have ea:=Bf hi
 have hz:=Qv K (by omega)
 have b1:decide ((K.size:Int)<4)=false:=decide_eq_false (by omega)
 have hI:=Dy (t.kids.set (AD t.kids k) K) (by simp;omega) hok
 have ms:(List.map Ai t.kids).set (AD t.kids k) [Ac K]=List.map Ai (t.kids.set (AD t.kids k) K):=(A1F (f:=Ai) ..).symm
 obtain⟨cs,hcs⟩:=BW hK0
 have o2:=A3 K
 rw[hcs] at o2 hrec ms hz
 simp only[D.pure] at o2
 refine Zf [] func95 rfl ntmps95 results95 ?_
 (have z:=Za b0<|Za b1<|Za ea<|Za @Ai.eq_1<|Za o2 ms;(try push_cast[z])<;>repeat' (first|apply Zi<;>intro _|refine Zc hH ?_|refine Zs [] hK ?_|refine Zq (hw ..) ?_ ?_|refine Zc (hrec ..) ?_|refine Zc (hz ..) ?_|refine Zg hI ?_ ?_|exact Zo|with_reducible apply Za)<;>try push_cast[z])
 all_goals first|omega|(simp;done)|exact Am _|skip
theorem c_wo4(hrec:A0 prog 95 [Ac (t.kids.getD (AD t.kids k) .nil),.val (.string k)] (.tup [Ac K,.val (.bool true)]))(hK0:K≠ .nil)(hK4:K.size<4)(l:List GT)(hl1:1<=l.length)(hok:OkK l)
  (hmend:A2 prog 160 [.gref 1 t.kids.length,.val (.int .i64 (AD t.kids k))] [(1,.grow ((t.kids.set (AD t.kids k) K).map Ai) 1)] (.gref 0 l.length) [(0,.grow (l.map Ai) 1)]):
  A0 prog 95 [Ac t,.val (.string k)] (.tup [Ac (Dv l),.val (.bool true)]):=by
 have hH:=BE t
 have b0:(t.height==0)=false:=by simpa using h0
 have hK:=EW t h1 (by omega)
 have hw:=DV t.kids k hm (by omega)
 have ea:=Bf hi
 have hz:=Qv K (by omega)
 have b1:decide ((K.size:Int)<4)=true:=decide_eq_true (by omega)
 have hI:=Dy l hl1 hok
 have ms:(List.map Ai t.kids).set (AD t.kids k) [Ac K]=List.map Ai (t.kids.set (AD t.kids k) K):=(A1F (f:=Ai) ..).symm
 obtain⟨cs,hcs⟩:=BW hK0
 have o2:=A3 K
 rw[hcs] at o2 hrec ms hz
 simp only[D.pure] at o2
 refine Zf [] func95 rfl ntmps95 results95 ?_
 (have z:=Za b0<|Za b1<|Za ea<|Za @Ai.eq_1<|Za o2 ms;(try push_cast[z])<;>repeat' (first|apply Zi<;>intro _|refine Zc hH ?_|refine Zs [] hK ?_|refine Zq (hw ..) ?_ ?_|refine Zc (hrec ..) ?_|refine Zc (hz ..) ?_|refine Zs [(1,48)] (hmend ..) ?_|refine Zg hI ?_ ?_|exact Zo|with_reducible apply Za)<;>try push_cast[z])
 all_goals first|omega|(simp;done)|exact Am _|skip
end
theorem posE_le(l:List GE)(k:ByteArray):BC l k<=l.length:=by have:=EH (fun i=>!ltS (l.getD i zM).1 k) l.length 0;unfold BC;omega
theorem hasE_lt{l:List GE}{k:ByteArray}(h:DT l k=true):BC l k<l.length:=by
 unfold DT at h;simp only[A07,decide_eq_true_eq] at h;exact h.1
theorem MF:∀ {a b c:List UInt8},BX a b<0->BX b c<0->BX a c<0
 |[],[],c,h,k=>by simp[BX] at h
 |[],_::_,[],h,k=>by simp[BX] at k
 |[],_::_,_::_,h,k=>by simp[BX]
 |_::_,[],c,h,k=>by simp[BX] at h
 |_::_,_::_,[],h,k=>by simp[BX] at k
 |x::a,y::b,z::c,h,k=>by
  simp only[BX] at h k|-
  by_cases h1:x=y
  ·subst h1
   by_cases h2:x=z
   ·subst h2;simp only[if_true] at h k|-;exact MF h k
   ·simp only[if_true,if_neg h2] at k|-
    exact k
  ·simp only[if_neg h1] at h
   have hlt:x<y:=by
    by_cases hh:x<y
    ·exact hh
    ·simp[hh] at h
   by_cases h2:y=z
   ·subst h2;simp[h1,hlt]
   ·simp only[if_neg h2] at k
    have hlt2:y<z:=by
     by_cases hh:y<z
     ·exact hh
     ·simp[hh] at k
    have h3:x<z:=UInt8.lt_trans hlt hlt2
    have h4:x≠z:=UInt8.ne_of_lt h3
    simp[h3,h4]
theorem Df{a b c:ByteArray}(h:ltS a b=true)(k:ltS b c=true):ltS a c=true:=by
 simp only[ltS,decide_eq_true_eq] at*;exact MF h k
theorem DP(a:ByteArray):ltS a a=false:=by
 have:=(Qm a a).2 rfl
 simp[ltS,this]
theorem Fi{a b:ByteArray}(h:ltS a b=true):a≠b:=fun e=>by subst e;rw[DP] at h;cases h
theorem NH{a b:ByteArray}(h:ltS a b=true):ltS b a=false:=by
 cases hb:ltS b a with
 |false=>rfl
 |true=>have:=Df h hb;rw[DP] at this;cases this
theorem Kh{a b:ByteArray}(h:ltS a b=false)(hne:a≠b):ltS b a=true:=by
 have e:=Qm a b
 have n:=MI a b
 simp only[ltS,decide_eq_true_eq,decide_eq_false_iff_not] at*
 have:Ci a b≠0:=fun h0=>hne (e.1 h0)
 omega
theorem NG{a b c:ByteArray}(h:ltS a b=true)(k:ltS c b=false):ltS a c=true:=by
 by_cases hbc:b=c
 ·subst hbc;exact h
 ·exact Df h (Kh k fun e=>hbc e.symm)
def Srt(l:List GE):Prop:=l.Pairwise fun a b=>ltS a.1 b.1=true
def Br(e:GE):List GE->List GE
 |[]=>[e]
 |x::l=>if ltS x.1 e.1 then x::Br e l else if x.1=e.1 then e::l else e::x::l
def Cm(k:ByteArray)(l:List GE):List GE:=l.filter fun x=>decide (x.1≠k)
def Az(k:ByteArray)(l:List GE):Option GV:=(l.find? fun x=>decide (x.1=k)).map (·.2)
def FC(k:ByteArray)(l:List GE):Bool:=l.any fun x=>decide (x.1=k)
theorem Fy(x:GE)(l:List GE)(k:ByteArray):BC (x::l) k=if ltS x.1 k then BC l k+1 else 0:=by
 have key:∀ (m i:Nat),BV (fun i=>!ltS ((x::l).getD i zM).1 k) (i+1) m=BV (fun i=>!ltS (l.getD i zM).1 k) i m+1:=by
  intro m
  induction m with
  |zero=>intro i;simp[BV]
  |succ m ih=>
   intro i
   simp only[BV,A1D]
   split
   ·rfl
   ·exact ih (i+1)
 unfold BC
 simp only[A0g,BV,A0E]
 cases h:ltS x.1 k with
 |true=>simpa using key l.length 0
 |false=>simp
theorem VP(k:ByteArray):∀ l:List GE,l.take (BC l k)=l.takeWhile fun x=>ltS x.1 k
 |[]=>rfl
 |x::l=>by
  rw[Fy]
  cases h:ltS x.1 k with
  |true=>simp [h,VP k l]
  |false=>simp [h]
theorem Ht(x:GE)(l:List GE)(k:ByteArray):DT (x::l) k=if ltS x.1 k then DT l k else decide (x.1=k):=by
 unfold DT
 rw[Fy]
 cases h:ltS x.1 k with
 |true=>simp
 |false=>simp
theorem Srt.head{x:GE}{l:List GE}(h:Srt (x::l)):∀ y ∈ l,ltS x.1 y.1=true:=(List.pairwise_cons.1 h).1
theorem Srt.tail{x:GE}{l:List GE}(h:Srt (x::l)):Srt l:=(List.pairwise_cons.1 h).2
theorem Vj(k:ByteArray):∀ l:List GE,Srt l->DT l k=FC k l
 |[],_=>rfl
 |x::l,h=>by
  rw[Ht]
  simp only[FC,List.any_cons]
  cases hx:ltS x.1 k with
  |true=>
   have:decide (x.1=k)=false:=decide_eq_false (Fi hx)
   simp only[if_true,this,Bool.false_or]
   exact Vj k l h.tail
  |false=>
   simp only[A0C,if_false]
   have:(l.any fun y=>decide (y.1=k))=false:=by
    rw[List.any_eq_false]
    intro y hy
    simp only[decide_eq_true_eq]
    rintro rfl
    have:=h.head y hy
    rw[this] at hx;cases hx
   rw[this,A1V]
theorem Vh(e:GE):∀ l:List GE,N6 l e=Br e l
 |[]=>rfl
 |x::l=>by
  have ih:=Vh e l
  unfold N6 at ih|-
  rw[Ht,Fy]
  simp only[Br]
  cases hx:ltS x.1 e.1 with
  |true=>
   simp only[if_true] at ih|-
   rw[<-ih]
   split
   ·simp
   ·simp[CW]
  |false=>
   simp only[A0C,if_false]
   by_cases hk:x.1=e.1
   ·simp[hk]
   ·simp[hk,CW]
theorem Vp(k:ByteArray):∀ l:List GE,Srt l->DT l k=true->Dj l (BC l k)=Cm k l
 |[],_,h=>by cases h
 |x::l,hs,h=>by
  rw[Ht] at h
  rw[Fy]
  simp only[Cm]
  cases hx:ltS x.1 k with
  |true=>
   simp only[hx,if_true] at h|-
   have:=Vp k l hs.tail h
   simp only[Cm] at this
   rw[A1W (by simpa using Fi hx),<-this]
   simp[Dj]
  |false=>
   simp only[hx,A0C,if_false,decide_eq_true_eq] at h|-
   rw[A1X (by simpa using h)]
   have:l.filter (fun x=>decide (x.1≠k))=l:=List.filter_eq_self.2 fun y hy=>by
    have:=hs.head y hy
    rw[h] at this
    simpa using(Fi this).symm
   rw[this]
   simp[Dj]
theorem Nn{k:ByteArray}{l:List GE}(h:FC k l=false):Cm k l=l:=by
 unfold FC at h
 rw[List.any_eq_false] at h
 exact List.filter_eq_self.2 fun y hy=>by simpa using h y hy
theorem Vl(k:ByteArray):∀ l:List GE,Srt l->(if DT l k then some (l.getD (BC l k) zM).2 else none)=Az k l
 |[],_=>rfl
 |x::l,hs=>by
  rw[Ht,Fy]
  simp only[Az,List.find?_cons]
  cases hx:ltS x.1 k with
  |true=>
   have:decide (x.1=k)=false:=decide_eq_false (Fi hx)
   simp only[if_true,this]
   have:=Vl k l hs.tail
   simp only[Az] at this
   simpa using this
  |false=>
   by_cases hk:x.1=k
   ·simp[hk]
   ·have hn:(l.find? fun y=>decide (y.1=k))=none:=List.find?_eq_none.2 fun y hy=>by
     simp only[decide_eq_true_eq]
     rintro rfl
     have:=hs.head y hy
     rw[this] at hx;cases hx
    simp[hk,hn]
theorem RG{e:GE}:∀ {a b:List GE},(∀ x ∈ a,ltS x.1 e.1=true)->Br e (a++b)=a++Br e b
 |[],b,_=>rfl
 |x::a,b,h=>by
  simp only[A0c,Br,h x A0B,if_true]
  rw[RG fun y hy=>h y (A0p _ hy)]
theorem LO{e:GE}:∀ {a b:List GE},(∀ x ∈ b,ltS e.1 x.1=true)->Br e (a++b)=Br e a++b
 |[],[],_=>rfl
 |[],y::b,h=>by
  have hy:=h y A0B
  simp[Br,NH hy,(Fi hy).symm]
 |x::a,b,h=>by
  simp only[A0c,Br]
  split
  ·rw[LO h];rfl
  ·split<;>rfl
theorem Fw{e x:GE}:∀ {l:List GE},x ∈ Br e l->x=e∨x ∈ l
 |[],h=>by simp[Br] at h;exact .inl h
 |y::l,h=>by
  simp only[Br] at h
  split at h
  ·rcases A0s.1 h with rfl|h
   ·exact .inr A0B
   ·rcases Fw h with h|h
    ·exact .inl h
    ·exact .inr (A0p _ h)
  ·split at h
   ·rcases A0s.1 h with rfl|h
    ·exact .inl rfl
    ·exact .inr (A0p _ h)
   ·rcases A0s.1 h with rfl|h
    ·exact .inl rfl
    ·exact .inr h
theorem E6{e:GE}:∀ {l:List GE},Srt l->Srt (Br e l)
 |[],_=>List.pairwise_singleton _ _
 |x::l,h=>by
  simp only[Br]
  split
  ·rename_i hx
   refine List.pairwise_cons.2 ⟨fun y hy=>?_,E6 h.tail⟩
   rcases Fw hy with rfl|hy
   ·exact hx
   ·exact h.head y hy
  ·rename_i hx
   split
   ·rename_i hk
    refine List.pairwise_cons.2 ⟨fun y hy=>?_,h.tail⟩
    rw[<-hk];exact h.head y hy
   ·rename_i hk
    have hlt:=Kh (by simpa using hx) hk
    refine List.pairwise_cons.2 ⟨fun y hy=>?_,h⟩
    rcases A0s.1 hy with rfl|hy
    ·exact hlt
    ·exact Df hlt (h.head y hy)
theorem Dc(e:GE):∀ l:List GE,(Br e l).length<=l.length+1/\l.length<=(Br e l).length
 |[]=>by simp[Br]
 |x::l=>by
  have:=Dc e l
  simp only[Br]
  split
  ·simp;omega
  ·split<;>simp
theorem GK{k:ByteArray}{l:List GE}(h:Srt l):Srt (Cm k l):=List.Pairwise.filter _ h
theorem RB(k:ByteArray)(a b:List GE):Cm k (a++b)=Cm k a++Cm k b:=List.filter_append ..
theorem PE{l:List GE}(h:Srt l){i j:Nat}(hij:i<j)(hj:j<l.length):ltS (l.getD i zM).1 (l.getD j zM).1=true:=by
 have:=List.pairwise_iff_getElem.1 h i j (by omega) hj hij
 rw[A02,A02,A09 (show i<l.length by omega),A09 hj]
 exact this
theorem PD{l:List GE}(h:∀ i,1<=i->i<l.length->ltS (l.getD (i-1) zM).1 (l.getD i zM).1=true):Srt l:=by
 refine List.pairwise_iff_getElem.2 fun i j hi hj hij=>?_
 have key:∀ n i,i+1+n<l.length->ltS (l.getD i zM).1 (l.getD (i+1+n) zM).1=true:=by
  intro n
  induction n with
  |zero=>intro i hi;have:=h (i+1) (by omega) hi;simpa using this
  |succ n ih=>
   intro i hi
   have h2:=h (i+1+(n+1)) (by omega) hi
   have e:i+1+(n+1)-1=i+1+n:=by omega
   rw[e] at h2
   exact Df (ih i (by omega)) h2
 have:=key (j-i-1) i (by omega)
 have e:i+1+(j-i-1)=j:=by omega
 rw[e] at this
 rw[A02,A02,A09 hi,A09 hj] at this
 exact this
theorem Jm{l:List GE}(h:Srt l)(k:ByteArray):∀ i j,i<=j->j<l.length->ltS (l.getD i zM).1 k=false->ltS (l.getD j zM).1 k=false:=by
 intro i j hij hj hi
 rcases Nat.eq_or_lt_of_le hij with rfl|hlt
 ·exact hi
 ·cases hk:ltS (l.getD j zM).1 k with
  |false=>rfl
  |true=>have:=Df (PE h hlt hj) hk;rw[this] at hi;cases hi
theorem CX{α:Type}{l:List α}(h:l≠[]):0<l.length:=A1M.2 h
def Aa:Nat->GT->List GE
 |0,t=>t.es
 |h+1,t=>t.kids.flatMap (Aa h)
def Wf:Nat->GT->Prop
 |0,t=>∃ l,t=AB l/\OkE l/\l≠[]
 |h+1,t=>∃ l,t=AH l/\2<=l.length/\l.length<=8/\(∀ k ∈ l,Wf h k/\4<=k.size)/\Srt (l.flatMap (Aa h))
theorem Hu{l:List GE}(h:l≠[]):l.getD 0 zM ∈ l:=by
 cases l with
 |nil=>exact absurd rfl h
 |cons x l=>simp
theorem Ua{l:List GE}(h:l≠[]):l.getD (l.length-1) zM ∈ l:=by
 have:l.length-1<l.length:=by have:=CX h;omega
 exact Aj this
theorem Uc{α:Type}{a b:List α}{d:α}{i:Nat}(h:i<a.length):(a++b).getD i d=a.getD i d:=by
 rw[A02,A02,A0q h]
theorem Ub{α:Type}{a b:List α}{d:α}{i:Nat}(h:a.length<=i):(a++b).getD i d=b.getD (i-a.length) d:=by
 rw[A02,A02,A0o h]
structure WfD(h:Nat)(t:GT):Prop where
 nn:t≠ .nil
 height:t.height=h
 count:t.count=(Aa h t).length
 ne:Aa h t≠[]
 srt:Srt (Aa h t)
 first:t.first=((Aa h t).getD 0 zM).1
 last:t.last=((Aa h t).getD ((Aa h t).length-1) zM).1
 size:t.size<=8
 hlt:h<(Aa h t).length
 sm:∀ e ∈ Aa h t,Sm e.2
theorem HX{l:List GT}{f:GT->List GE}(hn:∀ k ∈ l,f k≠[])(h:0<l.length):(l.flatMap f).getD 0 zM=(f (l.getD 0 .nil)).getD 0 zM:=by
 cases l with
 |nil=>simp at h
 |cons k l=>
  have:=CX (hn k A0B)
  rw[A0Y,Uc this];rfl
theorem JI{f:GT->List GE}:∀ {l:List GT},(∀ k ∈ l,f k≠[])->0<l.length->(l.flatMap f).getD ((l.flatMap f).length-1) zM=(f (l.getD (l.length-1) .nil)).getD ((f (l.getD (l.length-1) .nil)).length-1) zM
 |[],_,h=>by simp at h
 |[k],hn,_=>by simp
 |k::k'::l,hn,_=>by
  have ih:=JI (l:=k'::l) (fun x hx=>hn x (A0p _ hx)) (by simp)
  have hpos:0<((k'::l).flatMap f).length:=by
   have:=CX (hn k' (by simp))
   rw[A0Y,A04];omega
  rw[A0Y,A04]
  rw[Ub (by omega)]
  have e:(f k).length+((k'::l).flatMap f).length-1-(f k).length=((k'::l).flatMap f).length-1:=by omega
  rw[e,ih]
  simp
theorem ME{f:GT->List GE}:∀ {l:List GT},(∀ k ∈ l,k.count=(f k).length)->(l.map GT.count).sum=(l.flatMap f).length
 |[],_=>rfl
 |k::l,h=>by
  simp only[A0h,List.sum_cons,A0Y,A04]
  rw[ME fun x hx=>h x (A0p _ hx),h k A0B]
  omega
theorem H1{f:GT->List GE}{l:List GT}{k:GT}(h:k ∈ l):(f k).length<=(l.flatMap f).length:=by
 induction l with
 |nil=>cases h
 |cons x l ih=>
  rw[A0Y,A04]
  rcases A0s.1 h with rfl|h
  ·omega
  ·have:=ih h;omega
theorem Wf.d:∀ {h:Nat} {t:GT},Wf h t->WfD h t
 |0,t,hw=>by
  obtain⟨l,rfl,ho,hn⟩:=hw
  exact⟨by simp[AB],rfl,by simp[AB,GT.count,Aa,GT.es],hn,PD ho.hr,rfl,rfl,by simp[GT.size,AB,GT.es,GT.kids,ho.hl],by simpa[Aa,AB,GT.es] using CX hn,ho.hs⟩
 |h+1,t,hw=>by
  obtain⟨l,rfl,h2,h8,hk,hs⟩:=hw
  have hd:∀ k ∈ l,WfD h k:=fun k hk'=>Wf.d (hk k hk').1
  have hfl:Aa (h+1) (AH l)=l.flatMap (Aa h):=rfl
  have h0:l.getD 0 .nil ∈ l:=Aj (by omega)
  have hl:l.getD (l.length-1) .nil ∈ l:=Aj (by omega)
  have hne:∀ k ∈ l,Aa h k≠[]:=fun k hk'=>(hd k hk').ne
  refine⟨by simp[AH],?_,?_,?_,hs,?_,?_,?_,?_,fun e he=>?_⟩
  ·show(l.getD 0 .nil).height+1=_
   rw[(hd _ h0).height];simp
  ·rw[hfl]
   show HJ l l.length=_
   rw[HJ,A1h]
   exact ME fun k hk'=>(hd k hk').count
  ·rw[hfl]
   intro hc
   have:=HX hne (show 0<l.length by omega)
   have h3:=H1 (f:=Aa h) h0
   rw[hc] at h3
   have:=CX (hne _ h0)
   simp at h3;simp[h3] at this
  ·rw[hfl,HX hne (by omega)];exact(hd _ h0).first
  ·rw[hfl,JI hne (by omega)];exact(hd _ hl).last
  ·show 0+l.length<=8;omega
  ·rw[hfl]
   match l,h2 with
   |a::b::l,_=>
    have h1:=(hd a (by simp)).hlt
    have h2:=CX (hne b (by simp))
    simp only[A0Y,A04]
    omega
  ·rw[hfl,List.mem_flatMap] at he
   obtain⟨k,hk',he⟩:=he
   exact(hd k hk').sm e he
theorem KT{p:Nat->Bool}:∀ (m i:Nat),(BV p i m<i+m->p (BV p i m)=true)/\(∀ x,i<=x->x<BV p i m->p x=false)/\i<=BV p i m
 |0,i=>by simp only[BV];exact⟨fun h=>absurd h (by omega),fun x h h'=>by omega,A0a _⟩
 |m+1,i=>by
  simp only[BV]
  by_cases hp:p i=true
  ·rw[if_pos hp];exact⟨fun _=>hp,fun x h h'=>by omega,A0a _⟩
  ·rw[if_neg hp]
   obtain⟨h1,h2,h3⟩:=KT (p:=p) m (i+1)
   refine⟨fun h=>h1 (by omega),fun x hx hx'=>?_,by omega⟩
   by_cases hxi:x=i
   ·subst hxi;simpa using hp
   ·exact h2 x (by omega) hx'
theorem K0{f:GT->List GE}{l:List GT}(h:Srt (l.flatMap f)){i j:Nat}(hij:i<j)(hj:j<l.length){x y:GE}(hx:x ∈ f (l.getD i .nil))(hy:y ∈ f (l.getD j .nil)):ltS x.1 y.1=true:=by
 have h2:=(List.pairwise_flatMap.1 h).2
 have h3:=List.pairwise_iff_getElem.1 h2 i j (by omega) hj hij
 rw[A02,A09 (by omega)] at hx
 rw[A02,A09 hj] at hy
 exact h3 x hx y hy
theorem PB{f:GT->List GE}(l:List GT)(i:Nat):((l.take i).flatMap f).length<=(l.flatMap f).length:=by
 have:l.flatMap f=(l.take i).flatMap f++(l.drop i).flatMap f:=by rw[<-A0A,A12]
 rw[this,A04];omega
theorem EO{h:Nat}{l:List GT}(h1:1<=l.length)(h8:l.length<=8)(hk:∀ k ∈ l,Wf h k)(hs:Srt (l.flatMap (Aa h)))(hb:(l.flatMap (Aa h)).length<=4611686018427387904):OkK l:=by
 have hd:∀ i,i<l.length->WfD h (l.getD i .nil):=fun i hi=>(hk _ (Aj hi)).d
 refine⟨h8,fun i hi=>?_,?_,fun i hi=>?_,fun i h1 h2=>?_⟩
 ·have d:=hd i hi
  have d0:=hd 0 (by omega)
  refine⟨d.nn,?_,by rw[d.height,d0.height],d.size⟩
  rw[d.count]
  have:=CX d.ne
  omega
 ·have d0:=hd 0 (by omega)
  have h2:=d0.hlt
  have h3:=H1 (f:=Aa h) (Aj (d:=GT.nil) (show 0<l.length by omega))
  rw[d0.height];omega
 ·have e:HJ l i=(((l.take i).flatMap (Aa h)).length:Int):=ME fun k hk'=>((hk k (A1e hk')).d).count
  have:=PB (f:=Aa h) l i
  rw[e];omega
 ·have d1:=hd (i-1) (by omega)
  have d2:=hd i h2
  rw[d1.last,d2.first]
  exact K0 hs (show i-1<i by omega) h2 (Ua d1.ne) (Hu d2.ne)
theorem FY{h:Nat}{l:List GT}{k:ByteArray}(h1:1<=l.length)(hk:∀ x ∈ l,Wf h x)(hs:Srt (l.flatMap (Aa h))):
  AD l k<l.length/\(∀ i j,i<=j->j<l.length->ltS k (l.getD i .nil).first=true->ltS k (l.getD j .nil).first=true)/\
  (∀ i x,i<AD l k->x ∈ Aa h (l.getD i .nil)->ltS x.1 k=true)/\(∀ j x,AD l k<j->j<l.length->x ∈ Aa h (l.getD j .nil)->ltS k x.1=true):=by
 have hd:∀ i,i<l.length->WfD h (l.getD i .nil):=fun i hi=>(hk _ (Aj hi)).d
 have hfirst:∀ i x,i<l.length->x ∈ Aa h (l.getD i .nil)->ltS x.1 (l.getD i .nil).first=false:=by
  intro i x hi hx
  have d:=hd i hi
  rw[d.first]
  cases hlt:ltS x.1 ((Aa h (l.getD i .nil)).getD 0 zM).1 with
  |false=>rfl
  |true=>
   obtain⟨n,hn,rfl⟩:=List.getElem_of_mem hx
   have e:∀ (F:List GE) (hn:n<F.length),F[n]=F.getD n zM:=fun F hn=>by rw[A02,A09 hn];rfl
   rw[e _ hn] at hlt
   rcases A17 n with rfl|hp
   ·rw[DP] at hlt;cases hlt
   ·have:=NH (PE d.srt hp hn);rw[this] at hlt;cases hlt
 have hm:∀ i j,i<=j->j<l.length->ltS k (l.getD i .nil).first=true->ltS k (l.getD j .nil).first=true:=by
  intro i j hij hj hi
  rcases Nat.eq_or_lt_of_le hij with rfl|hlt
  ·exact hi
  ·have di:=hd i (by omega)
   have dj:=hd j hj
   refine Df hi ?_
   rw[di.first,dj.first]
   exact K0 hs hlt hj (Hu di.ne) (Hu dj.ne)
 obtain⟨f1,f2,_⟩:=KT (p:=fun i=>ltS k (l.getD i .nil).first) l.length 0
 have hle:=EH (fun i=>ltS k (l.getD i .nil).first) l.length 0
 unfold AD
 generalize BV (fun i=>ltS k (l.getD i .nil).first) 0 l.length=p at f1 f2 hle
 refine⟨by omega,hm,fun i x hi hx=>?_,fun j x hj hj' hx=>?_⟩
 ·have d:=hd (p-1) (by omega)
  have g:ltS k (l.getD (p-1) .nil).first=false:=f2 (p-1) (by omega) (by omega)
  have:ltS x.1 (l.getD (p-1) .nil).first=true:=by rw[d.first];exact K0 hs hi (by omega) hx (Hu d.ne)
  exact NG this g
 ·have g:ltS k (l.getD j .nil).first=true:=hm p j (by omega) hj' (f1 (by omega))
  exact NG g (hfirst j x hj' hx)
theorem PF{α:Type}(l:List α)(d:α){i:Nat}(h:i<l.length):l=l.take i++l.getD i d::l.drop (i+1):=by
 rw[<-Cy h,A12]
theorem set3{α:Type}(l:List α)(x:α){i:Nat}(h:i<l.length):l.set i x=l.take i++x::l.drop (i+1):=by
 rw[List.set_eq_take_append_cons_drop,if_pos h]
theorem HT{α:Type}{l:List α}{i:Nat}{d x:α}(h:x ∈ l.take i):∃ j,j<i/\j<l.length/\l.getD j d=x:=by
 obtain⟨n,hn,rfl⟩:=List.getElem_of_mem h
 simp only[A0z] at hn
 refine⟨n,by omega,by omega,?_⟩
 rw[A02,A09 (by omega)];simp
theorem HU{α:Type}{l:List α}{i:Nat}{d x:α}(h:x ∈ l.drop i):∃ j,i<=j/\j<l.length/\l.getD j d=x:=by
 obtain⟨n,hn,rfl⟩:=List.getElem_of_mem h
 simp only[A0v] at hn
 refine⟨i+n,by omega,by omega,?_⟩
 rw[A02,A09 (by omega)];simp
theorem Km{h:Nat}{l:List GT}{k:ByteArray}(h1:1<=l.length)(hk:∀ x ∈ l,Wf h x)(hs:Srt (l.flatMap (Aa h))):
  (∀ x ∈ (l.take (AD l k)).flatMap (Aa h),ltS x.1 k=true)/\(∀ x ∈ (l.drop (AD l k+1)).flatMap (Aa h),ltS k x.1=true)/\
  l.flatMap (Aa h)=(l.take (AD l k)).flatMap (Aa h)++Aa h (l.getD (AD l k) .nil)++(l.drop (AD l k+1)).flatMap (Aa h):=by
 obtain⟨s1,_,s3,s4⟩:=FY (k:=k) h1 hk hs
 refine⟨fun x hx=>?_,fun x hx=>?_,?_⟩
 ·obtain⟨t,ht,hx⟩:=List.mem_flatMap.1 hx
  obtain⟨j,h2,_,rfl⟩:=HT (d:=GT.nil) ht
  exact s3 j x h2 hx
 ·obtain⟨t,ht,hx⟩:=List.mem_flatMap.1 hx
  obtain⟨j,h2,h3,rfl⟩:=HU (d:=GT.nil) ht
  exact s4 j x (by omega) h3 hx
 ·conv=>lhs;rw[PF l .nil s1]
  rw[A0A,A0Y,A0b]
theorem Ch{l:List GE}(h:OkE l)(hn:l≠[]):Wf 0 (AB l):=⟨l,rfl,h,hn⟩
theorem Du{h:Nat}{l:List GT}(h2:2<=l.length)(h8:l.length<=8)(hk:∀ k ∈ l,Wf h k/\4<=k.size)(hs:Srt (l.flatMap (Aa h))):Wf (h+1) (Dv l)/\Aa (h+1) (Dv l)=l.flatMap (Aa h)/\(Dv l).size=l.length:=by
 have e:Dv l=AH l:=by unfold Dv;rw[if_neg (by omega)]
 rw[e]
 exact⟨⟨l,rfl,h2,h8,hk,hs⟩,rfl,by simp[GT.size,AH,GT.es,GT.kids]⟩
theorem DN{l:List GE}(h8:l.length<=8)(hs:∀ e ∈ l,Sm e.2)(hr:Srt l):OkE l:=⟨h8,hs,fun i h1 h2=>PE hr (show i-1<i by omega) h2⟩
def WithOk(h:Nat)(t:GT)(e:GE)(L R:GT):Prop:=
 Wf h L/\(4<=t.size->4<=L.size)/\((R=.nil/\Aa h L=Br e (Aa h t))∨(Wf h R/\4<=R.size/\4<=L.size/\Aa h L++Aa h R=Br e (Aa h t)))
theorem UO:∀ (h:Nat) (t:GT) (e:GE),Wf h t->Sm e.2->(Aa h t).length<=1099511627776->∃ L R,A0 prog 97 [Ac t,.agg (A7 e)] (.tup [Ac L,Ac R])/\WithOk h t e L R
 |0,t,e,hw,he,hb=>by
  have d:=hw.d
  obtain⟨l,rfl,ho,hn⟩:=hw
  have hes:(AB l).es=l:=rfl
  have hsrt:Srt l:=PD ho.hr
  have hput:=Vh e l
  have hlen:=Dc e l
  have h9:(Br e l).length<=9:=by have:=ho.hl;omega
  have hsm:∀ x ∈ Br e l,Sm x.2:=fun x hx=>by
   rcases Fw hx with rfl|hx
   ·exact he
   ·exact ho.hs x hx
  have hps:=E6 (e:=e) hsrt
  have hw0:=c_with0 (AB l) e rfl (by rw[hes];exact hn) ho.hl ho.hs (by rw[hes];exact Jm hsrt e.1) (by
   rw[hes,hput]
   split
   ·rename_i h8;exact DN h8 hsm hps
   ·exact⟨DN (by simp;omega) (fun x hx=>hsm x (A1e hx)) (List.Pairwise.take hps),DN (by simp;omega) (fun x hx=>hsm x (A0P hx)) (List.Pairwise.drop hps)⟩)
  rw[hes,hput] at hw0
  refine⟨_,_,hw0,?_⟩
  have hpos:=CX hn
  unfold J6
  split
  ·rename_i h8
   refine⟨Ch (DN h8 hsm hps) (fun hc=>hn (by have:=hlen.2;rw[hc] at this;simpa using this)),fun h4=>?_,.inl ⟨rfl,rfl⟩⟩
   simp only[GT.size,AB,GT.es,GT.kids,A0t,A11] at h4|-;omega
  ·rename_i h8
   have e1:((Br e l).take 4).length=4:=by simp;omega
   have e2:4<=((Br e l).drop 4).length:=by simp;omega
   refine⟨Ch (DN (by omega) (fun x hx=>hsm x (A1e hx)) (List.Pairwise.take hps)) (fun hc=>by rw[hc] at e1;simp at e1),fun _=>?_,.inr ⟨Ch (DN (by simp;omega) (fun x hx=>hsm x (A0P hx)) (List.Pairwise.drop hps)) (fun hc=>by rw[hc] at e2;simp at e2),?_,?_,?_⟩⟩
   ·simp only[GT.size,AB,GT.es,GT.kids,A0t,A11];omega
   ·simp only[GT.size,AB,GT.es,GT.kids,A0t,A11];omega
   ·simp only[GT.size,AB,GT.es,GT.kids,A0t,A11];omega
   ·exact A12 4 (Br e l)
 |h+1,t,e,hw,he,hb=>by
  have d:=hw.d
  obtain⟨l,rfl,h2,h8,hk,hs⟩:=hw
  have hkids:(AH l).kids=l:=rfl
  have hfl:Aa (h+1) (AH l)=l.flatMap (Aa h):=rfl
  rw[hfl] at hb
  have hkw:∀ k ∈ l,Wf h k:=fun k hk'=>(hk k hk').1
  obtain⟨s1,s2,_,_⟩:=FY (k:=e.1) (show 1<=l.length by omega) hkw hs
  obtain⟨p1,p2,p3⟩:=Km (k:=e.1) (show 1<=l.length by omega) hkw hs
  have hmem:l.getD (AD l e.1) .nil ∈ l:=Aj s1
  have hkid:=hk _ hmem
  obtain⟨L,R,hrec,hwo⟩:=UO h (l.getD (AD l e.1) .nil) e hkid.1 he (A0L (H1 hmem) hb)
  obtain⟨o1,o2,o3⟩:=hwo
  have hput:Br e (l.flatMap (Aa h))=(l.take (AD l e.1)).flatMap (Aa h)++Br e (Aa h (l.getD (AD l e.1) .nil))++(l.drop (AD l e.1+1)).flatMap (Aa h):=by
   rw[p3,A0b,RG p1,LO p2,A0b]
  have hht:(AH l).height≠0:=by rw[d.height];simp;omega
  have hps:Srt (Br e (l.flatMap (Aa h))):=E6 hs
  have hpl:=(Dc e (l.flatMap (Aa h))).1
  have hL0:L≠ .nil:=o1.d.nn
  generalize hi:AD l e.1=i at*
  rcases o3 with⟨rfl,o4⟩|⟨o4,o5,o6,o7⟩
  ·
   have hf:(l.set i L).flatMap (Aa h)=Br e (l.flatMap (Aa h)):=by
    rw[set3 l L s1,A0A,A0Y,o4,hput,A0b]
   have hkl:∀ k ∈ l.set i L,Wf h k/\4<=k.size:=fun k hk'=>by
    rcases List.mem_or_eq_of_mem_set hk' with hk'|rfl
    ·exact hk k hk'
    ·exact⟨o1,o2 hkid.2⟩
   have hok:OkK (l.set i L):=EO (by simp;omega) (by simp;omega) (fun k hk'=>(hkl k hk').1) (by rw[hf];exact hps) (by rw[hf];omega)
   have hcall:=c_withI (AH l) e L hht (by rw[hkids];omega) (by rw[hkids];exact h8) (by rw[hkids];exact s2) (by rw[hkids,hi];exact s1) (by rw[hkids,hi];exact hrec) (by rw[hkids,hi];exact hok) hL0
   rw[hkids,hi] at hcall
   obtain⟨w1,w2,w3⟩:=Du (l:=l.set i L) (h:=h) (by simp;omega) (by simp;omega) hkl (by rw[hf];exact hps)
   refine⟨_,_,hcall,w1,fun h4=>?_,.inl ⟨rfl,by rw[w2,hf,hfl]⟩⟩
   rw[w3,A0S]
   simpa[GT.size,AH,GT.es,GT.kids] using h4
  ·
   have hR0:R≠ .nil:=o4.d.nn
   have hl':CW (l.set i L) (i+1) R=l.take i++L::R::l.drop (i+1):=by
    have e1:(l.take i).length=i:=by simp;omega
    rw[set3 l L s1]
    simp only[CW]
    have e3:l.take i++L::l.drop (i+1)=(l.take i++[L])++l.drop (i+1):=by simp
    have e4:(l.take i++[L]).length=i+1:=by simp;omega
    rw[e3,A1K e4,List.drop_left' e4]
    simp
   have hf:(CW (l.set i L) (i+1) R).flatMap (Aa h)=Br e (l.flatMap (Aa h)):=by
    rw[hl',A0A,A0Y,A0Y,hput,<-o7]
    simp only[A0b]
   have hll:(CW (l.set i L) (i+1) R).length=l.length+1:=by rw[hl'];simp;omega
   have hkl:∀ k ∈ CW (l.set i L) (i+1) R,Wf h k/\4<=k.size:=fun k hk'=>by
    rw[hl'] at hk'
    simp only[A1t,A0s] at hk'
    rcases hk' with hk'|rfl|rfl|hk'
    ·exact hk k (A1e hk')
    ·exact⟨o1,o6⟩
    ·exact⟨o4,o5⟩
    ·exact hk k (A0P hk')
   generalize hq:CW (l.set i L) (i+1) R=q at*
   have hqs:Srt (q.flatMap (Aa h)):=by rw[hf];exact hps
   have hqb:(q.flatMap (Aa h)).length<=4611686018427387904:=by rw[hf];omega
   have ht1:q.flatMap (Aa h)=(q.take 4).flatMap (Aa h)++(q.drop 4).flatMap (Aa h):=by rw[<-A0A,A12]
   have hsT:Srt ((q.take 4).flatMap (Aa h)):=by rw[ht1] at hqs;exact(A1o.1 hqs).1
   have hsD:Srt ((q.drop 4).flatMap (Aa h)):=by rw[ht1] at hqs;exact(A1o.1 hqs).2.1
   have hlb:=congrArg List.length ht1
   rw[A04] at hlb
   have hok:if q.length<=8 then OkK q else OkK (q.take 4)/\OkK (q.drop 4):=by
    split
    ·rename_i hq8;exact EO (by omega) hq8 (fun k hk'=>(hkl k hk').1) hqs hqb
    ·exact⟨EO (by simp;omega) (by simp;omega) (fun k hk'=>(hkl k (A1e hk')).1) hsT (by omega),EO (by simp;omega) (by simp;omega) (fun k hk'=>(hkl k (A0P hk')).1) hsD (by omega)⟩
   have hcall:=c_withJ (AH l) e L R hht (by rw[hkids];omega) (by rw[hkids];exact h8) (by rw[hkids];exact s2) (by rw[hkids,hi];exact s1) (by rw[hkids,hi];exact hrec) hL0 hR0 q (by rw[hkids,hi];exact hq.symm) hok
   refine⟨_,_,hcall,?_⟩
   unfold GD
   split
   ·rename_i hq8
    obtain⟨w1,w2,w3⟩:=Du (l:=q) (h:=h) (by omega) hq8 hkl hqs
    refine⟨w1,fun h4=>by rw[w3];simp[GT.size,AH,GT.es,GT.kids] at h4;omega,.inl ⟨rfl,by rw[w2,hf,hfl]⟩⟩
   ·obtain⟨w1,w2,w3⟩:=Du (l:=q.take 4) (h:=h) (by simp;omega) (by simp;omega) (fun k hk'=>hkl k (A1e hk')) hsT
    obtain⟨v1,v2,v3⟩:=Du (l:=q.drop 4) (h:=h) (by simp;omega) (by simp;omega) (fun k hk'=>hkl k (A0P hk')) hsD
    refine⟨w1,fun h4=>by rw[w3];simp;omega,.inr ⟨v1,by rw[v3];simp;omega,by rw[w3];simp;omega,?_⟩⟩
    rw[w2,v2,<-ht1,hf,hfl]
def MendTo(kids:List GT)(i j:Nat)(X Y:GT):Prop:=
 (Y=.nil->A2 prog 160 [.gref 1 kids.length,.val (.int .i64 i)] [(1,.grow (kids.map Ai) 1)] (.gref 0 (kids.length-1)) [(0,.grow ((Dj (kids.set j X) (j+1)).map Ai) 1)])/\
 (Y≠ .nil->A2 prog 160 [.gref 1 kids.length,.val (.int .i64 i)] [(1,.grow (kids.map Ai) 1)] (.gref 0 kids.length) [(0,.grow (((kids.set j X).set (j+1) Y).map Ai) 1)])
def Mends(h:Nat)(a b X Y:GT):Prop:=
 Wf h X/\4<=X.size/\((Y=.nil/\Aa h X=Aa h a++Aa h b)∨(Wf h Y/\4<=Y.size/\Aa h X++Aa h Y=Aa h a++Aa h b))/\
 ∀(kids:List GT) (i j:Nat),j=i-1->kids.length<=9->j+1<kids.length->i<kids.length->kids.getD j .nil=a->kids.getD (j+1) .nil=b->MendTo kids i j X Y
theorem CN(l:List GE):(AB l).size=l.length:=by simp[GT.size,AB,GT.es,GT.kids]
theorem DS(l:List GT):(AH l).size=l.length:=by simp[GT.size,AH,GT.es,GT.kids]
theorem lastD{α:Type}(l:List α)(d:α)(h:0<l.length):l.take (l.length-1)++[l.getD (l.length-1) d]=l:=by
 have:=PF l d (show l.length-1<l.length by omega)
 have e:l.drop (l.length-1+1)=[]:=A0i (by omega)
 rw[e] at this
 exact this.symm
theorem headD{α:Type}(l:List α)(d:α)(h:0<l.length):l.getD 0 d::l.drop 1=l:=by
 have:=PF l d h
 simpa using this.symm
theorem mends0{l r:List GE}(ho:OkE l)(hr:OkE r)(hln:l≠[])(hrn:r≠[])(hs:Srt (l++r))(hz:(l.length=3/\4<=r.length)∨(r.length=3/\4<=l.length)):∃ X Y,Mends 0 (AB l) (AB r) X Y:=by
 have h8:=ho.hl
 have h8':=hr.hl
 have hsm:∀ e ∈ l++r,Sm e.2:=fun e he=>by rcases A1t.1 he with h|h;exact ho.hs e h;exact hr.hs e h
 have hea:(AB l).es=l:=rfl
 have heb:(AB r).es=r:=rfl
 by_cases h1:4<l.length
 ·have e1:=lastD l zM (by omega)
  have hcat:l.take (l.length-1)++(l.getD (l.length-1) zM::r)=l++r:=by
   conv=>rhs;rw[<-e1]
   simp
  have hsm':∀ e ∈ l.take (l.length-1)++(l.getD (l.length-1) zM::r),Sm e.2:=by rw[hcat];exact hsm
  have hs':=hs
  rw[<-hcat] at hs'
  have o1:OkE (l.take (l.length-1)):=DN (by simp;omega) (fun e he=>hsm' e (List.mem_append_left _ he)) (A1o.1 hs').1
  have o2:OkE (l.getD (l.length-1) zM::r):=DN (by simp;omega) (fun e he=>hsm' e (A1P _ he)) (A1o.1 hs').2.1
  refine⟨AB (l.take (l.length-1)),AB (l.getD (l.length-1) zM::r),Ch o1 (fun h=>by have:=congrArg List.length h;simp at this;omega),by rw[CN];simp;omega,.inr ⟨Ch o2 (by simp),by rw[CN];simp;omega,hcat⟩,fun kids i j hj hn hjk hi ha hb=>⟨fun hY=>by simp[AB] at hY,fun hY=>?_⟩⟩
  have hp:=c_pairE1 l r h1 (by omega) (by omega) h8' o1 o2
  exact SQ kids i j _ _ hj hn hjk hi (by simp[AB]) hY (by rw[ha];rfl) (by rw[ha];exact hln) (by rw[ha];exact h8) (by rw[ha];exact ho.hs) (by rw[hb];exact hrn) (by rw[hb];exact h8') (by rw[hb];exact hr.hs) (by rw[ha,hb];exact hp)
 by_cases h2:4<r.length
 ·have e1:=headD r zM (by omega)
  have hcat:(l++[r.getD 0 zM])++r.drop 1=l++r:=by
   rw[A0b,List.singleton_append,e1]
  have hsm':∀ e ∈ (l++[r.getD 0 zM])++r.drop 1,Sm e.2:=by rw[hcat];exact hsm
  have hs':=hs
  rw[<-hcat] at hs'
  have o1:OkE (l++[r.getD 0 zM]):=DN (by simp;omega) (fun e he=>hsm' e (List.mem_append_left _ he)) (A1o.1 hs').1
  have o2:OkE (r.drop 1):=DN (by simp;omega) (fun e he=>hsm' e (A1P _ he)) (A1o.1 hs').2.1
  refine⟨AB (l++[r.getD 0 zM]),AB (r.drop 1),Ch o1 (by simp),by rw[CN];simp;omega,.inr ⟨Ch o2 (fun h=>by have:=congrArg List.length h;simp at this;omega),by rw[CN];simp;omega,hcat⟩,fun kids i j hj hn hjk hi ha hb=>⟨fun hY=>by simp[AB] at hY,fun hY=>?_⟩⟩
  have hp:=c_pairE2 l r (by omega) h2 (by omega) o1 o2
  exact SQ kids i j _ _ hj hn hjk hi (by simp[AB]) hY (by rw[ha];rfl) (by rw[ha];exact hln) (by rw[ha];exact h8) (by rw[ha];exact ho.hs) (by rw[hb];exact hrn) (by rw[hb];exact h8') (by rw[hb];exact hr.hs) (by rw[ha,hb];exact hp)
 ·have o1:OkE (l++r):=DN (by simp;omega) hsm hs
  refine⟨AB (l++r),.nil,Ch o1 (by simp[hln]),by rw[CN];simp;omega,.inl ⟨rfl,rfl⟩,fun kids i j hj hn hjk hi ha hb=>⟨fun _=>?_,fun hY=>absurd rfl hY⟩⟩
  have hp:=c_pairE3 l r (by omega) (by omega) (by omega) o1
  exact c_mendE1 kids i j _ hj hn hjk hi (by simp[AB]) (by rw[ha];rfl) (by rw[ha];exact hln) (by rw[ha];exact h8) (by rw[ha];exact ho.hs) (by rw[hb];exact hrn) (by rw[hb];exact h8') (by rw[hb];exact hr.hs) (by rw[ha,hb];exact hp)
theorem mends1{h:Nat}{l r:List GT}(hl:∀ k ∈ l,Wf h k/\4<=k.size)(hr:∀ k ∈ r,Wf h k/\4<=k.size)(h8:l.length<=8)(h8':r.length<=8)(hs:Srt (l.flatMap (Aa h)++r.flatMap (Aa h)))(hb:((l++r).flatMap (Aa h)).length<=4611686018427387904)(hz:(l.length=3/\4<=r.length)∨(r.length=3/\4<=l.length)):∃ X Y,Mends (h+1) (AH l) (AH r) X Y:=by
 have hall:∀ k ∈ l++r,Wf h k/\4<=k.size:=fun e he=>by rcases A1t.1 he with h|h;exact hl e h;exact hr e h
 rw[<-A0A] at hs
 have hka:(AH l).kids=l:=rfl
 have hkb:(AH r).kids=r:=rfl
 have hha:(AH l).height≠0:=by
  show(l.getD 0 .nil).height+1≠0
  have:=((hl _ (Aj (d:=GT.nil) (show 0<l.length by omega))).1).d.height
  rw[this];omega
 have part:∀ a b:List GT,a++b=l++r->2<=a.length->a.length<=8->2<=b.length->b.length<=8->OkK a/\OkK b/\(Wf (h+1) (Dv a)/\Aa (h+1) (Dv a)=a.flatMap (Aa h)/\(Dv a).size=a.length)/\(Wf (h+1) (Dv b)/\Aa (h+1) (Dv b)=b.flatMap (Aa h)/\(Dv b).size=b.length):=by
  intro a b he a2 a8 b2 b8
  rw[<-he] at hall hs hb
  rw[A0A] at hs hb
  rw[A04] at hb
  have pa:=A1o.1 hs
  exact⟨EO (by omega) a8 (fun k hk=>(hall k (List.mem_append_left _ hk)).1) pa.1 (by omega),EO (by omega) b8 (fun k hk=>(hall k (A1P _ hk)).1) pa.2.1 (by omega),
   Du a2 a8 (fun k hk=>hall k (List.mem_append_left _ hk)) pa.1,Du b2 b8 (fun k hk=>hall k (A1P _ hk)) pa.2.1⟩
 have hfl:∀ a b:List GT,a++b=l++r->a.flatMap (Aa h)++b.flatMap (Aa h)=Aa (h+1) (AH l)++Aa (h+1) (AH r):=fun a b he=>by
  rw[<-A0A,he,A0A];rfl
 by_cases h1:4<l.length
 ·have e1:=lastD l .nil (by omega)
  have hcat:l.take (l.length-1)++(l.getD (l.length-1) .nil::r)=l++r:=by
   conv=>rhs;rw[<-e1]
   simp
  obtain⟨o1,o2,⟨w1,w2,w3⟩,v1,v2,v3⟩:=part _ _ hcat (by simp;omega) (by simp;omega) (by simp;omega) (by simp;omega)
  refine⟨_,_,w1,by rw[w3];simp;omega,.inr ⟨v1,by rw[v3];simp;omega,by rw[w2,v2];exact hfl _ _ hcat⟩,fun kids i j hj hn hjk hi ha hb=>⟨fun hY=>absurd hY v1.d.nn,fun hY=>?_⟩⟩
  have hp:=c_pairK1 l r h1 (by omega) (by omega) h8' o1 o2
  exact SP kids i j _ _ hj hn hjk hi w1.d.nn hY (by rw[ha];exact hha) (by rw[ha,hka];omega) (by rw[ha];exact h8) (by rw[hb,hkb];omega) (by rw[hb];exact h8') (by rw[ha,hb];exact hp)
 by_cases h2:4<r.length
 ·have e1:=headD r .nil (by omega)
  have hcat:(l++[r.getD 0 .nil])++r.drop 1=l++r:=by
   rw[A0b,List.singleton_append,e1]
  obtain⟨o1,o2,⟨w1,w2,w3⟩,v1,v2,v3⟩:=part _ _ hcat (by simp;omega) (by simp;omega) (by simp;omega) (by simp;omega)
  refine⟨_,_,w1,by rw[w3];simp;omega,.inr ⟨v1,by rw[v3];simp;omega,by rw[w2,v2];exact hfl _ _ hcat⟩,fun kids i j hj hn hjk hi ha hb=>⟨fun hY=>absurd hY v1.d.nn,fun hY=>?_⟩⟩
  have hp:=c_pairK2 l r (by omega) (by omega) h2 (by omega) o1 o2
  exact SP kids i j _ _ hj hn hjk hi w1.d.nn hY (by rw[ha];exact hha) (by rw[ha,hka];omega) (by rw[ha];exact h8) (by rw[hb,hkb];omega) (by rw[hb];exact h8') (by rw[ha,hb];exact hp)
 ·rw[A0A,A04] at hb
  have o1:OkK (l++r):=EO (by simp;omega) (by simp;omega) (fun k hk=>(hall k hk).1) hs (by rw[A0A,A04];omega)
  obtain⟨w1,w2,w3⟩:=Du (l:=l++r) (h:=h) (by simp;omega) (by simp;omega) hall hs
  refine⟨_,.nil,w1,by rw[w3];simp;omega,.inl ⟨rfl,by rw[w2,A0A];rfl⟩,fun kids i j hj hn hjk hi ha hb=>⟨fun _=>?_,fun hY=>absurd rfl hY⟩⟩
  have hp:=c_pairK3 l r (by omega) (by omega) (by omega) (by omega) o1
  exact c_mendK1 kids i j _ hj hn hjk hi w1.d.nn (by rw[ha];exact hha) (by rw[ha,hka];omega) (by rw[ha];exact h8) (by rw[hb,hkb];omega) (by rw[hb];exact h8') (by rw[ha,hb];exact hp)
theorem mends:∀ (h:Nat) (a b:GT),Wf h a->Wf h b->Srt (Aa h a++Aa h b)->(Aa h a++Aa h b).length<=4611686018427387904->(a.size=3/\4<=b.size)∨(b.size=3/\4<=a.size)->∃ X Y,Mends h a b X Y
 |0,a,b,ha,hb,hs,_,hz=>by
  obtain⟨l,rfl,ho,hn⟩:=ha
  obtain⟨r,rfl,hr,hrn⟩:=hb
  rw[CN,CN] at hz
  exact mends0 ho hr hn hrn hs hz
 |h+1,a,b,ha,hb,hs,hbd,hz=>by
  obtain⟨l,rfl,h2,h8,hk,hs1⟩:=ha
  obtain⟨r,rfl,h2',h8',hk',hs1'⟩:=hb
  rw[DS,DS] at hz
  exact mends1 hk hk' h8 h8' hs (by rw[A0A];exact hbd) hz
def WoR(k:ByteArray):Nat->GT->GT->Prop
 |0,t,t'=>∃ l,t'=AB l/\OkE l/\l=Cm k (Aa 0 t)/\t.size<=l.length+1
 |h+1,t,t'=>(Wf (h+1) t'/\Aa (h+1) t'=Cm k (Aa (h+1) t)/\t.size<=t'.size+1)∨(t.size=2/\Wf h t'/\Aa h t'=Cm k (Aa (h+1) t))
theorem LM{k:ByteArray}{l:List GE}(h:∀ x ∈ l,x.1≠k):Cm k l=l:=List.filter_eq_self.2 fun y hy=>by simpa using h y hy
theorem RY(k:ByteArray)(a b:List GE):FC k (a++b)=(FC k a ||FC k b):=List.any_append
theorem NS{k:ByteArray}{l:List GE}(h:∀ x ∈ l,x.1≠k):FC k l=false:=by
 unfold FC;rw[List.any_eq_false];intro x hx;simpa using h x hx
theorem RA{k:ByteArray}:∀ {l:List GE},Srt l->l.length<=(Cm k l).length+1
 |[],_=>by simp
 |x::l,h=>by
  unfold Cm
  by_cases hx:x.1=k
  ·rw[A1X (by simpa using hx)]
   have:l.filter (fun x=>decide (x.1≠k))=l:=LM fun y hy hyk=>by
    have:=h.head y hy
    rw[hx,hyk,DP] at this;cases this
   rw[this];simp
  ·rw[A1W (by simpa using hx)]
   have:=RA (k:=k) h.tail
   unfold Cm at this
   simp only[A0g];omega
theorem getD_set_ne{α:Type}{l:List α}{i j:Nat}{x d:α}(h:i≠j):(l.set i x).getD j d=l.getD j d:=by
 rw[A02,A02,List.getElem?_set_ne h]
theorem S7{α:Type}{l:List α}{i:Nat}{x d:α}(h:i<l.length):(l.set i x).getD i d=x:=by
 rw[A02,List.getElem?_set_self h];rfl
theorem split4{α:Type}(l:List α)(d:α){j:Nat}(h:j+1<l.length):l=l.take j++l.getD j d::l.getD (j+1) d::l.drop (j+2):=by
 have h1:=PF l d (show j<l.length by omega)
 have h2:l.drop (j+1)=l.getD (j+1) d::l.drop (j+2):=Cy (by omega)
 rw[h2] at h1
 exact h1
theorem set_set{α:Type}(l:List α)(X Y:α){j:Nat}(h:j+1<l.length):(l.set j X).set (j+1) Y=l.take j++X::Y::l.drop (j+2):=by
 apply A1B
 intro n
 rw[A1I]
 by_cases h1:j+1=n
 ·subst h1
  have e:(l.take j).length=j:=by simp;omega
  rw[if_pos rfl,A0S,if_pos h,A0o (by omega),e]
  simp
 ·rw[if_neg h1,A1I]
  by_cases h2:j=n
  ·subst h2
   have e:(l.take j).length=j:=by simp;omega
   rw[if_pos rfl,if_pos (by omega),A0o (by omega),e]
   simp
  ·rw[if_neg h2]
   have e:(l.take j).length=j:=by simp;omega
   by_cases h3:n<j
   ·rw[A0q (by omega),A1Q,if_pos h3]
   ·rw[A0o (by omega),e]
    have e2:n-j=(n-j-2)+2:=by omega
    rw[e2,A0V,A0V,A0I]
    congr 1;omega
theorem cut_set{α:Type}(l:List α)(X:α){j:Nat}(h:j+1<l.length):Dj (l.set j X) (j+1)=l.take j++X::l.drop (j+2):=by
 unfold Dj
 rw[set3 l X (show j<l.length by omega)]
 have e3:l.take j++X::l.drop (j+1)=(l.take j++[X])++l.drop (j+1):=by simp
 have e4:(l.take j++[X]).length=j+1:=by simp;omega
 rw[e3,A1K e4,List.drop_append,e4]
 have e5:(l.take j++[X]).drop (j+1+1)=[]:=A0i (by rw[e4];omega)
 rw[e5,A1R]
 have e6:j+1+1-(j+1)+(j+1)=j+2∨j+1+(j+1+1-(j+1))=j+2:=by omega
 simp
theorem Ls:∀ (h:Nat) (t:GT) (k:ByteArray),Wf h t->(Aa h t).length<=1099511627776->
  (FC k (Aa h t)=false/\A0 prog 95 [Ac t,.val (.string k)] (.tup [Ac t,.val (.bool false)]))∨
  (FC k (Aa h t)=true/\∃ t',A0 prog 95 [Ac t,.val (.string k)] (.tup [Ac t',.val (.bool true)])/\WoR k h t t')
 |0,t,k,hw,hb=>by
  obtain⟨l,rfl,ho,hn⟩:=hw
  have hes:(AB l).es=l:=rfl
  have hsrt:Srt l:=PD ho.hr
  have hh:=Vj k l hsrt
  have hfl:Aa 0 (AB l)=l:=rfl
  rw[hfl]
  cases hk:FC k l with
  |false=>
   rw[hk] at hh
   exact .inl ⟨rfl,c_wo0 (AB l) k rfl hn ho.hl ho.hs (by rw[hes];exact Jm hsrt k) hh⟩
  |true=>
   rw[hk] at hh
   have hc:=Vp k l hsrt hh
   have hok:OkE (Cm k l):=DN (A0L (List.length_filter_le _ _) ho.hl) (fun e he=>ho.hs e (List.mem_filter.1 he).1) (GK hsrt)
   have hcall:=c_wo1 (AB l) k rfl ho.hl ho.hs (by rw[hes];exact Jm hsrt k) hh (hasE_lt hh) (by rw[hes,hc];exact hok)
   rw[hes,hc] at hcall
   exact .inr ⟨rfl,_,hcall,_,rfl,hok,rfl,by rw[CN];exact RA hsrt⟩
 |h+1,t,k,hw,hb=>by
  have d:=hw.d
  obtain⟨l,rfl,h2,h8,hk,hs⟩:=hw
  have hkids:(AH l).kids=l:=rfl
  have hfl:Aa (h+1) (AH l)=l.flatMap (Aa h):=rfl
  rw[hfl] at hb|-
  have hkw:∀ k ∈ l,Wf h k:=fun k hk'=>(hk k hk').1
  obtain⟨s1,s2,_,_⟩:=FY (k:=k) (show 1<=l.length by omega) hkw hs
  obtain⟨p1,p2,p3⟩:=Km (k:=k) (show 1<=l.length by omega) hkw hs
  have hmem:l.getD (AD l k) .nil ∈ l:=Aj s1
  have hkid:=hk _ hmem
  have hht:(AH l).height≠0:=by rw[d.height];simp;omega
  have n1:∀ x ∈ (l.take (AD l k)).flatMap (Aa h),x.1≠k:=fun x hx=>Fi (p1 x hx)
  have n2:∀ x ∈ (l.drop (AD l k+1)).flatMap (Aa h),x.1≠k:=fun x hx=>(Fi (p2 x hx)).symm
  have hhas:FC k (l.flatMap (Aa h))=FC k (Aa h (l.getD (AD l k) .nil)):=by
   rw[p3,RY,RY,NS n1,NS n2,Bool.false_or,A1V]
  have hrem:Cm k (l.flatMap (Aa h))=(l.take (AD l k)).flatMap (Aa h)++Cm k (Aa h (l.getD (AD l k) .nil))++(l.drop (AD l k+1)).flatMap (Aa h):=by
   rw[p3,RB,RB,LM n1,LM n2]
  have hrs:Srt (Cm k (l.flatMap (Aa h))):=GK hs
  have hrl:(Cm k (l.flatMap (Aa h))).length<=(l.flatMap (Aa h)).length:=List.length_filter_le _ _
  rw[hhas]
  rcases Ls h (l.getD (AD l k) .nil) k hkid.1 (A0L (H1 hmem) hb) with⟨q1,q2⟩|⟨q1,K,q2,q3⟩
  ·exact .inl ⟨q1,c_wo2 (AH l) k _ hht (by rw[hkids];omega) h8 s2 s1 q2⟩
  refine .inr ⟨q1,?_⟩
  have hK:Wf h K/\Aa h K=Cm k (Aa h (l.getD (AD l k) .nil))/\3<=K.size:=by
   have hz4:=hkid.2
   cases h with
   |zero=>
    obtain⟨m,rfl,m1,m2,m3⟩:=q3
    refine⟨Ch m1 (fun hm=>?_),m2,by rw[CN];omega⟩
    rw[hm] at m3;simp only[A0t] at m3;omega
   |succ h=>
    rcases q3 with⟨m1,m2,m3⟩|⟨m1,_⟩
    ·exact⟨m1,m2,by omega⟩
    ·omega
  obtain⟨k1,k2,k3⟩:=hK
  have hk8:=k1.d.size
  generalize hi:AD l k=i at*
  have hf:(l.set i K).flatMap (Aa h)=Cm k (l.flatMap (Aa h)):=by
   rw[set3 l K s1,A0A,A0Y,k2,hrem,A0b]
  by_cases h4:4<=K.size
  ·have hkl:∀ x ∈ l.set i K,Wf h x/\4<=x.size:=fun x hx=>by
    rcases List.mem_or_eq_of_mem_set hx with hx|rfl
    ·exact hk x hx
    ·exact⟨k1,h4⟩
   have hok:OkK (l.set i K):=EO (by simp;omega) (by simp;omega) (fun x hx=>(hkl x hx).1) (by rw[hf];exact hrs) (by rw[hf];omega)
   have hcall:=c_wo3 (AH l) k K hht (by rw[hkids];omega) h8 s2 (by rw[hkids,hi];exact s1) (by rw[hkids,hi];exact q2) k1.d.nn h4 hk8 (by rw[hkids,hi];exact hok)
   rw[hkids,hi] at hcall
   obtain⟨w1,w2,w3⟩:=Du (l:=l.set i K) (h:=h) (by simp;omega) (by simp;omega) hkl (by rw[hf];exact hrs)
   exact⟨_,hcall,.inl ⟨w1,by rw[w2,hf,hfl],by rw[w3,A0S,DS];omega⟩⟩
  ·
   have hz3:K.size=3:=by omega
   have hjl:i-1+1<l.length:=by omega
   have hlen:(l.set i K).length=l.length:=by simp
   generalize hq:l.set i K=q at*
   have hqk:∀ n,n<q.length->Wf h (q.getD n .nil)/\(n≠i->4<=(q.getD n .nil).size)/\(n=i->(q.getD n .nil).size=3):=fun n hn=>by
    rw[<-hq]
    by_cases hni:n=i
    ·subst hni;rw[S7 s1];exact⟨k1,fun h=>absurd rfl h,fun _=>hz3⟩
    ·rw[getD_set_ne (fun h=>hni h.symm)]
     have:=hk _ (Aj (d:=GT.nil) (show n<l.length by omega))
     exact⟨this.1,fun _=>this.2,fun h=>absurd h hni⟩
   generalize hj:i-1=j at*
   have hqs:Srt (q.flatMap (Aa h)):=by rw[hf];exact hrs
   have e4:=split4 q .nil (show j+1<q.length by omega)
   have hfq:q.flatMap (Aa h)=(q.take j).flatMap (Aa h)++(Aa h (q.getD j .nil)++Aa h (q.getD (j+1) .nil))++(q.drop (j+2)).flatMap (Aa h):=by
    conv=>lhs;rw[e4]
    simp only[A0A,A0Y,A0b]
   have hq1:=hqs
   rw[hfq] at hq1
   have hmid:=(A1o.1 (A1o.1 hq1).1).2.1
   have hlb:=congrArg List.length hfq
   rw[hf] at hlb
   simp only[A04] at hlb
   obtain⟨a1,a2,a3⟩:=hqk j (by omega)
   obtain⟨b1,b2,b3⟩:=hqk (j+1) (by omega)
   obtain⟨X,Y,x1,x2,x3,x4⟩:=mends h (q.getD j .nil) (q.getD (j+1) .nil) a1 b1 hmid (by rw[A04];omega) (by
    by_cases hij:i=j
    ·exact .inl ⟨a3 hij.symm,b2 (by omega)⟩
    ·exact .inr ⟨b3 (by omega),a2 (fun h=>hij h.symm)⟩)
   obtain⟨c1,c2⟩:=x4 q i j hj.symm (by omega) (by omega) (by omega) rfl rfl
   have hmemT:∀ x ∈ q.take j,Wf h x/\4<=x.size:=fun x hx=>by
    obtain⟨n,n1,n2,rfl⟩:=HT (d:=GT.nil) hx
    have:=hqk n n2
    exact⟨this.1,this.2.1 (by omega)⟩
   have hmemD:∀ x ∈ q.drop (j+2),Wf h x/\4<=x.size:=fun x hx=>by
    obtain⟨n,n1,n2,rfl⟩:=HU (d:=GT.nil) hx
    have:=hqk n n2
    exact⟨this.1,this.2.1 (by omega)⟩
   rcases x3 with⟨rfl,x5⟩|⟨y1,y2,x5⟩
   ·
    have hcut:=cut_set q X (show j+1<q.length by omega)
    have hf2:(q.take j++X::q.drop (j+2)).flatMap (Aa h)=Cm k (l.flatMap (Aa h)):=by
     rw[A0A,A0Y,x5,<-hf,hfq]
     simp only[A0b]
    have hkl:∀ x ∈ q.take j++X::q.drop (j+2),Wf h x/\4<=x.size:=fun x hx=>by
     simp only[A1t,A0s] at hx
     rcases hx with hx|rfl|hx
     ·exact hmemT x hx
     ·exact⟨x1,x2⟩
     ·exact hmemD x hx
    have hl2:(q.take j++X::q.drop (j+2)).length=l.length-1:=by simp;omega
    have hm:=c1 rfl
    rw[hcut] at hm
    generalize q.take j++X::q.drop (j+2)=z at*
    have hok:OkK z:=EO (by omega) (by omega) (fun x hx=>(hkl x hx).1) (by rw[hf2];exact hrs) (by rw[hf2];omega)
    have hcall:=c_wo4 (AH l) k K hht (by rw[hkids];omega) h8 s2 (by rw[hkids,hi];exact s1) (by rw[hkids,hi];exact q2) k1.d.nn (by omega) z (by omega) hok (by
     rw[hkids,hi,hq]
     have e5:q.length=l.length:=hlen
     rw[e5,<-hl2] at hm
     exact hm)
    refine⟨_,hcall,?_⟩
    by_cases hz2:2<=z.length
    ·obtain⟨w1,w2,w3⟩:=Du (l:=z) (h:=h) hz2 (by omega) hkl (by rw[hf2];exact hrs)
     exact .inl ⟨w1,by rw[w2,hf2,hfl],by rw[w3,DS];omega⟩
    ·have hz1:z.length=1:=by omega
     match z,hz1,hkl,hf2 with
     |[x],_,hkl,hf2=>
      refine .inr ⟨by rw[DS];simp at hl2;omega,(hkl x (by simp)).1,?_⟩
      rw[hfl,<-hf2]
      simp[Dv]
   ·
    have hss:=set_set q X Y (show j+1<q.length by omega)
    have hf2:(q.take j++X::Y::q.drop (j+2)).flatMap (Aa h)=Cm k (l.flatMap (Aa h)):=by
     rw[A0A,A0Y,A0Y,<-hf,hfq,<-x5]
     simp only[A0b]
    have hkl:∀ x ∈ q.take j++X::Y::q.drop (j+2),Wf h x/\4<=x.size:=fun x hx=>by
     simp only[A1t,A0s] at hx
     rcases hx with hx|rfl|rfl|hx
     ·exact hmemT x hx
     ·exact⟨x1,x2⟩
     ·exact⟨y1,y2⟩
     ·exact hmemD x hx
    have hl2:(q.take j++X::Y::q.drop (j+2)).length=l.length:=by simp;omega
    have hm:=c2 y1.d.nn
    rw[hss] at hm
    generalize q.take j++X::Y::q.drop (j+2)=z at*
    have hok:OkK z:=EO (by omega) (by omega) (fun x hx=>(hkl x hx).1) (by rw[hf2];exact hrs) (by rw[hf2];omega)
    have hcall:=c_wo4 (AH l) k K hht (by rw[hkids];omega) h8 s2 (by rw[hkids,hi];exact s1) (by rw[hkids,hi];exact q2) k1.d.nn (by omega) z (by omega) hok (by
     rw[hkids,hi,hq]
     have e5:q.length=l.length:=hlen
     have e6:q.length=z.length:=by omega
     rw[e5,hl2.symm] at hm
     rw[<-hl2]
     exact hm)
    obtain⟨w1,w2,w3⟩:=Du (l:=z) (h:=h) (by omega) (by omega) hkl (by rw[hf2];exact hrs)
    exact⟨_,hcall,.inl ⟨w1,by rw[w2,hf2,hfl],by rw[w3,DS];omega⟩⟩
end Go.Ab
