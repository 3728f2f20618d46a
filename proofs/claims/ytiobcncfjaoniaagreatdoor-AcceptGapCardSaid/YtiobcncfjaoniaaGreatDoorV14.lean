/- The layer by which the program is walked, and what its functions do: part 15 of 15. -/
import Derived.Test.YtiobcncfjaoniaaGreatDoorV13
set_option maxHeartbeats 4000000
set_option maxRecDepth 20000
set_option linter.unusedVariables false
set_option linter.unusedSimpArgs false
set_option linter.unnecessarySimpa false
set_option linter.unusedSectionVars false
namespace Go.Ab
open Go.Proofs Go.Proofs.Tryz
theorem c_need1(k l:ByteArray)(n m:Int)(t:Bool):A0 prog 209 [.slice [nf k n,nf l m] t,.val (.string k)] (.tup [.val (.int .i64 n),.val (.bool true)]):=by
 refine Zf [] func209 rfl ntmps209 results209 ?_
 ((try push_cast)<;>repeat' (first|apply Zi<;>intro _|exact Zp|with_reducible apply Za)<;>try push_cast)
 refine Zl (fun _=>True) (fun _=>⟨[(11,.val (.int .i64 0)),(10,.val (.int .i64 2)),(9,.slice [nf k n,nf l m] t),(1,.val (.string k))],[],400⟩) (fun _=>0) 0 trivial ?_ fun _ _=>?_
 ·apply Zw<;>push_cast
  all_goals first|rfl|trace_state
 ·((try push_cast)<;>repeat' (first|apply Zi<;>intro _|exact Zp|with_reducible apply Za)<;>try push_cast)
  all_goals first|omega|skip
  all_goals trace_state
theorem c_need2(k l:ByteArray)(n m:Int)(t:Bool)(h:decide (k=l)=false):A0 prog 209 [.slice [nf k n,nf l m] t,.val (.string l)] (.tup [.val (.int .i64 m),.val (.bool true)]):=by
 have w1:IntKind.i64.wrap 1=1:=by decide
 refine Zf [] func209 rfl ntmps209 results209 ?_
 ((try push_cast)<;>repeat' (first|apply Zi<;>intro _|exact Zp|with_reducible apply Za)<;>try push_cast)
 refine Zl (fun i=>i<=1) (fun i=>⟨[(11,.val (.int .i64 i)),(10,.val (.int .i64 2)),(9,.slice [nf k n,nf l m] t),(1,.val (.string l))],[],400⟩) (fun i=>1-i) 0 (by simp) ?_ fun i hi=>?_
 ·apply Zw<;>push_cast
  all_goals first|rfl|trace_state
 ·obtain rfl|rfl:i=0∨i=1:=by omega
  ·(have z:=Za h w1;(try push_cast[z])<;>repeat' (first|apply Zi<;>intro _|exact Zo|with_reducible apply Za)<;>try push_cast[z])
   all_goals first|omega|skip
   refine⟨1,by decide,by decide,?_⟩
   apply Zw<;>push_cast [w1]
   all_goals first|rfl|trace_state
  ·(have z:=Za h w1;(try push_cast[z])<;>repeat' (first|apply Zi<;>intro _|exact Zo|with_reducible apply Za)<;>try push_cast[z])
   all_goals first|omega|skip
theorem Xd(a b:ByteArray×GV)(hab:decide (a.1=b.1)=false)(hb:Sm b.2):A0 prog 141 [.slice [A6 a,A6 b] false,.val (.string b.1)] (.tup [.agg (A4 b.2),.val (.bool true)]):=by
 have hF:=Q9 a b hab
 have hC:=K9 b.2 hb
 have o1:=Aj a
 have o2:=Aj b
 obtain⟨x1,x2,x3,x4⟩:=An b.2
 generalize A6 a=A at*
 generalize A6 b=B at*
 generalize A4 b.2=V at*
 refine Zf [] func141 rfl ntmps141 results141 ?_
 (have z:=Za o1<|Za o2<|Za x1<|Za x2<|Za x3 x4;(try push_cast[z])<;>repeat' (first|apply Zi<;>intro _|refine Zc hF ?_|refine Zc hC ?_|exact Zo|with_reducible apply Za)<;>try push_cast[z])
theorem HV(a b:ByteArray×GV)(t:Bool)(hab:decide (a.1=b.1)=false):A0 prog 147 [.agg (A4 (vO [a,b])),.slice [nf a.1 0,nf b.1 0] t] (.slice [A6 a,A6 b] false):=by
 have hm:=DP 9
 have hm2:=DP 10
 have n1:=c_need1 a.1 b.1 0 0 t
 have n2:=c_need2 a.1 b.1 0 0 t hab
 have f1:=KW a b
 have f2:=Q9 a b hab
 rw[M1]
 simp only[A0j,A0G]
 rw[Ah,Ah] at*
 obtain⟨x1,x2,x3,x4⟩:=An a.2
 obtain⟨y1,y2,y3,y4⟩:=An b.2
 generalize A4 a.2=V at*
 generalize A4 b.2=U at*
 have w1:IntKind.i64.wrap 1=1:=by decide
 have w2:IntKind.i64.wrap 2=2:=by decide
 refine Zf [] func147 rfl ntmps147 results147 ?_
 (have z:=Za x1 y1;(try push_cast[z])<;>repeat' (first|apply Zi<;>intro _|refine Zc (hm ..) ?_|exact Zo|with_reducible apply Za)<;>try push_cast[z])
 all_goals first|omega|skip
 refine Zl (fun i=>i<=2) (fun i=>match i with
  |0=>⟨[(21,.val (.int .i64 0)),(20,.val (.int .i64 2)),(19,.slice [.val (.string a.1)::V,.val (.string b.1)::U] false),(1,.slice [nf a.1 0,nf b.1 0] t),(5,.slice [] true)],[],400⟩
  |1=>⟨[(21,.val (.int .i64 1)),(20,.val (.int .i64 2)),(19,.slice [.val (.string a.1)::V,.val (.string b.1)::U] false),(1,.slice [nf a.1 0,nf b.1 0] t),(5,.gref 48 1)],[(48,.grow [.val (.string a.1)::V] 7)],400⟩
  |_=>⟨[(21,.val (.int .i64 2)),(20,.val (.int .i64 2)),(19,.slice [.val (.string a.1)::V,.val (.string b.1)::U] false),(1,.slice [nf a.1 0,nf b.1 0] t),(5,.slice [.val (.string a.1)::V,.val (.string b.1)::U] false)],[],400⟩) (fun i=>2-i) 0 (by simp) ?_ fun i hi=>?_
 ·apply Zw<;>push_cast [x1,y1]
  all_goals first|rfl|trace_state
 ·obtain rfl|rfl|rfl:i=0∨i=1∨i=2:=by omega
  ·simp only
   (have z:=Za x1<|Za x2<|Za x3<|Za x4<|Za y1<|Za y2<|Za y3<|Za y4<|Za w1 w2;(try push_cast[z])<;>repeat' (first|apply Zi<;>intro _|refine Zc (n1 ..) ?_|refine Zc (hm2 ..) ?_|exact Zo|with_reducible apply Za)<;>try push_cast[z])
   all_goals first|omega|(simp[x2];done)|skip
   refine⟨1,by decide,by decide,?_⟩
   simp only
   apply Zr [(48,984)] rfl<;>push_cast [x1,x2,x3,x4,y1]
   all_goals first|rfl|trace_state
  ·simp only
   (have z:=Za x1<|Za x2<|Za x3<|Za x4<|Za y1<|Za y2<|Za y3<|Za y4<|Za w1 w2;(try push_cast[z])<;>repeat' (first|apply Zi<;>intro _|refine Zc (n2 ..) ?_|refine Zc (hm2 ..) ?_|exact Zo|with_reducible apply Za)<;>try push_cast[z])
   all_goals first|omega|(simp[y2];done)|skip
   ·intro z hz d hd
    cases A0a.1 hz
    rcases A0q.1 hd with rfl|hd
    ·rfl
    ·exact A0w.1 y3 d hd
   ·refine⟨2,by decide,by decide,?_⟩
    simp only
    refine Aw.trans (Aw.fzB (b:=984) (x:=.grow ([.val (.string a.1)::V]++[.val (.string b.1)::U]) 7) rfl) ?_
    push_cast[x1,x2,x3,y1,y2,y3]
    apply Zw<;>push_cast [x1,x2,x3,y1,y2,y3]
    all_goals first|rfl|trace_state
  ·simp only
   (have z:=Za x1<|Za x2<|Za x3<|Za x4<|Za y1<|Za y2<|Za y3<|Za y4<|Za w1 w2;(try push_cast[z])<;>repeat' (first|apply Zi<;>intro _|exact Zo|with_reducible apply Za)<;>try push_cast[z])
   all_goals first|omega|skip
   refine Zl (fun i=>i<=2) (fun i=>⟨[(45,.val (.int .i64 i)),(44,.val (.int .i64 2)),(43,.slice [nf a.1 0,nf b.1 0] t),(5,.slice [.val (.string a.1)::V,.val (.string b.1)::U] false)],[],600⟩) (fun i=>2-i) 0 (by simp) ?_ fun i hi=>?_
   ·apply Zw<;>push_cast [x1,y1]
    all_goals first|rfl|trace_state
   ·obtain rfl|rfl|rfl:i=0∨i=1∨i=2:=by omega
    ·(have z:=Za x1<|Za x2<|Za x3<|Za x4<|Za y1<|Za y2<|Za y3<|Za y4<|Za w1 w2;(try push_cast[z])<;>repeat' (first|apply Zi<;>intro _|refine Zc (f1 ..) ?_|refine Zc (hm2 ..) ?_|exact Zo|with_reducible apply Za)<;>try push_cast[z])
     all_goals first|omega|skip
     refine⟨1,by decide,by decide,?_⟩
     apply Zw<;>push_cast [x1,y1,w1,w2]
     all_goals first|rfl|trace_state
    ·(have z:=Za x1<|Za x2<|Za x3<|Za x4<|Za y1<|Za y2<|Za y3<|Za y4<|Za w1 w2;(try push_cast[z])<;>repeat' (first|apply Zi<;>intro _|refine Zc (f2 ..) ?_|refine Zc (hm2 ..) ?_|exact Zo|with_reducible apply Za)<;>try push_cast[z])
     all_goals first|omega|skip
     refine⟨2,by decide,by decide,?_⟩
     apply Zw<;>push_cast [x1,y1,w1,w2]
     all_goals first|rfl|trace_state
    ·(have z:=Za x1<|Za x2<|Za x3<|Za x4<|Za y1<|Za y2<|Za y3<|Za y4<|Za w1 w2;(try push_cast[z])<;>repeat' (first|apply Zi<;>intro _|exact Zo|with_reducible apply Za)<;>try push_cast[z])
     all_goals first|omega|skip
     all_goals trace_state
theorem KR(k:Int)(a:ByteArray)(n:Int)(v:GV):Ap (GM.mk k a ByteArray.empty n false zV false v [])=[.val (.int .i64 k),.val (.string a),.val (.string ByteArray.empty),.val (.int .i64 n),.val (.bool false),.val (.int .i64 0),.val (.bool false),.val (.int .i64 0),.val (.string ByteArray.empty),.slice [] false,.slice [] false,.val (.bool false)]++A4 v++[.slice [] false]:=by
 rw[AY];rfl
theorem Xa(n:Int):A0 prog 92 [.slice [A6 (tBy,vI n),A6 (Cg,vT tN)] false] (.agg (Ap (GM.mk 0 tN ByteArray.empty n false zV false zV []))):=by
 have hF:=KW (tBy,vI n) (Cg,vT tN)
 have hT:=Sv Cg tN (tBy,vI n) (show decide (tBy=Cg)=false by decide)
 have hm:=DP 9
 simp only[RW] at hF
 have o1:=Aj (tBy,vI n)
 have o2:=Aj (Cg,vT tN)
 rw[KR,enc_Z]
 generalize A6 (tBy,vI n)=A at*
 generalize A6 (Cg,vT tN)=B at*
 refine Zf [] func92 rfl ntmps92 results92 ?_
 (have z:=Za o1 o2;(try push_cast[z])<;>repeat' (first|apply Zi<;>intro _|refine Zc hF ?_|refine Zc (hm ..) ?_|refine Zc hT ?_|exact Zo|with_reducible apply Za)<;>try push_cast[z])
 all_goals trace_state
theorem X9:A0 prog 140 [.slice [A6 (Cg,vT tK),A6 (Cr,Bn)] false] (.agg (Ap (GM.mk 0 tK ByteArray.empty 0 false zV false Bn []))):=by
 have hC:=Xd (Cg,vT tK) (Cr,Bn) (by decide) (.mk _ _ _ _ _ _ (by decide) (by decide) (fun _ h=>by cases h) (fun _ h=>by cases h) (by decide) (by decide) (fun _ h=>by cases h))
 have hT:=c_mtext1 Cg tK (Cr,Bn)
 have o1:=Aj (Cg,vT tK)
 have o2:=Aj (Cr,Bn)
 simp only[RV] at hC
 rw[KR,RV]
 generalize A6 (Cg,vT tK)=A at*
 generalize A6 (Cr,Bn)=B at*
 refine Zf [] func140 rfl ntmps140 results140 ?_
 (have z:=Za o1 o2;(try push_cast[z])<;>repeat' (first|apply Zi<;>intro _|refine Zc hT ?_|refine Zc hC ?_|exact Zo|with_reducible apply Za)<;>try push_cast[z])
 all_goals trace_state
theorem c_mread(m:SMu):A2 prog 100 [.mref 1,.agg (A4 m.o)] [(1,.map shE 7)] (.agg (Ap m.m)) [(1,.map shE 7)]:=by
 have hn:=LE
 have hm:=DP 12
 have ho:∀ v:GV,A4 (vO [(E8,v),(E7,vT m.name)])=A4 (vO [(E8,v),(E7,vT m.name)]):=fun _=>rfl
 have h1:=HV (E8,m.args) (E7,vT m.name) false (show decide (E8=E7)=false by decide)
 have f1:=KW (E8,m.args) (E7,vT m.name)
 have t1:=Sv E7 m.name (E8,m.args) (show decide (E8=E7)=false by decide)
 change A0 _ _ [.agg (A4 m.o),_] _ at h1
 obtain⟨x1,x2,x3,x4⟩:=An m.o
 obtain⟨y1,y2,y3,y4⟩:=An m.args
 have o1:=Aj (E8,m.args)
 have o2:=Aj (E7,vT m.name)
 generalize A4 m.o=V at*
 generalize A6 (E8,m.args)=A at*
 generalize A6 (E7,vT m.name)=B at*
 cases m with
 |inc n=>
  have h2:=HV (tBy,vI n) (Cg,vT tN) true (show decide (tBy=Cg)=false by decide)
  change A0 _ _ [.agg (A4 (SMu.inc n).args),_] _ at h2
  have h3:=Xa n
  rw[KR,enc_Z] at h3
  rw[M6]
  have p1:=Aj (tBy,vI n)
  have p2:=Aj (Cg,vT tN)
  generalize A4 (SMu.inc n).args=W at*
  generalize A6 (tBy,vI n)=CC at*
  generalize A6 (Cg,vT tN)=DD at*
  change A0 _ _ _ (.val (.string Gd)) at t1
  unfold shE
  refine Zd [] func100 rfl ntmps100 results100 ?_
  (have z:=Za hn<|Za x1<|Za x2<|Za x3<|Za x4<|Za y1<|Za y2<|Za y3<|Za y4<|Za o1<|Za o2<|Za p1 p2;(try push_cast[z])<;>repeat' (first|apply Zi<;>intro _|refine Zg h1 ?_ ?_|refine Zc (f1 ..) ?_|refine Zc (t1 ..) ?_|refine Zc (hm ..) ?_|refine Zc h2 ?_|refine Zv h3 ?_|exact Zo|with_reducible apply Za)<;>try push_cast[z])
  apply Zw<;>push_cast
 |put=>
  have h2:=HV (Cg,vT tK) (Cr,Bn) false (show decide (Cg=Cr)=false by decide)
  change A0 _ _ [.agg (A4 SMu.put.args),_] _ at h2
  have h3:=X9
  rw[KR,RV] at h3
  rw[M5]
  have p1:=Aj (Cg,vT tK)
  have p2:=Aj (Cr,Bn)
  generalize A4 SMu.put.args=W at*
  generalize A6 (Cg,vT tK)=CC at*
  generalize A6 (Cr,Bn)=DD at*
  change A0 _ _ _ (.val (.string Gb)) at t1
  unfold shE
  refine Zd [] func100 rfl ntmps100 results100 ?_
  (have z:=Za hn<|Za x1<|Za x2<|Za x3<|Za x4<|Za y1<|Za y2<|Za y3<|Za y4<|Za o1<|Za o2<|Za p1 p2;(try push_cast[z])<;>repeat' (first|apply Zi<;>intro _|refine Zg h1 ?_ ?_|refine Zc (f1 ..) ?_|refine Zc (t1 ..) ?_|refine Zc (hm ..) ?_|refine Zc h2 ?_|refine Zv h3 ?_|exact Zo|with_reducible apply Za)<;>try push_cast[z])
  apply Zw<;>push_cast
theorem c_Of1(m:SMu)(Z:List D)(z1:Af Z=true)(z2:Z.drop 19=[]):A2 prog 233 [.ptr (A4 m.o) 0,.ref 1 0 0 19] [(1,.rows [Z] 19)] (.tup []) [(1,.rows [Ap m.m] 19)]:=by
 have hS:=So
 have hR:=c_mread m
 obtain⟨x1,x2,x3,x4⟩:=An m.o
 obtain⟨y1,y2,y3,y4⟩:=H7 m.m
 generalize A4 m.o=V at*
 generalize Ap m.m=U at*
 unfold shE at*
 refine Zd [] func233 rfl ntmps233 results233 ?_
 (have z:=Za x1<|Za x2<|Za x3<|Za x4<|Za y1<|Za y2<|Za y3<|Za y4<|Za z1 z2;(try push_cast[z])<;>repeat' (first|apply Zi<;>intro _|refine Zs [] hS ?_|refine Zs [(1,8)] hR ?_|exact Zo|with_reducible apply Za)<;>try push_cast[z])
 apply Zw<;>push_cast [x1,y1,y2,z1,z2,A0R]
theorem Uj(V Z U:List D)(v1:Af V=true)(z1:Af Z=true)(u1:Af U=true)(h:A2 prog 233 [.ptr V 0,.ref 1 0 0 19] [(1,.rows [Z] 19)] (.tup []) [(1,.rows [U] 19)]):
  A2 prog 43 [.func (.func 233) [] [.ptr V 0,.ref 1 0 0 19]] [(1,.rows [Z] 19)] (.val (.int .i64 0)) [(1,.rows [U] 19)]:=by
 refine A2.of_awp_catch [_] func43 rfl ntmps43 (by kernel_rfl) (by simp) (by decide) (congrArg Array.toList results43) (BG [(3,8),(1,1)]) [.ref 3 0 0 1] [(2,.ref 3 0 0 1),(0,.func (.func 233) [] [.ptr V 0,.ref 1 0 0 19])] [(3,.rows [[.val (.int .i64 0)]] 1),(1,.rows [Z] 19)] (.val (.int .i64 0)) [(3,.rows [[.val (.int .i64 0)]] 1),(1,.rows [U] 19)] ?_
 refine Zy ?_
 (have z:=Za v1<|Za z1 u1;(try push_cast[z])<;>repeat' (first|apply Zi<;>intro _|exact Zo|with_reducible apply Za)<;>try push_cast[z])
 refine(show Pa _ _ _ _ _ _ _ _ _ _ _ _ _ _ _ _ _ from⟨?_,?_,?_,?_,?_,?_,?_,?_,?_,?_⟩)
 ·push_cast[v1]
 ·push_cast[v1]
 ·push_cast[v1]
 ·push_cast[v1,C3]
 ·push_cast[v1,z1]
 ·push_cast[v1,z1,B3]
 ·push_cast[v1,z1,u1]
 ·push_cast[v1,z1,u1]
 ·refine Zy ?_
  (have z:=Za v1<|Za z1 u1;(try push_cast[z])<;>repeat' (first|apply Zi<;>intro _|refine Zt [(1,1)] h ?_|exact Zo|with_reducible apply Za)<;>try push_cast[z])
  refine(show P9 _ _ _ _ _ _ _ _ from⟨BG [],[.ref 3 0 0 1],_,_,Yj,?_,?_,?_,?_,?_,.val (.int .i64 0),?_,?_⟩)
  ·push_cast[v1]
  ·push_cast[v1]
  ·push_cast[v1,u1,B3]
  ·push_cast[v1,u1]
  ·push_cast[v1,u1]
  ·push_cast[v1,u1]
  ·push_cast[v1,u1]
   apply Zw<;>push_cast [v1,u1]
 ·push_cast[v1,u1]
  apply Zw<;>push_cast [v1,u1]
theorem of_ok:XA:=fun m hm=>by
 have hM:=U9 m.o (sm_o m hm)
 rw[may_o m 1 (by omega)] at hM
 have hY:=TA m hm
 have hC:=Uj (A4 m.o) _ (Ap m.m) (BO _) (Au _) (Au _) (c_Of1 m (Ap (GM.mk 0 ByteArray.empty ByteArray.empty 0 false zV false zV [])) (Au _) (A0m (by rw[Bp];exact A08 _)))
 rw[KS] at hC
 obtain⟨x1,x2,x3,x4⟩:=An m.o
 obtain⟨y1,y2,y3,y4⟩:=H7 m.m
 have y5:(Ap m.m).drop 19=[]:=A0m (by omega)
 generalize A4 m.o=V at*
 generalize Ap m.m=U at*
 refine Zf [0] func188 rfl ntmps188 results188 ?_
 (have z:=Za x1<|Za x2<|Za x3<|Za x4<|Za y1<|Za y2<|Za y3<|Za y4 y5;(try push_cast[z])<;>repeat' (first|apply Zi<;>intro _|refine Zc hM ?_|refine Zs [(1,64)] hC ?_|refine Zc hY ?_|exact Zo|with_reducible apply Za)<;>try push_cast[z])
end Go.Ab
namespace Go.Ab
open Go.RowKit
variable{n:Nat}{P:Program}
def TellsL(n:Nat)(P:Program)(g:Nat)(lb:Array Value)(enc:Nat->Array Value)(m:Nat)(Kw:World->Prop):Prop:=
 ∀(l:Nat) (J:Nat->World->Prop) (Jx:World->Prop),(∀ s W,J s W->Kw W)->(∀ s W W',J s W->Below W.heap.size W W'->J s W')->
  (∀ s W,J s W->s<m->YieldAt Fence.wide (n-1) P l (enc s) W fun e W'=>e=.returned (.bool true)/\J (s+1) W')->
  (∀ W,J m W->YieldAt Fence.wide (n-1) P l (enc m) W fun e W'=>e=.returned (.bool false)/\Jx W')->
  ∀ W,J 0 W->CallsIn Fence.wide n P g (#[.func (.yield l) #[] #[]]++lb) W fun e W'=>(∃ v,e=.returned v)/\Jx W'
theorem Vs{g:Operand}{ps:Array Tmp}{assign body:Code}{Q:Exit->Act->World->Prop}{a:Act}{w:World}
  {gf:Nat} {lb:Array Value} (hg:a.eval g=.func (.func gf) #[] lb) (eg:∀ args w,(callFunc gf args).run P w=.ok (.enter gf args) w)
  {enc:Nat->Array Value} {m:Nat} {Kw:World->Prop} (hseq:TellsL (n-1) P gf lb enc m Kw) (hps:∀ s,(enc s).size=ps.size)
  (I:Nat->World->Prop) (Ix:World->Prop) (hK:∀ s W,I s W->Kw W) (hIb:∀ s W W',I s W->Below W.heap.size W W'->I s W') (hIp:∀ s W l r o,w.heap.size<=l->W.heap[l]? =some (.loop r)->I s W->I s (W.putObj l o))
  (hXp:∀ W l r o,w.heap.size<=l->W.heap[l]? =some (.loop r)->Ix W->Ix (W.putObj l o)) (h0:I 0 w) (a₁:Nat->Act)
  (hassign:∀ (l:Nat) (s:Nat) (W:World) (K:Act->World->Prop),K (a₁ s) W->
   assign.wpIn (Fence.wide.inRound l) (n-1-1) P (Exit.then K (fun _ _ _=>False)) {tmps:=(ps.zip (enc s)).foldl (fun t (p,v)=>t.setIfInBounds p v) a.tmps,defers:=[]} W)
  (hbody:∀ (l:Nat) (s:Nat) (W:World),I s W->s<m->body.wpIn (Fence.wide.inRound l) (n-1-1) P (fun e _ W'=>e=.normal/\KeepsOthers W W'/\I (s+1) W') (a₁ s) W)
  (hlast:∀ (l:Nat) (W:World),I m W->body.wpIn (Fence.wide.inRound l) (n-1-1) P (fun e _ W'=>e=.ret/\KeepsOthers W W'/\Ix W') (a₁ m) W)
  (hdone:∀ (D:Nat) (W:World),w.heap.size<=D->Ix W->W.heap[D]? =some (.deferred (some []))->Q .ret {a with defers:= {target:=.collected D,args:=#[]}::a.defers} W):
  (Code.rangeFunc g ps assign body).wpIn Fence.wide n P Q a w:=by
 refine wpIn_rangeFunc ?_
 intro fn hfn
 obtain⟨rec,hrec⟩:∃ rec:LoopState->Option Code->Loop,rec=fun st pe=> {state:=st,pending:=pe,fn,tmps:=a.tmps,params:=ps,assign,body,defers:=w.heap.size}:=⟨_,rfl⟩
 obtain⟨W1,hW1⟩:∃ W1,(w.alloc (.deferred (some []))).alloc (.loop (rec .ready none))=W1:=⟨_,rfl⟩
 have hL1:W1.heap[w.heap.size+1]? =some (.loop (rec .ready none)):=by
  rw[<-hW1];have:=World.alloc_heap_new (w.alloc (.deferred (some []))) (.loop (rec .ready none));rwa[World.size_alloc] at this
 have hK1:W1.heap[w.heap.size]? =some (.deferred (some [])):=by
  rw[<-hW1];exact(Below.heap_alloc _ _ _ (by simp)).trans (World.alloc_heap_new w _)
 have hI1:I 0 W1:=by rw[<-hW1];exact hIb _ _ _ (hIb _ _ _ h0 ((Below.refl _ w).alloc (A08 _) _)) ((Below.refl _ _).alloc (A08 _) _)
 refine⟨w.heap.size+1,[{target:=.collected w.heap.size,args:=#[]}],W1,{target:=.fn (.func gf) lb,args:=#[.func (.yield (w.heap.size+1)) #[] #[]]},W1,gf,
  #[.func (.yield (w.heap.size+1)) #[] #[]]++lb,W1,?_,?_,?_,?_,fun h=>(by cases h),?_⟩
 ·rw[<-hW1,hrec];exact run_enterLoop_outer _ _ _ _ _
 ·simp only[resolve,hg]
  simp[go_sem]
 ·intro f' _;trivial
 ·simp[invoke,go_sem,eg]
 ·refine(hseq (w.heap.size+1) (fun s W=>I s W/\W.heap[w.heap.size+1]? =some (.loop (rec .ready none))/\W.heap[w.heap.size]? =some (.deferred (some [])))
   (fun W=>Ix W/\W.heap[w.heap.size+1]? =some (.loop (rec .done (some .ret)))/\W.heap[w.heap.size]? =some (.deferred (some [])))
   (fun s W h=>hK s W h.1) (fun s W W' h hb=>⟨hIb _ _ _ h.1 hb,(hb.block _ (A0l.1 h.2.1).1).trans h.2.1,(hb.block _ (A0l.1 h.2.2).1).trans h.2.2⟩) ?_ ?_ W1 ⟨hI1,hL1,hK1⟩).mono ?_
  ·rintro s W ⟨hi,hl,hk⟩ hlive
   have hy:=run_yield (P:=P) (args:=enc s) hl (by rw[hrec];exact hps s)
   rw[hrec] at hy
   refine⟨fn,_,assign,body,hy,roundIn_of_wpIn hfn (hassign _ s W _ ⟨_,run_beginRound hl (by rw[hrec]),?_⟩)⟩
   have hlt:w.heap.size+1<W.heap.size:=(A0l.1 hl).1
   have hl2:(W.putObj (w.heap.size+1) (.loop {rec .ready none with state:=.busy})).heap[w.heap.size+1]? =some (.loop {rec .ready none with state:=.busy}):=World.putObj_heap_same hlt
   have hk2:(W.putObj (w.heap.size+1) (.loop {rec .ready none with state:=.busy})).heap[w.heap.size]? =some (.deferred (some [])):=(World.putObj_heap_other (by omega)).trans hk
   refine wpIn_mono (hbody _ s _ (hIp _ _ _ _ _ (by omega) hl hi) hlive) ?_
   rintro e a3 W3 ⟨rfl,hk3,hi3⟩
   have hl3:=hk3.same _ _ hl2 rfl
   have hr:=run_endRound (P:=P) none hl3
   have hlt3:=(A0l.1 hl3).1
   refine⟨_,_,hr,rfl,hIp _ _ _ _ _ (by omega) hl3 hi3,?_,(World.putObj_heap_other (by omega)).trans (hk3.same _ _ hk2 rfl)⟩
   rw[World.putObj_heap_same hlt3,hrec]
   rfl
  ·rintro W ⟨hi,hl,hk⟩
   have hy:=run_yield (P:=P) (args:=enc m) hl (by rw[hrec];exact hps m)
   rw[hrec] at hy
   refine⟨fn,_,assign,body,hy,roundIn_of_wpIn hfn (hassign _ m W _ ⟨_,run_beginRound hl (by rw[hrec]),?_⟩)⟩
   have hlt:w.heap.size+1<W.heap.size:=(A0l.1 hl).1
   have hl2:(W.putObj (w.heap.size+1) (.loop {rec .ready none with state:=.busy})).heap[w.heap.size+1]? =some (.loop {rec .ready none with state:=.busy}):=World.putObj_heap_same hlt
   have hk2:(W.putObj (w.heap.size+1) (.loop {rec .ready none with state:=.busy})).heap[w.heap.size]? =some (.deferred (some [])):=(World.putObj_heap_other (by omega)).trans hk
   refine wpIn_mono (hlast _ _ (hIp _ _ _ _ _ (by omega) hl hi)) ?_
   rintro e a3 W3 ⟨rfl,hk3,hi3⟩
   have hl3:=hk3.same _ _ hl2 rfl
   have hr:=run_endRound (P:=P) (some .ret) hl3
   have hlt3:=(A0l.1 hl3).1
   refine⟨_,_,hr,rfl,hXp _ _ _ _ (by omega) hl3 hi3,?_,(World.putObj_heap_other (by omega)).trans (hk3.same _ _ hk2 rfl)⟩
   rw[World.putObj_heap_same hlt3,hrec]
   rfl
  ·rintro e W2 ⟨⟨v,rfl⟩,hi,hl,hk⟩
   refine⟨some .ret,_,by have:=run_endLoop (P:=P) hl (by rw[hrec];simp);rw[hrec] at this;exact this,wpIn_ret (hdone _ _ (A08 _) (hXp _ _ _ _ (by omega) hl hi) ((World.putObj_heap_other (by omega)).trans hk))⟩
end Go.Ab
namespace Go.Proofs
open Go.Ab Go.Proofs Go.Proofs.Tryz Go.RowKit Go.Shelf
attribute [local go_sem] Oper.semAt_some
theorem PZ(b:UInt8)(t:List UInt8)(h:b.toNat<128):Lib.decodeL (b::t)=(b.toNat,1):=by
 have e:(ByteArray.get! ⟨(b::t).toArray⟩ (0+0))=b:=rfl
 unfold Lib.decodeL Utf8.decode
 simp only[e]
 rw[if_pos (by omega)]
def asc(s:ByteArray)(m:Nat):Prop:=∀ p,p<=m->∃ (c:UInt8) (r:List UInt8),s.data.toList.drop p=c::r/\c.toNat<128
theorem Uo{s:ByteArray}{m:Nat}(h:asc s m){p:Nat}(hp:p<=m):p<s.size:=by
 obtain⟨c,r,h1,_⟩:=h p hp
 have:=congrArg List.length h1
 rw[A0s] at this
 have hl:s.data.toList.length=s.size:=rfl
 simp at this
 omega
theorem Un{s:ByteArray}{m:Nat}(h:asc s m){p:Nat}(hp:p<=m):∃ c:Nat,rnA s p=(c,1)/\c<128:=by
 obtain⟨c,r,h1,h2⟩:=h p hp
 refine⟨c.toNat,?_,h2⟩
 unfold rnA
 rw[h1]
 exact PZ c r h2
set_option maxRecDepth 100000 in
set_option maxHeartbeats 1000000 in
theorem c_runesL(n:Nat)(s:ByteArray)(hs:s.size<=1048576)(m:Nat)(hm:asc s m)(bx:Nat)(w0:World)(hT:∀ W,Below w0.heap.size w0 W->Lib.Utf8Tabs (Tryz.sDecode_ren.g 3) (Tryz.sDecode_ren.g 4) W):
  TellsL n prog 221 #[.pointer (some ⟨bx,0,none⟩)] (Lk s) m (fun W=>Below w0.heap.size w0 W/\W.cell? ⟨bx,0,none⟩=some (.string s)):=by
 intro l J Jx hK hJb hY hX W h0
 refine callsIn_of_wp func221 rfl trivial ?_
 simp only[ntmps221,A0y,A0g,A0v,Nat.reduceAdd,Nat.reduceSub,A1q,A1r,A1C,A1b,A0h,A0d]
 gi_wp2
 gi_loopw [3] (fun p wr=>∃ q:Nat,p=.int .i64 q/\q<=m/\J q wr) (fun p wr=>s.size-(intOf p).toNat)
 case atStart=>exact ⟨0,rfl,A0J _,h0⟩
 case round=>
  obtain⟨q,rfl,hqm,hJ⟩:=hrel
  obtain⟨k1,k2⟩:=hK _ _ hJ
  have hq:=Uo hm hqm
  obtain⟨c,hc,hc2⟩:=Un hm hqm
  have hsl:=Rb s q hq
  have hD:=Any.utf8_DecodeRuneInString Tryz.sDecode (s.extract q s.size) wr (hT wr k1)
  rw[hsl,hc] at hD
  have hY2:=hY q
  unfold Lk at hY2
  rw[hc] at hY2
  have hcr:¬((c:Int)=65533):=by omega
  gi_wp2
  refine⟨trivial,fun h=>(by cases h),(callsIn_wide.2 hD).mono ?_⟩
  rintro e w2 ⟨rfl,hb⟩
  rcases A0O q m with hlt|hge
  ·obtain⟨fn,tmps,assign,body,hy,hR⟩:=hY2 w2 (hJb q wr w2 hJ hb) hlt
   gi_wp2
   refine⟨fun h=>(by cases h),hR.mono ?_⟩
   rintro e w3 ⟨rfl,hJ3⟩
   gi_wp2
   go_roundw
   case rel=>exact ⟨q+1,by simp,hlt,hJ3⟩
   case measure=>simp only[intOf];omega
  ·obtain rfl:q=m:=by omega
   have hX2:=hX w2 (hJb q wr w2 hJ hb)
   unfold Lk at hX2
   rw[hc] at hX2
   obtain⟨fn,tmps,assign,body,hy,hR⟩:=hX2
   gi_wp2
   refine⟨fun h=>(by cases h),hR.mono ?_⟩
   rintro e w3 ⟨rfl,hJ3⟩
   gi_wp2
   refine bodyPost_ret (results_none rfl _ _ _) rfl ?_
   exact⟨⟨_,rfl⟩,hJ3⟩
set_option maxHeartbeats 1000000 in
theorem X5(n:Nat)(r:Nat)(hr:r<128)(w:World):
  CallsIn Fence.wide n prog 357 #[.int .i32 r] w fun e w'=>e=.returned (.int .i64 1)/\w'=w:=by
 refine callsIn_of_wp func357 rfl trivial ?_
 simp only[ntmps357,A0y,A0g,A0v,Nat.reduceAdd,Nat.reduceSub,A1q,A1r,A1C,A1b,A0h,A0d]
 gi_wp2
 go_ret
 exact⟨rfl,rfl⟩
def Ph(r:Nat):Prop:=32<=r/\r≠34/\r≠92
structure PlI(s:ByteArray)(w0:World)(b2 b3 bx:Nat)(p:Nat)(W:World):Prop where
 below:Below w0.heap.size w0 W
 c2:W.heap[b2]? =some (.cells #[.int .i64 0] 3 (0,0))
 c3:W.heap[b3]? =some (.cells #[.int .i64 p] 3 (0,0))
 cx:W.heap[bx]? =some (.cells #[.string s] 9 (0,0))
structure PlX(w0:World)(b2 m:Nat)(W:World):Prop where
 below:Below w0.heap.size w0 W
 c2:W.heap[b2]? =some (.cells #[.int .i64 m] 3 (0,0))
theorem PlI.keepL{s:ByteArray}{w0:World}{b2 b3 bx p:Nat}{W W':World}(h:PlI s w0 b2 b3 bx p W)(hk:CI W W')(hb:Below w0.heap.size w0 W'):PlI s w0 b2 b3 bx p W':=⟨hb,BV hk h.c2,BV hk h.c3,BV hk h.cx⟩
theorem PlX.keepL{w0:World}{b2 m:Nat}{W W':World}(h:PlX w0 b2 m W)(hk:CI W W')(hb:Below w0.heap.size w0 W'):PlX w0 b2 m W':=⟨hb,BV hk h.c2⟩
theorem J1(W:World)(b k:Nat)(v:Value)(h:k≠b):(W.setCell ⟨b,0,none⟩ v).heap[k]? =W.heap[k]?:=Below.heap_setCell _ _ _ _ h
theorem J0{W:World}{b:Nat}{u v:Value}{T:TypeId}(h:W.heap[b]? =some (.cells #[u] T (0,0))):(W.setCell ⟨b,0,none⟩ v).heap[b]? =some (.cells #[v] T (0,0)):=by
 simp[World.setCell,Array.getElem?_modify,h]
set_option maxRecDepth 100000 in
set_option maxHeartbeats 4000000 in
theorem w_plain(n:Nat)(s:ByteArray)(hs:s.size<=1048576)(m:Nat)(hm:asc s m)(hp:∀ p,p<m->Ph (rnA s p).1)(hq:¬Ph (rnA s m).1)(w0:World)(hT:∀ W,Below w0.heap.size w0 W->Lib.Utf8Tabs (Tryz.sDecode_ren.g 3) (Tryz.sDecode_ren.g 4) W):
  CallsIn Fence.wide n prog 334 #[.string s] w0 fun e w'=>e=.returned (.int .i64 m)/\Below w0.heap.size w0 w':=by
 refine callsIn_of_wp_marks func334 rfl trivial ?_
 simp only[ntmps334,A0y,A0g,A0v,Nat.reduceAdd,Nat.reduceSub,A1q,A1r,A1C,A1b,A0h,A0d]
 gi_wp2
 obtain⟨b2,hb2⟩:∃ b2,b2=w0.heap.size:=⟨_,rfl⟩
 have e2:((w0.alloc (.cells #[.int .i64 0] 3)).alloc (.cells #[.int .i64 0] 3)).heap[w0.heap.size]? =some (.cells #[.int .i64 0] 3 (0,0)):=
  (Below.heap_alloc _ _ _ (by simp)).trans (World.alloc_heap_new w0 _)
 have e3:((w0.alloc (.cells #[.int .i64 0] 3)).alloc (.cells #[.int .i64 0] 3)).heap[w0.heap.size+1]? =some (.cells #[.int .i64 0] 3 (0,0)):=by
  have:=World.alloc_heap_new (w0.alloc (.cells #[.int .i64 0] 3)) (.cells #[.int .i64 0] 3)
  rwa[World.size_alloc] at this
 have hb0:Below w0.heap.size w0 ((w0.alloc (.cells #[.int .i64 0] 3)).alloc (.cells #[.int .i64 0] 3)):=((Below.refl _ w0).alloc (A08 _) _).alloc (by simp) _
 generalize(w0.alloc (.cells #[.int .i64 0] 3)).alloc (.cells #[.int .i64 0] 3)=w1 at*
 rw[<-hb2] at e2 e3|-
 have hlo:w0.heap.size<=b2:=by omega
 clear hb2
 refine⟨trivial,fun h=>(by cases h),(Vc (n-1) s w1).mono ?_⟩
 rintro e w2 ⟨rfl,hw2⟩
 obtain⟨bx,hbx⟩:∃ bx,bx=w1.heap.size:=⟨_,rfl⟩
 have k2:CI w1 w2:=by subst hw2;exact CI.below ((Below.refl _ _).alloc (A08 _) _)
 have hb1:Below w0.heap.size w0 w2:=by subst hw2;exact hb0.alloc hb0.size _
 have hx2:w2.heap[bx]? =some (.cells #[.string s] 9 (0,0)):=by subst hw2;rw[hbx];exact World.alloc_heap_new w1 _
 have hne:bx≠b2/\bx≠b2+1:=by
  have h2:=(A0l.1 e2).1
  have h3:=(A0l.1 e3).1
  omega
 rw[<-hbx]
 have hI:PlI s w0 b2 (b2+1) bx 0 w2:=⟨hb1,BV k2 e2,BV k2 e3,hx2⟩
 clear hw2 hbx
 gi_wp2
 refine Vs (gf:=221) (lb:=#[.pointer (some ⟨bx,0,none⟩)]) rfl (enters_of func221 (by kernel_rfl) rfl) (c_runesL (n-1) s hs m hm bx w0 hT) (fun _=>rfl) (PlI s w0 b2 (b2+1) bx) (PlX w0 b2 m)
  (fun p W h=>⟨h.below,by simp[World.cell?,h.cx]⟩)
  (fun p W W' h hb=>h.keepL (CI.below hb) (h.below.trans (hb.mono h.below.size)))
  (fun p W l r o hl hr h=>h.keepL (CI.put o hr) (h.below.trans ((Below.refl _ W).grown (grownBy_putObj' W l o) (by have:=h.below.size;omega) (fun k e=>by cases e;have:=hb1.size;omega))))
  (fun W l r o hl hr h=>h.keepL (CI.put o hr) (h.below.trans ((Below.refl _ W).grown (grownBy_putObj' W l o) (by have:=h.below.size;omega) (fun k e=>by cases e;have:=hb1.size;omega))))
  hI
  (fun p=> {tmps:=#[.string s,undef,.pointer (some ⟨b2,0,none⟩),.pointer (some ⟨b2+1,0,none⟩),.int .i64 p,.int .i32 (rnA s p).1,.string s,.func (.func 221) #[] #[.pointer (some ⟨bx,0,none⟩)],.int .i64 p,.int .i32 (rnA s p).1,undef,undef,undef,undef,undef,undef,undef,undef,undef],defers:=[]}) ?assign ?body ?last ?done
 case assign=>
  intro l p W K hK
  unfold Lk
  gi_wp2
  exact hK
 case body=>
  intro l p W hI hp'
  obtain⟨i1,i2,i3,i4⟩:=hI
  have hst:=hp p hp'
  obtain⟨c,hc,hc2⟩:=Un hm (Nat.le_of_lt hp')
  rw[hc] at hst|-
  simp only at hst|-
  gi_wp2
  refine⟨trivial,fun h=>(by cases h),CallsIn.inRound l ((Mu (n-1-1-1) c W).mono ?_)⟩
  rintro e w' ⟨rfl,rfl⟩
  rw[decide_eq_true (show 32<=c/\c≠34/\c≠92 from hst)]
  gi_wp2
  refine⟨trivial,fun h=>(by cases h),CallsIn.inRound l ((X5 (n-1-1-1) c hc2 w').mono ?_)⟩
  rintro e w'' ⟨rfl,rfl⟩
  have c3:w''.cell? ⟨b2+1,0,none⟩=some (.int .i64 p):=by simp[World.cell?,i3]
  have z3:w''.frozen? ⟨b2+1,0,none⟩=false:=by simp[World.frozen?,i3]
  gi_wp2
  rw[show RowKit.wrap64 ((p:Int)+1)=(p:Int)+1 from by have:=Uo hm (Nat.le_of_lt hp');unfold RowKit.wrap64;omega]
  refine⟨KeepsOthers.setCell _ _ _,?_,?_,?_,?_⟩
  ·exact i1.setCell (p:=⟨b2+1,0,none⟩) (by show w0.heap.size<=b2+1;omega) _
  ·exact(J1 _ _ _ _ (by omega)).trans i2
  ·exact J0 i3
  ·exact(J1 _ _ _ _ hne.2).trans i4
 case last=>
  intro l W hI
  obtain⟨i1,i2,i3,i4⟩:=hI
  obtain⟨c,hc,hc2⟩:=Un hm (A08 m)
  rw[hc] at hq|-
  simp only at hq|-
  gi_wp2
  refine⟨trivial,fun h=>(by cases h),CallsIn.inRound l ((Mu (n-1-1-1) c W).mono ?_)⟩
  rintro e w' ⟨rfl,rfl⟩
  rw[decide_eq_false (show ¬(32<=c/\c≠34/\c≠92) from hq)]
  have c2:w'.cell? ⟨b2,0,none⟩=some (.int .i64 0):=by simp[World.cell?,i2]
  have z2:w'.frozen? ⟨b2,0,none⟩=false:=by simp[World.frozen?,i2]
  gi_wp2
  refine⟨KeepsOthers.setCell _ _ _,?_,?_⟩
  ·exact i1.setCell (p:=⟨b2,0,none⟩) hlo _
  ·exact J0 i2
 case done=>
  intro D W hD hX hK
  obtain⟨i1,i2⟩:=hX
  refine(show Exit.inBlock 0 _ _ _ _ from ?_)
  simp only[Exit.inBlock,Exit.then]
  refine⟨by simp,.inl ⟨_,_,rfl,run_takeDeferred hK,?_⟩⟩
  have cD:(W.putObj D (.deferred none)).heap[b2]? =some (.cells #[.int .i64 m] 3 (0,0)):=(World.putObj_heap_other (fun h=>by subst h;rw[i2] at hK;cases hK)).trans i2
  refine⟨.int .i64 m,?_,rfl,?_⟩
  ·have c2:(W.putObj D (.deferred none)).cell? ⟨b2,0,none⟩=some (.int .i64 m):=by simp[World.cell?,cD]
   have ha:=isAgg3
   have hr:f334.results=#[.cell 2 3]:=rfl
   simp[results,hr,loadVar,asAddr,c2,ha,go_sem]
  ·exact i1.grown (grownBy_putObj' W D _) (by have:=i1.size;omega) (fun k e=>by cases e;have:=hb1.size;omega)
end Go.Proofs
namespace Go.Ab
open Go.Proofs Go.Proofs.Tryz Go.RowKit
abbrev tBl:TypeId:=90
abbrev bdB(a:D)(g len:Nat):Blk:=.pr g (prR tBl [a,.gref 1 len])
abbrev SD:D:=.ref 0 0 0 2
theorem conv_toB(w:World)(k:Nat)(us:Array Value)(h:w.heap[k]? =some (.cells us tBl (0,0)))(h4:us.size=2):(convert 88 195 (.pointer (some ⟨k,0*2+0,none⟩))).run prog w=.ok (.pointer (some ⟨k,0*2+0,none⟩)) w:=by
 obtain⟨j,hj,hj2⟩:∃ j,prog.info? 90=some j/\j.size=2:=⟨_,rfl,by kernel_rfl⟩
 exact Lib.run_to_unsafe w _ underlying88 underlying195 hj (by omega) (by simp[World.shape?,h];exact⟨rfl,rfl⟩) (by show 0*2+0<us.size;omega)
theorem U6(w:World)(k:Nat)(us:Array Value)(h:w.heap[k]? =some (.cells us tBl (0,0)))(h4:us.size=2):(convert 195 88 (.pointer (some ⟨k,0*2+0,none⟩))).run prog w=.ok (.pointer (some ⟨k,0*2+0,none⟩)) w:=by
 obtain⟨j,hj,hj2⟩:∃ j,prog.info? 90=some j/\j.size=2:=⟨_,rfl,by kernel_rfl⟩
 exact Lib.run_from_unsafe w _ underlying195 underlying88 hj (cells:=2) (e:=tBl) (by simp[World.shape?,h,h4]) (by kernel_rfl)
abbrev bdH(a:D)(t:List UInt8):Hp:=[(1,bdB a 4 t.length),(4,byB 4 t)]
theorem c_ccNilB(t:List UInt8):A2 prog 169 [.ref 1 0 0 2] (bdH Qm t) (.tup []) (bdH SD t):=by
 have hN:=L1 (.ref 1 0 0 2)
 unfold bdH
 generalize t.length=len at*
 refine Zd [] func169 rfl ntmps169 results169 ?_
 (have z:=trivial;(try push_cast)<;>repeat' (first|apply Zi<;>intro _|exact Zp|with_reducible apply Za|((with_reducible show A1 _ _ _ _ _ _ _ _);refine A1.loadR (by first|(push_cast;done)|((try push_cast);rfl)) rfl (by first|(push_cast;done)|((try push_cast);rfl)) (by first|(push_cast;done)|((try push_cast);rfl)) (by simp) (by first|rfl|(push_cast;rfl)) (by first|exact .inl rfl|exact .inr ⟨_,_,_,rfl,rfl,rfl⟩) ?_)<;>try push_cast|((with_reducible show A1 _ _ _ _ _ _ _ _);refine A1.convR (by first|(push_cast;done)|((try push_cast);rfl)) (by first|(push_cast;done)|((try push_cast);rfl)) (by exact conv_toB) (by first|exact .inl rfl|exact .inr ⟨_,_,_,rfl,rfl,rfl⟩) ?_)<;>try push_cast|(with_reducible show A1 _ _ _ _ _ _ _ _;refine A1.ext (by(try push_cast);exact hN ..) (by first|exact .inl rfl|exact .inr ⟨_,_,_,rfl,rfl,rfl⟩) rfl ?_)<;>try push_cast|((with_reducible show A1 _ _ _ _ _ _ _ _);refine A1.convR (by first|(push_cast;done)|((try push_cast);rfl)) (by first|(push_cast;done)|((try push_cast);rfl)) (by exact U6) (by first|exact .inl rfl|exact .inr ⟨_,_,_,rfl,rfl,rfl⟩) ?_)<;>try push_cast|((with_reducible show A1 _ _ _ _ _ _ _ _);refine A1.storeR (.ref 0 0 0 2) 4 (by first|(push_cast;done)|((try push_cast);rfl)) rfl rfl (by first|(push_cast;done)|((try push_cast);rfl)) (by first|(push_cast;done)|((try push_cast);rfl)) (by simp) (by first|(push_cast;done)|rfl|(push_cast;rfl)) trivial (by first|rfl|(push_cast;rfl)) (by first|exact .inl rfl|exact .inr ⟨rfl,rfl⟩) (by first|exact .inl rfl|exact .inr ⟨_,_,_,rfl,rfl,rfl⟩) ?_)<;>try push_cast|fail)<;>try push_cast)
 apply Zw<;>push_cast
def CcOkB(a:D):Prop:=∀ t,A2 prog 169 [.ref 1 0 0 2] (bdH a t) (.tup []) (bdH SD t)
theorem MA(a:D)(hc:CcOkB a)(t:List UInt8)(s:ByteArray)(hne:t++s.data.toList≠[])(hl:t.length+s.size<=1073741824):A2 prog 109 [.ref 1 0 0 2,.val (.string s)] (bdH a t) (.tup [.val (.int .i64 s.size),.val .nilIface]) (bdH SD (t++s.data.toList)):=by
 have hc:=hc t
 obtain⟨j,hj,hz,hs1,hb1⟩:=Ut
 have hsl:=underlying36
 have hst:=underlying9
 unfold bdH at*
 have hll:(t++s.data.toList).length=t.length+s.size:=by rw[A04];rfl
 rw[hll]
 refine Zd [] func109 rfl ntmps109 results109 ?_
 (have z:=trivial;(try push_cast)<;>repeat' (first|apply Zi<;>intro _|refine Zs [(1,1),(4,4)] (hc ..) ?_|exact Zp|with_reducible apply Za|((with_reducible show A1 _ _ _ _ _ _ _ _);refine A1.loadR (by first|(push_cast;done)|((try push_cast);rfl)) rfl (by first|(push_cast;done)|((try push_cast);rfl)) (by first|(push_cast;done)|((try push_cast);rfl)) (by simp) (by first|rfl|(push_cast;rfl)) (by first|exact .inl rfl|exact .inr ⟨_,_,_,rfl,rfl,rfl⟩) ?_)<;>try push_cast|((with_reducible show A1 _ _ _ _ _ _ _ _);refine A1.appG hsl hst hj hz hs1 hb1 hne hl (by first|(push_cast;done)|((try push_cast);rfl)) (by first|(push_cast;done)|((try push_cast);rfl)) (by first|(push_cast;done)|((try push_cast);rfl)) (by first|exact .inl rfl|exact .inr ⟨_,_,_,rfl,rfl,rfl⟩) ?_)<;>try push_cast|((with_reducible show A1 _ _ _ _ _ _ _ _);refine A1.storeR (.gref 1 (t.length+s.size)) 88 (by first|(push_cast;done)|((try push_cast);rfl)) rfl rfl (by first|(push_cast;done)|((try push_cast);rfl)) (by first|(push_cast;done)|((try push_cast);rfl)) (by simp) (by first|(push_cast;done)|rfl|(push_cast;rfl)) trivial (by first|rfl|(push_cast;rfl)) (by first|exact .inl rfl|exact .inr ⟨rfl,rfl⟩) (by first|exact .inl rfl|exact .inr ⟨_,_,_,rfl,rfl,rfl⟩) ?_)<;>try push_cast|fail)<;>try push_cast)
 apply Zr [(4,88)] rfl<;>push_cast
 all_goals trace_state
theorem Xm(t:List UInt8)(hne:t≠[])(hl:t.length<=1073741824):A2 prog 28 [.ref 1 0 0 2] (bdH SD t) (.val (.string ⟨t.toArray⟩)) []:=by
 have hp:=underlying149
 have hce:prog.cellsOf 5=1:=by kernel_rfl
 unfold bdH
 refine Zd [] func28 rfl ntmps28 results28 ?_
 (have z:=trivial;(try push_cast)<;>repeat' (first|apply Zi<;>intro _|exact Zp|with_reducible apply Za|((with_reducible show A1 _ _ _ _ _ _ _ _);refine A1.loadR (by first|(push_cast;done)|((try push_cast);rfl)) rfl (by first|(push_cast;done)|((try push_cast);rfl)) (by first|(push_cast;done)|((try push_cast);rfl)) (by simp) (by first|rfl|(push_cast;rfl)) (by first|exact .inl rfl|exact .inr ⟨_,_,_,rfl,rfl,rfl⟩) ?_)<;>try push_cast|((with_reducible show A1 _ _ _ _ _ _ _ _);refine A1.usd hne (by first|(push_cast;done)|((try push_cast);rfl)) (by first|(push_cast;done)|((try push_cast);rfl)) (by first|exact .inl rfl|exact .inr ⟨_,_,_,rfl,rfl,rfl⟩) ?_)<;>try push_cast|((with_reducible show A1 _ _ _ _ _ _ _ _);refine A1.ustr hp hce hne hl (by first|(push_cast;done)|((try push_cast);rfl)) (by first|(push_cast;done)|((try push_cast);rfl)) (by first|(push_cast;done)|((try push_cast);rfl)) (by first|exact .inl rfl|exact .inr ⟨_,_,_,rfl,rfl,rfl⟩) ?_)<;>try push_cast|fail)<;>try push_cast)
 ·omega
 ·apply Zw<;>push_cast
end Go.Ab
namespace Go.Ab
open Go.Proofs Go.Proofs.Tryz Go.RowKit Go.Shelf
theorem Aw.nilgrowB{env:Env}{hp:Hp}{nx b:Nat}{T Te:TypeId}:Aw ⟨env,(b,.pr b (prR T [.val (.pointer none),.val (.slice none 0 0)]))::hp,nx⟩ ⟨env,(2*nx,.pr (2*nx) (prG Te []))::(b,.pr (2*nx) (prR T [.val (.pointer none),.gref 1 0]))::hp,nx+1⟩:=by
 intro w0 M0 I0 nt I mu a w r
 have hnone:mu (2*nx)=none:=r.w.fresh _ ⟨by show 2*nx%2=0;omega,A08 _⟩
 have hbb:(⟨env,(b,.pr b (prR T [.val (.pointer none),.val (.slice none 0 0)]))::hp,nx⟩:St).fs.hp b=some (.pr b (prR T [.val (.pointer none),.val (.slice none 0 0)])):=by simp[St.fs,Ac]
 obtain⟨v0,u0,b1,_,hv0,_,k0,us0,b3,b4,b5,b6⟩:=r.w.blk b _ hbb
 have hmm:=Bu (v:=.slice none 0 0) hnone
 have hbne:b≠2*nx:=fun e=>by rw[e,hnone] at b1;cases b1
 have hlk:∀ c z,Ac ((2*nx,Blk.pr (2*nx) (prG Te []))::(b,.pr (2*nx) (prR T [.val (.pointer none),.gref 1 0]))::hp) c=some z->(c=2*nx/\z=.pr (2*nx) (prG Te []))∨(c≠2*nx/\∃ z',(⟨env,(b,.pr b (prR T [.val (.pointer none),.val (.slice none 0 0)]))::hp,nx⟩:St).fs.hp c=some z'/\((c=b/\z=.pr (2*nx) (prR T [.val (.pointer none),.gref 1 0]))∨z=z')):=by
  intro c z h
  simp only[Ac] at h
  by_cases hc:2*nx=c
  ·have:(2*nx==c)=true:=by simp[hc]
   rw[this,cond_true] at h
   exact .inl ⟨hc.symm,(Option.some.inj h).symm⟩
  ·have:(2*nx==c)=false:=by simp[hc]
   rw[this,cond_false] at h
   refine .inr ⟨fun h=>hc h.symm,?_⟩
   by_cases hcb:b=c
   ·have:(b==c)=true:=by simp[hcb]
    rw[this,cond_true] at h
    subst hcb
    exact⟨_,hbb,.inl ⟨rfl,(Option.some.inj h).symm⟩⟩
   ·have:(b==c)=false:=by simp[hcb]
    rw[this,cond_false] at h
    exact⟨z,by simp[St.fs,Ac,this,h],.inr rfl⟩
 have hno:∀ j,Ae (.slice none 0 0)≠some j:=by intro j;simp[Ae]
 have hmu:∀ c,c≠2*nx->Ax mu (2*nx) (.slice none 0 0) c=mu c:=fun c hc=>by simp[Ax,hc]
 refine⟨I,Ax mu (2*nx) (.slice none 0 0),r.size,r.defers,fun t'=>(r.env t').mono (fun _ _=>rfl) (fun _ h=>h) hmm,⟨fun c z h=>?_,fun c z v j h hv hj=>?_,fun c c' z z' v v' j h h' hv hv' hj hj'=>?_,fun c hc=>?_,r.w.lt,r.w.os,r.w.tape,r.w.output,r.w.grown,r.w.old,r.w.iold,r.w.inew,fun c v hc hn=>hmm c v (r.w.keep c v hc hn),fun c z h hc=>?_⟩⟩
 ·rcases hlk c z h with⟨rfl,rfl⟩|⟨h1,z',h2,h3⟩
  ·exact⟨.slice none 0 0,.slice none 0 0,by simp[Ax],by simp[Ax],by simp[undef],by simp[undef],.inl ⟨rfl,rfl⟩⟩
  ·rcases h3 with⟨rfl,rfl⟩|rfl
   ·refine⟨v0,.slice none 0 0,hmm _ _ b1,by simp[Ax],hv0,by simp[undef],k0,us0,b3,b4,b5,fun i hi=>?_⟩
    have h6:=b6 i hi
    match i,hi with
    |0,_=>exact h6
    |1,_=>
     obtain⟨e1,_⟩:=h6
     rw[show nv us0 1=Value.slice none 0 0 from e1]
     exact⟨rfl,none,0,rfl⟩
   ·exact(r.w.blk c z h2).mono (fun _ _=>rfl) (fun _ h=>h) hmm (fun _ _ _ _=>rfl)
 ·rcases hlk c z h with⟨rfl,rfl⟩|⟨h1,z',h2,_⟩
  ·simp only[Ax,if_true,A03] at hv
   subst hv
   exact(hno j hj).elim
  ·rw[hmu c h1] at hv;exact r.w.loc c z' v j h2 hv hj
 ·rcases hlk c z h with⟨rfl,rfl⟩|⟨h1,z1,h2,_⟩
  ·simp only[Ax,if_true,A03] at hv
   subst hv
   exact(hno j hj).elim
  ·rcases hlk c' z' h' with⟨rfl,rfl⟩|⟨h1',z2,h2',_⟩
   ·simp only[Ax,if_true,A03] at hv'
    subst hv'
    exact(hno j hj').elim
   ·rw[hmu c h1] at hv
    rw[hmu c' h1'] at hv'
    exact r.w.inj c c' z1 z2 v v' j h2 h2' hv hv' hj hj'
 ·obtain⟨h1,h2⟩:=hc
  have h2':2*(nx+1)<=c:=h2
  rw[hmu c (by omega)]
  exact r.w.fresh c ⟨h1,by show 2*nx<=c;omega⟩
 ·obtain⟨h1,h2⟩:=hc
  have h2':2*(nx+1)<=c:=h2
  rcases hlk c z h with⟨rfl,rfl⟩|⟨h3,z',h5,_⟩
  ·omega
  ·exact r.w.used c z' h5 ⟨h1,by show 2*nx<=c;omega⟩
theorem c_plain(s:ByteArray)(hs:s.size<=1048576)(m:Nat)(hm:asc s m)(hp:∀ p,p<m->Ph (rnA s p).1)(hq:¬Ph (rnA s m).1):A0 prog 334 [.val (.string s)] (.val (.int .i64 m)):=
 A0.of_vals (us:=[.string s]) (by kernel_rfl) rfl fun w I hg ho=>⟨.int .i64 m,fun _=>GK (by have:=Uo hm (A08 m);simp only[okP,D1,D2];omega),
  callsIn_wide.1 (w_plain 0 s hs m hm hp hq w (fun W hb=>EO (by kernel_rfl) (by kernel_rfl) (hg.below hb)))⟩
theorem c_plainA(s:ByteArray)(i:Nat)(x r:List UInt8)(hx:∀ c ∈ x,32<=c.toNat/\c.toNat<128/\c.toNat≠34/\c.toNat≠92)(hz:s.size<=1048576)(h:At s i (x++[34]) r):
  A0 prog 334 [.val (.string (s.extract i s.size))] (.val (.int .i64 x.length)):=by
 have hl:=h.2
 have e1:(s.extract i s.size).data.toList=x++[34]++r:=by
  rw[<-h.1,ByteArray.data_extract,Array.toList_extract]
  show(s.data.toList.drop i).take (s.size-i)=_
  rw[A05 (by rw[A0s];exact A08 _)]
  rfl
 have hsz:(s.extract i s.size).size<=1048576:=by
  have:(s.extract i s.size).size=(s.extract i s.size).data.toList.length:=rfl
  rw[this,e1]
  simp only[A04,A17] at hl|-
  omega
 have hd:∀ p,p<=x.length->∃ c t,(s.extract i s.size).data.toList.drop p=c::t/\c.toNat<128/\(p<x.length->32<=c.toNat/\c.toNat≠34/\c.toNat≠92)/\(p=x.length->c=34):=by
  intro p hp
  rw[e1]
  rcases A0O p x.length with hlt|hge
  ·have hc:=hx x[p] (A0W hlt)
   refine⟨x[p],x.drop (p+1)++[34]++r,?_,hc.2.1,fun _=>⟨hc.1,hc.2.2⟩,fun e=>by omega⟩
   rw[A0c,List.drop_append_of_le_length (by omega),List.drop_eq_getElem_cons hlt]
   simp only[A0d,A0c]
  ·obtain rfl:p=x.length:=by omega
   refine⟨34,r,?_,by decide,fun h=>by omega,fun _=>rfl⟩
   rw[A0c,List.drop_append_of_le_length (A08 _),List.drop_length]
   rfl
 refine c_plain _ hsz x.length (fun p hp=>?_) (fun p hp=>?_) ?_
 ·obtain⟨c,t,h1,h2,_⟩:=hd p hp
  exact⟨c,t,h1,h2⟩
 ·obtain⟨c,t,h1,h2,h3,_⟩:=hd p (Nat.le_of_lt hp)
  unfold rnA
  rw[h1,PZ c t h2]
  have:=h3 hp
  exact⟨this.1,this.2.1,this.2.2⟩
 ·obtain⟨c,t,h1,h2,_,h3⟩:=hd x.length (A08 _)
  unfold rnA
  rw[h1,PZ c t h2,h3 rfl]
  rintro⟨_,h,_⟩
  exact h rfl
theorem bl_ok:∀ x ∈ [Value.pointer none,.slice none 0 0],okP x:=by
 intro x hx
 simp only[A0q,A0Y,or_false] at hx
 rcases hx with rfl|rfl<;>trivial
theorem unq_ok:HA:=by
 intro s i x r hx hz h
 obtain⟨hx0,hx⟩:=hx
 have hl:=h.2
 rw[L7] at hl
 have ht:At s (i+1) (x++[34]) r:=At.tail1 h
 have hpl:=c_plainA s (i+1) x r hx hz ht
 have s0:BQ s (i:Int)=34:=h.strAt (j:=0) (c:=34) rfl
 have s2:=ht.strAt (j:=x.length) (c:=34) (by simp)
 obtain⟨c0,hc0⟩:∃ c:UInt8,x[0]? =some c:=by
  cases x with
  |nil=>exact absurd rfl hx0
  |cons c x=>exact ⟨c,rfl⟩
 have s1:=ht.strAt (j:=0) (c:=c0) (by rw[A0o (by rcases x with _|_;exact absurd rfl hx0;simp)];exact hc0)
 have hc:=hx c0 (A1E hc0)
 have hlx:0<x.length:=A1J.2 hx0
 have hex:s.extract (i+1) (i+1+x.length)=⟨x.toArray⟩:=by
  apply ByteArray.ext
  rw[ByteArray.data_extract]
  apply Array.ext'
  rw[Array.toList_extract]
  show((bl s).drop (i+1)).take (i+1+x.length-(i+1))=x
  rw[ht.1,A0c,show i+1+x.length-(i+1)=x.length from by omega,List.take_left]
 obtain⟨p,hp⟩:∃ p,p=i+1:=⟨_,rfl⟩
 obtain⟨p2,hp2⟩:∃ p2,p2=p+x.length:=⟨_,rfl⟩
 have hW:=MA Qm c_ccNilB [] ⟨x.toArray⟩ (by simpa using hx0) (by show 0+x.toArray.size<=_;rw[A0y];omega)
 have hS:=Xm x hx0 (by omega)
 rw[A0h] at hW
 rw[A19] at s1
 rw[<-hp] at hpl s1 s2 hex
 rw[<-hp2] at s2 hex
 have et:(⟨x.toArray⟩:ByteArray).data.toList=x:=rfl
 have es:(⟨x.toArray⟩:ByteArray).size=x.length:=by show x.toArray.size=_;simp
 rw[et,es] at hW
 unfold bdH at hW hS
 rw[L7,show i+(x.length+2)=p2+1 from by omega]
 generalize(⟨x.toArray⟩:ByteArray)=X at*
 have b0:decide ((i:Int)<0)=false:=decide_eq_false (by omega)
 have b1:decide ((s.size:Int)<i)=false:=decide_eq_false (by omega)
 have b2:((i:Int)==s.size)=false:=by simp;omega
 have w1:IntKind.i64.wrap ((i:Int)+1)=(p:Int):=by rw[Aa (by omega) (by omega)];omega
 have w2:IntKind.i64.wrap ((p:Int)+x.length)=(p2:Int):=by rw[Aa (by omega) (by omega)];omega
 have w3:IntKind.i64.wrap ((p2:Int)+1)=(p2:Int)+1:=Aa (by omega) (by omega)
 have b3:decide ((p:Int)<s.size)=true:=decide_eq_true (by omega)
 have b4:decide ((p2:Int)<s.size)=true:=decide_eq_true (by omega)
 have b5:((p2:Int)==s.size)=false:=by simp;omega
 have b6:(((c0.toNat:Nat):Int)==34)=false:=by simp;omega
 have b7:(((c0.toNat:Nat):Int)==92)=false:=by simp;omega
 have b8:((x.length:Int)==0)=false:=by simp;omega
 have s2':BQ s (p2:Int)=34:=s2
 generalize((c0.toNat:Nat):Int)=k0 at*
 refine Zf [] func312 rfl ntmps312 results312 ?_
 ((try push_cast)<;>repeat' (first|apply Zi<;>intro _|exact Zp|with_reducible apply Za)<;>try push_cast)
 refine AWp.scope ?_
 refine AWp.seq (Zy ?_)
 (have z:=Za b0<|Za b1<|Za b2 s0;(try push_cast[z])<;>repeat' (first|apply Zi<;>intro _|exact Zo|with_reducible apply Za)<;>try push_cast[z])
 all_goals first|omega|skip
 refine AWp.seq (Zy ?_)
 (have z:=Za b0<|Za b1<|Za b2 s0;(try push_cast[z])<;>repeat' (first|apply Zi<;>intro _|exact Zo|with_reducible apply Za)<;>try push_cast[z])
 all_goals first|omega|skip
 refine AWp.seq (Zy ?_)
 ((try push_cast)<;>repeat' (first|apply Zi<;>intro _|exact Zp|with_reducible apply Za)<;>try push_cast)
 refine AWp.seq (AWp.regX (by kernel_rfl) ?_)
 refine A1.of_doesX (KC ti90 bl_ok) (.inl rfl) ?_
 refine A1.go ?_
 push_cast
 refine Zy ?_
 (have z:=w1;(try push_cast[z])<;>repeat' (first|apply Zi<;>intro _|exact Zo|with_reducible apply Za)<;>try push_cast[z])
 refine AWp.loopI mixed (by kernel_rfl) (ι:=Bool) (fun _=>True) (fun b=>⟨[(9,.val (.int .i64 (if b then(p2:Int) else p))),(8,.ref 176 0 0 2),(0,.val (.string s))],[(208,byB 208 (if b then x else [])),(176,bdB (if b then SD else Qm) 208 (if b then x.length else 0))],105⟩) (fun b=>if b then 0 else 1) false trivial ?_ fun b _=>?_
 ·refine Aw.trans ?_ (Aw.trans (Aw.nilgrowB (T:=tBl) (Te:=5) (env:=[(9,.val (.int .i64 p)),(8,.ref 176 0 0 2),(0,.val (.string s))]) (hp:=[]) (nx:=104) (b:=176)) ?_)
  ·apply Zw<;>push_cast
  ·apply Zw<;>push_cast
 ·cases b with
  |false=>
   push_cast
   (have z:=Za b3<|Za b6<|Za b7<|Za b8<|Za s1<|Za w2 @hex;(try push_cast[z])<;>repeat' (first|apply Zi<;>intro _|refine Zc (hpl ..) ?_|refine Zs [(1,176),(4,208)] hW ?_|exact Zo|with_reducible apply Za)<;>try push_cast[z])
   all_goals first|omega|skip
   refine⟨true,by decide,?_⟩
   apply Zr [(208,406)] rfl<;>push_cast
  |true=>
   push_cast
   (have z:=Za b4<|Za b5<|Za s2' w3;(try push_cast[z])<;>repeat' (first|apply Zi<;>intro _|refine Zs [(1,176),(4,208)] hS ?_|exact Zo|with_reducible apply Za)<;>try push_cast[z])
   all_goals first|omega|skip
theorem A2.drop{P:Program}{f:FuncId}{ds:List D}{H H' H1:Hp}{r:D}(h:A2 P f ds H r H')(hs:∀ b x,Ac H1 b=some x->Ac H' b=some x):A2 P f ds H r H1:=by
 unfold A2 at h|-
 exact⟨h.1,fun w M0 G I mu vs a b c d=>(h.2 w M0 G I mu vs a b c d).mono fun e w' ⟨v,I',mu',he,hv,hw⟩=>⟨v,I',mu',he,hv,hw.sub hs⟩⟩
theorem Nt:∀ (A B:Hp) (b:Nat) (x:Blk),Ac A b=some x->Ac (A++B) b=some x
 |(c,y)::A,B,b,x,h=>by
  simp only[Ac,A0d] at h|-
  cases hc:(c==b) with
  |true=>rw [hc] at h;exact h
  |false=>rw [hc] at h;simp only[cond_false] at h|-;exact Nt A B b x h
noncomputable def mpF(u:Nat->SMu):Nat->List GE
 |0=>[]
 |i+1=>(R0 (u i).m (mpF u i)).2
noncomputable def cdF(u:Nat->SMu)(i:Nat):Int:=(R0 (u i).m (mpF u i)).1
theorem trF(u:Nat->SMu):∃ T:Nat->GT,T 0=.nil/\∀ i,i<=60->A0 prog 36 [AL (T i),.agg (Ap (u i).m)] (.tup [AL (T (i+1)),.val (.int .i64 (cdF u i))]):=by
 have step:∀ i t,∃ t',FU t (mpF u i)->VOk (mpF u i)->(mpF u i).length<=4000->A0 prog 36 [AL t,.agg (Ap (u i).m)] (.tup [AL t',.val (.int .i64 (cdF u i))])/\FU t' (mpF u (i+1))/\VOk (mpF u (i+1))/\(mpF u (i+1)).length<=(mpF u i).length+64:=by
  intro i t
  by_cases hh:FU t (mpF u i)/\VOk (mpF u i)/\(mpF u i).length<=4000
  ·obtain⟨h1,h2,h3⟩:=hh
   obtain⟨t',hR,r1,r2,r3⟩:=run_smu h1 h2 h3 (u i)
   exact⟨t',fun _ _ _=>⟨hR,r1,r2,r3⟩⟩
  ·exact⟨.nil,fun a b c=>absurd ⟨a,b,c⟩ hh⟩
 refine⟨fun i=>Nat.rec .nil (fun i t=>Classical.choose (step i t)) i,rfl,?_⟩
 have key:∀ i,i<=61->FU (Nat.rec (motive:=fun _=>GT) .nil (fun i t=>Classical.choose (step i t)) i) (mpF u i)/\VOk (mpF u i)/\(mpF u i).length<=64*i:=by
  intro i
  induction i with
  |zero=>intro _;exact⟨.inl ⟨rfl,rfl⟩,VOk.nil,A0J _⟩
  |succ i ih=>
   intro hi
   obtain⟨h1,h2,h3⟩:=ih (by omega)
   obtain⟨_,r1,r2,r3⟩:=Classical.choose_spec (step i _) h1 h2 (by omega)
   exact⟨r1,r2,by omega⟩
 intro i hi
 obtain⟨h1,h2,h3⟩:=key i (by omega)
 exact(Classical.choose_spec (step i _) h1 h2 (by omega)).1
abbrev nwH(k:Nat)(X:List (List D)):Hp:=[(1,.rows [[.ref 3 0 0 3,.ref 5 0 0 4,.slice [] true]] 3),(3,lgB k 0 1),(7,.rows X 1),(5,MJ)]
theorem Ve(k c b n:Nat)(T:Nat->GT)(u:Nat->GM)(e:Nat->Int)(F L:List (List D))(oF:A3 F=true)(hc:BI c)(hk1:2<=k)(hk2:k<=1024)(hL:ItOk b n u L)(h0:T 0=.nil)
  (hRun:∀ i,i<b->A0 prog 36 [AL (T i),.agg (Ap (u i))] (.tup [AL (T (i+1)),.val (.int .i64 (e i))]))
  (hD:A0 prog 16 [.slice F false] (.tup [.agg [.val (.int .u64 c),.slice L false],.val (.int .i64 0)])):
  A2 prog 7 [.ref 1 0 0 3,.slice F false] (nwH k ((List.replicate k GT.nil).map fun t=>[A8 t]))
   (.tup [.agg [.val (.int .i64 0),.val (.int .i64 (dnF e b)),.val (.int .i64 (flF e b)),.val (.bool true)],.val (.int .i64 0)]) (svH k c T u e b++if b<k then tbH c b else []):=by
 have h:=c_push k c b n T u e F L oF hc (by omega) hk1 hk2 hL h0 hRun hD
 refine A2.weakIn rfl ?_ h
 have m1:min (0+1) k=1:=by omega
 have er:raF c u e 0=[]:=rfl
 have oX:=Bd (List.replicate k GT.nil)
 rw[XM]
 unfold svH rgB
 rw[m1,er,show rgF k T 0=List.replicate k GT.nil from rfl]
 unfold nwH
 generalize((List.replicate k GT.nil).map fun t=>[A8 t])=X at*
 refine Aw.trans (Aw.nilgrow3 (sz:=23)) ?_
 apply Zr [(6,8)] rfl<;>push_cast [oX,oF]
def E2(b g:Nat)(n:Int):List SN:=((List.range b).map fun j=>(j+1,SMu.inc n))++(List.range g).map fun j=>(b+j+2,SMu.inc n)
theorem gap_ok(b g:Nat)(n:Int)(hb:b<=30)(hg:g<=30)(hn: -9223372036854775808<=n/\n<=9223372036854775807):Hk 1 (E2 b g n):=by
 refine⟨by unfold BI;omega,by simp[E2];omega,fun x hx=>?_⟩
 rcases A1o.1 hx with h|h
 ·obtain⟨j,hj,rfl⟩:=A0i.1 h
  have:=A1h.1 hj
  exact⟨by unfold BI;simp only;omega,hn⟩
 ·obtain⟨j,hj,rfl⟩:=A0i.1 h
  have:=A1h.1 hj
  exact⟨by unfold BI;simp only;omega,hn⟩
theorem UW(l:List SN)(c b q:Nat)(hl:Hk c l)(hb:b<l.length)(h1:∀ j,j<b->(l.getD j (0,.put)).1=j+1)(h2:(l.getD b (0,.put)).1=q)(hq:b+1<q)(hq2:q<=1048576):
  ItOk b l.length (fun j=>(l.getD j (0,.put)).2.m) ((l.map snN).map Bl):=by
 have hnr:∀ j,j<l.length->nr ((l.map snN).map Bl) j=.val (.int .u64 ((l.getD j (0,.put)).1:Int))::Ap (l.getD j (0,.put)).2.m:=fun j hj=>by
  simp[nr,A02,A0u,A0b hj,snN,Bl]
 refine⟨DL _,by simp,hb,hl.2.1,fun j hj=>?_,⟨q,(l.getD b (0,.put)).2.m,hq,hq2,?_⟩⟩
 ·rw[hnr j (by omega),h1 j hj]
  norm_cast
 ·rw[hnr b hb,h2]
theorem Sz(c:Nat)(l:List SN)(h:Hk c l):A0 prog 16 [.slice ((puF c l).map byD) false] (.tup [.agg [.val (.int .u64 c),.slice ((l.map snN).map Bl) false],.val (.int .i64 0)]):=c_Decode unq_ok of_ok c l h
theorem Uz(k c:Nat)(T:Nat->GT)(u:Nat->GM)(e:Nat->Int)(i:Nat)(hk:0<k)(hk2:k<=1024)(hi:i<=1000):A0 prog 8 [svP ((rgF k T i).map fun t=>[A8 t]) i (min (i+1) k) (raF c u e i)] (.val (.int .u64 i)):=
 Ha _ (Bd _) i (min (i+1) k) (raF c u e i) (Dn c u e i) (GL c u e i) (by omega)
def knL:List SN:=[(1,.put),(2,.put),(4,.put)]
theorem ZD:Hk 7 knL:=⟨by unfold BI;omega,by decide,fun x hx=>by
 simp only[knL,A0q,A0Y,or_false] at hx
 rcases hx with rfl|rfl|rfl<;>exact ⟨by unfold BI;simp only;omega,trivial⟩⟩
theorem kn_cd(i:Nat):cdF (fun _=>.put) i=0:=by
 unfold cdF R0
 rw[if_neg (by rw[PJ Bi H4];simp)]
 have hk:=ZH
 have hf:=H4
 simp only[SMu.m,EQ,G7,hk,hf,if_true]
abbrev krw(i:Int):List D:=[.val (.int .u64 i),.val (.int .i64 1),.val (.string tK),.val (.string ByteArray.empty),.val (.int .i64 0),.val (.bool false),.val (.int .i64 0),.val (.bool false),.val (.int .i64 0),.val (.string ByteArray.empty),.slice [] false,.slice [] false,.val (.bool false),.val (.int .i64 1),.val (.bool false),.val (.int .i64 0),.val (.string ByteArray.empty),.slice [] false,.slice [] false,.slice [] false]
theorem kn_rows:(knL.map snN).map Bl=[krw 1,krw 2,krw 4]:=by
 simp[knL,snN,Bl,SMu.m,Ap,Kz,A4,Hw,Hx,zV,Bn]
abbrev svZ(a b c d e k i m:Nat)(X R:List (List D)):Hp:=[(a,.rows [[.ref b 0 0 3,.ref c 0 0 4,.gref d i]] 3),(b,.rows [[.sref e 0 k k 1,.val (.int .u64 i),.val (.int .i64 m)]] 3),(e,.rows X 1),(d,.grow R 23)]
abbrev krT(i:Int):List D:=[.val (.int .u64 i),.val (.int .i64 1),.val (.string tK),.val (.string ByteArray.empty),.val (.int .i64 0),.val (.bool false),.val (.int .i64 0),.val (.bool false),.val (.int .i64 0),.val (.string ByteArray.empty),.slice [] true,.slice [] true,.val (.bool false),.val (.int .i64 1),.val (.bool false),.val (.int .i64 0),.val (.string ByteArray.empty),.slice [] true,.slice [] true,.slice [] true]
abbrev knX:Hp:=[(88,.rows [krT 1,krT 2,krT 4] 20)]
theorem kn_lo:loL [.agg [.val (.int .u64 7),.slice [krT 1,krT 2,krT 4] false]] [.agg [.val (.int .u64 7),.slice [krw 1,krw 2,krw 4] false]]:=by
 simp[loL,LO,EE,Cx,Am]
abbrev acc4(a b c:Int)(d:Bool):Value:=.agg [Value.int .i64 a,.int .i64 b,.int .i64 c,.bool d].toArray
theorem acc_eq(a b c:Int)(d:Bool)(x y:Operand)(w:World):(do eqGuard .eql 46 x y (acc4 a b c d) (acc4 a b c d);binOp .eql 46 (acc4 a b c d) (acc4 a b c d)).run prog w=.ok (.bool true) w:=by
 have h0:prog.eqGuardType prog.depth 46=false:=by kernel_rfl
 have h1:prog.underlying 46=some (.struct (prog.fieldsOf 46)):=by kernel_rfl
 have h2:prog.stoodInHeld 46=false:=by kernel_rfl
 have h3:(prog.fieldsOf 46).toList=[⟨ "Old",3,0,false,"","",0⟩,⟨ "Done",3,1,false,"","",8⟩,⟨ "Failed",3,2,false,"","",16⟩,⟨ "Gap",4,3,false,"","",24⟩]:=by kernel_rfl
 have u3:=underlying3
 have u4:=underlying4
 have a3:=isAgg3
 have a4:=isAgg4
 have z3:=sizeOf3
 have z4:=sizeOf4
 simp[acc4,A0e,run_eqGuard_agg,h0,run_eql_struct,run_equalIn_struct _ _ _ _ _ h1 h2,h3,Op.eqFields,part,a3,a4,z3,z4,u3,u4,go_sem]
theorem Vg:A0 prog 4 [] (.val (.bool true)):=by
 have hE:=SB 7 knL ZD
 have hD:=Sz 7 knL ZD
 have hI:=UW knL 7 2 4 ZD (by decide) (fun j hj=>by
  match j,hj with
  |0,_=>rfl
  |1,_=>rfl) rfl (by decide) (by decide)
 obtain⟨T,h0,hRun⟩:=trF fun _=>.put
 have hu:∀ j,j<2->(knL.getD j (0,.put)).2.m=SMu.put.m:=fun j hj=>by
  match j,hj with
  |0,_=>rfl
  |1,_=>rfl
 have oF:=AN (puF 7 knL)
 have oL:=DL (knL.map snN)
 have hN:=c_sNew 3 (by decide) (by decide)
 have hP:=Ve 3 7 2 3 T (fun j=>(knL.getD j (0,.put)).2.m) (cdF fun _=>.put) ((puF 7 knL).map byD) ((knL.map snN).map Bl) oF (by unfold BI;omega) (by decide) (by decide) hI h0 (fun i hi=>by rw[hu i hi];exact hRun i (by omega)) hD
 have hQ:=c_pushO 3 7 2 3 T (fun j=>(knL.getD j (0,.put)).2.m) (fun j=>(knL.getD j (0,.put)).2.m) (cdF fun _=>.put) ((puF 7 knL).map byD) ((knL.map snN).map Bl) oF (by decide) (by decide) (by decide) (by decide) hI hD
 have hV:=Uz 3 7 T (fun j=>(knL.getD j (0,.put)).2.m) (cdF fun _=>.put) 2 (by decide) (by decide) (by decide)
 have d2:dnF (cdF fun _=>.put) 2=2:=by simp[dnF,kn_cd]
 have f2:flF (cdF fun _=>.put) 2=0:=by simp[flF,kn_cd]
 have m2:min (2+1) 3=3:=rfl
 rw[d2,f2] at hP
 unfold Fl at hE
 rw[kn_rows] at hE
 have hE:=hE.lo kn_lo
 have hX:=Bd (rgF 3 T 2)
 have lX:((rgF 3 T 2).map fun t=>[A8 t]).length=3:=by simp[Fy]
 have oR:=Dn 7 (fun j=>(knL.getD j (0,.put)).2.m) (cdF fun _=>.put) 2
 have lR:=GL 7 (fun j=>(knL.getD j (0,.put)).2.m) (cdF fun _=>.put) 2
 have oG:=Bd (List.replicate 3 .nil)
 rw[if_pos (by decide),SS 7 (by decide)] at hP
 unfold svH rgB at hP hQ
 rw[m2] at hP hQ hV
 unfold rgB at hN
 unfold nwH at hP
 unfold tbO at hQ
 simp only[A0d,A0h] at hP hQ
 have oN:=BS 2
 have oO:=CA 7 2
 generalize hg1:((rgF 3 T 2).map fun t=>[A8 t])=X at*
 generalize hg2:raF 7 (fun j=>(knL.getD j (0,.put)).2.m) (cdF fun _=>.put) 2=R at*
 generalize hg3:((List.replicate 3 GT.nil).map fun t=>[A8 t])=Z at*
 generalize hg4:(puF 7 knL).map byD=F at*
 generalize hg5:ntL 2=NL at*
 generalize hg6:owL 7 2=OL at*
 change A0 _ _ [.ptr [.ptr [.slice X false,.val (.int .u64 2),.val (.int .i64 3)] 0,.any,.slice R false] 0] (.val (.int .u64 2)) at hV
 have c0:(if 3<=3/\3<=3/\3<=9223372036854775807 then D.slice X true else .sref 156 0 3 3 1)=.slice X true:=if_pos ⟨A08 _,A08 _,by omega⟩
 have et:X.take 3=X:=A05 (by omega)
 refine Zf [] func4 rfl ntmps4 results4 ?_
 have hq1:=fun x y w=>acc_eq 0 2 0 true x y w
 have hq2:=fun x y w=>acc_eq 2 0 0 true x y w
 (have z:=Za oF<|Za oG<|Za hX<|Za lX<|Za oR<|Za lR<|Za oN<|Za oO<|Za c0 et;(try push_cast[z])<;>repeat' (first|apply Zi<;>intro _|refine Zs [] hN ?_|refine Zs [(1,152),(3,154),(7,156),(5,158)] hP ?_|refine Zs [(1,152),(3,154),(7,156),(6,302),(5,158),(11,296),(13,298),(15,300)] hQ ?_|exact Zo|with_reducible apply Za|((with_reducible show A1 _ _ _ _ _ _ _ _);refine A1.giveF (knX) _ rfl (by exact hE ..) (by first|exact .inl rfl|exact .inr ⟨_,_,_,rfl,rfl,rfl⟩) ?_ ?_ ?_ ?_;(· push_cast[z]<;>(with_unfolding_all exact A9 _));(· push_cast[z]<;>first|exact fun _=>trivial|(with_unfolding_all exact A9 _));(· push_cast[z]);try push_cast[z])|((with_reducible show A1 _ _ _ _ _ _ _ _);refine A1.lend (svZ 152 154 158 302 156 3 2 3 X R) _ rfl (by exact hV ..) (by first|exact .inl rfl|exact .inr ⟨_,_,_,rfl,rfl,rfl⟩) ?_ ?_ ?_ (by first|rfl|push_cast [z]) ?_;(· push_cast[z]<;>(with_unfolding_all exact A9 _));(· push_cast[z]<;>first|exact fun _=>trivial|(with_unfolding_all exact A9 _));(· push_cast[z]);try push_cast[z])|((with_reducible show A1 _ _ _ _ _ _ _ _);refine A1.eqC (hq1 _ _) rfl rfl (by first|exact .inl rfl|exact .inr ⟨_,_,_,rfl,rfl,rfl⟩) ?_)<;>try push_cast[z]|((with_reducible show A1 _ _ _ _ _ _ _ _);refine A1.eqC (hq2 _ _) rfl rfl (by first|exact .inl rfl|exact .inr ⟨_,_,_,rfl,rfl,rfl⟩) ?_)<;>try push_cast[z]|((with_reducible show A1 _ _ _ _ _ _ _ _);refine A1.lend (svZ 152 154 158 398 156 3 2 3 X R) _ rfl (by exact hV ..) (by first|exact .inl rfl|exact .inr ⟨_,_,_,rfl,rfl,rfl⟩) ?_ ?_ ?_ (by first|rfl|push_cast [z]) ?_;(· push_cast[z]<;>(with_unfolding_all exact A9 _));(· push_cast[z]<;>first|exact fun _=>trivial|(with_unfolding_all exact A9 _));(· push_cast[z]);try push_cast[z])|fail)<;>try push_cast[z])
abbrev irw(i n:Int):List D:=[.val (.int .u64 i),.val (.int .i64 3),.val (.string tN),.val (.string ByteArray.empty),.val (.int .i64 n),.val (.bool false),.val (.int .i64 0),.val (.bool false),.val (.int .i64 0),.val (.string ByteArray.empty),.slice [] true,.slice [] true,.val (.bool false),.val (.int .i64 0),.val (.bool false),.val (.int .i64 0),.val (.string ByteArray.empty),.slice [] true,.slice [] true,.slice [] true]
def frs(b:Nat)(n:Int):List (List D):=(List.range b).map fun(j:Nat)=>irw ((j:Int)+1) n
def bhd(b g:Nat)(n:Int):List (List D):=(List.range g).map fun(j:Nat)=>irw ((b:Int)+j+2) n
theorem frs_s(b:Nat)(n:Int):frs (b+1) n=frs b n++[irw ((b:Int)+1) n]:=by simp[frs,List.range_succ]
theorem bhd_s(b g:Nat)(n:Int):bhd b (g+1) n=bhd b g n++[irw ((b:Int)+g+2) n]:=by simp[bhd,List.range_succ]
theorem frs_len(b:Nat)(n:Int):(frs b n).length=b:=by simp[frs]
theorem bhd_len(b g:Nat)(n:Int):(bhd b g n).length=g:=by simp[bhd]
theorem ZT(b:Nat)(n:Int):A3 (frs b n)=true:=by unfold frs;exact Ar (fun j=>by simp[Af,D.pure,A3]) _
theorem bhd_pure(b g:Nat)(n:Int):A3 (bhd b g n)=true:=by unfold bhd;exact Ar (fun j=>by simp[Af,D.pure,A3]) _
theorem LP{α:Type}{f g:α->List D}(h:∀ x,loL (f x) (g x)):∀ l:List α,Cx (l.map f) (l.map g)
 |[]=>by simp[Cx]
 |x::l=>by simp only[A0j,Cx];exact⟨h x,LP h l⟩
theorem RA:∀ {a b c d:List (List D)},Cx a b->Cx c d->Cx (a++c) (b++d)
 |[],[],_,_,_,h=>h
 |[],_::_,_,_,h,_=>by simp[Cx] at h
 |_::_,[],_,_,h,_=>by simp[Cx] at h
 |x::a,y::b,c,d,h,k=>by simp only[Cx,A0d] at h|-;exact⟨h.1,RA h.2 k⟩
theorem gap_lo(b g:Nat)(n:Int):Cx (frs b n++bhd b g n) (((E2 b g n).map snN).map Bl):=by
 have h:∀ (i:Nat) (k:Int),k=i->loL (irw k n) (Bl (snN (i,SMu.inc n))):=fun i k hk=>by
  subst hk
  simp[snN,Bl,SMu.m,Ap,Kz,A4,Hw,Hx,zV,loL,EE,Cx,Am]
 unfold E2 frs bhd
 simp only[A0F,A13]
 exact RA (LP (fun j=>h _ _ (by simp)) _) (LP (fun j=>h _ _ (by simp)) _)
theorem V2(b g:Nat)(n:Int){j:Nat}(h:j<b):((E2 b g n).getD j (0,.put))=(j+1,SMu.inc n):=by
 simp[E2,A02,A0o,h]
theorem ZQ(b g:Nat)(n:Int)(h:0<g):((E2 b g n).getD b (0,.put))=(b+2,SMu.inc n):=by
 simp[E2,A02,A0p,h]
abbrev gpX(X:List (List D))(a:Nat):Hp:=[(a,.grow X 20)]
abbrev mtB(n:Int):Blk:=.rows [[.val (.int .i64 3),.val (.string tN),.val (.string ByteArray.empty),.val (.int .i64 n),.val (.bool false),.val (.int .i64 0),.val (.bool false),.val (.int .i64 0),.val (.string ByteArray.empty),.slice [] true,.slice [] true,.val (.bool false),.val (.int .i64 0),.val (.bool false),.val (.int .i64 0),.val (.string ByteArray.empty),.slice [] true,.slice [] true,.slice [] true]] 19
theorem HM:∀ {a b:List (List D)},A3 a=true->A3 b=true->A3 (a++b)=true
 |[],_,_,h=>h
 |x::a,b,h,k=>by simp only[A3,A09,A0d] at h|-;exact⟨h.1,HM h.2 k⟩
theorem c_gap(b g:Nat)(n:Int)(hb:b<=30)(hg0:1<=g)(hg:g<=30)(hn: -9223372036854775808<=n/\n<=9223372036854775807):
  A0 prog 3 [.val (.int .i64 b),.val (.int .i64 g),.val (.int .i64 n)] (.val (.bool true)):=by
 have hok:=gap_ok b g n hb hg hn
 have hll:(E2 b g n).length=b+g:=by simp[E2]
 have hE:=SB 1 (E2 b g n) hok
 have hD:=Sz 1 (E2 b g n) hok
 have hI:=UW (E2 b g n) 1 b (b+2) hok (by omega) (fun j hj=>by rw[V2 b g n hj]) (by rw[ZQ b g n hg0]) (by omega) (by omega)
 obtain⟨T,h0,hRun⟩:=trF fun _=>.inc n
 have oF:=AN (puF 1 (E2 b g n))
 have hN:=c_sNew 4 (by decide) (by decide)
 have hP:=Ve 4 1 b (E2 b g n).length T (fun j=>((E2 b g n).getD j (0,.put)).2.m) (cdF fun _=>.inc n) ((puF 1 (E2 b g n)).map byD) (((E2 b g n).map snN).map Bl) oF (by unfold BI;omega) (by decide) (by decide) hI h0 (fun i hi=>by rw[show((E2 b g n).getD i (0,.put)).2.m=(SMu.inc n).m from by rw[V2 b g n hi]];exact hRun i (by omega)) hD
 have hP:=hP.drop (Nt _ _)
 have hV:=Uz 4 1 T (fun j=>((E2 b g n).getD j (0,.put)).2.m) (cdF fun _=>.inc n) b (by decide) (by decide) (by omega)
 have hdf:=dnfl (cdF fun _=>.inc n) b
 have hK:=Vg
 have hE:=hE.lo (show loL [.agg [.val (.int .u64 1),.slice (frs b n++bhd b g n) false]] [.agg (Fl 1 (E2 b g n))] by
  unfold Fl
  simp only[loL,LO,EE,Am,and_true,true_and]
  exact⟨Am _,gap_lo b g n,fun h=>h⟩)
 have hX:=Bd (rgF 4 T b)
 have lX:((rgF 4 T b).map fun t=>[A8 t]).length=4:=by simp[Fy]
 have oR:=Dn 1 (fun j=>((E2 b g n).getD j (0,.put)).2.m) (cdF fun _=>.inc n) b
 have lR:=GL 1 (fun j=>((E2 b g n).getD j (0,.put)).2.m) (cdF fun _=>.inc n) b
 have oG:=Bd (List.replicate 4 .nil)
 unfold svH rgB at hP
 unfold rgB at hN
 unfold nwH at hP
 generalize((rgF 4 T b).map fun t=>[A8 t])=X at*
 generalize raF 1 (fun j=>((E2 b g n).getD j (0,.put)).2.m) (cdF fun _=>.inc n) b=R at*
 generalize((List.replicate 4 GT.nil).map fun t=>[A8 t])=Z at*
 generalize(puF 1 (E2 b g n)).map byD=F at*
 generalize dnF (cdF fun _=>.inc n) b=dn at*
 generalize flF (cdF fun _=>.inc n) b=fl at*
 have c1:decide ((b:Int)<0)=false:=decide_eq_false (by omega)
 have c2:decide ((g:Int)<1)=false:=decide_eq_false (by omega)
 have c3:decide ((30:Int)<b)=false:=decide_eq_false (by omega)
 have c4:decide ((30:Int)<g)=false:=decide_eq_false (by omega)
 refine A0.of_awp func3 rfl ntmps3 (by kernel_rfl) (by simp) (congrArg Array.toList results3) ?_
 refine Zy ?_
 (have z:=Za c1<|Za c2<|Za c3 c4;(try push_cast[z])<;>repeat' (first|apply Zi<;>intro _|refine Zc hK ?_|exact Zo|with_reducible apply Za)<;>try push_cast[z])
 have oA:=fun i=>ZT i n
 have lA:=fun i=>frs_len i n
 have oB:=fun i=>bhd_pure b i n
 have lB:=fun i=>bhd_len b i n
 refine Zl (fun i=>i<=b) (fun i=>⟨[(9,.val (.int .i64 i)),(8,.ref 144 0 0 19),(7,.gref 168 i),(6,.val (.bool false)),(0,.val (.int .i64 b)),(1,.val (.int .i64 g))],[(168,.grow (frs i n) 20),(144,mtB n)],88⟩) (fun i=>b-i) 0 (A0J _) ?_ fun i hi=>?_
 ·refine Aw.trans ?_ (Aw.trans (Aw.nilgrowE (t:=7) (env:=[(9,.val (.int .i64 0)),(8,.ref 144 0 0 19),(6,.val (.bool false)),(0,.val (.int .i64 b)),(1,.val (.int .i64 g))]) (hp:=[(144,mtB n)]) (nx:=84) 20) ?_)
  ·apply Zw<;>push_cast
  ·apply Zw<;>push_cast [frs,List.range_zero,A0G]
 ·have oAi:=oA i
  have lAi:=lA i
  have hs:=frs_s i n
  have oAs:=oA (i+1)
  rw[hs] at oAs
  generalize hA:frs i n=A at*
  have w1:IntKind.i64.wrap ((i:Int)+1)=(i:Int)+1:=Aa (by omega) (by omega)
  have w2:IntKind.u64.wrap ((i:Int)+1)=(i:Int)+1:=Hi (by omega) (by omega)
  have w3:IntKind.u64.wrap (i:Int)=i:=Hi (by omega) (by omega)
  push_cast
  refine Al (fun ha=>?_) (fun ha=>?_)
  ·have hib:i<b:=by simpa using ha
   (have z:=Za @oAi<|Za @lAi<|Za w1<|Za w2 w3;(try push_cast[z])<;>repeat' (first|apply Zi<;>intro _|exact Zo|with_reducible apply Za)<;>try push_cast[z])
   all_goals first|omega|(intro y hy;cases A0a.1 hy;rfl)|(intro y hy d hd;cases A0a.1 hy;simp only[A0q,A0Y,or_false] at hd;rcases hd with rfl|rfl|rfl|rfl|rfl|rfl|rfl|rfl|rfl|rfl|rfl|rfl|rfl|rfl|rfl|rfl|rfl|rfl|rfl|rfl<;>rfl)|skip
   refine⟨i+1,by omega,by omega,?_⟩
   rw[hs]
   apply Zr [(168,256)] rfl<;>push_cast [oAs,w1]
  ·have hib:i=b:=by simp at ha;omega
   subst hib
   (have z:=Za @oAi @lAi;(try push_cast[z])<;>repeat' (first|apply Zi<;>intro _|exact Zo|with_reducible apply Za)<;>try push_cast[z])
   refine Zl (fun j=>j<=g) (fun j=>⟨[(10,.val (.int .i64 j)),(8,.ref 144 0 0 19),(7,.gref 168 (i+j)),(6,.val (.bool false)),(0,.val (.int .i64 i)),(1,.val (.int .i64 g))],[(168,.grow (A++bhd i j n) 20),(144,mtB n)],96⟩) (fun j=>g-j) 0 (A0J _) ?_ fun j hj=>?_
   ·rw[show bhd i 0 n=[] from rfl,A0R]
    apply Zw<;>push_cast [oAi]
   ·have oBj:=oB j
    have lBj:=lB j
    have hs2:=bhd_s i j n
    have oC:=HM oAi oBj
    have oC1:=HM oAi (oB (j+1))
    have lC:(A++bhd i j n).length=i+j:=by rw[A04,lAi,lBj]
    rw[hs2,<-A0c] at oC1
    generalize hC:A++bhd i j n=C at*
    have v1:IntKind.i64.wrap ((i:Int)+j)=(i:Int)+j:=Aa (by omega) (by omega)
    have v2:IntKind.u64.wrap ((i:Int)+j)=(i:Int)+j:=Hi (by omega) (by omega)
    have v3:IntKind.u64.wrap ((i:Int)+j+2)=(i:Int)+j+2:=Hi (by omega) (by omega)
    have v4:IntKind.i64.wrap ((j:Int)+1)=(j:Int)+1:=Aa (by omega) (by omega)
    push_cast
    refine Al (fun ha2=>?_) (fun ha2=>?_)
    ·have hjg:j<g:=by simpa using ha2
     (have z:=Za oC<|Za lC<|Za v1<|Za v2<|Za v3 v4;(try push_cast[z])<;>repeat' (first|apply Zi<;>intro _|exact Zo|with_reducible apply Za)<;>try push_cast[z])
     all_goals first|omega|(intro y hy;cases A0a.1 hy;rfl)|(intro y hy d hd;cases A0a.1 hy;simp only[A0q,A0Y,or_false] at hd;rcases hd with rfl|rfl|rfl|rfl|rfl|rfl|rfl|rfl|rfl|rfl|rfl|rfl|rfl|rfl|rfl|rfl|rfl|rfl|rfl|rfl<;>rfl)|skip
     refine⟨j+1,by omega,by omega,?_⟩
     rw[hs2,<-A0c,hC,show i+(j+1)=i+j+1 from rfl]
     apply Zr [(168,288)] rfl<;>push_cast [oC1,v4]
    ·have hjg:j=g:=by simp at ha2;omega
     subst hjg
     rw[hA,hC] at hE
     generalize hm:min (i+1) 4=m at*
     have c0:(if 4<=4/\4<=4/\4<=9223372036854775807 then D.slice X true else .sref 284 0 4 4 1)=.slice X true:=if_pos ⟨A08 _,A08 _,by omega⟩
     have et:X.take 4=X:=A05 (by omega)
     have w4:IntKind.i64.wrap ((dn:Int)+fl)=(i:Int):=by rw[Aa (by omega) (by omega)];omega
     have w5:IntKind.u64.wrap (i:Int)=i:=Hi (by omega) (by omega)
     (have z:=Za oC<|Za lC<|Za oF<|Za oG<|Za hX<|Za lX<|Za oR<|Za lR<|Za et<|Za w4<|Za w5 c0;(try push_cast[z])<;>repeat' (first|apply Zi<;>intro _|refine Zs [] hN ?_|refine Zs [(1,280),(3,282),(7,284),(5,286)] hP ?_|refine Zc hK ?_|exact Zo|with_reducible apply Za|((with_reducible show A1 _ _ _ _ _ _ _ _);refine A1.giveF (gpX C 168) _ rfl (by exact hE ..) (by first|exact .inl rfl|exact .inr ⟨_,_,_,rfl,rfl,rfl⟩) ?_ ?_ ?_ ?_;(· push_cast[z]<;>(with_unfolding_all exact A9 _));(· push_cast[z]<;>first|exact fun _=>trivial|(with_unfolding_all exact A9 _));(· push_cast[z]);try push_cast[z])|((with_reducible show A1 _ _ _ _ _ _ _ _);refine A1.lend (svZ 280 282 286 430 284 4 i m X R) _ rfl (by exact hV ..) (by first|exact .inl rfl|exact .inr ⟨_,_,_,rfl,rfl,rfl⟩) ?_ ?_ ?_ (by first|rfl|push_cast [z]) ?_;(· push_cast[z]<;>(with_unfolding_all exact A9 _));(· push_cast[z]<;>first|exact fun _=>trivial|(with_unfolding_all exact A9 _));(· push_cast[z]);try push_cast[z])|fail)<;>try push_cast[z])
     all_goals first|omega|skip
theorem law_gap(b g n:Int)(hn: -9223372036854775808<=n/\n<=9223372036854775807):
  A0 prog 3 [.val (.int .i64 b),.val (.int .i64 g),.val (.int .i64 n)] (.val (.bool true)):=by
 have hK:=Vg
 by_cases h1:b<0
 ·have b1:decide (b<0)=true:=decide_eq_true h1
  refine Zf [] func3 rfl ntmps3 results3 ?_
  (have z:=b1;(try push_cast[z])<;>repeat' (first|apply Zi<;>intro _|refine Zc hK ?_|exact Zo|with_reducible apply Za)<;>try push_cast[z])
 have b1:decide (b<0)=false:=decide_eq_false h1
 by_cases h2:g<1
 ·have b2:decide (g<1)=true:=decide_eq_true h2
  refine Zf [] func3 rfl ntmps3 results3 ?_
  (have z:=Za b1 b2;(try push_cast[z])<;>repeat' (first|apply Zi<;>intro _|refine Zc hK ?_|exact Zo|with_reducible apply Za)<;>try push_cast[z])
 have b2:decide (g<1)=false:=decide_eq_false h2
 by_cases h3:30<b
 ·have b3:decide (30<b)=true:=decide_eq_true h3
  refine Zf [] func3 rfl ntmps3 results3 ?_
  (have z:=Za b1<|Za b2 b3;(try push_cast[z])<;>repeat' (first|apply Zi<;>intro _|refine Zc hK ?_|exact Zo|with_reducible apply Za)<;>try push_cast[z])
 have b3:decide (30<b)=false:=decide_eq_false h3
 by_cases h4:30<g
 ·have b4:decide (30<g)=true:=decide_eq_true h4
  refine Zf [] func3 rfl ntmps3 results3 ?_
  (have z:=Za b1<|Za b2<|Za b3 b4;(try push_cast[z])<;>repeat' (first|apply Zi<;>intro _|refine Zc hK ?_|exact Zo|with_reducible apply Za)<;>try push_cast[z])
 obtain⟨b,rfl⟩:=Int.eq_ofNat_of_zero_le (show 0<=b by omega)
 obtain⟨g,rfl⟩:=Int.eq_ofNat_of_zero_le (show 0<=g by omega)
 exact c_gap b g n (by omega) (by omega) (by omega) hn
end Go.Ab
