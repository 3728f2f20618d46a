/- The layer by which the program is walked, and what its functions do: part 15 of 15. -/
import Derived.Test.YtacnknlmijkobaaGreatDoorV13
import Derived.Laws.Cover1
set_option maxHeartbeats 4000000
set_option maxRecDepth 20000
set_option linter.unusedVariables false
set_option linter.unusedSimpArgs false
set_option linter.unnecessarySimpa false
set_option linter.unusedSectionVars false
namespace Go.Ab
open Go.Proofs Go.Proofs.Tryz
theorem Lj(a b:ByteArray×GV):A0 prog 194 [.slice [A7 a,A7 b] false,.val (.string a.1)] (.tup [.agg (A5 a.2),.val (.bool true)]):=by
 rw[Ah,Ah]
 obtain⟨x1,x2,x3,x4⟩:=An a.2
 obtain⟨y1,y2,y3,y4⟩:=An b.2
 generalize A5 a.2=V at*
 generalize A5 b.2=U at*
 refine Zf [] func194 rfl ntmps194 results194 ?_
 (have z:=Za x1 y1;(try push_cast[z])<;>repeat' (first|apply Zi<;>intro _|exact Zo|with_reducible apply Za)<;>try push_cast[z])
 refine Zl (fun _=>True) (fun _=>⟨[(11,.val (.int .i64 0)),(10,.val (.int .i64 2)),(9,.slice [.val (.string a.1)::V,.val (.string b.1)::U] false),(1,.val (.string a.1)),(4,.ref 0 0 0 6)],[(0,vB 0 (.slice [] true) (.slice [] true))],400⟩) (fun _=>0) 0 trivial ?_ fun _ _=>?_
 ·apply Zw<;>push_cast [x1,y1]
  all_goals first|rfl|trace_state
 ·(have z:=Za x1<|Za x2<|Za x3<|Za x4<|Za y1<|Za y2<|Za y3 y4;(try push_cast[z])<;>repeat' (first|apply Zi<;>intro _|exact Zo|with_reducible apply Za)<;>try push_cast[z])
  all_goals first|omega|skip
  all_goals trace_state
theorem Qu(a b:ByteArray×GV)(hab:decide (a.1=b.1)=false):A0 prog 194 [.slice [A7 a,A7 b] false,.val (.string b.1)] (.tup [.agg (A5 b.2),.val (.bool true)]):=by
 rw[Ah,Ah]
 obtain⟨x1,x2,x3,x4⟩:=An a.2
 obtain⟨y1,y2,y3,y4⟩:=An b.2
 generalize A5 a.2=V at*
 generalize A5 b.2=U at*
 have w1:IntKind.i64.wrap 1=1:=by decide
 refine Zf [] func194 rfl ntmps194 results194 ?_
 (have z:=Za x1 y1;(try push_cast[z])<;>repeat' (first|apply Zi<;>intro _|exact Zo|with_reducible apply Za)<;>try push_cast[z])
 refine Zl (fun i=>i<=1) (fun i=>⟨[(11,.val (.int .i64 i)),(10,.val (.int .i64 2)),(9,.slice [.val (.string a.1)::V,.val (.string b.1)::U] false),(1,.val (.string b.1)),(4,.ref 0 0 0 6)],[(0,vB 0 (.slice [] true) (.slice [] true))],400⟩) (fun i=>1-i) 0 (by simp) ?_ fun i hi=>?_
 ·apply Zw<;>push_cast [x1,y1]
  all_goals first|rfl|trace_state
 ·obtain rfl|rfl:i=0∨i=1:=by omega
  ·(have z:=Za x1<|Za x2<|Za x3<|Za x4<|Za y1<|Za y2<|Za y3<|Za y4<|Za @hab w1;(try push_cast[z])<;>repeat' (first|apply Zi<;>intro _|exact Zo|with_reducible apply Za)<;>try push_cast[z])
   all_goals first|omega|skip
   refine⟨1,by decide,by decide,?_⟩
   apply Zw<;>push_cast [x1,y1,w1]
   all_goals first|rfl|trace_state
  ·(have z:=Za x1<|Za x2<|Za x3<|Za x4<|Za y1<|Za y2<|Za y3<|Za y4<|Za @hab w1;(try push_cast[z])<;>repeat' (first|apply Zi<;>intro _|exact Zo|with_reducible apply Za)<;>try push_cast[z])
   all_goals first|omega|skip
   all_goals trace_state
theorem c_mtext1(k:ByteArray)(s:ByteArray)(b:ByteArray×GV):A0 prog 191 [.slice [A7 (k,vT s),A7 b] false,.val (.string k)] (.val (.string s)):=by
 have hF:=Lj (k,vT s) b
 have hm:=DX 9
 simp only[NX] at hF
 have o1:=Al (k,vT s)
 have o2:=Al b
 generalize A7 (k,vT s)=A at*
 generalize A7 b=B at*
 refine Zf [] func191 rfl ntmps191 results191 ?_
 (have z:=Za o1 o2;(try push_cast[z])<;>repeat' (first|apply Zi<;>intro _|refine Zc hF ?_|refine Zc (hm ..) ?_|exact Zo|with_reducible apply Za)<;>try push_cast[z])
 all_goals trace_state
theorem SO(k:ByteArray)(s:ByteArray)(a:ByteArray×GV)(h:decide (a.1=k)=false):A0 prog 191 [.slice [A7 a,A7 (k,vT s)] false,.val (.string k)] (.val (.string s)):=by
 have hF:=Qu a (k,vT s) h
 have hm:=DX 9
 simp only[NX] at hF
 have o1:=Al (k,vT s)
 have o2:=Al a
 generalize A7 (k,vT s)=A at*
 generalize A7 a=B at*
 refine Zf [] func191 rfl ntmps191 results191 ?_
 (have z:=Za o1 o2;(try push_cast[z])<;>repeat' (first|apply Zi<;>intro _|refine Zc hF ?_|refine Zc (hm ..) ?_|exact Zo|with_reducible apply Za)<;>try push_cast[z])
 all_goals trace_state
theorem c_need1(k l:ByteArray)(n m:Int)(t:Bool):A0 prog 321 [.slice [nf k n,nf l m] t,.val (.string k)] (.tup [.val (.int .i64 n),.val (.bool true)]):=by
 refine Zf [] func321 rfl ntmps321 results321 ?_
 ((try push_cast)<;>repeat' (first|apply Zi<;>intro _|exact Zp|with_reducible apply Za)<;>try push_cast)
 refine Zl (fun _=>True) (fun _=>⟨[(11,.val (.int .i64 0)),(10,.val (.int .i64 2)),(9,.slice [nf k n,nf l m] t),(1,.val (.string k))],[],400⟩) (fun _=>0) 0 trivial ?_ fun _ _=>?_
 ·apply Zw<;>push_cast
  all_goals first|rfl|trace_state
 ·((try push_cast)<;>repeat' (first|apply Zi<;>intro _|exact Zp|with_reducible apply Za)<;>try push_cast)
  all_goals first|omega|skip
  all_goals trace_state
theorem c_need2(k l:ByteArray)(n m:Int)(t:Bool)(h:decide (k=l)=false):A0 prog 321 [.slice [nf k n,nf l m] t,.val (.string l)] (.tup [.val (.int .i64 m),.val (.bool true)]):=by
 have w1:IntKind.i64.wrap 1=1:=by decide
 refine Zf [] func321 rfl ntmps321 results321 ?_
 ((try push_cast)<;>repeat' (first|apply Zi<;>intro _|exact Zp|with_reducible apply Za)<;>try push_cast)
 refine Zl (fun i=>i<=1) (fun i=>⟨[(11,.val (.int .i64 i)),(10,.val (.int .i64 2)),(9,.slice [nf k n,nf l m] t),(1,.val (.string l))],[],400⟩) (fun i=>1-i) 0 (by simp) ?_ fun i hi=>?_
 ·apply Zw<;>push_cast
  all_goals first|rfl|trace_state
 ·obtain rfl|rfl:i=0∨i=1:=by omega
  ·(have z:=Za h w1;(try push_cast[z])<;>repeat' (first|apply Zi<;>intro _|exact Zo|with_reducible apply Za)<;>try push_cast[z])
   all_goals first|omega|skip
   refine⟨1,by decide,by decide,?_⟩
   apply Zw<;>push_cast [w1]
   all_goals first|rfl|trace_state
  ·(have z:=Za h w1;(try push_cast[z])<;>repeat' (first|apply Zi<;>intro _|exact Zo|with_reducible apply Za)<;>try push_cast[z])
   all_goals first|omega|skip
theorem XA(a b:ByteArray×GV)(hab:decide (a.1=b.1)=false)(hb:Sm b.2):A0 prog 260 [.slice [A7 a,A7 b] false,.val (.string b.1)] (.tup [.agg (A5 b.2),.val (.bool true)]):=by
 have hF:=Qu a b hab
 have hC:=Hd b.2 hb
 have o1:=Al a
 have o2:=Al b
 obtain⟨x1,x2,x3,x4⟩:=An b.2
 generalize A7 a=A at*
 generalize A7 b=B at*
 generalize A5 b.2=V at*
 refine Zf [] func260 rfl ntmps260 results260 ?_
 (have z:=Za o1<|Za o2<|Za x1<|Za x2<|Za x3 x4;(try push_cast[z])<;>repeat' (first|apply Zi<;>intro _|refine Zc hF ?_|refine Zc hC ?_|exact Zo|with_reducible apply Za)<;>try push_cast[z])
theorem Jj(a b:ByteArray×GV)(t:Bool)(hab:decide (a.1=b.1)=false):A0 prog 266 [.agg (A5 (vO [a,b])),.slice [nf a.1 0,nf b.1 0] t] (.slice [A7 a,A7 b] false):=by
 have hm:=DX 9
 have hm2:=DX 10
 have n1:=c_need1 a.1 b.1 0 0 t
 have n2:=c_need2 a.1 b.1 0 0 t hab
 have f1:=Lj a b
 have f2:=Qu a b hab
 rw[Mm]
 simp only[A0h,A0G]
 rw[Ah,Ah] at*
 obtain⟨x1,x2,x3,x4⟩:=An a.2
 obtain⟨y1,y2,y3,y4⟩:=An b.2
 generalize A5 a.2=V at*
 generalize A5 b.2=U at*
 have w1:IntKind.i64.wrap 1=1:=by decide
 have w2:IntKind.i64.wrap 2=2:=by decide
 refine Zf [] func266 rfl ntmps266 results266 ?_
 (have z:=Za x1 y1;(try push_cast[z])<;>repeat' (first|apply Zi<;>intro _|refine Zc (hm ..) ?_|exact Zo|with_reducible apply Za)<;>try push_cast[z])
 all_goals first|omega|skip
 refine Zl (fun i=>i<=2) (fun i=>match i with
  |0=>⟨[(21,.val (.int .i64 0)),(20,.val (.int .i64 2)),(19,.slice [.val (.string a.1)::V,.val (.string b.1)::U] false),(1,.slice [nf a.1 0,nf b.1 0] t),(5,.slice [] true)],[],400⟩
  |1=>⟨[(21,.val (.int .i64 1)),(20,.val (.int .i64 2)),(19,.slice [.val (.string a.1)::V,.val (.string b.1)::U] false),(1,.slice [nf a.1 0,nf b.1 0] t),(5,.gref 48 1)],[(48,.grow [.val (.string a.1)::V] 7)],400⟩
  |_=>⟨[(21,.val (.int .i64 2)),(20,.val (.int .i64 2)),(19,.slice [.val (.string a.1)::V,.val (.string b.1)::U] false),(1,.slice [nf a.1 0,nf b.1 0] t),(5,.slice [.val (.string a.1)::V,.val (.string b.1)::U] false)],[],400⟩) (fun i=>2-i) 0 (by simp) ?_ fun i hi=>?_
 ·apply Zw<;>push_cast [x1,y1]
  all_goals first|rfl|trace_state
 ·obtain rfl|rfl|rfl:i=0∨i=1∨i=2:=by omega
  ·simp only
   (have z:=Za x1<|Za x2<|Za x3<|Za x4<|Za y1<|Za y2<|Za y3<|Za y4<|Za w1 w2;(try push_cast[z])<;>repeat' (first|apply Zi<;>intro _|refine Zc (n1 ..) ?_|refine Zc (hm2 ..) ?_|exact Zo|with_reducible apply Za)<;>try push_cast[z])
   all_goals first|omega|(simp[x2];done)|skip
   refine⟨1,by decide,by decide,?_⟩
   simp only
   apply Zr [(48,984)] rfl<;>push_cast [x1,x2,x3,x4,y1]
   all_goals first|rfl|trace_state
  ·simp only
   (have z:=Za x1<|Za x2<|Za x3<|Za x4<|Za y1<|Za y2<|Za y3<|Za y4<|Za w1 w2;(try push_cast[z])<;>repeat' (first|apply Zi<;>intro _|refine Zc (n2 ..) ?_|refine Zc (hm2 ..) ?_|exact Zo|with_reducible apply Za)<;>try push_cast[z])
   all_goals first|omega|(simp[y2];done)|skip
   ·intro z hz d hd
    cases A0d.1 hz
    rcases A0s.1 hd with rfl|hd
    ·rfl
    ·exact A0u.1 y3 d hd
   ·refine⟨2,by decide,by decide,?_⟩
    simp only
    refine Ar.trans (Ar.fzB (b:=984) (x:=.grow ([.val (.string a.1)::V]++[.val (.string b.1)::U]) 7) rfl) ?_
    push_cast[x1,x2,x3,y1,y2,y3]
    apply Zw<;>push_cast [x1,x2,x3,y1,y2,y3]
    all_goals first|rfl|trace_state
  ·simp only
   (have z:=Za x1<|Za x2<|Za x3<|Za x4<|Za y1<|Za y2<|Za y3<|Za y4<|Za w1 w2;(try push_cast[z])<;>repeat' (first|apply Zi<;>intro _|exact Zo|with_reducible apply Za)<;>try push_cast[z])
   all_goals first|omega|skip
   refine Zl (fun i=>i<=2) (fun i=>⟨[(45,.val (.int .i64 i)),(44,.val (.int .i64 2)),(43,.slice [nf a.1 0,nf b.1 0] t),(5,.slice [.val (.string a.1)::V,.val (.string b.1)::U] false)],[],600⟩) (fun i=>2-i) 0 (by simp) ?_ fun i hi=>?_
   ·apply Zw<;>push_cast [x1,y1]
    all_goals first|rfl|trace_state
   ·obtain rfl|rfl|rfl:i=0∨i=1∨i=2:=by omega
    ·(have z:=Za x1<|Za x2<|Za x3<|Za x4<|Za y1<|Za y2<|Za y3<|Za y4<|Za w1 w2;(try push_cast[z])<;>repeat' (first|apply Zi<;>intro _|refine Zc (f1 ..) ?_|refine Zc (hm2 ..) ?_|exact Zo|with_reducible apply Za)<;>try push_cast[z])
     all_goals first|omega|skip
     refine⟨1,by decide,by decide,?_⟩
     apply Zw<;>push_cast [x1,y1,w1,w2]
     all_goals first|rfl|trace_state
    ·(have z:=Za x1<|Za x2<|Za x3<|Za x4<|Za y1<|Za y2<|Za y3<|Za y4<|Za w1 w2;(try push_cast[z])<;>repeat' (first|apply Zi<;>intro _|refine Zc (f2 ..) ?_|refine Zc (hm2 ..) ?_|exact Zo|with_reducible apply Za)<;>try push_cast[z])
     all_goals first|omega|skip
     refine⟨2,by decide,by decide,?_⟩
     apply Zw<;>push_cast [x1,y1,w1,w2]
     all_goals first|rfl|trace_state
    ·(have z:=Za x1<|Za x2<|Za x3<|Za x4<|Za y1<|Za y2<|Za y3<|Za y4<|Za w1 w2;(try push_cast[z])<;>repeat' (first|apply Zi<;>intro _|exact Zo|with_reducible apply Za)<;>try push_cast[z])
     all_goals first|omega|skip
     all_goals trace_state
theorem Lf(k:Int)(a:ByteArray)(n:Int)(v:GV):Ao (GM.mk k a ByteArray.empty n false zV false v [])=[.val (.int .i64 k),.val (.string a),.val (.string ByteArray.empty),.val (.int .i64 n),.val (.bool false),.val (.int .i64 0),.val (.bool false),.val (.int .i64 0),.val (.string ByteArray.empty),.slice [] false,.slice [] false,.val (.bool false)]++A5 v++[.slice [] false]:=by
 rw[Bt];rfl
theorem Xv(n:Int):A0 prog 193 [.slice [A7 (tBy,vI n),A7 (Cp,vT tN)] false] (.agg (Ao (GM.mk 0 tN ByteArray.empty n false zV false zV []))):=by
 have hF:=Lj (tBy,vI n) (Cp,vT tN)
 have hT:=SO Cp tN (tBy,vI n) (show decide (tBy=Cp)=false by decide)
 have hm:=DX 9
 simp only[KV] at hF
 have o1:=Al (tBy,vI n)
 have o2:=Al (Cp,vT tN)
 rw[Lf,enc_Z]
 generalize A7 (tBy,vI n)=A at*
 generalize A7 (Cp,vT tN)=B at*
 refine Zf [] func193 rfl ntmps193 results193 ?_
 (have z:=Za o1 o2;(try push_cast[z])<;>repeat' (first|apply Zi<;>intro _|refine Zc hF ?_|refine Zc (hm ..) ?_|refine Zc hT ?_|exact Zo|with_reducible apply Za)<;>try push_cast[z])
 all_goals trace_state
theorem Xu:A0 prog 259 [.slice [A7 (Cp,vT tK),A7 (Cz,Bx)] false] (.agg (Ao (GM.mk 0 tK ByteArray.empty 0 false zV false Bx []))):=by
 have hC:=XA (Cp,vT tK) (Cz,Bx) (by decide) (.mk _ _ _ _ _ _ (by decide) (by decide) (fun _ h=>by cases h) (fun _ h=>by cases h) (by decide) (by decide) (fun _ h=>by cases h))
 have hT:=c_mtext1 Cp tK (Cz,Bx)
 have o1:=Al (Cp,vT tK)
 have o2:=Al (Cz,Bx)
 simp only[Se] at hC
 rw[Lf,Se]
 generalize A7 (Cp,vT tK)=A at*
 generalize A7 (Cz,Bx)=B at*
 refine Zf [] func259 rfl ntmps259 results259 ?_
 (have z:=Za o1 o2;(try push_cast[z])<;>repeat' (first|apply Zi<;>intro _|refine Zc hT ?_|refine Zc hC ?_|exact Zo|with_reducible apply Za)<;>try push_cast[z])
 all_goals trace_state
theorem c_mread(m:SMu):A2 prog 201 [.mref 1,.agg (A5 m.o)] [(1,.map shE 7)] (.agg (Ao m.m)) [(1,.map shE 7)]:=by
 have hn:=LZ
 have hm:=DX 12
 have ho:∀ v:GV,A5 (vO [(Ei,v),(Eh,vT m.name)])=A5 (vO [(Ei,v),(Eh,vT m.name)]):=fun _=>rfl
 have h1:=Jj (Ei,m.args) (Eh,vT m.name) false (show decide (Ei=Eh)=false by decide)
 have f1:=Lj (Ei,m.args) (Eh,vT m.name)
 have t1:=SO Eh m.name (Ei,m.args) (show decide (Ei=Eh)=false by decide)
 change A0 _ _ [.agg (A5 m.o),_] _ at h1
 obtain⟨x1,x2,x3,x4⟩:=An m.o
 obtain⟨y1,y2,y3,y4⟩:=An m.args
 have o1:=Al (Ei,m.args)
 have o2:=Al (Eh,vT m.name)
 generalize A5 m.o=V at*
 generalize A7 (Ei,m.args)=A at*
 generalize A7 (Eh,vT m.name)=B at*
 cases m with
 |inc n=>
  have h2:=Jj (tBy,vI n) (Cp,vT tN) true (show decide (tBy=Cp)=false by decide)
  change A0 _ _ [.agg (A5 (SMu.inc n).args),_] _ at h2
  have h3:=Xv n
  rw[Lf,enc_Z] at h3
  rw[Mq]
  have p1:=Al (tBy,vI n)
  have p2:=Al (Cp,vT tN)
  generalize A5 (SMu.inc n).args=W at*
  generalize A7 (tBy,vI n)=CC at*
  generalize A7 (Cp,vT tN)=DD at*
  change A0 _ _ _ (.val (.string Gz)) at t1
  unfold shE
  refine Zd [] func201 rfl ntmps201 results201 ?_
  (have z:=Za hn<|Za x1<|Za x2<|Za x3<|Za x4<|Za y1<|Za y2<|Za y3<|Za y4<|Za o1<|Za o2<|Za p1 p2;(try push_cast[z])<;>repeat' (first|apply Zi<;>intro _|refine Zg h1 ?_ ?_|refine Zc (f1 ..) ?_|refine Zc (t1 ..) ?_|refine Zc (hm ..) ?_|refine Zc h2 ?_|refine Zv h3 ?_|exact Zo|with_reducible apply Za)<;>try push_cast[z])
  apply Zw<;>push_cast
 |put=>
  have h2:=Jj (Cp,vT tK) (Cz,Bx) false (show decide (Cp=Cz)=false by decide)
  change A0 _ _ [.agg (A5 SMu.put.args),_] _ at h2
  have h3:=Xu
  rw[Lf,Se] at h3
  rw[Mp]
  have p1:=Al (Cp,vT tK)
  have p2:=Al (Cz,Bx)
  generalize A5 SMu.put.args=W at*
  generalize A7 (Cp,vT tK)=CC at*
  generalize A7 (Cz,Bx)=DD at*
  change A0 _ _ _ (.val (.string Gx)) at t1
  unfold shE
  refine Zd [] func201 rfl ntmps201 results201 ?_
  (have z:=Za hn<|Za x1<|Za x2<|Za x3<|Za x4<|Za y1<|Za y2<|Za y3<|Za y4<|Za o1<|Za o2<|Za p1 p2;(try push_cast[z])<;>repeat' (first|apply Zi<;>intro _|refine Zg h1 ?_ ?_|refine Zc (f1 ..) ?_|refine Zc (t1 ..) ?_|refine Zc (hm ..) ?_|refine Zc h2 ?_|refine Zv h3 ?_|exact Zo|with_reducible apply Za)<;>try push_cast[z])
  apply Zw<;>push_cast
theorem c_Of1(m:SMu)(Z:List D)(z1:Ag Z=true)(z2:Z.drop 19=[]):A2 prog 221 [.ptr (A5 m.o) 0,.ref 1 0 0 19] [(1,.rows [Z] 19)] (.tup []) [(1,.rows [Ao m.m] 19)]:=by
 have hS:=SH
 have hR:=c_mread m
 obtain⟨x1,x2,x3,x4⟩:=An m.o
 obtain⟨y1,y2,y3,y4⟩:=Hx m.m
 generalize A5 m.o=V at*
 generalize Ao m.m=U at*
 unfold shE at*
 refine Zd [] func221 rfl ntmps221 results221 ?_
 (have z:=Za x1<|Za x2<|Za x3<|Za x4<|Za y1<|Za y2<|Za y3<|Za y4<|Za z1 z2;(try push_cast[z])<;>repeat' (first|apply Zi<;>intro _|refine Zs [] hS ?_|refine Zs [(1,8)] hR ?_|exact Zo|with_reducible apply Za)<;>try push_cast[z])
 apply Zw<;>push_cast [x1,y1,y2,z1,z2,A0H]
theorem UF(V Z U:List D)(v1:Ag V=true)(z1:Ag Z=true)(u1:Ag U=true)(h:A2 prog 221 [.ptr V 0,.ref 1 0 0 19] [(1,.rows [Z] 19)] (.tup []) [(1,.rows [U] 19)]):
  A2 prog 36 [.func (.func 221) [] [.ptr V 0,.ref 1 0 0 19]] [(1,.rows [Z] 19)] (.val (.int .i64 0)) [(1,.rows [U] 19)]:=by
 refine A2.of_awp_catch [_] func36 rfl ntmps36 (by kernel_rfl) (by simp) (by decide) (congrArg Array.toList results36) (BK [(3,8),(1,1)]) [.ref 3 0 0 1] [(2,.ref 3 0 0 1),(0,.func (.func 221) [] [.ptr V 0,.ref 1 0 0 19])] [(3,.rows [[.val (.int .i64 0)]] 1),(1,.rows [Z] 19)] (.val (.int .i64 0)) [(3,.rows [[.val (.int .i64 0)]] 1),(1,.rows [U] 19)] ?_
 refine Zy ?_
 (have z:=Za v1<|Za z1 u1;(try push_cast[z])<;>repeat' (first|apply Zi<;>intro _|exact Zo|with_reducible apply Za)<;>try push_cast[z])
 refine(show Pu _ _ _ _ _ _ _ _ _ _ _ _ _ _ _ _ _ from⟨?_,?_,?_,?_,?_,?_,?_,?_,?_,?_⟩)
 ·push_cast[v1]
 ·push_cast[v1]
 ·push_cast[v1]
 ·push_cast[v1,C7]
 ·push_cast[v1,z1]
 ·push_cast[v1,z1,Ba]
 ·push_cast[v1,z1,u1]
 ·push_cast[v1,z1,u1]
 ·refine Zy ?_
  (have z:=Za v1<|Za z1 u1;(try push_cast[z])<;>repeat' (first|apply Zi<;>intro _|refine Zt [(1,1)] h ?_|exact Zo|with_reducible apply Za)<;>try push_cast[z])
  refine(show Pt _ _ _ _ _ _ _ _ from⟨BK [],[.ref 3 0 0 1],_,_,YG,?_,?_,?_,?_,?_,.val (.int .i64 0),?_,?_⟩)
  ·push_cast[v1]
  ·push_cast[v1]
  ·push_cast[v1,u1,Ba]
  ·push_cast[v1,u1]
  ·push_cast[v1,u1]
  ·push_cast[v1,u1]
  ·push_cast[v1,u1]
   apply Zw<;>push_cast [v1,u1]
 ·push_cast[v1,u1]
  apply Zw<;>push_cast [v1,u1]
theorem of_ok:Y1:=fun m hm=>by
 have hM:=Uu m.o (sm_o m hm)
 rw[may_o m 1 (by omega)] at hM
 have hY:=TV m hm
 have hC:=UF (A5 m.o) _ (Ao m.m) (BS _) (Ay _) (Ay _) (c_Of1 m (Ao (GM.mk 0 ByteArray.empty ByteArray.empty 0 false zV false zV [])) (Ay _) (A0i (by rw[Bo];exact A0a _)))
 rw[Lg] at hC
 obtain⟨x1,x2,x3,x4⟩:=An m.o
 obtain⟨y1,y2,y3,y4⟩:=Hx m.m
 have y5:(Ao m.m).drop 19=[]:=A0i (by omega)
 generalize A5 m.o=V at*
 generalize Ao m.m=U at*
 refine Zf [0] func151 rfl ntmps151 results151 ?_
 (have z:=Za x1<|Za x2<|Za x3<|Za x4<|Za y1<|Za y2<|Za y3<|Za y4 y5;(try push_cast[z])<;>repeat' (first|apply Zi<;>intro _|refine Zc hM ?_|refine Zs [(1,64)] hC ?_|refine Zc hY ?_|exact Zo|with_reducible apply Za)<;>try push_cast[z])
end Go.Ab
namespace Go.Ab
open Go.RowKit
variable{n:Nat}{P:Program}
def TellsL(n:Nat)(P:Program)(g:Nat)(lb:Array Value)(enc:Nat->Array Value)(m:Nat)(Kw:World->Prop):Prop:=
 ∀(l:Nat) (J:Nat->World->Prop) (Jx:World->Prop),(∀ s W,J s W->Kw W)->(∀ s W W',J s W->Below W.heap.size W W'->J s W')->
  (∀ s W,J s W->s<m->YieldAt Fence.wide (n-1) P l (enc s) W fun e W'=>e=.returned (.bool true)/\J (s+1) W')->
  (∀ W,J m W->YieldAt Fence.wide (n-1) P l (enc m) W fun e W'=>e=.returned (.bool false)/\Jx W')->
  ∀ W,J 0 W->CallsIn Fence.wide n P g (#[.func (.yield l) #[] #[]]++lb) W fun e W'=>(∃ v,e=.returned v)/\Jx W'
theorem VM{g:Operand}{ps:Array Tmp}{assign body:Code}{Q:Exit->Act->World->Prop}{a:Act}{w:World}
  {gf:Nat} {lb:Array Value} (hg:a.eval g=.func (.func gf) #[] lb) (eg:∀ args w,(callFunc gf args).run P w=.ok (.enter gf args) w)
  {enc:Nat->Array Value} {m:Nat} {Kw:World->Prop} (hseq:TellsL (n-1) P gf lb enc m Kw) (hps:∀ s,(enc s).size=ps.size)
  (I:Nat->World->Prop) (Ix:World->Prop) (hK:∀ s W,I s W->Kw W) (hIb:∀ s W W',I s W->Below W.heap.size W W'->I s W') (hIp:∀ s W l r o,w.heap.size<=l->W.heap[l]? =some (.loop r)->I s W->I s (W.putObj l o))
  (hXp:∀ W l r o,w.heap.size<=l->W.heap[l]? =some (.loop r)->Ix W->Ix (W.putObj l o)) (h0:I 0 w) (a₁:Nat->Act)
  (hassign:∀ (l:Nat) (s:Nat) (W:World) (K:Act->World->Prop),K (a₁ s) W->
   assign.wpIn (Fence.wide.inRound l) (n-1-1) P (Exit.then K (fun _ _ _=>False)) {tmps:=(ps.zip (enc s)).foldl (fun t (p,v)=>t.setIfInBounds p v) a.tmps,defers:=[]} W)
  (hbody:∀ (l:Nat) (s:Nat) (W:World),I s W->s<m->body.wpIn (Fence.wide.inRound l) (n-1-1) P (fun e _ W'=>e=.normal/\KeepsOthers W W'/\I (s+1) W') (a₁ s) W)
  (hlast:∀ (l:Nat) (W:World),I m W->body.wpIn (Fence.wide.inRound l) (n-1-1) P (fun e _ W'=>e=.ret/\KeepsOthers W W'/\Ix W') (a₁ m) W)
  (hdone:∀ (D:Nat) (W:World),w.heap.size<=D->Ix W->W.heap[D]? =some (.deferred (some []))->Q .ret {a with defers:= {target:=.collected D,args:=#[]}::a.defers} W):
  (Code.rangeFunc g ps assign body).wpIn Fence.wide n P Q a w:=by
 refine wpIn_rangeFunc ?_
 intro fn hfn
 obtain⟨rec,hrec⟩:∃ rec:LoopState->Option Code->Loop,rec=fun st pe=> {state:=st,pending:=pe,fn,tmps:=a.tmps,params:=ps,assign,body,defers:=w.heap.size}:=⟨_,rfl⟩
 obtain⟨W1,hW1⟩:∃ W1,(w.alloc (.deferred (some []))).alloc (.loop (rec .ready none))=W1:=⟨_,rfl⟩
 have hL1:W1.heap[w.heap.size+1]? =some (.loop (rec .ready none)):=by
  rw[<-hW1];have:=World.alloc_heap_new (w.alloc (.deferred (some []))) (.loop (rec .ready none));rwa[World.size_alloc] at this
 have hK1:W1.heap[w.heap.size]? =some (.deferred (some [])):=by
  rw[<-hW1];exact(Below.heap_alloc _ _ _ (by simp)).trans (World.alloc_heap_new w _)
 have hI1:I 0 W1:=by rw[<-hW1];exact hIb _ _ _ (hIb _ _ _ h0 ((Below.refl _ w).alloc (A0a _) _)) ((Below.refl _ _).alloc (A0a _) _)
 refine⟨w.heap.size+1,[{target:=.collected w.heap.size,args:=#[]}],W1,{target:=.fn (.func gf) lb,args:=#[.func (.yield (w.heap.size+1)) #[] #[]]},W1,gf,
  #[.func (.yield (w.heap.size+1)) #[] #[]]++lb,W1,?_,?_,?_,?_,fun h=>(by cases h),?_⟩
 ·rw[<-hW1,hrec];exact run_enterLoop_outer _ _ _ _ _
 ·simp only[resolve,hg]
  simp[go_sem]
 ·intro f' _;trivial
 ·simp[invoke,go_sem,eg]
 ·refine(hseq (w.heap.size+1) (fun s W=>I s W/\W.heap[w.heap.size+1]? =some (.loop (rec .ready none))/\W.heap[w.heap.size]? =some (.deferred (some [])))
   (fun W=>Ix W/\W.heap[w.heap.size+1]? =some (.loop (rec .done (some .ret)))/\W.heap[w.heap.size]? =some (.deferred (some [])))
   (fun s W h=>hK s W h.1) (fun s W W' h hb=>⟨hIb _ _ _ h.1 hb,(hb.block _ (A0k.1 h.2.1).1).trans h.2.1,(hb.block _ (A0k.1 h.2.2).1).trans h.2.2⟩) ?_ ?_ W1 ⟨hI1,hL1,hK1⟩).mono ?_
  ·rintro s W ⟨hi,hl,hk⟩ hlive
   have hy:=run_yield (P:=P) (args:=enc s) hl (by rw[hrec];exact hps s)
   rw[hrec] at hy
   refine⟨fn,_,assign,body,hy,roundIn_of_wpIn hfn (hassign _ s W _ ⟨_,run_beginRound hl (by rw[hrec]),?_⟩)⟩
   have hlt:w.heap.size+1<W.heap.size:=(A0k.1 hl).1
   have hl2:(W.putObj (w.heap.size+1) (.loop {rec .ready none with state:=.busy})).heap[w.heap.size+1]? =some (.loop {rec .ready none with state:=.busy}):=World.putObj_heap_same hlt
   have hk2:(W.putObj (w.heap.size+1) (.loop {rec .ready none with state:=.busy})).heap[w.heap.size]? =some (.deferred (some [])):=(World.putObj_heap_other (by omega)).trans hk
   refine wpIn_mono (hbody _ s _ (hIp _ _ _ _ _ (by omega) hl hi) hlive) ?_
   rintro e a3 W3 ⟨rfl,hk3,hi3⟩
   have hl3:=hk3.same _ _ hl2 rfl
   have hr:=run_endRound (P:=P) none hl3
   have hlt3:=(A0k.1 hl3).1
   refine⟨_,_,hr,rfl,hIp _ _ _ _ _ (by omega) hl3 hi3,?_,(World.putObj_heap_other (by omega)).trans (hk3.same _ _ hk2 rfl)⟩
   rw[World.putObj_heap_same hlt3,hrec]
   rfl
  ·rintro W ⟨hi,hl,hk⟩
   have hy:=run_yield (P:=P) (args:=enc m) hl (by rw[hrec];exact hps m)
   rw[hrec] at hy
   refine⟨fn,_,assign,body,hy,roundIn_of_wpIn hfn (hassign _ m W _ ⟨_,run_beginRound hl (by rw[hrec]),?_⟩)⟩
   have hlt:w.heap.size+1<W.heap.size:=(A0k.1 hl).1
   have hl2:(W.putObj (w.heap.size+1) (.loop {rec .ready none with state:=.busy})).heap[w.heap.size+1]? =some (.loop {rec .ready none with state:=.busy}):=World.putObj_heap_same hlt
   have hk2:(W.putObj (w.heap.size+1) (.loop {rec .ready none with state:=.busy})).heap[w.heap.size]? =some (.deferred (some [])):=(World.putObj_heap_other (by omega)).trans hk
   refine wpIn_mono (hlast _ _ (hIp _ _ _ _ _ (by omega) hl hi)) ?_
   rintro e a3 W3 ⟨rfl,hk3,hi3⟩
   have hl3:=hk3.same _ _ hl2 rfl
   have hr:=run_endRound (P:=P) (some .ret) hl3
   have hlt3:=(A0k.1 hl3).1
   refine⟨_,_,hr,rfl,hXp _ _ _ _ (by omega) hl3 hi3,?_,(World.putObj_heap_other (by omega)).trans (hk3.same _ _ hk2 rfl)⟩
   rw[World.putObj_heap_same hlt3,hrec]
   rfl
  ·rintro e W2 ⟨⟨v,rfl⟩,hi,hl,hk⟩
   refine⟨some .ret,_,by have:=run_endLoop (P:=P) hl (by rw[hrec];simp);rw[hrec] at this;exact this,wpIn_ret (hdone _ _ (A0a _) (hXp _ _ _ _ (by omega) hl hi) ((World.putObj_heap_other (by omega)).trans hk))⟩
end Go.Ab
namespace Go.Proofs
open Go.Ab Go.Proofs Go.Proofs.Tryz Go.RowKit Go.Shelf
attribute [local go_sem] Oper.semAt_some
theorem Qk(b:UInt8)(t:List UInt8)(h:b.toNat<128):Lib.decodeL (b::t)=(b.toNat,1):=by
 have e:(ByteArray.get! ⟨(b::t).toArray⟩ (0+0))=b:=rfl
 unfold Lib.decodeL Utf8.decode
 simp only[e]
 rw[if_pos (by omega)]
def asc(s:ByteArray)(m:Nat):Prop:=∀ p,p<=m->∃ (c:UInt8) (r:List UInt8),s.data.toList.drop p=c::r/\c.toNat<128
theorem UK{s:ByteArray}{m:Nat}(h:asc s m){p:Nat}(hp:p<=m):p<s.size:=by
 obtain⟨c,r,h1,_⟩:=h p hp
 have:=congrArg List.length h1
 rw[A0v] at this
 have hl:s.data.toList.length=s.size:=rfl
 simp at this
 omega
theorem UJ{s:ByteArray}{m:Nat}(h:asc s m){p:Nat}(hp:p<=m):∃ c:Nat,rnA s p=(c,1)/\c<128:=by
 obtain⟨c,r,h1,h2⟩:=h p hp
 refine⟨c.toNat,?_,h2⟩
 unfold rnA
 rw[h1]
 exact Qk c r h2
set_option maxRecDepth 100000 in
set_option maxHeartbeats 1000000 in
theorem c_runesL(n:Nat)(s:ByteArray)(hs:s.size<=1048576)(m:Nat)(hm:asc s m)(bx:Nat)(w0:World)(hT:∀ W,Below w0.heap.size w0 W->Lib.Utf8Tabs (Tryz.sDecode_ren.g 3) (Tryz.sDecode_ren.g 4) W):
  TellsL n prog 332 #[.pointer (some ⟨bx,0,none⟩)] (LJ s) m (fun W=>Below w0.heap.size w0 W/\W.cell? ⟨bx,0,none⟩=some (.string s)):=by
 intro l J Jx hK hJb hY hX W h0
 refine callsIn_of_wp func332 rfl trivial ?_
 simp only[ntmps332,A0y,A0g,A0t,Nat.reduceAdd,Nat.reduceSub,A1p,A1q,A1C,A1d,A0m,A0c]
 gi_wp2
 gi_loopw [3] (fun p wr=>∃ q:Nat,p=.int .i64 q/\q<=m/\J q wr) (fun p wr=>s.size-(intOf p).toNat)
 case atStart=>exact ⟨0,rfl,A0D _,h0⟩
 case round=>
  obtain⟨q,rfl,hqm,hJ⟩:=hrel
  obtain⟨k1,k2⟩:=hK _ _ hJ
  have hq:=UK hm hqm
  obtain⟨c,hc,hc2⟩:=UJ hm hqm
  have hsl:=Rv s q hq
  have hD:=Any.utf8_DecodeRuneInString Tryz.sDecode (s.extract q s.size) wr (hT wr k1)
  rw[hsl,hc] at hD
  have hY2:=hY q
  unfold LJ at hY2
  rw[hc] at hY2
  have hcr:¬((c:Int)=65533):=by omega
  gi_wp2
  refine⟨trivial,fun h=>(by cases h),(callsIn_wide.2 hD).mono ?_⟩
  rintro e w2 ⟨rfl,hb⟩
  rcases A14 q m with hlt|hge
  ·obtain⟨fn,tmps,assign,body,hy,hR⟩:=hY2 w2 (hJb q wr w2 hJ hb) hlt
   gi_wp2
   refine⟨fun h=>(by cases h),hR.mono ?_⟩
   rintro e w3 ⟨rfl,hJ3⟩
   gi_wp2
   go_roundw
   case rel=>exact ⟨q+1,by simp,hlt,hJ3⟩
   case measure=>simp only[intOf];omega
  ·obtain rfl:q=m:=by omega
   have hX2:=hX w2 (hJb q wr w2 hJ hb)
   unfold LJ at hX2
   rw[hc] at hX2
   obtain⟨fn,tmps,assign,body,hy,hR⟩:=hX2
   gi_wp2
   refine⟨fun h=>(by cases h),hR.mono ?_⟩
   rintro e w3 ⟨rfl,hJ3⟩
   gi_wp2
   refine bodyPost_ret (results_none rfl _ _ _) rfl ?_
   exact⟨⟨_,rfl⟩,hJ3⟩
set_option maxHeartbeats 1000000 in
theorem Xq(n:Nat)(r:Nat)(hr:r<128)(w:World):
  CallsIn Fence.wide n prog 374 #[.int .i32 r] w fun e w'=>e=.returned (.int .i64 1)/\w'=w:=by
 refine callsIn_of_wp func374 rfl trivial ?_
 simp only[ntmps374,A0y,A0g,A0t,Nat.reduceAdd,Nat.reduceSub,A1p,A1q,A1C,A1d,A0m,A0c]
 gi_wp2
 go_ret
 exact⟨rfl,rfl⟩
def PC(r:Nat):Prop:=32<=r/\r≠34/\r≠92
structure PlI(s:ByteArray)(w0:World)(b2 b3 bx:Nat)(p:Nat)(W:World):Prop where
 below:Below w0.heap.size w0 W
 c2:W.heap[b2]? =some (.cells #[.int .i64 0] 3 (0,0))
 c3:W.heap[b3]? =some (.cells #[.int .i64 p] 3 (0,0))
 cx:W.heap[bx]? =some (.cells #[.string s] 9 (0,0))
structure PlX(w0:World)(b2 m:Nat)(W:World):Prop where
 below:Below w0.heap.size w0 W
 c2:W.heap[b2]? =some (.cells #[.int .i64 m] 3 (0,0))
theorem PlI.keepL{s:ByteArray}{w0:World}{b2 b3 bx p:Nat}{W W':World}(h:PlI s w0 b2 b3 bx p W)(hk:CM W W')(hb:Below w0.heap.size w0 W'):PlI s w0 b2 b3 bx p W':=⟨hb,BY hk h.c2,BY hk h.c3,BY hk h.cx⟩
theorem PlX.keepL{w0:World}{b2 m:Nat}{W W':World}(h:PlX w0 b2 m W)(hk:CM W W')(hb:Below w0.heap.size w0 W'):PlX w0 b2 m W':=⟨hb,BY hk h.c2⟩
theorem Jp(W:World)(b k:Nat)(v:Value)(h:k≠b):(W.setCell ⟨b,0,none⟩ v).heap[k]? =W.heap[k]?:=Below.heap_setCell _ _ _ _ h
theorem Jo{W:World}{b:Nat}{u v:Value}{T:TypeId}(h:W.heap[b]? =some (.cells #[u] T (0,0))):(W.setCell ⟨b,0,none⟩ v).heap[b]? =some (.cells #[v] T (0,0)):=by
 simp[World.setCell,Array.getElem?_modify,h]
set_option maxRecDepth 100000 in
set_option maxHeartbeats 4000000 in
theorem w_plain(n:Nat)(s:ByteArray)(hs:s.size<=1048576)(m:Nat)(hm:asc s m)(hp:∀ p,p<m->PC (rnA s p).1)(hq:¬PC (rnA s m).1)(w0:World)(hT:∀ W,Below w0.heap.size w0 W->Lib.Utf8Tabs (Tryz.sDecode_ren.g 3) (Tryz.sDecode_ren.g 4) W):
  CallsIn Fence.wide n prog 354 #[.string s] w0 fun e w'=>e=.returned (.int .i64 m)/\Below w0.heap.size w0 w':=by
 refine callsIn_of_wp_marks func354 rfl trivial ?_
 simp only[ntmps354,A0y,A0g,A0t,Nat.reduceAdd,Nat.reduceSub,A1p,A1q,A1C,A1d,A0m,A0c]
 gi_wp2
 obtain⟨b2,hb2⟩:∃ b2,b2=w0.heap.size:=⟨_,rfl⟩
 have e2:((w0.alloc (.cells #[.int .i64 0] 3)).alloc (.cells #[.int .i64 0] 3)).heap[w0.heap.size]? =some (.cells #[.int .i64 0] 3 (0,0)):=
  (Below.heap_alloc _ _ _ (by simp)).trans (World.alloc_heap_new w0 _)
 have e3:((w0.alloc (.cells #[.int .i64 0] 3)).alloc (.cells #[.int .i64 0] 3)).heap[w0.heap.size+1]? =some (.cells #[.int .i64 0] 3 (0,0)):=by
  have:=World.alloc_heap_new (w0.alloc (.cells #[.int .i64 0] 3)) (.cells #[.int .i64 0] 3)
  rwa[World.size_alloc] at this
 have hb0:Below w0.heap.size w0 ((w0.alloc (.cells #[.int .i64 0] 3)).alloc (.cells #[.int .i64 0] 3)):=((Below.refl _ w0).alloc (A0a _) _).alloc (by simp) _
 generalize(w0.alloc (.cells #[.int .i64 0] 3)).alloc (.cells #[.int .i64 0] 3)=w1 at*
 rw[<-hb2] at e2 e3|-
 have hlo:w0.heap.size<=b2:=by omega
 clear hb2
 refine⟨trivial,fun h=>(by cases h),(Vu (n-1) s w1).mono ?_⟩
 rintro e w2 ⟨rfl,hw2⟩
 obtain⟨bx,hbx⟩:∃ bx,bx=w1.heap.size:=⟨_,rfl⟩
 have k2:CM w1 w2:=by subst hw2;exact CM.below ((Below.refl _ _).alloc (A0a _) _)
 have hb1:Below w0.heap.size w0 w2:=by subst hw2;exact hb0.alloc hb0.size _
 have hx2:w2.heap[bx]? =some (.cells #[.string s] 9 (0,0)):=by subst hw2;rw[hbx];exact World.alloc_heap_new w1 _
 have hne:bx≠b2/\bx≠b2+1:=by
  have h2:=(A0k.1 e2).1
  have h3:=(A0k.1 e3).1
  omega
 rw[<-hbx]
 have hI:PlI s w0 b2 (b2+1) bx 0 w2:=⟨hb1,BY k2 e2,BY k2 e3,hx2⟩
 clear hw2 hbx
 gi_wp2
 refine VM (gf:=332) (lb:=#[.pointer (some ⟨bx,0,none⟩)]) rfl (enters_of func332 (by kernel_rfl) rfl) (c_runesL (n-1) s hs m hm bx w0 hT) (fun _=>rfl) (PlI s w0 b2 (b2+1) bx) (PlX w0 b2 m)
  (fun p W h=>⟨h.below,by simp[World.cell?,h.cx]⟩)
  (fun p W W' h hb=>h.keepL (CM.below hb) (h.below.trans (hb.mono h.below.size)))
  (fun p W l r o hl hr h=>h.keepL (CM.put o hr) (h.below.trans ((Below.refl _ W).grown (grownBy_putObj' W l o) (by have:=h.below.size;omega) (fun k e=>by cases e;have:=hb1.size;omega))))
  (fun W l r o hl hr h=>h.keepL (CM.put o hr) (h.below.trans ((Below.refl _ W).grown (grownBy_putObj' W l o) (by have:=h.below.size;omega) (fun k e=>by cases e;have:=hb1.size;omega))))
  hI
  (fun p=> {tmps:=#[.string s,undef,.pointer (some ⟨b2,0,none⟩),.pointer (some ⟨b2+1,0,none⟩),.int .i64 p,.int .i32 (rnA s p).1,.string s,.func (.func 332) #[] #[.pointer (some ⟨bx,0,none⟩)],.int .i64 p,.int .i32 (rnA s p).1,undef,undef,undef,undef,undef,undef,undef,undef,undef],defers:=[]}) ?assign ?body ?last ?done
 case assign=>
  intro l p W K hK
  unfold LJ
  gi_wp2
  exact hK
 case body=>
  intro l p W hI hp'
  obtain⟨i1,i2,i3,i4⟩:=hI
  have hst:=hp p hp'
  obtain⟨c,hc,hc2⟩:=UJ hm (Nat.le_of_lt hp')
  rw[hc] at hst|-
  simp only at hst|-
  gi_wp2
  refine⟨trivial,fun h=>(by cases h),CallsIn.inRound l ((ML (n-1-1-1) c W).mono ?_)⟩
  rintro e w' ⟨rfl,rfl⟩
  rw[decide_eq_true (show 32<=c/\c≠34/\c≠92 from hst)]
  gi_wp2
  refine⟨trivial,fun h=>(by cases h),CallsIn.inRound l ((Xq (n-1-1-1) c hc2 w').mono ?_)⟩
  rintro e w'' ⟨rfl,rfl⟩
  have c3:w''.cell? ⟨b2+1,0,none⟩=some (.int .i64 p):=by simp[World.cell?,i3]
  have z3:w''.frozen? ⟨b2+1,0,none⟩=false:=by simp[World.frozen?,i3]
  gi_wp2
  rw[show RowKit.wrap64 ((p:Int)+1)=(p:Int)+1 from by have:=UK hm (Nat.le_of_lt hp');unfold RowKit.wrap64;omega]
  refine⟨KeepsOthers.setCell _ _ _,?_,?_,?_,?_⟩
  ·exact i1.setCell (p:=⟨b2+1,0,none⟩) (by show w0.heap.size<=b2+1;omega) _
  ·exact(Jp _ _ _ _ (by omega)).trans i2
  ·exact Jo i3
  ·exact(Jp _ _ _ _ hne.2).trans i4
 case last=>
  intro l W hI
  obtain⟨i1,i2,i3,i4⟩:=hI
  obtain⟨c,hc,hc2⟩:=UJ hm (A0a m)
  rw[hc] at hq|-
  simp only at hq|-
  gi_wp2
  refine⟨trivial,fun h=>(by cases h),CallsIn.inRound l ((ML (n-1-1-1) c W).mono ?_)⟩
  rintro e w' ⟨rfl,rfl⟩
  rw[decide_eq_false (show ¬(32<=c/\c≠34/\c≠92) from hq)]
  have c2:w'.cell? ⟨b2,0,none⟩=some (.int .i64 0):=by simp[World.cell?,i2]
  have z2:w'.frozen? ⟨b2,0,none⟩=false:=by simp[World.frozen?,i2]
  gi_wp2
  refine⟨KeepsOthers.setCell _ _ _,?_,?_⟩
  ·exact i1.setCell (p:=⟨b2,0,none⟩) hlo _
  ·exact Jo i2
 case done=>
  intro D W hD hX hK
  obtain⟨i1,i2⟩:=hX
  refine(show Exit.inBlock 0 _ _ _ _ from ?_)
  simp only[Exit.inBlock,Exit.then]
  refine⟨by simp,.inl ⟨_,_,rfl,run_takeDeferred hK,?_⟩⟩
  have cD:(W.putObj D (.deferred none)).heap[b2]? =some (.cells #[.int .i64 m] 3 (0,0)):=(World.putObj_heap_other (fun h=>by subst h;rw[i2] at hK;cases hK)).trans i2
  refine⟨.int .i64 m,?_,rfl,?_⟩
  ·have c2:(W.putObj D (.deferred none)).cell? ⟨b2,0,none⟩=some (.int .i64 m):=by simp[World.cell?,cD]
   have ha:=isAgg3
   have hr:f354.results=#[.cell 2 3]:=rfl
   simp[results,hr,loadVar,asAddr,c2,ha,go_sem]
  ·exact i1.grown (grownBy_putObj' W D _) (by have:=i1.size;omega) (fun k e=>by cases e;have:=hb1.size;omega)
end Go.Proofs
namespace Go.Ab
open Go.Proofs Go.Proofs.Tryz Go.RowKit
abbrev tBl:TypeId:=149
abbrev bdB(a:D)(g len:Nat):Blk:=.pr g (prR tBl [a,.gref 1 len])
abbrev SW:D:=.ref 0 0 0 2
theorem conv_toB(w:World)(k:Nat)(us:Array Value)(h:w.heap[k]? =some (.cells us tBl (0,0)))(h4:us.size=2):(convert 147 291 (.pointer (some ⟨k,0*2+0,none⟩))).run prog w=.ok (.pointer (some ⟨k,0*2+0,none⟩)) w:=by
 obtain⟨j,hj,hj2⟩:∃ j,prog.info? 149=some j/\j.size=2:=⟨_,rfl,by kernel_rfl⟩
 exact Lib.run_to_unsafe w _ underlying147 underlying291 hj (by omega) (by simp[World.shape?,h];exact⟨rfl,rfl⟩) (by show 0*2+0<us.size;omega)
theorem Ur(w:World)(k:Nat)(us:Array Value)(h:w.heap[k]? =some (.cells us tBl (0,0)))(h4:us.size=2):(convert 291 147 (.pointer (some ⟨k,0*2+0,none⟩))).run prog w=.ok (.pointer (some ⟨k,0*2+0,none⟩)) w:=by
 obtain⟨j,hj,hj2⟩:∃ j,prog.info? 149=some j/\j.size=2:=⟨_,rfl,by kernel_rfl⟩
 exact Lib.run_from_unsafe w _ underlying291 underlying147 hj (cells:=2) (e:=tBl) (by simp[World.shape?,h,h4]) (by kernel_rfl)
abbrev bdH(a:D)(t:List UInt8):Hp:=[(1,bdB a 4 t.length),(4,byB 4 t)]
theorem c_ccNilB(t:List UInt8):A2 prog 285 [.ref 1 0 0 2] (bdH QG t) (.tup []) (bdH SW t):=by
 have hN:=Lp (.ref 1 0 0 2)
 unfold bdH
 generalize t.length=len at*
 refine Zd [] func285 rfl ntmps285 results285 ?_
 (have z:=trivial;(try push_cast)<;>repeat' (first|apply Zi<;>intro _|exact Zp|with_reducible apply Za|((with_reducible show A1 _ _ _ _ _ _ _ _);refine A1.loadR (by first|(push_cast;done)|((try push_cast);rfl)) rfl (by first|(push_cast;done)|((try push_cast);rfl)) (by first|(push_cast;done)|((try push_cast);rfl)) (by simp) (by first|rfl|(push_cast;rfl)) (by first|exact .inl rfl|exact .inr ⟨_,_,_,rfl,rfl,rfl⟩) ?_)<;>try push_cast|((with_reducible show A1 _ _ _ _ _ _ _ _);refine A1.convR (by first|(push_cast;done)|((try push_cast);rfl)) (by first|(push_cast;done)|((try push_cast);rfl)) (by exact conv_toB) (by first|exact .inl rfl|exact .inr ⟨_,_,_,rfl,rfl,rfl⟩) ?_)<;>try push_cast|(with_reducible show A1 _ _ _ _ _ _ _ _;refine A1.ext (by(try push_cast);exact hN ..) (by first|exact .inl rfl|exact .inr ⟨_,_,_,rfl,rfl,rfl⟩) rfl ?_)<;>try push_cast|((with_reducible show A1 _ _ _ _ _ _ _ _);refine A1.convR (by first|(push_cast;done)|((try push_cast);rfl)) (by first|(push_cast;done)|((try push_cast);rfl)) (by exact Ur) (by first|exact .inl rfl|exact .inr ⟨_,_,_,rfl,rfl,rfl⟩) ?_)<;>try push_cast|((with_reducible show A1 _ _ _ _ _ _ _ _);refine A1.storeR (.ref 0 0 0 2) 4 (by first|(push_cast;done)|((try push_cast);rfl)) rfl rfl (by first|(push_cast;done)|((try push_cast);rfl)) (by first|(push_cast;done)|((try push_cast);rfl)) (by simp) (by first|(push_cast;done)|rfl|(push_cast;rfl)) trivial (by first|rfl|(push_cast;rfl)) (by first|exact .inl rfl|exact .inr ⟨rfl,rfl⟩) (by first|exact .inl rfl|exact .inr ⟨_,_,_,rfl,rfl,rfl⟩) ?_)<;>try push_cast|fail)<;>try push_cast)
 apply Zw<;>push_cast
def CcOkB(a:D):Prop:=∀ t,A2 prog 285 [.ref 1 0 0 2] (bdH a t) (.tup []) (bdH SW t)
theorem MR(a:D)(hc:CcOkB a)(t:List UInt8)(s:ByteArray)(hne:t++s.data.toList≠[])(hl:t.length+s.size<=1073741824):A2 prog 208 [.ref 1 0 0 2,.val (.string s)] (bdH a t) (.tup [.val (.int .i64 s.size),.val .nilIface]) (bdH SW (t++s.data.toList)):=by
 have hc:=hc t
 obtain⟨j,hj,hz,hs1,hb1⟩:=UP
 have hsl:=underlying39
 have hst:=underlying9
 unfold bdH at*
 have hll:(t++s.data.toList).length=t.length+s.size:=by rw[A04];rfl
 rw[hll]
 refine Zd [] func208 rfl ntmps208 results208 ?_
 (have z:=trivial;(try push_cast)<;>repeat' (first|apply Zi<;>intro _|refine Zs [(1,1),(4,4)] (hc ..) ?_|exact Zp|with_reducible apply Za|((with_reducible show A1 _ _ _ _ _ _ _ _);refine A1.loadR (by first|(push_cast;done)|((try push_cast);rfl)) rfl (by first|(push_cast;done)|((try push_cast);rfl)) (by first|(push_cast;done)|((try push_cast);rfl)) (by simp) (by first|rfl|(push_cast;rfl)) (by first|exact .inl rfl|exact .inr ⟨_,_,_,rfl,rfl,rfl⟩) ?_)<;>try push_cast|((with_reducible show A1 _ _ _ _ _ _ _ _);refine A1.appG hsl hst hj hz hs1 hb1 hne hl (by first|(push_cast;done)|((try push_cast);rfl)) (by first|(push_cast;done)|((try push_cast);rfl)) (by first|(push_cast;done)|((try push_cast);rfl)) (by first|exact .inl rfl|exact .inr ⟨_,_,_,rfl,rfl,rfl⟩) ?_)<;>try push_cast|((with_reducible show A1 _ _ _ _ _ _ _ _);refine A1.storeR (.gref 1 (t.length+s.size)) 88 (by first|(push_cast;done)|((try push_cast);rfl)) rfl rfl (by first|(push_cast;done)|((try push_cast);rfl)) (by first|(push_cast;done)|((try push_cast);rfl)) (by simp) (by first|(push_cast;done)|rfl|(push_cast;rfl)) trivial (by first|rfl|(push_cast;rfl)) (by first|exact .inl rfl|exact .inr ⟨rfl,rfl⟩) (by first|exact .inl rfl|exact .inr ⟨_,_,_,rfl,rfl,rfl⟩) ?_)<;>try push_cast|fail)<;>try push_cast)
 apply Zr [(4,88)] rfl<;>push_cast
 all_goals trace_state
theorem XN(t:List UInt8)(hne:t≠[])(hl:t.length<=1073741824):A2 prog 78 [.ref 1 0 0 2] (bdH SW t) (.val (.string ⟨t.toArray⟩)) []:=by
 have hp:=underlying215
 have hce:prog.cellsOf 5=1:=by kernel_rfl
 unfold bdH
 refine Zd [] func78 rfl ntmps78 results78 ?_
 (have z:=trivial;(try push_cast)<;>repeat' (first|apply Zi<;>intro _|exact Zp|with_reducible apply Za|((with_reducible show A1 _ _ _ _ _ _ _ _);refine A1.loadR (by first|(push_cast;done)|((try push_cast);rfl)) rfl (by first|(push_cast;done)|((try push_cast);rfl)) (by first|(push_cast;done)|((try push_cast);rfl)) (by simp) (by first|rfl|(push_cast;rfl)) (by first|exact .inl rfl|exact .inr ⟨_,_,_,rfl,rfl,rfl⟩) ?_)<;>try push_cast|((with_reducible show A1 _ _ _ _ _ _ _ _);refine A1.usd hne (by first|(push_cast;done)|((try push_cast);rfl)) (by first|(push_cast;done)|((try push_cast);rfl)) (by first|exact .inl rfl|exact .inr ⟨_,_,_,rfl,rfl,rfl⟩) ?_)<;>try push_cast|((with_reducible show A1 _ _ _ _ _ _ _ _);refine A1.ustr hp hce hne hl (by first|(push_cast;done)|((try push_cast);rfl)) (by first|(push_cast;done)|((try push_cast);rfl)) (by first|(push_cast;done)|((try push_cast);rfl)) (by first|exact .inl rfl|exact .inr ⟨_,_,_,rfl,rfl,rfl⟩) ?_)<;>try push_cast|fail)<;>try push_cast)
 ·omega
 ·apply Zw<;>push_cast
end Go.Ab
namespace Go.Ab
open Go.Proofs Go.Proofs.Tryz Go.RowKit Go.Shelf
theorem Ar.nilgrowB{env:Env}{hp:Hp}{nx b:Nat}{T Te:TypeId}:Ar ⟨env,(b,.pr b (prR T [.val (.pointer none),.val (.slice none 0 0)]))::hp,nx⟩ ⟨env,(2*nx,.pr (2*nx) (prG Te []))::(b,.pr (2*nx) (prR T [.val (.pointer none),.gref 1 0]))::hp,nx+1⟩:=by
 intro w0 M0 I0 nt I mu a w r
 have hnone:mu (2*nx)=none:=r.w.fresh _ ⟨by show 2*nx%2=0;omega,A0a _⟩
 have hbb:(⟨env,(b,.pr b (prR T [.val (.pointer none),.val (.slice none 0 0)]))::hp,nx⟩:St).fs.hp b=some (.pr b (prR T [.val (.pointer none),.val (.slice none 0 0)])):=by simp[St.fs,Ad]
 obtain⟨v0,u0,b1,_,hv0,_,k0,us0,b3,b4,b5,b6⟩:=r.w.blk b _ hbb
 have hmm:=Bs (v:=.slice none 0 0) hnone
 have hbne:b≠2*nx:=fun e=>by rw[e,hnone] at b1;cases b1
 have hlk:∀ c z,Ad ((2*nx,Blk.pr (2*nx) (prG Te []))::(b,.pr (2*nx) (prR T [.val (.pointer none),.gref 1 0]))::hp) c=some z->(c=2*nx/\z=.pr (2*nx) (prG Te []))∨(c≠2*nx/\∃ z',(⟨env,(b,.pr b (prR T [.val (.pointer none),.val (.slice none 0 0)]))::hp,nx⟩:St).fs.hp c=some z'/\((c=b/\z=.pr (2*nx) (prR T [.val (.pointer none),.gref 1 0]))∨z=z')):=by
  intro c z h
  simp only[Ad] at h
  by_cases hc:2*nx=c
  ·have:(2*nx==c)=true:=by simp[hc]
   rw[this,cond_true] at h
   exact .inl ⟨hc.symm,(Option.some.inj h).symm⟩
  ·have:(2*nx==c)=false:=by simp[hc]
   rw[this,cond_false] at h
   refine .inr ⟨fun h=>hc h.symm,?_⟩
   by_cases hcb:b=c
   ·have:(b==c)=true:=by simp[hcb]
    rw[this,cond_true] at h
    subst hcb
    exact⟨_,hbb,.inl ⟨rfl,(Option.some.inj h).symm⟩⟩
   ·have:(b==c)=false:=by simp[hcb]
    rw[this,cond_false] at h
    exact⟨z,by simp[St.fs,Ad,this,h],.inr rfl⟩
 have hno:∀ j,Ae (.slice none 0 0)≠some j:=by intro j;simp[Ae]
 have hmu:∀ c,c≠2*nx->Ax mu (2*nx) (.slice none 0 0) c=mu c:=fun c hc=>by simp[Ax,hc]
 refine⟨I,Ax mu (2*nx) (.slice none 0 0),r.size,r.defers,fun t'=>(r.env t').mono (fun _ _=>rfl) (fun _ h=>h) hmm,⟨fun c z h=>?_,fun c z v j h hv hj=>?_,fun c c' z z' v v' j h h' hv hv' hj hj'=>?_,fun c hc=>?_,r.w.lt,r.w.os,r.w.tape,r.w.output,r.w.grown,r.w.old,r.w.iold,r.w.inew,fun c v hc hn=>hmm c v (r.w.keep c v hc hn),fun c z h hc=>?_⟩⟩
 ·rcases hlk c z h with⟨rfl,rfl⟩|⟨h1,z',h2,h3⟩
  ·exact⟨.slice none 0 0,.slice none 0 0,by simp[Ax],by simp[Ax],by simp[undef],by simp[undef],.inl ⟨rfl,rfl⟩⟩
  ·rcases h3 with⟨rfl,rfl⟩|rfl
   ·refine⟨v0,.slice none 0 0,hmm _ _ b1,by simp[Ax],hv0,by simp[undef],k0,us0,b3,b4,b5,fun i hi=>?_⟩
    have h6:=b6 i hi
    match i,hi with
    |0,_=>exact h6
    |1,_=>
     obtain⟨e1,_⟩:=h6
     rw[show nv us0 1=Value.slice none 0 0 from e1]
     exact⟨rfl,none,0,rfl⟩
   ·exact(r.w.blk c z h2).mono (fun _ _=>rfl) (fun _ h=>h) hmm (fun _ _ _ _=>rfl)
 ·rcases hlk c z h with⟨rfl,rfl⟩|⟨h1,z',h2,_⟩
  ·simp only[Ax,if_true,A03] at hv
   subst hv
   exact(hno j hj).elim
  ·rw[hmu c h1] at hv;exact r.w.loc c z' v j h2 hv hj
 ·rcases hlk c z h with⟨rfl,rfl⟩|⟨h1,z1,h2,_⟩
  ·simp only[Ax,if_true,A03] at hv
   subst hv
   exact(hno j hj).elim
  ·rcases hlk c' z' h' with⟨rfl,rfl⟩|⟨h1',z2,h2',_⟩
   ·simp only[Ax,if_true,A03] at hv'
    subst hv'
    exact(hno j hj').elim
   ·rw[hmu c h1] at hv
    rw[hmu c' h1'] at hv'
    exact r.w.inj c c' z1 z2 v v' j h2 h2' hv hv' hj hj'
 ·obtain⟨h1,h2⟩:=hc
  have h2':2*(nx+1)<=c:=h2
  rw[hmu c (by omega)]
  exact r.w.fresh c ⟨h1,by show 2*nx<=c;omega⟩
 ·obtain⟨h1,h2⟩:=hc
  have h2':2*(nx+1)<=c:=h2
  rcases hlk c z h with⟨rfl,rfl⟩|⟨h3,z',h5,_⟩
  ·omega
  ·exact r.w.used c z' h5 ⟨h1,by show 2*nx<=c;omega⟩
theorem c_plain(s:ByteArray)(hs:s.size<=1048576)(m:Nat)(hm:asc s m)(hp:∀ p,p<m->PC (rnA s p).1)(hq:¬PC (rnA s m).1):A0 prog 354 [.val (.string s)] (.val (.int .i64 m)):=
 A0.of_vals (us:=[.string s]) (by kernel_rfl) rfl fun w I hg ho=>⟨.int .i64 m,fun _=>Hk (by have:=UK hm (A0a m);simp only[okP,D2,D3];omega),
  callsIn_wide.1 (w_plain 0 s hs m hm hp hq w (fun W hb=>F4 (by kernel_rfl) (by kernel_rfl) (hg.below hb)))⟩
theorem c_plainA(s:ByteArray)(i:Nat)(x r:List UInt8)(hx:∀ c ∈ x,32<=c.toNat/\c.toNat<128/\c.toNat≠34/\c.toNat≠92)(hz:s.size<=1048576)(h:At s i (x++[34]) r):
  A0 prog 354 [.val (.string (s.extract i s.size))] (.val (.int .i64 x.length)):=by
 have hl:=h.2
 have e1:(s.extract i s.size).data.toList=x++[34]++r:=by
  rw[<-h.1,ByteArray.data_extract,Array.toList_extract]
  show(s.data.toList.drop i).take (s.size-i)=_
  rw[A08 (by rw[A0v];exact A0a _)]
  rfl
 have hsz:(s.extract i s.size).size<=1048576:=by
  have:(s.extract i s.size).size=(s.extract i s.size).data.toList.length:=rfl
  rw[this,e1]
  simp only[A04,A18] at hl|-
  omega
 have hd:∀ p,p<=x.length->∃ c t,(s.extract i s.size).data.toList.drop p=c::t/\c.toNat<128/\(p<x.length->32<=c.toNat/\c.toNat≠34/\c.toNat≠92)/\(p=x.length->c=34):=by
  intro p hp
  rw[e1]
  rcases A14 p x.length with hlt|hge
  ·have hc:=hx x[p] (A0X hlt)
   refine⟨x[p],x.drop (p+1)++[34]++r,?_,hc.2.1,fun _=>⟨hc.1,hc.2.2⟩,fun e=>by omega⟩
   rw[A0b,List.drop_append_of_le_length (by omega),List.drop_eq_getElem_cons hlt]
   simp only[A0c,A0b]
  ·obtain rfl:p=x.length:=by omega
   refine⟨34,r,?_,by decide,fun h=>by omega,fun _=>rfl⟩
   rw[A0b,List.drop_append_of_le_length (A0a _),List.drop_length]
   rfl
 refine c_plain _ hsz x.length (fun p hp=>?_) (fun p hp=>?_) ?_
 ·obtain⟨c,t,h1,h2,_⟩:=hd p hp
  exact⟨c,t,h1,h2⟩
 ·obtain⟨c,t,h1,h2,h3,_⟩:=hd p (Nat.le_of_lt hp)
  unfold rnA
  rw[h1,Qk c t h2]
  have:=h3 hp
  exact⟨this.1,this.2.1,this.2.2⟩
 ·obtain⟨c,t,h1,h2,_,h3⟩:=hd x.length (A0a _)
  unfold rnA
  rw[h1,Qk c t h2,h3 rfl]
  rintro⟨_,h,_⟩
  exact h rfl
theorem bl_ok:∀ x ∈ [Value.pointer none,.slice none 0 0],okP x:=by
 intro x hx
 simp only[A0s,A1x,or_false] at hx
 rcases hx with rfl|rfl<;>trivial
theorem unq_ok:J1:=by
 intro s i x r hx hz h
 obtain⟨hx0,hx⟩:=hx
 have hl:=h.2
 rw[Lv] at hl
 have ht:At s (i+1) (x++[34]) r:=At.tail1 h
 have hpl:=c_plainA s (i+1) x r hx hz ht
 have s0:BT s (i:Int)=34:=h.strAt (j:=0) (c:=34) rfl
 have s2:=ht.strAt (j:=x.length) (c:=34) (by simp)
 obtain⟨c0,hc0⟩:∃ c:UInt8,x[0]? =some c:=by
  cases x with
  |nil=>exact absurd rfl hx0
  |cons c x=>exact ⟨c,rfl⟩
 have s1:=ht.strAt (j:=0) (c:=c0) (by rw[A0q (by rcases x with _|_;exact absurd rfl hx0;simp)];exact hc0)
 have hc:=hx c0 (A1G hc0)
 have hlx:0<x.length:=A1M.2 hx0
 have hex:s.extract (i+1) (i+1+x.length)=⟨x.toArray⟩:=by
  apply ByteArray.ext
  rw[ByteArray.data_extract]
  apply Array.ext'
  rw[Array.toList_extract]
  show((bl s).drop (i+1)).take (i+1+x.length-(i+1))=x
  rw[ht.1,A0b,show i+1+x.length-(i+1)=x.length from by omega,List.take_left]
 obtain⟨p,hp⟩:∃ p,p=i+1:=⟨_,rfl⟩
 obtain⟨p2,hp2⟩:∃ p2,p2=p+x.length:=⟨_,rfl⟩
 have hW:=MR QG c_ccNilB [] ⟨x.toArray⟩ (by simpa using hx0) (by show 0+x.toArray.size<=_;rw[A0y];omega)
 have hS:=XN x hx0 (by omega)
 rw[A0m] at hW
 rw[A11] at s1
 rw[<-hp] at hpl s1 s2 hex
 rw[<-hp2] at s2 hex
 have et:(⟨x.toArray⟩:ByteArray).data.toList=x:=rfl
 have es:(⟨x.toArray⟩:ByteArray).size=x.length:=by show x.toArray.size=_;simp
 rw[et,es] at hW
 unfold bdH at hW hS
 rw[Lv,show i+(x.length+2)=p2+1 from by omega]
 generalize(⟨x.toArray⟩:ByteArray)=X at*
 have b0:decide ((i:Int)<0)=false:=decide_eq_false (by omega)
 have b1:decide ((s.size:Int)<i)=false:=decide_eq_false (by omega)
 have b2:((i:Int)==s.size)=false:=by simp;omega
 have w1:IntKind.i64.wrap ((i:Int)+1)=(p:Int):=by rw[A9 (by omega) (by omega)];omega
 have w2:IntKind.i64.wrap ((p:Int)+x.length)=(p2:Int):=by rw[A9 (by omega) (by omega)];omega
 have w3:IntKind.i64.wrap ((p2:Int)+1)=(p2:Int)+1:=A9 (by omega) (by omega)
 have b3:decide ((p:Int)<s.size)=true:=decide_eq_true (by omega)
 have b4:decide ((p2:Int)<s.size)=true:=decide_eq_true (by omega)
 have b5:((p2:Int)==s.size)=false:=by simp;omega
 have b6:(((c0.toNat:Nat):Int)==34)=false:=by simp;omega
 have b7:(((c0.toNat:Nat):Int)==92)=false:=by simp;omega
 have b8:((x.length:Int)==0)=false:=by simp;omega
 have s2':BT s (p2:Int)=34:=s2
 generalize((c0.toNat:Nat):Int)=k0 at*
 refine Zf [] func337 rfl ntmps337 results337 ?_
 ((try push_cast)<;>repeat' (first|apply Zi<;>intro _|exact Zp|with_reducible apply Za)<;>try push_cast)
 refine AWp.scope ?_
 refine AWp.seq (Zy ?_)
 (have z:=Za b0<|Za b1<|Za b2 s0;(try push_cast[z])<;>repeat' (first|apply Zi<;>intro _|exact Zo|with_reducible apply Za)<;>try push_cast[z])
 all_goals first|omega|skip
 refine AWp.seq (Zy ?_)
 (have z:=Za b0<|Za b1<|Za b2 s0;(try push_cast[z])<;>repeat' (first|apply Zi<;>intro _|exact Zo|with_reducible apply Za)<;>try push_cast[z])
 all_goals first|omega|skip
 refine AWp.seq (Zy ?_)
 ((try push_cast)<;>repeat' (first|apply Zi<;>intro _|exact Zp|with_reducible apply Za)<;>try push_cast)
 refine AWp.seq (AWp.regX (by kernel_rfl) ?_)
 refine A1.of_doesX (KX ti149 bl_ok) (.inl rfl) ?_
 refine A1.go ?_
 push_cast
 refine Zy ?_
 (have z:=w1;(try push_cast[z])<;>repeat' (first|apply Zi<;>intro _|exact Zo|with_reducible apply Za)<;>try push_cast[z])
 refine AWp.loopI mixed (by kernel_rfl) (ι:=Bool) (fun _=>True) (fun b=>⟨[(9,.val (.int .i64 (if b then(p2:Int) else p))),(8,.ref 176 0 0 2),(0,.val (.string s))],[(208,byB 208 (if b then x else [])),(176,bdB (if b then SW else QG) 208 (if b then x.length else 0))],105⟩) (fun b=>if b then 0 else 1) false trivial ?_ fun b _=>?_
 ·refine Ar.trans ?_ (Ar.trans (Ar.nilgrowB (T:=tBl) (Te:=5) (env:=[(9,.val (.int .i64 p)),(8,.ref 176 0 0 2),(0,.val (.string s))]) (hp:=[]) (nx:=104) (b:=176)) ?_)
  ·apply Zw<;>push_cast
  ·apply Zw<;>push_cast
 ·cases b with
  |false=>
   push_cast
   (have z:=Za b3<|Za b6<|Za b7<|Za b8<|Za s1<|Za w2 @hex;(try push_cast[z])<;>repeat' (first|apply Zi<;>intro _|refine Zc (hpl ..) ?_|refine Zs [(1,176),(4,208)] hW ?_|exact Zo|with_reducible apply Za)<;>try push_cast[z])
   all_goals first|omega|skip
   refine⟨true,by decide,?_⟩
   apply Zr [(208,406)] rfl<;>push_cast
  |true=>
   push_cast
   (have z:=Za b4<|Za b5<|Za s2' w3;(try push_cast[z])<;>repeat' (first|apply Zi<;>intro _|refine Zs [(1,176),(4,208)] hS ?_|exact Zo|with_reducible apply Za)<;>try push_cast[z])
   all_goals first|omega|skip
theorem Po(c:Nat)(l:List SN)(h:HL c l):A0 prog 9 [.slice ((puF c l).map byD) false] (.tup [.agg [.val (.int .u64 c),.slice (l.map Bq) false],.val (.int .i64 0)]):=by
 have hD:=c_Decode unq_ok of_ok c l h
 unfold Gn at hD
 rw[A10] at hD
 exact hD
theorem Me(b c sz:Nat){d:D}(h:d.pure=true):gsG b c sz d=d:=by
 cases d with
 |gref b' n=>simp [D.pure] at h
 |_=>rfl
theorem c_clMutS(c k s a n:Nat)(tb:D)(T T':GT)(u:SMu)(oB:tb.pure=true)(b1:AN tb=true)(X:List (List D))(hX:A6 X=true)(hl:X.length=n)(hc:0<c)(hn:a+n<=1000000)
  (hRun:A0 prog 19 [Av T,.agg (Ao u.m)] (.tup [Av T',.val (.int .i64 0)])):
  A2 prog 6 [.ref 1 0 0 6,.agg (Ao u.m)] ((1,clB c k s tb (Ac T))::qgH a 6 n X) (.tup [.val (.int .u64 ((a:Int)+n+1)),.val (.int .i64 0)])
   ([(1,clB c k s tb (Ac T')),(3,.rows [[.val (.int .u64 a),.gsub 0 0 (n+1) 20]] 2),(0,.grow (X++[Bq (a+n+1,u)]) 20)]):=by
 have hZ:=Gd c hc
 have hM:=Qs JJ u.m (Lw u) (by have:=Pv u;omega) (by rw[GF];omega)
 rw[Ju B1 FD u] at hM
 have hA:=c_qAdd a n X u hX hl (by omega)
 have oT:=A3 T
 have o1:=B3 T
 have oT':=A3 T'
 have o1':=B3 T'
 have oU:=Ay u.m
 have oS:=Es (Da (a+n+1,u)) hX
 simp only[Av] at*
 generalize Ac T=th at*
 generalize Ac T'=th' at*
 rw[Fe] at*
 generalize u.m=m at*
 refine Zd [] func6 rfl ntmps6 results6 ?_
 (have z:=Za hX<|Za hl<|Za oB<|Za b1<|Za oT<|Za o1<|Za oT'<|Za o1' oU;(try push_cast[z])<;>repeat' (first|apply Zi<;>intro _|refine Zc hM ?_|refine Zs [(3,3),(5,6)] hA ?_|refine Zc (hRun ..) ?_|exact Zo|with_reducible apply Za|((with_reducible show A1 _ _ _ _ _ _ _ _);refine A1.lend (clH c k s tb th) _ rfl (by exact hZ ..) (by first|exact .inl rfl|exact .inr ⟨_,_,_,rfl,rfl,rfl⟩) ?_ ?_ ?_ (by first|rfl|push_cast [z]) ?_;(· push_cast[z]<;>(with_unfolding_all exact A8 _));(· push_cast[z]<;>first|exact fun _=>trivial|(with_unfolding_all exact A8 _));(· push_cast[z]);try push_cast[z])|fail)<;>try push_cast[z])
 all_goals first|omega|skip
 refine Ar.trans (Ar.toSub (b:=128) (sz:=20) (es:=X++[Bq (a+n+1,u)]) rfl) ?_
 have g1:=Me 128 376 20 oB
 have g2:=Me 128 376 20 oT'
 have g3:∀ v,gsG 128 376 20 (.val v)=.val v:=fun _=>rfl
 have g4:∀ l,gsG 128 376 20 (.tup l)=.tup l:=fun _=>rfl
 have g5:gsG 128 376 20 (.ref 3 0 0 2)=.ref 3 0 0 2:=rfl
 have g6:∀ k,gsG 128 376 20 (.gref 128 k)=.gsub 376 0 k 20:=fun _=>rfl
 apply Zr [(0,376)] rfl<;>push_cast [g1,g2,g3,g4,g5,g6,oS,oB,oT']
abbrev cnH(c:Nat):Hp:=[(1,clB c 0 1 (.val (.pointer none)) (.val (.pointer none))),(3,.rows [[.val (.int .u64 0),.slice [] true]] 2)]
theorem c_clMutN(c:Nat)(T':GT)(u:SMu)(hc:0<c)
  (hRun:A0 prog 19 [Av .nil,.agg (Ao u.m)] (.tup [Av T',.val (.int .i64 0)])):
  A2 prog 6 [.ref 1 0 0 6,.agg (Ao u.m)] (cnH c) (.tup [.val (.int .u64 1),.val (.int .i64 0)])
   [(1,clB c 0 1 (.val (.pointer none)) (Ac T')),(3,.rows [[.val (.int .u64 0),.gsub 0 0 1 20]] 2),(0,.grow [Bq (1,u)] 20)]:=by
 have h:=c_clMutS c 0 1 0 0 (.val (.pointer none)) .nil T' u rfl rfl [] rfl rfl hc (by omega) hRun
 rw[B4] at h
 refine A2.weakIn rfl ?_ h
 have oU:=Ay u.m
 have w:Ar ⟨Be 0 [.ref 1 0 0 6,.agg (Ao u.m)],cnH c,4⟩ ⟨Be 0 [.ref 1 0 0 6,.agg (Ao u.m)],[(3,.rows [[.val (.int .u64 0),.slice [] true]] 2),(1,clB c 0 1 (.val (.pointer none)) (.val (.pointer none)))],4⟩:=by
  apply Zw<;>push_cast [oU]
 refine Ar.trans w (Ar.trans (Ar.nilgrowN (sz:=20) [.val (.int .u64 0)]) ?_)
 apply Zr [(6,8)] rfl<;>push_cast [oU]
theorem XI(c k s a o n:Nat)(tb th:D)(oB:tb.pure=true)(b1:AN tb=true)(oH:th.pure=true)(h1:AN th=true)(X:List (List D))(hX:A6 X=true)(hl:o+n<=X.length)(hc:0<c)(hn:a+n<=1048576):
  A2 prog 7 [.ref 1 0 0 6] ((1,clB c k s tb th)::quH a o n X) (.tup []) ((1,clB c k (a+n+1) tb th)::quH a o n X):=by
 have hZ:=Gd c hc
 have lN:((X.drop o).take n).length=n:=by simp;omega
 have oN:=Cn n _ (Co o X hX)
 have hN:=HC a ((X.drop o).take n) false (by omega)
 rw[lN] at hN
 refine Zd [] func7 rfl ntmps7 results7 ?_
 (have z:=Za hX<|Za hl<|Za oN<|Za oB<|Za b1<|Za oH h1;(try push_cast[z])<;>repeat' (first|apply Zi<;>intro _|exact Zo|with_reducible apply Za|((with_reducible show A1 _ _ _ _ _ _ _ _);refine A1.lend (clH c k s tb th) _ rfl (by exact hZ ..) (by first|exact .inl rfl|exact .inr ⟨_,_,_,rfl,rfl,rfl⟩) ?_ ?_ ?_ (by first|rfl|push_cast [z]) ?_;(· push_cast[z]<;>(with_unfolding_all exact A8 _));(· push_cast[z]<;>first|exact fun _=>trivial|(with_unfolding_all exact A8 _));(· push_cast[z]);try push_cast[z])|((with_reducible show A1 _ _ _ _ _ _ _ _);refine A1.lend (quH a o n X) _ rfl (by exact hN ..) (by first|exact .inl rfl|exact .inr ⟨_,_,_,rfl,rfl,rfl⟩) ?_ ?_ ?_ (by first|rfl|push_cast [z]) ?_;(· push_cast[z]<;>(with_unfolding_all exact A8 _));(· push_cast[z]<;>first|exact fun _=>trivial|(with_unfolding_all exact A8 _));(· push_cast[z]);try push_cast[z])|fail)<;>try push_cast[z])
 all_goals first|omega|skip
 apply Zw<;>push_cast [hX,oB,oH]
theorem XJ(c k s:Nat)(tb th:D)(oB:tb.pure=true)(b1:AN tb=true)(oH:th.pure=true)(h1:AN th=true)(hc:0<c):
  A2 prog 15 [.ref 1 0 0 6] [(1,clB c k s tb th)] (.agg [th]) [(1,clB c k s tb th)]:=by
 have hZ:=Gd c hc
 refine Zd [] func15 rfl ntmps15 results15 ?_
 (have z:=Za oB<|Za b1<|Za oH h1;(try push_cast[z])<;>repeat' (first|apply Zi<;>intro _|exact Zo|with_reducible apply Za|((with_reducible show A1 _ _ _ _ _ _ _ _);refine A1.lend (clH c k s tb th) _ rfl (by exact hZ ..) (by first|exact .inl rfl|exact .inr ⟨_,_,_,rfl,rfl,rfl⟩) ?_ ?_ ?_ (by first|rfl|push_cast [z]) ?_;(· push_cast[z]<;>(with_unfolding_all exact A8 _));(· push_cast[z]<;>first|exact fun _=>trivial|(with_unfolding_all exact A8 _));(· push_cast[z]);try push_cast[z])|fail)<;>try push_cast[z])
 all_goals first|omega|skip
 apply Zw<;>push_cast [oH,oB]
theorem ST{X:List (List D)}{a o n:Nat}{L:List SN}(h:He X o n L)(cl k k' s d:Nat)(m:Int)(T T1 T':GT)(th:D)(oH:th.pure=true)(h1:AN th=true)(hcl:0<cl)
  (hk:k<k') (hk':k'<=1048576) (hd:d<=n) (hn:a+X.length<=1048576)
  (hA:A0 prog 27 [Av T,.slice [opR m] true] (.tup [Av T1,.val (.int .i64 0)]))
  (hR:A0 prog 29 [Av T1,.slice ((L.drop d).map Bq) true] (Av T')):
  A2 prog 10 [.ref 1 0 0 6,rsD cl k k' (a+d) (.sref 7 0 1 1 8)] ((7,.rows [opR m] 8)::(1,clB cl k s (Ac T) th)::quH a o n X) (.val (.int .i64 0))
   ((1,clB cl k' s (Ac T1) (Ac T'))::quH (a+d) (o+d) (n-d) (Au X o (List.replicate d F1))):=by
 have hS:=MO h cl k k' s d (.slice [opR m] true) T T1 T' th oH h1 hcl (by simp[D.pure,A6,Ag]) rfl hk hk' hd hn hA hR
 have oX:=h.pure
 have oT:=A3 T
 refine A2.weakIn (ds:=[.ref 1 0 0 6,rsD cl k k' (a+d) (.slice [opR m] true)]) rfl (Ar.trans (Ar.fzB (b:=7) rfl) ?_) hS
 generalize Ac T=tb at*
 apply Zw<;>push_cast [oX,oT,oH]
theorem Vg:He [Bq (1,.inc 1)] 0 1 [(1,.inc 1)]:=by
 refine⟨By [(1,.inc 1)],by simp,rfl,by omega,fun i hi=>?_⟩
 obtain rfl:i=0:=by omega
 rfl
theorem kq_pu:HL 7 [(1,.inc 1)]:=by
 refine⟨by unfold Dd;omega,by decide,fun x hx=>?_⟩
 cases A0d.1 hx
 exact⟨by unfold Dd;simp,by simp[SMu.ok]⟩
abbrev irQ:List (List D):=[.val (.int .u64 1)::[.val (.int .i64 3),.val (.string tN),.val (.string ByteArray.empty),.val (.int .i64 1),.val (.bool false),.val (.int .i64 0),.val (.bool false),.val (.int .i64 0),.val (.string ByteArray.empty),.slice [] true,.slice [] true,.val (.bool false),.val (.int .i64 0),.val (.bool false),.val (.int .i64 0),.val (.string ByteArray.empty),.slice [] true,.slice [] true,.slice [] true]]
abbrev eeR:List (List D):=[[.val (.string tN),.val (.int .i64 3),.val (.bool false),.val (.int .i64 5),.val (.string ByteArray.empty),.slice [] true,.slice [] true]]
abbrev seH(b:Nat)(Y:List (List D)):Hp:=[(b,.rows Y 20)]
abbrev eeH(b:Nat)(Y:List (List D)):Hp:=[(b,.rows Y 7)]
abbrev incR(n:Int):List D:=[.val (.int .i64 3),.val (.string tN),.val (.string ByteArray.empty),.val (.int .i64 n),.val (.bool false),.val (.int .i64 0),.val (.bool false),.val (.int .i64 0),.val (.string ByteArray.empty),.slice [] true,.slice [] true,.val (.bool false),.val (.int .i64 0),.val (.bool false),.val (.int .i64 0),.val (.string ByteArray.empty),.slice [] true,.slice [] true,.slice [] true]
theorem inc_lo(n:Int):loL [.ref 1 0 0 6,.agg (incR n)] [.ref 1 0 0 6,.agg (Ao (SMu.inc n).m)]:=by
 simp[SMu.m,Ao,JM,A5,H5,H8,zV,loL,Kj,E9,DR,Am]
abbrev irR:List D:=.val (.int .u64 1)::incR 1
theorem same_lo:loL [.slice [Bq (1,.inc 1)] false,.slice [irR] true] [.slice [Bq (1,.inc 1)] false,.slice [Bq (1,.inc 1)] false]:=by
 simp only[loL,Am,E9,and_true,true_and]
 refine⟨?_,by simp⟩
 simp[snN,BA,SMu.m,Ao,JM,A5,H5,H8,zV,loL,Kj,E9,DR,Am]
theorem has_lo(th:D):loL [.agg [th],.slice eeR true] [.agg [th],.slice ([(tN,vI 5)].map A7) false]:=by
 simp only[A0h,A0G,Ah,KV]
 simp[loL,Kj,E9,DR,Am]
theorem Pn:A0 prog 4 [] (.val (.bool true)):=by
 obtain⟨T,h0,hT⟩:=trI 1 (by omega)
 have hRun:=(hT 0 (by omega)).2
 rw[h0,show SMu.inc (((1:Nat):Int)+((0:Nat):Int))=SMu.inc 1 from rfl] at hRun
 have hN:=VE 7 (by decide) (by decide)
 have hM:=c_clMutN 7 (T 1) (.inc 1) (by decide) hRun
 have hM:=hM.lo (inc_lo 1)
 have oT:=A3 (T 1)
 have o1:=B3 (T 1)
 have hP0:=Pp (a:=0) Vg 7 0 1 (.val (.pointer none)) (Ac (T 1)) rfl rfl oT o1 (by decide) 5 5 rfl (fun _ _=>by decide)
 have hK:=XI 7 0 1 0 0 1 (.val (.pointer none)) (Ac (T 1)) rfl rfl oT o1 [Bq (1,.inc 1)] (By [(1,.inc 1)]) (by simp) (by decide) (by omega)
 have hlt:∀ i:Nat,i<1->(i:Int)<5/\([(1,SMu.inc 1)].getD i (0,SMu.put)).1<2:=fun i hi=>by
  obtain rfl:i=0:=by omega
  exact⟨by decide,by decide⟩
 have hP:=SS (a:=0) Vg 7 0 2 (.val (.pointer none)) (Ac (T 1)) rfl rfl oT o1 (by decide) 5 5 rfl 1 (A0a 1) Nat.zero_lt_one hlt (fun _ h=>absurd h (Nat.lt_irrefl 1)) kq_pu
 have hD:=Po 7 [(1,.inc 1)] kq_pu
 have hS:=c_same24 (1,.inc 1)
 have hS:=hS.lo same_lo
 have oR:=Da (1,.inc 1)
 have hU:=c_num 5
 obtain⟨T',hA,hT'⟩:=Xy 5 (by decide) true (T:=.nil) (l:=[]) (.inl ⟨rfl,rfl⟩) (by simp)
 change DB T' [(tN,vI 5)] at hT'
 have hR:=Vv [] true (fun _=>T') (fun _=>0) (by simp) (fun i hi=>by simp at hi)
 have oT':=A3 T'
 have o1':=B3 T'
 have hC:=ST (a:=0) Vg 7 0 3 2 1 5 .nil T' T' (Ac (T 1)) oT o1 (by decide) (by decide) (by decide) (by decide) (Nat.le_of_ble_eq_true rfl) hA hR
 rw[B4] at hC
 have hH:=XJ 7 3 2 (Ac T') (Ac T') oT' o1' oT' o1' (by decide)
 have hE:=c_has T' [(tN,vI 5)] hT' (by simp)
 have hI:=Pq (a:=1) (Vg.cut (d:=1) (by omega)) 7 3 2 T' [(tN,vI 5)] hT' (by simp) (Ac T') oT' o1' (by decide) (by simp[Au])
 have oF:=AL (puF 7 [(1,.inc 1)])
 change A2 _ _ _ _ (.tup [.slice ((puF 7 [(1,.inc 1)]).map byD) false,_]) _ at hP
 simp only[Av] at*
 generalize Ac (T 1)=th at*
 generalize Ac T'=th' at*
 generalize(puF 7 [(1,.inc 1)]).map byD=F at*
 have hE:=hE.lo (has_lo _)
 refine Zf [] func4 rfl ntmps4 results4 ?_
 (have z:=Za oT<|Za o1<|Za oT'<|Za o1'<|Za oF oR;(try push_cast[z])<;>repeat' (first|apply Zi<;>intro _|refine Zs [] hN ?_|refine Zs [(1,8),(3,10)] hM ?_|refine Zs [(1,8),(3,10),(5,144)] hP0 ?_|refine Zs [(1,8),(3,10),(5,144)] hK ?_|refine Zs [(1,8),(3,10),(5,144)] hP ?_|refine Zc hD ?_|refine Zc hU ?_|refine Zs [(1,8),(3,10),(5,144),(7,656)] hC ?_|refine Zs [(1,8),(3,10)] hH ?_|refine Zs [(1,8),(3,10),(5,144)] hI ?_|exact Zo|with_reducible apply Za|((with_reducible show A1 _ _ _ _ _ _ _ _);refine A1.lend (seH 600 irQ) _ rfl (by exact hS ..) (by first|exact .inl rfl|exact .inr ⟨_,_,_,rfl,rfl,rfl⟩) ?_ ?_ ?_ (by first|rfl|push_cast [z]) ?_;(· push_cast[z]<;>(with_unfolding_all exact A8 _));(· push_cast[z]<;>first|exact fun _=>trivial|(with_unfolding_all exact A8 _));(· push_cast[z]);try push_cast[z])|((with_reducible show A1 _ _ _ _ _ _ _ _);refine A1.lend (eeH 744 eeR) _ rfl (by exact hE ..) (by first|exact .inl rfl|exact .inr ⟨_,_,_,rfl,rfl,rfl⟩) ?_ ?_ ?_ (by first|rfl|push_cast [z]) ?_;(· push_cast[z]<;>(with_unfolding_all exact A8 _));(· push_cast[z]<;>first|exact fun _=>trivial|(with_unfolding_all exact A8 _));(· push_cast[z]);try push_cast[z])|fail)<;>try push_cast[z])
end Go.Ab
namespace Go.Ab
noncomputable section
open Go.RowKit
variable{P:Program}{ops:Array Oper}{nx:Nat}{dst:Option Tmp}{T:TypeId}{ps:String}{af:Array Edge}{gd:Option (Nat×Bool)}{ts:Array TypeId}{l:List Oper}{pos:Nat}{acc:List Eff}{s:St}{K:List Eff->St->Prop}
theorem A1.min3{x y z:Operand}{a b c r:Int}(hr:(if c<(if b<a then b else a) then c else(if b<a then b else a))=r)(hx:evO P s.env.get x=.val (.int .i64 a))(hy:evO P s.env.get y=.val (.int .i64 b))(hz:evO P s.env.get z=.val (.int .i64 c))
  (hg:gd=none∨∃ j want t,gd=some (j,want)/\AT ops j=some t/\gOf (s.env.get t) want=some true) (hk:GoS P ops nx l (pos+1) (⟨.val (.int .i64 r),[],[]⟩::acc) (s.app dst ⟨.val (.int .i64 r),[],[]⟩) K):A1 P ops nx (⟨dst,.call {callee:=.builtin .min,args:=#[x,y,z],argTypes:=ts},T,ps,af,gd⟩::l) pos acc s K:=by
 refine .of_does (e:=⟨.val (.int .i64 r),[],[]⟩) ?_ hg hk
 refine AC.of_runs (fun ρ=>Builtin.min_ ts T (#[x,y,z].map ρ)) (fun a w=>?_) fun w0 M0 I0 fr I mu h ac w hw hid hxx hbb=>?_
 ·have hF:∀ cs (xs:Array Value),builtin .min ts T cs xs=(do pure (.value (<-Builtin.min_ ts T xs))):=fun _ _=>rfl
  simp only[execOp,resolve,A0e,A0j,Result.andThen,invoke]
  rw[hF]
  exact BL _ w
 have h1:=hxx x (by simp[Op.operands,Call.operands])
 have h2:=hxx y (by simp[Op.operands,Call.operands])
 have h3:=hxx z (by simp[Op.operands,Call.operands])
 rw[hx] at h1
 rw[hy] at h2
 rw[hz] at h3
 have e0:#[x,y,z].map ac.eval=#[ac.eval x,ac.eval y,ac.eval z]:=by apply Array.ext';simp
 show AA P (fun w=>(Builtin.min_ ts T (#[x,y,z].map ac.eval)).run P w) _ _ _ _ _ _ _ _ _ _ _
 rw[e0]
 have e1:=h1.val_inv
 have e2:=h2.val_inv
 have e3:=h3.val_inv
 rw[e1,e2,e3]
 have ok1:=h1.val_ok
 have ok2:=h2.val_ok
 have ok3:=h3.val_ok
 subst hr
 refine AA.same hw _ (run_min_int3 ..) (.val _ ?_)
 simp only[okP] at ok1 ok2 ok3|-
 repeat' split
 all_goals assumption
end
end Go.Ab
namespace Go.Ab
open Go.Proofs Go.Proofs.Tryz
def isF(i:Nat):List SN:=(List.range i).map fun j=>(j+1,.inc j)
def pdF(i:Nat):List (List D):=(isF i).map Bq
theorem pd_s(i:Nat):pdF (i+1)=pdF i++[Bq (0+i+1,.inc i)]:=by simp[pdF,isF,List.range_succ]
theorem PT(i:Nat):(pdF i).length=i:=by simp[pdF,isF]
theorem PS(i:Nat):A6 (pdF i)=true:=By _
def svF(kept i:Nat):Nat:=if 0<kept/\kept<=i then kept+1 else 1
abbrev nlD:D:=.val (.pointer none)
def s1(n kept batch:Nat)(T:Nat->GT)(i:Nat):St:=
 ⟨[(9,.val (.int .i64 i)),(7,.ref 192 0 0 6),(6,.val (.bool false)),(0,.val (.int .i64 n)),(1,.val (.int .i64 kept)),(2,.val (.int .i64 batch))],
  [(194,.rows [[.val (.int .u64 0),.gref 296 i]] 2),(296,.grow (pdF i) 20),(192,.rows [[.val (.int .u64 1),.val (.int .u64 0),.val (.int .u64 (svF kept i)),nlD,Ac (T i),.ref 194 0 0 2]] 6)],152⟩
structure B2 where
 d:Nat
 k:Nat
 X:List (List D)
 h:D
structure B2.ok(n kept:Nat)(b:B2):Prop where
 le:b.d<=kept
 k:b.k<=b.d
 q:He b.X b.d (n-b.d) ((isF n).drop b.d)
 len:b.X.length=n
 pure:b.h.pure=true
 one:AN b.h=true
theorem B2.ok0{n kept:Nat}{h:D}(hn:n<=100)(h1:h.pure=true)(h2:AN h=true):B2.ok n kept ⟨0,0,pdF n,h⟩:=
 ⟨A0D _,A0a _,⟨PS n,by rw[PT];simp,by simp[isF],by simp;omega,fun i hi=>by
  simp only[A1c,List.drop_zero]
  have hi':i<(isF n).length:=by simp only[isF,A06,List.length_range];omega
  simp[pdF,nr,A02,hi']⟩,PT n,h1,h2⟩
def s2(n kept batch s:Nat)(b:B2):St:=
 ⟨[(13,.val (.int .u64 b.k)),(12,.val (.int .i64 b.d)),(7,.ref 192 0 0 6),(6,.val (.bool false)),(0,.val (.int .i64 n)),(1,.val (.int .i64 kept)),(2,.val (.int .i64 batch))],
  [(400,.grow b.X 20),(194,.rows [[.val (.int .u64 b.d),.gsub 400 b.d (n-b.d) 20]] 2),(192,.rows [[.val (.int .u64 1),.val (.int .u64 b.k),.val (.int .u64 s),nlD,b.h,.ref 194 0 0 2]] 6)],204⟩
theorem is_get(n d:Nat):∀ m,m<n-d->((isF n).drop d).getD m (0,.put)=(d+m+1,.inc ((d+m:Nat):Int)):=fun m hm=>by
 simp only[isF,A02,A0I,A0x,List.getElem?_range (show d+m<n by omega)]
 rfl
abbrev incE(n:Int):List D:=[.val (.int .i64 3),.val (.string tN),.val (.string ByteArray.empty),.val (.int .i64 n),.val (.bool false),.val (.int .i64 0),.val (.bool false),.val (.int .i64 0),.val (.string ByteArray.empty),.slice [] false,.slice [] false,.val (.bool false),.val (.int .i64 0),.val (.bool false),.val (.int .i64 0),.val (.string ByteArray.empty),.slice [] false,.slice [] false,.slice [] false]
theorem incE_eq(n:Int):Ao (SMu.inc n).m=incE n:=by simp[SMu.m,Ao,JM,A5,H5,H8,zV]
def s3(n kept batch s c d k:Nat)(X:List (List D))(h:D)(Y:List (List D))(m:Nat):St:=
 ⟨[(19,.val (.int .i64 m)),(18,.val (.int .i64 c)),(16,.ref 536 0 0 2),(13,.val (.int .u64 k)),(12,.val (.int .i64 d)),(7,.ref 192 0 0 6),(6,.val (.bool false)),(0,.val (.int .i64 n)),(1,.val (.int .i64 kept)),(2,.val (.int .i64 batch))],
  [(536,.rows [[.val (.int .u64 1),.slice Y false]] 2),(400,.grow X 20),(194,.rows [[.val (.int .u64 d),.gsub 400 d (n-d) 20]] 2),(192,.rows [[.val (.int .u64 1),.val (.int .u64 k),.val (.int .u64 s),nlD,h,.ref 194 0 0 2]] 6)],300⟩
theorem XM(n kept batch:Nat)(hn:n<=100)(hk:kept<=n)(hb0:1<=batch)(hb:batch<=100):
  A0 prog 3 [.val (.int .i64 n),.val (.int .i64 kept),.val (.int .i64 batch)] (.val (.bool true)):=by
 have hK:=Pn
 obtain⟨T,h0,hT⟩:=trI 0 (by omega)
 have hN:=VE 1 (by decide) (by decide)
 have c1:decide ((n:Int)<0)=false:=decide_eq_false (by omega)
 have c2:decide ((100:Int)<n)=false:=decide_eq_false (by omega)
 have c3:decide ((kept:Int)<0)=false:=decide_eq_false (by omega)
 have c4:decide ((n:Int)<kept)=false:=decide_eq_false (by omega)
 have c5:decide ((batch:Int)<1)=false:=decide_eq_false (by omega)
 have c6:decide ((100:Int)<batch)=false:=decide_eq_false (by omega)
 refine A0.of_awp func3 rfl ntmps3 (by kernel_rfl) (by simp) (congrArg Array.toList results3) ?_
 refine Zy ?_
 (have z:=Za c1<|Za c2<|Za c3<|Za c4<|Za c5 c6;(try push_cast[z])<;>repeat' (first|apply Zi<;>intro _|refine Zs [] hN ?_|exact Zo|with_reducible apply Za)<;>try push_cast[z])
 all_goals first|omega|skip
 refine Zl (fun i=>i<=n) (s1 n kept batch T) (fun i=>n-i) 0 (A0D _) ?_ fun i hi=>?_
 ·refine Ar.trans (s':=⟨[(9,.val (.int .i64 0)),(7,.ref 192 0 0 6),(6,.val (.bool false)),(0,.val (.int .i64 n)),(1,.val (.int .i64 kept)),(2,.val (.int .i64 batch))],[(194,.rows [[.val (.int .u64 0),.slice [] true]] 2),(192,.rows [[.val (.int .u64 1),.val (.int .u64 0),.val (.int .u64 1),nlD,nlD,.ref 194 0 0 2]] 6)],148⟩) ?_ (Ar.trans (Ar.nilgrowN (sz:=20) [.val (.int .u64 0)]) ?_)
  ·apply Zw<;>push_cast
  ·unfold s1
   rw[h0,B4,show svF kept 0=1 from by unfold svF;rw[if_neg (by omega)],show pdF 0=[] from rfl]
   apply Zw<;>push_cast
 ·unfold s1
  have oP:=PS i
  have lP:=PT i
  have oT:=A3 (T i)
  have o1:=B3 (T i)
  push_cast
  refine Af (fun ha=>?_) (fun ha=>?_)
  ·have hi':i<n:=by simpa using ha
   have hRun:=(hT i (by omega)).2
   rw[show(((0:Nat):Int)+(i:Int))=(i:Int) by simp] at hRun
   have hM:=c_clMut 1 0 (svF kept i) 0 i nlD (T i) (T (i+1)) (.inc i) rfl rfl (pdF i) oP lP (by decide) (by omega) hRun
   rw[<-pd_s] at hM
   have hM:=hM.lo (inc_lo i)
   have oT':=A3 (T (i+1))
   have o1':=B3 (T (i+1))
   have oP':=PS (i+1)
   have lP':=PT (i+1)
   have hKp:=c_clKeep 1 0 (svF kept i) 0 (i+1) nlD (Ac (T (i+1))) rfl rfl oT' o1' (pdF (i+1)) oP' lP' (by decide) (by omega)
   have w0:((0:Nat):Int)+(i:Int)+1=(i:Int)+1:=by omega
   rw[w0] at hM
   have w1:IntKind.u64.wrap (i:Int)=i:=N1 (by omega) (by omega)
   have w2:IntKind.u64.wrap ((i:Int)+1)=(i:Int)+1:=N1 (by omega) (by omega)
   have w3:IntKind.i64.wrap ((i:Int)+1)=(i:Int)+1:=A9 (by omega) (by omega)
   have b0:((i:Int)+1 !=(i:Int)+1)=false:=by simp
   by_cases hkp:i+1=kept
   ·have b1:((i:Int)+1==kept)=true:=by simp;omega
    (have z:=Za oP<|Za lP<|Za oT<|Za o1<|Za oT'<|Za o1'<|Za oP'<|Za lP'<|Za w1<|Za w2<|Za w3<|Za b0 b1;(try push_cast[z])<;>repeat' (first|apply Zi<;>intro _|refine Zs [(1,192),(3,194),(5,296)] hM ?_|refine Zs [(1,192),(3,194),(5,352)] (hKp ..) ?_|exact Zo|with_reducible apply Za)<;>try push_cast[z])
    all_goals first|omega|skip
    refine⟨i+1,by omega,by omega,?_⟩
    rw[show svF kept (i+1)=0+(i+1)+1 from by unfold svF;rw[if_pos (by omega)];omega]
    apply Zr [(296,352)] rfl<;>push_cast [oP',oT',w3]
   ·have b1:((i:Int)+1==kept)=false:=by simp;omega
    (have z:=Za oP<|Za lP<|Za oT<|Za o1<|Za oT'<|Za o1'<|Za oP'<|Za lP'<|Za w1<|Za w2<|Za w3<|Za b0 b1;(try push_cast[z])<;>repeat' (first|apply Zi<;>intro _|refine Zs [(1,192),(3,194),(5,296)] hM ?_|exact Zo|with_reducible apply Za)<;>try push_cast[z])
    all_goals first|omega|skip
    refine⟨i+1,by omega,by omega,?_⟩
    rw[show svF kept (i+1)=svF kept i from by unfold svF;split<;>split<;>omega]
    apply Zr [(296,352)] rfl<;>push_cast [oP',oT',w3]
  ·have hi':i=n:=by simp at ha;omega
   subst hi'
   have sv:∀ x,kept<x->x<=kept+1->svF kept i<=x:=fun x h1 h2=>by unfold svF;split<;>omega
   have sv2:∀ x,x<=kept->0<x->x<svF kept i:=fun x h1 h2=>by unfold svF;rw[if_pos (by omega)];omega
   generalize svF kept i=s at*
   (have z:=Za oP<|Za lP<|Za oT o1;(try push_cast[z])<;>repeat' (first|apply Zi<;>intro _|exact Zo|with_reducible apply Za)<;>try push_cast[z])
   refine AWp.loopI mixed (by kernel_rfl) (ι:=B2) (B2.ok i kept) (s2 i kept batch s) (fun j=>kept-j.d) ⟨0,0,pdF i,Ac (T i)⟩ (B2.ok0 (by omega) oT o1) ?_ fun j hj=>?_
   ·refine Ar.trans (s':=⟨[(13,.val (.int .u64 0)),(12,.val (.int .i64 0)),(7,.ref 192 0 0 6),(6,.val (.bool false)),(0,.val (.int .i64 i)),(1,.val (.int .i64 kept)),(2,.val (.int .i64 batch))],[(296,.grow (pdF i) 20),(194,.rows [[.val (.int .u64 0),.gref 296 i]] 2),(192,.rows [[.val (.int .u64 1),.val (.int .u64 0),.val (.int .u64 s),nlD,Ac (T i),.ref 194 0 0 2]] 6)],200⟩) ?_ (Ar.trans (Ar.toSub (b:=296) (sz:=20) (es:=pdF i) rfl) ?_)
    ·apply Zw<;>push_cast [oP,oT]
    ·have g1:=Me 296 400 20 oT
     have g3:∀ v,gsG 296 400 20 (.val v)=.val v:=fun _=>rfl
     have g5:∀ a,gsG 296 400 20 (.ref a 0 0 2)=.ref a 0 0 2:=fun _=>rfl
     have g7:∀ a,gsG 296 400 20 (.ref a 0 0 6)=.ref a 0 0 6:=fun _=>rfl
     have g6:∀ k,gsG 296 400 20 (.gref 296 k)=.gsub 400 0 k 20:=fun _=>rfl
     unfold s2
     apply Zw<;>push_cast [g1,g3,g5,g6,g7,oP,oT]
   ·obtain⟨d,k,X,h⟩:=j
    obtain⟨j1,j2,q,j4,oh,oh1⟩:=hj
    simp only at j1 j2 q j4 oh oh1
    clear hT h0 oP lP oT o1
    have hid:=is_get i d
    have lI:((isF i).drop d).length=i-d:=by simp[isF]
    have hde:d+(i-d)=i:=by omega
    unfold s2
    simp only
    have oX:=q.pure
    have qle:=q.le
    generalize hLL:(isF i).drop d=L at*
    generalize hee:i-d=e at*
    have hnn:(if(64:Int)<(batch:Int) then 64 else(batch:Int))=((min batch 64:Nat):Int):=by split<;>omega
    push_cast
    refine Af (fun ha=>?_) (fun ha=>?_)
    ·have hdk:d<kept:=by simpa using ha
     obtain⟨c,hc1,hc2,hc3,hc0,hcx⟩:∃ c,c<=batch/\c<=64/\d+c<=kept/\0<c/\(c=batch∨c=64∨d+c=kept):=⟨min batch (min 64 (kept-d)),by omega,by omega,by omega,by omega,by omega⟩
     have hPu:HL 1 (L.take c):=by
      refine⟨by unfold Dd;omega,by simp;omega,fun x hx=>?_⟩
      obtain⟨m,hm,rfl⟩:=List.getElem_of_mem hx
      have hm':m<c:=by simp at hm;omega
      have:=hid m (by omega)
      have e:(L.take c)[m]=(d+m+1,SMu.inc ((d+m:Nat):Int)):=by rw[List.getElem_take,<-this,A02,A09 (by omega)];rfl
      rw[e]
      exact⟨by unfold Dd;simp only;omega,by simp only[SMu.ok];omega⟩
     have hP:=SS (a:=d) q 1 k s nlD h rfl rfl oh oh1 (by decide) batch _ hnn c (by omega) hc0 (fun m hm=>by rw[hid m (by omega)];exact⟨by omega,sv2 _ (by omega) (by omega)⟩) (fun m1 m2=>by rw[hid c (by omega)];exact sv _ (by simp only;omega) (by simp only;omega)) hPu
     have hD:=Po 1 (L.take c) hPu
     have oF:=AL (puF 1 (L.take c))
     have oY:=By (L.take c)
     have lY:((L.take c).map Bq).length=c:=by simp;omega
     have hY:∀ m,m<c->nr ((L.take c).map Bq) m=.val (.int .u64 ((d:Int)+m+1))::incE ((d:Int)+m):=fun m hm=>by
      have:=hid m (by omega)
      rw[<-incE_eq]
      simp only[nr,A02,A0x,A0n hm] at this|-
      rw[A09 (by omega)] at this|-
      simp only[A0J,A15] at this|-
      rw[this];simp[Eo]
     obtain⟨T2,t0,hT2⟩:=trI (d+c) (by omega)
     have hR:=Vv (L.drop c) true T2 (fun _=>0) (by simp;omega) (fun m hm=>by
      have hm':c+m<e:=by simp at hm;omega
      have:=hid (c+m) hm'
      rw[show(L.drop c).getD m (0,.put)=L.getD (c+m) (0,.put) from by simp[A02],this]
      have h9:=(hT2 m (by omega)).2
      rw[show(((d+c:Nat):Int)+(m:Int))=((d+(c+m):Nat):Int) by omega] at h9
      exact h9)
     rw[t0] at hR
     have hA:=MO (a:=d) q 1 k (k+1) s c (.slice [] true) .nil .nil (T2 (L.drop c).length) h oh oh1 (by decide) rfl rfl (by omega) (by omega) (by omega) (by omega) (Xz .nil) hR
     have hq2:=q.cut (d:=c) (by omega)
     have oT':=A3 (T2 (L.drop c).length)
     have o1':=B3 (T2 (L.drop c).length)
     rw[B4] at hA
     have oX2:=hq2.pure
     have lX2:(Au X d (List.replicate c F1)).length=i:=by rw[B0 (by simp;omega)];exact j4
     generalize Ac (T2 (L.drop c).length)=th at*
     generalize hX2:Au X d (List.replicate c F1)=X2 at*
     generalize(puF 1 (L.take c)).map byD=F at*
     generalize(L.take c).map Bq=Y at*
     have w1:IntKind.i64.wrap ((kept:Int)-d)=(kept:Int)-d:=A9 (by omega) (by omega)
     have hm3:(if(kept:Int)-d<(if(64:Int)<(batch:Int) then 64 else(batch:Int)) then(kept:Int)-d else(if(64:Int)<(batch:Int) then 64 else(batch:Int)))=(c:Int):=by rw[hnn];split<;>omega
     have b0:((c:Int) !=c)=false:=by simp
     (have z:=Za oX<|Za @qle<|Za oh<|Za oh1<|Za oF<|Za oY<|Za lY<|Za w1 b0;(try push_cast[z])<;>repeat' (first|apply Zi<;>intro _|refine Zs [(1,192),(3,194),(5,400)] hP ?_|refine Zc hD ?_|exact Zo|with_reducible apply Za|((with_reducible show A1 _ _ _ _ _ _ _ _);refine A1.min3 (by exact hm3) (by first|(push_cast[z];done)|((try push_cast[z]);rfl)) (by first|(push_cast[z];done)|((try push_cast[z]);rfl)) (by first|(push_cast[z];done)|((try push_cast[z]);rfl)) (by first|exact .inl rfl|exact .inr ⟨_,_,_,rfl,rfl,rfl⟩) ?_)<;>try push_cast[z]|fail)<;>try push_cast[z])
     all_goals first|omega|skip
     refine Zl (fun m=>m<=c) (s3 i kept batch s c d k X h Y) (fun m=>c-m) 0 (A0D _) ?_ fun m hm=>?_
     ·unfold s3
      rw[hee]
      apply Zw<;>push_cast [oX,oh,oY]
     ·unfold s3
      rw[hee]
      push_cast
      refine Af (fun hb=>?_) (fun hb=>?_)
      ·have hm':m<c:=by simpa using hb
       have e1:=hY m hm'
       have v1:IntKind.i64.wrap ((d:Int)+m)=(d:Int)+m:=A9 (by omega) (by omega)
       have v2:IntKind.u64.wrap ((d:Int)+m)=(d:Int)+m:=N1 (by omega) (by omega)
       have v3:IntKind.u64.wrap ((d:Int)+m+1)=(d:Int)+m+1:=N1 (by omega) (by omega)
       have v4:IntKind.i64.wrap ((m:Int)+1)=(m:Int)+1:=A9 (by omega) (by omega)
       have b1:((d:Int)+m+1 !=(d:Int)+m+1)=false:=by simp
       have b2:((d:Int)+m !=(d:Int)+m)=false:=by simp
       (have z:=Za oX<|Za oh<|Za oY<|Za lY<|Za e1<|Za v1<|Za v2<|Za v3<|Za v4<|Za b1 b2;(try push_cast[z])<;>repeat' (first|apply Zi<;>intro _|exact Zo|with_reducible apply Za)<;>try push_cast[z])
       all_goals first|omega|skip
       refine⟨m+1,by omega,by omega,?_⟩
       apply Zw<;>push_cast [oX,oh,oY,v4]
      ·have hm':m=c:=by simp at hb;omega
       subst hm'
       have v1:IntKind.i64.wrap ((d:Int)+m)=(d:Int)+m:=A9 (by omega) (by omega)
       have v2:IntKind.u64.wrap ((d:Int)+m)=(d:Int)+m:=N1 (by omega) (by omega)
       have v3:IntKind.u64.wrap ((k:Int)+1)=(k:Int)+1:=N1 (by omega) (by omega)
       (have z:=Za oX<|Za @qle<|Za oh<|Za oh1<|Za oY<|Za oX2<|Za oT'<|Za o1'<|Za v1<|Za v2 v3;(try push_cast[z])<;>repeat' (first|apply Zi<;>intro _|refine Zs [(1,192),(3,194),(5,400)] hA ?_|exact Zo|with_reducible apply Za)<;>try push_cast[z])
       all_goals first|omega|skip
       refine⟨⟨d+m,k+1,X2,th⟩,⟨hc3,by simp only;omega,?_,lX2,oT',o1'⟩,by simp only;omega,?_⟩
       ·simp only
        rw[show(isF i).drop (d+m)=L.drop m from by rw[<-hLL,A1R],show i-(d+m)=e-m from by omega]
        exact hq2
       ·simp only
        rw[show i-(d+m)=e-m from by omega]
        apply Zw<;>push_cast [oX2,oT']
    ·have hdk:d=kept:=by simp at ha;omega
     subst hdk
     have hP:=Pp (a:=d) q 1 k s nlD h rfl rfl oh oh1 (by decide) batch _ hnn (fun _ m2=>by rw[hid 0 (by omega)];exact sv _ (by simp only;omega) (by simp only;omega))
     have hI:=Pq (a:=d) q 1 k s .nil [] (.inl ⟨rfl,rfl⟩) (by simp) h oh oh1 (by decide) (by omega)
     rw[B4] at hI
     have oL:=By L
     have w1:IntKind.i64.wrap ((i:Int)-d)=(e:Int):=by rw[A9 (by omega) (by omega)];omega
     have b0:((e:Int)==e)=true:=by simp
     (have z:=Za oX<|Za @qle<|Za oh<|Za oh1<|Za oL<|Za w1 b0;(try push_cast[z])<;>repeat' (first|apply Zi<;>intro _|refine Zs [(1,192),(3,194),(5,400)] hP ?_|refine Zs [(1,192),(3,194),(5,400)] hI ?_|refine Zc hK ?_|exact Zo|with_reducible apply Za)<;>try push_cast[z])
     all_goals first|omega|skip
theorem law_batches(n kept batch:Int):
  A0 prog 3 [.val (.int .i64 n),.val (.int .i64 kept),.val (.int .i64 batch)] (.val (.bool true)):=by
 have hK:=Pn
 by_cases h1:n<0
 ·have b1:decide (n<0)=true:=decide_eq_true h1
  refine Zf [] func3 rfl ntmps3 results3 ?_
  (have z:=b1;(try push_cast[z])<;>repeat' (first|apply Zi<;>intro _|refine Zc hK ?_|exact Zo|with_reducible apply Za)<;>try push_cast[z])
 have b1:decide (n<0)=false:=decide_eq_false h1
 by_cases h2:100<n
 ·have b2:decide (100<n)=true:=decide_eq_true h2
  refine Zf [] func3 rfl ntmps3 results3 ?_
  (have z:=Za b1 b2;(try push_cast[z])<;>repeat' (first|apply Zi<;>intro _|refine Zc hK ?_|exact Zo|with_reducible apply Za)<;>try push_cast[z])
 have b2:decide (100<n)=false:=decide_eq_false h2
 by_cases h3:kept<0
 ·have b3:decide (kept<0)=true:=decide_eq_true h3
  refine Zf [] func3 rfl ntmps3 results3 ?_
  (have z:=Za b1<|Za b2 b3;(try push_cast[z])<;>repeat' (first|apply Zi<;>intro _|refine Zc hK ?_|exact Zo|with_reducible apply Za)<;>try push_cast[z])
 have b3:decide (kept<0)=false:=decide_eq_false h3
 by_cases h4:n<kept
 ·have b4:decide (n<kept)=true:=decide_eq_true h4
  refine Zf [] func3 rfl ntmps3 results3 ?_
  (have z:=Za b1<|Za b2<|Za b3 b4;(try push_cast[z])<;>repeat' (first|apply Zi<;>intro _|refine Zc hK ?_|exact Zo|with_reducible apply Za)<;>try push_cast[z])
 have b4:decide (n<kept)=false:=decide_eq_false h4
 by_cases h5:batch<1
 ·have b5:decide (batch<1)=true:=decide_eq_true h5
  refine Zf [] func3 rfl ntmps3 results3 ?_
  (have z:=Za b1<|Za b2<|Za b3<|Za b4 b5;(try push_cast[z])<;>repeat' (first|apply Zi<;>intro _|refine Zc hK ?_|exact Zo|with_reducible apply Za)<;>try push_cast[z])
 have b5:decide (batch<1)=false:=decide_eq_false h5
 by_cases h6:100<batch
 ·have b6:decide (100<batch)=true:=decide_eq_true h6
  refine Zf [] func3 rfl ntmps3 results3 ?_
  (have z:=Za b1<|Za b2<|Za b3<|Za b4<|Za b5 b6;(try push_cast[z])<;>repeat' (first|apply Zi<;>intro _|refine Zc hK ?_|exact Zo|with_reducible apply Za)<;>try push_cast[z])
 obtain⟨n,rfl⟩:=Int.eq_ofNat_of_zero_le (show 0<=n by omega)
 obtain⟨kept,rfl⟩:=Int.eq_ofNat_of_zero_le (show 0<=kept by omega)
 obtain⟨batch,rfl⟩:=Int.eq_ofNat_of_zero_le (show 0<=batch by omega)
 exact XM n kept batch (by omega) (by omega) (by omega) (by omega)
end Go.Ab
