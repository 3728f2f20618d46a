/- The layer by which the program is walked, and what its functions do: part 13 of 15. -/
import Derived.Test.YtiobcncfjaoniaaGreatDoorV11
import Derived.Shelf.Small.Bits
import Derived.Lib.ReflectliteSlice
import Derived.Shelf.Strconv.ParseIntPublic10
set_option maxHeartbeats 4000000
set_option maxRecDepth 20000
set_option linter.unusedVariables false
set_option linter.unusedSimpArgs false
set_option linter.unnecessarySimpa false
namespace Go.Ab
open Go.Proofs Go.Proofs.Tryz
def ObjOk:Prop:=∀ m:SMu,m.ok->A0 prog 23 [.agg (Ap m.m)] (.tup [.agg (A4 m.o),.val (.int .i64 0)])
def VObjOk:Prop:=∀ a b:ByteArray×GV,CH b.1 a.1=1->Sm a.2->Sm b.2->a.1.size<=1048576->b.1.size<=1048576->A0 prog 24 [.slice [A6 a,A6 b] false] (.tup [.agg (A4 (vO [a,b])),.val (.int .i64 0)])
def poS(c:Nat)(L:List (List D))(V:List GV)(n:Nat)(i:Nat):St:=match i with
 |0=>⟨[(14,.val (.int .i64 0)),(13,.val (.int .i64 n)),(12,.slice L false),(1,.ref 0 0 0 2),(2,.ref 8 0 0 6),(4,.ref 32 0 0 6)],[(0,.rows [[.val (.int .u64 c),.slice L false]] 2),(8,vB 0 (.slice [] true) (.slice [] true)),(32,vB 5 (.slice [] true) (.slice [] true))],400⟩
 |j+1=>⟨[(14,.val (.int .i64 ((j+1:Nat):Int))),(13,.val (.int .i64 n)),(12,.slice L false),(1,.ref 0 0 0 2),(2,.ref 8 0 0 6),(4,.ref 32 0 0 6)],[(0,.rows [[.val (.int .u64 c),.slice L false]] 2),(8,vB 0 (.slice [] true) (.slice [] true)),(32,vB 5 (.gref 48 (j+1)) (.slice [] true)),(48,.grow ((V.take (j+1)).map A4) 6)],400⟩
theorem Rn(c:Nat)(L:List (List D))(V:List GV)(n:Nat):poS c L V n 0=⟨[(14,.val (.int .i64 0)),(13,.val (.int .i64 n)),(12,.slice L false),(1,.ref 0 0 0 2),(2,.ref 8 0 0 6),(4,.ref 32 0 0 6)],[(0,.rows [[.val (.int .u64 c),.slice L false]] 2),(8,vB 0 (.slice [] true) (.slice [] true)),(32,vB 5 (.slice [] true) (.slice [] true))],400⟩:=rfl
theorem Lt(c:Nat)(L:List (List D))(V:List GV)(n j:Nat):poS c L V n (j+1)=⟨[(14,.val (.int .i64 ((j+1:Nat):Int))),(13,.val (.int .i64 n)),(12,.slice L false),(1,.ref 0 0 0 2),(2,.ref 8 0 0 6),(4,.ref 32 0 0 6)],[(0,.rows [[.val (.int .u64 c),.slice L false]] 2),(8,vB 0 (.slice [] true) (.slice [] true)),(32,vB 5 (.gref 48 (j+1)) (.slice [] true)),(48,.grow ((V.take (j+1)).map A4) 6)],400⟩:=rfl
def poF(c:Nat)(L:List (List D))(V:List GV)(n:Nat):St:=⟨[(14,.val (.int .i64 n)),(13,.val (.int .i64 n)),(12,.slice L false),(1,.ref 0 0 0 2),(2,.ref 8 0 0 6),(4,.ref 32 0 0 6)],[(0,.rows [[.val (.int .u64 c),.slice L false]] 2),(8,vB 0 (.slice [] true) (.slice [] true)),(32,vB 5 (.slice (V.map A4) false) (.slice [] true))],400⟩
def poX(c:Nat)(L:List (List D))(V:List GV)(n:Nat):Option Nat->St
 |none=>poF c L V n
 |some i=>poS c L V n i
def SmS:Prop:=(∀ m:SMu,m.ok->Sm m.o)/\(∀ x:SN,BI x.1->x.2.ok->Sm (snO x))/\∀ n:Nat,BI n->Sm (vI n)
theorem Xc(hO:ObjOk)(hV:VObjOk)(hS:SmS)(c:Nat)(l:List SN)(h:Hk c l)(hsl:Sm (vL (l.map snO))):A0 prog 10 [.agg (Fl c l)] (.tup [.agg (A4 (puO c l)),.val (.int .i64 0)]):=by
 obtain⟨hc,hl,hx⟩:=h
 have hC:=Sr c hc
 have hE:=hV (Dh,vI c) (Gc,vL (l.map snO)) (by show CH Gc Dh=1;decide) (hS.2.2 c hc) hsl (by show Dh.size<=_;decide) (by show Gc.size<=_;decide)
 have e0:((l.map snN).map Bl).length=l.length:=by simp
 have oL:A3 ((l.map snN).map Bl)=true:=DL _
 unfold Fl
 have e1:∀ i,i<l.length->nr ((l.map snN).map Bl) i=Bl (snN (l.getD i zS)):=fun i hi=>by
  simp[nr,A02,hi]
 generalize(l.map snN).map Bl=L at*
 refine Zf [] func10 rfl ntmps10 results10 ?_
 (have z:=Za e0 oL;(try push_cast[z])<;>repeat' (first|apply Zi<;>intro _|exact Zo|with_reducible apply Za)<;>try push_cast[z])
 all_goals first|omega|skip
 refine AWp.loopI mixed (by kernel_rfl) (ι:=Option Nat) (fun o=>∀ i,o=some i->i<l.length) (poX c L (l.map snO) l.length) (fun o=>match o with|none=>0|some i=>l.length+1-i) (if l.length=0 then none else some 0) (by intro i hi;split at hi<;>cases hi;omega) ?_ fun o hi=>?_
 ·split
  ·rename_i hl0
   obtain rfl:l=[]:=A0x hl0
   show Aw _ (poF c L [] 0)
   unfold poF
   apply Zw<;>push_cast [oL]
  ·show Aw _ (poS c L (l.map snO) l.length 0)
   rw[Rn]
   apply Zw<;>push_cast [oL]
 ·cases o with
  |some i=>
   have h4:=hi i rfl
   show VCS _ _ _ _ _ (poS c L (l.map snO) l.length i)
   have hlast:∀ V:List GV,V.length=l.length->i+1=l.length->V.take (i+1)=V:=fun V h1 h2=>A05 (by omega)
   have e2:=e1 i h4
   obtain⟨g1,g2⟩:=hx _ (Ak (d:=zS) h4)
   have hN:=Sr _ g1
   have hU:=hO _ g2
   have hW:=hV (tId,vI (l.getD i zS).1) (CR,(l.getD i zS).2.o) (by show CH CR tId=1;decide) (hS.2.2 _ g1) (hS.1 _ g2) (by show tId.size<=_;decide) (by show CR.size<=_;decide)
   change A0 _ _ _ (.tup [.agg (A4 (snO (l.getD i zS))),_]) at hW
   have htk:((l.map snO).take (i+1)).map A4=((l.map snO).take i).map A4++[A4 (snO (l.getD i zS))]:=by
    rw[List.take_add_one,A0F]
    simp[A02,A0b h4]
   have oT:=Fm ((l.map snO).take i)
   have lT:(((l.map snO).take i).map A4).length=i:=by simp;omega
   have aT:∀ y ∈ ((l.map snO).take i).map A4,y.length=6:=fun y hy=>by obtain⟨x,_,rfl⟩:=A0i.1 hy;exact AW x
   generalize l.getD i zS=x at*
   rw[Ah,Ah] at hW
   rw[V6] at e2
   change nr L i=.val (.int .u64 (x.1:Int))::Ap x.2.m at e2
   have x1:=Au x.2.m
   have x2:=Bp x.2.m
   have x3:=Jo x.2.m
   have x4:=GH x.2.m
   obtain⟨y1,y2,y3,y4⟩:=An x.2.o
   obtain⟨u1,u2,u3,u4⟩:=An (snO x)
   obtain⟨v1,v2,v3,v4⟩:=An (vI x.1)
   have hq:nr L i=.val (.int .u64 (x.1:Int))::Ap x.2.m:=e2
   simp only at hW hN
   generalize Ap x.2.m=U at*
   generalize A4 x.2.o=O at*
   generalize A4 (snO x)=S at*
   generalize A4 (vI x.1)=N at*
   cases i with
   |zero=>
    rw[Rn]
    have b1:decide ((0:Int)<l.length)=true:=decide_eq_true (by omega)
    (have z:=Za e0<|Za oL<|Za e2<|Za b1<|Za x1<|Za x2<|Za x3<|Za x4<|Za y1<|Za y2<|Za y3<|Za y4<|Za u1<|Za u2<|Za u3<|Za u4<|Za v1<|Za v2<|Za v3 v4;(try push_cast[z])<;>repeat' (first|apply Zi<;>intro _|refine Zc hU ?_|refine Zc hN ?_|refine Zg hW ?_ ?_|exact Zo|with_reducible apply Za)<;>try push_cast[z])
    all_goals first|omega|(simp[u2];done)|skip
    by_cases h6:1=l.length
    ·refine⟨none,(fun _ h=>by cases h),by simp only;omega,?_⟩
     rw[hlast (l.map snO) (by simp) h6] at htk
     show Aw _ (poF c L (l.map snO) l.length)
     unfold poF
     rw[htk,<-h6]
     refine Aw.trans (Aw.fzB (b:=1088) (x:=.grow ([]++[S]) 6) rfl) ?_
     push_cast[u1,u2,u3]
     apply Zw<;>push_cast [u1,u2,u3,e0,oL]
     all_goals first|rfl|trace_state
    ·refine⟨some 1,(fun _ h=>by cases h;omega),by simp only;omega,?_⟩
     show Aw _ (poS c L (l.map snO) l.length 1)
     rw[Lt,htk]
     simp only[List.take_zero,A0G,A0h]
     apply Zr [(48,1088)] rfl<;>push_cast [e0,oL,x1,y1,y2,y3,y4,u1,u2,u3,u4]
     all_goals first|rfl|trace_state
   |succ j=>
    rw[Lt]
    have b1:decide ((↑j+1:Int)<l.length)=true:=decide_eq_true (by omega)
    have w1:IntKind.i64.wrap (↑j+1+1)=↑j+1+1:=Aa (by omega) (by omega)
    have w2:((↑j+1:Int)).toNat=j+1:=by omega
    generalize(((l.map snO).take (j+1)).map A4)=T at*
    (have z:=Za e0<|Za oL<|Za e2<|Za b1<|Za w1<|Za w2<|Za x1<|Za x2<|Za x3<|Za x4<|Za y1<|Za y2<|Za y3<|Za y4<|Za u1<|Za u2<|Za u3<|Za u4<|Za v1<|Za v2<|Za v3<|Za v4<|Za oT lT;(try push_cast[z])<;>repeat' (first|apply Zi<;>intro _|refine Zc hU ?_|refine Zc hN ?_|refine Zg hW ?_ ?_|exact Zo|with_reducible apply Za)<;>try push_cast[z])
    all_goals first|omega|(simp[u2];done)|exact aT|exact one1 u3|skip
    by_cases h6:j+1+1=l.length
    ·refine⟨none,(fun _ h=>by cases h),by simp only;omega,?_⟩
     rw[hlast (l.map snO) (by simp) h6] at htk
     show Aw _ (poF c L (l.map snO) l.length)
     unfold poF
     rw[htk,<-h6]
     refine Aw.trans (Aw.fzB (b:=1088) (x:=.grow (T++[S]) 6) rfl) ?_
     have oTV:A3 (T++[S])=true:=by rw[Ew,oT];simp[A3,u1]
     have lTV:(T++[S]).length=j+1+1:=by rw[A04,lT];rfl
     generalize T++[S]=X at*
     push_cast[u1,u2,u3,oTV,lTV]
     apply Zw<;>push_cast [u1,u2,u3,e0,oL,oTV,lTV]
     all_goals first|rfl|trace_state
    ·refine⟨some (j+1+1),(fun _ h=>by cases h;omega),by simp only;omega,?_⟩
     show Aw _ (poS c L (l.map snO) l.length (j+1+1))
     rw[Lt,htk]
     apply Zr [(48,1088)] rfl<;>push_cast [e0,oL,x1,y1,y2,y3,y4,u1,u2,u3,u4,oT,lT]
     all_goals first|rfl|trace_state
  |none=>
   show VCS _ _ _ _ _ (poF c L (l.map snO) l.length)
   have b1:decide ((l.length:Int)<l.length)=false:=decide_eq_false (by omega)
   have hpu:puO c l=vO [(Dh,vI c),(Gc,vL (l.map snO))]:=rfl
   rw[<-hpu,Ah,Ah,ZV] at hE
   simp only at hE
   have oT:=Fm (l.map snO)
   have lT:((l.map snO).map A4).length=l.length:=by simp
   obtain⟨u1,u2,u3,u4⟩:=An (puO c l)
   obtain⟨v1,v2,v3,v4⟩:=An (vI c)
   unfold poF
   generalize A4 (puO c l)=S at*
   generalize A4 (vI c)=N at*
   generalize l.length=n at*
   generalize(((l.map snO)).map A4)=T at*
   have hE':=hE.lo (ds':=[.slice [.val (.string Dh)::N,.val (.string Gc)::[.val (.int .i64 5),.val (.bool false),.val (.int .i64 0),.val (.string ByteArray.empty),.slice T false,.slice [] true]] false]) (by push_cast[v1,oT];first|done|exact id)
   (have z:=Za e0<|Za oL<|Za b1<|Za u1<|Za u2<|Za u3<|Za u4<|Za v1<|Za v2<|Za v3<|Za v4<|Za oT lT;(try push_cast[z])<;>repeat' (first|apply Zi<;>intro _|refine Zc hC ?_|refine Zg (hE' ..) ?_ ?_|exact Zo|with_reducible apply Za)<;>try push_cast[z])
   all_goals first|omega|(simp[u2];done)|skip
   all_goals trace_state
theorem Hc(s:ByteArray):A0 prog 87 [.val (.string s)] (.agg (A4 (vT s))):=by
 rw[NG]
 refine Zf [] func87 rfl ntmps87 results87 ?_
 ((try push_cast)<;>repeat' (first|apply Zi<;>intro _|exact Zp|with_reducible apply Za)<;>try push_cast)
theorem Hd(a b:ByteArray×GV):A0 prog 86 [.slice [A6 a,A6 b] false] (.agg (A4 (vO [a,b]))):=by
 rw[M1]
 simp only[A0j,A0G,Ah]
 obtain⟨x1,x2,x3,x4⟩:=An a.2
 obtain⟨y1,y2,y3,y4⟩:=An b.2
 generalize A4 a.2=V at*
 generalize A4 b.2=U at*
 refine Zf [] func86 rfl ntmps86 results86 ?_
 (have z:=Za x1 y1;(try push_cast[z])<;>repeat' (first|apply Zi<;>intro _|exact Zo|with_reducible apply Za)<;>try push_cast[z])
 all_goals first|omega|skip
 have oL:A3 [.val (.string a.1)::V,.val (.string b.1)::U]=true:=by push_cast[x1,y1]
 refine Zl (fun i=>i<=2) (fun i=>match i with
  |0=>⟨[(9,.val (.int .i64 0)),(8,.val (.int .i64 2)),(7,.slice [.val (.string a.1)::V,.val (.string b.1)::U] false),(2,.ref 0 0 0 6),(3,.ref 16 0 0 6)],[(0,vB 0 (.slice [] true) (.slice [] true)),(16,vB 6 (.slice [] true) (.slice [] true))],400⟩
  |1=>⟨[(9,.val (.int .i64 1)),(8,.val (.int .i64 2)),(7,.slice [.val (.string a.1)::V,.val (.string b.1)::U] false),(2,.ref 0 0 0 6),(3,.ref 16 0 0 6)],[(0,vB 0 (.slice [] true) (.slice [] true)),(16,vB 6 (.slice [] true) (.gref 32 1)),(32,.grow [.val (.string a.1)::V] 7)],400⟩
  |_=>⟨[(9,.val (.int .i64 2)),(8,.val (.int .i64 2)),(7,.slice [.val (.string a.1)::V,.val (.string b.1)::U] false),(2,.ref 0 0 0 6),(3,.ref 16 0 0 6)],[(0,vB 0 (.slice [] true) (.slice [] true)),(16,vB 6 (.slice [] true) (.slice [.val (.string a.1)::V,.val (.string b.1)::U] false))],400⟩) (fun i=>2-i) 0 (by simp) ?_ fun i hi=>?_
 ·apply Zw<;>push_cast [x1,y1]
 ·obtain rfl|rfl|rfl:i=0∨i=1∨i=2:=by omega
  ·simp only
   (have z:=Za x1<|Za x2<|Za x3<|Za x4<|Za y1<|Za y2<|Za y3 y4;(try push_cast[z])<;>repeat' (first|apply Zi<;>intro _|exact Zo|with_reducible apply Za)<;>try push_cast[z])
   all_goals first|omega|(simp[x2];done)|skip
   refine⟨1,by omega,by omega,?_⟩
   simp only
   apply Zr [(32,904)] rfl<;>push_cast [x1,x2,x3,x4,y1]
   all_goals first|rfl|trace_state
  ·simp only
   (have z:=Za x1<|Za x2<|Za x3<|Za x4<|Za y1<|Za y2<|Za y3 y4;(try push_cast[z])<;>repeat' (first|apply Zi<;>intro _|exact Zo|with_reducible apply Za)<;>try push_cast[z])
   all_goals first|omega|(simp[x2];done)|skip
   ·intro y hy;cases A0a.1 hy;simp[y2]
   ·intro z hz d hd
    cases A0a.1 hz
    rcases A0q.1 hd with rfl|hd
    ·rfl
    ·exact A0w.1 y3 d hd
   refine⟨2,by omega,by omega,?_⟩
   simp only
   refine Aw.trans (Aw.fzB (b:=904) (x:=.grow [.val (.string a.1)::V,.val (.string b.1)::U] 7) rfl) ?_
   push_cast[x1,x2,x3,y1,y2,y3]
   apply Zw<;>push_cast [x1,x2,x3,y1,y2,y3]
   all_goals first|rfl|trace_state
  ·simp only
   (have z:=Za x1<|Za x2<|Za x3<|Za x4<|Za y1<|Za y2<|Za y3 y4;(try push_cast[z])<;>repeat' (first|apply Zi<;>intro _|exact Zo|with_reducible apply Za)<;>try push_cast[z])
theorem enc_Z:A4 zV=[.val (.int .i64 0),.val (.bool false),.val (.int .i64 0),.val (.string ByteArray.empty),.slice [] false,.slice [] false]:=A7 _
theorem M6(n:Int):Ap (SMu.inc n).m=[.val (.int .i64 3),.val (.string tN),.val (.string ByteArray.empty),.val (.int .i64 n),.val (.bool false),.val (.int .i64 0),.val (.bool false),.val (.int .i64 0),.val (.string ByteArray.empty),.slice [] false,.slice [] false,.val (.bool false),.val (.int .i64 0),.val (.bool false),.val (.int .i64 0),.val (.string ByteArray.empty),.slice [] false,.slice [] false,.slice [] false]:=by
 rw[AY];rfl
theorem M5:Ap SMu.put.m=[.val (.int .i64 1),.val (.string tK),.val (.string ByteArray.empty),.val (.int .i64 0),.val (.bool false),.val (.int .i64 0),.val (.bool false),.val (.int .i64 0),.val (.string ByteArray.empty),.slice [] false,.slice [] false,.val (.bool false),.val (.int .i64 1),.val (.bool false),.val (.int .i64 0),.val (.string ByteArray.empty),.slice [] false,.slice [] false,.slice [] false]:=by
 rw[AY];rfl
theorem c_wInc(n:Int):A0 prog 94 [.agg (Ap (SMu.inc n).m)] (.slice [A6 (tBy,vI n),A6 (Cg,vT tN)] true):=by
 have hT:=Hc tN
 simp only[Ah,RW,NG,M6] at*
 refine Zf [] func94 rfl ntmps94 results94 ?_
 (have z:=trivial;(try push_cast)<;>repeat' (first|apply Zi<;>intro _|refine Zc hT ?_|exact Zp|with_reducible apply Za)<;>try push_cast)
 all_goals trace_state
theorem c_wPut:A0 prog 142 [.agg (Ap SMu.put.m)] (.slice [A6 (Cg,vT tK),A6 (Cr,Bn)] true):=by
 have hT:=Hc tK
 have hC:=K9 Bn (.mk _ _ _ _ _ _ (by decide) (by decide) (fun _ h=>by cases h) (fun _ h=>by cases h) (by decide) (by decide) (fun _ h=>by cases h))
 simp only[Ah,RV,NG,M5] at*
 refine Zf [] func142 rfl ntmps142 results142 ?_
 (have z:=trivial;(try push_cast)<;>repeat' (first|apply Zi<;>intro _|refine Zc hT ?_|refine Zc hC ?_|exact Zp|with_reducible apply Za)<;>try push_cast)
 all_goals trace_state
abbrev tFrom:ByteArray:=⟨#[102,114,111,109]⟩
abbrev tTo:ByteArray:=⟨#[116,111]⟩
abbrev tIs:ByteArray:=⟨#[105,115]⟩
abbrev tWas:ByteArray:=⟨#[119,97,115]⟩
abbrev tDo:ByteArray:=⟨#[100,111]⟩
abbrev tIf:ByteArray:=⟨#[105,102]⟩
abbrev EP:ByteArray:=⟨#[97,112,112,101,110,100]⟩
abbrev QG:ByteArray:=⟨#[100,101,108]⟩
abbrev Kh:ByteArray:=⟨#[109,111,118,101]⟩
abbrev QH:ByteArray:=⟨#[99,97,115]⟩
abbrev QF:ByteArray:=⟨#[115,101,113]⟩
abbrev shD(k:Int)(l:List (List D))(r w:D)(t:Bool:=false):D:=.agg [.val (.int .i64 k),.slice l t,r,w]
abbrev nf(s:ByteArray)(n:Int):List D:=[.val (.string s),.val (.int .i64 n)]
abbrev gF(f:Nat):D:=.func (.func f) [] []
abbrev vdD(k:Int):D:=shD k [nf Cg 0,nf Cr 0] (gF 140) (gF 142)
theorem Si(k:Int):A0 prog 88 [.val (.int .i64 k)] (vdD k):=by
 refine Zf [] func88 rfl ntmps88 results88 ?_
 ((try push_cast)<;>repeat' (first|apply Zi<;>intro _|exact Zp|with_reducible apply Za)<;>try push_cast)
 all_goals trace_state
theorem X4:A0 prog 97 [] (shD 4 [nf tIs 1,nf Cg 0,nf tWas 1] (gF 143) (gF 144)):=by
 refine Zf [] func97 rfl ntmps97 results97 ?_
 ((try push_cast)<;>repeat' (first|apply Zi<;>intro _|exact Zp|with_reducible apply Za)<;>try push_cast)
 all_goals trace_state
theorem Ua(f g:Nat):A2 prog 98 [.func (.func f) [] [.ref 1 0 0 1],.func (.func g) [] [.ref 1 0 0 1]] [(1,.rows [[.val (.map none)]] 1)]
  (shD 7 [nf tDo 0,nf tIf 1] .any .any) [(1,.rows [[.val (.map none)]] 1)]:=by
 refine Zd [48] func98 rfl ntmps98 results98 ?_
 ((try push_cast)<;>repeat' (first|apply Zi<;>intro _|exact Zp|with_reducible apply Za)<;>try push_cast)
 apply Zw<;>push_cast
 all_goals trace_state
theorem LE:decide (EP=Gb)=false/\decide (QG=Gb)=false/\decide (QG=EP)=false/\decide (Gd=Gb)=false/\decide (Gd=EP)=false/\decide (Gd=QG)=false/\decide (Kh=Gb)=false/\decide (Kh=EP)=false/\decide (Kh=QG)=false/\decide (Kh=Gd)=false/\decide (QH=Gb)=false/\decide (QH=EP)=false/\decide (QH=QG)=false/\decide (QH=Gd)=false/\decide (QH=Kh)=false/\decide (QF=Gb)=false/\decide (QF=EP)=false/\decide (QF=QG)=false/\decide (QF=Gd)=false/\decide (QF=Kh)=false/\decide (QF=QH)=false:=by decide
def shE:List (Value×Nat×D):=[(.string Gb,0,vdD 1),(.string EP,1,vdD 5),(.string QG,2,shD 2 [nf Cg 0] (gF 89) (gF 91) true),
 (.string Gd,3,shD 3 [nf tBy 0,nf Cg 0] (gF 92) (gF 94) true),(.string Kh,4,shD 6 [nf tFrom 0,nf tTo 0] (gF 95) (gF 96) true),
 (.string QH,5,shD 4 [nf tIs 1,nf Cg 0,nf tWas 1] (gF 143) (gF 144)),(.string QF,6,shD 7 [nf tDo 0,nf tIf 1] .any .any)]
theorem So:A2 prog 47 [] [] (.mref 0) [(0,.map shE 7)]:=by
 have h1:=Si 1
 have h5:=Si 5
 have hs:=X4
 have hq:=Ua 99 101
 have hn:=LE
 unfold shE
 refine Zd [72,112,152] func47 rfl ntmps47 results47 ?_
 (have z:=hn;(try push_cast[z])<;>repeat' (first|apply Zi<;>intro _|refine Zc h1 ?_|refine Zc h5 ?_|refine Zc (hs ..) ?_|refine Zs [(1,16)] (hq ..) ?_|exact Zo|with_reducible apply Za)<;>try push_cast[z])
 apply Zr [(0,24)] rfl<;>push_cast
 all_goals trace_state
theorem c_mWrite(m:SMu)(hm:m.ok):A2 prog 46 [.mref 1,.agg (Ap m.m)] [(1,.map shE 7)] (.agg (A4 m.o)) [(1,.map shE 7)]:=by
 have hg:KK prog 0=some [.string ByteArray.empty,.string Gb,.string QG,.string Gd,.string QH,.string EP,.string Kh,.string QF]:=by kernel_rfl
 have hn:=LE
 cases m with
 |inc n=>
  have hW:=c_wInc n
  have hT:=Hc Gd
  have hI:=(Hd (tBy,vI n) (Cg,vT tN)).lo (ds':=[.slice [A6 (tBy,vI n),A6 (Cg,vT tN)] true]) ⟨⟨BC _,fun h=>by cases h⟩,trivial⟩
  have hO:=Hd (E8,(SMu.inc n).args) (E7,vT Gd)
  rw[M6] at*
  rw[Ah,Ah] at hO
  change A0 _ _ _ (.agg (A4 (SMu.inc n).args)) at hI
  change A0 _ _ _ (.agg (A4 (SMu.inc n).o)) at hO
  simp only at hO
  obtain⟨u1,u2,u3,u4⟩:=An (SMu.inc n).args
  obtain⟨v1,v2,v3,v4⟩:=An (SMu.inc n).o
  obtain⟨w1,w2,w3,w4⟩:=An (vT Gd)
  generalize A4 (SMu.inc n).args=A at*
  generalize A4 (SMu.inc n).o=O at*
  generalize A4 (vT Gd)=T at*
  unfold shE
  refine Zd [] func46 rfl ntmps46 results46 ?_
  (have z:=Za hn<|Za hg<|Za u1<|Za u2<|Za u3<|Za u4<|Za v1<|Za v2<|Za v3<|Za v4<|Za w1<|Za w2<|Za w3 w4;(try push_cast[z])<;>repeat' (first|apply Zi<;>intro _|refine Zv hW ?_|refine Zc hI ?_|refine Zc hT ?_|refine Zg hO ?_ ?_|exact Zo|with_reducible apply Za)<;>try push_cast[z])
  apply Zw<;>push_cast [v1,v2,v3]
 |put=>
  have hW:=c_wPut
  have hT:=Hc Gb
  have hI:=(Hd (Cg,vT tK) (Cr,Bn)).lo (ds':=[.slice [A6 (Cg,vT tK),A6 (Cr,Bn)] true]) ⟨⟨BC _,fun h=>by cases h⟩,trivial⟩
  have hO:=Hd (E8,SMu.put.args) (E7,vT Gb)
  rw[M5] at*
  rw[Ah,Ah] at hO
  change A0 _ _ _ (.agg (A4 SMu.put.args)) at hI
  change A0 _ _ _ (.agg (A4 SMu.put.o)) at hO
  simp only at hO
  obtain⟨u1,u2,u3,u4⟩:=An SMu.put.args
  obtain⟨v1,v2,v3,v4⟩:=An SMu.put.o
  obtain⟨w1,w2,w3,w4⟩:=An (vT Gb)
  generalize A4 SMu.put.args=A at*
  generalize A4 SMu.put.o=O at*
  generalize A4 (vT Gb)=T at*
  unfold shE
  refine Zd [] func46 rfl ntmps46 results46 ?_
  (have z:=Za hn<|Za hg<|Za u1<|Za u2<|Za u3<|Za u4<|Za v1<|Za v2<|Za v3<|Za v4<|Za w1<|Za w2<|Za w3 w4;(try push_cast[z])<;>repeat' (first|apply Zi<;>intro _|refine Zv hW ?_|refine Zc hI ?_|refine Zc hT ?_|refine Zg hO ?_ ?_|exact Zo|with_reducible apply Za)<;>try push_cast[z])
  apply Zw<;>push_cast [v1,v2,v3]
theorem H7(m:GM):Af (Ap m)=true/\(Ap m).length=19/\(Ap m).all Bc=true/\(Ap m).take 19=Ap m:=⟨Au m,Bp m,Jo m,GH m⟩
theorem Xe(hM:MayOk):ObjOk:=fun m hm=>by
 have hY:=hM m hm
 have hS:=So
 have hW:=c_mWrite m hm
 obtain⟨u1,u2,u3,u4⟩:=H7 m.m
 obtain⟨v1,v2,v3,v4⟩:=An m.o
 generalize Ap m.m=U at*
 generalize A4 m.o=O at*
 unfold shE at*
 refine Zf [] func23 rfl ntmps23 results23 ?_
 (have z:=Za u1<|Za u2<|Za u3<|Za u4<|Za v1<|Za v2<|Za v3 v4;(try push_cast[z])<;>repeat' (first|apply Zi<;>intro _|refine Zc hY ?_|refine Zs [] hS ?_|refine Zs [(1,64)] hW ?_|exact Zo|with_reducible apply Za)<;>try push_cast[z])
 all_goals trace_state
end Go.Ab
namespace Go.Proofs
open Go.Proofs Go.Proofs.Tryz Go.RowKit Go.Shelf
def Tryz.sLen_ren:Go.Shelf.Ren:=⟨fun|125=>105|128=>158|129=>159|n=>n,fun|46=>203|3=>3|51=>151|53=>33|4=>4|5=>5|9=>9|n=>n,fun|n=>n⟩
theorem Tryz.sLen:Go.Proofs.Lays.n125 prog Tryz.sLen_ren:= {
 mixed:=by kernel_rfl
 f125:=func105.trans (congrArg some (by kernel_rfl))
 f128:=func158.trans (congrArg some (by kernel_rfl))
 f129:=func159.trans (congrArg some (by kernel_rfl))
 t3:=underlying3
 a3:=isAgg3
 z3:=sizeOf3
 v3:=zeroValue3
 t4:=underlying4
 a4:=isAgg4
 z4:=sizeOf4
 v4:=zeroValue4
 t5:=underlying5
 a5:=isAgg5
 z5:=sizeOf5
 v5:=zeroValue5
 t9:=underlying9
 a9:=isAgg9
 z9:=sizeOf9
 v9:=zeroValue9
 t46:=underlying203
 a46:=isAgg203
 z46:=sizeOf203
 v46:=zeroValue203
 t51:=underlying151
 a51:=isAgg151
 z51:=sizeOf151
 v51:=zeroValue151
 t53:=underlying33
 a53:=isAgg33
 z53:=sizeOf33
 v53:=zeroValue33}
end Go.Proofs
namespace Go.Ab
open Go.Proofs Go.Proofs.Tryz Go.RowKit Go.Shelf
theorem Mz:A0 prog 105 [.val (.int .u64 2)] (.val (.int .i64 2)):=
 A0.of_vals (us:=[.int .u64 2]) (by kernel_rfl) rfl fun w I hg ho=>⟨.int .i64 2,fun _=>GK (by simp only[okP,D1,D2];omega),by
  have h2:(Lib.bitLen (2:Int).toNat:Int)=2:=by decide
  have:=Any.bits_Len Tryz.sLen 2 w (by omega) (by omega)
  rw[h2] at this
  exact this.mono fun e w' ⟨he,hw⟩=>⟨he,by subst hw;exact Below.refl _ _⟩⟩
theorem c_cmpM(a b:ByteArray×GV):A0 prog 277 [.agg (A6 a),.agg (A6 b)] (.val (.int .i64 (CH a.1 b.1))):=by
 obtain⟨x1,x2,x3,x4⟩:=An a.2
 obtain⟨y1,y2,y3,y4⟩:=An b.2
 rw[Ah,Ah]
 generalize A4 a.2=V at*
 generalize A4 b.2=U at*
 have hc:=DO a.1 b.1
 refine Zf [0] func277 rfl ntmps277 results277 ?_
 (have z:=Za x1<|Za x2<|Za x3<|Za x4<|Za y1<|Za y2<|Za y3 y4;(try push_cast[z])<;>repeat' (first|apply Zi<;>intro _|refine Zc (hc ..) ?_|exact Zo|with_reducible apply Za)<;>try push_cast[z])
theorem Qz:IntKind.i64.wrap 0=0/\IntKind.i64.wrap 1=1/\IntKind.i64.wrap 2=2:=by decide
theorem c_ins2(a b:ByteArray×GV)(hab:CH b.1 a.1=1):A0 prog 336 [.slice [A6 a,A6 b] false,.val (.int .i64 0),.val (.int .i64 2),.func (.func 277) [] []] (.tup []):=by
 have hc:=c_cmpM b a
 rw[hab] at hc
 have x1:=Aj a
 have y1:=Aj b
 have x3:=Cn a
 have y3:=Cn b
 have x2:(A6 a).length=7:=by rw[Ah,A0g,AW]
 have y2:(A6 b).length=7:=by rw[Ah,A0g,AW]
 have x4:=C8 a
 have y4:=C8 b
 generalize A6 a=V at*
 generalize A6 b=U at*
 obtain⟨w0,w1,w2⟩:=Qz
 refine Zf [] func336 rfl ntmps336 results336 ?_
 (have z:=Za x1<|Za y1<|Za x2<|Za y2<|Za x3<|Za y3<|Za x4 y4;(try push_cast[z])<;>repeat' (first|apply Zi<;>intro _|exact Zo|with_reducible apply Za)<;>try push_cast[z])
 refine Zl (fun i=>i=1∨i=2) (fun i=>⟨[(8,.val (.int .i64 i)),(0,.slice [V,U] false),(1,.val (.int .i64 0)),(2,.val (.int .i64 2)),(3,.func (.func 277) [] [])],[],400⟩) (fun i=>2-i) 1 (by simp) ?_ fun i hi=>?_
 ·apply Zw<;>push_cast [x1,y1]
  all_goals decide
 ·rcases hi with rfl|rfl
  ·(have z:=Za x1<|Za y1<|Za x2<|Za y2<|Za x3<|Za y3<|Za x4 y4;(try push_cast[z])<;>repeat' (first|apply Zi<;>intro _|exact Zo|with_reducible apply Za)<;>try push_cast[z])
   refine Zl (fun _=>True) (fun _=>⟨[(9,.val (.int .i64 1)),(8,.val (.int .i64 1)),(0,.slice [V,U] false),(1,.val (.int .i64 0)),(2,.val (.int .i64 2)),(3,.func (.func 277) [] [])],[],600⟩) (fun _=>0) 0 trivial ?_ fun _ _=>?_
   ·apply Zw<;>push_cast [x1,y1]
   ·(have z:=Za x1<|Za y1<|Za x2<|Za y2<|Za x3<|Za y3<|Za x4<|Za y4<|Za w0<|Za w1 w2;(try push_cast[z])<;>repeat' (first|apply Zi<;>intro _|refine Zv (hc ..) ?_|exact Zo|with_reducible apply Za)<;>try push_cast[z])
    all_goals first|omega|skip
    refine⟨2,.inr rfl,by omega,?_⟩
    apply Zw<;>push_cast [x1,y1,w0,w1,w2]
  ·(have z:=Za x1<|Za y1<|Za x2<|Za y2<|Za x3<|Za y3<|Za x4 y4;(try push_cast[z])<;>repeat' (first|apply Zi<;>intro _|exact Zo|with_reducible apply Za)<;>try push_cast[z])
   all_goals first|omega|skip
theorem c_pdq2(a b:ByteArray×GV)(hab:CH b.1 a.1=1)(n:Int):A0 prog 313 [.slice [A6 a,A6 b] false,.val (.int .i64 0),.val (.int .i64 2),.val (.int .i64 n),.func (.func 277) [] []] (.tup []):=by
 have hc:=c_ins2 a b hab
 have x1:=Aj a
 have y1:=Aj b
 generalize A6 a=V at*
 generalize A6 b=U at*
 obtain⟨w0,w1,w2⟩:=Qz
 refine Zf [] func313 rfl ntmps313 results313 ?_
 (have z:=Za x1 y1;(try push_cast[z])<;>repeat' (first|apply Zi<;>intro _|exact Zo|with_reducible apply Za)<;>try push_cast[z])
 refine Zl (fun _=>True) (fun _=>⟨[(0,.slice [V,U] false),(1,.val (.int .i64 0)),(2,.val (.int .i64 2)),(4,.func (.func 277) [] [])],[],400⟩) (fun _=>0) 0 trivial ?_ fun _ _=>?_
 ·apply Zw<;>push_cast [x1,y1]
 ·(have z:=Za x1<|Za y1 w2;(try push_cast[z])<;>repeat' (first|apply Zi<;>intro _|refine Zc (hc ..) ?_|exact Zo|with_reducible apply Za)<;>try push_cast[z])
  all_goals first|omega|skip
theorem c_sort2(a b:ByteArray×GV)(hab:CH b.1 a.1=1):A0 prog 276 [.slice [A6 a,A6 b] false,.func (.func 277) [] []] (.tup []):=by
 have hc:=c_pdq2 a b hab 2
 have hb:=Mz
 have x1:=Aj a
 have y1:=Aj b
 generalize A6 a=V at*
 generalize A6 b=U at*
 have w1:IntKind.u64.wrap 2=2:=by decide
 refine Zf [] func276 rfl ntmps276 results276 ?_
 (have z:=Za x1<|Za y1 w1;(try push_cast[z])<;>repeat' (first|apply Zi<;>intro _|refine Zc (hb ..) ?_|refine Zc (hc ..) ?_|exact Zo|with_reducible apply Za)<;>try push_cast[z])
 all_goals first|omega|skip
theorem B8.one{w:World}{I:Nat->Prop}{mu:Nat->Option Value}{d:D}{vs:List Value}(h:B8 w I mu [d] vs):∃ v,vs=[v]/\Rep w I mu d v:=by
 obtain⟨h1,h2⟩:=h
 match vs,h1 with
 |[v],_=>exact ⟨v,rfl,h2 0 (by simp)⟩
noncomputable abbrev rvD(d:D):List D:=[.val (typeHandle prog 27),.ptr [d] 0,.val (.int .u64 151)]
theorem LG:∃ i:TypeInfo,prog.info? 27=some i/\i.desc=.slice 86:=by
 refine⟨_,rfl,?_⟩
 kernel_rfl
theorem Vo(L:List (List D)):P8 prog 102 [.iface 27 (.slice L false)] (.agg (rvD (.slice L false))):=
 P8.of (e:=fun args=>Extern.ReflectliteValue.unpack (args.getD 0 (.tuple #[]))) func102 (by kernel_rfl) (by kernel_rfl) (by kernel_rfl) (by kernel_rfl) fun w I mu vs hI hr=>by
  obtain⟨v,rfl,hv⟩:=hr.one
  obtain⟨i,hi,hd⟩:=LG
  cases hv with
  |iface _ _ u hu=>
   have hu':=hu
   cases hu with
   |slice _ _ A k o sz cap u hA hc ht hm hlen hcell h=>
    refine⟨_,_,fun k=>I k∨k=w.heap.size,Lib.run_valueOf_slice _ _ i hi hd A L.length cap w,?_,fun k h=>.inl h,fun k h=>h.elim .inl fun h=>.inr (by omega),fun k h=>?_,(Below.refl _ w).alloc (A08 _) _⟩
    ·refine .agg _ [_,_,_] rfl fun j hj=>?_
     match j,hj with
     |0,_=>exact .val _ trivial
     |1,_=>
      refine .ptr [.slice L false] 0 w.heap.size 0 (fun _=>.slice A L.length cap) (fun _=>.inr rfl) (fun j hj=>?_) fun j hj=>?_
      ·obtain rfl:j=0:=by simp at hj;omega
       show(match(w.alloc (Obj.cells #[.slice A L.length cap] _)).heap[w.heap.size]? with|some (.cells c _ _)=>c[0]?|_=>none)=_
       rw[show(w.alloc (Obj.cells #[.slice A L.length cap] 27)).heap[w.heap.size]? =some (Obj.cells #[.slice A L.length cap] 27) by show(w.heap.push _)[_]? =_;simp]
       rfl
      ·obtain rfl:j=0:=by simp at hj;omega
       exact hu'.mono (fun k hk=>B0 w _ (hI k hk)) (fun _ h=>.inl h) (fun _ _ h=>h)
     |2,_=>exact .val _ (by simp only[okP,D1,D2];omega)
    ·rcases h with h|h
     ·have:=hI k h;simp;omega
     ·simp;omega
noncomputable def memI:TypeInfo:=(prog.info? 86).getD default
theorem memI_eq:prog.info? 86=some memI:=by kernel_rfl
noncomputable abbrev swD(L:List (List D)):D:=.func (.func 157) [] [.slice L false,.val (typeHandle prog 86)]
theorem Vp(L:List (List D))(h2:L.length=2):Kc prog 103 [.iface 27 (.slice L false)] (swD L):=
 Kc.of (e:=Extern.ReflectliteSwapper.swapper "internal/reflectlite" (Extern.ReflectliteValue.valueError "Swapper")) func103 (by kernel_rfl) (by kernel_rfl) (by kernel_rfl) (by kernel_rfl) fun w I mu vs hr=>by
  obtain⟨v,rfl,hv⟩:=hr.one
  obtain⟨i,hi,hd⟩:=LG
  cases hv with
  |iface _ _ u hu=>
   have hu':=hu
   cases hu with
   |slice _ _ A k o sz cap u hA hc ht hm hlen hcell h=>
    rw[h2] at hu'|-
    exact⟨_,Lib.run_swapper_slice _ _ i memI hi hd memI_eq 25 (fun w=>by kernel_rfl) A 2 cap 157 (by kernel_rfl) w,.func _ [] [_,_] [] [_,_] rfl rfl (fun i hi=>by simp at hi) fun i hi=>match i,hi with
     |0,_=>hu'
     |1,_=>.val _ trivial⟩
theorem x_rvLen(L:List (List D))(n:Nat)(hn:L.length=n)(hn2:n<=1048576):Kc prog 104 [.agg (rvD (.slice L false))] (.val (.int .i64 n)):=
 Kc.of (e:=Extern.ReflectliteValue.method (Extern.ReflectliteValue.valueError "reflectlite.Value.Len" 0) Extern.ReflectliteValue.len) func104 (by kernel_rfl) (by kernel_rfl) (by kernel_rfl) (by kernel_rfl) fun w I mu vs hr=>by
  obtain⟨v,rfl,hv⟩:=hr.one
  obtain⟨i,hi,hd⟩:=LG
  obtain⟨us,rfl,hl,h⟩:=hv.agg_inv
  match us,hl with
  |[x,y,z],_=>
   have hx:=(h 0 (by simp)).val_inv
   have hy:=h 1 (by simp)
   have hz:=(h 2 (by simp)).val_inv
   simp only[nv,A0H,A1I] at hx hy hz
   subst hx hz
   simp only[nd,A0H,A1I] at hy
   cases hy with
   |ptr _ _ k o u hI hcell hrep=>
    have h1:=hcell 0 (by simp)
    have h2:=hrep 0 (by simp)
    simp only[nd,A0H] at h2
    generalize u 0=q at*
    cases h2 with
    |slice _ _ A k' o' sz cap u hA hc ht hm hlen hcell h=>
     rw[hn] at h1
     exact⟨_,Lib.run_valueLen_slice _ _ i hi hd (by kernel_rfl) _ A n cap w h1,.val _ (by simp only[okP,D1,D2];omega)⟩
abbrev lsF:D:=.func (.func 50) [] [.ref 1 0 0 1]
abbrev lsB(a b:ByteArray×GV):Hp:=[(1,.rows [[.slice [A6 a,A6 b] false]] 1)]
theorem c_less(a b:ByteArray×GV)(hab:CH b.1 a.1=1):A2 prog 50 [.val (.int .i64 1),.val (.int .i64 0),.ref 1 0 0 1] (lsB a b) (.val (.bool false)) (lsB a b):=by
 have hl:ltS b.1 a.1=false:=by simp[ltS,hab]
 obtain⟨x1,x2,x3,x4⟩:=An a.2
 obtain⟨y1,y2,y3,y4⟩:=An b.2
 unfold lsB
 rw[Ah,Ah]
 generalize A4 a.2=V at*
 generalize A4 b.2=U at*
 refine Zd [] func50 rfl ntmps50 results50 ?_
 (have z:=Za x1<|Za x2<|Za x3<|Za x4<|Za y1<|Za y2<|Za y3<|Za y4 hl;(try push_cast[z])<;>repeat' (first|apply Zi<;>intro _|exact Zo|with_reducible apply Za)<;>try push_cast[z])
 apply Zw<;>push_cast [x1,x2,x3,y1,y2,y3]
theorem c_insS(L:List (List D))(hL:A3 L=true)(a b:ByteArray×GV)(hab:CH b.1 a.1=1):A2 prog 160 [.agg [lsF,swD L],.val (.int .i64 0),.val (.int .i64 2)] (lsB a b) (.tup []) (lsB a b):=by
 have hc:=c_less a b hab
 have hT:Bc (.val (typeHandle prog 86))=true:=rfl
 have x1:=Aj a
 have y1:=Aj b
 unfold lsB at*
 generalize A6 a=V at*
 generalize A6 b=U at*
 obtain⟨w0,w1,w2⟩:=Qz
 refine Zd [] func160 rfl ntmps160 results160 ?_
 (have z:=Za x1<|Za y1 hL;(try push_cast[z])<;>repeat' (first|apply Zi<;>intro _|exact Zo|with_reducible apply Za)<;>try push_cast[z])
 refine Zl (fun i=>i=1∨i=2) (fun i=>⟨[(6,.val (.int .i64 i)),(1,.val (.int .i64 0)),(2,.val (.int .i64 2)),(3,.ref 8 0 0 2)],[(8,.rows [[lsF,swD L]] 2),(1,.rows [[.slice [V,U] false]] 1)],400⟩) (fun i=>2-i) 1 (by simp) ?_ fun i hi=>?_
 ·apply Zw<;>push_cast [x1,y1,hL]
  all_goals first|decide|trace_state
 ·rcases hi with rfl|rfl
  ·(have z:=Za x1<|Za y1 hL;(try push_cast[z])<;>repeat' (first|apply Zi<;>intro _|exact Zo|with_reducible apply Za)<;>try push_cast[z])
   refine Zl (fun _=>True) (fun _=>⟨[(7,.val (.int .i64 1)),(6,.val (.int .i64 1)),(1,.val (.int .i64 0)),(2,.val (.int .i64 2)),(3,.ref 8 0 0 2)],[(8,.rows [[lsF,swD L]] 2),(1,.rows [[.slice [V,U] false]] 1)],600⟩) (fun _=>0) 0 trivial ?_ fun _ _=>?_
   ·apply Zw<;>push_cast [x1,y1,hL]
   ·(have z:=Za x1<|Za y1<|Za hL<|Za w0<|Za w1 w2;(try push_cast[z])<;>repeat' (first|apply Zi<;>intro _|refine Zt [(1,1)] (hc ..) ?_|exact Zo|with_reducible apply Za)<;>try push_cast[z])
    all_goals first|omega|skip
    refine⟨2,.inr rfl,by omega,?_⟩
    apply Zw<;>push_cast [x1,y1,hL,w0,w1,w2]
  ·(have z:=Za x1<|Za y1 hL;(try push_cast[z])<;>repeat' (first|apply Zi<;>intro _|exact Zo|with_reducible apply Za)<;>try push_cast[z])
   all_goals first|omega|skip
   apply Zw<;>push_cast [x1,y1,hL]
theorem c_pdqS(L:List (List D))(hL:A3 L=true)(a b:ByteArray×GV)(hab:CH b.1 a.1=1)(n:Int):A2 prog 106 [.agg [lsF,swD L],.val (.int .i64 0),.val (.int .i64 2),.val (.int .i64 n)] (lsB a b) (.tup []) (lsB a b):=by
 have hc:=c_insS L hL a b hab
 have x1:=Aj a
 have y1:=Aj b
 unfold lsB at*
 generalize A6 a=V at*
 generalize A6 b=U at*
 obtain⟨w0,w1,w2⟩:=Qz
 refine Zd [] func106 rfl ntmps106 results106 ?_
 (have z:=Za x1<|Za y1 hL;(try push_cast[z])<;>repeat' (first|apply Zi<;>intro _|exact Zo|with_reducible apply Za)<;>try push_cast[z])
 refine Zl (fun _=>True) (fun _=>⟨[(1,.val (.int .i64 0)),(2,.val (.int .i64 2)),(4,.ref 8 0 0 2)],[(8,.rows [[lsF,swD L]] 2),(1,.rows [[.slice [V,U] false]] 1)],400⟩) (fun _=>0) 0 trivial ?_ fun _ _=>?_
 ·apply Zw<;>push_cast [x1,y1,hL]
 ·(have z:=Za x1<|Za y1<|Za hL w2;(try push_cast[z])<;>repeat' (first|apply Zi<;>intro _|refine Zs [(1,1)] (hc ..) ?_|exact Zo|with_reducible apply Za)<;>try push_cast[z])
  all_goals first|omega|skip
  apply Zw<;>push_cast [x1,y1,hL]
theorem c_sliceS(a b:ByteArray×GV)(hab:CH b.1 a.1=1):A2 prog 49 [.iface 27 (.slice [A6 a,A6 b] false),lsF] (lsB a b) (.tup []) (lsB a b):=by
 have hc:=c_pdqS [A6 a,A6 b] (by simp[A3,Aj]) a b hab 2
 have hT:Bc (.val (typeHandle prog 27))=true:=rfl
 have hb:=Mz
 have hv:=Vo [A6 a,A6 b]
 have hw:=Vp [A6 a,A6 b] rfl
 have hn:=x_rvLen [A6 a,A6 b] 2 rfl (by omega)
 have x1:=Aj a
 have y1:=Aj b
 unfold lsB at*
 generalize A6 a=V at*
 generalize A6 b=U at*
 have w1:IntKind.u64.wrap 2=2:=by decide
 refine Zd [] func49 rfl ntmps49 results49 ?_
 (have z:=Za x1<|Za y1<|Za hT w1;(try push_cast[z])<;>repeat' (first|apply Zi<;>intro _|refine Zc (hb ..) ?_|refine Zs [(1,1)] (hc ..) ?_|exact Zo|with_reducible apply Za|(with_reducible show A1 _ _ _ _ _ _ _ _;refine A1.extG (by(try push_cast[z]);exact hv ..) (by first|exact .inl rfl|exact .inr ⟨_,_,_,rfl,rfl,rfl⟩) rfl ?_)<;>try push_cast[z]|(with_reducible show A1 _ _ _ _ _ _ _ _;refine A1.ext (by(try push_cast[z]);exact hw ..) (by first|exact .inl rfl|exact .inr ⟨_,_,_,rfl,rfl,rfl⟩) rfl ?_)<;>try push_cast[z]|(with_reducible show A1 _ _ _ _ _ _ _ _;refine A1.ext (by(try push_cast[z]);exact hn ..) (by first|exact .inl rfl|exact .inr ⟨_,_,_,rfl,rfl,rfl⟩) rfl ?_)<;>try push_cast[z]|fail)<;>try push_cast[z])
 all_goals first|omega|skip
 apply Zw<;>push_cast [x1,y1]
theorem c_clone2(V U:List D)(x1:Af V=true)(x2:V.length=7)(x3:V.all Bc=true)(y1:Af U=true)(y2:U.length=7)(y3:U.all Bc=true):A0 prog 48 [.slice [V,U] false] (.slice [V,U] false):=by
 refine Zf [] func48 rfl ntmps48 results48 ?_
 (have z:=Za x1<|Za x2<|Za x3<|Za y1<|Za y2 y3;(try push_cast[z])<;>repeat' (first|apply Zi<;>intro _|exact Zo|with_reducible apply Za)<;>try push_cast[z])
 ·exact id
 ·intro _ y hy
  rcases A0q.1 hy with rfl|hy
  ·exact x2
  ·cases A0a.1 hy;exact y2
theorem Mn:∀ a:List UInt8,Co a a=0
 |[]=>rfl
 |c::a=>by simp[Co,Mn a]
theorem sm2{a b:ByteArray×GV}(ha:Sm a.2)(hb:Sm b.2)(h1:a.1.size<=1048576)(h2:b.1.size<=1048576):Sm (vO [a,b]):=
 .mk _ _ _ _ _ _ (by decide) (by simp) (fun _ h=>by cases h) (fun p hp=>by
  rcases A0q.1 hp with rfl|hp
  ·exact ha
  ·cases A0a.1 hp;exact hb) (by decide) (by decide) (fun p hp=>by
  rcases A0q.1 hp with rfl|hp
  ·exact h1
  ·cases A0a.1 hp;exact h2)
theorem X2(a b:ByteArray×GV)(hab:CH b.1 a.1=1)(ha:Sm a.2)(hb:Sm b.2)(h1:a.1.size<=1048576)(h2:b.1.size<=1048576):A0 prog 24 [.slice [A6 a,A6 b] false] (.tup [.agg (A4 (vO [a,b])),.val (.int .i64 0)]):=by
 have hS:=c_sliceS a b hab
 have hC:=K9 (vO [a,b]) (sm2 ha hb h1 h2)
 rw[M1] at hC
 have hC':=hC.lo (ds':=[.agg [.val (.int .i64 6),.val (.bool false),.val (.int .i64 0),.val (.string ByteArray.empty),.slice [] true,.slice [A6 a,A6 b] false]]) ⟨⟨Am _,Am _,Am _,Am _,⟨trivial,fun h=>by cases h⟩,⟨BC _,fun h=>h⟩,trivial⟩,trivial⟩
 have x2:(A6 a).length=7:=by rw[Ah,A0g,AW]
 have y2:(A6 b).length=7:=by rw[Ah,A0g,AW]
 have hK:=c_clone2 (A6 a) (A6 b) (Aj a) x2 (Cn a) (Aj b) y2 (Cn b)
 obtain⟨x1,x2,x3,x4⟩:=An a.2
 obtain⟨y1,y2,y3,y4⟩:=An b.2
 have hne:¬b.1=a.1:=fun e=>by
  rw[e] at hab
  simp only[CH,Mn] at hab
  omega
 have k2:decide (b.1=a.1)=false:=decide_eq_false hne
 have hO:=M1 [a,b]
 obtain⟨u1,u2,u3,u4⟩:=An (vO [a,b])
 rw[<-hO] at hC'
 generalize A4 (vO [a,b])=O at*
 unfold lsB at hS
 rw[Ah,Ah] at*
 generalize A4 a.2=V at*
 generalize A4 b.2=U at*
 obtain⟨w0,w1,w2⟩:=Qz
 refine Zf [] func24 rfl ntmps24 results24 ?_
 (have z:=Za x1<|Za y1<|Za x2<|Za y2<|Za x3<|Za y3<|Za u1<|Za u2<|Za u3<|Za u4 k2;(try push_cast[z])<;>repeat' (first|apply Zi<;>intro _|refine Zc hK ?_|refine Zs [(1,32)] hS ?_|exact Zo|with_reducible apply Za)<;>try push_cast[z])
 ·kernel_rfl
 refine Zl (fun i=>i=1∨i=2) (fun i=>⟨[(5,.val (.int .i64 i)),(4,.ref 32 0 0 1),(2,.ref 0 0 0 6)],[(32,.rows [[.slice [.val (.string a.1)::V,.val (.string b.1)::U] false]] 1),(0,vB 0 (.slice [] true) (.slice [] true))],400⟩) (fun i=>2-i) 1 (by simp) ?_ fun i hi=>?_
 ·apply Zw<;>push_cast [x1,y1]
  all_goals first|rfl|trace_state
 ·rcases hi with rfl|rfl
  ·(have z:=Za x1<|Za y1<|Za x2<|Za y2<|Za x3<|Za y3<|Za u1<|Za u2<|Za u3<|Za u4<|Za k2<|Za w0<|Za w1 w2;(try push_cast[z])<;>repeat' (first|apply Zi<;>intro _|exact Zo|with_reducible apply Za)<;>try push_cast[z])
   all_goals first|omega|skip
   refine⟨2,.inr rfl,by omega,?_⟩
   apply Zw<;>push_cast [x1,y1,w0,w1,w2]
  ·(have z:=Za x1<|Za y1<|Za x2<|Za y2<|Za x3<|Za y3<|Za u1<|Za u2<|Za u3<|Za u4<|Za k2<|Za w0<|Za w1 w2;(try push_cast[z])<;>repeat' (first|apply Zi<;>intro _|refine Zc (hC' ..) ?_|exact Zo|with_reducible apply Za)<;>try push_cast[z])
   all_goals first|omega|skip
   all_goals trace_state
theorem Nb:FD Bn=false:=by simp[FD,Bn,GV.kind,GV.b,GV.n,GV.s,GV.list,GV.obj,LD]
theorem H4:Bi Bn=0:=by
 have h1:Bj Bn 1=0:=by rw[EV,Nb];simp[Bn,GV.kind]
 have h2:CW Bn=1:=by rw[Mi];simp[Bn,GV.kind]
 have h3:Dt Bn=4:=by rw[EX];simp[Bn,GV.kind]
 simp[Bi,h1,h2,h3]
theorem TA:MayOk:=fun m hm=>by
 have h:=c_mMay V4 m.m (XV m) (by have:=XC m;omega) (by rw[L9];omega)
 rw[PJ Bi H4 m] at h
 exact h
theorem obj_ok:ObjOk:=Xe TA
theorem vobj_ok:VObjOk:=fun a b h1 h2 h3 h4 h5=>X2 a b h1 h2 h3 h4 h5
theorem sm_I(n:Int)(h: -9223372036854775808<=n/\n<=9223372036854775807):Sm (vI n):=.mk _ _ _ _ _ _ (by decide) (by decide) (fun _ h=>by cases h) (fun _ h=>by cases h) h (by decide) (fun _ h=>by cases h)
theorem sm_T(s:ByteArray)(h:s.size<=1048576):Sm (vT s):=.mk _ _ _ _ _ _ (by decide) (by decide) (fun _ h=>by cases h) (fun _ h=>by cases h) (by decide) h (fun _ h=>by cases h)
theorem sm_L(l:List GV)(hl:l.length<=1048576)(h:∀ x ∈ l,Sm x):Sm (vL l):=.mk _ _ _ _ _ _ hl (by decide) h (fun _ h=>by cases h) (by decide) (by decide) (fun _ h=>by cases h)
theorem sm_o(m:SMu)(hm:m.ok):Sm m.o:=by
 refine sm2 ?_ ?_ (by show E8.size<=_;decide) (by show E7.size<=_;decide)
 ·cases m with
  |inc n=>exact sm2 (sm_I n hm) (sm_T _ (by decide)) (by show tBy.size<=_;decide) (by show Cg.size<=_;decide)
  |put=>exact sm2 (sm_T _ (by decide)) UB (by show Cg.size<=_;decide) (by show Cr.size<=_;decide)
 ·cases m with
  |inc n=>exact sm_T _ (by show Gd.size<=_;decide)
  |put=>exact sm_T _ (by show Gb.size<=_;decide)
theorem T6(n:Nat)(h:BI n):Sm (vI n):=sm_I _ (by have:=h.2;omega)
theorem XU(x:SN)(h1:BI x.1)(h2:x.2.ok):Sm (snO x):=sm2 (T6 _ h1) (sm_o _ h2) (by show tId.size<=_;decide) (by show CR.size<=_;decide)
theorem sms:SmS:=⟨sm_o,XU,T6⟩
theorem UC(l:List SN)(h:l.length<=64)(hx:∀ x ∈ l,BI x.1/\x.2.ok):Sm (vL (l.map snO)):=sm_L _ (by simp;omega) fun y hy=>by
 obtain⟨x,hx',rfl⟩:=A0i.1 hy
 exact XU x (hx x hx').1 (hx x hx').2
theorem sm_puO(c:Nat)(l:List SN)(h:Hk c l):Sm (puO c l):=sm2 (T6 _ h.1) (UC l h.2.1 h.2.2) (by show Dh.size<=_;decide) (by show Gc.size<=_;decide)
theorem ZJ(c:Nat)(l:List SN)(h:Hk c l):A0 prog 9 [.agg (Fl c l)] (.val (.int .i64 0)):=c_pMay TA c l h
theorem WH(c:Nat)(l:List SN)(h:Hk c l):A0 prog 10 [.agg (Fl c l)] (.tup [.agg (A4 (puO c l)),.val (.int .i64 0)]):=Xc obj_ok vobj_ok sms c l h (UC l h.2.1 h.2.2)
section
variable(hF:∀ v,Sm v->wtV v<=2097152->A0 prog 85 [.agg (A4 v)] (.val (.int .i64 (Bi v))))
include hF
theorem do_one{b:GT}{l:List GE}(hl:l.length<=4096)(m:GM)(kk:m.kind=1∨m.kind=3)(q:OQ)(hm:SmU m)(hw:wtU m<=1048576)(hsz:Di m<=64)(hq:DoOk b l q (Di m)):
  ∃ q',A2 prog 124 [.ref 1 0 0 3,.agg (Ap m)] (oqH b q) (.val (.int .i64 (EQ Bi m (q.view l)).1)) (oqH b q')/\Led b l q q' (8193*Di m) (Lm m (q.view l)):=by
  obtain⟨m1,m2,m3,m4⟩:=hm.parts
  have hz:1<=Di m:=by rw[Fc];omega
  have hes:=es_le hq.ok.ch hq.ext
  have hus:=hq.us
  have hlen:=hq.len
  have hstep:EQ Bi m (q.view l)=if m.kind=1 then(G7 (Bi m.value) m.key,if G7 (Bi m.value) m.key=0 then Bt (m.key,m.value) (q.view l) else q.view l)
   else if m.kind=2 then(if Fk m.key (q.view l)=true then(0,Cf m.key (q.view l)) else(12,q.view l))
   else if m.kind=3 then(PR (q.view l) m.key m.n (Bi (Gw (q.view l) m.key m.n)),if PR (q.view l) m.key m.n (Bi (Gw (q.view l) m.key m.n))=0 then Bt (m.key,Gw (q.view l) m.key m.n) (q.view l) else q.view l)
   else if m.kind=4 then(casC m (q.view l) (Bi m.value),casL m (q.view l) (Bi m.value))
   else if m.kind=5 then(addC (q.view l) m.key (Bi (Xv (q.view l) m.key m.value)),if addC (q.view l) m.key (Bi (Xv (q.view l) m.key m.value))=0 then Bt (m.key,Xv (q.view l) m.key m.value) (q.view l) else q.view l)
   else if m.kind=6 then moveM Bi m.key m.to (q.view l)
   else if m.kind=7 then(if m.key.size≠0/\UE m (q.view l)=false then(13,q.view l) else SZ Bi m.list (q.view l))
   else(9,q.view l):=by cases m;rfl
  have hwt:=L3 m
  have hll:l.length<=1099511627776:=by omega
  have hres:∀ c L,EQ Bi m (q.view l)=(c,L)->c=0->Lm m (q.view l)=L:=fun c L h1 h2=>by unfold Lm;rw[h1];exact if_pos h2
  have hresE:∀ c L,EQ Bi m (q.view l)=(c,L)->c≠0->Lm m (q.view l)=q.view l:=fun c L h1 h2=>by unfold Lm;rw[h1];exact if_neg h2
  rcases kk with k1|k3
  ·rw[if_pos k1] at hstep
   obtain⟨q1,hP,hL⟩:=Yk hq.ok m.key m.value (Bi m.value) (hF _ m2 (by omega)) m2 (by omega)
   have hk:=hL.le hq.ok
   have hl2:=hL.len
   by_cases hc:G7 (Bi m.value) m.key=0
   ·rw[hres _ _ hstep hc,hstep]
    refine⟨q1,?_,hL.mono (by omega)⟩
    rw[hc] at hP|-
    exact do_put0 m k1 q1 hP
   ·rw[hresE _ _ hstep hc,hstep]
    exact⟨_,do_putE m k1 _ q1 hP hc hL.ok.us hk (by omega),hL.of_back hq.ok⟩
  ·rw[if_neg (by omega),if_neg (by omega),if_pos k3] at hstep
   obtain⟨q1,hP,hL⟩:=q_inc hq.ok hll m.key m.n (Bi (Gw (q.view l) m.key m.n)) (hF _ (UY _ _ _) (by rw[incV_wt];omega)) (by omega)
   have hk:=hL.le hq.ok
   have hl2:=hL.len
   by_cases hc:PR (q.view l) m.key m.n (Bi (Gw (q.view l) m.key m.n))=0
   ·rw[hres _ _ hstep hc,hstep]
    refine⟨q1,?_,hL.mono (by omega)⟩
    rw[hc] at hP|-
    exact do_inc0 m k3 q1 hP
   ·rw[hresE _ _ hstep hc,hstep]
    exact⟨_,do_incE m k3 _ q1 hP hc hL.ok.us hk (by omega),hL.of_back hq.ok⟩
end
theorem XS(m:GM)(kk:m.kind=1∨m.kind=3)(L:List GE)(hm:SmU m)(hL:VOk L):VOk (Lm m L)/\(Lm m L).length<=L.length+1:=by
 obtain⟨kd,k,t,n,h,w,i,v,l⟩:=m
 obtain⟨m1,m2,m3,m4⟩:=hm.parts
 simp only[GM.was,GM.value,GM.list] at m1 m2 m3 m4
 have hput:∀ v',Bi v'=0->FL k=0->Sm v'->VOk (Bt (k,v') L)/\(Bt (k,v') L).length<=L.length+1:=fun v' h1 h2 h3=>⟨hL.put h2 h1 h3,(Da (k,v') L).1⟩
 unfold Lm
 by_cases hc:(EQ Bi (.mk kd k t n h w i v l) L).1=0
 ·rw[if_pos hc]
  simp only[EQ] at hc|-
  rcases kk with k1|k3
  ·have k1:kd=1:=k1
   simp only[if_pos k1] at hc|-
   rw[if_pos hc]
   exact hput v (GO hc).2 (GO hc).1 m2
  ·have k3:kd=3:=k3
   have n1:¬kd=1:=by omega
   have n2:¬kd=2:=by omega
   simp only[if_neg n1,if_neg n2,if_pos k3] at hc|-
   rw[if_pos hc]
   unfold PR at hc
   split at hc
   ·cases hc
   ·split at hc
    ·cases hc
    ·exact hput _ (GO hc).2 (GO hc).1 (UY L k n)
 ·rw[if_neg hc];exact⟨hL,by omega⟩
theorem ZG(u:SMu):u.m.kind=1∨u.m.kind=3:=by cases u<;>simp [SMu.m,GM.kind]
theorem run_smu{b:GT}{l:List GE}(hb:FU b l)(hV:VOk l)(hl:l.length<=4000)(u:SMu):
  ∃ t',A0 prog 36 [AL b,.agg (Ap u.m)] (.tup [AL t',.val (.int .i64 (R0 u.m l).1)])/\FU t' (R0 u.m l).2/\VOk (R0 u.m l).2/\(R0 u.m l).2.length<=l.length+64:=by
 have hF:=V4
 have hm:=XV u
 have hw:wtU u.m<=1048576:=by have:=XC u;omega
 have hc:=PJ Bi H4 u
 have hM:=c_mMay hF u.m hm (by omega) (by rw[L9];omega)
 have h64:=L9 u
 have hkk:=ZG u
 generalize u.m=m at*
 unfold R0
 rw[if_neg (by simpa using hc)]
 rw[hc] at hM
 let q:OQ:=⟨none,[]⟩
 have hq:Fq b q l:=⟨hb,⟨by simp[q,OQ.es],by simp[q,OQ.es],by simp[q,OQ.es],by simp[q,OQ.es]⟩,fun _=>rfl⟩
 have hv0:q.view l=l:=rfl
 obtain⟨q',hD,hL⟩:=do_one hF (by omega) m hkk q hm hw (by omega) ⟨hq,by rw[hv0];exact hV,.refl q,by rw[hv0];omega,by simp only[q,A0v];omega⟩
 rw[hv0] at hD hL
 obtain⟨a1,a2⟩:=XS m hkk l hm hV
 by_cases hcs:(EQ Bi m l).1=0
 ·have hDo:=q_Do m _ q' hM hD
  rw[hcs] at hDo|-
  have hes:=es_le hL.ok.ch hL.ext
  have hus:=hL.len
  obtain⟨t',ht,hC⟩:=WY (oq b q') l hL.ok.ov (by show l.length+q'.es.length<=1048576;simp only[q,A0v] at hus;omega) (VM hV (by rw[hL.view];exact a1) hL.ok.ch.keys)
  rw[HO] at hC
  rw[UI,hL.view] at ht
  exact⟨t',c_Run b t' m q' hDo hC,ht,a1,by simp only;omega⟩
 ·have hDo:=q_Do m _ q' hM hD
  have hr:Lm m l=l:=by unfold Lm;rw[if_neg hcs]
  refine⟨b,c_RunE b m _ hcs q' hDo,?_,?_,?_⟩
  ·simp only[hr];exact hb
  ·simp only[hr];exact hV
  ·simp only[hr];omega
def digs(l:List UInt8):Prop:=∀ c ∈ l,48<=c.toNat/\c.toNat<=57
theorem Df(u:Nat):digs (Lib.decDigits u)/\Lib.decDigits u≠[]:=by
 induction u using Nat.strongRecOn with
 |ind u ih=>
  rw[Lib.decDigits]
  split
  ·rename_i h
   refine⟨fun c hc=>?_,by simp⟩
   cases A0a.1 hc
   have:(UInt8.ofNat (48+u)).toNat=48+u:=by simp;omega
   omega
  ·rename_i h
   obtain⟨h1,h2⟩:=ih (u/10) (by omega)
   refine⟨fun c hc=>?_,by simp⟩
   rcases A1o.1 hc with hc|hc
   ·exact h1 c hc
   ·cases A0a.1 hc
    have:(UInt8.ofNat (48+u%10)).toNat=48+u%10:=by simp;omega
    omega
theorem NW(u:Nat):∀ c r,Lib.decDigits u=c::r->c.toNat=48->u=0/\r=[]:=by
 induction u using Nat.strongRecOn with
 |ind u ih=>
  intro c r h hc
  rw[Lib.decDigits] at h
  split at h
  ·rename_i hu
   cases h
   have:(UInt8.ofNat (48+u)).toNat=48+u:=by simp;omega
   exact⟨by omega,rfl⟩
  ·rename_i hu
   cases h2:Lib.decDigits (u/10) with
   |nil=>exact absurd h2 (Df _).2
   |cons d q=>
    rw[h2] at h
    simp only[A0d,List.cons.injEq] at h
    obtain⟨rfl,_⟩:=h
    have:=(ih (u/10) (by omega) d q h2 hc).1
    omega
theorem Hn(M:Nat):∀ (l r:List UInt8) (acc:Nat),Lib.parseUintM M acc (l++r)=(match Lib.parseUintM M acc l with|.ok a=>Lib.parseUintM M a r|e=>e)
 |[],r,acc=>rfl
 |c::l,r,acc=>by
  simp only[A0d,Lib.parseUintM]
  split
  ·split
   ·rfl
   ·split
    ·rfl
    ·exact Hn M l r _
  ·rfl
theorem Lv(M:Nat)(hM:M<=18446744073709551615)(u:Nat)(hu:u<=M):Lib.parseUintM M 0 (Lib.decDigits u)=.ok u:=by
 induction u using Nat.strongRecOn with
 |ind u ih=>
  rw[Lib.decDigits]
  split
  ·rename_i h
   have e:(UInt8.ofNat (48+u)).toNat=48+u:=by simp;omega
   simp only[Lib.parseUintM,e]
   rw[if_pos (by omega),if_neg (by omega),if_neg (by omega)]
   congr 1;omega
  ·rename_i h
   have e:(UInt8.ofNat (48+u%10)).toNat=48+u%10:=by simp;omega
   rw[Hn,ih (u/10) (by omega) (by omega)]
   simp only[Lib.parseUintM,e]
   rw[if_pos (by omega),if_neg (by omega),if_neg (by omega)]
   congr 1;omega
theorem Tr(n:Int)(h0: -9223372036854775808<=n)(h1:n<=9223372036854775807):Lib.parseIntB 64 (Lib.itoa n)=.ok n:=by
 unfold Lib.itoa
 by_cases hn:n<0
 ·rw[if_pos hn]
  have hd:=Df n.natAbs
  simp only[Lib.parseIntB,Lib.parseUintB]
  have e45:(45:UInt8).toNat=45:=rfl
  simp only[e45,or_true,if_true,if_neg hd.2]
  rw[Lv _ (by decide) _ (by omega)]
  simp only[not_true,false_and,if_false,true_and]
  rw[if_neg (by omega)]
  congr 1;omega
 ·rw[if_neg hn]
  have hd:=Df n.toNat
  cases h:Lib.decDigits n.toNat with
  |nil=>exact absurd h hd.2
  |cons c r=>
   have hc:=hd.1 c (by rw[h];simp)
   simp only[Lib.parseIntB,Lib.parseUintB]
   rw[if_neg (show ¬(c.toNat=43∨c.toNat=45) by omega),if_neg (by simp),<-h,Lv _ (by decide) _ (by omega)]
   simp only
   have e:¬c.toNat=45:=by omega
   simp only[e,false_and,if_false,not_false_eq_true,true_and]
   rw[if_neg (by omega)]
   congr 1;omega
section
variable{P:Program}{ops:Array Oper}{nx:Nat}{l:List Oper}{pos:Nat}{acc:List Eff}{s:St}{K:List Eff->St->Prop}
theorem A1.nilNe{dst:Option Tmp}{x y:Operand}{T t1 t2:TypeId}{ps:String}{af:Array Edge}(hx:evO P s.env.get x=.val .nilIface)(hy:evO P s.env.get y=.val .nilIface)(hr:∀ (a:Act) w,a.eval x=.nilIface->a.eval y=.nilIface->(execOp a.eval ⟨dst,.binOp .neq t1 x y t2,T,ps,af,none⟩).run P w=.ok (.value (.bool false)) w)
  (hk:GoS P ops nx l (pos+1) (⟨.val (.bool false),[],[]⟩::acc) (s.app dst ⟨.val (.bool false),[],[]⟩) K):A1 P ops nx (⟨dst,.binOp .neq t1 x y t2,T,ps,af,none⟩::l) pos acc s K:=by
 refine A1.does (AB.quiet fun _ _ _ _ I mu _ a w _ hxs _=>?_) hk
 have hxr:=hxs x (by simp[Op.operands])
 have hyr:=hxs y (by simp[Op.operands])
 rw[hx] at hxr
 rw[hy] at hyr
 exact⟨.bool false,hr a w hxr.val_inv hyr.val_inv,.val _ trivial⟩
end
def Qv:Prop:=∀ n:Int,-9223372036854775808<=n->n<=9223372036854775807->A0 prog 278 [.val (.string ⟨(Lib.itoa n).toArray⟩),.val (.int .i64 10),.val (.int .i64 64)] (.tup [.val (.int .i64 n),.val .nilIface])
theorem k_null(n:Nat):Ke n 226 [110,117,108,108] Bn:=by
 intro s i r d h hr hz hd
 have hw:=c_word s i _ r hz h
 rw[RV]
 refine Zd [] func226 rfl ntmps226 results226 ?_
 (have z:=trivial;(try push_cast)<;>repeat' (first|apply Zi<;>intro _|refine Zs [(1,1)] (hw ..) ?_|exact Zp|with_reducible apply Za)<;>try push_cast)
 all_goals first|omega|skip
 apply Zw<;>push_cast
theorem ZI(hU:HA)(n:Nat)(x:List UInt8)(hx:BR x):Ke n 229 (txt x) (vT ⟨x.toArray⟩):=by
 intro s i r d h hr hz hd
 have hu:=Vd hU s i x r hx hz h
 rw[NG]
 refine Zd [] func229 rfl ntmps229 results229 ?_
 (have z:=trivial;(try push_cast)<;>repeat' (first|apply Zi<;>intro _|refine Zs [(1,1)] (hu ..) ?_|exact Zp|with_reducible apply Za)<;>try push_cast)
 all_goals first|omega|skip
 apply Zw<;>push_cast
abbrev zB:Blk:=.rows [[.val (.int .i64 0),.val (.bool false),.val (.int .i64 0),.val (.string ByteArray.empty),.slice [] true,.slice [] true]] 6
theorem ZL(hP:Qv)(k:Nat)(n:Int)(h0: -9223372036854775808<=n)(h1:n<=9223372036854775807):Ke k 232 (Lib.itoa n) (vI n):=by
 intro s i r d h hr hz hd
 have hp:=hP n h0 h1
 obtain⟨p,ds,e,hds,hp1⟩:∃ (p ds:List UInt8),Lib.itoa n=p++ds/\(digs ds/\ds≠[]/\∀ c q,ds=c::q->c.toNat=48->q=[]/\p=[])/\(p=[]∨p=[45]):=by
  unfold Lib.itoa
  by_cases hn:n<0
  ·rw[if_pos hn]
   refine⟨[45],Lib.decDigits n.natAbs,rfl,⟨(Df _).1,(Df _).2,fun c q hq hc=>?_⟩,.inr rfl⟩
   have:=(NW _ c q hq hc).1
   omega
  ·rw[if_neg hn]
   exact⟨[],Lib.decDigits n.toNat,rfl,⟨(Df _).1,(Df _).2,fun c q hq hc=>⟨(NW _ c q hq hc).2,rfl⟩⟩,.inl rfl⟩
 obtain⟨g1,g2,g3⟩:=hds
 rw[e] at h
 have hl:=h.2
 simp only[A04] at hl
 have hT:=h.tail
 have e3:s.extract i (i+p.length+ds.length)=⟨(Lib.itoa n).toArray⟩:=by
  apply ByteArray.ext
  rw[ByteArray.data_extract]
  apply Array.ext'
  rw[Array.toList_extract]
  show(s.data.toList.drop i).take (i+p.length+ds.length-i)=_
  have:=h.1
  unfold bl at this
  rw[this,e,show i+p.length+ds.length-i=(p++ds).length by rw[A04];omega,List.take_left]
 have key:∀ j,j<ds.length->decide ((48:Int)<=BQ s ((i+p.length+j:Nat):Int))=true/\decide (BQ s ((i+p.length+j:Nat):Int)<=57)=true:=fun j hj=>by
  have hc:=hT.strAt (j:=j) (c:=ds[j]) (A0b hj)
  have:=g1 ds[j] (A0W hj)
  rw[hc]
  exact⟨decide_eq_true (by omega),decide_eq_true (by omega)⟩
 have h48:(BQ s ((i+p.length:Nat):Int)==48)=true->ds.length=1/\p=[]:=fun hc=>by
  cases hd:ds with
  |nil=>exact absurd hd g2
  |cons c q=>
   rw[hd] at hT
   have:=hT.str0
   rw[this] at hc
   obtain⟨rfl,rfl⟩:=g3 c q hd (by have:(c.toNat:Int)=48:=by simpa using hc
                                  omega)
   exact⟨rfl,rfl⟩
 have hend:i+p.length+ds.length=s.size∨(i+p.length+ds.length<s.size/\(decide ((48:Int)<=BQ s ((i+p.length+ds.length:Nat):Int))=false∨decide (BQ s ((i+p.length+ds.length:Nat):Int)<=57)=false)):=by
  cases hrr:r with
  |nil=>rw [hrr] at hl;exact .inl (by simpa[A1m] using hl)
  |cons c q=>
   have h2:At s (i+p.length+ds.length) (c::q) []:=by
    have:=h.tail
    refine⟨?_,by rw[hrr] at hl;simp at hl|-;omega⟩
    have hh:=h.1
    rw[hrr] at hh
    rw[A1m,<-A04,<-List.drop_drop,hh,List.drop_left,A0R]
   have h3:=h2.str0
   have h4:=hr c (by rw[hrr];rfl)
   refine .inr ⟨h2.lt,?_⟩
   rw[h3]
   rcases h4 with h4|h4|h4
   ·exact .inl (decide_eq_false (by omega))
   ·exact .inr (decide_eq_false (by omega))
   ·exact .inr (decide_eq_false (by omega))
 have hd0:0<ds.length:=A1J.2 g2
 have hif:i<s.size:=by omega
 have h45:(BQ s (i:Int)==45)=(p==[45]):=by
  rcases hp1 with rfl|rfl
  ·cases hd:ds with
   |nil=>exact absurd hd g2
   |cons c q=>
    rw[hd] at h
    have:=h.str0
    have hc:=g1 c (by rw[hd];simp)
    rw[this]
    have:((c.toNat:Int)==45)=false:=beq_false_of_ne (by omega)
    rw[this];rfl
  ·have:=h.str0 (c:=45)
   rw[this];rfl
 have e4:(Lib.itoa n).length=p.length+ds.length:=by rw[e,A04]
 rw[e4]
 rw[<-e3] at hp
 clear e3 e hT g1 g3 e4
 obtain⟨f,hf⟩:∃ f,f=i+p.length:=⟨_,rfl⟩
 obtain⟨L,hL⟩:∃ L,L=ds.length:=⟨_,rfl⟩
 rw[<-A1m,<-hf,<-hL]
 rw[<-hf,<-hL] at hp hend
 rw[<-hf] at h48
 simp only[<-hf,<-hL] at key h48
 rw[<-hL] at hd0 hl
 push_cast at key hend
 have hpl:p.length<=1:=by rcases hp1 with rfl|rfl<;>simp
 have hfp:(p==[45])=true->f=i+1:=fun hh=>by
  have:p=[45]:=by simpa using hh
  rw[hf,this];rfl
 have hfn:(p==[45])=false->f=i:=fun hh=>by
  rcases hp1 with rfl|rfl
  ·simpa using hf
  ·simp at hh
 have h48':(BQ s (f:Int)==48)=true->L=1/\f=i:=fun hh=>by
  obtain⟨q1,q2⟩:=h48 hh
  exact⟨q1,by rw[hf,q2];rfl⟩
 have hfi:i<=f:=by omega
 have hfs:f+L<=s.size:=by omega
 clear h48 hp1 h
 rw[RW]
 generalize(p==[45])=neg at*
 refine Zd [] func232 rfl ntmps232 results232 ?_
 (have z:=h45;(try push_cast[z])<;>repeat' (first|apply Zi<;>intro _|exact Zo|with_reducible apply Za)<;>try push_cast[z])
 all_goals first|omega|skip
 all_goals
  refine Zl (fun j=>j<=L) (fun j=>⟨[(6,.val (.int .i64 f)),(5,.val (.int .i64 i)),(0,.ref 1 0 0 3),(4,.ref 8 0 0 6)],[(1,rdB s (f+j)),(8,zB),(3,kB)],120⟩) (fun j=>L-j) 0 (by simp) ?_ fun j hj=>?_
 case k.k.h.refine_1=>
  have e5:=hfp (by assumption)
  apply Zw<;>push_cast
  all_goals(rw[Aa (by omega) (by omega)];omega)
 case k.k.k.refine_1=>
  have e5:=hfn (by assumption)
  subst e5
  apply Zw<;>push_cast
 all_goals
  clear hfp hfn h45
  by_cases hj2:j<L
  ·obtain⟨k1,k2⟩:=key j hj2
   have b0:decide ((↑f+↑j:Int)<↑s.size)=true:=decide_eq_true (by omega)
   have w1:IntKind.i64.wrap (↑f+↑j+1)=↑f+↑j+1:=Aa (by omega) (by omega)
   (have z:=Za b0<|Za k1<|Za k2 w1;(try push_cast[z])<;>repeat' (first|apply Zi<;>intro _|exact Zo|with_reducible apply Za)<;>try push_cast[z])
   all_goals first|omega|skip
   refine⟨j+1,hj2,by omega,?_⟩
   apply Zw<;>push_cast
   omega
  ·obtain rfl:j=L:=by omega
   have b1:((↑f+↑j:Int)==↑f)=false:=beq_false_of_ne (by omega)
   have w2:IntKind.i64.wrap (↑f+1)=↑f+1:=Aa (by omega) (by omega)
   have b34:((BQ s (f:Int)==48)=true/\decide ((↑f+1:Int)<↑f+↑j)=false/\decide ((i:Int)<f)=false)∨((BQ s (f:Int)==48)=false/\True/\True):=by
    cases b2:(BQ s (f:Int)==48) with
    |true=>
     obtain⟨q1,q2⟩:=h48' b2
     exact .inl ⟨rfl,decide_eq_false (by omega),decide_eq_false (by omega)⟩
    |false=>exact .inr ⟨rfl,trivial,trivial⟩
   have hend3:(decide ((↑f+↑j:Int)<↑s.size)=false/\True/\True)∨(decide ((↑f+↑j:Int)<↑s.size)=true/\decide ((48:Int)<=BQ s (↑f+↑j))=false/\f+j<s.size)∨(decide ((↑f+↑j:Int)<↑s.size)=true/\decide (BQ s (↑f+↑j)<=57)=false/\f+j<s.size):=by
    rcases hend with hend|⟨hend,hq|hq⟩
    ·exact .inl ⟨decide_eq_false (by omega),trivial,trivial⟩
    ·exact .inr (.inl ⟨decide_eq_true (by omega),hq,hend⟩)
    ·exact .inr (.inr ⟨decide_eq_true (by omega),hq,hend⟩)
   clear hend key
   rcases b34 with⟨b2,b3,b4⟩|⟨b2,b3,b4⟩<;>rcases hend3 with⟨b0,hq,hqs⟩|⟨b0,hq,hqs⟩|⟨b0,hq,hqs⟩
   all_goals
    (have z:=Za b0<|Za b1<|Za w2<|Za b2<|Za b3<|Za b4 hq;(try push_cast[z])<;>repeat' (first|apply Zi<;>intro _|refine Zc (hp ..) ?_|exact Zo|with_reducible apply Za)<;>try push_cast[z])
    all_goals first|omega|skip
    all_goals
     refine A1.nilNe (by push_cast) (by push_cast) (fun a w h1 h2=>?_) ?_
     ·have u:=run_underlying (P:=prog) underlying211
      simp only[execOp,h1,h2,eqGuard,binOp]
      unfold Op.equal Op.maxDepth Op.equalIn
      simp[u]
     ·((try push_cast)<;>repeat' (first|apply Zi<;>intro _|exact Zp|with_reducible apply Za)<;>try push_cast)
      all_goals first|omega|skip
      apply Zw<;>push_cast
      all_goals omega
theorem c_key(hU:HA)(s:ByteArray)(i:Nat)(x r:List UInt8)(es:List (Value×Nat×D))(ck:Nat)(hx:BR x)(hz:s.size<=1048576)(h:At s i (txt x) r)(hf:CV .str (.string ⟨x.toArray⟩) es 0=some none)(he:∀ r:Nat->Nat,(es.map fun p=>(p.1,p.2.1,AT r p.2.2))=es)(hl:∀ n,(es.all fun p=>ltD n p.2.2)=true):
  A2 prog 275 [.ref 1 0 0 3,.mref 5] [(1,rdB s i),(5,.map es ck)] (.val (.string ⟨x.toArray⟩)) [(1,rdB s (i+(txt x).length)),(5,.map (es++[(.string ⟨x.toArray⟩,ck,.agg [])]) (ck+1))]:=by
 have hu:=Vd hU s i x r hx hz h
 have hS:=Q5 s i (At.lt (x:=x++[34]) h) (by rw[At.str0 (x:=x++[34]) h];unfold nbl;decide)
 refine Zd [] func275 rfl ntmps275 results275 ?_
 (have z:=hf;(try push_cast[z])<;>repeat' (first|apply Zi<;>intro _|refine Zs [(1,1)] hS ?_|refine Zs [(1,1)] (hu ..) ?_|exact Zo|with_reducible apply Za)<;>try push_cast[z])
 all_goals first|omega|skip
 apply Zw<;>push_cast [he,hl,A0F,List.all_append]
theorem NZ:∀ a:List UInt8,Co a a=0
 |[]=>rfl
 |c::a=>by simp[Co,NZ a]
def Ty(k x l y:List UInt8):List UInt8:=123::(txt k++(58::(x++(44::(txt l++(58::(y++[125])))))))
theorem ZK(hU:HA)(n:Nat)(k l x y:List UInt8)(v u:GV)(hk:BR k)(hl:BR l)(hkl:CH ⟨l.toArray⟩ ⟨k.toArray⟩=1)(hv:Dz n x v)(hw:Dz n y u):
  Ke (n+1) 231 (Ty k x l y) (vO [(⟨k.toArray⟩,v),(⟨l.toArray⟩,u)]):=by
 intro s i r d ha hr hz hd
 have w0:IntKind.i64.wrap (↑i+1)=↑i+1:=Aa (by have:=ha.2;omega) (by have:=ha.2;omega)
 have wd:IntKind.i64.wrap (↑d+1)=↑d+1:=Aa (by omega) (by omega)
 have hm:i+(Ty k x l y).length=i+1+(txt k).length+1+x.length+1+(txt l).length+1+y.length+1:=by
  simp only[Ty,A0g,A04,A0v];omega
 have a1:=ha.tail1
 have a2:=a1.tail
 have a3:=a2.tail1
 have a4:=a3.tail
 have a5:=a4.tail1
 have a6:=a5.tail
 have a7:=a6.tail1
 have a8:=a7.tail
 rw[hm]
 have f1:=Jt s (i+1) 125 (At.lt (x:=k++[34]) a1.head) (by rw[At.str0 (x:=k++[34]) a1.head];decide) (by rw[At.str0 (x:=k++[34]) a1.head];unfold nbl;decide)
 have k1:=c_key hU s (i+1) k _ [] 0 hk hz a1.head rfl (fun _=>rfl) (fun _=>rfl)
 have t1:=EH s _ 58 a2.lt hz a2.str0 (by unfold nbl;decide)
 have v1:=hv.2 s _ _ (d+1) a3.head (by intro c hc;cases hc;exact .inl rfl) hz (by omega)
 have t2:=EH s _ 44 a4.lt hz a4.str0 (by unfold nbl;decide)
 have k2:=c_key hU s _ l _ [(.string ⟨k.toArray⟩,0,.agg [])] 1 hl hz a5.head (by
  have:¬(ByteArray.mk l.toArray)=⟨k.toArray⟩:=fun e=>by
   rw[e] at hkl
   simp only[CH,NZ] at hkl
   omega
  have t2:¬(ByteArray.mk k.toArray)=⟨l.toArray⟩:=fun e=>this e.symm
  simp[CV,keq,this,t2]) (fun _=>rfl) (fun _=>rfl)
 have t3:=EH s _ 58 a6.lt hz a6.str0 (by unfold nbl;decide)
 have v2:=hw.2 s _ _ (d+1) a7.head (by intro c hc;cases hc;exact .inr (.inr rfl)) hz (by omega)
 have f2:=Jt s _ 44 a8.lt (by rw[a8.str0];decide) (by rw[a8.str0];unfold nbl;decide)
 have t4:=EH s _ 125 a8.lt hz a8.str0 (by unfold nbl;decide)
 have hs:=c_sort2 (⟨k.toArray⟩,v) (⟨l.toArray⟩,u) hkl
 rw[Ah,Ah] at hs
 obtain⟨x1,x2,x3,x4⟩:=An v
 obtain⟨y1,y2,y3,y4⟩:=An u
 rw[M1]
 simp only[A0j,A0G,Ah]
 generalize A4 v=V at*
 generalize A4 u=U at*
 clear ha a1 a2 a3 a4 a5 a6 a7 a8 hv hw hm
 refine Zd [] func231 rfl ntmps231 results231 ?_
 ((try push_cast)<;>repeat' (first|apply Zi<;>intro _|exact Zp|with_reducible apply Za)<;>try push_cast)
 refine AWp.scope (Zy ?_)
 (have z:=w0;(try push_cast[z])<;>repeat' (first|apply Zi<;>intro _|refine Zs [(1,1)] (f1 ..) ?_|exact Zo|with_reducible apply Za)<;>try push_cast[z])
 all_goals first|omega|skip
 generalize hq2:i+1+(txt k).length+1+x.length+1=q2 at*
 refine AWp.loopI mixed (by kernel_rfl) (ι:=Bool) (fun _=>True) (fun b=>match b with
  |false=>⟨[(0,.ref 1 0 0 3),(1,.val (.int .i64 d)),(4,.ref 8 0 0 6),(5,.ref 24 0 0 6),(6,.mref 120)],[(1,rdB s (i+1)),(3,kB),(8,vB 0 (.slice [] true) (.slice [] true)),(24,vB 6 (.slice [] true) (.slice [] true)),(120,.map [] 0)],1000⟩
  |true=>⟨[(0,.ref 1 0 0 3),(1,.val (.int .i64 d)),(4,.ref 8 0 0 6),(5,.ref 24 0 0 6),(6,.mref 120)],[(1,rdB s q2),(3,kB),(8,vB 0 (.slice [] true) (.slice [] true)),(24,vB 6 (.slice [] true) (.gref 48 1)),(48,.grow [.val (.string ⟨k.toArray⟩)::V] 7),(120,.map [(.string ⟨k.toArray⟩,0,.agg [])] 1)],1000⟩) (fun b=>if b then 0 else 1) false trivial ?_ fun b _=>?_
 ·apply Zw<;>push_cast
 ·cases b with
  |false=>
   simp only
   (have z:=Za wd<|Za x1<|Za x2<|Za x3 x4;(try push_cast[z])<;>repeat' (first|apply Zi<;>intro _|refine Zs [(1,1),(5,120)] k1 ?_|refine Zs [(1,1)] (t1 ..) ?_|refine Zs [(1,1),(3,3)] (v1 ..) ?_|refine Zs [(1,1)] (t2 ..) ?_|exact Zo|with_reducible apply Za)<;>try push_cast[z])
   all_goals first|omega|(simp[x2];done)|skip
   refine⟨true,by decide,?_⟩
   simp only
   apply Zr [(48,2128)] rfl<;>push_cast [x1,x2,x3,x4]
  |true=>
   simp only
   (have z:=Za wd<|Za x1<|Za x2<|Za x3<|Za x4<|Za y1<|Za y2<|Za y3 y4;(try push_cast[z])<;>repeat' (first|apply Zi<;>intro _|refine Zs [(1,1),(5,120)] k2 ?_|refine Zs [(1,1)] (t3 ..) ?_|refine Zs [(1,1),(3,3)] (v2 ..) ?_|refine Zs [(1,1)] (f2 ..) ?_|refine Zs [(1,1)] (t4 ..) ?_|refine Zq (hs ..) ?_ ?_|exact Zo|with_reducible apply Za)<;>try push_cast[z])
   all_goals first|omega|(simp[y2];done)|skip
   ·intro z hz d hd
    cases A0a.1 hz
    rcases A0q.1 hd with rfl|hd
    ·rfl
    ·exact A0w.1 y3 d hd
   ·refine Aw.trans (Aw.fzB (b:=2128) (x:=.grow ([.val (.string ⟨k.toArray⟩)::V]++[.val (.string ⟨l.toArray⟩)::U]) 7) rfl) ?_
    push_cast[x1,x2,x3,y1,y2,y3]
    apply Zw<;>push_cast [x1,x2,x3,y1,y2,y3]
    all_goals trace_state
def DC:List (List UInt8)->List UInt8
 |[]=>[]
 |x::l=>x++l.flatMap (44:: ·)
theorem VL(l:List (List UInt8))(x:List UInt8):DC (l++[x])=DC l++(if l=[] then [] else [44])++x:=by
 cases l with
 |nil=>simp [DC]
 |cons y l=>simp [DC]
abbrev DW(s:ByteArray):List UInt8:=(FA s).data.toList
mutual
def tv:GV->List UInt8
 |.mk k b n s l o=>if k=3 then Lib.itoa n else if k=4 then DW s else if k=5 then 91::(DC (tvs l)++[93]) else if k=6 then 123::(DC (tvo o)++[125]) else [110,117,108,108]
def tvs:List GV->List (List UInt8)
 |[]=>[]
 |v::l=>tv v::tvs l
def tvo:List (ByteArray×GV)->List (List UInt8)
 |[]=>[]
 |(k,v)::l=>(DW k++58::tv v)::tvo l
end
theorem Uv:∀ l:List GV,tvs l=l.map tv
 |[]=>rfl
 |v::l=>by simp[tvs,Uv l]
def tvm(p:ByteArray×GV):List UInt8:=DW p.1++58::tv p.2
theorem Uw:∀ l:List (ByteArray×GV),tvo l=l.map tvm
 |[]=>rfl
 |(k,v)::l=>by simp[tvo,Uw l,tvm]
theorem FW(v:GV):tv v=if v.kind=3 then Lib.itoa v.n else if v.kind=4 then DW v.s else if v.kind=5 then 91::(DC (v.list.map tv)++[93]) else if v.kind=6 then 123::(DC (v.obj.map tvm)++[125]) else [110,117,108,108]:=by
 cases v;rw[tv];simp only[Uv,Uw];rfl
theorem N0{α:Type}(f:α->List UInt8)(l:List α)(i:Nat)(h:i<l.length):DC ((l.take (i+1)).map f)=DC ((l.take i).map f)++(if i=0 then [] else [44])++f (l[i]'h):=by
 rw[A1y h,A0F,List.map_singleton,VL]
 congr 2
 by_cases hi:i=0
 ·subst hi;simp
 ·rw[if_neg hi,if_neg]
  intro e
  have:=congrArg List.length e
  simp at this
  rcases this with h1|h1
  ·exact hi h1
  ·subst h1;simp at h
theorem QS{α:Type}(f:α->List UInt8)(l:List α)(i:Nat):(DC ((l.take i).map f)).length<=(DC (l.map f)).length:=by
 rcases A0O i l.length with h|h
 ·conv=>rhs;rw[<-A12 i l,A0F]
  cases hx:(l.take i).map f with
  |nil=>simp [DC]
  |cons y m=>simp [DC]
 ·rw[A05 h];exact A08 _
theorem DV:DW tN=txt [110]/\DW tK=txt [107]/\DW Gd=txt [105,110,99]/\DW Gb=txt [112,117,116]/\DW tBy=txt [98,121]/\DW Cg=txt [107,101,121]/\DW Cr=txt [118,97,108,117,101]/\DW E8=txt [97,114,103,115]/\DW E7=txt [110,97,109,101]/\
  DW tId=txt [105,100]/\DW CR=txt [109,117,116,97,116,111,114]/\DW Dh=txt [99,108,105,101,110,116]/\DW Gc=txt [108,105,115,116]:=by
 refine⟨?_,?_,?_,?_,?_,?_,?_,?_,?_,?_,?_,?_,?_⟩<;>kernel_rfl
theorem tv_N:tv Bn=[110,117,108,108]:=by rw[FW];rfl
theorem tv_I(n:Int):tv (vI n)=Lib.itoa n:=by rw[FW];rfl
theorem XI(s:ByteArray)(x:List UInt8)(h:DW s=txt x):tv (vT s)=txt x:=by rw[FW];exact h
theorem Vu(k l:ByteArray)(v u:GV)(x y:List UInt8)(hk:DW k=txt x)(hl:DW l=txt y):tv (vO [(k,v),(l,u)])=Ty x (tv v) y (tv u):=by
 rw[FW]
 show 123::(DC [tvm (k,v),tvm (l,u)]++[125])=_
 simp[DC,tvm,hk,hl,Ty]
theorem tv_L(l:List GV):tv (vL l)=MN (l.map tv):=by
 rw[FW]
 show 91::(DC (l.map tv)++[93])=_
 have hj:∀ m:List (List UInt8),m.flatMap (44:: ·)++[93]=EZ m:=by
  intro m
  induction m with
  |nil=>rfl
  |cons y m ih=>simp only[A0Z,A0c,ih];simp[EZ]
 cases l with
 |nil=>rfl
 |cons v l=>simp only[A0j,DC,MN,A0c,hj]
theorem v_N(n:Nat):Dz n (tv Bn) Bn:=by
 rw[tv_N]
 exact D8 n _ 110 _ _ (by decide) (k_null n)
theorem v_T(hU:HA)(n:Nat)(x:List UInt8)(h:DW ⟨x.toArray⟩=txt x)(hx:BR x):Dz n (tv (vT ⟨x.toArray⟩)) (vT ⟨x.toArray⟩):=by
 rw[XI _ _ h]
 exact D8 n _ 34 _ _ (by decide) (ZI hU n x hx)
theorem v_O(hU:HA)(n:Nat)(x y:List UInt8)(v u:GV)(h:DW ⟨x.toArray⟩=txt x)(h':DW ⟨y.toArray⟩=txt y)(hx:BR x)(hy:BR y)(hxy:CH ⟨y.toArray⟩ ⟨x.toArray⟩=1)(hv:Dz n (tv v) v)(hu:Dz n (tv u) u):Dz (n+1) (tv (vO [(⟨x.toArray⟩,v),(⟨y.toArray⟩,u)])) (vO [(⟨x.toArray⟩,v),(⟨y.toArray⟩,u)]):=by
 rw[Vu _ _ v u x y h h']
 exact D8 (n+1) _ 123 _ _ (by decide) (ZK hU n x y (tv v) (tv u) v u hx hy hxy hv hu)
theorem v_L(n:Nat)(l:List GV)(hl:l.length<=1048576)(h:∀ v ∈ l,Dz n (tv v) v):Dz (n+1) (tv (vL l)) (vL l):=by
 rw[tv_L]
 have hk:=k_list n (l.map fun v=>(tv v,v)) (by simpa using hl) (fun p hp=>by
  obtain⟨v,hv,rfl⟩:=A0i.1 hp
  exact h v hv)
 rw[A13,A13] at hk
 have e1:((fun x=>x.1) ∘ fun v=>(tv v,v))=tv:=rfl
 have e2:((fun x=>x.2) ∘ fun v:GV=>(tv v,v))=id:=rfl
 rw[e1,e2,List.map_id] at hk
 cases l with
 |nil=>exact D8 (n+1) _ 91 _ _ (by decide) hk
 |cons v l=>exact D8 (n+1) _ 91 _ _ (by decide) hk
theorem v_I(hP:Qv)(n:Nat)(k:Int)(h0: -9223372036854775808<=k)(h1:k<=9223372036854775807):Dz n (tv (vI k)) (vI k):=by
 rw[tv_I]
 have hk:=ZL hP n k h0 h1
 obtain⟨c,y,e,hc⟩:∃ c y,Lib.itoa k=c::y/\NA (c.toNat:Int)=some 232:=by
  unfold Lib.itoa
  by_cases hn:k<0
  ·rw[if_pos hn]
   exact⟨45,Lib.decDigits k.natAbs,rfl,by decide⟩
  ·rw[if_neg hn]
   obtain⟨h1,h2⟩:=Df k.toNat
   cases hd:Lib.decDigits k.toNat with
   |nil=>exact absurd hd h2
   |cons c y=>
    refine⟨c,y,rfl,?_⟩
    have:=h1 c (by rw[hd];simp)
    unfold NA
    rw[if_neg (by omega),if_neg (by omega),if_neg (by omega),if_neg (by omega),if_neg (by omega),if_neg (by omega),if_neg (by omega),if_pos (by omega)]
 rw[e] at hk|-
 exact D8 n _ c y _ hc hk
section
variable(hU:HA)(hP:Qv)
include hU hP
theorem v_args(m:SMu)(hm:m.ok):Dz 1 (tv m.args) m.args:=by
 obtain⟨q1,q2,q3,q4,q5,q6,q7,q8,q9,q10,q11,q12,q13⟩:=DV
 cases m with
 |inc n=>exact v_O hU 0 [98,121] [107,101,121] (vI n) (vT tN) q5 q6 (by unfold BR;decide) (by unfold BR;decide) (by decide) (v_I hP 0 n hm.1 hm.2) (v_T hU 0 [110] q1 (by unfold BR;decide))
 |put=>exact v_O hU 0 [107,101,121] [118,97,108,117,101] (vT tK) Bn q6 q7 (by unfold BR;decide) (by unfold BR;decide) (by decide) (v_T hU 0 [107] q2 (by unfold BR;decide)) (v_N 0)
theorem v_o(m:SMu)(hm:m.ok):Dz 2 (tv m.o) m.o:=by
 obtain⟨q1,q2,q3,q4,q5,q6,q7,q8,q9,q10,q11,q12,q13⟩:=DV
 refine v_O hU 1 [97,114,103,115] [110,97,109,101] m.args (vT m.name) q8 q9 (by unfold BR;decide) (by unfold BR;decide) (by decide) (v_args hU hP m hm) ?_
 cases m with
 |inc n=>exact v_T hU 1 [105,110,99] q3 (by unfold BR;decide)
 |put=>exact v_T hU 1 [112,117,116] q4 (by unfold BR;decide)
theorem v_snO(x:SN)(h1:BI x.1)(h2:x.2.ok):Dz 3 (tv (snO x)) (snO x):=by
 obtain⟨q1,q2,q3,q4,q5,q6,q7,q8,q9,q10,q11,q12,q13⟩:=DV
 exact v_O hU 2 [105,100] [109,117,116,97,116,111,114] (vI x.1) x.2.o q10 q11 (by unfold BR;decide) (by unfold BR;decide) (by decide) (v_I hP 2 x.1 (by omega) (by have:=h1.2;omega)) (v_o hU hP x.2 h2)
theorem v_puO(c:Nat)(l:List SN)(h:Hk c l):Dz 5 (tv (puO c l)) (puO c l):=by
 obtain⟨q1,q2,q3,q4,q5,q6,q7,q8,q9,q10,q11,q12,q13⟩:=DV
 refine v_O hU 4 [99,108,105,101,110,116] [108,105,115,116] (vI c) (vL (l.map snO)) q12 q13 (by unfold BR;decide) (by unfold BR;decide) (by decide) (v_I hP 4 c (by omega) (by have:=h.1.2;omega)) ?_
 refine v_L 3 _ (by have:=h.2.1;simp;omega) fun v hv=>?_
 obtain⟨x,hx,rfl⟩:=A0i.1 hv
 exact v_snO hU hP x (h.2.2 x hx).1 (h.2.2 x hx).2
end
abbrev tWr:TypeId:=92
abbrev wkB(a:D)(g len:Nat)(n:Int):Blk:=.pr g (prR tWr [.val (.bool true),a,.gref 1 len,.val (.int .i64 n)])
abbrev byB(g:Nat)(t:List UInt8):Blk:=.pr g (prG 5 t)
abbrev Qm:D:=.val (.pointer none)
abbrev Bq:D:=.ref 0 0 1 4
theorem L1(d:D):Kc prog 216 [d] d:=
 Kc.of (e:=Extern.AbiNoEscape.same) func216 (by kernel_rfl) (by kernel_rfl) (by kernel_rfl) (by kernel_rfl) fun w I mu vs hr=>by
  obtain⟨h1,h2⟩:=hr
  match vs,h1 with
  |[v],_=>exact ⟨v,Lib.run_noEscape w v,h2 0 (by simp)⟩
theorem conv_to(w:World)(k:Nat)(us:Array Value)(h:w.heap[k]? =some (.cells us tWr (0,0)))(h4:us.size=4):(convert 88 195 (.pointer (some ⟨k,0*4+1,none⟩))).run prog w=.ok (.pointer (some ⟨k,0*4+1,none⟩)) w:=by
 obtain⟨j,hj,hj2⟩:∃ j,prog.info? 90=some j/\j.size=2:=⟨_,rfl,by kernel_rfl⟩
 exact Lib.run_to_unsafe w _ underlying88 underlying195 hj (by omega) (by simp[World.shape?,h];exact⟨rfl,rfl⟩) (by show 0*4+1<us.size;omega)
theorem WX(w:World)(k:Nat)(us:Array Value)(h:w.heap[k]? =some (.cells us tWr (0,0)))(h4:us.size=4):(convert 195 88 (.pointer (some ⟨k,0*4+1,none⟩))).run prog w=.ok (.pointer (some ⟨k,0*4+1,none⟩)) w:=by
 obtain⟨j,hj,hj2⟩:∃ j,prog.info? 90=some j/\j.size=2:=⟨_,rfl,by kernel_rfl⟩
 exact Lib.run_from_unsafe w _ underlying195 underlying88 hj (cells:=4) (e:=tWr) (by simp[World.shape?,h,h4]) (by kernel_rfl)
abbrev wkH(a:D)(t:List UInt8)(n:Int):Hp:=[(1,wkB a 4 t.length n),(4,byB 4 t)]
theorem c_ccNil(t:List UInt8)(n:Int):A2 prog 169 [.ref 1 0 1 4] (wkH Qm t n) (.tup []) (wkH Bq t n):=by
 have hN:=L1 (.ref 1 0 1 4)
 unfold wkH
 generalize t.length=len at*
 refine Zd [] func169 rfl ntmps169 results169 ?_
 (have z:=trivial;(try push_cast)<;>repeat' (first|apply Zi<;>intro _|exact Zp|with_reducible apply Za|((with_reducible show A1 _ _ _ _ _ _ _ _);refine A1.loadR (by first|(push_cast;done)|((try push_cast);rfl)) rfl (by first|(push_cast;done)|((try push_cast);rfl)) (by first|(push_cast;done)|((try push_cast);rfl)) (by simp) (by first|rfl|(push_cast;rfl)) (by first|exact .inl rfl|exact .inr ⟨_,_,_,rfl,rfl,rfl⟩) ?_)<;>try push_cast|((with_reducible show A1 _ _ _ _ _ _ _ _);refine A1.convR (by first|(push_cast;done)|((try push_cast);rfl)) (by first|(push_cast;done)|((try push_cast);rfl)) (by exact conv_to) (by first|exact .inl rfl|exact .inr ⟨_,_,_,rfl,rfl,rfl⟩) ?_)<;>try push_cast|(with_reducible show A1 _ _ _ _ _ _ _ _;refine A1.ext (by(try push_cast);exact hN ..) (by first|exact .inl rfl|exact .inr ⟨_,_,_,rfl,rfl,rfl⟩) rfl ?_)<;>try push_cast|((with_reducible show A1 _ _ _ _ _ _ _ _);refine A1.convR (by first|(push_cast;done)|((try push_cast);rfl)) (by first|(push_cast;done)|((try push_cast);rfl)) (by exact WX) (by first|exact .inl rfl|exact .inr ⟨_,_,_,rfl,rfl,rfl⟩) ?_)<;>try push_cast|((with_reducible show A1 _ _ _ _ _ _ _ _);refine A1.storeR (.ref 0 0 1 4) 4 (by first|(push_cast;done)|((try push_cast);rfl)) rfl rfl (by first|(push_cast;done)|((try push_cast);rfl)) (by first|(push_cast;done)|((try push_cast);rfl)) (by simp) (by first|(push_cast;done)|rfl|(push_cast;rfl)) trivial (by first|rfl|(push_cast;rfl)) (by first|exact .inl rfl|exact .inr ⟨rfl,rfl⟩) (by first|exact .inl rfl|exact .inr ⟨_,_,_,rfl,rfl,rfl⟩) ?_)<;>try push_cast|fail)<;>try push_cast)
 apply Zw<;>push_cast
theorem bld_info:∃ j:TypeInfo,prog.info? 90=some j:=⟨_,rfl⟩
theorem My(t:List UInt8)(n:Int):A2 prog 169 [.ref 1 0 1 4] (wkH Bq t n) (.tup []) (wkH Bq t n):=by
 obtain⟨j,hj⟩:=bld_info
 unfold wkH
 generalize t.length=len at*
 refine Zd [] func169 rfl ntmps169 results169 ?_
 (have z:=trivial;(try push_cast)<;>repeat' (first|apply Zi<;>intro _|exact Zp|with_reducible apply Za|((with_reducible show A1 _ _ _ _ _ _ _ _);refine A1.loadR (by first|(push_cast;done)|((try push_cast);rfl)) rfl (by first|(push_cast;done)|((try push_cast);rfl)) (by first|(push_cast;done)|((try push_cast);rfl)) (by simp) (by first|rfl|(push_cast;rfl)) (by first|exact .inl rfl|exact .inr ⟨_,_,_,rfl,rfl,rfl⟩) ?_)<;>try push_cast|((with_reducible show A1 _ _ _ _ _ _ _ _);refine A1.neSame underlying88 hj (by first|(push_cast;done)|((try push_cast);rfl)) (by first|(push_cast;done)|((try push_cast);rfl)) (by first|exact .inl rfl|exact .inr ⟨_,_,_,rfl,rfl,rfl⟩) ?_)<;>try push_cast|fail)<;>try push_cast)
 apply Zw<;>push_cast
theorem Ut:∃ j:TypeInfo,prog.info? 5=some j/\j.zero=some (.int .u8 0)/\j.size=1/\j.bytes=1:=⟨_,rfl,by kernel_rfl,by kernel_rfl,by kernel_rfl⟩
def CcOk(a:D):Prop:=∀ t n,A2 prog 169 [.ref 1 0 1 4] (wkH a t n) (.tup []) (wkH Bq t n)
theorem F5(a:D)(hc:CcOk a)(t:List UInt8)(n:Int)(s:ByteArray)(hne:t++s.data.toList≠[])(hl:t.length+s.size<=1073741824):A2 prog 109 [.ref 1 0 1 4,.val (.string s)] (wkH a t n) (.tup [.val (.int .i64 s.size),.val .nilIface]) (wkH Bq (t++s.data.toList) n):=by
 have hc:=hc t n
 obtain⟨j,hj,hz,hs1,hb1⟩:=Ut
 have hsl:=underlying36
 have hst:=underlying9
 unfold wkH at*
 have hll:(t++s.data.toList).length=t.length+s.size:=by rw[A04];rfl
 rw[hll]
 refine Zd [] func109 rfl ntmps109 results109 ?_
 (have z:=trivial;(try push_cast)<;>repeat' (first|apply Zi<;>intro _|refine Zs [(1,1),(4,4)] (hc ..) ?_|exact Zp|with_reducible apply Za|((with_reducible show A1 _ _ _ _ _ _ _ _);refine A1.loadR (by first|(push_cast;done)|((try push_cast);rfl)) rfl (by first|(push_cast;done)|((try push_cast);rfl)) (by first|(push_cast;done)|((try push_cast);rfl)) (by simp) (by first|rfl|(push_cast;rfl)) (by first|exact .inl rfl|exact .inr ⟨_,_,_,rfl,rfl,rfl⟩) ?_)<;>try push_cast|((with_reducible show A1 _ _ _ _ _ _ _ _);refine A1.appG hsl hst hj hz hs1 hb1 hne hl (by first|(push_cast;done)|((try push_cast);rfl)) (by first|(push_cast;done)|((try push_cast);rfl)) (by first|(push_cast;done)|((try push_cast);rfl)) (by first|exact .inl rfl|exact .inr ⟨_,_,_,rfl,rfl,rfl⟩) ?_)<;>try push_cast|((with_reducible show A1 _ _ _ _ _ _ _ _);refine A1.storeR (.gref 1 (t.length+s.size)) 88 (by first|(push_cast;done)|((try push_cast);rfl)) rfl rfl (by first|(push_cast;done)|((try push_cast);rfl)) (by first|(push_cast;done)|((try push_cast);rfl)) (by simp) (by first|(push_cast;done)|rfl|(push_cast;rfl)) trivial (by first|rfl|(push_cast;rfl)) (by first|exact .inl rfl|exact .inr ⟨rfl,rfl⟩) (by first|exact .inl rfl|exact .inr ⟨_,_,_,rfl,rfl,rfl⟩) ?_)<;>try push_cast|fail)<;>try push_cast)
 apply Zr [(4,88)] rfl<;>push_cast
 all_goals trace_state
theorem c_String(t:List UInt8)(n:Int)(hne:t≠[])(hl:t.length<=1073741824):A2 prog 28 [.ref 1 0 1 4] (wkH Bq t n) (.val (.string ⟨t.toArray⟩)) []:=by
 have hp:=underlying149
 have hce:prog.cellsOf 5=1:=by kernel_rfl
 unfold wkH
 refine Zd [] func28 rfl ntmps28 results28 ?_
 (have z:=trivial;(try push_cast)<;>repeat' (first|apply Zi<;>intro _|exact Zp|with_reducible apply Za|((with_reducible show A1 _ _ _ _ _ _ _ _);refine A1.loadR (by first|(push_cast;done)|((try push_cast);rfl)) rfl (by first|(push_cast;done)|((try push_cast);rfl)) (by first|(push_cast;done)|((try push_cast);rfl)) (by simp) (by first|rfl|(push_cast;rfl)) (by first|exact .inl rfl|exact .inr ⟨_,_,_,rfl,rfl,rfl⟩) ?_)<;>try push_cast|((with_reducible show A1 _ _ _ _ _ _ _ _);refine A1.usd hne (by first|(push_cast;done)|((try push_cast);rfl)) (by first|(push_cast;done)|((try push_cast);rfl)) (by first|exact .inl rfl|exact .inr ⟨_,_,_,rfl,rfl,rfl⟩) ?_)<;>try push_cast|((with_reducible show A1 _ _ _ _ _ _ _ _);refine A1.ustr hp hce hne hl (by first|(push_cast;done)|((try push_cast);rfl)) (by first|(push_cast;done)|((try push_cast);rfl)) (by first|(push_cast;done)|((try push_cast);rfl)) (by first|exact .inl rfl|exact .inr ⟨_,_,_,rfl,rfl,rfl⟩) ?_)<;>try push_cast|fail)<;>try push_cast)
 ·omega
 ·apply Zw<;>push_cast
abbrev wkT(a:D)(t:List UInt8):Hp:=[(1,wkB a 4 t.length (t.length:Nat)),(4,byB 4 t)]
abbrev bL(s:ByteArray):List UInt8:=s.data.toList
theorem c_tjoin1(a:D)(ha:a=Qm∨a=Bq)(t:List UInt8)(s:ByteArray)(hne:t++bL s≠[])(hl:t.length+s.size<=1073741824):A2 prog 54 [.ref 1 0 0 4,.sref 3 0 1 1 1] (wkT a t++[(3,.rows [[.val (.string s)]] 1)]) (.tup []) (wkT Bq (t++bL s)):=by
 have hll:(t++bL s).length=t.length+s.size:=by rw[A04];rfl
 have hW:=F5 a (by rcases ha with rfl|rfl;exact c_ccNil;exact My) t ((t++bL s).length:Nat) s hne hl
 have w1:IntKind.i64.wrap (↑t.length+↑s.size)=((t++bL s).length:Nat):=by rw[hll,A1P];exact Aa (by omega) (by omega)
 unfold wkH at hW
 unfold wkT
 simp only[A0d,A0h]
 change A2 _ _ _ _ _ [(1,wkB Bq 4 (t++bL s).length _),(4,byB 4 (t++bL s))] at hW
 generalize t++bL s=u at*
 refine Zd [] func54 rfl ntmps54 results54 ?_
 ((try push_cast)<;>repeat' (first|apply Zi<;>intro _|exact Zp|with_reducible apply Za)<;>try push_cast)
 all_goals first|omega|skip
 refine AWp.loopI mixed (by kernel_rfl) (ι:=Bool) (fun _=>True) (fun b=>match b with
  |false=>⟨[(8,.val (.int .i64 0)),(7,.val (.int .i64 1)),(6,.sref 3 0 1 1 1),(0,.ref 1 0 0 4)],[(1,wkB a 4 t.length (t.length:Nat)),(4,byB 4 t),(3,.rows [[.val (.string s)]] 1)],100⟩
  |true=>⟨[(8,.val (.int .i64 1)),(7,.val (.int .i64 1)),(6,.sref 3 0 1 1 1),(0,.ref 1 0 0 4)],[(1,wkB Bq 4 u.length (u.length:Nat)),(4,byB 4 u),(3,.rows [[.val (.string s)]] 1)],100⟩) (fun b=>if b then 0 else 1) false trivial ?_ fun b _=>?_
 ·apply Zw<;>push_cast
 ·cases b with
  |false=>
   simp only
   (have z:=w1;(try push_cast[z])<;>repeat' (first|apply Zi<;>intro _|refine Zs [(1,1),(4,4)] hW ?_|exact Zo|with_reducible apply Za|((with_reducible show A1 _ _ _ _ _ _ _ _);refine A1.loadR (by first|(push_cast[z];done)|((try push_cast[z]);rfl)) rfl (by first|(push_cast[z];done)|((try push_cast[z]);rfl)) (by first|(push_cast[z];done)|((try push_cast[z]);rfl)) (by simp) (by first|rfl|(push_cast[z];rfl)) (by first|exact .inl rfl|exact .inr ⟨_,_,_,rfl,rfl,rfl⟩) ?_)<;>try push_cast[z]|((with_reducible show A1 _ _ _ _ _ _ _ _);refine A1.storeR (.val (.int .i64 u.length)) 4 (by first|(push_cast[z];done)|((try push_cast[z]);rfl)) rfl rfl (by first|(push_cast[z];done)|((try push_cast[z]);rfl)) (by first|(push_cast[z];done)|((try push_cast[z]);rfl)) (by simp) (by first|(push_cast[z];done)|rfl|(push_cast[z];rfl)) trivial (by first|rfl|(push_cast[z];rfl)) (by first|exact .inl rfl|exact .inr ⟨rfl,rfl⟩) (by first|exact .inl rfl|exact .inr ⟨_,_,_,rfl,rfl,rfl⟩) ?_)<;>try push_cast[z]|fail)<;>try push_cast[z])
   all_goals first|omega|skip
   refine⟨true,by decide,?_⟩
   simp only
   apply Zr [(4,380)] rfl<;>push_cast
   all_goals first|rfl|skip
  |true=>
   simp only
   (have z:=w1;(try push_cast[z])<;>repeat' (first|apply Zi<;>intro _|exact Zo|with_reducible apply Za)<;>try push_cast[z])
   all_goals first|omega|skip
   apply Zw<;>push_cast
theorem c_tjoin2(t:List UInt8)(s s':ByteArray)(hne:t≠[])(hl:t.length+s.size+s'.size<=1073741824):A2 prog 54 [.ref 1 0 0 4,.sref 3 0 2 2 1] (wkT Bq t++[(3,.rows [[.val (.string s)],[.val (.string s')]] 1)]) (.tup []) (wkT Bq (t++bL s++bL s')):=by
 have hll:(t++bL s).length=t.length+s.size:=by rw[A04];rfl
 have hll':(t++bL s++bL s').length=t.length+s.size+s'.size:=by rw[A04,hll];rfl
 have hW:=F5 Bq My t ((t++bL s).length:Nat) s (by simp[hne]) (by omega)
 have hW':=F5 Bq My (t++bL s) ((t++bL s++bL s').length:Nat) s' (by simp[hne]) (by omega)
 have w1:IntKind.i64.wrap (↑t.length+↑s.size)=((t++bL s).length:Nat):=by rw[hll,A1P];exact Aa (by omega) (by omega)
 have w2:IntKind.i64.wrap (↑(t++bL s).length+↑s'.size)=((t++bL s++bL s').length:Nat):=by rw[hll',hll];push_cast;exact Aa (by omega) (by omega)
 unfold wkH at hW hW'
 unfold wkT
 simp only[A0d,A0h]
 change A2 _ _ _ _ _ [(1,wkB Bq 4 (t++bL s).length _),(4,byB 4 (t++bL s))] at hW
 change A2 _ _ _ _ _ [(1,wkB Bq 4 (t++bL s++bL s').length _),(4,byB 4 (t++bL s++bL s'))] at hW'
 generalize t++bL s++bL s'=u' at*
 generalize t++bL s=u at*
 refine Zd [] func54 rfl ntmps54 results54 ?_
 ((try push_cast)<;>repeat' (first|apply Zi<;>intro _|exact Zp|with_reducible apply Za)<;>try push_cast)
 all_goals first|omega|skip
 refine Zl (fun i=>i<=2) (fun b=>match b with
  |0=>⟨[(8,.val (.int .i64 0)),(7,.val (.int .i64 2)),(6,.sref 3 0 2 2 1),(0,.ref 1 0 0 4)],[(1,wkB Bq 4 t.length (t.length:Nat)),(4,byB 4 t),(3,.rows [[.val (.string s)],[.val (.string s')]] 1)],100⟩
  |1=>⟨[(8,.val (.int .i64 1)),(7,.val (.int .i64 2)),(6,.sref 3 0 2 2 1),(0,.ref 1 0 0 4)],[(1,wkB Bq 4 u.length (u.length:Nat)),(4,byB 4 u),(3,.rows [[.val (.string s)],[.val (.string s')]] 1)],100⟩
  |_=>⟨[(8,.val (.int .i64 2)),(7,.val (.int .i64 2)),(6,.sref 3 0 2 2 1),(0,.ref 1 0 0 4)],[(1,wkB Bq 4 u'.length (u'.length:Nat)),(4,byB 4 u'),(3,.rows [[.val (.string s)],[.val (.string s')]] 1)],100⟩) (fun b=>2-b) 0 (by simp) ?_ fun b hb=>?_
 ·apply Zw<;>push_cast
 ·obtain rfl|rfl|rfl:b=0∨b=1∨b=2:=by omega
  ·simp only
   (have z:=w1;(try push_cast[z])<;>repeat' (first|apply Zi<;>intro _|refine Zs [(1,1),(4,4)] hW ?_|exact Zo|with_reducible apply Za|((with_reducible show A1 _ _ _ _ _ _ _ _);refine A1.loadR (by first|(push_cast[z];done)|((try push_cast[z]);rfl)) rfl (by first|(push_cast[z];done)|((try push_cast[z]);rfl)) (by first|(push_cast[z];done)|((try push_cast[z]);rfl)) (by simp) (by first|rfl|(push_cast[z];rfl)) (by first|exact .inl rfl|exact .inr ⟨_,_,_,rfl,rfl,rfl⟩) ?_)<;>try push_cast[z]|((with_reducible show A1 _ _ _ _ _ _ _ _);refine A1.storeR (.val (.int .i64 u.length)) 4 (by first|(push_cast[z];done)|((try push_cast[z]);rfl)) rfl rfl (by first|(push_cast[z];done)|((try push_cast[z]);rfl)) (by first|(push_cast[z];done)|((try push_cast[z]);rfl)) (by simp) (by first|(push_cast[z];done)|rfl|(push_cast[z];rfl)) trivial (by first|rfl|(push_cast[z];rfl)) (by first|exact .inl rfl|exact .inr ⟨rfl,rfl⟩) (by first|exact .inl rfl|exact .inr ⟨_,_,_,rfl,rfl,rfl⟩) ?_)<;>try push_cast[z]|fail)<;>try push_cast[z])
   all_goals first|omega|skip
   refine⟨1,by decide,by decide,?_⟩
   simp only
   apply Zr [(4,380)] rfl<;>push_cast
   all_goals first|rfl|skip
  ·simp only
   (have z:=w2;(try push_cast[z])<;>repeat' (first|apply Zi<;>intro _|refine Zs [(1,1),(4,4)] (hW' ..) ?_|exact Zo|with_reducible apply Za|((with_reducible show A1 _ _ _ _ _ _ _ _);refine A1.loadR (by first|(push_cast[z];done)|((try push_cast[z]);rfl)) rfl (by first|(push_cast[z];done)|((try push_cast[z]);rfl)) (by first|(push_cast[z];done)|((try push_cast[z]);rfl)) (by simp) (by first|rfl|(push_cast[z];rfl)) (by first|exact .inl rfl|exact .inr ⟨_,_,_,rfl,rfl,rfl⟩) ?_)<;>try push_cast[z]|((with_reducible show A1 _ _ _ _ _ _ _ _);refine A1.storeR (.val (.int .i64 u'.length)) 4 (by first|(push_cast[z];done)|((try push_cast[z]);rfl)) rfl rfl (by first|(push_cast[z];done)|((try push_cast[z]);rfl)) (by first|(push_cast[z];done)|((try push_cast[z]);rfl)) (by simp) (by first|(push_cast[z];done)|rfl|(push_cast[z];rfl)) trivial (by first|rfl|(push_cast[z];rfl)) (by first|exact .inl rfl|exact .inr ⟨rfl,rfl⟩) (by first|exact .inl rfl|exact .inr ⟨_,_,_,rfl,rfl,rfl⟩) ?_)<;>try push_cast[z]|fail)<;>try push_cast[z])
   all_goals first|omega|skip
   refine⟨2,by decide,by decide,?_⟩
   simp only
   apply Zr [(4,380)] rfl<;>push_cast
   all_goals first|rfl|skip
  ·simp only
   (have z:=w1;(try push_cast[z])<;>repeat' (first|apply Zi<;>intro _|exact Zo|with_reducible apply Za)<;>try push_cast[z])
   all_goals first|omega|skip
   apply Zw<;>push_cast
theorem j1(a:D)(ha:a=Qm∨a=Bq)(t u:List UInt8)(s:ByteArray)(hu:t++bL s=u)(hne:u≠[])(hl:u.length<=1073741824):A2 prog 54 [.ref 1 0 0 4,.sref 3 0 1 1 1] [(1,wkB a 4 t.length (t.length:Nat)),(4,byB 4 t),(3,.rows [[.val (.string s)]] 1)] (.tup []) [(1,wkB Bq 4 u.length (u.length:Nat)),(4,byB 4 u)]:=by
 subst hu
 exact c_tjoin1 a ha t s hne (by rw[A04] at hl;exact hl)
theorem j2(t u:List UInt8)(s s':ByteArray)(hu:t++bL s++bL s'=u)(hne:t≠[])(hl:u.length<=1073741824):A2 prog 54 [.ref 1 0 0 4,.sref 3 0 2 2 1] [(1,wkB Bq 4 t.length (t.length:Nat)),(4,byB 4 t),(3,.rows [[.val (.string s)],[.val (.string s')]] 1)] (.tup []) [(1,wkB Bq 4 u.length (u.length:Nat)),(4,byB 4 u)]:=by
 subst hu
 exact c_tjoin2 t s s' hne (by rw[A04,A04] at hl;exact hl)
def WrT(f:FuncId)(caps:List D)(v:GV):Prop:=∀ t u:List UInt8,t++tv v=u->t≠[]->u.length<=1073741824->
 A2 prog f (.ref 1 0 0 4::caps) [(1,wkB Bq 4 t.length (t.length:Nat)),(4,byB 4 t)] (.tup []) [(1,wkB Bq 4 u.length (u.length:Nat)),(4,byB 4 u)]
def Qw(v:GV):Prop:=
 (∃ f,A0 prog 27 [.agg (A4 v)] (.func (.func f) [] [.ptr (A4 v) 0])/\WrT f [.ptr (A4 v) 0] v)∨
 (A0 prog 27 [.agg (A4 v)] (.func (.func 64) [] [])/\WrT 64 [] v)
theorem W9(v:GV)(hk:v.kind=1):Qw v:=by
 refine .inr ⟨?_,fun t u hu hne hl=>?_⟩
 ·rw[A7,hk]
  refine Zf [0] func27 rfl ntmps27 results27 ?_
  ((try push_cast)<;>repeat' (first|apply Zi<;>intro _|exact Zp|with_reducible apply Za)<;>try push_cast)
 ·have e:tv v=[110,117,108,108]:=by rw[FW,hk];rfl
  rw[e] at hu
  have hJ:=j1 Bq (.inr rfl) t u ⟨#[110,117,108,108]⟩ hu (by rw[<-hu];simp[hne]) hl
  clear hu
  refine Zd [] func64 rfl ntmps64 results64 ?_
  (have z:=trivial;(try push_cast)<;>repeat' (first|apply Zi<;>intro _|refine Zs [(1,1),(4,4),(3,16)] hJ ?_|exact Zp|with_reducible apply Za)<;>try push_cast)
  apply Zr [(4,28)] rfl<;>push_cast
theorem Yv(v:GV)(hs:Sm v)(hk:v.kind=3):Qw v:=by
 refine .inl ⟨56,?_,fun t u hu hne hl=>?_⟩
 ·rw[A7,hk]
  refine Zf [0] func27 rfl ntmps27 results27 ?_
  ((try push_cast)<;>repeat' (first|apply Zi<;>intro _|exact Zp|with_reducible apply Za)<;>try push_cast)
 ·have hf:=KF v.n hs.int.1 hs.int.2
  have e:tv v=Lib.itoa v.n:=by rw[FW,hk];rfl
  rw[e] at hu
  have hJ:=j1 Bq (.inr rfl) t u ⟨(Lib.itoa v.n).toArray⟩ (by simpa[bL] using hu) (by rw[<-hu];simp[hne]) hl
  clear hu e
  generalize(⟨(Lib.itoa v.n).toArray⟩:ByteArray)=s at*
  rw[A7,hk]
  refine Zd [] func56 rfl ntmps56 results56 ?_
  (have z:=trivial;(try push_cast)<;>repeat' (first|apply Zi<;>intro _|refine Zc (hf ..) ?_|refine Zs [(1,1),(4,4),(3,40)] hJ ?_|exact Zp|with_reducible apply Za)<;>try push_cast)
  apply Zr [(4,52)] rfl<;>push_cast
theorem Sp(s:ByteArray)(hs:s.size<=1048576):A0 prog 59 [.val (.string s)] (.val (.string (FA s))):=by
 have h:=Vl s hs
 refine Zf [] func59 rfl ntmps59 results59 ?_
 (have z:=trivial;(try push_cast)<;>repeat' (first|apply Zi<;>intro _|refine Zc h ?_|exact Zp|with_reducible apply Za)<;>try push_cast)
theorem W8(v:GV)(hs:Sm v)(hk:v.kind=4):Qw v:=by
 refine .inl ⟨58,?_,fun t u hu hne hl=>?_⟩
 ·rw[A7,hk]
  refine Zf [0] func27 rfl ntmps27 results27 ?_
  ((try push_cast)<;>repeat' (first|apply Zi<;>intro _|exact Zp|with_reducible apply Za)<;>try push_cast)
 ·have hf:=Sp v.s hs.text
  have e:tv v=DW v.s:=by rw[FW,hk];rfl
  rw[e] at hu
  have hJ:=j1 Bq (.inr rfl) t u (FA v.s) hu (by rw[<-hu];simp[hne]) hl
  clear hu e
  generalize FA v.s=s at*
  rw[A7,hk]
  refine Zd [] func58 rfl ntmps58 results58 ?_
  (have z:=trivial;(try push_cast)<;>repeat' (first|apply Zi<;>intro _|refine Zc (hf ..) ?_|refine Zs [(1,1),(4,4),(3,40)] hJ ?_|exact Zp|with_reducible apply Za)<;>try push_cast)
  apply Zr [(4,52)] rfl<;>push_cast
theorem Wa(v:GV)(hs:Sm v)(hk:v.kind=5)(ih:∀ x ∈ v.list,Qw x):Qw v:=by
 refine .inl ⟨60,?_,fun t u hu hne hl=>?_⟩
 ·rw[A7,hk]
  refine Zf [0] func27 rfl ntmps27 results27 ?_
  ((try push_cast)<;>repeat' (first|apply Zi<;>intro _|exact Zp|with_reducible apply Za)<;>try push_cast)
 ·have e:tv v=91::(DC (v.list.map tv)++[93]):=by rw[FW,hk];rfl
  rw[e] at hu
  have hll:=hs.list_le
  rw[A7,hk]
  clear e hk hs
  generalize v.list=l at*
  have oL:=Ar (f:=A4) BO l
  have hul:t.length+1+(DC (l.map tv)).length+1=u.length:=by rw[<-hu];simp;omega
  obtain⟨X,hX⟩:∃ X:Nat->List UInt8,∀ i,X i=t++91::DC ((l.take i).map tv):=⟨_,fun _=>rfl⟩
  have hXl:∀ i,(X i).length+1<=u.length:=fun i=>by
   have:=QS tv l i
   rw[hX];simp only[A04,A0g];omega
  have hXn:∀ i,X i≠[]:=fun i=>by rw[hX];simp
  have hX0:t++bL ⟨#[91]⟩=X 0:=by rw[hX];simp[DC,bL]
  have hXe:X l.length++bL ⟨#[93]⟩=u:=by rw[hX,<-hu,A1j];simp[bL]
  have hXs:∀ i,i<l.length->X i++bL (if i=0 then⟨#[]⟩ else⟨#[44]⟩)++tv (l.getD i zV)=X (i+1):=fun i hi=>by
   rw[hX,hX,N0 tv l i hi]
   have ex:l.getD i zV=l[i]:=by rw[A02,A0b hi];rfl
   rw[ex]
   by_cases h0:i=0
   ·simp[h0,bL]
   ·simp[h0,bL]
  have hJ:=j1 Bq (.inr rfl) t (X 0) ⟨#[91]⟩ hX0 (hXn 0) (by have:=hXl 0;omega)
  have hJ3:=j1 Bq (.inr rfl) (X l.length) u ⟨#[93]⟩ hXe (by rw[<-hu];simp) hl
  clear hX hX0 hXe hu
  refine Zd [] func60 rfl ntmps60 results60 ?_
  (have z:=oL;(try push_cast[z])<;>repeat' (first|apply Zi<;>intro _|refine Zs [(1,1),(4,4),(3,16)] hJ ?_|exact Zo|with_reducible apply Za)<;>try push_cast[z])
  all_goals first|omega|skip
  refine Zl (fun i=>i<=l.length) (fun i=>⟨[(11,.val (.int .i64 i)),(10,.val (.int .i64 l.length)),(9,.slice (l.map A4) false),(0,.ref 1 0 0 4)],[(1,wkB Bq 4 (X i).length ((X i).length:Nat)),(4,byB 4 (X i))],400⟩) (fun i=>l.length-i) 0 (by simp) ?_ fun i hi=>?_
  ·apply Zr [(4,28)] rfl<;>push_cast [oL]
  ·push_cast
   refine Al (fun ha=>?_) (fun ha=>?_)
   ·have hi':i<l.length:=by simpa using ha
    have e1:=FF hi'
    have hx:=ih _ (Ak (d:=zV) hi')
    have hXs:=hXs i hi'
    have hXi:=hXl i
    have hXi1:=hXl (i+1)
    have hXin:=hXn i
    have hXl1:(X i++bL (if i=0 then⟨#[]⟩ else⟨#[44]⟩)).length<=(X (i+1)).length:=by rw[<-hXs,A04 (bs:=tv _)];omega
    generalize l.getD i zV=x at*
    have hB:=He i (by omega)
    have w1:IntKind.i64.wrap (↑i+1)=↑i+1:=Aa (by omega) (by omega)
    have hJ2:=j1 Bq (.inr rfl) (X i) _ (if i=0 then⟨#[]⟩ else⟨#[44]⟩) rfl (by simp[hXin]) (by omega)
    generalize(if i=0 then(⟨#[]⟩:ByteArray) else⟨#[44]⟩)=sep at*
    have hmn:X i++bL sep≠[]:=by simp[hXin]
    generalize X i++bL sep=Y at*
    rcases hx with⟨f,h1,h2⟩|⟨h1,h2⟩
    ·have h3:=h2 Y (X (i+1)) hXs hmn (by omega)
     (have z:=Za e1<|Za oL w1;(try push_cast[z])<;>repeat' (first|apply Zi<;>intro _|refine Zc hB ?_|refine Zs [(1,1),(4,4),(3,880)] hJ2 ?_|refine Zc h1 ?_|refine Zt [(1,1),(4,892)] h3 ?_|exact Zo|with_reducible apply Za)<;>try push_cast[z])
     all_goals first|omega|skip
     refine⟨i+1,hi',by omega,?_⟩
     apply Zr [(4,924)] rfl<;>push_cast [oL]
     all_goals first|rfl|trace_state
    ·have h3:=h2 Y (X (i+1)) hXs hmn (by omega)
     (have z:=Za e1<|Za oL w1;(try push_cast[z])<;>repeat' (first|apply Zi<;>intro _|refine Zc hB ?_|refine Zs [(1,1),(4,4),(3,880)] hJ2 ?_|refine Zc h1 ?_|refine Zt [(1,1),(4,892)] h3 ?_|exact Zo|with_reducible apply Za)<;>try push_cast[z])
     all_goals first|omega|skip
     refine⟨i+1,hi',by omega,?_⟩
     apply Zr [(4,924)] rfl<;>push_cast [oL]
     all_goals first|rfl|trace_state
   ·have hi':i=l.length:=by simp at ha;omega
    subst hi'
    (have z:=oL;(try push_cast[z])<;>repeat' (first|apply Zi<;>intro _|refine Zs [(1,1),(4,4),(3,816)] hJ3 ?_|exact Zo|with_reducible apply Za)<;>try push_cast[z])
    all_goals first|omega|skip
    apply Zr [(4,828)] rfl<;>push_cast
    all_goals first|rfl|trace_state
end Go.Ab
