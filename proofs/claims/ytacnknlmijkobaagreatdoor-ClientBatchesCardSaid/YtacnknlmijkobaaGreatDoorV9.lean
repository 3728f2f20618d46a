/- The layer by which the program is walked, and what its functions do: part 10 of 15. -/
import Derived.Test.YtacnknlmijkobaaGreatDoorV8
import Derived.Shelf.Unicode.ValidAny
import Derived.Shelf.Unicode.DecodeAny
import Derived.Shelf.Strconv.Itoa4
import Derived.Shelf.Small.Wraps
import Derived.Shelf.Strings.Prefix
import Derived.Lib.AppendIntMem
import Derived.Lib.ItoaLen
import Derived.Lib.MapLaws
import Derived.Lib.ValidLaws
import Derived.Sort.Grow
set_option maxHeartbeats 4000000
set_option maxRecDepth 20000
set_option linter.unusedVariables false
set_option linter.unusedSimpArgs false
set_option linter.unnecessarySimpa false
namespace Go.Ab
open Go.Proofs Go.Proofs.Tryz
structure OQ where
 chg:Option (List CE×Nat)
 us:List Bw
def OQ.es(q:OQ):List CE:=(q.chg.getD ([],0)).1
def OQ.ck(q:OQ):Nat:=(q.chg.getD ([],0)).2
def cD(n:Nat)(q:OQ):D:=match q.chg with|none=>.val (.map none)|some _=>.mref n
def cB(q:OQ):Blk:=match q.chg with|none=>.junk|some x=>.map (x.1.map CI) x.2
def oq(b:GT)(q:OQ):OV:=⟨b,q.chg,some q.us⟩
def oqH(b:GT)(q:OQ):Hp:=[(1,.rows [[Ac b,cD 2 q,.gref 4 q.us.length]] 3),(2,cB q),(4,.grow (q.us.map fun u=>[Cc u]) 1)]
theorem Jc(b:GT)(q:OQ):ovH (oq b q)=oqH b q:=by
 obtain⟨c,us⟩:=q
 cases c with
 |none=>rfl
 |some x=>rfl
theorem renD_cD(r:Nat->Nat)(n:Nat)(q:OQ):AV r (cD n q)=cD (r n) q:=by
 obtain⟨c,us⟩:=q
 cases c<;>rfl
theorem ltD_cD{m n:Nat}(q:OQ)(h:okN m n=true):ltD m (cD n q)=true:=by
 obtain⟨c,us⟩:=q
 cases c with
 |none=>rfl
 |some x=>exact h
theorem renB_cB(r:Nat->Nat)(q:OQ):F2 r (cB q)=cB q:=by
 obtain⟨c,us⟩:=q
 cases c with
 |none=>rfl
 |some x=>simp only[cB,F2,Rx]
theorem ltB_cB(n:Nat)(q:OQ):ltB n (cB q)=true:=by
 obtain⟨c,us⟩:=q
 cases c with
 |none=>rfl
 |some x=>simp only[cB,ltB,Va]
attribute [push_cast] renD_cD ltD_cD renB_cB ltB_cB
def OQ.view(q:OQ)(l:List GE):List GE:=Gi q.es l
structure FJ(b:GT)(q:OQ)(l:List GE):Prop where
 tr:DB b l
 ch:EA q.es q.ck
 us:q.chg=none->q.us=[]
theorem FJ.ov{b:GT}{q:OQ}{l:List GE}(h:FJ b q l):OvOk (oq b q) l:=by
 exact⟨h.tr,h.ch⟩
theorem V2(b:GT)(q:OQ)(l:List GE):(oq b q).view l=q.view l:=rfl
theorem oq_us(b:GT)(q:OQ):(oq b q).us=q.us:=rfl
def OQ.step(q:OQ)(k:ByteArray)(s:C5):OQ:=
 ⟨some ((Jg q.es q.ck k s).1,(Jg q.es q.ck k s).2),q.us++[⟨k,(BI k q.es 0).isSome,((BI k q.es 0).map (·.2)).getD (false,zV)⟩]⟩
theorem oq_step(b:GT)(q:OQ)(k:ByteArray)(s:C5):(oq b q).step k s=oq b (q.step k s):=rfl
theorem FJ.step{b:GT}{q:OQ}{l:List GE}(h:FJ b q l){k:ByteArray}{s:C5}(hs:Sm s.2/\(s.1=false->s.2=zV)/\k.size<=64):FJ b (q.step k s) l/\(q.step k s).view l=if s.1 then Br (k,s.2) (q.view l) else Cm k (q.view l):=
 ⟨⟨h.tr,h.ch.set hs,fun e=>by cases e⟩,VN h.ch h.tr.srt hs⟩
section
variable{b:GT}{q:OQ}{l:List GE}(h:FJ b q l)(hb:l.length<=1099511627776)(k:ByteArray)
include h hb
theorem q_Get:A2 prog 170 [.ref 1 0 0 3,.val (.string k)] (oqH b q) (.tup [.agg (A5 (C3 (Az k (q.view l)))),.val (.bool (Az k (q.view l)).isSome)]) (oqH b q):=by
 have:=c_OGet (oq b q) l h.ov hb k
 rwa[Jc,V2] at this
end
theorem PQ(b:GT)(q:OQ):A2 prog 109 [.ref 1 0 0 3] (oqH b q) (.val (.int .i64 (q.us.length:Nat))) (oqH b q):=by
 have:=c_Mark (oq b q)
 rw[Jc] at this
 rw[<-oq_us b q]
 exact this
theorem q_step(b:GT)(q:OQ)(k:ByteArray)(s:C5)(hn:q.us.length<1073741824):A2 prog 169 [.ref 1 0 0 3,.val (.string k),.agg (CP s)] (oqH b q) (.tup []) (oqH b (q.step k s)):=by
 have:=c_step (oq b q) k s (by show(oq b q).us.length<_;rw[oq_us];exact hn)
 rwa[oq_step,Jc,Jc] at this
def OQ.back(q:OQ)(m:Nat):OQ:=⟨q.chg.map fun c=>rwd c (q.us.drop m),q.us.take m⟩
theorem c_BackN(b:GT):A2 prog 111 [.ref 1 0 0 3,.val (.int .i64 (0:Nat))] (ovH ⟨b,none,some []⟩) (.val (.int .i64 0)) (ovH ⟨b,none,some []⟩):=by
 have oB:=A3 b
 simp only[LT]
 refine Zd [] func111 rfl ntmps111 results111 ?_
 (have z:=oB;(try push_cast[z])<;>repeat' (first|apply Zi<;>intro _|exact Zo|with_reducible apply Za)<;>try push_cast[z])
 refine AWp.loopI mixed (by kernel_rfl) (ι:=Unit) (fun j=>True) (fun j=>⟨[(5,.val (.int .i64 (-1))),(1,.val (.int .i64 0)),(0,.ref 1 0 0 3)],[(1,.rows [[Ac b,.val (.map none),.gref 4 0]] 3),(2,.junk),(4,.grow [] 1)],88⟩) (fun j=>0) () trivial ?_ fun j hj=>?_
 ·apply Zw<;>push_cast [oB]
  all_goals decide
 ·(have z:=oB;(try push_cast[z])<;>repeat' (first|apply Zi<;>intro _|exact Zo|with_reducible apply Za)<;>try push_cast[z])
  all_goals first|omega|exact La|exact L9|skip
  refine Ar.trans (Ar.cut (b:=4) 0 rfl (A0a _)) ?_
  have g1:=S5 4 288 0 b
  simp only[grG] at g1
  push_cast[g1]
  apply Zr [(4,288)] rfl<;>push_cast [oB]
theorem q_Back(b:GT)(q:OQ)(hq:q.chg=none->q.us=[])(m:Nat)(hm:m<=q.us.length)(hn:q.us.length<=1073741824):A2 prog 111 [.ref 1 0 0 3,.val (.int .i64 m)] (oqH b q) (.val (.int .i64 0)) (oqH b (q.back m)):=by
 rw[<-Jc,<-Jc]
 obtain⟨c,us⟩:=q
 cases c with
 |none=>
  have hu:us=[]:=hq rfl
  subst hu
  obtain rfl:m=0:=Nat.le_zero.1 hm
  exact c_BackN b
 |some x=>
  obtain⟨es,ck⟩:=x
  exact c_Back b (es,ck) us m hm hn
theorem V1(b:GT):A2 prog 40 [.agg [Ac b]] [] (.ref 0 0 0 3) [(0,.rows [[Ac b,.val (.map none),.gref 4 0]] 3),(2,.junk),(4,.grow [] 1)]:=by
 refine Zd [] func40 rfl ntmps40 results40 ?_
 ((try push_cast)<;>repeat' (first|apply Zi<;>intro _|exact Zp|with_reducible apply Za)<;>try push_cast)
 have hs:Ar ⟨[(0,.ref 40 0 0 3)],[(40,.rows [[Ac b,.val (.map none),.slice [] true]] 3),(8,.rows [[Ac b]] 1)],28⟩ ⟨[(0,.ref 40 0 0 3)],[(40,.rows [[Ac b,.val (.map none),.slice [] true]] 3)],28⟩:=by
  have oB:=A3 b
  apply Zw<;>push_cast [oB]
 refine Ar.trans hs (Ar.trans (Ar.nilgrow3 (sz:=1)) ?_)
 apply Zr [(0,40),(4,56),(2,1000)] rfl<;>push_cast
def UOk(u:Bw):Prop:=Sm u.old.2/\(u.old.1=false->u.old.2=zV)/\u.k.size<=64
theorem rw1_ok{p:List CE×Nat}(h:EA p.1 p.2){u:Bw}(hu:UOk u):EA (rw1 p u).1 (rw1 p u).2:=by
 unfold rw1
 split
 ·exact h.set hu
 ·exact h.del u.k
theorem lk_rw1{p:List CE×Nat}(h:EA p.1 p.2)(u:Bw)(k:ByteArray):lk (rw1 p u).1 k=if u.k=k then(if u.was then some u.old else none) else lk p.1 k:=by
 unfold rw1
 cases u.was with
 |true=>simp only[if_true];exact Q8 h u.k u.old k
 |false=>simp only[A0C,if_false];exact lk_cdel h u.k k
theorem Yn(p:List CE×Nat)(us:List Bw)(u:Bw):rwd p (us++[u])=rwd (rw1 p u) us:=by
 simp[rwd]
theorem Yo{us:List Bw}(hu:∀ u ∈ us,UOk u):∀ {p:List CE×Nat},EA p.1 p.2->EA (rwd p us).1 (rwd p us).2:=by
 have:∀ (l:List Bw),(∀ u ∈ l,UOk u)->∀ {p:List CE×Nat},EA p.1 p.2->EA (l.foldl rw1 p).1 (l.foldl rw1 p).2:=by
  intro l
  induction l with
  |nil=>intro _ p h;exact h
  |cons u l ih=>intro hl p h;exact ih (fun x hx=>hl x (A0p _ hx)) (rw1_ok h (hl u (A0B ..)))
 exact fun {p} h=>this us.reverse (fun u hu'=>hu u (List.mem_reverse.1 hu')) h
structure N9(q q':OQ):Prop where
 ex:∃ ext,q'.us=q.us++ext/\(∀ u ∈ ext,UOk u)/\∀ k,lk (rwd (q'.es,q'.ck) ext).1 k=lk q.es k
theorem N9.refl(q:OQ):N9 q q:=⟨[],by simp,by simp,fun k=>rfl⟩
theorem Qo(k:ByteArray)(es:List CE):(BI k es 0).isSome=(lk es k).isSome/\((BI k es 0).map (·.2))=lk es k:=by
 have:=Ha k es 0
 rw[<-this]
 cases BI k es 0<;>simp
theorem OQ.step_es(q:OQ)(k:ByteArray)(s:C5):(q.step k s).es=(Jg q.es q.ck k s).1:=rfl
theorem OQ.step_us(q:OQ)(k:ByteArray)(s:C5):(q.step k s).us=q.us++[⟨k,(BI k q.es 0).isSome,((BI k q.es 0).map (·.2)).getD (false,zV)⟩]:=rfl
theorem N9.step{q:OQ}(h:EA q.es q.ck){k:ByteArray}{s:C5}(hs:Sm s.2/\(s.1=false->s.2=zV)/\k.size<=64):N9 q (q.step k s):=by
 obtain⟨c1,c2⟩:=Qo k q.es
 refine⟨[⟨k,(lk q.es k).isSome,(lk q.es k).getD (false,zV)⟩],by rw[OQ.step_us,c1,c2],fun u hu=>?_,fun k'=>?_⟩
 ·rw[A0d.1 hu]
  cases hl:lk q.es k with
  |none=>exact ⟨Sm_zV,fun _=>rfl,hs.2.2⟩
  |some old=>
   obtain⟨n,hm⟩:=ZQ hl
   have:=h.sm _ hm
   exact⟨this.1,this.2.1,hs.2.2⟩
 ·have hc:EA (q.step k s).es (q.step k s).ck:=h.set hs
  show lk (rw1 ((q.step k s).es,(q.step k s).ck) ⟨k,(lk q.es k).isSome,(lk q.es k).getD (false,zV)⟩).1 k'=_
  rw[lk_rw1 (p:=((q.step k s).es,(q.step k s).ck)) hc]
  simp only[OQ.step_es]
  rw[Q8 h]
  by_cases hk:k=k'
  ·subst hk
   cases lk q.es k<;>simp
  ·simp[hk]
theorem OQ.back_ok{b:GT}{q q':OQ}{l:List GE}(hq:FJ b q l)(hq':FJ b q' l)(e:N9 q q'):FJ b (q'.back q.us.length) l/\(q'.back q.us.length).view l=q.view l/\N9 q (q'.back q.us.length)/\q.us.length<=q'.us.length:=by
 obtain⟨ext,e1,e2,e3⟩:=e
 have hle:q.us.length<=q'.us.length:=by rw[e1,A04];omega
 obtain⟨c,us⟩:=q'
 have e1':us=q.us++ext:=e1
 have hd:us.drop q.us.length=ext:=by rw[e1',List.drop_left]
 have ht:us.take q.us.length=q.us:=by rw[e1',List.take_left]
 cases c with
 |none=>
  have hu:us=[]:=hq'.us rfl
  subst hu
  have hx:ext=[]:=(List.append_eq_nil_iff.1 e1'.symm).2
  subst hx
  simp only[OQ.back,ht,Option.map_none]
  refine⟨⟨hq.tr,hq'.ch,fun _=>(List.append_eq_nil_iff.1 e1'.symm).1⟩,KD hq.tr.srt hq'.ch.keys hq.ch.keys (fun k=>e3 k),⟨[],by rw[A0H],by simp,fun k=>e3 k⟩,hle⟩
 |some x=>
  obtain⟨es,ck⟩:=x
  have hch:EA (rwd (es,ck) ext).1 (rwd (es,ck) ext).2:=Yo e2 hq'.ch
  simp only[OQ.back,hd,ht,A15]
  refine⟨⟨hq.tr,hch,fun e=>by cases e⟩,KD hq.tr.srt hch.keys hq.ch.keys e3,⟨[],by rw[A0H],by simp,fun k=>e3 k⟩,hle⟩
end Go.Ab
namespace Go.Proofs
open Go.Proofs Go.Proofs.Tryz Go.RowKit Go.Shelf
def Tryz.sValid_ren:Go.Shelf.Ren:=⟨fun|196=>239|259=>308|n=>n,fun|9=>9|4=>4|3=>3|5=>5|12=>12|119=>378|0=>0|46=>258|139=>381|138=>380|53=>27|n=>n,fun|3=>1|4=>2|n=>n⟩
theorem Tryz.sValid:Go.Proofs.Lays.n196 prog Tryz.sValid_ren:= {
 mixed:=by kernel_rfl
 f196:=func239.trans (congrArg some (by kernel_rfl))
 f259:=func308.trans (congrArg some (by kernel_rfl))
 t0:=underlying0
 a0:=isAgg0
 z0:=sizeOf0
 v0:=zeroValue0
 t3:=underlying3
 a3:=isAgg3
 z3:=sizeOf3
 v3:=zeroValue3
 t4:=underlying4
 a4:=isAgg4
 z4:=sizeOf4
 v4:=zeroValue4
 t5:=underlying5
 a5:=isAgg5
 z5:=sizeOf5
 v5:=zeroValue5
 t9:=underlying9
 a9:=isAgg9
 z9:=sizeOf9
 v9:=zeroValue9
 t12:=underlying12
 a12:=isAgg12
 z12:=sizeOf12
 v12:=zeroValue12
 t46:=underlying258
 a46:=isAgg258
 z46:=sizeOf258
 v46:=zeroValue258
 t53:=underlying27
 a53:=isAgg27
 z53:=sizeOf27
 v53:=zeroValue27
 t119:=underlying378
 a119:=isAgg378
 z119:=sizeOf378
 t138:=underlying380
 a138:=isAgg380
 z138:=sizeOf380
 v138:=zeroValue380
 t139:=underlying381
 a139:=isAgg381
 z139:=sizeOf381
 v139:=zeroValue381
 g3:=by kernel_rfl
 g4:=by kernel_rfl}
def Tryz.sDecode_ren:Go.Shelf.Ren:=⟨fun|197=>333|260=>350|n=>n,fun|9=>9|21=>21|3=>3|4=>4|5=>5|105=>400|119=>378|0=>0|46=>258|139=>381|138=>380|n=>n,fun|3=>1|4=>2|n=>n⟩
theorem Tryz.sDecode:Go.Proofs.Lays.n197 prog Tryz.sDecode_ren:= {
 mixed:=by kernel_rfl
 f197:=func333.trans (congrArg some (by kernel_rfl))
 f260:=func350.trans (congrArg some (by kernel_rfl))
 t0:=underlying0
 a0:=isAgg0
 z0:=sizeOf0
 v0:=zeroValue0
 t3:=underlying3
 a3:=isAgg3
 z3:=sizeOf3
 v3:=zeroValue3
 t4:=underlying4
 a4:=isAgg4
 z4:=sizeOf4
 v4:=zeroValue4
 t5:=underlying5
 a5:=isAgg5
 z5:=sizeOf5
 v5:=zeroValue5
 t9:=underlying9
 a9:=isAgg9
 z9:=sizeOf9
 v9:=zeroValue9
 t21:=underlying21
 a21:=isAgg21
 z21:=sizeOf21
 v21:=zeroValue21
 t46:=underlying258
 a46:=isAgg258
 z46:=sizeOf258
 v46:=zeroValue258
 t105:=underlying400
 a105:=isAgg400
 z105:=sizeOf400
 v105:=zeroValue400
 t119:=underlying378
 a119:=isAgg378
 z119:=sizeOf378
 t138:=underlying380
 a138:=isAgg380
 z138:=sizeOf380
 v138:=zeroValue380
 t139:=underlying381
 a139:=isAgg381
 z139:=sizeOf381
 v139:=zeroValue381
 g3:=by kernel_rfl
 g4:=by kernel_rfl}
def Tryz.sItoa_ren:Go.Shelf.Ren:=⟨fun|173=>134|246=>210|283=>286|284=>287|285=>288|286=>289|129=>254|317=>328|318=>329|319=>330|320=>331|337=>348|338=>349|n=>n,fun|2=>2|3=>3|9=>9|4=>4|171=>350|0=>0|53=>27|37=>39|5=>5|173=>352|212=>397|51=>217|20=>20|213=>398|46=>258|232=>437|233=>438|n=>n,fun|17=>4|18=>5|19=>6|n=>n⟩
theorem Tryz.sItoa:Go.Proofs.LaysM.n173 prog Tryz.sItoa_ren:= {
 mixed:=by kernel_rfl
 f129:=func254.trans (congrArg some (by kernel_rfl))
 f173:=func134.trans (congrArg some (by kernel_rfl))
 f246:=func210.trans (congrArg some (by kernel_rfl))
 f283:=func286.trans (congrArg some (by kernel_rfl))
 f284:=func287.trans (congrArg some (by kernel_rfl))
 f285:=func288.trans (congrArg some (by kernel_rfl))
 f286:=func289.trans (congrArg some (by kernel_rfl))
 f317:=func328.trans (congrArg some (by kernel_rfl))
 f318:=func329.trans (congrArg some (by kernel_rfl))
 f319:=func330.trans (congrArg some (by kernel_rfl))
 f320:=func331.trans (congrArg some (by kernel_rfl))
 f337:=func348.trans (congrArg some (by kernel_rfl))
 f338:=func349.trans (congrArg some (by kernel_rfl))
 t0:=underlying0
 a0:=isAgg0
 z0:=sizeOf0
 v0:=zeroValue0
 t2:=underlying2
 a2:=isAgg2
 z2:=sizeOf2
 v2:=zeroValue2
 t3:=underlying3
 a3:=isAgg3
 z3:=sizeOf3
 v3:=zeroValue3
 t4:=underlying4
 a4:=isAgg4
 z4:=sizeOf4
 v4:=zeroValue4
 t5:=underlying5
 a5:=isAgg5
 z5:=sizeOf5
 v5:=zeroValue5
 t9:=underlying9
 a9:=isAgg9
 z9:=sizeOf9
 v9:=zeroValue9
 t20:=underlying20
 a20:=isAgg20
 z20:=sizeOf20
 v20:=zeroValue20
 t37:=underlying39
 a37:=isAgg39
 z37:=sizeOf39
 v37:=zeroValue39
 t46:=underlying258
 a46:=isAgg258
 z46:=sizeOf258
 v46:=zeroValue258
 t51:=underlying217
 a51:=isAgg217
 z51:=sizeOf217
 v51:=zeroValue217
 t53:=underlying27
 a53:=isAgg27
 z53:=sizeOf27
 v53:=zeroValue27
 t171:=underlying350
 a171:=isAgg350
 z171:=sizeOf350
 v171:=zeroValue350
 t173:=underlying352
 a173:=isAgg352
 z173:=sizeOf352
 v173:=zeroValue352
 t212:=underlying397
 a212:=isAgg397
 z212:=sizeOf397
 v212:=zeroValue397
 t213:=underlying398
 a213:=isAgg398
 z213:=sizeOf398
 t232:=underlying437
 a232:=isAgg437
 z232:=sizeOf437
 v232:=zeroValue437
 t233:=underlying438
 a233:=isAgg438
 z233:=sizeOf438
 v233:=zeroValue438
 g17:=by kernel_rfl
 g18:=by kernel_rfl
 g19:=by kernel_rfl
 i0:=by kernel_rfl
 i2:=by kernel_rfl
 i3:=by kernel_rfl
 i4:=by kernel_rfl
 i5:=by kernel_rfl
 i9:=by kernel_rfl
 i20:=by kernel_rfl
 i37:=by kernel_rfl
 i46:=by kernel_rfl
 i51:=by kernel_rfl
 i53:=by kernel_rfl
 i171:=by kernel_rfl
 i173:=by kernel_rfl
 i212:=by kernel_rfl
 i232:=by kernel_rfl
 i233:=by kernel_rfl
 m17:=by kernel_rfl
 m18:=by kernel_rfl
 m19:=by kernel_rfl}
def Tryz.sBool_ren:Go.Shelf.Ren:=⟨fun|121=>132|214=>209|n=>n,fun|4=>4|9=>9|n=>n,fun|n=>n⟩
theorem Tryz.sBool:Go.Proofs.Lays.n121 prog Tryz.sBool_ren:= {
 mixed:=by kernel_rfl
 f121:=func132.trans (congrArg some (by kernel_rfl))
 f214:=func209.trans (congrArg some (by kernel_rfl))
 t4:=underlying4
 a4:=isAgg4
 z4:=sizeOf4
 v4:=zeroValue4
 t9:=underlying9
 a9:=isAgg9
 z9:=sizeOf9
 v9:=zeroValue9}
def Tryz.sHas_ren:Go.Shelf.Ren:=⟨fun|99=>243|206=>312|n=>n,fun|9=>9|4=>4|3=>3|n=>n,fun|n=>n⟩
theorem Tryz.sHas:Go.Proofs.Lays.n99 prog Tryz.sHas_ren:= {
 mixed:=by kernel_rfl
 f99:=func243.trans (congrArg some (by kernel_rfl))
 f206:=func312.trans (congrArg some (by kernel_rfl))
 t3:=underlying3
 a3:=isAgg3
 z3:=sizeOf3
 v3:=zeroValue3
 t4:=underlying4
 a4:=isAgg4
 z4:=sizeOf4
 v4:=zeroValue4
 t9:=underlying9
 a9:=isAgg9
 z9:=sizeOf9
 v9:=zeroValue9}
end Go.Proofs
namespace Go.Ab
open Go.Proofs Go.Proofs.Tryz Go.RowKit Go.Shelf
theorem Qg{l:List Value}{T:TypeId}{fz:Nat×Nat}{w:World}{g i:Nat}{v:Value}(h:w.heap[g]? =some (.cells l.toArray T fz))(hi:l[i]? =some v):w.cell? ⟨g,i,none⟩=some v:=by
 simp[World.cell?,h,hi]
theorem at_of{α:Type}{f g:Nat->α}{n:Nat}(h:(List.range n).map f=(List.range n).map g){i:Nat}(hi:i<n):f i=g i:=by
 have:=congrArg (fun l=>l[i]?) h
 simpa[A0x,List.getElem?_range hi] using this
theorem first_ok{c:Nat}(h:c<256):Hg[c]? =some (.int .u8 (Lib.firstT c)):=at_of (f:=fun c=>Hg[c]?) (g:=fun c=>some (.int .u8 (Lib.firstT c))) (n:=256) (by kernel_rfl) h
theorem lo_ok{c:Nat}(h:c<16):DH[2*c]? =some (.int .u8 (Lib.accLo c)):=at_of (f:=fun c=>DH[2*c]?) (g:=fun c=>some (.int .u8 (Lib.accLo c))) (n:=16) (by kernel_rfl) h
theorem hi_ok{c:Nat}(h:c<16):DH[2*c+1]? =some (.int .u8 (Lib.accHi c)):=at_of (f:=fun c=>DH[2*c+1]?) (g:=fun c=>some (.int .u8 (Lib.accHi c))) (n:=16) (by kernel_rfl) h
theorem F4{P:Program}{g3 g4:Nat}{w:World}{I:Nat->Prop}(h3:L6 P g3=some Hg)(h4:L6 P g4=some DH)(h:GIn P w I):Lib.Utf8Tabs g3 g4 w:=by
 obtain⟨_,T,fz,h5⟩:=h g3 _ h3
 obtain⟨_,T',fz',h6⟩:=h g4 _ h4
 exact⟨fun c hc=>Qg h5 (first_ok hc),fun i hi=>⟨Qg h6 (lo_ok hi),Qg h6 (hi_ok hi)⟩⟩
theorem YJ:PR=Lib.pow10Tab.map fun z=>Value.int .u64 z:=by kernel_rfl
theorem Yd{P:Program}{g:Nat}{w:World}{I:Nat->Prop}(hg:P.globalNamed "internal/strconv.uint64pow10"=some g)(h3:L6 P g=some PR)(h:GIn P w I):Lib.TabIs P w "internal/strconv.uint64pow10" .u64 Lib.pow10Tab:=by
 obtain⟨_,T,fz,h5⟩:=h g _ h3
 unfold Lib.TabIs World.var?
 rw[hg,A1w,h5,YJ]
def AI(s:ByteArray):Bool:=Lib.validD s.data.toList
theorem N7(s:ByteArray):A0 prog 239 [.val (.string s)] (.val (.bool (AI s))):=
 A0.of_vals (us:=[.string s]) (by kernel_rfl) rfl fun w I hg ho=>⟨.bool (AI s),fun _=>Hk trivial,Any.utf8_ValidString Tryz.sValid s w (ho _ (A0d.2 rfl)) (F4 (by kernel_rfl) (by kernel_rfl) hg)⟩
theorem U7(n:Int)(h0: -9223372036854775808<=n)(h1:n<=9223372036854775807):(Lib.itoa n).length<=9223372036854775807:=A0L (Lib.itoa_length_le n h0 h1) (by decide)
theorem L0(n:Int)(h0: -9223372036854775808<=n)(h1:n<=9223372036854775807):A0 prog 134 [.val (.int .i64 n),.val (.int .i64 10)] (.val (.string ⟨(Lib.itoa n).toArray⟩)):=
 A0.of_vals (us:=[.int .i64 n,.int .i64 10]) (by kernel_rfl) rfl fun w I hg ho=>⟨.string ⟨(Lib.itoa n).toArray⟩,fun _=>Hk (U7 n h0 h1),by
  obtain⟨g,hg1,hg2⟩:∃ g,prog.globalNamed "internal/strconv.uint64pow10"=some g/\L6 prog g=some PR:=⟨(prog.globalNamed "internal/strconv.uint64pow10").getD 0,by kernel_rfl,by kernel_rfl⟩
  refine(Any.strconv_FormatInt_10 Tryz.sItoa n h0 h1 w (Yd hg1 hg2 hg)).mono fun e w' ⟨he,k,os,hw⟩=>⟨he,?_⟩
  subst hw
  exact Lib.below_grow _ w (A0a _) k os⟩
theorem Qw(b:Bool):A0 prog 132 [.val (.bool b)] (.val (.string ⟨(Lib.formatBool b).toArray⟩)):=
 A0.of_vals (us:=[.bool b]) (by kernel_rfl) rfl fun w I hg ho=>⟨.string ⟨(Lib.formatBool b).toArray⟩,fun _=>Hk (LW (by cases b<;>rfl)),by
  refine(Any.strconv_FormatBool Tryz.sBool b w).mono fun e w' ⟨he,hw⟩=>⟨he,?_⟩
  subst hw;exact Below.refl _ _⟩
theorem SU(s p:ByteArray):A0 prog 243 [.val (.string s),.val (.string p)] (.val (.bool (Lib.hasPrefix s.data.toList p.data.toList))):=
 A0.of_vals (us:=[.string s,.string p]) (by kernel_rfl) rfl fun w I hg ho=>⟨.bool (Lib.hasPrefix s.data.toList p.data.toList),fun _=>Hk trivial,by
  refine(Any.strings_HasPrefix Tryz.sHas s p w).mono fun e w' ⟨he,hw⟩=>⟨he,?_⟩
  subst hw;exact Below.refl _ _⟩
theorem Gc(s:ByteArray):A0 prog 168 [.val (.string s)] (.val (.bool (AI s))):=by
 have h:=N7 s
 refine Zf [] func168 rfl ntmps168 results168 ?_
 (have z:=trivial;(try push_cast)<;>repeat' (first|apply Zi<;>intro _|refine Zc h ?_|exact Zp|with_reducible apply Za)<;>try push_cast)
noncomputable def G1(k:ByteArray):Int:=FZ (AI k) k
theorem MM(k:ByteArray):A0 prog 94 [.val (.string k)] (.val (.int .i64 (G1 k))):=XD k _ (Gc k)
theorem X3{k:ByteArray}(h:G1 k=0):k.size<=64:=by
 unfold G1 FZ at h
 split at h
 ·cases h
 ·split at h
  ·cases h
  ·omega
section
variable(b:GT)(q:OQ)(k:ByteArray)(v:GV)
theorem q_PutK(hk:G1 k≠0):A2 prog 112 [.ref 1 0 0 3,.val (.string k),.agg (A5 v)] (oqH b q) (.val (.int .i64 8)) (oqH b q):=by
 have hK:=MM k
 have b1:(G1 k !=0)=true:=by simpa using hk
 have oB:=A3 b
 simp only[oqH]
 refine Zd [] func112 rfl ntmps112 results112 ?_
 (have z:=Za b1 oB;(try push_cast[z])<;>repeat' (first|apply Zi<;>intro _|refine Zc hK ?_|exact Zo|with_reducible apply Za)<;>try push_cast[z])
 apply Zw<;>push_cast [oB]
theorem q_PutF(f:Int)(hF:A0 prog 66 [.agg (A5 v)] (.val (.int .i64 f)))(hk:G1 k=0)(hf:f≠0):A2 prog 112 [.ref 1 0 0 3,.val (.string k),.agg (A5 v)] (oqH b q) (.val (.int .i64 f)) (oqH b q):=by
 have hK:=MM k
 rw[hk] at hK
 have b1:(f !=0)=true:=by simpa using hf
 have oB:=A3 b
 simp only[oqH]
 refine Zd [] func112 rfl ntmps112 results112 ?_
 (have z:=Za b1 oB;(try push_cast[z])<;>repeat' (first|apply Zi<;>intro _|refine Zc hK ?_|refine Zc hF ?_|exact Zo|with_reducible apply Za)<;>try push_cast[z])
 apply Zw<;>push_cast [oB]
theorem q_Put(hF:A0 prog 66 [.agg (A5 v)] (.val (.int .i64 0)))(hk:G1 k=0)(hs:Sm v)(hn:q.us.length<1073741824):A2 prog 112 [.ref 1 0 0 3,.val (.string k),.agg (A5 v)] (oqH b q) (.val (.int .i64 0)) (oqH b (q.step k (true,v))):=by
 have hK:=MM k
 rw[hk] at hK
 have hC:=Hd v hs
 have hS:=q_step b q k (true,v) hn
 rw[Cr] at hS
 have oB:=A3 b
 simp only[oqH] at hS|-
 generalize q.step k (true,v)=q' at*
 refine Zd [] func112 rfl ntmps112 results112 ?_
 (have z:=oB;(try push_cast[z])<;>repeat' (first|apply Zi<;>intro _|refine Zc hK ?_|refine Zc hF ?_|refine Zc hC ?_|refine Zs [(1,1),(2,2),(4,4)] hS ?_|exact Zo|with_reducible apply Za)<;>try push_cast[z])
 apply Zr [(2,146),(4,148)] rfl<;>push_cast [oB]
end
noncomputable def Gt(f:Int)(k:ByteArray):Int:=if G1 k=0 then f else 8
structure Led(b:GT)(l:List GE)(q q':OQ)(n:Nat)(L:List GE):Prop where
 ok:FJ b q' l
 view:q'.view l=L
 ext:N9 q q'
 len:q'.us.length<=q.us.length+n
theorem Led.refl{b:GT}{l:List GE}{q:OQ}(h:FJ b q l)(n:Nat):Led b l q q n (q.view l):=⟨h,rfl,.refl q,by omega⟩
theorem Led.mono{b:GT}{l:List GE}{q q':OQ}{n m:Nat}{L:List GE}(a:Led b l q q' n L)(h:n<=m):Led b l q q' m L:=⟨a.ok,a.view,a.ext,by have:=a.len;omega⟩
theorem Led.step{b:GT}{q:OQ}{l:List GE}(h:FJ b q l){k:ByteArray}{s:C5}(hs:Sm s.2/\(s.1=false->s.2=zV)/\k.size<=64):Led b l q (q.step k s) 1 (if s.1 then Br (k,s.2) (q.view l) else Cm k (q.view l)):=
 ⟨(h.step hs).1,(h.step hs).2,N9.step h.ch hs,by rw[OQ.step_us,A04];exact A0a _⟩
theorem YH{b:GT}{q:OQ}{l:List GE}(h:FJ b q l)(k:ByteArray)(v:GV)(f:Int)(hF:A0 prog 66 [.agg (A5 v)] (.val (.int .i64 f)))(hs:Sm v)(hn:q.us.length<1073741824):
  ∃ q',A2 prog 112 [.ref 1 0 0 3,.val (.string k),.agg (A5 v)] (oqH b q) (.val (.int .i64 (Gt f k))) (oqH b q')/\Led b l q q' 1 (if Gt f k=0 then Br (k,v) (q.view l) else q.view l):=by
 unfold Gt
 by_cases hk:G1 k=0
 ·simp only[if_pos hk]
  by_cases hf:f=0
  ·subst hf
   exact⟨_,q_Put b q k v hF hk hs hn,Led.step h (s:=(true,v)) ⟨hs,(fun e=>by cases e),X3 hk⟩⟩
  ·exact⟨q,q_PutF b q k v f hF hk hf,by rw[if_neg hf];exact .refl h 1⟩
 ·simp only[if_neg hk]
  exact⟨q,q_PutK b q k v hk,by rw[if_neg (by decide)];exact .refl h 1⟩
def Fh(v:GV):Bool:=
 if v.kind<1∨6<v.kind then true
 else !((v.kind==2 ||!v.b)&&((v.kind==3 ||v.n==0)&&((v.kind==4 ||noS v.s)&&((v.kind==5 ||(v.list.length:Int)==0)&&(v.kind==6 ||(v.obj.length:Int)==0)))))
mutual
noncomputable def Bp:GV->Nat->Int
 |.mk k b n s l o,d=>
  if Fh (.mk k b n s l o)=true then 9 else if 64<d then 5
  else if k=4 then(if AI s=true then 0 else 3)
  else if k=5 then Ek l (d+1)
  else if k=6 then Gm none o (d+1) else 0
noncomputable def Ek:List GV->Nat->Int
 |[],_=>0
 |v::l,d=>if Bp v d≠0 then Bp v d else Ek l d
noncomputable def Gm:Option ByteArray->List (ByteArray×GV)->Nat->Int
 |_,[],_=>0
 |p,(k,v)::l,d=>if AI k=false then 3 else if(match p with|none=>true|some q=>ltS q k)=false then 8 else if Bp v d≠0 then Bp v d else Gm (some k) l d
end
theorem Eu(v:GV)(d:Nat):Bp v d=if Fh v=true then 9 else if 64<d then 5
  else if v.kind=4 then(if AI v.s=true then 0 else 3)
  else if v.kind=5 then Ek v.list (d+1)
  else if v.kind=6 then Gm none v.obj (d+1) else 0:=by cases v;rfl
mutual
def CR:GV->Nat
 |.mk k _ _ _ l o=>if k=5 then 1+D4 l else if k=6 then 1+D5 o else 1
def D4:List GV->Nat
 |[]=>0
 |v::l=>max (CR v) (D4 l)
def D5:List (ByteArray×GV)->Nat
 |[]=>0
 |(_,v)::l=>max (CR v) (D5 l)
end
theorem JN(v:GV):CR v=if v.kind=5 then 1+D4 v.list else if v.kind=6 then 1+D5 v.obj else 1:=by cases v;unfold CR;rfl
def KJ(p:Nat×Nat):Nat:=if p.1=34∨p.1=92∨p.1=8∨p.1=9∨p.1=10∨p.1=12∨p.1=13 then 2 else if p.1<32 then 6 else p.2
def HP:Nat->List UInt8->Nat
 |0,_=>0
 |n+1,l=>if l=[] then 0 else KJ (Lib.decodeL l)+HP n (l.drop (Lib.decodeL l).2)
def LN(s:ByteArray):Nat:=if AI s=true then 2+HP s.data.toList.length s.data.toList else 0
mutual
def CZ:GV->Nat
 |.mk k b n s l o=>if k=1 then 4 else if k=2 then(if b then 4 else 5) else if k=3 then(Lib.itoa n).length else if k=4 then LN s
  else if k=5 then 2+(l.length-1)+BQ l else if k=6 then 2+(o.length-1)+BH o else 4
def BQ:List GV->Nat
 |[]=>0
 |v::l=>CZ v+BQ l
def BH:List (ByteArray×GV)->Nat
 |[]=>0
 |(k,v)::l=>LN k+1+CZ v+BH l
end
theorem Ew(v:GV):CZ v=if v.kind=1 then 4 else if v.kind=2 then(if v.b then 4 else 5) else if v.kind=3 then(Lib.itoa v.n).length else if v.kind=4 then LN v.s
  else if v.kind=5 then 2+(v.list.length-1)+BQ v.list else if v.kind=6 then 2+(v.obj.length-1)+BH v.obj else 4:=by cases v;unfold CZ;rfl
noncomputable def B1(v:GV):Int:=if Bp v 1≠0 then Bp v 1 else if 16<CR v then 5 else if 1024<CZ v then 6 else 0
mutual
def wtV:GV->Nat
 |.mk _ _ _ s l o=>s.size+(l.length+T3 l)+(o.length+T4 o)
def T3:List GV->Nat
 |[]=>0
 |v::l=>wtV v+T3 l
def T4:List (ByteArray×GV)->Nat
 |[]=>0
 |(k,v)::l=>k.size+wtV v+T4 l
end
theorem Pw(v:GV):wtV v=v.s.size+(v.list.length+T3 v.list)+(v.obj.length+T4 v.obj):=by cases v;simp only[wtV,GV.s,GV.list,GV.obj]
theorem V4(s:ByteArray):noS s=decide (s=⟨#[]⟩):=by unfold noS;rw[Pr]
theorem noS_eq{s:ByteArray}(h:noS s=true):s=ByteArray.empty:=by
 unfold noS at h;rw[Pr] at h;exact of_decide_eq_true h
theorem LX{v:GV}(h:Fh v=false):1<=v.kind/\v.kind<=6/\(v.kind≠2->v.b=false)/\(v.kind≠3->v.n=0)/\(v.kind≠4->v.s=ByteArray.empty)/\(v.kind≠5->v.list=[])/\(v.kind≠6->v.obj=[]):=by
 unfold Fh at h
 split at h
 ·cases h
 ·rename_i hk
  simp only[Bool.not_eq_false',A07,Bool.or_eq_true,beq_iff_eq,Bool.not_eq_true'] at h
  obtain⟨h1,h2,h3,h4,h5⟩:=h
  refine⟨by omega,by omega,fun h=>h1.resolve_left h,fun h=>h2.resolve_left h,fun h=>noS_eq (h3.resolve_left h),fun h=>?_,fun h=>?_⟩
  ·have:=h4.resolve_left h
   exact A0Q.1 (by omega)
  ·have:=h5.resolve_left h
   exact A0Q.1 (by omega)
theorem Jd{v:GV}{d:Nat}(h:Bp v d=0):Fh v=false/\d<=64/\(v.kind=4->AI v.s=true)/\(v.kind=5->Ek v.list (d+1)=0)/\(v.kind=6->Gm none v.obj (d+1)=0):=by
 rw[Eu] at h
 split at h
 ·cases h
 ·rename_i h1
  split at h
  ·cases h
  ·rename_i h2
   refine⟨by simpa using h1,by omega,fun hk=>?_,fun hk=>?_,fun hk=>?_⟩
   ·rw[if_pos hk] at h
    split at h
    ·assumption
    ·cases h
   ·rw[if_neg (by omega),if_pos hk] at h;exact h
   ·rw[if_neg (by omega),if_neg (by omega),if_pos hk] at h;exact h
theorem Kf{d:Nat}:∀ {l:List GV},Ek l d=0->∀ v ∈ l,Bp v d=0
 |[],_,v,hv=>by cases hv
 |x::l,h,v,hv=>by
  simp only[Ek] at h
  split at h
  ·rename_i h1;exact absurd h h1
  ·rename_i h1
   rcases A0s.1 hv with rfl|hv
   ·simpa using h1
   ·exact Kf h v hv
noncomputable def M3(p:Option ByteArray)(k:ByteArray)(v:GV)(d:Nat):Int:=if AI k=false then 3 else if(match p with|none=>true|some q=>ltS q k)=false then 8 else Bp v d
theorem ER(p:Option ByteArray)(k:ByteArray)(v:GV)(l:List (ByteArray×GV))(d:Nat):Gm p ((k,v)::l) d=if M3 p k v d≠0 then M3 p k v d else Gm (some k) l d:=by
 simp only[Gm,M3]
 cases p with
 |none=>
  simp only
  split
  ·simp
  ·simp
 |some q=>
  simp only
  split
  ·simp
  ·split
   ·simp
   ·rfl
theorem Nx{p:Option ByteArray}{k:ByteArray}{v:GV}{d:Nat}(h:M3 p k v d=0):AI k=true/\Bp v d=0:=by
 unfold M3 at h
 generalize(match p with|none=>true|some q=>ltS q k)=o at h
 split at h
 ·exact absurd h (by decide)
 ·rename_i h0
  split at h
  ·exact absurd h (by decide)
  ·exact⟨by simpa using h0,h⟩
theorem Kg{d:Nat}:∀ {p:Option ByteArray} {l:List (ByteArray×GV)},Gm p l d=0->∀ v ∈ l,Bp v.2 d=0/\AI v.1=true
 |_,[],_,v,hv=>by cases hv
 |p,(k,x)::l,h,v,hv=>by
  rw[ER] at h
  split at h
  ·rename_i h1;exact absurd h h1
  ·rename_i h1
   have h2:=Nx (by simpa using h1)
   rcases A0s.1 hv with rfl|hv
   ·exact⟨h2.2,h2.1⟩
   ·exact Kg h v hv
theorem MH{α:Type}{f:α->α->Int}:∀ {a b:List α},(∀ x ∈ a,∀ y ∈ b,f x y=0->x=y)->CH f a b=0->a=b
 |[],[],_,_=>rfl
 |[],_::_,_,h=>by simp[CH] at h
 |_::_,[],_,h=>by simp[CH] at h
 |x::a,y::b,hf,h=>by
  simp only[CH] at h
  split at h
  ·rename_i h1
   rw[hf x (by simp) y (by simp) h1,MH (fun x hx y hy=>hf x (by simp[hx]) y (by simp[hy])) h]
  ·rename_i h1;exact absurd h h1
theorem Kr:∀ {a b:List UInt8},BX a b=0->a=b
 |[],[],_=>rfl
 |[],_::_,h=>by simp[BX] at h
 |_::_,[],h=>by simp[BX] at h
 |x::a,y::b,h=>by
  simp only[BX] at h
  split at h
  ·rename_i h1;subst h1;rw[Kr h]
  ·split at h<;>cases h
theorem Nv{a b:Int}(h:DO a b=0):a=b:=by
 unfold DO at h
 split at h
 ·cases h
 ·split at h
  ·cases h
  ·omega
theorem UI{a b:Bool}(h:J0 a b=0):a=b:=by cases a<;>cases b<;>simp [J0] at h|-
theorem K3:∀ (n:Nat) (v u:GV) (d e:Nat),SizeOf.sizeOf v<=n->Bp v d=0->Bp u e=0->HK n v u=0->v=u
 |0,.mk k b i s l o,u,d,e,hn,_,_,_=>by simp at hn
 |n+1,.mk k b i s l o,.mk k' b' i' s' l' o',d,e,hn,hv,hu,hc=>by
  rw[Bi] at hc
  change(if k≠k' then DO k k' else if k=2 then J0 b b' else if k=3 then DO i i' else if k=4 then Ci s s' else if k=5 then CH (HK n) l l' else if k=6 then CH (H9 n) o o' else 0)=0 at hc
  obtain⟨v1,v2,v3,v4,v5⟩:=Jd hv
  obtain⟨u1,u2,u3,u4,u5⟩:=Jd hu
  obtain⟨a1,a2,a3,a4,a5,a6,a7⟩:=LX v1
  obtain⟨c1,c2,c3,c4,c5,c6,c7⟩:=LX u1
  simp only[GV.kind,GV.b,GV.n,GV.s,GV.list,GV.obj] at*
  by_cases hk:k=k'
  ·rw[if_neg (by simpa using hk)] at hc
   subst hk
   have hb:b=b':=by
    by_cases h:k=2
    ·rw[if_pos h] at hc;exact UI hc
    ·rw[a3 h,c3 h]
   have hi:i=i':=by
    by_cases h:k=3
    ·rw[if_neg (by omega),if_pos h] at hc;exact Nv hc
    ·rw[a4 h,c4 h]
   have hs:s=s':=by
    by_cases h:k=4
    ·rw[if_neg (by omega),if_neg (by omega),if_pos h] at hc;exact MV (Kr hc)
    ·rw[a5 h,c5 h]
   have hl:l=l':=by
    by_cases h:k=5
    ·rw[if_neg (by omega),if_neg (by omega),if_neg (by omega),if_pos h] at hc
     refine MH (fun x hx y hy hxy=>?_) hc
     have hlt:=List.sizeOf_lt_of_mem hx
     exact K3 n x y (d+1) (e+1) (by simp at hn;omega) (Kf (v4 h) x hx) (Kf (u4 h) y hy) hxy
    ·rw[a6 h,c6 h]
   have ho:o=o':=by
    by_cases h:k=6
    ·rw[if_neg (by omega),if_neg (by omega),if_neg (by omega),if_neg (by omega),if_pos h] at hc
     refine MH (fun x hx y hy hxy=>?_) hc
     have hlt:=List.sizeOf_lt_of_mem hx
     obtain⟨xk,xv⟩:=x
     obtain⟨yk,yv⟩:=y
     simp only[H9] at hxy
     split at hxy
     ·rename_i h1
      rw[K3 n xv yv (d+1) (e+1) (by simp at hn hlt;omega) (Kg (v5 h) _ hx).1 (Kg (u5 h) _ hy).1 hxy,MV (Kr h1)]
     ·rename_i h1;exact absurd hxy h1
    ·rw[a7 h,c7 h]
   subst hb hi hs hl ho
   rfl
  ·rw[if_pos hk] at hc
   exact absurd (Nv hc) hk
theorem same_eq{v u:GV}{d e:Nat}(hv:Bp v d=0)(hu:Bp u e=0)(h:Jh v u=0):v=u:=K3 _ v u d e (A0a _) hv hu h
theorem Sc{v:GV}(h:B1 v=0):Bp v 1=0/\CR v<=16/\CZ v<=1024:=by
 unfold B1 at h
 split at h
 ·rename_i h1;exact absurd h h1
 ·rename_i h1
  split at h
  ·cases h
  ·split at h
   ·cases h
   ·exact⟨by simpa using h1,by omega,by omega⟩
theorem LG(l:List UInt8):(Lib.decodeL l).2<=KJ (Lib.decodeL l)/\KJ (Lib.decodeL l)<=6:=by
 have key:∀ n b0 b1 b2 b3,(Lib.decodeN n b0 b1 b2 b3).2<=KJ (Lib.decodeN n b0 b1 b2 b3)/\KJ (Lib.decodeN n b0 b1 b2 b3)<=6:=by
  intro n b0 b1 b2 b3
  unfold Lib.decodeN KJ
  repeat' split
  all_goals(simp only at*;omega)
 unfold Lib.decodeL
 rw[Lib.decode_at]
 exact key _ _ _ _ _
theorem RE:∀ (n:Nat) (l:List UInt8),l.length<=n->l.length<=HP n l
 |0,l,h=>by simp at h;subst h;simp[HP]
 |n+1,l,h=>by
  simp only[HP]
  split
  ·rename_i h1;subst h1;simp
  ·rename_i h1
   have h2:=Lib.decodeL_le l h1
   have h3:=Lib.decodeL_width l
   have h4:=(LG l).1
   have h5:=RE n (l.drop (Lib.decodeL l).2) (by rw[A0v];omega)
   rw[A0v] at h5
   omega
theorem RD:∀ (n:Nat) (l:List UInt8),HP n l<=6*l.length
 |0,l=>by simp[HP]
 |n+1,l=>by
  simp only[HP]
  split
  ·rename_i h1;subst h1;simp
  ·rename_i h1
   have h2:=Lib.decodeL_le l h1
   have h3:=Lib.decodeL_width l
   have h4:=(LG l).2
   have h5:=RD n (l.drop (Lib.decodeL l).2)
   rw[A0v] at h5
   omega
theorem PP(s:ByteArray):(AI s=true->s.size<=LN s)/\LN s<=2+6*s.size:=by
 have h:=RE _ s.data.toList (A0a _)
 have h2:=RD s.data.toList.length s.data.toList
 have h3:s.data.toList.length=s.size:=rfl
 unfold LN
 split
 ·exact⟨fun _=>by omega,by omega⟩
 ·exact⟨fun h=>absurd h (by assumption),by omega⟩
mutual
theorem TY:∀ (v:GV),Sm v->CZ v<=24+30*wtV v
 |.mk k b i s l o,h=>by
  have hn:=h.int
  have hL:=Ve l h.list
  have hO:=Vf o h.obj
  have q1:=PP s
  simp only[GV.n] at hn
  have q2:=Lib.itoa_length_le i hn.1 hn.2
  simp only[wtV,CZ]
  repeat' split
  all_goals omega
theorem Ve:∀ (l:List GV),(∀ x ∈ l,Sm x)->BQ l<=24*l.length+30*T3 l
 |[],_=>by simp[BQ]
 |v::l,h=>by
  have h1:=TY v (h v (by simp))
  have h2:=Ve l fun x hx=>h x (by simp[hx])
  simp only[BQ,T3,A0g];omega
theorem Vf:∀ (l:List (ByteArray×GV)),(∀ x ∈ l,Sm x.2)->BH l<=28*l.length+30*T4 l
 |[],_=>by simp[BH]
 |(k,v)::l,h=>by
  have h1:=TY v (h (k,v) (by simp))
  have h2:=Vf l fun x hx=>h x (by simp[hx])
  have h3:=PP k
  simp only[BH,T4,A0g];omega
end
noncomputable def begU(s:ByteArray):Bool:=decide ((s.size:Int)<=64)&&AI s
theorem KY(s:ByteArray):A0 prog 105 [.val (.string s)] (.val (.bool (begU s))):=by
 have h:=Gc s
 refine Zk [] func105 rfl ntmps105 results105 fun H Hb=>?_
 (have z:=trivial;(try push_cast)<;>repeat' (first|apply Zi<;>intro _|refine Zc h ?_|exact Zp|with_reducible apply Za)<;>try push_cast)
 all_goals(clear H Hb h;first|(simp_all [begU];done)|(simp_all [begU];omega))
noncomputable def Ec(m:GM):Bool:=if m.kind==6 then begU m.key&&begU m.to else if m.kind==7&&noS m.key then !m.had else G1 m.key==0
theorem Vz(m:GM):A0 prog 64 [.agg (Ao m)] (.val (.bool (Ec m))):=by
 have h1:=KY m.key
 have h2:=KY m.to
 have h3:=MM m.key
 rw[Bt,A4 m.was,A4 m.value]
 simp only[A0c,A0m,A0b]
 refine Zk [0] func64 rfl ntmps64 results64 fun H Hb=>?_
 (have z:=trivial;(try push_cast)<;>repeat' (first|apply Zi<;>intro _|refine Zc h1 ?_|refine Zc h2 ?_|refine Zc h3 ?_|exact Zp|with_reducible apply Za)<;>try push_cast)
 all_goals(clear H Hb h1 h2 h3;simp_all [Ec,V4])
mutual
noncomputable def CG(F:GV->Int):GM->Nat->Int
 |.mk kd k t n h w i v l,d=>
  if Cq (.mk kd k t n h w i v l)=true then 9 else if 6<d then 5 else if Ec (.mk kd k t n h w i v l)=false then 8
  else if h=true/\F w≠0 then F w
  else if(kd=1∨kd=5∨kd=4/\i=true)/\F v≠0 then F v
  else DQ F l (d+1)
noncomputable def DQ(F:GV->Int):List GM->Nat->Int
 |[],_=>0
 |m::l,d=>if CG F m d≠0 then CG F m d else DQ F l d
end
theorem JB(F:GV->Int)(m:GM)(d:Nat):CG F m d=if Cq m=true then 9 else if 6<d then 5 else if Ec m=false then 8
  else if m.had=true/\F m.was≠0 then F m.was
  else if(m.kind=1∨m.kind=5∨m.kind=4/\m.has=true)/\F m.value≠0 then F m.value
  else DQ F m.list (d+1):=by cases m;rfl
theorem KR{F:GV->Int}{d:Nat}:∀ {l:List GM},DQ F l d=0->∀ i,i<l.length->CG F (l.getD i zU) d=0
 |[],_,i,h=>by simp at h
 |m::l,h,i,hi=>by
  simp only[DQ] at h
  split at h
  ·rename_i h1;exact absurd h h1
  ·rename_i h1
   cases i with
   |zero=>simpa using h1
   |succ i=>simpa using KR h i (by simpa using hi)
theorem Ma{F:GV->Int}{d:Nat}:∀ {l:List GM},DQ F l d≠0->∃ J,J<l.length/\(∀ i,i<J->CG F (l.getD i zU) d=0)/\CG F (l.getD J zU) d=DQ F l d
 |[],h=>by simp[DQ] at h
 |m::l,h=>by
  simp only[DQ] at h|-
  by_cases h1:CG F m d≠0
  ·exact⟨0,by simp,fun i hi=>by omega,by simp[h1]⟩
  ·simp only[if_neg h1] at h|-
   obtain⟨J,a,b,c⟩:=Ma h
   refine⟨J+1,by simpa using a,fun i hi=>?_,by simpa using c⟩
   cases i with
   |zero=>simpa using h1
   |succ i=>simpa using b i (by omega)
inductive SmU:GM->Prop where
 |mk (m:GM) (was:Sm m.was) (value:Sm m.value) (key:m.key.size<=1048576) (totext:m.to.size<=1048576) (len:m.list.length<=1048576) (list:∀ x ∈ m.list,SmU x):SmU m
mutual
def wtU:GM->Nat
 |.mk _ k t _ _ w _ v l=>k.size+t.size+wtV w+wtV v+(l.length+Y3 l)
def Y3:List GM->Nat
 |[]=>0
 |m::l=>wtU m+Y3 l
end
theorem Lr(m:GM):wtU m=m.key.size+m.to.size+wtV m.was+wtV m.value+(m.list.length+Y3 m.list):=by cases m;rfl
theorem Lq{l:List GM}{x:GM}(h:x ∈ l):wtU x<=Y3 l:=by
 induction l with
 |nil=>cases h
 |cons y l ih=>
  simp only[Y3]
  rcases A0s.1 h with rfl|h
  ·omega
  ·have:=ih h;omega
section
variable{F:GV->Int}(hF:∀ v,Sm v->wtV v<=2097152->A0 prog 66 [.agg (A5 v)] (.val (.int .i64 (F v))))
include hF
theorem Qt(m:GM)(d:Nat)(hm:SmU m)(hwt:wtU m<=2097152)(hd:d<=1000)(h0:CG F m d=0):A0 prog 38 [.agg (Ao m),.val (.int .i64 d)] (.tup []):=by
 have hrec:∀ x,SizeOf.sizeOf x<SizeOf.sizeOf m->SmU x->wtU x<=2097152->d+1<=1000->CG F x (d+1)=0->A0 prog 38 [.agg (Ao x),.val (.int .i64 ((d+1:Nat):Int))] (.tup []):=fun x _ h1 h4 h2 h3=>Qt x (d+1) h1 h4 h2 h3
 obtain⟨_,hw,hv,hk,ht,hl,hls⟩:=hm
 rw[JB] at h0
 have s1:Cq m=false:=by cases h:Cq m<;>simp [h] at h0|-
 rw[if_neg (by simp[s1])] at h0
 have s2:d<=6:=by
  rcases A14 6 d with h|h
  ·simp[h] at h0
  ·exact h
 rw[if_neg (by omega)] at h0
 have s3:Ec m=true:=by cases h:Ec m<;>simp [h] at h0|-
 rw[if_neg (by simp[s3])] at h0
 have s4:m.had=true->F m.was=0:=fun h=>Classical.byContradiction fun h2=>by rw[if_pos ⟨h,h2⟩] at h0;exact h2 h0
 rw[if_neg (fun h=>h.2 (s4 h.1))] at h0
 have s5:(m.kind=1∨m.kind=5∨m.kind=4/\m.has=true)->F m.value=0:=fun h=>Classical.byContradiction fun h2=>by rw[if_pos ⟨h,h2⟩] at h0;exact h2 h0
 rw[if_neg (fun h=>h.2 (s5 h.1))] at h0
 have k1:=Pj m
 have k3:=Vz m
 rw[s1] at k1
 rw[s3] at k3
 have hwe:=Lr m
 have k4:=hF m.was hw (by omega)
 have k5:=hF m.value hv (by omega)
 have b2:decide ((d:Int)<=6)=true:=decide_eq_true (by omega)
 have w1:IntKind.i64.wrap (↑d+1)=↑d+1:=A9 (by omega) (by omega)
 have k0:(m.had=true->A0 prog 65 [.val (.int .i64 (F m.was))] (.tup [])):=fun h=>by rw[s4 h];exact Qr
 have k6:(m.kind=1∨m.kind=5∨m.kind=4/\m.has=true)->A0 prog 65 [.val (.int .i64 (F m.value))] (.tup []):=fun h=>by rw[s5 h];exact Qr
 have hls':∀ i,i<m.list.length->A0 prog 38 [.agg (Ao (m.list.getD i zU)),.val (.int .i64 ((d:Int)+1))] (.tup []):=fun i hi=>by
  have:=hrec _ (GM.list_lt (Aj hi)) (hls _ (Aj hi)) (by have:=Lq (Aj (d:=zU) hi);omega) (by omega) (KR h0 i hi)
  rwa[A1U] at this
 clear h0 hrec hF
 rw[Bt] at*
 generalize F m.was=fw at*
 generalize F m.value=fv at*
 rw[A4] at k4 k5
 simp only[A4 m.was,A4 m.value,A0c,A0m,A0b] at*
 refine Zf [0] func38 rfl ntmps38 results38 ?_
 (have z:=b2;(try push_cast[z])<;>repeat' (first|apply Zi<;>intro _|refine Zc k1 ?_|refine Zc k3 ?_|refine Zc k4 ?_|refine Zc k5 ?_|refine Zc (DX ..) ?_|exact Zo|with_reducible apply Za|(with_reducible show A1 _ _ _ _ _ _ _ _;refine A1.call (by(try push_cast[z]);exact k0 (by assumption)) (by first|exact .inl rfl|exact .inr ⟨_,_,_,rfl,rfl,rfl⟩) rfl (by first|rfl|push_cast [z]) ?_)<;>try push_cast[z]|(with_reducible show A1 _ _ _ _ _ _ _ _;refine A1.call (by(try push_cast[z]);exact k6 (by simp_all)) (by first|exact .inl rfl|exact .inr ⟨_,_,_,rfl,rfl,rfl⟩) rfl (by first|rfl|push_cast [z]) ?_)<;>try push_cast[z]|fail)<;>try push_cast[z])
 all_goals
  refine Zl (fun i=>i<=m.list.length) (fun i=>⟨[(46,.val (.int .i64 i)),(45,.val (.int .i64 m.list.length)),(44,.slice (m.list.map Ao) false),(1,.val (.int .i64 d))],[],400⟩) (fun i=>m.list.length-i) 0 (by simp) ?_ fun i hi=>?_
  ·apply Zw<;>push_cast
  ·push_cast
   refine Af (fun ha=>?_) (fun ha=>?_)
   ·have hi':i<m.list.length:=by simpa using ha
    have e1:=Q3 hi'
    have hr:=hls' i hi'
    (have z:=Za e1 w1;(try push_cast[z])<;>repeat' (first|apply Zi<;>intro _|refine Zc (hr ..) ?_|exact Zo|with_reducible apply Za)<;>try push_cast[z])
    all_goals first|omega|skip
    refine⟨i+1,hi',by omega,?_⟩
    apply Zw<;>push_cast
    exact A9 (by omega) (by omega)
   ·((try push_cast)<;>repeat' (first|apply Zi<;>intro _|exact Zp|with_reducible apply Za)<;>try push_cast)
termination_by SizeOf.sizeOf m
end
section
variable{F:GV->Int}(hF:∀ v,Sm v->wtV v<=2097152->A0 prog 66 [.agg (A5 v)] (.val (.int .i64 (F v))))
include hF
theorem YN(m:GM)(d:Nat)(hm:SmU m)(hwt:wtU m<=2097152)(hd:d<=1000)(h0:CG F m d≠0):EZ prog 38 [.agg (Ao m),.val (.int .i64 d)] (wD (CG F m d)):=by
 have hrec:∀ x,SizeOf.sizeOf x<SizeOf.sizeOf m->SmU x->wtU x<=2097152->d+1<=1000->CG F x (d+1)≠0->EZ prog 38 [.agg (Ao x),.val (.int .i64 ((d+1:Nat):Int))] (wD (CG F x (d+1))):=fun x _ h1 h4 h2 h3=>YN x (d+1) h1 h4 h2 h3
 have hok:∀ x,SmU x->wtU x<=2097152->d+1<=1000->CG F x (d+1)=0->A0 prog 38 [.agg (Ao x),.val (.int .i64 ((d+1:Nat):Int))] (.tup []):=fun x h1 h4 h2 h3=>Qt hF x (d+1) h1 h4 h2 h3
 obtain⟨_,hw,hv,hk,ht,hl,hls⟩:=hm
 rw[JB] at h0|-
 have k1:=Pj m
 have k3:=Vz m
 have hwe:=Lr m
 have k4:=hF m.was hw (by omega)
 have k5:=hF m.value hv (by omega)
 by_cases s1:Cq m=true
 ·simp only[if_pos s1]
  rw[s1] at k1
  clear hrec hok h0
  rw[Bt m] at*
  rw[A4 m.was,A4 m.value] at*
  simp only[A0c,A0m,A0b] at*
  refine EZ.of_awp func38 rfl ntmps38 (by kernel_rfl) (by simp) (AWp.sz fun H Hb=>VC.sound (fz:=[0]) mixed (by kernel_rfl) ?_)
  (have z:=trivial;(try push_cast)<;>repeat' (first|apply Zi<;>intro _|refine Zc k1 ?_|exact Zp|with_reducible apply Za|(with_reducible show A1 _ _ _ _ _ _ _ _;refine A1.pan (by(try push_cast);exact PU ..) rfl (by first|rfl|push_cast) rfl ?_)<;>try push_cast|fail)<;>try push_cast)
  all_goals first|exact ⟨Am _,rfl⟩|skip
 ·simp only[if_neg s1] at h0|-
  have s1:Cq m=false:=by simpa using s1
  rw[s1] at k1
  by_cases s2:6<d
  ·simp only[if_pos s2]
   have b2:decide ((d:Int)<=6)=false:=decide_eq_false (by omega)
   clear hrec hok h0
   rw[Bt m] at*
   rw[A4 m.was,A4 m.value] at*
   simp only[A0c,A0m,A0b] at*
   refine EZ.of_awp func38 rfl ntmps38 (by kernel_rfl) (by simp) (AWp.sz fun H Hb=>VC.sound (fz:=[0]) mixed (by kernel_rfl) ?_)
   (have z:=b2;(try push_cast[z])<;>repeat' (first|apply Zi<;>intro _|refine Zc k1 ?_|refine Zc (DX ..) ?_|exact Zo|with_reducible apply Za|(with_reducible show A1 _ _ _ _ _ _ _ _;refine A1.pan (by(try push_cast[z]);exact PU ..) rfl (by first|rfl|push_cast [z]) rfl ?_)<;>try push_cast[z]|fail)<;>try push_cast[z])
   all_goals first|exact ⟨Am _,rfl⟩|skip
  ·simp only[if_neg s2] at h0|-
   have b2:decide ((d:Int)<=6)=true:=decide_eq_true (by omega)
   by_cases s3:Ec m=false
   ·simp only[if_pos s3]
    rw[s3] at k3
    clear hrec hok h0
    rw[Bt m] at*
    rw[A4 m.was,A4 m.value] at*
    simp only[A0c,A0m,A0b] at*
    refine EZ.of_awp func38 rfl ntmps38 (by kernel_rfl) (by simp) (AWp.sz fun H Hb=>VC.sound (fz:=[0]) mixed (by kernel_rfl) ?_)
    (have z:=b2;(try push_cast[z])<;>repeat' (first|apply Zi<;>intro _|refine Zc k1 ?_|refine Zc k3 ?_|refine Zc (DX ..) ?_|exact Zo|with_reducible apply Za|(with_reducible show A1 _ _ _ _ _ _ _ _;refine A1.pan (by(try push_cast[z]);exact PU ..) rfl (by first|rfl|push_cast [z]) rfl ?_)<;>try push_cast[z]|fail)<;>try push_cast[z])
    all_goals first|exact ⟨Am _,rfl⟩|skip
   ·simp only[if_neg s3] at h0|-
    have s3:Ec m=true:=by simpa using s3
    rw[s3] at k3
    by_cases s4:m.had=true/\F m.was≠0
    ·simp only[if_pos s4]
     obtain⟨hh,hf⟩:=s4
     clear hrec hok h0
     rw[Bt m] at*
     generalize F m.was=fw at*
     rw[A4 m.was,A4 m.value] at*
     simp only[A0c,A0m,A0b] at*
     have hp:=YM fw hf
     refine EZ.of_awp func38 rfl ntmps38 (by kernel_rfl) (by simp) (AWp.sz fun H Hb=>VC.sound (fz:=[0]) mixed (by kernel_rfl) ?_)
     (have z:=b2;(try push_cast[z])<;>repeat' (first|apply Zi<;>intro _|refine Zc k1 ?_|refine Zc k3 ?_|refine Zc (DX ..) ?_|refine Zc k4 ?_|exact Zo|with_reducible apply Za|(with_reducible show A1 _ _ _ _ _ _ _ _;refine A1.pan (by(try push_cast[z]);exact hp ..) rfl (by first|rfl|push_cast [z]) rfl ?_)<;>try push_cast[z]|fail)<;>try push_cast[z])
     all_goals first|exact ⟨Am _,rfl⟩|exact absurd hh (by rw[‹m.had=false›];decide)|skip
    ·simp only[if_neg s4] at h0|-
     have k0:(m.had=true->A0 prog 65 [.val (.int .i64 (F m.was))] (.tup [])):=fun h=>by
      have:F m.was=0:=Classical.byContradiction fun h2=>s4 ⟨h,h2⟩
      rw[this];exact Qr
     by_cases s5:(m.kind=1∨m.kind=5∨m.kind=4/\m.has=true)/\F m.value≠0
     ·simp only[if_pos s5]
      obtain⟨hh,hf⟩:=s5
      have hp:=YM (F m.value) hf
      clear hrec hok h0
      rw[Bt m] at*
      generalize F m.was=fw at*
      generalize F m.value=fv at*
      rw[A4 m.was,A4 m.value] at*
      simp only[A0c,A0m,A0b] at*
      refine EZ.of_awp func38 rfl ntmps38 (by kernel_rfl) (by simp) (AWp.sz fun H Hb=>VC.sound (fz:=[0]) mixed (by kernel_rfl) ?_)
      (have z:=b2;(try push_cast[z])<;>repeat' (first|apply Zi<;>intro _|refine Zc k1 ?_|refine Zc k3 ?_|refine Zc (DX ..) ?_|refine Zc k4 ?_|refine Zc k5 ?_|exact Zo|with_reducible apply Za|(with_reducible show A1 _ _ _ _ _ _ _ _;refine A1.call (by(try push_cast[z]);exact k0 (by assumption)) (by first|exact .inl rfl|exact .inr ⟨_,_,_,rfl,rfl,rfl⟩) rfl (by first|rfl|push_cast [z]) ?_)<;>try push_cast[z]|(with_reducible show A1 _ _ _ _ _ _ _ _;refine A1.pan (by(try push_cast[z]);exact hp ..) rfl (by first|rfl|push_cast [z]) rfl ?_)<;>try push_cast[z]|fail)<;>try push_cast[z])
      all_goals first|exact ⟨Am _,rfl⟩|(exfalso;simp_all;done)|skip
     ·simp only[if_neg s5] at h0|-
      have k6:(m.kind=1∨m.kind=5∨m.kind=4/\m.has=true)->A0 prog 65 [.val (.int .i64 (F m.value))] (.tup []):=fun h=>by
       have:F m.value=0:=Classical.byContradiction fun h2=>s5 ⟨h,h2⟩
       rw[this];exact Qr
      obtain⟨J,hJ,hz,hj⟩:=Ma h0
      have w1:IntKind.i64.wrap (↑d+1)=↑d+1:=A9 (by omega) (by omega)
      have hls':∀ i,i<J->A0 prog 38 [.agg (Ao (m.list.getD i zU)),.val (.int .i64 ((d:Int)+1))] (.tup []):=fun i hi=>by
       have:=hok (m.list.getD i zU) (hls _ (Aj (by omega))) (by have:=Lq (Aj (d:=zU) (show i<m.list.length by omega));omega) (by omega) (hz i hi)
       rwa[A1U] at this
      have hp:EZ prog 38 [.agg (Ao (m.list.getD J zU)),.val (.int .i64 ((d:Int)+1))] (wD (DQ F m.list (d+1))):=by
       have:=hrec (m.list.getD J zU) (GM.list_lt (Aj hJ)) (hls _ (Aj hJ)) (by have:=Lq (Aj (d:=zU) hJ);omega) (by omega) (by rw[hj];exact h0)
       rwa[A1U,hj] at this
      generalize DQ F m.list (d+1)=c at*
      clear hrec hok hF
      rw[Bt m] at*
      generalize F m.was=fw at*
      generalize F m.value=fv at*
      rw[A4 m.was] at k4
      rw[A4 m.value] at k5
      simp only[A4 m.was,A4 m.value,A0c,A0m,A0b] at*
      refine EZ.of_awp func38 rfl ntmps38 (by kernel_rfl) (by simp) (AWp.sz fun H Hb=>VC.sound (fz:=[0]) mixed (by kernel_rfl) ?_)
      (have z:=b2;(try push_cast[z])<;>repeat' (first|apply Zi<;>intro _|refine Zc k1 ?_|refine Zc k3 ?_|refine Zc k4 ?_|refine Zc k5 ?_|refine Zc (DX ..) ?_|exact Zo|with_reducible apply Za|(with_reducible show A1 _ _ _ _ _ _ _ _;refine A1.call (by(try push_cast[z]);exact k0 (by assumption)) (by first|exact .inl rfl|exact .inr ⟨_,_,_,rfl,rfl,rfl⟩) rfl (by first|rfl|push_cast [z]) ?_)<;>try push_cast[z]|(with_reducible show A1 _ _ _ _ _ _ _ _;refine A1.call (by(try push_cast[z]);exact k6 (by simp_all)) (by first|exact .inl rfl|exact .inr ⟨_,_,_,rfl,rfl,rfl⟩) rfl (by first|rfl|push_cast [z]) ?_)<;>try push_cast[z]|fail)<;>try push_cast[z])
      all_goals first|omega|skip
      all_goals
       refine Zl (fun i=>i<=J) (fun i=>⟨[(46,.val (.int .i64 i)),(45,.val (.int .i64 m.list.length)),(44,.slice (m.list.map Ao) false),(1,.val (.int .i64 d))],[],400⟩) (fun i=>m.list.length-i) 0 (by simp) ?_ fun i hi=>?_
       ·apply Zw<;>push_cast
       ·push_cast
        refine Af (fun ha=>?_) (fun ha=>?_)
        ·have hi':i<m.list.length:=by simpa using ha
         have e1:=Q3 hi'
         rcases A14 i J with hij|hij
         ·have hr:=hls' i hij
          (have z:=Za e1 w1;(try push_cast[z])<;>repeat' (first|apply Zi<;>intro _|refine Zc (hr ..) ?_|exact Zo|with_reducible apply Za)<;>try push_cast[z])
          all_goals first|omega|skip
          refine⟨i+1,hij,by omega,?_⟩
          apply Zw<;>push_cast
          exact A9 (by omega) (by omega)
         ·obtain rfl:i=J:=by omega
          (have z:=Za e1 w1;(try push_cast[z])<;>repeat' (first|apply Zi<;>intro _|exact Zo|with_reducible apply Za|(with_reducible show A1 _ _ _ _ _ _ _ _;refine A1.pan (by(try push_cast[z]);exact hp ..) rfl (by first|rfl|push_cast [z]) rfl ?_)<;>try push_cast[z]|fail)<;>try push_cast[z])
          all_goals first|omega|exact ⟨Am _,rfl⟩|skip
        ·exact absurd ha (by simp;omega)
termination_by SizeOf.sizeOf m
end
def CatC(P:Program)(rs:List ResultVar)(g:FuncId)(cs:List D)(rB:D)(HB':Hp)(o:Option D)(s:St):Prop:=
 ∃(rD:Nat->Nat) (csD:List D) (HD HD':Hp),QL P g csD o HD HD'/\cs=BZ rD csD/\ltL 4 csD=true/\Ba rD (Ad s.hp) HD/\CS (2*s.nx) rD HD []=true/\CS (2*s.nx) rD HD HD'=true/\
   ∃ d,J9 P ⟨s.env,E2 s.hp (DK (2*s.nx) rD HD HD'),s.nx+4⟩ rs=some d/\Ar ⟨[(0,d)],E2 s.hp (DK (2*s.nx) rD HD HD'),s.nx+4⟩ ⟨[(0,rB)],HB',4⟩
def Pt(P:Program)(rs:List ResultVar)(g:FuncId)(cs:List D)(rB:D)(HB':Hp):AE->St->Prop
 |.ret,s|.normal,s=>CatC P rs g cs rB HB' none s
 |.panic d,s=>d.pure=true/\CatC P rs g cs rB HB' (some d) s
 |_,_=>False
def Pu(P:Program)(nt:Nat)(rs:List ResultVar)(g:FuncId)(t:Nat)(caps:Array Operand)(B:Code)(r:D)(H':Hp)(r1:Nat->Nat)(cs:List D)(env':Env)(HB:Hp)(rB:D)(HB':Hp):AE->St->Prop
 |.normal,s=>caps.toList.map (evO P s.env.get)=BZ r1 cs/\ltL 0 cs=true/\BZ (fun b=>b) cs=cs/\C7 r1 ((t,.any)::s.env) env'/\HR 4 env'=true/\Ba r1 (Ad s.hp) HB/\CS (2*s.nx) r1 HB []=true/\CS (2*s.nx) r1 HB HB'=true/\
   AWp P nt B (Pt P rs g cs rB HB') ⟨env',HB,4⟩/\Ar ⟨[(0,AV (CB (2*s.nx) r1) rB)],E2 s.hp (DK (2*s.nx) r1 HB HB'),s.nx+4⟩ ⟨[(0,r)],H',4⟩
 |_,_=>False
theorem A2.of_awp_catch{P:Program}{nt:Nat}{f:FuncId}{fn:Func}(As:List Code){B:Code}{ds:List D}{H:Hp}{r:D}{H':Hp}{id t g:Nat}{caps:Array Operand}{T1 T2:TypeId}{ps1 ps2:String}{af1 af2:Array Edge}{ts:Array TypeId}(hf:P.funcs[f]? =some fn)
  (hb:fn.body=some (As.foldr .seq (.seq (.region id #[⟨some t,.makeFunc (.func g) #[] caps,T1,ps1,af1,none⟩,⟨none,.defer {callee:=.value (.tmp t),args:=#[],argTypes:=ts},T2,ps2,af2,none⟩] false) B)))
  (hn:fn.ntmps=nt) (hent:Bl P f=true) (hlen:ds.length<=nt) (ht:t<nt) {rs:List ResultVar} (hrs:fn.results.toList=rs) (r1:Nat->Nat) (cs:List D) (env':Env) (HB:Hp) (rB:D) (HB':Hp)
  (h:AWpL P nt As (Pu P nt rs g t caps B r H' r1 cs env' HB rB HB' .normal) ⟨Be 0 ds,H,4⟩):A2 P f ds H r H':=by
 subst hrs
 unfold A2
 refine⟨hent,fun w M0 G0 I mu vs hga hdl hw hrep=>?_⟩
 let G:Gh:=⟨G0.st,G0.nm,[],Fence.wide,1,.inl rfl⟩
 have hG:∀ k,G k->k<w.heap.size:=fun k hk=>hw.lt k (hw.iold k hk)
 refine callsIn_wide.1 (callsIn_of_wp_marks (n:=1) hf hb trivial (Gu (I0:=G) hga ?_ As _ h I mu _ w ⟨?_,BJ.refl _ _ _ _,fun t=>Ff hrep _ t,⟨hw.blk,hw.loc,hw.inj,hw.fresh,hw.lt,hw.os,hw.tape,hw.output,hw.grown,hw.old,hw.iold,hw.inew,hw.keep,hw.used⟩⟩))
 case refine_2=>have:=hrep.1;simp[hn];omega
 rintro s1 I1 mu1 a1 w1 hq R1
 simp only[Pu] at hq
 obtain⟨c1,c2,c3,c4,c5,c6,c7,c8,hB,hW⟩:=hq
 show Code.wpIn _ _ _ _ _ _ _
 refine wpIn_seq (wpIn_region ?_)
 have hcap:Bc w1 I1 mu1 (BZ r1 cs) (caps.toList.map a1.eval):=by
  rw[<-c1]
  exact Bc.args (args:=caps) fun y _=>DY (GA.at (I0:=G) hga R1.w) R1.env y
 have hcsl:(caps.toList.map a1.eval).toArray=caps.map a1.eval:=by apply Array.ext';simp
 have o1:(execOp a1.eval ⟨some t,.makeFunc (.func g) #[] caps,T1,ps1,af1,none⟩).run P w1=.ok (.value (.func (.func g) #[] (caps.map a1.eval))) w1:=by simp[execOp,Instr.makeFunc]
 have hev:(a1.put (some t) (.func (.func g) #[] (caps.map a1.eval))).eval (.tmp t)=.func (.func g) #[] (caps.map a1.eval):=by
  have:t<a1.tmps.size:=by rw[R1.size];exact ht
  simp[Act.put,Act.eval,this]
 have o2:(execOp (a1.put (some t) (.func (.func g) #[] (caps.map a1.eval))).eval ⟨none,.defer {callee:=.value (.tmp t),args:=#[],argTypes:=ts},T2,ps2,af2,none⟩).run P w1=.ok (.defer {target:=.fn (.func g) (caps.map a1.eval),args:=#[]}) w1:=by
  simp only[execOp,resolve,hev,Deferred.ofValue,A0e,A0j,Result.andThen]
  simp
 have hd1:a1.defers=[]:=by
  obtain⟨rs,d0,d1,_⟩:=R1.defers
  rw[d0 rfl] at d1;exact d1
 have hvs:(caps.toList.map a1.eval).toArray=caps.map a1.eval:=hcsl
 obtain⟨M,G2,muc,⟨g1,g2,g3,g4,g5,g6,g7,g8⟩,hback⟩:=X7 (id:=2*s1.nx) r1 (show GA P w M0 G from hga) R1.w (fun j hj=>⟨by omega,by show 2*s1.nx<=2*s1.nx+2*j;omega⟩) (fun _ _=>rfl) hcap (Dw (A0D 4) c2) c6 c7
 generalize hclo:Value.func (.func g) #[] (caps.map a1.eval)=clo at o1 o2 hev
 let d:Deferred:= {target:=.fn (.func g) (caps.map a1.eval),args:=#[]}
 let G3:Gh:=⟨G2.st,G2.nm,[d],Fence.wide,1,.inl rfl⟩
 have hG3:∀ k,G3 k->k<w1.heap.size:=fun k hk=>g3.lt k (g3.iold k hk)
 have henv:∀ t',Rep w1 I1 muc (env'.get t') ((a1.put (some t) clo).tmps.getD t' undef):=by
  intro t'
  have h1:Rep w1 I1 mu1 (Env.get ((t,.any)::s1.env) t') ((a1.put (some t) clo).tmps.getD t' undef):=by
   simp only[Env.get]
   by_cases hh:t=t'
   ·subst hh;simp only[beq_self_eq_true,cond_true];exact .any _
   ·have:(t==t')=false:=by simpa using hh
    simp only[this,cond_false]
    have:=R1.env t'
    simp only[Act.put,A1g,A1k hh] at this|-
    exact this
  rcases FN c4 c5 t' with⟨d',h2,h3,h4⟩|h2
  ·rw[h2]
   exact(h1.lo h3).ren g5 rfl h4
  ·rw[h2];exact .any _
 have hsz:(a1.put (some t) clo).tmps.size=nt:=by rw[Fv];exact R1.size
 show wpOpsIn Fence.wide 1 P _ _ [0,1] a1 w1
 simp only[wpOpsIn,A1b,A0U,A0V,Region.wanted]
 simp only[if_true]
 refine DG (G:=G) o1 ?_
 refine⟨fun f' _=>G.fn f',?_⟩
 rw[show Fence.wide.round=none from rfl,Oper.semAt_none,o2]
 show Code.wpIn Fence.wide 1 P B _ ({tmps:=(a1.put (some t) clo).tmps,defers:=d::(a1.put (some t) clo).defers}:Act) w1
 rw[EL,hd1]
 refine wpIn_mono (hB w1 M G3 g1 I1 muc {tmps:=(a1.put (some t) clo).tmps,defers:=[d]} w1 ⟨hsz,BJ.refl _ _ _ _,henv,⟨g3.blk,g3.loc,g3.inj,g3.fresh,g3.lt,g3.os,g3.tape,g3.output,g3.grown,g3.old,g3.iold,g3.inew,g3.keep,g3.used⟩⟩) ?_
 rintro e a2 w2 ⟨x,s2,I2,mu2,hq2,he2,R2⟩
 have hd2:a2.defers=[d]:=by
  obtain⟨rs,d0,d1,_⟩:=R2.defers
  rw[d0 rfl] at d1;exact d1
 have hold:∀ k,I1 k->w2.heap[k]? =w1.heap[k]?:=fun k hk=>R2.w.old k (R1.w.lt k hk) (fun hM=>g7 k hM hk)
 have fin:∀ (o:Option D) (u u':FrameMode),RecU w2 I2 mu2 o u u'->(∀ d,o=some d->d.pure=true)->settle u'=.returning->u≠ .run->CatC P fn.results.toList g cs rB HB' o s2->LeavesInM Fence.wide 1 P fn a2.tmps (fun e w'=>∃ v I' mu',e=.returned v/\Rep w' I' mu' r v/\Ap w M0 G0 (frN 4) I' mu' (Ad H') w') a2.defers u w2:=by
  rintro o u u' hrec hpure hset hrun ⟨rD,csD,HD,HD',hD,q1,q2,q3,q4,q5,dd,q6,q7⟩
  rw[hd2]
  have hcs2:Bc w2 I2 mu2 (BZ rD csD) (caps.toList.map a1.eval):=by
   rw[<-q1]
   refine⟨g4.1,fun i hi=>?_⟩
   have h1:=g4.2 i hi
   have hnd:nd cs i=AV (fun b=>b) (nd cs i):=by
    have:=BO (r:=fun b=>b) hi
    rw[c3] at this;exact this
   have h2:Rep w1 I1 mu2 (nd cs i) (nv (caps.toList.map a1.eval) i):=Rep.ren (r:=fun b=>b) (n:=0) (fun b x hb hx=>by
    have hb':b%2=1:=by simpa[okN] using hb
    exact R2.w.keep b x hb' (g8 b x hb' hx)) h1 hnd (Eb c2 i)
   exact h2.mono hold (fun k hk=>R2.w.iold k (g6 k hk)) (fun _ _ h=>h)
  obtain⟨M4,G4,muc4,⟨f1,f2,f3,f4,f5,_⟩,hback4⟩:=X7 (id:=2*s2.nx) rD (show GA P w1 M G3 from g1) R2.w (fun j hj=>⟨by omega,by show 2*s2.nx<=2*s2.nx+2*j;omega⟩) (fun _ _=>rfl) hcs2 q2 q3 q4
  have hinv:(invoke (.fn (.func g) (caps.map a1.eval)) #[]).run P w2=.ok (.enter g (caps.toList.map a1.eval).toArray) w2:=by
   have e1:#[]++caps.map a1.eval=(caps.toList.map a1.eval).toArray:=by apply Array.ext';simp
   simp only[invoke]
   exact(congrArg (fun z=>(callFunc g z).run P w2) e1).trans (AZ hD.1 _ w2)
  have hrec':RecU w2 I2 muc4 o u u':=by
   cases o with
   |none=>exact hrec
   |some d=>
    obtain⟨v,hv,hu⟩:=hrec
    exact⟨v,hv.unmu (hpure d rfl),hu⟩
  refine⟨hrun,.inr ⟨fun h=>(by cases h),Fn.func g,caps.map a1.eval,g,_,rfl,hinv,fun f' _=>G3.fn f',(hD.2 w2 M4 G4 I2 muc4 _ u u' f1 f2 f3 f4 hrec').mono ?_⟩⟩
  rintro e u'' w3 ⟨rfl,v,I3,mu3,rfl,R3⟩
  show LeavesInM Fence.wide 1 P fn a2.tmps _ [] (settle u'') w3
  rw[hset]
  obtain⟨mu4,e4,R4,_⟩:=hback4 .any HD' v w3 I3 mu3 q5 (.any _) R3
  have hout:(fun b=>AO b (s2.fs.hp b) (Ce (2*s2.nx) rD HD .any HD').up)=Ad (E2 s2.hp (DK (2*s2.nx) rD HD HD')):=by
   funext b;rw[EE];rfl
  rw[hout] at R4
  have R4':=R4.less (fr':=frN (s2.nx+4)) fun b hb=>⟨⟨hb.1,by have:=hb.2;omega⟩,fun j hj=>by have:=hb.2;omega⟩
  obtain⟨v5,h5,h6⟩:=GJ (P:=P) (a:=a2) (w:=w3) (I:=I3) (mu:=mu4) (w0:=w1) (M0:=M) (I0:=⟨G3.st,G3.nm,a2.defers,Fence.wide,1,.inl rfl⟩) (fr:=frN (s2.nx+4)) (nt:=nt) (s:=⟨s2.env,E2 s2.hp (DK (2*s2.nx) rD HD HD'),s2.nx+4⟩)
   ⟨R2.size,BJ.refl _ _ _ _,fun t'=>(R2.env t').ext e4,⟨R4'.blk,R4'.loc,R4'.inj,R4'.fresh,R4'.lt,R4'.os,R4'.tape,R4'.output,R4'.grown,R4'.old,R4'.iold,R4'.inew,R4'.keep,R4'.used⟩⟩ fn q6
  obtain⟨I6,mu6,R6⟩:=q7 w1 M G2 1 I3 mu4 {tmps:=#[v5],defers:=G2.dl} w3 ⟨rfl,BJ.refl _ _ _ _,fun t'=>by
   cases t' with
   |zero=>simpa [St.fs,Env.get] using h6
   |succ t'=>simp [St.fs,Env.get];exact .any _,⟨R4'.blk,R4'.loc,R4'.inj,R4'.fresh,R4'.lt,R4'.os,R4'.tape,R4'.output,R4'.grown,R4'.old,R4'.iold,R4'.inew,R4'.keep,R4'.used⟩⟩
  have r0:Rep w3 I6 mu6 rB v5:=by simpa[St.fs,Env.get] using R6.env 0
  obtain⟨mu7,e7,R7,h7,_⟩:=hback rB HB' v5 w3 I6 mu6 c8 r0 R6.w
  have hout7:(fun b=>AO b (s1.fs.hp b) (Ce (2*s1.nx) r1 HB rB HB').up)=Ad (E2 s1.hp (DK (2*s1.nx) r1 HB HB')):=by
   funext b;rw[EE];rfl
  rw[hout7] at R7
  have R7':=R7.less (fr':=frN (s1.nx+4)) fun b hb=>⟨⟨hb.1,by have:=hb.2;omega⟩,fun j hj=>by have:=hb.2;omega⟩
  obtain⟨I8,mu8,R8⟩:=hW w M0 G 1 I6 mu7 {tmps:=#[v5],defers:=[]} w3 ⟨rfl,BJ.refl _ _ _ _,fun t'=>by
   cases t' with
   |zero=>simpa [St.fs,Env.get,Ce] using h7
   |succ t'=>simp [St.fs,Env.get];exact .any _,R7'⟩
  have r8:Rep w3 I8 mu8 r v5:=by simpa[St.fs,Env.get] using R8.env 0
  exact⟨v5,h5,v5,I8,mu8,rfl,r8,⟨R8.w.blk,R8.w.loc,R8.w.inj,R8.w.fresh,R8.w.lt,R8.w.os,R8.w.tape,R8.w.output,R8.w.grown,R8.w.old,R8.w.iold,R8.w.inew,R8.w.keep,R8.w.used⟩⟩
 cases x<;>cases e<;>simp only[FK] at he2<;>simp only[Pt] at hq2
 ·exact fin none .returning .returning ⟨rfl,rfl⟩ (fun d h=>by cases h) rfl (by simp) hq2
 ·exact fin none .returning .returning ⟨rfl,rfl⟩ (fun d h=>by cases h) rfl (by simp) hq2
 ·obtain⟨v,rfl,hv⟩:=he2
  exact fin (some _) _ _ ⟨v,hv,rfl,rfl⟩ (fun d h=>by cases h;exact hq2.1) rfl (by simp) hq2.2
theorem A1.panV{P:Program}{ops:Array Oper}{nx:Nat}{dst:Option Tmp}{T:TypeId}{ps:String}{af:Array Edge}{x:Operand}{l:List Oper}{pos:Nat}{acc:List Eff}{s:St}{K:List Eff->St->Prop}{f:FuncId}{args:Array Operand}{ts:Array TypeId}{fs cs ds:List D}{r:D}(hx:evO P s.env.get x=.func (.func f) fs cs)(hc:EZ P f ds r)(ha:fs++args.toList.map (evO P s.env.get)++cs=ds)(hpu:Ag ds=true)(hrp:r.pure=true)(hk:K [] ⟨(Bn,r)::s.env,s.hp,s.nx⟩):
  A1 P ops nx (⟨dst,.call {callee:=.value x,args:=args,argTypes:=ts},T,ps,af,none⟩::l) pos acc s K:=by
 refine A1.panic0 (d:=r) ?_ hk
 intro w0 M0 I0 nt fr I mu a w hga rr K Q hQ
 refine⟨by simp[Region.wanted],?_⟩
 subst ha
 unfold EZ at hc
 have hev:∀ y,Rep w I mu (evO P s.env.get y) (a.eval y):=fun y=>DY (hga.at rr.w) rr.env y
 have hxr:=hev x
 rw[hx] at hxr
 have hargs:=Bc.args (w:=w) (I:=I) (mu:=mu) (ev:=evO P s.env.get) (a:=a) (args:=args) fun y _=>hev y
 generalize he:a.eval x=fv at hxr
 cases hxr with
 |func _ _ _ us vs hl hk' h1 h2=>
 have hall:=((Bc.append (Bc.append ⟨hl,h1⟩ hargs) ⟨hk',h2⟩).unmu (mu':=fun _=>none) hpu)
 have hcall:=hc.2 w I _ (hga.at rr.w) rr.w.lt hall.1 hall.2
 have hrun:(execOp a.eval ⟨dst,.call {callee:=.value x,args:=args,argTypes:=ts},T,ps,af,none⟩).run P w=.ok (.enter f (us++args.toList.map a.eval++vs).toArray) w:=by
  have e1:us.toArray++args.map a.eval++vs.toArray=(us++args.toList.map a.eval++vs).toArray:=by apply Array.ext';simp
  simp only[execOp,resolve,he,Deferred.ofValue,A0e,A0j,Result.andThen,invoke]
  exact(congrArg (fun z=>(callFunc f z).run P w) e1).trans (AZ hc.1 _ w)
 refine C6 hrun ?_
 refine hcall.mono fun e w' ⟨v,I',he,hv,h1,h2,h3,h4⟩=>?_
 subst he
 have g1:=rr.w.below h1 h2 h3 h4
 have g2:Ext I mu w I' mu w':=⟨h1,fun _ _ h=>h,fun k hk=>h4.block k (rr.w.lt k hk)⟩
 exact hQ v w' I' ⟨rr.size,rr.defers.ext g2,fun t=>(rr.env t).ext g2,g1⟩ (hv.unmu hrp)
abbrev Pe(c:Int):Hp:=[(3,.rows [[.val (.int .i64 c)]] 1)]
theorem YG:QL prog 61 [.ref 3 0 0 1] none (Pe 0) (Pe 0):=by
 refine QL.of_awp (t:=4) func61 rfl ntmps61 (by kernel_rfl) (by simp) (by decide) (congrArg Array.toList results61) ?_
 change AWp _ _ _ _ ⟨(4,.val .nilIface)::Be 0 [.ref 3 0 0 1],[(3,.rows [[.val (.int .i64 0)]] 1)],4⟩
 refine Zy ?_
 push_cast
 refine A1.nilNil (by push_cast) (by push_cast) (fun a w h1 h2=>?_) ?_
 ·have u:=run_underlying (P:=prog) underlying20
  simp only[execOp,h1,h2,eqGuard,binOp]
  unfold Op.equal Op.maxDepth Op.equalIn
  simp[u]
 ·((try push_cast)<;>repeat' (first|apply Zi<;>intro _|exact Zp|with_reducible apply Za)<;>try push_cast)
  simp only[Pe]
  apply Zw<;>push_cast
theorem r_catS(c:Int):QL prog 61 [.ref 3 0 0 1] (some (wD c)) (Pe 0) (Pe c):=by
 refine QL.of_awp (t:=4) func61 rfl ntmps61 (by kernel_rfl) (by simp) (by decide) (congrArg Array.toList results61) ?_
 change AWp _ _ _ _ ⟨(4,wD c)::Be 0 [.ref 3 0 0 1],[(3,.rows [[.val (.int .i64 0)]] 1)],4⟩
 refine Zy ?_
 push_cast
 refine A1.ifNil (by push_cast;rfl) (by push_cast) (fun a v w h1 h2=>?_) ?_
 ·have u:=run_underlying (P:=prog) underlying20
  simp only[execOp,h1,h2,eqGuard,binOp]
  unfold Op.equal Op.maxDepth Op.equalIn
  simp[u]
 ·((try push_cast)<;>repeat' (first|apply Zi<;>intro _|exact Zp|with_reducible apply Za)<;>try push_cast)
  refine A1.assert (by push_cast;rfl) (fun v w=>?_) ?_
  ·simp[Instr.typeAssert,go_sem,underlying124]
  ·((try push_cast)<;>repeat' (first|apply Zi<;>intro _|exact Zp|with_reducible apply Za)<;>try push_cast)
   simp only[Pe]
   apply Zw<;>push_cast
section
variable{F:GV->Int}(hF:∀ v,Sm v->wtV v<=2097152->A0 prog 66 [.agg (A5 v)] (.val (.int .i64 (F v))))
include hF
theorem c_May1(m:GM)(hm:SmU m)(hwt:wtU m<=2097152)(h0:CG F m 1=0):A0 prog 37 [.ptr (Ao m) 0] (.tup []):=by
 have h:A0 prog 38 [.agg (Ao m),.val (.int .i64 1)] (.tup []):=Qt hF m 1 hm hwt (by omega) h0
 refine Zf [] func37 rfl ntmps37 results37 ?_
 (have z:=trivial;(try push_cast)<;>repeat' (first|apply Zi<;>intro _|refine Zc h ?_|exact Zp|with_reducible apply Za)<;>try push_cast)
theorem p_May1(m:GM)(hm:SmU m)(hwt:wtU m<=2097152)(h0:CG F m 1≠0):EZ prog 37 [.ptr (Ao m) 0] (wD (CG F m 1)):=by
 have h:EZ prog 38 [.agg (Ao m),.val (.int .i64 1)] (wD (CG F m 1)):=YN hF m 1 hm hwt (by omega) h0
 generalize CG F m 1=c at*
 refine EZ.of_awp func37 rfl ntmps37 (by kernel_rfl) (by simp) (AWp.sz fun H Hb=>Zy ?_)
 (have z:=trivial;(try push_cast)<;>repeat' (first|apply Zi<;>intro _|exact Zp|with_reducible apply Za|(with_reducible show A1 _ _ _ _ _ _ _ _;refine A1.pan (by(try push_cast);exact h ..) rfl (by first|rfl|push_cast) rfl ?_)<;>try push_cast|fail)<;>try push_cast)
 exact⟨Am _,rfl⟩
end
theorem XL(ds:List D)(hds:Ag ds=true)(h:A0 prog 37 ds (.tup [])):A2 prog 36 [.func (.func 37) [] ds] [] (.val (.int .i64 0)) []:=by
 refine A2.of_awp_catch [_] func36 rfl ntmps36 (by kernel_rfl) (by simp) (by decide) (congrArg Array.toList results36) (BK [(3,8)]) [.ref 3 0 0 1] [(2,.ref 3 0 0 1),(0,.func (.func 37) [] ds)] [(3,.rows [[.val (.int .i64 0)]] 1)] (.val (.int .i64 0)) [(3,.rows [[.val (.int .i64 0)]] 1)] ?_
 refine Zy ?_
 (have z:=@hds;(try push_cast[z])<;>repeat' (first|apply Zi<;>intro _|exact Zo|with_reducible apply Za)<;>try push_cast[z])
 refine(show Pu _ _ _ _ _ _ _ _ _ _ _ _ _ _ _ _ _ from⟨?_,?_,?_,?_,?_,?_,?_,?_,?_,?_⟩)
 ·push_cast[hds]
 ·push_cast[hds]
 ·push_cast[hds]
 ·push_cast[hds,C7]
 ·push_cast[hds]
 ·push_cast[hds,Ba]
 ·push_cast[hds]
 ·push_cast[hds]
 ·refine Zy ?_
  (have z:=@hds;(try push_cast[z])<;>repeat' (first|apply Zi<;>intro _|refine Zv h ?_|exact Zo|with_reducible apply Za)<;>try push_cast[z])
  refine(show Pt _ _ _ _ _ _ _ _ from⟨BK [],[.ref 3 0 0 1],_,_,YG,?_,?_,?_,?_,?_,.val (.int .i64 0),?_,?_⟩)
  ·push_cast[hds]
  ·push_cast[hds]
  ·push_cast[hds,Ba]
  ·push_cast[hds]
  ·push_cast[hds]
  ·push_cast[hds]
  ·push_cast[hds]
   apply Zw<;>push_cast [hds]
 ·push_cast[hds]
  apply Zw<;>push_cast [hds]
theorem XK(ds:List D)(hds:Ag ds=true)(c:Int)(h:EZ prog 37 ds (wD c)):A2 prog 36 [.func (.func 37) [] ds] [] (.val (.int .i64 c)) []:=by
 refine A2.of_awp_catch [_] func36 rfl ntmps36 (by kernel_rfl) (by simp) (by decide) (congrArg Array.toList results36) (BK [(3,8)]) [.ref 3 0 0 1] [(2,.ref 3 0 0 1),(0,.func (.func 37) [] ds)] [(3,.rows [[.val (.int .i64 0)]] 1)] (.val (.int .i64 c)) [(3,.rows [[.val (.int .i64 c)]] 1)] ?_
 refine Zy ?_
 (have z:=@hds;(try push_cast[z])<;>repeat' (first|apply Zi<;>intro _|exact Zo|with_reducible apply Za)<;>try push_cast[z])
 refine(show Pu _ _ _ _ _ _ _ _ _ _ _ _ _ _ _ _ _ from⟨?_,?_,?_,?_,?_,?_,?_,?_,?_,?_⟩)
 ·push_cast[hds,Bn]
 ·push_cast[hds,Bn]
 ·push_cast[hds,Bn]
 ·push_cast[hds,C7]
 ·push_cast[hds,Bn]
 ·push_cast[hds,Ba]
 ·push_cast[hds,Bn]
 ·push_cast[hds,Bn]
 ·refine Zy ?_
  (have z:=@hds;(try push_cast[z])<;>repeat' (first|apply Zi<;>intro _|exact Zo|with_reducible apply Za|(with_reducible show A1 _ _ _ _ _ _ _ _;refine A1.panV rfl (by(try push_cast[z]);exact h ..) rfl (by first|rfl|push_cast [z]) rfl ?_)<;>try push_cast[z]|fail)<;>try push_cast[z])
  refine(show Pt _ _ _ _ _ _ _ _ from⟨rfl,BK [],[.ref 3 0 0 1],_,_,r_catS c,?_,?_,?_,?_,?_,.val (.int .i64 c),?_,?_⟩)
  ·push_cast[hds,Bn]
  ·push_cast[hds,Bn]
  ·push_cast[hds,Ba]
  ·push_cast[hds,Bn]
  ·push_cast[hds,Bn]
  ·push_cast[hds,Bn]
  ·push_cast[hds,Bn]
   apply Zw<;>push_cast [hds,Bn]
 ·push_cast[hds,Bn]
  apply Zw<;>push_cast [hds,Bn]
noncomputable def WK(F:GV->Int)(m:GM):Int:=if 64<Dn m then 6 else CG F m 1
theorem Qs{F:GV->Int}(hF:∀ v,Sm v->wtV v<=2097152->A0 prog 66 [.agg (A5 v)] (.val (.int .i64 (F v))))(m:GM)(hm:SmU m)(hwt:wtU m<=2097152)(hz:Dn m<=1099511627776):A0 prog 17 [.agg (Ao m)] (.val (.int .i64 (WK F m))):=by
 have hS:=Vy m hz
 have oU:=Ay m
 unfold WK
 by_cases h64:64<Dn m
 ·rw[if_pos h64]
  have b1:decide ((64:Int)<(Dn m:Nat))=true:=decide_eq_true (by omega)
  refine Zf [0] func17 rfl ntmps17 results17 ?_
  (have z:=Za b1 oU;(try push_cast[z])<;>repeat' (first|apply Zi<;>intro _|refine Zc hS ?_|exact Zo|with_reducible apply Za)<;>try push_cast[z])
 ·rw[if_neg h64]
  have b1:decide ((64:Int)<(Dn m:Nat))=false:=decide_eq_false (by omega)
  by_cases hc:CG F m 1=0
  ·have hC:=XL [.ptr (Ao m) 0] (by simp[Ag,D.pure,oU]) (c_May1 hF m hm hwt hc)
   rw[hc]
   refine Zf [0] func17 rfl ntmps17 results17 ?_
   (have z:=Za b1 oU;(try push_cast[z])<;>repeat' (first|apply Zi<;>intro _|refine Zc hS ?_|refine Zs [] hC ?_|exact Zo|with_reducible apply Za)<;>try push_cast[z])
  ·have hC:=XK [.ptr (Ao m) 0] (by simp[Ag,D.pure,oU]) _ (p_May1 hF m hm hwt hc)
   generalize CG F m 1=c at*
   refine Zf [0] func17 rfl ntmps17 results17 ?_
   (have z:=Za b1 oU;(try push_cast[z])<;>repeat' (first|apply Zi<;>intro _|refine Zc hS ?_|refine Zs [] hC ?_|exact Zo|with_reducible apply Za)<;>try push_cast[z])
theorem Qb:G1 tN=0:=by
 unfold G1 FZ AI
 decide
theorem keyM_k:G1 tK=0:=by
 unfold G1 FZ AI
 decide
theorem KO:noS ByteArray.empty=true:=by rw[Z6];decide
theorem UN:D8 zV=true:=by simp[D8,zV,GV.kind,GV.b,GV.n,GV.s,GV.list,GV.obj,KO]
theorem ZG(F:GV->Int)(n:Int):CG F (SMu.inc n).m 1=0:=by
 have hk:=Qb
 rw[JB]
 have h1:Cq (SMu.inc n).m=false:=by
  simp[Cq,SMu.m,GM.kind,GM.had,GM.was,GM.to,GM.n,GM.has,GM.value,GM.list,KO,UN]
 have h2:Ec (SMu.inc n).m=true:=by
  simp only[Ec,SMu.m,GM.kind,GM.key,GM.to,GM.had,hk]
  decide
 rw[h1,h2]
 simp[SMu.m,GM.had,GM.kind,GM.list,DQ]
theorem ZF(F:GV->Int)(hF:F Bx=0):CG F SMu.put.m 1=0:=by
 have hk:=keyM_k
 rw[JB]
 have h1:Cq SMu.put.m=false:=by
  simp[Cq,SMu.m,GM.kind,GM.had,GM.was,GM.to,GM.n,GM.has,GM.value,GM.list,KO,UN]
 have h2:Ec SMu.put.m=true:=by
  simp only[Ec,SMu.m,GM.kind,GM.key,GM.to,GM.had,hk]
  decide
 rw[h1,h2]
 simp[SMu.m,GM.had,GM.kind,GM.list,GM.value,DQ,hF]
theorem Ju(F:GV->Int)(hF:F Bx=0)(m:SMu):WK F m.m=0:=by
 unfold WK
 cases m with
 |inc n=>
  rw[if_neg (by rw[Fs];simp[SMu.m,GM.list,C8]),ZG]
 |put=>
  rw[if_neg (by rw[Fs];simp[SMu.m,GM.list,C8]),ZF F hF]
theorem Yh:Sm zV:=.mk _ _ _ _ _ _ (by decide) (by decide) (fun _ h=>by cases h) (fun _ h=>by cases h) (by decide) (by decide) (fun _ h=>by cases h)
theorem UW:Sm Bx:=.mk _ _ _ _ _ _ (by decide) (by decide) (fun _ h=>by cases h) (fun _ h=>by cases h) (by decide) (by decide) (fun _ h=>by cases h)
theorem Lw(m:SMu):SmU m.m:=by
 cases m with
 |inc n=>exact .mk _ Yh Yh (by decide:tN.size<=1048576) (by decide:ByteArray.size .empty<=1048576) (by decide:List.length ([]:List GM)<=1048576) (fun _ h=>by cases h)
 |put=>exact .mk _ Yh UW (by decide:tK.size<=1048576) (by decide:ByteArray.size .empty<=1048576) (by decide:List.length ([]:List GM)<=1048576) (fun _ h=>by cases h)
theorem Pv(m:SMu):wtU m.m<=2:=by
 cases m with
 |inc n=>rw [Lr,Pw,Pw];exact(by decide:tN.size+ByteArray.size .empty+(ByteArray.size .empty+(0+0)+(0+0))+(ByteArray.size .empty+(0+0)+(0+0))+(0+0)<=2)
 |put=>rw [Lr,Pw,Pw];exact(by decide:tK.size+ByteArray.size .empty+(ByteArray.size .empty+(0+0)+(0+0))+(ByteArray.size .empty+(0+0)+(0+0))+(0+0)<=2)
theorem GF(m:SMu):Dn m.m=1:=by
 cases m<;>rw [Fs]<;>rfl
noncomputable def UZ(m:GM)(L:List GE):Bool:=((Az m.key L).isSome==m.had)&&(!(Az m.key L).isSome ||(Jh (C3 (Az m.key L)) m.was==0))
section
variable{b:GT}{q:OQ}{l:List GE}(h:FJ b q l)(hb:l.length<=1099511627776)
include h hb
omit h hb in
theorem Na(n:Int): -9223372036854775808<=IntKind.i64.wrap n/\IntKind.i64.wrap n<=9223372036854775807:=F3 .i64 n
def ovf(n d:Int):Bool:=(decide (0<d)&&decide (IntKind.i64.wrap (n+d)<n)) ||(decide (d<0)&&decide (n<IntKind.i64.wrap (n+d)))
noncomputable def Md(L:List GE)(k:ByteArray)(d f:Int):Int:=
 if(Az k L).isSome=true/\(C3 (Az k L)).kind≠3 then 9 else if ovf (C3 (Az k L)).n d=true then 7 else Gt f k
def FB(L:List GE)(k:ByteArray)(d:Int):GV:=.mk 3 false (IntKind.i64.wrap ((C3 (Az k L)).n+d)) ByteArray.empty [] []
theorem q_inc(k:ByteArray)(d f:Int)(hF:A0 prog 66 [.agg (A5 (FB (q.view l) k d))] (.val (.int .i64 f)))(hn:q.us.length<1073741824):
  ∃ q',A2 prog 114 [.ref 1 0 0 3,.val (.string k),.val (.int .i64 d)] (oqH b q) (.val (.int .i64 (Md (q.view l) k d f))) (oqH b q')/\Led b l q q' 1 (if Md (q.view l) k d f=0 then Br (k,FB (q.view l) k d) (q.view l) else q.view l):=by
 have hG:=q_Get h hb k
 have oB:=A3 b
 have hsm:Sm (FB (q.view l) k d):=.mk _ _ _ _ [] [] (by simp) (by simp) (by simp) (by simp) (Na _) (by decide) (by simp)
 obtain⟨q',hP,hL⟩:=YH h k (FB (q.view l) k d) f hF hsm hn
 unfold Md
 rw[A4] at hG
 have hPz:=hP.args (ds':=[.ref 1 0 0 3,.val (.string k),.agg [.val (.int .i64 3),.val (.bool false),.val (.int .i64 (FB (q.view l) k d).n),.val (.string ByteArray.empty),.slice [] true,.slice [] true]]) (by
  rw[A4]
  exact⟨Am _,Am _,⟨Am _,Am _,Am _,Am _,⟨trivial,fun e=>by cases e⟩,⟨trivial,fun e=>by cases e⟩,trivial⟩,trivial⟩)
 by_cases hk:(Az k (q.view l)).isSome=true/\(C3 (Az k (q.view l))).kind≠3
 ·simp only[if_pos hk]
  refine⟨q,?_,by rw[if_neg (by decide)];exact .refl h 1⟩
  obtain⟨hx,hk⟩:=hk
  rw[hx] at hG
  have b1:((C3 (Az k (q.view l))).kind !=3)=true:=by simpa using hk
  generalize C3 (Az k (q.view l))=v at*
  simp only[oqH] at hG|-
  refine Zd [] func114 rfl ntmps114 results114 ?_
  (have z:=Za oB b1;(try push_cast[z])<;>repeat' (first|apply Zi<;>intro _|refine Zs [(1,1),(2,2),(4,4)] hG ?_|exact Zo|with_reducible apply Za)<;>try push_cast[z])
  all_goals(apply Zr [(2,34),(4,36)] rfl<;>push_cast [oB])
 ·simp only[if_neg hk]
  have b1:(Az k (q.view l)).isSome=true->((C3 (Az k (q.view l))).kind !=3)=false:=fun hx=>by
   simp only[bne_eq_false_iff_eq]
   exact Classical.byContradiction fun h2=>hk ⟨hx,h2⟩
  by_cases ho:ovf (C3 (Az k (q.view l))).n d=true
  ·simp only[if_pos ho]
   refine⟨q,?_,by rw[if_neg (by decide)];exact .refl h 1⟩
   generalize C3 (Az k (q.view l))=v at*
   unfold ovf at ho
   simp only[oqH] at hG|-
   cases hx:(Az k (q.view l)).isSome with
   |false=>
    rw[hx] at hG
    cases h1:decide (0<d)<;>cases h2:decide (IntKind.i64.wrap (v.n+d)<v.n)<;>cases h3:decide (d<0)<;>cases h4:decide (v.n<IntKind.i64.wrap (v.n+d))<;>simp only[h1,h2,h3,h4,A1N,Bool.and_false,A1V,Bool.or_true,A0C] at ho
    all_goals
     refine Zd [] func114 rfl ntmps114 results114 ?_
     (have z:=Za oB<|Za h1<|Za h2<|Za h3 h4;(try push_cast[z])<;>repeat' (first|apply Zi<;>intro _|refine Zs [(1,1),(2,2),(4,4)] hG ?_|exact Zo|with_reducible apply Za)<;>try push_cast[z])
     all_goals(apply Zr [(2,34),(4,36)] rfl<;>push_cast [oB])
   |true=>
    rw[hx] at hG
    have b2:=b1 hx
    cases h1:decide (0<d)<;>cases h2:decide (IntKind.i64.wrap (v.n+d)<v.n)<;>cases h3:decide (d<0)<;>cases h4:decide (v.n<IntKind.i64.wrap (v.n+d))<;>simp only[h1,h2,h3,h4,A1N,Bool.and_false,A1V,Bool.or_true,A0C] at ho
    all_goals
     refine Zd [] func114 rfl ntmps114 results114 ?_
     (have z:=Za oB<|Za h1<|Za h2<|Za h3<|Za h4 b2;(try push_cast[z])<;>repeat' (first|apply Zi<;>intro _|refine Zs [(1,1),(2,2),(4,4)] hG ?_|exact Zo|with_reducible apply Za)<;>try push_cast[z])
     all_goals(apply Zr [(2,34),(4,36)] rfl<;>push_cast [oB])
  ·simp only[if_neg ho]
   refine⟨q',?_,hL⟩
   have hpu:(FB (q.view l) k d).n=IntKind.i64.wrap ((C3 (Az k (q.view l))).n+d):=rfl
   rw[hpu] at hPz
   generalize Gt f k=c at*
   generalize C3 (Az k (q.view l))=v at*
   unfold ovf at ho
   simp only[oqH] at hG hPz|-
   cases hx:(Az k (q.view l)).isSome with
   |false=>
    rw[hx] at hG
    cases h1:decide (0<d)<;>cases h2:decide (IntKind.i64.wrap (v.n+d)<v.n)<;>cases h3:decide (d<0)<;>cases h4:decide (v.n<IntKind.i64.wrap (v.n+d))<;>simp only[h1,h2,h3,h4,A1N,Bool.and_false,A1V,Bool.or_true,A0C,not_true_eq_false,not_false_eq_true] at ho
    all_goals
     refine Zd [] func114 rfl ntmps114 results114 ?_
     (have z:=Za oB<|Za h1<|Za h2<|Za h3 h4;(try push_cast[z])<;>repeat' (first|apply Zi<;>intro _|refine Zs [(1,1),(2,2),(4,4)] hG ?_|refine Zs [(1,1),(2,34),(4,36)] (hPz ..) ?_|exact Zo|with_reducible apply Za)<;>try push_cast[z])
     all_goals(apply Zr [(2,354),(4,356)] rfl<;>push_cast [oB])
   |true=>
    rw[hx] at hG
    have b2:=b1 hx
    cases h1:decide (0<d)<;>cases h2:decide (IntKind.i64.wrap (v.n+d)<v.n)<;>cases h3:decide (d<0)<;>cases h4:decide (v.n<IntKind.i64.wrap (v.n+d))<;>simp only[h1,h2,h3,h4,A1N,Bool.and_false,A1V,Bool.or_true,A0C,not_true_eq_false,not_false_eq_true] at ho
    all_goals
     refine Zd [] func114 rfl ntmps114 results114 ?_
     (have z:=Za oB<|Za h1<|Za h2<|Za h3<|Za h4 b2;(try push_cast[z])<;>repeat' (first|apply Zi<;>intro _|refine Zs [(1,1),(2,2),(4,4)] hG ?_|refine Zs [(1,1),(2,34),(4,36)] (hPz ..) ?_|exact Zo|with_reducible apply Za)<;>try push_cast[z])
     all_goals(apply Zr [(2,354),(4,356)] rfl<;>push_cast [oB])
end
section
variable{b:GT}{q:OQ}{l:List GE}(h:FJ b q l)(hb:l.length<=1099511627776)
include h hb
noncomputable def addC(L:List GE)(k:ByteArray)(f:Int):Int:=
 if(Az k L).isSome=true/\(C3 (Az k L)).kind≠5 then 9 else if 256<=(C3 (Az k L)).list.length then 6 else Gt f k
def XW(L:List GE)(k:ByteArray)(v:GV):GV:=.mk 5 false 0 ByteArray.empty ((C3 (Az k L)).list++[v]) []
noncomputable def casC(m:GM)(L:List GE)(f:Int):Int:=if UZ m L=true then(if m.has then Gt f m.key else 0) else 13
noncomputable def casL(m:GM)(L:List GE)(f:Int):List GE:=if UZ m L=true then(if m.has then(if Gt f m.key=0 then Br (m.key,m.value) L else L) else Cm m.key L) else L
end
def doH(c m:Int)(b:GT)(q:OQ):Hp:=(3,.rows [[.val (.int .i64 c)]] 1)::(5,.rows [[.ref 1 0 0 3]] 1)::(7,.rows [[.val (.int .i64 m)]] 1)::oqH b q
def Q5(k:Int)(m:GM):List D:=[.val (.int .i64 k),.val (.string m.key),.val (.string m.to),.val (.int .i64 m.n),.val (.bool m.had),.val (.int .i64 m.was.kind),.val (.bool m.was.b),.val (.int .i64 m.was.n),.val (.string m.was.s),.slice (m.was.list.map A5) false,.slice (m.was.obj.map A7) false,.val (.bool m.has),.val (.int .i64 m.value.kind),.val (.bool m.value.b),.val (.int .i64 m.value.n),.val (.string m.value.s),.slice (m.value.list.map A5) false,.slice (m.value.obj.map A7) false,.slice (m.list.map Ao) false]
def doR:List (Nat×Nat):=[(3,24),(5,8),(7,48),(9,16),(2,42),(4,44)]
def doC:List D:=[.ref 3 0 0 1,.ref 5 0 0 1,.ref 7 0 0 1]
def doE:Env:=[(2,.ref 5 0 0 1),(3,.ref 9 0 0 19),(4,.ref 3 0 0 1)]
section
variable{P:Program}{nt:Nat}{rs:List ResultVar}{g:FuncId}{t:Nat}{caps:Array Operand}{B:Code}{r:D}{H':Hp}{r1:Nat->Nat}{cs:List D}{env':Env}{HB:Hp}{rB:D}{HB':Hp}{s:St}
theorem Dq1(h9:AWp P nt B (SZ P rs g cs rB HB') ⟨env',HB,4⟩)(hw:Ar ⟨[(0,AV (CB (2*s.nx) r1) rB)],E2 s.hp (DK (2*s.nx) r1 HB HB'),s.nx+4⟩ ⟨[(0,r)],H',4⟩)
  (h1:caps.toList.map (evO P s.env.get)=BZ r1 cs:=by push_cast(config:= {maxSteps:=9999999}) [z]) (h2:ltL 0 cs=true:=by push_cast(config:= {maxSteps:=9999999}) [z]) (h3:BZ (fun b=>b) cs=cs:=by push_cast(config:= {maxSteps:=9999999}) [z]) (h4:C7 r1 ((t,.any)::s.env) env':=by push_cast(config:= {maxSteps:=9999999}) [z,C7]) (h5:HR 4 env'=true:=by push_cast(config:= {maxSteps:=9999999}) [z]) (h6:Ba r1 (Ad s.hp) HB:=by push_cast(config:= {maxSteps:=9999999}) [z,Ba]) (h7:CS (2*s.nx) r1 HB []=true:=by push_cast(config:= {maxSteps:=9999999}) [z]) (h8:CS (2*s.nx) r1 HB HB'=true:=by push_cast(config:= {maxSteps:=9999999}) [z]):DefQ1 P nt rs g t caps B r H' r1 cs env' HB rB HB' .normal s:=⟨h1,h2,h3,h4,h5,h6,h7,h8,h9,hw⟩
theorem Dq2(rl:List (Nat×Nat))(d:D){HD HD':Hp}(hD:QM P g [.ref 3 0 0 1,.ref 5 0 0 1,.ref 7 0 0 1] HD HD')(hw:Ar ⟨[(0,d)],E2 s.hp (DK (2*s.nx) (BK rl) HD HD'),s.nx+4⟩ ⟨[(0,rB)],HB',4⟩)
  (h1:cs=BZ (BK rl) [.ref 3 0 0 1,.ref 5 0 0 1,.ref 7 0 0 1]:=by push_cast(config:= {maxSteps:=9999999}) [z]) (h2:ltL 4 [.ref 3 0 0 1,.ref 5 0 0 1,.ref 7 0 0 1]=true:=by push_cast(config:= {maxSteps:=9999999}) [z]) (h3:Ba (BK rl) (Ad s.hp) HD:=by push_cast(config:= {maxSteps:=9999999}) [z,Ba]) (h4:CS (2*s.nx) (BK rl) HD []=true:=by push_cast(config:= {maxSteps:=9999999}) [z]) (h5:CS (2*s.nx) (BK rl) HD HD'=true:=by push_cast(config:= {maxSteps:=9999999}) [z]) (h6:J9 P ⟨s.env,E2 s.hp (DK (2*s.nx) (BK rl) HD HD'),s.nx+4⟩ rs=some d:=by push_cast(config:= {maxSteps:=9999999}) [z]):SZ P rs g cs rB HB' .ret s:=⟨BK rl,_,HD,HD',hD,h1,h2,h3,h4,h5,d,h6,hw⟩
end
theorem d_ok(b:GT)(q:OQ)(m:Int):QM prog 110 [.ref 3 0 0 1,.ref 5 0 0 1,.ref 7 0 0 1] (doH 0 m b q) (doH 0 m b q):=by
 have oB:=A3 b
 simp only[doH,oqH]
 refine QM.of_awp func110 rfl ntmps110 (by kernel_rfl) (by simp) (congrArg Array.toList results110) (AWp.sz fun H Hb=>Zy ?_)
 (have z:=oB;(try push_cast[z])<;>repeat' (first|apply Zi<;>intro _|exact Zo|with_reducible apply Za)<;>try push_cast[z])
 apply Zw<;>push_cast [oB]
theorem d_back(b:GT)(q:OQ)(c:Int)(hc:c≠0)(hq:q.chg=none->q.us=[])(m:Nat)(hm:m<=q.us.length)(hn:q.us.length<=1073741824):QM prog 110 [.ref 3 0 0 1,.ref 5 0 0 1,.ref 7 0 0 1] (doH c m b q) (doH c m b (q.back m)):=by
 have hB:=q_Back b q hq m hm hn
 have oB:=A3 b
 have b1:(c !=0)=true:=by simpa using hc
 generalize q.back m=q' at*
 simp only[doH,oqH,Q5,doR,doC,doE] at hB|-
 refine QM.of_awp func110 rfl ntmps110 (by kernel_rfl) (by simp) (congrArg Array.toList results110) (AWp.sz fun H Hb=>Zy ?_)
 (have z:=Za oB b1;(try push_cast[z])<;>repeat' (first|apply Zi<;>intro _|refine Zs [(1,1),(2,2),(4,4)] hB ?_|exact Zo|with_reducible apply Za)<;>try push_cast[z])
 apply Zr [(2,42),(4,44)] rfl<;>push_cast [oB]
section
variable{b:GT}{q:OQ}
theorem do_put0(m:GM)(hk:m.kind=1)(q1:OQ)(hP:A2 prog 112 [.ref 1 0 0 3,.val (.string m.key),.agg (A5 m.value)] (oqH b q) (.val (.int .i64 0)) (oqH b q1)):
  A2 prog 68 [.ref 1 0 0 3,.agg (Ao m)] (oqH b q) (.val (.int .i64 0)) (oqH b q1):=by
 have hM:=PQ b q
 have oB:=A3 b
 have hD:=d_ok b q1 q.us.length
 skip
 rw[Bt,A4 m.was,A4 m.value,hk]
 rw[A4 m.value] at hP
 simp only[A0c,A0m,A0b]
 refine A2.of_awp_defer [_,_] func68 rfl ntmps68 (by kernel_rfl) (by simp) (by decide) (congrArg Array.toList results68) (BK doR) doC doE ((9,.rows [Q5 1 m] 19)::doH 0 q.us.length b q) (.val (.int .i64 0)) (doH 0 q.us.length b q1) ?_
 simp only[doH,oqH,Q5,doR,doC,doE] at hM hD hP|-
 refine Zy ?_
 (have z:=oB;(try push_cast[z])<;>repeat' (first|apply Zi<;>intro _|exact Zo|with_reducible apply Za)<;>try push_cast[z])
 refine Zy ?_
 (have z:=oB;(try push_cast[z])<;>repeat' (first|apply Zi<;>intro _|refine Zs [(1,1),(2,2),(4,4)] hM ?_|exact Zo|with_reducible apply Za)<;>try push_cast[z])
 have z:=oB
 refine Dq1 ?_ ?_
 ·refine Zy ?_
  (have z:=oB;(try push_cast[z])<;>repeat' (first|apply Zi<;>intro _|refine Zs [(1,1),(2,2),(4,4)] hP ?_|exact Zo|with_reducible apply Za)<;>try push_cast[z])
  refine Dq2 [(2,82),(4,84)] (.val (.int .i64 0)) hD ?_
  push_cast[oB]
  apply Zr [(2,98),(4,100)] rfl<;>push_cast [oB]
 ·push_cast[oB]
  apply Zr [(2,66),(4,68)] rfl<;>push_cast [oB]
theorem do_putE(m:GM)(hk:m.kind=1)(c:Int)(q1:OQ)(hP:A2 prog 112 [.ref 1 0 0 3,.val (.string m.key),.agg (A5 m.value)] (oqH b q) (.val (.int .i64 c)) (oqH b q1))(hc:c≠0)(hq1:q1.chg=none->q1.us=[])(hle:q.us.length<=q1.us.length)(hn1:q1.us.length<=1073741824):
  A2 prog 68 [.ref 1 0 0 3,.agg (Ao m)] (oqH b q) (.val (.int .i64 c)) (oqH b (q1.back q.us.length)):=by
 have hM:=PQ b q
 have oB:=A3 b
 have hD:=d_back b q1 c hc hq1 q.us.length hle hn1
 generalize q1.back q.us.length=q2 at*
 rw[Bt,A4 m.was,A4 m.value,hk]
 rw[A4 m.value] at hP
 simp only[A0c,A0m,A0b]
 refine A2.of_awp_defer [_,_] func68 rfl ntmps68 (by kernel_rfl) (by simp) (by decide) (congrArg Array.toList results68) (BK doR) doC doE ((9,.rows [Q5 1 m] 19)::doH 0 q.us.length b q) (.val (.int .i64 c)) (doH c q.us.length b q2) ?_
 simp only[doH,oqH,Q5,doR,doC,doE] at hM hD hP|-
 refine Zy ?_
 (have z:=oB;(try push_cast[z])<;>repeat' (first|apply Zi<;>intro _|exact Zo|with_reducible apply Za)<;>try push_cast[z])
 refine Zy ?_
 (have z:=oB;(try push_cast[z])<;>repeat' (first|apply Zi<;>intro _|refine Zs [(1,1),(2,2),(4,4)] hM ?_|exact Zo|with_reducible apply Za)<;>try push_cast[z])
 have z:=oB
 refine Dq1 ?_ ?_
 ·refine Zy ?_
  (have z:=oB;(try push_cast[z])<;>repeat' (first|apply Zi<;>intro _|refine Zs [(1,1),(2,2),(4,4)] hP ?_|exact Zo|with_reducible apply Za)<;>try push_cast[z])
  refine Dq2 [(2,82),(4,84)] (.val (.int .i64 c)) hD ?_
  push_cast[oB]
  apply Zr [(2,98),(4,100)] rfl<;>push_cast [oB]
 ·push_cast[oB]
  apply Zr [(2,66),(4,68)] rfl<;>push_cast [oB]
theorem do_inc0(m:GM)(hk:m.kind=3)(q1:OQ)(hP:A2 prog 114 [.ref 1 0 0 3,.val (.string m.key),.val (.int .i64 m.n)] (oqH b q) (.val (.int .i64 0)) (oqH b q1)):
  A2 prog 68 [.ref 1 0 0 3,.agg (Ao m)] (oqH b q) (.val (.int .i64 0)) (oqH b q1):=by
 have hM:=PQ b q
 have oB:=A3 b
 have hD:=d_ok b q1 q.us.length
 skip
 rw[Bt,A4 m.was,A4 m.value,hk]
 skip
 simp only[A0c,A0m,A0b]
 refine A2.of_awp_defer [_,_] func68 rfl ntmps68 (by kernel_rfl) (by simp) (by decide) (congrArg Array.toList results68) (BK doR) doC doE ((9,.rows [Q5 3 m] 19)::doH 0 q.us.length b q) (.val (.int .i64 0)) (doH 0 q.us.length b q1) ?_
 simp only[doH,oqH,Q5,doR,doC,doE] at hM hD hP|-
 refine Zy ?_
 (have z:=oB;(try push_cast[z])<;>repeat' (first|apply Zi<;>intro _|exact Zo|with_reducible apply Za)<;>try push_cast[z])
 refine Zy ?_
 (have z:=oB;(try push_cast[z])<;>repeat' (first|apply Zi<;>intro _|refine Zs [(1,1),(2,2),(4,4)] hM ?_|exact Zo|with_reducible apply Za)<;>try push_cast[z])
 have z:=oB
 refine Dq1 ?_ ?_
 ·refine Zy ?_
  (have z:=oB;(try push_cast[z])<;>repeat' (first|apply Zi<;>intro _|refine Zs [(1,1),(2,2),(4,4)] hP ?_|exact Zo|with_reducible apply Za)<;>try push_cast[z])
  refine Dq2 [(2,114),(4,116)] (.val (.int .i64 0)) hD ?_
  push_cast[oB]
  apply Zr [(2,130),(4,132)] rfl<;>push_cast [oB]
 ·push_cast[oB]
  apply Zr [(2,66),(4,68)] rfl<;>push_cast [oB]
theorem do_incE(m:GM)(hk:m.kind=3)(c:Int)(q1:OQ)(hP:A2 prog 114 [.ref 1 0 0 3,.val (.string m.key),.val (.int .i64 m.n)] (oqH b q) (.val (.int .i64 c)) (oqH b q1))(hc:c≠0)(hq1:q1.chg=none->q1.us=[])(hle:q.us.length<=q1.us.length)(hn1:q1.us.length<=1073741824):
  A2 prog 68 [.ref 1 0 0 3,.agg (Ao m)] (oqH b q) (.val (.int .i64 c)) (oqH b (q1.back q.us.length)):=by
 have hM:=PQ b q
 have oB:=A3 b
 have hD:=d_back b q1 c hc hq1 q.us.length hle hn1
 generalize q1.back q.us.length=q2 at*
 rw[Bt,A4 m.was,A4 m.value,hk]
 skip
 simp only[A0c,A0m,A0b]
 refine A2.of_awp_defer [_,_] func68 rfl ntmps68 (by kernel_rfl) (by simp) (by decide) (congrArg Array.toList results68) (BK doR) doC doE ((9,.rows [Q5 3 m] 19)::doH 0 q.us.length b q) (.val (.int .i64 c)) (doH c q.us.length b q2) ?_
 simp only[doH,oqH,Q5,doR,doC,doE] at hM hD hP|-
 refine Zy ?_
 (have z:=oB;(try push_cast[z])<;>repeat' (first|apply Zi<;>intro _|exact Zo|with_reducible apply Za)<;>try push_cast[z])
 refine Zy ?_
 (have z:=oB;(try push_cast[z])<;>repeat' (first|apply Zi<;>intro _|refine Zs [(1,1),(2,2),(4,4)] hM ?_|exact Zo|with_reducible apply Za)<;>try push_cast[z])
 have z:=oB
 refine Dq1 ?_ ?_
 ·refine Zy ?_
  (have z:=oB;(try push_cast[z])<;>repeat' (first|apply Zi<;>intro _|refine Zs [(1,1),(2,2),(4,4)] hP ?_|exact Zo|with_reducible apply Za)<;>try push_cast[z])
  refine Dq2 [(2,114),(4,116)] (.val (.int .i64 c)) hD ?_
  push_cast[oB]
  apply Zr [(2,130),(4,132)] rfl<;>push_cast [oB]
 ·push_cast[oB]
  apply Zr [(2,66),(4,68)] rfl<;>push_cast [oB]
end
section
variable{b:GT}{q:OQ}
theorem q_Do(m:GM)(c:Int)(q':OQ)(hM:A0 prog 17 [.agg (Ao m)] (.val (.int .i64 0)))(hD:A2 prog 68 [.ref 1 0 0 3,.agg (Ao m)] (oqH b q) (.val (.int .i64 c)) (oqH b q')):A2 prog 41 [.ref 1 0 0 3,.agg (Ao m)] (oqH b q) (.val (.int .i64 c)) (oqH b q'):=by
 have oB:=A3 b
 simp only[oqH] at hD|-
 refine Zd [] func41 rfl ntmps41 results41 ?_
 (have z:=oB;(try push_cast[z])<;>repeat' (first|apply Zi<;>intro _|refine Zc hM ?_|refine Zs [(1,1),(2,2),(4,4)] hD ?_|exact Zo|with_reducible apply Za)<;>try push_cast[z])
 apply Zr [(2,98),(4,100)] rfl<;>push_cast [oB]
end
def undoN(n:Nat)(u:Bw):D:=.func (.func 240) [] [.ptr [.val (.bool u.was)] 0,.ptr (CP u.old) 0,.ptr [.ref n 0 0 3] 0,.ptr [.val (.string u.k)] 0]
theorem KK(r:Nat->Nat)(l:List Bw):Db r (l.map fun u=>[Cc u])=l.map fun u=>[undoN (r 1) u]:=by
 rw[E3,A10]
 refine A13 fun u _=>?_
 simp only[Function.comp,BZ,Cc,undoN,AV,BR r _ (CY _)]
theorem c_RunE(b:GT)(m:GM)(c:Int)(hc:c≠0)(q':OQ)(hD:A2 prog 41 [.ref 1 0 0 3,.agg (Ao m)] (oqH b ⟨none,[]⟩) (.val (.int .i64 c)) (oqH b q')):A0 prog 19 [Av b,.agg (Ao m)] (.tup [Av b,.val (.int .i64 c)]):=by
 have hB:=V1 b
 have oB:=A3 b
 have b1:(c !=0)=true:=by simpa using hc
 simp only[oqH] at hD
 change A2 _ _ _ [(1,.rows [[Ac b,.val (.map none),.gref 4 0]] 3),(2,.junk),(4,.grow [] 1)] _ _ at hD
 refine Zf [] func19 rfl ntmps19 results19 ?_
 (have z:=Za oB<|Za b1 @KK;(try push_cast[z])<;>repeat' (first|apply Zi<;>intro _|refine Zs [] hB ?_|refine Zs [(1,40),(2,42),(4,44)] hD ?_|exact Zo|with_reducible apply Za)<;>try push_cast[z])
theorem c_Run(b t':GT)(m:GM)(q':OQ)(hD:A2 prog 41 [.ref 1 0 0 3,.agg (Ao m)] (oqH b ⟨none,[]⟩) (.val (.int .i64 0)) (oqH b q'))(hC:A2 prog 42 [.ref 1 0 0 3] (oqH b q') (Av t') (oqH b q')):A0 prog 19 [Av b,.agg (Ao m)] (.tup [Av t',.val (.int .i64 0)]):=by
 have hB:=V1 b
 have oB:=A3 b
 have oT:=A3 t'
 simp only[oqH] at hD hC
 change A2 _ _ _ [(1,.rows [[Ac b,.val (.map none),.gref 4 0]] 3),(2,.junk),(4,.grow [] 1)] _ _ at hD
 refine Zf [] func19 rfl ntmps19 results19 ?_
 (have z:=Za oB<|Za oT @KK;(try push_cast[z])<;>repeat' (first|apply Zi<;>intro _|refine Zs [] hB ?_|refine Zs [(1,40),(2,42),(4,44)] hD ?_|refine Zs [(1,40),(2,74),(4,76)] hC ?_|exact Zo|with_reducible apply Za)<;>try push_cast[z])
def begS(k p:ByteArray):Bool:=Lib.hasPrefix k.data.toList p.data.toList
def restS(k p:ByteArray):ByteArray:=⟨(Lib.trimPrefix k.data.toList p.data.toList).toArray⟩
def UT(k p t:ByteArray):ByteArray:=t++restS k p
noncomputable def Zh(p t:ByteArray)(L:List GE):List GE->Int×List GE
 |[]=>(0,[])
 |e::g=>if G1 (UT e.1 p t)≠0 then(8,[]) else if FC (UT e.1 p t) L=true/\begS (UT e.1 p t) p=false then(13,[]) else((Zh p t L g).1,(UT e.1 p t,e.2)::(Zh p t L g).2)
noncomputable def YI(F:GV->Int):List GE->List GE->Int×List GE
 |[],R=>(0,R)
 |e::g,R=>if Gt (F e.2) e.1=0 then YI F g (Br e R) else(Gt (F e.2) e.1,R)
def begL(p:ByteArray)(L:List GE):List GE:=L.filter fun e=>begS e.1 p
def notL(p:ByteArray)(L:List GE):List GE:=L.filter fun e=>!begS e.1 p
noncomputable def moveM(F:GV->Int)(p t:ByteArray)(L:List GE):Int×List GE:=
 if(Zh p t L (begL p L)).1≠0 then((Zh p t L (begL p L)).1,L) else YI F (Zh p t L (begL p L)).2 (notL p L)
mutual
noncomputable def EK(F:GV->Int):GM->List GE->Int×List GE
 |.mk kd k t n h w i v l,L=>
  if kd=1 then(Gt (F v) k,if Gt (F v) k=0 then Br (k,v) L else L)
  else if kd=2 then(if FC k L=true then(0,Cm k L) else(12,L))
  else if kd=3 then(Md L k n (F (FB L k n)),if Md L k n (F (FB L k n))=0 then Br (k,FB L k n) L else L)
  else if kd=4 then(casC (.mk kd k t n h w i v l) L (F v),casL (.mk kd k t n h w i v l) L (F v))
  else if kd=5 then(addC L k (F (XW L k v)),if addC L k (F (XW L k v))=0 then Br (k,XW L k v) L else L)
  else if kd=6 then moveM F k t L
  else if kd=7 then(if k.size≠0/\UZ (.mk kd k t n h w i v l) L=false then(13,L) else Tn F l L)
  else(9,L)
noncomputable def Tn(F:GV->Int):List GM->List GE->Int×List GE
 |[],L=>(0,L)
 |m::l,L=>if (EK F m L).1=0 then Tn F l (EK F m L).2 else((EK F m L).1,L)
end
attribute [push_cast] Hj
def preH(a c:Code)(b:GT)(q:OQ)(A:List ByteArray):Hp:=(7,.loop [(5,.ref 3 0 0 1),(2,.ptr [.ref 1 0 0 3] 0)] 60 .ready none [19,20] a c)::(3,.rows [[.gref 6 A.length]] 1)::(6,.grow (A.map fun k=>[.val (.string k)]) 1)::oqH b q
section
variable{a c:Code}{b:GT}{q:OQ}{f:GE->List ByteArray}(hY:∀ (e:GE) (A:List ByteArray),(A++f e).length<=1048576->DA prog 7 [.val (.string e.1),.agg (A5 e.2)] (preH a c b q A) (.val (.bool true)) (preH a c b q (A++f e)))
include hY
omit hY in
end
section
variable{a c:Code}{b:GT}{q:OQ}{f:GE->List ByteArray}(hf:∀ e,(f e).length<=1)(hY:∀ (e:GE) (A:List ByteArray),(A++f e).length<=1048576->DA prog 7 [.val (.string e.1),.agg (A5 e.2)] (preH a c b q A) (.val (.bool true)) (preH a c b q (A++f e)))
include hf hY
end
end Go.Ab
namespace Go.Ab
open Go.RowKit
open Go.ChangeMaps (setBlock)
section
variable{w0:World}{M0:Nat->Prop}{I0:Gh}{fr I:Nat->Prop}{mu:Nat->Option Value}{hp:Nat->Option Blk}{w:World}
end
end Go.Ab
namespace Go.Ab
open Go.Proofs Go.Proofs.Tryz
def endL:List UInt8->Option (List UInt8)
 |[]=>none
 |x::l=>match endL l with
  |some r=>some (x::r)
  |none=>if x=255 then none else some [x+1]
def endS(p:ByteArray):ByteArray×Bool:=match endL p.data.toList with|none=>(ByteArray.empty,false)|some l=>(⟨l.toArray⟩,true)
structure VOk(L:List GE):Prop where
 srt:Srt L
 key:∀ e ∈ L,G1 e.1=0
 fit:∀ e ∈ L,B1 e.2=0
 sm:∀ e ∈ L,Sm e.2
theorem VOk.nil:VOk []:=⟨List.Pairwise.nil,by simp,by simp,by simp⟩
theorem VOk.put{L:List GE}(h:VOk L){k:ByteArray}{v:GV}(hk:G1 k=0)(hf:B1 v=0)(hs:Sm v):VOk (Br (k,v) L):=
 ⟨E6 h.srt,fun e he=>(Fw he).elim (fun e'=>by rw[e'];exact hk) (h.key e),fun e he=>(Fw he).elim (fun e'=>by rw[e'];exact hf) (h.fit e),fun e he=>(Fw he).elim (fun e'=>by rw[e'];exact hs) (h.sm e)⟩
theorem Hl{f:Int}{k:ByteArray}(h:Gt f k=0):G1 k=0/\f=0:=by
 unfold Gt at h
 split at h
 ·exact⟨by assumption,h⟩
 ·cases h
noncomputable def L3(m:GM)(L:List GE):List GE:=if (EK B1 m L).1=0 then(EK B1 m L).2 else L
theorem Vi(L:List GE)(k:ByteArray)(d:Int):Sm (FB L k d):=.mk _ _ _ _ [] [] (by simp) (by simp) (by simp) (by simp) (Na _) (by decide) (by simp)
theorem incV_wt(L:List GE)(k:ByteArray)(d:Int):wtV (FB L k d)=0:=by simp[FB,wtV,T3,T4]
theorem SmU.parts{m:GM}(h:SmU m):Sm m.was/\Sm m.value/\m.list.length<=1048576/\∀ x ∈ m.list,SmU x:=by
 cases h;exact⟨by assumption,by assumption,by assumption,by assumption⟩
theorem N1{n:Int}(h:0<=n)(k:n<18446744073709551616):IntKind.u64.wrap n=n:=by simp only[IntKind.wrap,IntKind.bits,IntKind.signed];simp;omega
abbrev mcl(m:GM)(t:Bool):List D:=[.val (.int .i64 m.kind),.val (.string m.key),.val (.string m.to),.val (.int .i64 m.n),.val (.bool m.had),.val (.int .i64 m.was.kind),.val (.bool m.was.b),.val (.int .i64 m.was.n),.val (.string m.was.s),.slice (m.was.list.map A5) false,.slice (m.was.obj.map A7) false,.val (.bool m.has),.val (.int .i64 m.value.kind),.val (.bool m.value.b),.val (.int .i64 m.value.n),.val (.string m.value.s),.slice (m.value.list.map A5) false,.slice (m.value.obj.map A7) false,.slice [] t]
abbrev mzr:List D:=[.val (.int .i64 0),.val (.string ByteArray.empty),.val (.string ByteArray.empty),.val (.int .i64 0),.val (.bool false),.val (.int .i64 0),.val (.bool false),.val (.int .i64 0),.val (.string ByteArray.empty),.slice [] true,.slice [] true,.val (.bool false),.val (.int .i64 0),.val (.bool false),.val (.int .i64 0),.val (.string ByteArray.empty),.slice [] true,.slice [] true,.slice [] true]
theorem Fe(u:SMu):Ao u.m=mcl u.m false:=by
 have hl:u.m.list=[]:=by cases u<;>rfl
 rw[Bt,hl,A4 u.m.was,A4 u.m.value];rfl
theorem c_mCopy(u:SMu):A0 prog 67 [.agg (Ao u.m)] (.agg (Ao u.m)):=by
 have hs:=Lw u
 obtain⟨m1,m2,m3,m4⟩:=hs.parts
 have h1:=Hd u.m.was m1
 have h2:=Hd u.m.value m2
 rw[Fe]
 generalize u.m=m at*
 rw[A4 m.was] at h1
 rw[A4 m.value] at h2
 refine Zf [] func67 rfl ntmps67 results67 ?_
 (have z:=trivial;(try push_cast)<;>repeat' (first|apply Zi<;>intro _|refine Zc h1 ?_|refine Zc h2 ?_|exact Zp|with_reducible apply Za)<;>try push_cast)
 all_goals first|omega|skip
 refine AWp.loopI mixed (by kernel_rfl) (ι:=Unit) (fun _=>True) (fun _=>⟨[(17,.val (.int .i64 0)),(16,.val (.int .i64 0)),(15,.slice [] false),(3,.slice [] true),(2,.ref 8 0 0 19),(1,.ref 0 0 0 19)],[(0,.rows [mcl m false] 19),(8,.rows [mzr] 19)],68⟩) (fun _=>0) () trivial ?_ fun i hi=>?_
 ·apply Zw<;>push_cast
 ·((try push_cast)<;>repeat' (first|apply Zi<;>intro _|exact Zp|with_reducible apply Za)<;>try push_cast)
theorem c_twin(i:Int)(u:SMu):A0 prog 39 [.agg (.val (.int .u64 i)::Ao u.m)] (.agg (.val (.int .u64 i)::Ao u.m)):=by
 have h1:=c_mCopy u
 rw[Fe] at*
 generalize u.m=m at*
 refine Zf [] func39 rfl ntmps39 results39 ?_
 (have z:=trivial;(try push_cast)<;>repeat' (first|apply Zi<;>intro _|refine Zc h1 ?_|exact Zp|with_reducible apply Za)<;>try push_cast)
theorem HC(a:Nat)(X:List (List D))(t:Bool)(h:a+X.length<4611686018427387904):A0 prog 20 [.ptr [.val (.int .u64 a),.slice X t] 0] (.val (.int .u64 ((a:Int)+X.length+1))):=by
 have w1:IntKind.u64.wrap (X.length:Int)=(X.length:Int):=N1 (by omega) (by omega)
 have w2:IntKind.u64.wrap ((a:Int)+X.length)=(a:Int)+X.length:=N1 (by omega) (by omega)
 have w3:IntKind.u64.wrap ((a:Int)+X.length+1)=(a:Int)+X.length+1:=N1 (by omega) (by omega)
 refine Zf [] func20 rfl ntmps20 results20 ?_
 (have z:=Za w1<|Za w2 w3;(try push_cast[z])<;>repeat' (first|apply Zi<;>intro _|exact Zo|with_reducible apply Za)<;>try push_cast[z])
 all_goals first|omega|skip
theorem Vx(a:Nat)(d:D):A0 prog 31 [.ptr [.val (.int .u64 a),d] 0] (.val (.int .u64 a)):=by
 refine Zf [] func31 rfl ntmps31 results31 ?_
 ((try push_cast)<;>repeat' (first|apply Zi<;>intro _|exact Zp|with_reducible apply Za)<;>try push_cast)
abbrev Bq(x:SN):List D:=BA (snN x)
abbrev F1:List D:=.val (.int .u64 0)::mzr
theorem Eo(x:SN):Bq x=.val (.int .u64 x.1)::Ao x.2.m:=rfl
theorem c_twinQ(x:SN):A0 prog 39 [.agg (Bq x)] (.agg (Bq x)):=c_twin x.1 x.2
theorem Da(x:SN):Ag (Bq x)=true:=by rw[Eo];simp only[Ag,D.pure,Ay,A0M]
theorem Yz(x:SN):(Bq x).length=20:=by rw[Eo];simp[Bo]
theorem By(L:List SN):A6 (L.map Bq)=true:=AF Da L
theorem Yj{α:Type}{es:List α}{i:Nat}{x:α}(h:i<es.length):Au es i [x]=es.set i x:=by
 rw[List.set_eq_take_append_cons_drop,if_pos h];simp[Au]
theorem c_qEach(L:List SN)(X:List (List D))(o n:Nat)(hX:A6 X=true)(ho:o+n<=X.length)(hl:L.length=n)(hn:n<=1048576)(hr:∀ i,i<n->nr X (o+i)=Bq (L.getD i (0,.put))):A2 prog 43 [.gsub 5 o n 20,.func (.func 39) [] []] [(5,.grow X 20)] (.sref 0 0 n n 20) [(5,.grow X 20),(0,.rows (L.map Bq) 20)]:=by
 have oL:=By L
 have oF:=Hv (f:=Bq) (z:=F1) Da (by rfl) L
 have lF:=KU Bq F1 L
 have lL:(L.map Bq).length=n:=by simp[hl]
 have fa:=H3 Bq F1 L (i:=n) (by omega)
 have f0:=FE Bq F1 L
 rw[hl] at f0 lF
 refine Zd [] func43 rfl ntmps43 results43 ?_
 (have z:=Za oL<|Za lL hX;(try push_cast[z])<;>repeat' (first|apply Zi<;>intro _|exact Zo|with_reducible apply Za)<;>try push_cast[z])
 all_goals first|omega|skip
 refine Zl (fun i=>i<=n) (fun i=>⟨[(13,.val (.int .i64 i)),(12,.val (.int .i64 n)),(11,.gsub 5 o n 20),(5,.sref 32 0 i n 20),(1,.func (.func 39) [] [])],[(5,.grow X 20),(32,.rows (G6 Bq F1 L i) 20)],68⟩) (fun i=>n-i) 0 (A0D _) ?_ fun i hi=>?_
 ·apply Zw<;>push_cast [f0,hX,oF]
 ·push_cast
  refine Af (fun ha=>?_) (fun ha=>?_)
  ·have hi':i<n:=by simpa using ha
   have e1:=hr i hi'
   have e2:=Jt Bq F1 L (i:=i) (by omega)
   have e3:=H2 Bq F1 L (0,.put) (i:=i) (by omega)
   have hT:=c_twinQ (L.getD i (0,.put))
   have lx:=Yz (L.getD i (0,.put))
   have w1:IntKind.i64.wrap ((i:Int)+1)=(i:Int)+1:=A9 (by omega) (by omega)
   have d1:decide (i+1<=n)=true:=decide_eq_true (by omega)
   have hq:∀ y:List D,y ∈ [Bq (L.getD i (0,.put))]->y.length=20:=fun y hy=>by rw[A0d.1 hy];exact lx
   have hq2:∀ y:List D,y ∈ [Bq (L.getD i (0,.put))]->∀ d ∈ y,AN d=true:=fun y hy d hd=>by
    rw[A0d.1 hy,Eo,Fe] at hd
    simp only[A0s,A1x,or_false] at hd
    rcases hd with rfl|rfl|rfl|rfl|rfl|rfl|rfl|rfl|rfl|rfl|rfl|rfl|rfl|rfl|rfl|rfl|rfl|rfl|rfl|rfl<;>rfl
   (have z:=Za oL<|Za lL<|Za hX<|Za e1<|Za e2<|Za w1 d1;(try push_cast[z])<;>repeat' (first|apply Zi<;>intro _|refine Zv hT ?_|exact Zo|with_reducible apply Za)<;>try push_cast[z])
   all_goals first|omega|exact hq|exact hq2|skip
   rw[Yj (es:=G6 Bq F1 L i) (i:=i) (by rw[lF];omega),e3]
   refine⟨i+1,by omega,by omega,?_⟩
   apply Zw<;>push_cast [hX,Hv (f:=Bq) (z:=F1) Da (by rfl) L (i+1)]
  ·have hi':i=n:=by simp at ha;omega
   subst hi'
   (have z:=hX;(try push_cast[z])<;>repeat' (first|apply Zi<;>intro _|exact Zo|with_reducible apply Za)<;>try push_cast[z])
   rw[fa]
   apply Zr [(0,32)] rfl<;>push_cast [hX,oL]
end Go.Ab
