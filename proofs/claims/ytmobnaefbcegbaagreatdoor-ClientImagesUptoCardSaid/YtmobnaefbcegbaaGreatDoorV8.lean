/- The program is walked: part 9 of 18. -/
import Derived.Test.YtmobnaefbcegbaaGreatDoorV7
import Derived.Shelf.Unicode.ValidAny
import Derived.Shelf.Unicode.DecodeAny
import Derived.Shelf.Strconv.Itoa4
import Derived.Shelf.Small.Wraps
import Derived.Shelf.Strings.Prefix
import Derived.Lib.AppendIntMem
import Derived.Lib.ItoaLen
import Derived.Sort.Grow
set_option maxHeartbeats 4000000
set_option maxRecDepth 20000
set_option linter.all false
namespace Go.Ab
open Go.Proofs Go.Proofs.Tryz
structure OQ where
 chg:Option (List CE×Nat)
 us:List BL
def OQ.es(q:OQ):List CE:=(q.chg.getD ([],0)).1
def OQ.ck(q:OQ):Nat:=(q.chg.getD ([],0)).2
def cD(n:Nat)(q:OQ):D:=match q.chg with|none=>.val (.map none)|some _=>.mref n
def cB(q:OQ):Blk:=match q.chg with|none=>.junk|some x=>.map (x.1.map CH) x.2
def oq(b:GT)(q:OQ):OV:=⟨b,q.chg,some q.us⟩
def oqH(b:GT)(q:OQ):Hp:=[(1,.rows [[Ah b,cD 2 q,.gref 4 q.us.length]] 3),(2,cB q),(4,.grow (q.us.map λu=>[BJ u]) 1)]
def Hv(b:GT)(q:OQ):ovH (oq b q)=oqH b q:=by
 obtain⟨c,us⟩:=q;cases c with
 |none=>rfl
 |some x=>rfl
def renD_cD(r:Nat->Nat)(n:Nat)(q:OQ):Bu r (cD n q)=cD (r n) q:=by
 obtain⟨c,us⟩:=q;cases c<;>rfl
def ltD_cD{m n:Nat}(q:OQ)(h:okN m n=true):ltD m (cD n q)=true:=by
 obtain⟨c,us⟩:=q;cases c with
 |none=>rfl
 |some x=>exact h
def frz_cD(hp:Nat->Option Blk)(k n:Nat)(q:OQ):frz hp k (cD n q)=cD n q:=by
 obtain⟨c,us⟩:=q;cases c<;>cases k<;>rfl
def renB_cB(r:Nat->Nat)(q:OQ):Gb r (cB q)=cB q:=by
 obtain⟨c,us⟩:=q;cases c with
 |none=>rfl
 |some x=>simp only[cB,Gb,Uy]
def ltB_cB(n:Nat)(q:OQ):ltB n (cB q)=true:=by
 obtain⟨c,us⟩:=q;cases c with
 |none=>rfl
 |some x=>simp only[cB,ltB,YU]
def mapB_cB(hp:Nat->Option Blk)(n:Nat)(q:OQ):K8 (frz hp n) (cB q)=cB q:=by
 obtain⟨c,us⟩:=q;cases c with
 |none=>rfl
 |some x=>simp only[cB,K8,Vq]
attribute [push_cast] renD_cD ltD_cD frz_cD renB_cB ltB_cB mapB_cB
def OQ.view(q:OQ)(l:Lga):Lga:=GD q.es l
structure Fe(b:GT)(q:OQ)(l:List GE):Prop where
 tr:Dw b l
 ch:DP q.es q.ck
 us:q.chg=none->q.us=[]
def Fe.ov{b:GT}{q:OQ}{l:Lga}(h:Fe b q l):OvOk (oq b q) l:=by
 exact⟨h.tr,h.ch⟩
def Lb(b:GT)(q:OQ)(l:Lga):(oq b q).view l=q.view l:=rfl
def oq_us(b:GT)(q:OQ):(oq b q).us=q.us:=rfl
def Fe.srt{b:GT}{q:OQ}{l:Lga}(h:Fe b q l):Srt (q.view l):=Dy _ h.tr.srt
def OQ.step(q:OQ)(k:Baa)(s:Ct):OQ:=
 ⟨some ((KO q.es q.ck k s).1,(KO q.es q.ck k s).2),q.us++[⟨k,(C5 k q.es 0).isSome,((C5 k q.es 0).map (·.2)).getD (false,zV)⟩]⟩
def YM(b:GT)(q:OQ)(k:Baa)(s:Ct):(oq b q).step k s=oq b (q.step k s):=rfl
def Fe.step{b:GT}{q:OQ}{l:Lga}(h:Fe b q l){k:Baa}{s:Ct}(hs:Sm s.2/\(s.1=false->s.2=zV)/\k.size<=64):Fe b (q.step k s) l/\(q.step k s).view l=if s.1 then B4 (k,s.2) (q.view l) else BX k (q.view l):=
 ⟨⟨h.tr,h.ch.set hs,λe=>by cases e⟩,ZT h.ch h.tr.srt hs⟩
section
variable{b:GT}{q:OQ}{l:Lga}(h:Fe b q l)(hb:l.length<=1099511627776)(k:Baa)
include h hb
theorem YK:A4 prog 232 [.ref 1 0 0 3,sD k] (oqH b q) (.tup [.agg (A7 (AR (Am k (q.view l)))),.val (.bool (Am k (q.view l)).isSome)]) (oqH b q):=by
 have:=Yb (oq b q) l h.ov hb k;rwa[Hv,Lb] at this
theorem q_GetT:A4 prog 232 [.ref 1 0 0 3,sD k] (oqH b q) (.tup [.agg (Di (AR (Am k (q.view l)))),.val (.bool (Am k (q.view l)).isSome)]) (oqH b q):=by
 have:=ZH (oq b q) l h.ov hb k;rwa[Hv,Lb] at this
theorem q_Del0(hh:D9 k (q.view l)=false):A4 prog 165 [.ref 1 0 0 3,sD k] (oqH b q) (bD false) (oqH b q):=by
 have:=c_ODel0 (oq b q) l h.ov hb k (by rw[Lb];exact hh);rwa[Hv] at this
theorem q_Del1(hh:D9 k (q.view l)=true)(hn:q.us.length<1073741824):A4 prog 165 [.ref 1 0 0 3,sD k] (oqH b q) (bD true) (oqH b (q.step k (false,zV))):=by
 have:=c_ODel1 (oq b q) l h.ov hb k (by rw[Lb];exact hh) (by rw[oq_us];exact hn);rwa[YM,Hv,Hv] at this
end
def Xd(b:GT)(q:OQ):A4 prog 161 [.ref 1 0 0 3] (oqH b q) (iD (q.us.length:Nat)) (oqH b q):=by
 have:=c_Mark (oq b q);rw[Hv] at this;exact this
def q_step(b:GT)(q:OQ)(k:Baa)(s:Ct)(hn:q.us.length<1073741824):A4 prog 231 [.ref 1 0 0 3,sD k,.agg (D4 s)] (oqH b q) (.tup []) (oqH b (q.step k s)):=by
 have:=c_step (oq b q) k s (by show(oq b q).us.length<_;rw[oq_us];exact hn);rwa[YM,Hv,Hv] at this
def OQ.back(q:OQ)(m:Nat):OQ:=⟨q.chg.map λc=>rwd c (q.us.drop m),q.us.take m⟩
def c_BackN(b:GT):A4 prog 163 [.ref 1 0 0 3,iD (0:Nat)] (ovH ⟨b,none,some []⟩) (iD 0) (ovH ⟨b,none,some []⟩):=by
 have C:=A6 b;simp[KG];refine Zd [] ?_
 (have z:=C;push_cast[z]<;>repeat' apply Za)
 refine AWp.loopI mixed Kq' (λj=>True) (λj=>⟨[(5,iD (-1)),(1,iD 0),(0,.ref 1 0 0 3)],[(1,.rows [[Ah b,.val (.map none),.gref 4 0]] 3),(2,.junk),(4,.grow [] 1)],88⟩) (λj=>0) () trivial ?_ λj N=>?_
 ·apply Zw<;>push_cast [C];all_goals decide
 ·(have z:=C;push_cast[z]<;>repeat' apply Za)
  refine Aq.trans (Aq.cut (b:=4) 0 rfl (A2e _)) ?_;have M:=Vj 4 288 0 b;simp[grG] at M;push_cast[M];apply Zr [(4,288)] rfl<;>push_cast [C]
def q_Back(b:GT)(q:OQ)(C:q.chg=none->q.us=[])(m:Nat)(hm:m<=q.us.length)(hn:q.us.length<=1073741824):A4 prog 163 [.ref 1 0 0 3,iD m] (oqH b q) (iD 0) (oqH b (q.back m)):=by
 obtain⟨c,us⟩:=q;cases c with
 |none=>
  have M:us=[]:=C rfl;subst M;obtain rfl:m=0:=Nat.le_zero.1 hm;exact c_BackN b
 |some x=>
  obtain⟨es,ck⟩:=x;exact c_Back b (es,ck) us m hm hn
def YL(b:GT):A4 prog 68 [.agg [Ah b]] [] (.ref 0 0 0 3) [(0,.rows [[Ah b,.val (.map none),.gref 4 0]] 3),(2,.junk),(4,.grow [] 1)]:=by
 refine Zd [] ?_
 (push_cast<;>repeat' apply Za)
 have hs:Aq ⟨[(0,.ref 40 0 0 3)],[(40,.rows [[Ah b,.val (.map none),.slice [] true]] 3),(8,.rows [[Ah b]] 1)],28⟩ ⟨[(0,.ref 40 0 0 3)],[(40,.rows [[Ah b,.val (.map none),.slice [] true]] 3)],28⟩:=by
  have C:=A6 b;apply Zw<;>push_cast [C]
 refine Aq.trans hs (Aq.trans (Aq.nilgrow3 (sz:=1)) ?_);apply Zr [(0,40),(4,56),(2,1000)] rfl<;>push_cast
def UOk(u:BL):Prop:=Sm u.old.2/\(u.old.1=false->u.old.2=zV)/\u.k.size<=64
theorem WV{p:List CE×Nat}(h:DP p.1 p.2){u:BL}(C:UOk u):DP (rw1 p u).1 (rw1 p u).2:=by
 unfold rw1;split
 ·exact h.set C
 ·exact h.del u.k
def Xu{p:List CE×Nat}(h:DP p.1 p.2)(u:BL)(k:Baa):lk (rw1 p u).1 k=if u.k=k then(if u.was then some u.old else none) else lk p.1 k:=by
 unfold rw1;cases u.was with
 |true=>simp;exact SQ h u.k u.old k
 |false=>simp;exact lk_cdel h u.k k
def rwd_snoc(p:List CE×Nat)(us:List BL)(u:BL):rwd p (us++[u])=rwd (rw1 p u) us:=by
 simp[rwd]
theorem rwd_app(p:List CE×Nat)(a b:List BL):rwd p (a++b)=rwd (rwd p b) a:=by
 simp[rwd]
theorem WU{us:List BL}(C:∀u ∈ us,UOk u):∀ {p:List CE×Nat},DP p.1 p.2->DP (rwd p us).1 (rwd p us).2:=by
 have:∀(l:List BL),(∀u ∈ l,UOk u)->∀ {p:List CE×Nat},DP p.1 p.2->DP (l.foldl rw1 p).1 (l.foldl rw1 p).2:=by
  intro l
  induction l with
  |nil=>simp_all
  |cons u l N=>grind [WV]
 exact λ{p} h=>this us.reverse (λu M=>C u (List.mem_reverse.1 M)) h
theorem rwd_lk{us:List BL}(M:∀u ∈ us,UOk u):∀ {p C:List CE×Nat},DP p.1 p.2->DP C.1 C.2->(∀k,lk p.1 k=lk C.1 k)->∀k,lk (rwd p us).1 k=lk (rwd C us).1 k:=by
 have:∀(l:List BL),(∀u ∈ l,UOk u)->∀ {p C:List CE×Nat},DP p.1 p.2->DP C.1 C.2->(∀k,lk p.1 k=lk C.1 k)->∀k,lk (l.foldl rw1 p).1 k=lk (l.foldl rw1 C).1 k:=by
  intro l
  induction l with
  |nil=>simp_all
  |cons u l U=>
   intro hl p C h N O k;have M:=hl u (A36 ..);exact U (by simp_all) (WV h M) (WV N M) (λk=>by rw[Xu h,Xu N,O k]) k
 exact λ{p C} h N O k=>this us.reverse (λu V=>M u (List.mem_reverse.1 V)) h N O k
structure KV(q q':OQ):Prop where
 ex:∃ext,q'.us=q.us++ext/\(∀u ∈ ext,UOk u)/\∀k,lk (rwd (q'.es,q'.ck) ext).1 k=lk q.es k
theorem KV.refl(q:OQ):KV q q:=⟨[],Sq',Sq',λk=>rfl⟩
def KV.trans{q C M:OQ}(U:DP C.es C.ck)(V:DP M.es M.ck)(a:KV q C)(b:KV C M):KV q M:=by
 obtain⟨N,Y,Z,a3⟩:=a;obtain⟨O,b1,b2,b3⟩:=b;refine⟨N++O,by simp_all,(by grind),λk=>?_⟩;grind [rwd_app,rwd_lk,WU]
def Tj(k:Baa)(es:List CE):(C5 k es 0).isSome=(lk es k).isSome/\((C5 k es 0).map (·.2))=lk es k:=by
 grind [Ha,C5]
def OQ.step_es(q:OQ)(k:Baa)(s:Ct):(q.step k s).es=(KO q.es q.ck k s).1:=rfl
def OQ.step_us(q:OQ)(k:Baa)(s:Ct):(q.step k s).us=q.us++[⟨k,(C5 k q.es 0).isSome,((C5 k q.es 0).map (·.2)).getD (false,zV)⟩]:=rfl
def KV.step{q:OQ}(h:DP q.es q.ck){k:Baa}{s:Ct}(hs:Sm s.2/\(s.1=false->s.2=zV)/\k.size<=64):KV q (q.step k s):=by
 obtain⟨c1,c2⟩:=Tj k q.es;refine⟨[⟨k,(lk q.es k).isSome,(lk q.es k).getD (false,zV)⟩],by rw[OQ.step_us,c1,c2],λu M=>?_,λC=>?_⟩
 ·rw[A2b.1 M];cases hl:lk q.es k with
  |none=>exact ⟨Sm_zV,λ_=>rfl,hs.2.2⟩
  |some old=>
   obtain⟨n,hm⟩:=Xv hl;have:=h.sm _ hm;exact⟨this.1,this.2.1,hs.2.2⟩
 ·have hc:DP (q.step k s).es (q.step k s).ck:=h.set hs;show lk (rw1 ((q.step k s).es,(q.step k s).ck) ⟨k,(lk q.es k).isSome,(lk q.es k).getD (false,zV)⟩).1 C=_;rw[Xu (p:=((q.step k s).es,(q.step k s).ck)) hc];simp[OQ.step_es];rw[SQ h];by_cases N:k=C
  ·subst N;cases lk q.es k<;>simp
  simp_all
def OQ.back_ok{b:GT}{q C:OQ}{l:Lga}(M:Fe b q l)(O:Fe b C l)(e:KV q C):Fe b (C.back q.us.length) l/\(C.back q.us.length).view l=q.view l/\KV q (C.back q.us.length)/\q.us.length<=C.us.length:=by
 obtain⟨ext,e1,Y,N⟩:=e;have U:q.us.length<=C.us.length:=by simp_all
 obtain⟨c,us⟩:=C;have Z:us.drop q.us.length=ext:=by simp_all
 have ht:us.take q.us.length=q.us:=by simp_all
 cases c with
 |none=>
  have hu:us=[]:=O.us rfl;have hx:ext=[]:=by simp_all
  subst hx;simp[OQ.back,ht,Option.map_none];refine⟨(by grind),MK M.tr.srt O.ch.keys M.ch.keys (λk=>N k),⟨[],by grind,Sq',λk=>N k⟩,U⟩
 |some x=>
  obtain⟨es,ck⟩:=x;have V:DP (rwd (es,ck) ext).1 (rwd (es,ck) ext).2:=WU Y O.ch;simp[OQ.back,Z,ht,A3g];refine⟨⟨M.tr,V,λe=>by cases e⟩,MK M.tr.srt V.keys M.ch.keys N,⟨[],by simp_all,Sq',λk=>N k⟩,U⟩
end Go.Ab
namespace Go.Proofs
open Go.Proofs Go.Proofs.Tryz Go.RowKit Go.Shelf
def Tryz.sValid_ren:Go.Shelf.Ren:=⟨fun|196=>209|259=>285|n=>n,fun|9=>9|4=>4|3=>3|5=>5|12=>12|119=>358|0=>0|46=>305|139=>361|138=>360|53=>22|n=>n,fun|3=>1|4=>2|n=>n⟩
def Tryz.sValid:Go.Proofs.Lays.n196 prog Tryz.sValid_ren:= {
 mixed:=Kq'
 f196:=func209.trans (congrArg some Kq')
 f259:=func285.trans (congrArg some Kq')
 t0:=underlying0
 a0:=isAgg0
 z0:=sizeOf0
 v0:=zeroValue0
 t3:=underlying3
 a3:=isAgg3
 z3:=sizeOf3
 v3:=zeroValue3
 t4:=underlying4
 a4:=isAgg4
 z4:=sizeOf4
 v4:=zeroValue4
 t5:=underlying5
 a5:=isAgg5
 z5:=sizeOf5
 v5:=zeroValue5
 t9:=underlying9
 a9:=isAgg9
 z9:=sizeOf9
 v9:=zeroValue9
 t12:=underlying12
 a12:=isAgg12
 z12:=sizeOf12
 v12:=zeroValue12
 t46:=underlying305
 a46:=isAgg305
 z46:=sizeOf305
 v46:=zeroValue305
 t53:=underlying22
 a53:=isAgg22
 z53:=sizeOf22
 v53:=zeroValue22
 t119:=underlying358
 a119:=isAgg358
 z119:=sizeOf358
 t138:=underlying360
 a138:=isAgg360
 z138:=sizeOf360
 v138:=zeroValue360
 t139:=underlying361
 a139:=isAgg361
 z139:=sizeOf361
 v139:=zeroValue361
 g3:=Kq'
 g4:=by kernel_rfl}
def Tryz.sDecode_ren:Go.Shelf.Ren:=⟨fun|197=>386|260=>401|n=>n,fun|9=>9|21=>21|3=>3|4=>4|5=>5|105=>447|119=>358|0=>0|46=>305|139=>361|138=>360|n=>n,fun|3=>1|4=>2|n=>n⟩
def Tryz.sDecode:Go.Proofs.Lays.n197 prog Tryz.sDecode_ren:= {
 mixed:=Kq'
 f197:=func386.trans (congrArg some Kq')
 f260:=func401.trans (congrArg some Kq')
 t0:=underlying0
 a0:=isAgg0
 z0:=sizeOf0
 v0:=zeroValue0
 t3:=underlying3
 a3:=isAgg3
 z3:=sizeOf3
 v3:=zeroValue3
 t4:=underlying4
 a4:=isAgg4
 z4:=sizeOf4
 v4:=zeroValue4
 t5:=underlying5
 a5:=isAgg5
 z5:=sizeOf5
 v5:=zeroValue5
 t9:=underlying9
 a9:=isAgg9
 z9:=sizeOf9
 v9:=zeroValue9
 t21:=underlying21
 a21:=isAgg21
 z21:=sizeOf21
 v21:=zeroValue21
 t46:=underlying305
 a46:=isAgg305
 z46:=sizeOf305
 v46:=zeroValue305
 t105:=underlying447
 a105:=isAgg447
 z105:=sizeOf447
 v105:=zeroValue447
 t119:=underlying358
 a119:=isAgg358
 z119:=sizeOf358
 t138:=underlying360
 a138:=isAgg360
 z138:=sizeOf360
 v138:=zeroValue360
 t139:=underlying361
 a139:=isAgg361
 z139:=sizeOf361
 v139:=zeroValue361
 g3:=Kq'
 g4:=by kernel_rfl}
def Tryz.sItoa_ren:Go.Shelf.Ren:=⟨fun|173=>185|246=>270|283=>342|284=>343|285=>344|286=>345|129=>310|317=>381|318=>382|319=>383|320=>384|337=>399|338=>400|n=>n,fun|2=>2|3=>3|9=>9|4=>4|171=>403|0=>0|53=>22|37=>49|5=>5|173=>405|212=>444|51=>265|20=>20|213=>445|46=>305|232=>480|233=>481|n=>n,fun|17=>4|18=>5|19=>6|n=>n⟩
def Tryz.sItoa:Go.Proofs.LaysM.n173 prog Tryz.sItoa_ren:= {
 mixed:=Kq'
 f129:=func310.trans (congrArg some Kq')
 f173:=func185.trans (congrArg some Kq')
 f246:=func270.trans (congrArg some Kq')
 f283:=func342.trans (congrArg some Kq')
 f284:=func343.trans (congrArg some Kq')
 f285:=func344.trans (congrArg some Kq')
 f286:=func345.trans (congrArg some Kq')
 f317:=func381.trans (congrArg some Kq')
 f318:=func382.trans (congrArg some Kq')
 f319:=func383.trans (congrArg some Kq')
 f320:=func384.trans (congrArg some Kq')
 f337:=func399.trans (congrArg some Kq')
 f338:=func400.trans (congrArg some Kq')
 t0:=underlying0
 a0:=isAgg0
 z0:=sizeOf0
 v0:=zeroValue0
 t2:=underlying2
 a2:=isAgg2
 z2:=sizeOf2
 v2:=zeroValue2
 t3:=underlying3
 a3:=isAgg3
 z3:=sizeOf3
 v3:=zeroValue3
 t4:=underlying4
 a4:=isAgg4
 z4:=sizeOf4
 v4:=zeroValue4
 t5:=underlying5
 a5:=isAgg5
 z5:=sizeOf5
 v5:=zeroValue5
 t9:=underlying9
 a9:=isAgg9
 z9:=sizeOf9
 v9:=zeroValue9
 t20:=underlying20
 a20:=isAgg20
 z20:=sizeOf20
 v20:=zeroValue20
 t37:=underlying49
 a37:=isAgg49
 z37:=sizeOf49
 v37:=zeroValue49
 t46:=underlying305
 a46:=isAgg305
 z46:=sizeOf305
 v46:=zeroValue305
 t51:=underlying265
 a51:=isAgg265
 z51:=sizeOf265
 v51:=zeroValue265
 t53:=underlying22
 a53:=isAgg22
 z53:=sizeOf22
 v53:=zeroValue22
 t171:=underlying403
 a171:=isAgg403
 z171:=sizeOf403
 v171:=zeroValue403
 t173:=underlying405
 a173:=isAgg405
 z173:=sizeOf405
 v173:=zeroValue405
 t212:=underlying444
 a212:=isAgg444
 z212:=sizeOf444
 v212:=zeroValue444
 t213:=underlying445
 a213:=isAgg445
 z213:=sizeOf445
 t232:=underlying480
 a232:=isAgg480
 z232:=sizeOf480
 v232:=zeroValue480
 t233:=underlying481
 a233:=isAgg481
 z233:=sizeOf481
 v233:=zeroValue481
 g17:=Kq'
 g18:=Kq'
 g19:=Kq'
 i0:=Kq'
 i2:=Kq'
 i3:=Kq'
 i4:=Kq'
 i5:=Kq'
 i9:=Kq'
 i20:=Kq'
 i37:=Kq'
 i46:=Kq'
 i51:=Kq'
 i53:=Kq'
 i171:=Kq'
 i173:=Kq'
 i212:=Kq'
 i232:=Kq'
 i233:=Kq'
 m17:=Kq'
 m18:=Kq'
 m19:=by kernel_rfl}
def Tryz.sCut_ren:Go.Shelf.Ren:=⟨fun|103=>298|210=>364|206=>365|n=>n,fun|9=>9|4=>4|24=>376|3=>3|n=>n,fun|n=>n⟩
def Tryz.sCut:Go.Proofs.Lays.n103 prog Tryz.sCut_ren:= {
 mixed:=Kq'
 f103:=func298.trans (congrArg some Kq')
 f206:=func365.trans (congrArg some Kq')
 f210:=func364.trans (congrArg some Kq')
 t3:=underlying3
 a3:=isAgg3
 z3:=sizeOf3
 v3:=zeroValue3
 t4:=underlying4
 a4:=isAgg4
 z4:=sizeOf4
 v4:=zeroValue4
 t9:=underlying9
 a9:=isAgg9
 z9:=sizeOf9
 v9:=zeroValue9
 t24:=underlying376
 a24:=isAgg376
 z24:=sizeOf376
 v24:=zeroValue376}
def Tryz.sBool_ren:Go.Shelf.Ren:=⟨fun|121=>183|214=>269|n=>n,fun|4=>4|9=>9|n=>n,fun|n=>n⟩
def Tryz.sBool:Go.Proofs.Lays.n121 prog Tryz.sBool_ren:= {
 mixed:=Kq'
 f121:=func183.trans (congrArg some Kq')
 f214:=func269.trans (congrArg some Kq')
 t4:=underlying4
 a4:=isAgg4
 z4:=sizeOf4
 v4:=zeroValue4
 t9:=underlying9
 a9:=isAgg9
 z9:=sizeOf9
 v9:=zeroValue9}
def Tryz.sHas_ren:Go.Shelf.Ren:=⟨fun|99=>299|206=>365|n=>n,fun|9=>9|4=>4|3=>3|n=>n,fun|n=>n⟩
def Tryz.sHas:Go.Proofs.Lays.n99 prog Tryz.sHas_ren:= {
 mixed:=Kq'
 f99:=func299.trans (congrArg some Kq')
 f206:=func365.trans (congrArg some Kq')
 t3:=underlying3
 a3:=isAgg3
 z3:=sizeOf3
 v3:=zeroValue3
 t4:=underlying4
 a4:=isAgg4
 z4:=sizeOf4
 v4:=zeroValue4
 t9:=underlying9
 a9:=isAgg9
 z9:=sizeOf9
 v9:=zeroValue9}
end Go.Proofs
namespace Go.Ab
open Go.Proofs Go.Proofs.Tryz Go.RowKit Go.Shelf
variable{l:Lga}{c:Nat}{C:List Nat}
def T4{l:List Value}{T:TypeId}{fz:Nat×Nat}{w:World}{g i:Nat}{v:Value}(h:w.heap[g]? =some (.cells l.toArray T fz))(hi:l[i]? =some v):w.cell? ⟨g,i,none⟩=some v:=by
 simp[World.cell?,h,hi]
def at_of{α:Type}{f g:Nat->α}{n:Nat}(h:(List.range n).map f=(List.range n).map g){i:Nat}(hi:i<n):f i=g i:=by
 have:=congrArg (λl=>l[i]?) h;simpa[A2X,List.getElem?_range hi] using this
def first_ok(h:c<256):JN[c]? =some (.int .u8 (Lib.firstT c)):=at_of (f:=λc=>JN[c]?) (g:=λc=>some (.int .u8 (Lib.firstT c))) (n:=256) Kq' h
def lo_ok(h:c<16):EB[2*c]? =some (.int .u8 (Lib.accLo c)):=at_of (f:=λc=>EB[2*c]?) (g:=λc=>some (.int .u8 (Lib.accLo c))) (n:=16) Kq' h
def hi_ok(h:c<16):EB[2*c+1]? =some (.int .u8 (Lib.accHi c)):=at_of (f:=λc=>EB[2*c+1]?) (g:=λc=>some (.int .u8 (Lib.accHi c))) (n:=16) Kq' h
def Gd{P:Program}{C M:Nat}{w:World}{I:Nat->Prop}(O:No P C=some JN)(U:No P M=some EB)(h:GIn P w I):Lib.Utf8Tabs C M w:=by
 obtain⟨_,T,fz,V⟩:=h C _ O;obtain⟨_,Y,Z,N⟩:=h M _ U;exact⟨λc hc=>T4 V (first_ok hc),λi hi=>⟨T4 N (lo_ok hi),T4 N (hi_ok hi)⟩⟩
def pow10_ok:Su=Lib.pow10Tab.map λz=>Value.int .u64 z:=Kq'
def tabIs_of{P:Program}{g:Nat}{w:World}{I:Nat->Prop}(C:P.globalNamed "internal/strconv.uint64pow10"=some g)(M:No P g=some Su)(h:GIn P w I):Lib.TabIs P w "internal/strconv.uint64pow10" .u64 Lib.pow10Tab:=by
 obtain⟨_,T,fz,N⟩:=h g _ M;unfold Lib.TabIs World.var?;rw[C,Option.bind_some,N,pow10_ok]
def AK(s:Baa):Bool:=Lib.validD s.data.toList
def QA(s:Baa):A0 prog 209 [sD s] (bD (AK s)):=
 A0.of_vals (us:=[.string s]) Kq' rfl λw I C M=>⟨.bool (AK s),λ_=>Hs trivial,Any.utf8_ValidString Tryz.sValid s w (M _ (A2b.2 rfl)) (Gd Kq' Kq' C)⟩
def XB(n:Int)(h0: -9223372036854775808<=n)(h1:n<=9223372036854775807):(Lib.itoa n).length<=9223372036854775807:=A2N (Lib.itoa_length_le n h0 h1) Dq'
def Nh(n:Int)(h0: -9223372036854775808<=n)(h1:n<=9223372036854775807):A0 prog 185 [iD n,iD 10] (.val (.string ⟨(Lib.itoa n).toArray⟩)):=
 A0.of_vals (us:=[.int .i64 n,.int .i64 10]) Kq' rfl λw I C O=>⟨.string ⟨(Lib.itoa n).toArray⟩,λ_=>Hs (XB n h0 h1),by
  obtain⟨g,hg1,hg2⟩:∃g,prog.globalNamed "internal/strconv.uint64pow10"=some g/\No prog g=some Su:=⟨(prog.globalNamed "internal/strconv.uint64pow10").getD 0,Kq',Kq'⟩
  refine(Any.strconv_FormatInt_10 Tryz.sItoa n h0 h1 w (tabIs_of hg1 hg2 C)).mono λe w' ⟨M,k,os,N⟩=>⟨M,?_⟩
  subst N;exact Lib.below_grow _ w (A2e _) k os⟩
def Tt(b:Bool):A0 prog 183 [bD b] (.val (.string ⟨(Lib.formatBool b).toArray⟩)):=
 A0.of_vals (us:=[.bool b]) Kq' rfl λw I N O=>⟨.string ⟨(Lib.formatBool b).toArray⟩,λ_=>Hs (Pg (by cases b<;>rfl)),by
  refine(Any.strconv_FormatBool Tryz.sBool b w).mono λe w' ⟨C,M⟩=>⟨C,?_⟩
  subst M;exact Below.refl _ _⟩
def Ng(s p:Baa):A0 prog 299 [sD s,sD p] (bD (Lib.hasPrefix s.data.toList p.data.toList)):=
 A0.of_vals (us:=[.string s,.string p]) Kq' rfl λw I N O=>⟨.bool (Lib.hasPrefix s.data.toList p.data.toList),λ_=>Hs trivial,by
  refine(Any.strings_HasPrefix Tryz.sHas s p w).mono λe w' ⟨C,M⟩=>⟨C,?_⟩
  subst M;exact Below.refl _ _⟩
def Wk(s p:Baa):A0 prog 298 [sD s,sD p] (.tup [.val (.string ⟨(Lib.trimPrefix s.data.toList p.data.toList).toArray⟩),bD (Lib.hasPrefix s.data.toList p.data.toList)]):=
 A0.of_vals (us:=[.string s,.string p]) Kq' rfl λw I O C=>⟨.tuple #[.string ⟨(Lib.trimPrefix s.data.toList p.data.toList).toArray⟩,.bool (Lib.hasPrefix s.data.toList p.data.toList)],λ_=>L5 (by
  have h:=C (.string s) Sq';simp only[okP] at h|-;show(Lib.trimPrefix s.data.toList p.data.toList).toArray.size<=_;have:(Lib.trimPrefix s.data.toList p.data.toList).length<=s.data.toList.length:=by
   unfold Lib.trimPrefix;split
   ·rw[A2t];omega
   ·exact A2e _
  have U:s.data.toList.length=s.size:=A3G;rw[A2A];omega) trivial,by
  refine(Any.strings_CutPrefix Tryz.sCut s p w).mono λe w' ⟨M,N⟩=>⟨M,?_⟩
  subst N;exact Below.refl _ _⟩
def HN(s:Baa):A0 prog 139 [sD s] (bD (AK s)):=by
 have h:=QA s;refine Zf [] ?_
 (have z:=trivial;push_cast<;>repeat' (first|refine Zc h ?_|apply Za)<;>push_cast)
noncomputable def Ce(k:Baa):Int:=FV (AK k) k
def My(k:Baa):A0 prog 49 [sD k] (iD (Ce k)):=A1F k _ (HN k)
def EO{k:Baa}(h:Ce k=0):k.size<=64:=by
 unfold Ce FV at h;split at h
 ·cases h
 ·split at h
  ·cases h
  ·omega
section
variable(b:GT)(q:OQ)(k:Baa)(v:GV)
def q_PutK(M:Ce k≠0):A4 prog 164 [.ref 1 0 0 3,sD k,.agg (A7 v)] (oqH b q) (iD 8) (oqH b q):=by
 have N:=My k;have b1:(Ce k !=0)=true:=by simpa using M
 have C:=A6 b;simp only[oqH];refine Zd [] ?_
 (have z:=Za b1 C;push_cast[z]<;>repeat' (first|refine Zc N ?_|apply Za)<;>push_cast[z])
 apply Zw<;>push_cast [C]
def q_PutF(f:Int)(hF:A0 prog 50 [.agg (A7 v)] (iD f))(N:Ce k=0)(hf:f≠0):A4 prog 164 [.ref 1 0 0 3,sD k,.agg (A7 v)] (oqH b q) (iD f) (oqH b q):=by
 have C:=My k;rw[N] at C;have b1:(f !=0)=true:=by simpa using hf
 have M:=A6 b;simp only[oqH];refine Zd [] ?_
 (have z:=Za b1 M;push_cast[z]<;>repeat' (first|refine Zc C ?_|refine Zc hF ?_|apply Za)<;>push_cast[z])
 apply Zw<;>push_cast [M]
def q_Put(hF:A0 prog 50 [.agg (A7 v)] (iD 0))(O:Ce k=0)(hs:Sm v)(hn:q.us.length<1073741824):A4 prog 164 [.ref 1 0 0 3,sD k,.agg (A7 v)] (oqH b q) (iD 0) (oqH b (q.step k (true,v))):=by
 have M:=My k;rw[O] at M;have U:=JJ v hs;have C:=q_step b q k (true,v) hn;rw[D3] at C;have N:=A6 b;simp only[oqH] at C|-;generalize q.step k (true,v)=V at*;refine Zd [] ?_
 (have z:=N;push_cast[z]<;>repeat' (first|refine Zc M ?_|refine Zc hF ?_|refine Zc U ?_|refine Zs [(1,1),(2,2),(4,4)] C ?_|apply Za)<;>push_cast[z])
 apply Zr [(2,146),(4,148)] rfl<;>push_cast [N]
end
noncomputable def BM(f:Int)(k:Baa):Int:=if Ce k=0 then f else 8
structure Led(b:GT)(l:List GE)(q q':OQ)(n:Nat)(L:List GE):Prop where
 ok:Fe b q' l
 view:q'.view l=L
 ext:KV q q'
 len:q'.us.length<=q.us.length+n
theorem Led.refl{b:GT}{l:Lga}{q:OQ}(h:Fe b q l)(n:Nat):Led b l q q n (q.view l):=⟨h,rfl,.refl q,Om⟩
def Led.trans{b:GT}{l:Lga}{q C M:OQ}{n m:Nat}{L L':Lga}(a:Led b l q C n L)(c:Led b l C M m L'):Led b l q M (n+m) L':=
 ⟨c.ok,c.view,a.ext.trans a.ok.ch c.ok.ch c.ext,by have:=a.len;have:=c.len;omega⟩
def Led.mono{b:GT}{q C:OQ}{n m:Nat}{L:Lga}(a:Led b l q C n L)(h:n<=m):Led b l q C m L:=⟨a.ok,a.view,a.ext,by have:=a.len;omega⟩
def Led.step{b:GT}{q:OQ}{l:Lga}(h:Fe b q l){k:Baa}{s:Ct}(hs:Sm s.2/\(s.1=false->s.2=zV)/\k.size<=64):Led b l q (q.step k s) 1 (if s.1 then B4 (k,s.2) (q.view l) else BX k (q.view l)):=
 ⟨(h.step hs).1,(h.step hs).2,KV.step h.ch hs,by rw[OQ.step_us,A2a];exact A2e _⟩
def P9{b:GT}{q:OQ}(h:Fe b q l)(k:Baa)(v:GV)(f:Int)(hF:A0 prog 50 [.agg (A7 v)] (iD f))(hs:Sm v)(hn:q.us.length<1073741824):
  ∃M,A4 prog 164 [.ref 1 0 0 3,sD k,.agg (A7 v)] (oqH b q) (iD (BM f k)) (oqH b M)/\Led b l q M 1 (if BM f k=0 then B4 (k,v) (q.view l) else q.view l):=by
 unfold BM;by_cases C:Ce k=0
 ·simp only[if_pos C];by_cases hf:f=0
  ·subst hf;exact⟨_,q_Put b q k v hF C hs hn,Led.step h (s:=(true,v)) ⟨hs,(λe=>by cases e),EO C⟩⟩
  ·exact⟨q,q_PutF b q k v f hF C hf,by rw[if_neg hf];exact .refl h 1⟩
 ·simp only[if_neg C];exact⟨q,q_PutK b q k v C,by rw[if_neg Dq'];exact .refl h 1⟩
def Xe{b:GT}{q:OQ}(h:Fe b q l)(hb:l.length<=1099511627776)(k:Baa)(M:k.size<=64)(hn:q.us.length<1073741824):
  ∃C,A4 prog 165 [.ref 1 0 0 3,sD k] (oqH b q) (bD (D9 k (q.view l))) (oqH b C)/\Led b l q C 1 (BX k (q.view l)):=by
 cases hh:D9 k (q.view l) with
 |true=>exact ⟨_,q_Del1 h hb k hh hn,Led.step h (s:=(false,zV)) ⟨Sm_zV,λ_=>rfl,M⟩⟩
 |false=>exact ⟨q,q_Del0 h hb k hh,by rw[LZ hh];exact .refl h 1⟩
noncomputable def F1(m:GM)(L:Lga):Bool:=((Am m.key L).isSome==m.had)&&(!(Am m.key L).isSome ||(J2 (AR (Am m.key L)) m.was==0))
section
variable{b:GT}{q:OQ}{l:Lga}(h:Fe b q l)(hb:l.length<=1099511627776)
include h hb
theorem q_said(m:GM):A4 prog 170 [.ref 1 0 0 3,.agg (Ai m)] (oqH b q) (bD (F1 m (q.view l))) (oqH b q):=by
 have C:=YK h hb m.key;have M:=JH (AR (Am m.key (q.view l))) m.was;have N:=A6 b;unfold F1;generalize AR (Am m.key (q.view l))=v at*;generalize(Am m.key (q.view l)).isSome=x at*;generalize hc:(J2 v m.was==0)=c at*;rw[Ay,A3 m.was,A3 m.value];rw[A3 m.was] at M;simp only[oqH] at C|-;simp only[A2d,A2h,A2c];have O:(true==false)=false:=rfl;have U:(false==true)=false:=rfl;cases hh:m.had<;>cases x<;>simp only[O,U,Bool.not_true,Bool.not_false,Bool.true_or,A42,Bool.true_and,Bool.false_and,A3M,Bool.and_false,beq_self_eq_true];all_goals
  refine Zd [] ?_
  (have z:=Za N<|Za O U;push_cast[z]<;>repeat' (first|refine Zs [(1,1),(2,2),(4,4)] C ?_|refine Zc M ?_|apply Za)<;>push_cast[z])
  all_goals(apply Zr [(2,50),(4,52)] rfl<;>push_cast [N])
omit h hb in
theorem QB(n:Int): -9223372036854775808<=IntKind.i64.wrap n/\IntKind.i64.wrap n<=9223372036854775807:=Gc .i64 n
def ovf(n d:Int):Bool:=(decide (0<d)&&decide (IntKind.i64.wrap (n+d)<n)) ||(decide (d<0)&&decide (n<IntKind.i64.wrap (n+d)))
noncomputable def Gv(L:Lga)(k:Baa)(d f:Int):Int:=
 if(Am k L).isSome=true/\(AR (Am k L)).kind≠3 then 9 else if ovf (AR (Am k L)).n d=true then 7 else BM f k
def Es(L:Lga)(k:Baa)(d:Int):GV:=.mk 3 false (IntKind.i64.wrap ((AR (Am k L)).n+d)) bea [] []
theorem q_inc(k:Baa)(d f:Int)(hF:A0 prog 50 [.agg (A7 (Es (q.view l) k d))] (iD f))(hn:q.us.length<1073741824):
  ∃q',A4 prog 166 [.ref 1 0 0 3,sD k,iD d] (oqH b q) (iD (Gv (q.view l) k d f)) (oqH b q')/\Led b l q q' 1 (if Gv (q.view l) k d f=0 then B4 (k,Es (q.view l) k d) (q.view l) else q.view l):=by
 have C:=YK h hb k;have V:=A6 b;have a1:Sm (Es (q.view l) k d):=.mk _ _ _ _ [] [] Sq' Sq' Sq' Sq' (QB _) Dq' Sq';obtain⟨q',hP,hL⟩:=P9 h k (Es (q.view l) k d) f hF a1 hn;unfold Gv;rw[A3] at C;have a0:=hP.args (ds':=[.ref 1 0 0 3,sD k,.agg [iD 3,bD false,.val (.int .i64 (Es (q.view l) k d).n),sD bea,.slice [] true,.slice [] true]]) (by
  rw[A3];exact⟨Av _,Av _,⟨Av _,Av _,Av _,Av _,⟨trivial,λe=>by cases e⟩,⟨trivial,λe=>by cases e⟩,trivial⟩,trivial⟩)
 by_cases Z:(Am k (q.view l)).isSome=true/\(AR (Am k (q.view l))).kind≠3
 ·simp only[if_pos Z];refine⟨q,?_,by rw[if_neg Dq'];exact .refl h 1⟩;obtain⟨N,Z⟩:=Z;rw[N] at C;have b1:((AR (Am k (q.view l))).kind !=3)=true:=by simpa using Z
  generalize AR (Am k (q.view l))=v at*;simp only[oqH] at C|-;refine Zd [] ?_
  (have z:=Za V b1;push_cast[z]<;>repeat' (first|refine Zs [(1,1),(2,2),(4,4)] C ?_|apply Za)<;>push_cast[z])
  all_goals(apply Zr [(2,34),(4,36)] rfl<;>push_cast [V])
 ·simp only[if_neg Z];have b1:(Am k (q.view l)).isSome=true->((AR (Am k (q.view l))).kind !=3)=false:=λN=>by
   simp only[bne_eq_false_iff_eq];exact Classical.byContradiction λM=>Z ⟨N,M⟩
  by_cases Y:ovf (AR (Am k (q.view l))).n d=true
  ·simp only[if_pos Y];refine⟨q,?_,by rw[if_neg Dq'];exact .refl h 1⟩;generalize AR (Am k (q.view l))=v at*;unfold ovf at Y;simp only[oqH] at C|-;cases N:(Am k (q.view l)).isSome with
   |false=>
    rw[N] at C;cases h1:decide (0<d)<;>cases M:decide (IntKind.i64.wrap (v.n+d)<v.n)<;>cases O:decide (d<0)<;>cases U:decide (v.n<IntKind.i64.wrap (v.n+d))<;>simp only[h1,M,O,U,A3M,Bool.and_false,A43,Bool.or_true,A2G] at Y;all_goals
     refine Zd [] ?_
     (have z:=Za V<|Za h1<|Za M<|Za O U;push_cast[z]<;>repeat' (first|refine Zs [(1,1),(2,2),(4,4)] C ?_|apply Za)<;>push_cast[z])
     all_goals(apply Zr [(2,34),(4,36)] rfl<;>push_cast [V])
   |true=>
    rw[N] at C;have b2:=b1 N;cases h1:decide (0<d)<;>cases M:decide (IntKind.i64.wrap (v.n+d)<v.n)<;>cases O:decide (d<0)<;>cases U:decide (v.n<IntKind.i64.wrap (v.n+d))<;>simp only[h1,M,O,U,A3M,Bool.and_false,A43,Bool.or_true,A2G] at Y;all_goals
     refine Zd [] ?_
     (have z:=Za V<|Za h1<|Za M<|Za O<|Za U b2;push_cast[z]<;>repeat' (first|refine Zs [(1,1),(2,2),(4,4)] C ?_|apply Za)<;>push_cast[z])
     all_goals(apply Zr [(2,34),(4,36)] rfl<;>push_cast [V])
  ·simp only[if_neg Y];refine⟨q',?_,hL⟩;have a2:(Es (q.view l) k d).n=IntKind.i64.wrap ((AR (Am k (q.view l))).n+d):=rfl;rw[a2] at a0;generalize BM f k=c at*;generalize AR (Am k (q.view l))=v at*;unfold ovf at Y;simp only[oqH] at C a0|-;cases N:(Am k (q.view l)).isSome with
   |false=>
    rw[N] at C;cases h1:decide (0<d)<;>cases M:decide (IntKind.i64.wrap (v.n+d)<v.n)<;>cases O:decide (d<0)<;>cases U:decide (v.n<IntKind.i64.wrap (v.n+d))<;>simp only[h1,M,O,U,A3M,Bool.and_false,A43,Bool.or_true,A2G,not_true_eq_false,not_false_eq_true] at Y;all_goals
     refine Zd [] ?_
     (have z:=Za V<|Za h1<|Za M<|Za O U;push_cast[z]<;>repeat' (first|refine Zs [(1,1),(2,2),(4,4)] C ?_|refine Zs [(1,1),(2,34),(4,36)] (a0 ..) ?_|apply Za)<;>push_cast[z])
     all_goals(apply Zr [(2,354),(4,356)] rfl<;>push_cast [V])
   |true=>
    rw[N] at C;have b2:=b1 N;cases h1:decide (0<d)<;>cases M:decide (IntKind.i64.wrap (v.n+d)<v.n)<;>cases O:decide (d<0)<;>cases U:decide (v.n<IntKind.i64.wrap (v.n+d))<;>simp only[h1,M,O,U,A3M,Bool.and_false,A43,Bool.or_true,A2G,not_true_eq_false,not_false_eq_true] at Y;all_goals
     refine Zd [] ?_
     (have z:=Za V<|Za h1<|Za M<|Za O<|Za U b2;push_cast[z]<;>repeat' (first|refine Zs [(1,1),(2,2),(4,4)] C ?_|refine Zs [(1,1),(2,34),(4,36)] (a0 ..) ?_|apply Za)<;>push_cast[z])
     all_goals(apply Zr [(2,354),(4,356)] rfl<;>push_cast [V])
end
section
variable{b:GT}{q:OQ}{l:Lga}(h:Fe b q l)(hb:l.length<=1099511627776)
include h hb
noncomputable def HT(L:Lga)(k:Baa)(f:Int):Int:=
 if(Am k L).isSome=true/\(AR (Am k L)).kind≠5 then 9 else if 256<=(AR (Am k L)).list.length then 6 else BM f k
def DC(L:Lga)(k:Baa)(v:GV):GV:=.mk 5 false 0 bea ((AR (Am k L)).list++[v]) []
theorem q_behind(k:Baa)(x:GV)(f:Int)(Z:Sm x)(hv:Sm (AR (Am k (q.view l))))(hF:A0 prog 50 [.agg (A7 (DC (q.view l) k x))] (iD f))(hn:q.us.length<1073741824):
  ∃O,A4 prog 168 [.ref 1 0 0 3,sD k,.agg (A7 x)] (oqH b q) (iD (HT (q.view l) k f)) (oqH b O)/\Led b l q O 1 (if HT (q.view l) k f=0 then B4 (k,DC (q.view l) k x) (q.view l) else q.view l):=by
 have C:=q_GetT h hb k;have M:=A6 b;unfold HT;rw[Di] at C;by_cases U:(Am k (q.view l)).isSome=true/\(AR (Am k (q.view l))).kind≠5
 ·simp only[if_pos U];refine⟨q,?_,by rw[if_neg Dq'];exact .refl h 1⟩;obtain⟨hi,U⟩:=U;rw[hi] at C;have b1:((AR (Am k (q.view l))).kind !=5)=true:=by simpa using U
  generalize AR (Am k (q.view l))=v at*;simp only[oqH] at C|-;refine Zd [] ?_
  (have z:=Za M b1;push_cast[z]<;>repeat' (first|refine Zs [(1,1),(2,2),(4,4)] C ?_|apply Za)<;>push_cast[z])
  all_goals(apply Zr [(2,42),(4,44)] rfl<;>push_cast [M])
 ·simp only[if_neg U];have b1:(Am k (q.view l)).isSome=true->((AR (Am k (q.view l))).kind !=5)=false:=λZ=>by
   simp only[bne_eq_false_iff_eq];exact Classical.byContradiction λh2=>U ⟨Z,h2⟩
  by_cases ho:256<=(AR (Am k (q.view l))).list.length
  ·simp only[if_pos ho];refine⟨q,?_,by rw[if_neg Dq'];exact .refl h 1⟩;have V:decide ((256:Int)<=(AR (Am k (q.view l))).list.length)=true:=Dt';generalize AR (Am k (q.view l))=v at*;simp only[oqH] at C|-;cases hi:(Am k (q.view l)).isSome with
   |false=>
    rw[hi] at C;refine Zd [] ?_
    (have z:=Za M V;push_cast[z]<;>repeat' (first|refine Zs [(1,1),(2,2),(4,4)] C ?_|apply Za)<;>push_cast[z])
    all_goals(apply Zr [(2,42),(4,44)] rfl<;>push_cast [M])
   |true=>
    rw[hi] at C;have b2:=b1 hi;refine Zd [] ?_
    (have z:=Za M<|Za b2 V;push_cast[z]<;>repeat' (first|refine Zs [(1,1),(2,2),(4,4)] C ?_|apply Za)<;>push_cast[z])
    all_goals(apply Zr [(2,42),(4,44)] rfl<;>push_cast [M])
  ·simp only[if_neg ho];have V:decide ((256:Int)<=(AR (Am k (q.view l))).list.length)=false:=Df';have a1:Sm (DC (q.view l) k x):=.mk _ _ _ _ _ [] So' Sq' (λy N=>by
    rcases A2Y.1 N with N|N
    ·exact hv.list y N
    ·rw[A2b.1 N];exact Z) Sq' Dq' Dq' Sq'
   obtain⟨O,hP,hL⟩:=P9 h k (DC (q.view l) k x) f hF a1 hn;refine⟨O,?_,hL⟩;have Y:=hP;rw[A3] at Y;have e1:(DC (q.view l) k x).list.map A7=(AR (Am k (q.view l))).list.map A7++[A7 x]:=by simp[DC,GV.list]
   have e2:(DC (q.view l) k x).obj.map A8=[]:=by simp[DC,GV.obj]
   rw[e1,e2] at Y;simp only[DC,GV.kind,GV.b,GV.n,GV.s] at Y;generalize BM f k=c at*;generalize a2:AR (Am k (q.view l))=v at*;simp only[oqH] at C Y|-;have oL:Aa (v.list.map A7++[A7 x])=true:=by
    rw[show v.list.map A7++[A7 x]=(v.list++[x]).map A7 by simp];exact Aw Bn _
   have a0:A4 prog 164 [.ref 1 0 0 3,sD k,.agg [iD 5,bD false,iD 0,sD bea,.gref 3 (v.list.length+1),.slice [] true]]
     [(3,.grow (v.list.map A7++[A7 x]) 6),(1,.rows [[Ah b,cD 2 q,.gref 4 q.us.length]] 3),(2,cB q),(4,.grow (q.us.map λu=>[BJ u]) 1)] (iD c) [(1,.rows [[Ah b,cD 2 O,.gref 4 O.us.length]] 3),(2,cB O),(4,.grow (O.us.map λu=>[BJ u]) 1)]:=by
    refine A4.weakIn ?_ ?_ Y
    ·rfl
    ·refine Aq.trans (Aq.fzB (b:=3) (x:=.grow (v.list.map A7++[A7 x]) 6) rfl) ?_;have l0:v.list.length+1=(v.list.map A7++[A7 x]).length:=Sq';rw[l0];push_cast[M,oL];apply Zw<;>push_cast [M,oL,Bp];all_goals first|exact λh=>h.elim|skip
   have l1:∀y ∈ v.list.map A7,y.length=6:=λy N=>by obtain⟨z,_,rfl⟩:=A2p.1 N;exact AH z
   have l2:∀y ∈ [A7 x],y.length=6:=λy N=>by rw[A2b.1 N];exact AH x
   cases hi:(Am k (q.view l)).isSome with
   |false=>
    rw[hi] at C;refine Zd [] ?_
    (have z:=Za M V;push_cast[z]<;>repeat' (first|refine Zs [(1,1),(2,2),(4,4)] C ?_|refine Zs [(1,1),(2,42),(4,44),(3,224)] (a0 ..) ?_|apply Za)<;>push_cast[z])
    all_goals first|omega|exact l1|exact l2|skip
    apply Zr [(2,242),(4,244)] rfl<;>push_cast [M]
   |true=>
    rw[hi] at C;have b2:=b1 hi;refine Zd [] ?_
    (have z:=Za M<|Za b2 V;push_cast[z]<;>repeat' (first|refine Zs [(1,1),(2,2),(4,4)] C ?_|refine Zs [(1,1),(2,42),(4,44),(3,224)] (a0 ..) ?_|apply Za)<;>push_cast[z])
    all_goals first|omega|exact l1|exact l2|skip
    apply Zr [(2,242),(4,244)] rfl<;>push_cast [M]
noncomputable def VU(m:GM)(L:Lga)(f:Int):Int:=if F1 m L=true then(if m.has then BM f m.key else 0) else 13
noncomputable def VT(m:GM)(L:Lga)(f:Int):Lga:=if F1 m L=true then(if m.has then(if BM f m.key=0 then B4 (m.key,m.value) L else L) else BX m.key L) else L
theorem q_cas(m:GM)(f:Int)(V:Sm m.value)(Y:m.key.size<=64)(hF:m.has=true->A0 prog 50 [.agg (A7 m.value)] (iD f))(hn:q.us.length<1073741824):
  ∃M,A4 prog 167 [.ref 1 0 0 3,.agg (Ai m)] (oqH b q) (iD (VU m (q.view l) f)) (oqH b M)/\Led b l q M 1 (VT m (q.view l) f):=by
 have C:=q_said h hb m;have N:=A6 b;unfold VU VT;cases hs:F1 m (q.view l) with
 |false=>
  rw[hs] at C;simp only[A2G,if_false];refine⟨q,?_,.refl h 1⟩;rw[Ay,A3 m.was,A3 m.value] at C|-;simp only[A2d,A2h,A2c] at C|-;simp only[oqH] at C|-;refine Zd [] ?_
  (have z:=N;push_cast[z]<;>repeat' (first|refine Zs [(1,1),(2,2),(4,4)] C ?_|apply Za)<;>push_cast[z])
  apply Zr [(2,42),(4,44)] rfl<;>push_cast [N]
 |true=>
  rw[hs] at C;simp only[if_true];cases hh:m.has with
  |true=>
   simp only[if_true];obtain⟨M,hP,O⟩:=P9 h m.key m.value f (hF hh) V hn;refine⟨M,?_,O⟩;generalize BM f m.key=c at*;rw[Ay,A3 m.was,A3 m.value,hh] at C|-;rw[A3 m.value] at hP;simp only[A2d,A2h,A2c] at C|-;simp only[oqH] at C hP|-;refine Zd [] ?_
   (have z:=N;push_cast[z]<;>repeat' (first|refine Zs [(1,1),(2,2),(4,4)] C ?_|refine Zs [(1,1),(2,42),(4,44)] hP ?_|apply Za)<;>push_cast[z])
   apply Zr [(2,114),(4,116)] rfl<;>push_cast [N]
  |false=>
   simp only[A2G,if_false];obtain⟨M,U,O⟩:=Xe h hb m.key Y hn;refine⟨M,?_,O⟩;generalize D9 m.key (q.view l)=c at*;rw[Ay,A3 m.was,A3 m.value,hh] at C|-;simp only[A2d,A2h,A2c] at C|-;simp only[oqH] at C U|-;refine Zd [] ?_
   (have z:=N;push_cast[z]<;>repeat' (first|refine Zs [(1,1),(2,2),(4,4)] C ?_|refine Zs [(1,1),(2,42),(4,44)] U ?_|apply Za)<;>push_cast[z])
   apply Zr [(2,98),(4,100)] rfl<;>push_cast [N]
end
def doH(c m:Int)(b:GT)(q:OQ):Hp:=(3,.rows [[iD c]] 1)::(5,.rows [[.ref 1 0 0 3]] 1)::(7,.rows [[iD m]] 1)::oqH b q
def Xs(k:Int)(m:GM):List D:=[iD k,sD m.key,sD m.to,iD m.n,bD m.had,iD m.was.kind,bD m.was.b,iD m.was.n,sD m.was.s,.slice (m.was.list.map A7) false,.slice (m.was.obj.map A8) false,bD m.has,iD m.value.kind,bD m.value.b,iD m.value.n,sD m.value.s,.slice (m.value.list.map A7) false,.slice (m.value.obj.map A8) false,.slice (m.list.map Ai) false]
def doR:List (Nat×Nat):=[(3,24),(5,8),(7,48),(9,16),(2,42),(4,44)]
def doC:List D:=[.ref 3 0 0 1,.ref 5 0 0 1,.ref 7 0 0 1]
def doE:Env:=[(2,.ref 5 0 0 1),(3,.ref 9 0 0 19),(4,.ref 3 0 0 1)]
section
variable{P:Program}{nt:Nat}{rs:List ResultVar}{g:FuncId}{t:Nat}{caps:Array Operand}{B:Code}{r:D}{H':Hp}{r1:Nat->Nat}{cs:List D}{env':Env}{HB:Hp}{rB:D}{HB':Hp}{s:St}
def Dq1(C:AWp P nt B (Wt P rs g cs rB HB') ⟨env',HB,4⟩)(M:Aq ⟨[(0,Bu (Df (2*s.nx) r1) rB)],F0 s.hp (EE (2*s.nx) r1 HB HB'),s.nx+4⟩ ⟨[(0,r)],H',4⟩)
  (h1:caps.toList.map (evO P s.env.get)=Co r1 cs:=by push_cast(config:= {maxSteps:=9999999}) [z]) (N:ltL 0 cs=true:=by push_cast(config:= {maxSteps:=9999999}) [z]) (O:Co (λb=>b) cs=cs:=by push_cast(config:= {maxSteps:=9999999}) [z]) (U:Cs r1 ((t,.any)::s.env) env':=by push_cast(config:= {maxSteps:=9999999}) [z,Cs]) (V:Ki 4 env'=true:=by push_cast(config:= {maxSteps:=9999999}) [z]) (Y:Bq r1 (Ak s.hp) HB:=by push_cast(config:= {maxSteps:=9999999}) [z,Bq]) (Z:DH (2*s.nx) r1 HB []=true:=by push_cast(config:= {maxSteps:=9999999}) [z]) (h8:DH (2*s.nx) r1 HB HB'=true:=by push_cast(config:= {maxSteps:=9999999}) [z]):DefQ1 P nt rs g t caps B r H' r1 cs env' HB rB HB' .normal s:=⟨h1,N,O,U,V,Y,Z,h8,C,M⟩
def Dq2(C:List (Nat×Nat))(d:D){M N:Hp}(O:ME P g [.ref 3 0 0 1,.ref 5 0 0 1,.ref 7 0 0 1] M N)(U:Aq ⟨[(0,d)],F0 s.hp (EE (2*s.nx) (C6 C) M N),s.nx+4⟩ ⟨[(0,rB)],HB',4⟩)
  (h1:cs=Co (C6 C) [.ref 3 0 0 1,.ref 5 0 0 1,.ref 7 0 0 1]:=by push_cast(config:= {maxSteps:=9999999}) [z]) (V:ltL 4 [.ref 3 0 0 1,.ref 5 0 0 1,.ref 7 0 0 1]=true:=by push_cast(config:= {maxSteps:=9999999}) [z]) (Y:Bq (C6 C) (Ak s.hp) M:=by push_cast(config:= {maxSteps:=9999999}) [z,Bq]) (Z:DH (2*s.nx) (C6 C) M []=true:=by push_cast(config:= {maxSteps:=9999999}) [z]) (h5:DH (2*s.nx) (C6 C) M N=true:=by push_cast(config:= {maxSteps:=9999999}) [z]) (h6:KD P ⟨s.env,F0 s.hp (EE (2*s.nx) (C6 C) M N),s.nx+4⟩ rs=some d:=by push_cast(config:= {maxSteps:=9999999}) [z]):Wt P rs g cs rB HB' .ret s:=⟨C6 C,_,M,N,O,h1,V,Y,Z,h5,d,h6,U⟩
end
def d_ok(b:GT)(q:OQ)(m:Int):ME prog 162 [.ref 3 0 0 1,.ref 5 0 0 1,.ref 7 0 0 1] (doH 0 m b q) (doH 0 m b q):=by
 have C:=A6 b;simp only[doH,oqH];refine ME.of_awp func162 rfl ntmps162 Kq' Sq' (congrArg Array.toList results162) (AWp.sz λH Hb=>Zy ?_)
 (have z:=C;push_cast[z]<;>repeat' apply Za)
 apply Zw<;>push_cast [C]
def d_back(b:GT)(q:OQ)(c:Int)(hc:c≠0)(N:q.chg=none->q.us=[])(m:Nat)(hm:m<=q.us.length)(hn:q.us.length<=1073741824):ME prog 162 [.ref 3 0 0 1,.ref 5 0 0 1,.ref 7 0 0 1] (doH c m b q) (doH c m b (q.back m)):=by
 have C:=q_Back b q N m hm hn;have M:=A6 b;have b1:(c !=0)=true:=by simpa using hc
 generalize q.back m=O at*;simp only[doH,oqH,Xs,doR,doC,doE] at C|-;refine ME.of_awp func162 rfl ntmps162 Kq' Sq' (congrArg Array.toList results162) (AWp.sz λH Hb=>Zy ?_)
 (have z:=Za M b1;push_cast[z]<;>repeat' (first|refine Zs [(1,1),(2,2),(4,4)] C ?_|apply Za)<;>push_cast[z])
 apply Zr [(2,42),(4,44)] rfl<;>push_cast [M]
section
variable{b:GT}{q:OQ}
def do_op(m:GM)(c:Int)(O U:OQ)(r:Bool)
  (hP:(m.kind=1/\A4 prog 164 [.ref 1 0 0 3,sD m.key,.agg (A7 m.value)] (oqH b q) (iD c) (oqH b O))
   \/(m.kind=2/\c=(if r then 0 else 12)/\A4 prog 165 [.ref 1 0 0 3,sD m.key] (oqH b q) (bD r) (oqH b O))
   \/(m.kind=3/\A4 prog 166 [.ref 1 0 0 3,sD m.key,iD m.n] (oqH b q) (iD c) (oqH b O))
   \/(m.kind=4/\A4 prog 167 [.ref 1 0 0 3,.agg (Ai m)] (oqH b q) (iD c) (oqH b O))
   \/(m.kind=5/\A4 prog 168 [.ref 1 0 0 3,sD m.key,.agg (A7 m.value)] (oqH b q) (iD c) (oqH b O))
   \/(m.kind=6/\A4 prog 169 [.ref 1 0 0 3,sD m.key,sD m.to] (oqH b q) (iD c) (oqH b O)))
  (N:ME prog 162 [.ref 3 0 0 1,.ref 5 0 0 1,.ref 7 0 0 1] (doH c q.us.length b O) (doH c q.us.length b U)):
  A4 prog 105 [.ref 1 0 0 3,.agg (Ai m)] (oqH b q) (iD c) (oqH b U):=by
 have V:=Xd b q;have C:=A6 b;rw[Ay,A3 m.was,A3 m.value] at hP|-;simp only[A2d,A2h,A2c] at hP|-;refine A4.of_awp_defer [_,_] func105 rfl ntmps105 Kq' Sq' Dq' (congrArg Array.toList results105) (C6 doR) doC doE ((9,.rows [Xs m.kind m] 19)::doH 0 q.us.length b q) (iD c) (doH c q.us.length b U) ?_;simp only[doH,oqH,Xs,doR,doC,doE] at V N hP|-;refine Zy ?_
 (have z:=C;push_cast[z]<;>repeat' apply Za<;>push_cast[z])
 refine Zy ?_
 (have z:=C;push_cast[z]<;>repeat' (first|refine Zs [(1,1),(2,2),(4,4)] V ?_|with_reducible apply Za)<;>push_cast[z])
 have z:=C;refine Dq1 ?_ ?_;rotate_left
 ·push_cast[C];apply Zr [(2,66),(4,68)] rfl<;>push_cast [C]
 refine Zy ?_;rcases hP with⟨M,hP⟩|⟨M,hr,hP⟩|⟨M,hP⟩|⟨M,hP⟩|⟨M,hP⟩|⟨M,hP⟩
 ·rw[M]
  (have z:=C;push_cast[z]<;>repeat' (first|refine Zs [(1,1),(2,2),(4,4)] hP ?_|with_reducible apply Za)<;>push_cast[z])
  refine Dq2 [(2,82),(4,84)] (iD c) N ?_;push_cast[C];apply Zr [(2,98),(4,100)] rfl<;>push_cast [C]
 ·rw[M];cases r
  ·subst hr
   (have z:=C;push_cast[z]<;>repeat' (first|refine Zs [(1,1),(2,2),(4,4)] hP ?_|with_reducible apply Za)<;>push_cast[z])
   refine Dq2 [(2,82),(4,84)] (iD 12) N ?_;push_cast[C];apply Zr [(2,106),(4,108)] rfl<;>push_cast [C]
  ·subst hr
   (have z:=C;push_cast[z]<;>repeat' (first|refine Zs [(1,1),(2,2),(4,4)] hP ?_|with_reducible apply Za)<;>push_cast[z])
   refine Dq2 [(2,82),(4,84)] (iD 0) N ?_;push_cast[C];apply Zr [(2,106),(4,108)] rfl<;>push_cast [C]
 ·rw[M]
  (have z:=C;push_cast[z]<;>repeat' (first|refine Zs [(1,1),(2,2),(4,4)] hP ?_|with_reducible apply Za)<;>push_cast[z])
  refine Dq2 [(2,114),(4,116)] (iD c) N ?_;push_cast[C];apply Zr [(2,130),(4,132)] rfl<;>push_cast [C]
 ·rw[M] at hP|-
  (have z:=C;push_cast[z]<;>repeat' (first|refine Zs [(1,1),(2,2),(4,4)] hP ?_|with_reducible apply Za)<;>push_cast[z])
  refine Dq2 [(2,106),(4,108)] (iD c) N ?_;push_cast[C];apply Zr [(2,122),(4,124)] rfl<;>push_cast [C]
 ·rw[M]
  (have z:=C;push_cast[z]<;>repeat' (first|refine Zs [(1,1),(2,2),(4,4)] hP ?_|with_reducible apply Za)<;>push_cast[z])
  refine Dq2 [(2,146),(4,148)] (iD c) N ?_;push_cast[C];apply Zr [(2,162),(4,164)] rfl<;>push_cast [C]
 ·rw[M]
  (have z:=C;push_cast[z]<;>repeat' (first|refine Zs [(1,1),(2,2),(4,4)] hP ?_|with_reducible apply Za)<;>push_cast[z])
  refine Dq2 [(2,162),(4,164)] (iD c) N ?_;push_cast[C];apply Zr [(2,178),(4,180)] rfl<;>push_cast [C]
end
section
variable{b:GT}{q:OQ}
def q_DoE(m:GM)(e:Int)(M:A0 prog 32 [.agg (Ai m)] (iD e))(N:e≠0):A4 prog 69 [.ref 1 0 0 3,.agg (Ai m)] (oqH b q) (iD e) (oqH b q):=by
 have C:=A6 b;have b1:(e !=0)=true:=by simpa using N
 simp only[oqH];refine Zd [] ?_
 (have z:=Za C b1;push_cast[z]<;>repeat' (first|refine Zc M ?_|apply Za)<;>push_cast[z])
 apply Zw<;>push_cast [C]
def q_Do(m:GM)(c:Int)(C:OQ)(O:A0 prog 32 [.agg (Ai m)] (iD 0))(M:A4 prog 105 [.ref 1 0 0 3,.agg (Ai m)] (oqH b q) (iD c) (oqH b C)):A4 prog 69 [.ref 1 0 0 3,.agg (Ai m)] (oqH b q) (iD c) (oqH b C):=by
 have N:=A6 b;simp only[oqH] at M|-;refine Zd [] ?_
 (have z:=N;push_cast[z]<;>repeat' (first|refine Zc O ?_|refine Zs [(1,1),(2,2),(4,4)] M ?_|apply Za)<;>push_cast[z])
 apply Zr [(2,98),(4,100)] rfl<;>push_cast [N]
end
def undoN(n:Nat)(u:BL):D:=.func (.func 296) [] [.ptr [bD u.was] 0,.ptr (D4 u.old) 0,.ptr [.ref n 0 0 3] 0,.ptr [sD u.k] 0]
def MV(r:Nat->Nat)(l:List BL):E5 r (l.map λu=>[BJ u])=l.map λu=>[undoN (r 1) u]:=by
 rw[F2,A30];refine A3s λu _=>?_;simp only[Function.comp,Co,BJ,undoN,Bu,Ch r _ (DX _)]
def c_RunE(b:GT)(m:GM)(c:Int)(hc:c≠0)(M:OQ)(C:A4 prog 69 [.ref 1 0 0 3,.agg (Ai m)] (oqH b ⟨none,[]⟩) (iD c) (oqH b M)):A0 prog 34 [AF b,.agg (Ai m)] (.tup [AF b,iD c]):=by
 have N:=YL b;have O:=A6 b;have b1:(c !=0)=true:=by simpa using hc
 simp only[oqH] at C;change A4 _ _ _ [(1,.rows [[Ah b,.val (.map none),.gref 4 0]] 3),(2,.junk),(4,.grow [] 1)] _ _ at C;refine Zf [] ?_
 (have z:=Za O<|Za b1 @MV;push_cast[z]<;>repeat' (first|refine Zs [] N ?_|refine Zs [(1,40),(2,42),(4,44)] C ?_|apply Za)<;>push_cast[z])
def c_Run(b C:GT)(m:GM)(M:OQ)(N:A4 prog 69 [.ref 1 0 0 3,.agg (Ai m)] (oqH b ⟨none,[]⟩) (iD 0) (oqH b M))(O:A4 prog 70 [.ref 1 0 0 3] (oqH b M) (AF C) (oqH b M)):A0 prog 34 [AF b,.agg (Ai m)] (.tup [AF C,iD 0]):=by
 have U:=YL b;have V:=A6 b;have Y:=A6 C;simp only[oqH] at N O;change A4 _ _ _ [(1,.rows [[Ah b,.val (.map none),.gref 4 0]] 3),(2,.junk),(4,.grow [] 1)] _ _ at N;refine Zf [] ?_
 (have z:=Za V<|Za Y @MV;push_cast[z]<;>repeat' (first|refine Zs [] U ?_|refine Zs [(1,40),(2,42),(4,44)] N ?_|refine Zs [(1,40),(2,74),(4,76)] O ?_|apply Za)<;>push_cast[z])
def Cn(k p:Baa):Bool:=Lib.hasPrefix k.data.toList p.data.toList
def Jj(k p:Baa):Baa:=⟨(Lib.trimPrefix k.data.toList p.data.toList).toArray⟩
def Qo(k p:Baa):A0 prog 235 [sD k,sD p] (bD (Cn k p)):=by
 have C:=Ng k p;refine Zf [] ?_
 (have z:=trivial;push_cast<;>repeat' (first|refine Zc C ?_|apply Za)<;>push_cast)
 rfl
def c_Turn(k p t:Baa)(hb:Cn k p=true)(N:k.size<=1048576/\t.size<=1048576):A0 prog 234 [sD k,sD p,sD t] (if Ce (t++Jj k p)=0 then .tup [sD (t++Jj k p),iD 0] else .tup [sD bea,iD (Ce (t++Jj k p))]):=by
 have C:=Wk k p;change A0 _ _ _ (.tup [sD (Jj k p),bD (Cn k p)]) at C;rw[hb] at C;have M:=My (t++Jj k p);have hs:(Jj k p).size<=k.size:=by
  show(Lib.trimPrefix k.data.toList p.data.toList).toArray.size<=k.data.size;rw[A2A,<-A3G];unfold Lib.trimPrefix;split
  ·rw[A2t];omega
  ·exact A2e _
 by_cases hc:Ce (t++Jj k p)=0
 ·rw[if_pos hc];rw[hc] at M;refine Zf [] ?_
  (have z:=trivial;push_cast<;>repeat' (first|refine Zc C ?_|refine Zc M ?_|apply Za)<;>push_cast)<;>try omega
  all_goals first|rfl|skip
 ·rw[if_neg hc];have b1:(Ce (t++Jj k p) !=0)=true:=by simpa using hc
  refine Zf [] ?_
  (have z:=b1;push_cast[z]<;>repeat' (first|refine Zc C ?_|refine Zc M ?_|apply Za)<;>push_cast[z])<;>try omega
  all_goals rfl
def BY(k p t:Baa):Baa:=t++Jj k p
noncomputable def Hx(p t:Baa)(L:Lga):Lga->Int×Lga
 |[]=>(0,[])
 |e::g=>if Ce (BY e.1 p t)≠0 then(8,[]) else if D9 (BY e.1 p t) L=true/\Cn (BY e.1 p t) p=false then(13,[]) else((Hx p t L g).1,(BY e.1 p t,e.2)::(Hx p t L g).2)
noncomputable def Ss(F:GV->Int):Lga->Lga->Int×Lga
 |[],R=>(0,R)
 |e::g,R=>if BM (F e.2) e.1=0 then Ss F g (B4 e R) else(BM (F e.2) e.1,R)
def BK(p:Baa)(L:Lga):Lga:=L.filter λe=>Cn e.1 p
def EJ(p:Baa)(L:Lga):Lga:=L.filter λe=>!Cn e.1 p
noncomputable def Dr(F:GV->Int)(p t:Baa)(L:Lga):Int×Lga:=
 if(Hx p t L (BK p L)).1≠0 then((Hx p t L (BK p L)).1,L) else Ss F (Hx p t L (BK p L)).2 (EJ p L)
mutual
noncomputable def Bv(F:GV->Int):GM->Lga->Int×Lga
 |.mk kd k t n h w i v l,L=>
  if kd=1 then(BM (F v) k,if BM (F v) k=0 then B4 (k,v) L else L)
  else if kd=2 then(if D9 k L=true then(0,BX k L) else(12,L))
  else if kd=3 then(Gv L k n (F (Es L k n)),if Gv L k n (F (Es L k n))=0 then B4 (k,Es L k n) L else L)
  else if kd=4 then(VU (.mk kd k t n h w i v l) L (F v),VT (.mk kd k t n h w i v l) L (F v))
  else if kd=5 then(HT L k (F (DC L k v)),if HT L k (F (DC L k v))=0 then B4 (k,DC L k v) L else L)
  else if kd=6 then Dr F k t L
  else if kd=7 then(if k.size≠0/\F1 (.mk kd k t n h w i v l) L=false then(13,L) else Dn F l L)
  else(9,L)
noncomputable def Dn(F:GV->Int):List GM->Lga->Int×Lga
 |[],L=>(0,L)
 |m::l,L=>if (Bv F m L).1=0 then Dn F l (Bv F m L).2 else((Bv F m L).1,L)
end
def c_ends(lo hi k:Baa)(op:Bool):A0 prog 422 [.agg [sD lo,sD hi,bD op],sD k] (bD (!op&& !ltS k hi)):=by
 cases op<;>simp only[Bool.not_true,Bool.not_false,Bool.false_and,Bool.true_and];all_goals
  refine Zf [0] ?_
  (push_cast<;>repeat' apply Za)
def c_below1(t:GT)(k:Baa)(i:Nat)(hi:i<t.es.length)(hs:∀e ∈ t.es,Sm e.2):A0 prog 438 [iD i,.ptr [Ah t] 0,.ptr [sD k] 0] (bD (!ltS (t.es.getD i zM).1 k)):=by
 have hE:=Tu t i hi hs;have C:=A6 t;refine Zf [] ?_
 (have z:=Za @Aj C;push_cast[z]<;>repeat' (first|refine Zc hE ?_|apply Za)<;>push_cast[z])
def c_below(t:GT)(k:Baa)(h8:t.es.length<=8)(O:t.kids=[])(hs:∀e ∈ t.es,Sm e.2)(hm:∀i j,i<=j->j<t.es.length->ltS (t.es.getD i zM).1 k=false->ltS (t.es.getD j zM).1 k=false):
  A0 prog 434 [Ah t,sD k] (iD (AL t.es k)):=by
 have U:t.size=t.es.length:=by simp[GT.size,O]
 have M:=MB t Om;rw[U] at M;have C:=A6 t;have N:=LD t.es.length 438 [.ptr [Ah t] 0,.ptr [sD k] 0] (λi=>!ltS (t.es.getD i zM).1 k) (by simp only[An,D.pure,C,A2L]) Om (λi hi=>c_below1 t k i hi hs) (λi j h V Y=>by have:=hm i j h V;revert this Y;cases ltS (t.es.getD i zM).1 k<;>simp);change A0 _ _ _ (iD (AL t.es k)) at N;rcases DA t with hf|⟨cs,hf⟩;all_goals
  rw[hf] at M N C|-;try simp only[D.pure] at C
  refine Zf [0,8] ?_
  (have z:=C;push_cast[z]<;>repeat' (first|refine Zc (M ..) ?_|refine Zc N ?_|apply Za)<;>push_cast[z])
attribute [push_cast] FC
def Ek(a c:Code)(b:GT)(q:OQ)(A:List Baa):Hp:=(7,.loop [(5,.ref 3 0 0 1),(2,.ptr [.ref 1 0 0 3] 0)] 60 .ready none [19,20] a c)::(3,.rows [[.gref 6 A.length]] 1)::(6,.grow (A.map λk=>[sD k]) 1)::oqH b q
section
variable{a c:Code}{b:GT}{q:OQ}{f:GE->List Baa}(hY:∀(e:GE) (A:List Baa),(A++f e).length<=1048576->DG prog 7 [.val (.string e.1),.agg (A7 e.2)] (Ek a c b q A) (.val (.bool true)) (Ek a c b q (A++f e)))
include hY
theorem XW(t:GT)(lo hi:Baa)(op:Bool)(A:List Baa)(h8:t.es.length<=8)(Z:t.kids=[])(hs:∀e ∈ t.es,Sm e.2)(hm:∀i j,i<=j->j<t.es.length->ltS (t.es.getD i zM).1 lo=false->ltS (t.es.getD j zM).1 lo=false)
  (n J:Nat) (hn:t.es.length=AL t.es lo+n) (hJ:J<=n) (h1:∀j,j<J->(!op&& !ltS (t.es.getD (AL t.es lo+j) zM).1 hi)=false) (h2:J<n->(!op&& !ltS (t.es.getD (AL t.es lo+J) zM).1 hi)=true) (hA:(A++(t.es.drop (AL t.es lo)).flatMap f).length<=1048576):
  A4 prog 420 [Ah t,.agg [sD lo,sD hi,bD op],.yld 7] (Ek a c b q A) (bD (decide (J=n))) (Ek a c b q (A++((t.es.drop (AL t.es lo)).take J).flatMap f)):=by
 have hB:=c_below t lo h8 Z hs hm;have a2:t.size=t.es.length:=by simp[GT.size,Z]
 have U:=MB t Om;rw[a2] at U;have M:=A6 t;have N:=A6 b;generalize AL t.es lo=C at*;generalize O:(λj=>A++((t.es.drop C).take j).flatMap f)=G at*;have a0:A=G 0:=by rw[<-O];simp
 have a1:A++((t.es.drop C).take J).flatMap f=G J:=by rw[<-O]
 have a3:∀j,j<n->G (j+1)=G j++f (t.es.getD (C+j) zM)/\(G j++f (t.es.getD (C+j) zM)).length<=1048576:=by
  intro j hj;have a4:j<(t.es.drop C).length:=by rw[A2t];omega
  have e1:(t.es.drop C)[j]=t.es.getD (C+j) zM:=by
   rw[List.getElem_drop,A29,A2f Om];rfl
  have e2:G (j+1)=G j++f (t.es.getD (C+j) zM):=by
   rw[<-O];simp only[A3j,A2f a4,A2C,Option.toList_some,A2T,A46,A2y,A2c,e1]
  refine⟨e2,?_⟩;rw[<-e2,<-O];show(A++((t.es.drop C).take (j+1)).flatMap f).length<=_;have e3:=A2O (j+1) (t.es.drop C);have:(A++(t.es.drop C).flatMap f).length=(A++((t.es.drop C).take (j+1)).flatMap f).length+(((t.es.drop C).drop (j+1)).flatMap f).length:=by
   conv=>lhs;rw[<-e3]
   rw[A2C,<-A2c,A2a]
  omega
 rw[a1];rw[a0] at*;clear a0 a1 O;unfold Ek oqH at*;refine Zd [8] ?_
 (have z:=Za M N;push_cast[z]<;>repeat' (first|refine Zc hB ?_|apply Za)<;>push_cast[z])
 refine Zl (λj=>j<=J) (λj=>⟨[(7,(iD ((C:Int)+j))),(4,.ptr [sD lo,sD hi,bD op] 0),(2,.yld 7),(0,Ah t)],(7,.loop [(5,.ref 3 0 0 1),(2,.ptr [.ref 1 0 0 3] 0)] 60 .ready none [19,20] a c)::(3,.rows [[.gref 46 (G j).length]] 1)::(46,.grow ((G j).map λk=>[sD k]) 1)::[(1,.rows [[Ah b,cD 42 q,.gref 44 q.us.length]] 3),(42,cB q),(44,.grow (q.us.map λu=>[BJ u]) 1)],100⟩) (λj=>J-j) 0 Sq' ?_ λj hj=>?_
 ·apply Zr [(42,2),(44,4),(46,6)] rfl<;>push_cast [M,N];all_goals omega
 ·rcases A2z j n with hjn|hjn
  ·have e1:=h1 j;obtain⟨g1,g2⟩:=a3 j hjn;have hy:=hY (t.es.getD (C+j) zM) (G j) g2;rw[<-g1] at hy;have hE:=Tu t (C+j) Om hs;rw[A3m] at hE;have V:=c_ends lo hi (t.es.getD (C+j) zM).1 op;have b1:decide ((C:Int)+j<t.es.length)=true:=Dt';rcases A2z j J with hjJ|hjJ
   ·rw[h1 j hjJ] at V;generalize t.es.getD (C+j) zM=e at*
    (have z:=Za M<|Za N<|Za b1 @Aj;push_cast[z]<;>repeat' (first|refine Zc (U ..) ?_|refine Zc hE ?_|refine Zc V ?_|with_reducible apply Za|(with_reducible show A5 _ _ _ _ _ _ _ _;refine A5.yield 7 (C6 [(6,46),(2,42),(4,44)]) rfl ?_ (by(try push_cast[z]);exact hy ..) ?_ Gda ?_ ?_ ?_ ?_;(· push_cast[z]);(· push_cast[z]<;>(with_unfolding_all exact Ag _));(· push_cast[z]<;>(with_unfolding_all exact Ag _));(· push_cast[z]<;>(with_unfolding_all exact Ag _));(· push_cast[z]<;>(with_unfolding_all exact Ag _)))|fail)<;>push_cast[z])
    refine⟨j+1,hjJ,Om,?_⟩;have w1:IntKind.i64.wrap (↑C+↑j+1)=↑C+(↑j+1):=by rw[A9 Om Om];omega
    apply Zr [(42,386),(44,388),(46,390)] rfl<;>push_cast [M,N,w1]
   ·have a5:j=J:=Om;subst a5;rw[h2 hjn] at V;generalize t.es.getD (C+j) zM=e at*
    (have z:=Za M<|Za N<|Za b1 @Aj;push_cast[z]<;>repeat' (first|refine Zc (U ..) ?_|refine Zc hE ?_|refine Zc V ?_|apply Za)<;>push_cast[z])
    have Y:decide (j=n)=false:=Df';rw[Y];apply Zr [(2,42),(4,44),(6,46)] rfl<;>push_cast [M,N]
  ·have b1:decide ((C:Int)+j<t.es.length)=false:=Df'
   (have z:=Za M<|Za N b1;push_cast[z]<;>repeat' (first|refine Zc (U ..) ?_|apply Za)<;>push_cast[z])
   obtain rfl:j=J:=Om;have Y:decide (j=n)=true:=Dt';rw[Y];apply Zr [(2,42),(4,44),(6,46)] rfl<;>push_cast [M,N]
omit hY in
theorem Zj(t:GT)(lo hi:Baa)(op:Bool)(hh:t.height≠0)(h0:0<t.kids.length)(h8:t.kids.length<=8)(G:Nat->List Baa)(B:List Baa)(J:Nat)(hJ:J<=t.kids.length)
  (h1:∀i,i<J->(ltS (t.kids.getD i .nil).last lo=true/\G (i+1)=G i)\/(ltS (t.kids.getD i .nil).last lo=false/\(!op&& !ltS (t.kids.getD i .nil).first hi)=false/\A4 prog 395 [Ah (t.kids.getD i .nil),.agg [sD lo,sD hi,bD op],.yld 7] (Ek a c b q (G i)) (bD true) (Ek a c b q (G (i+1)))))
  (h2:J<t.kids.length->ltS (t.kids.getD J .nil).last lo=false/\(((!op&& !ltS (t.kids.getD J .nil).first hi)=true/\B=G J)\/((!op&& !ltS (t.kids.getD J .nil).first hi)=false/\A4 prog 395 [Ah (t.kids.getD J .nil),.agg [sD lo,sD hi,bD op],.yld 7] (Ek a c b q (G J)) (bD false) (Ek a c b q B))))
  (h3:J=t.kids.length->B=G J):
  A4 prog 395 [Ah t,.agg [sD lo,sD hi,bD op],.yld 7] (Ek a c b q (G 0)) (bD (decide (J=t.kids.length))) (Ek a c b q B):=by
 have hH:=BP t;have b0:(t.height==0)=false:=by simpa using hh
 have hK:=Fi t h0 Om;have C:=A6 t;have M:=A6 b;unfold Ek oqH at*;refine Zd [8] ?_
 (have z:=Za C<|Za M b0;push_cast[z]<;>repeat' (first|refine Zc hH ?_|refine Zs [] hK ?_|exact Zo|apply Za)<;>push_cast[z])<;>try omega
 refine Zl (λj=>j<=J) (λj=>⟨[(19,iD j),(18,iD t.kids.length),(17,.gref 64 t.kids.length),(4,.ptr [sD lo,sD hi,bD op] 0),(2,.yld 7),(0,Ah t)],(64,.grow (t.kids.map Ar) 1)::(7,.loop [(5,.ref 3 0 0 1),(2,.ptr [.ref 1 0 0 3] 0)] 60 .ready none [19,20] a c)::(3,.rows [[.gref 46 (G j).length]] 1)::(46,.grow ((G j).map λk=>[sD k]) 1)::[(1,.rows [[Ah b,cD 42 q,.gref 44 q.us.length]] 3),(42,cB q),(44,.grow (q.us.map λu=>[BJ u]) 1)],100⟩) (λj=>J-j) 0 Sq' ?_ λj hj=>?_
 ·apply Zr [(42,2),(44,4),(46,6),(64,56)] rfl<;>push_cast [C,M]
 ·rcases A2z j t.kids.length with hjn|hjn
  ·have b1:decide ((j:Int)<t.kids.length)=true:=Dt';have V:=Bx (l:=t.kids) (i:=j) hjn;have w1:IntKind.i64.wrap (↑j+1)=↑j+1:=A9 Om Om;have Y:=c_Last (t.kids.getD j .nil);have hF:=ZL (t.kids.getD j .nil);have O:=c_ends lo hi (t.kids.getD j .nil).first op;rcases A2z j J with hjJ|hjJ
   ·rcases h1 j hjJ with⟨s1,s2⟩|⟨s1,s2,Z⟩
    ·generalize t.kids.getD j .nil=x at*;have N:=A6 x
     (have z:=Za C<|Za M<|Za b1<|Za V<|Za @Ar.eq_1<|Za N s1;push_cast[z]<;>repeat' (first|refine Zc Y ?_|exact Zo|apply Za)<;>push_cast[z])<;>try omega
     refine⟨j+1,hjJ,Om,?_⟩;rw[s2];apply Zw<;>push_cast [C,M,w1]
    ·rw[s2] at O;generalize t.kids.getD j .nil=x at*;have N:=A6 x
     (have z:=Za C<|Za M<|Za b1<|Za V<|Za @Ar.eq_1<|Za N s1;push_cast[z]<;>repeat' (first|refine Zc Y ?_|refine Zc hF ?_|refine Zc O ?_|refine Zs [(7,7),(3,3),(6,46),(1,1),(2,42),(4,44)] (Z ..) ?_|exact Zo|apply Za)<;>push_cast[z])<;>try omega
     refine⟨j+1,hjJ,Om,?_⟩;apply Zr [(42,346),(44,348),(46,350)] rfl<;>push_cast [C,M,w1]
   ·have a0:j=J:=Om;subst a0;obtain⟨s1,⟨s2,s3⟩|⟨s2,Z⟩⟩:=h2 hjn
    ·rw[s2] at O;generalize t.kids.getD j .nil=x at*;have N:=A6 x
     (have z:=Za C<|Za M<|Za b1<|Za V<|Za @Ar.eq_1<|Za N s1;push_cast[z]<;>repeat' (first|refine Zc Y ?_|refine Zc hF ?_|refine Zc O ?_|exact Zo|apply Za)<;>push_cast[z])<;>try omega
     have U:decide (j=t.kids.length)=false:=Df';rw[U];rw[s3];apply Zr [(2,42),(4,44),(6,46)] rfl<;>push_cast [C,M]
    ·rw[s2] at O;generalize t.kids.getD j .nil=x at*;have N:=A6 x
     (have z:=Za C<|Za M<|Za b1<|Za V<|Za @Ar.eq_1<|Za N s1;push_cast[z]<;>repeat' (first|refine Zc Y ?_|refine Zc hF ?_|refine Zc O ?_|refine Zs [(7,7),(3,3),(6,46),(1,1),(2,42),(4,44)] (Z ..) ?_|exact Zo|apply Za)<;>push_cast[z])<;>try omega
     have U:decide (j=t.kids.length)=false:=Df';rw[U];apply Zr [(2,346),(4,348),(6,350)] rfl<;>push_cast [C,M]
  ·have b1:decide ((j:Int)<t.kids.length)=false:=Df'
   (have z:=Za C<|Za M b1;push_cast[z]<;>repeat' (first|exact Zo|apply Za)<;>push_cast[z])
   obtain rfl:j=J:=Om;have U:decide (j=t.kids.length)=true:=Dt';rw[U,h3 Om];apply Zr [(2,42),(4,44),(6,46)] rfl<;>push_cast [C,M]
end
def KM(hi:Baa)(op:Bool)(e:GE):Bool:=!op&& !ltS e.1 hi
def CQ(lo hi:Baa)(op:Bool)(l:Lga):Lga:=l.filter λe=>!ltS e.1 lo&& !KM hi op e
def Jg(lo hi:Baa)(op:Bool)(l:Lga):Bool:=l.all λe=>ltS e.1 lo ||!KM hi op e
def JZ{hi:Baa}{op:Bool}{a b:GE}(h:KM hi op a=true)(C:ltS a.1 b.1=true):KM hi op b=true:=by
 unfold KM at*;simp only[A2i,A3u] at*;refine⟨h.1,?_⟩;cases hb:ltS b.1 hi with
 |false=>rfl
 |true=>have:=Cv C hb;rw[this] at h;cases h.2
def N8(lo:Baa):∀ {l:Lga},Srt l->l.dropWhile (λx=>ltS x.1 lo)=l.filter (λx=>!ltS x.1 lo)
 |[],_=>rfl
 |x::l,h=>by
  cases C:ltS x.1 lo with
  |true=>simp [C,N8 lo h.tail]
  |false=>
   have:l.filter (λx=>!ltS x.1 lo)=l:=A3Q.2 λy M=>by
    cases hb:ltS y.1 lo with
    |false=>rfl
    |true=>have:=Cv (h.head y M) hb;rw[this] at C;cases C
   simp[C,this]
def ML{hi:Baa}{op:Bool}:∀ {l:Lga},Srt l->l.takeWhile (λx=>!KM hi op x)=l.filter (λx=>!KM hi op x)
 |[],_=>rfl
 |x::l,h=>by
  cases C:KM hi op x with
  |false=>simp [C,ML h.tail]
  |true=>
   have:l.filter (λx=>!KM hi op x)=[]:=List.filter_eq_nil_iff.2 λy M=>by simp[JZ C (h.head y M)]
   simp[C,this]
def LO{α:Type}(d:α)(p:α->Bool):∀(l:List α),∃J,J<=l.length/\l.take J=l.takeWhile (λx=>!p x)/\(∀j,j<J->p (l.getD j d)=false)/\(J<l.length->p (l.getD J d)=true)
 |[]=>⟨0,Sq'⟩
 |x::l=>by
  cases C:p x with
  |true=>exact ⟨0,Sq',by simp[C],Sq',λ_=>by simpa using C⟩
  |false=>
   obtain⟨J,h1,N,O,U⟩:=LO d p l;refine⟨J+1,by simpa using h1,by simp[C,N],λj M=>?_,λM=>?_⟩
   ·cases j with
    |zero=>simpa using C
    |succ j=>simpa using O j Om
   ·simpa using U (by simpa using M)
def QL(lo hi:Baa)(op:Bool){f:GE->List Baa}(hf:∀e,(f e).length<=1)(l:Lga):((CQ lo hi op l).flatMap f).length<=l.length:=by
 have h1:∀l:Lga,(l.flatMap f).length<=l.length:=λl=>by
  induction l with
  |nil=>simp
  |cons x l C=>have:=hf x;simp only[A2T,A2a,A2l];omega
 exact A2N (h1 _) (A2S ..)
def LT(lo hi:Baa)(op:Bool)(a b:Lga):CQ lo hi op (a++b)=CQ lo hi op a++CQ lo hi op b:=A3y ..
def QK(lo hi:Baa)(op:Bool)(a b:Lga):Jg lo hi op (a++b)=(Jg lo hi op a&&Jg lo hi op b):=List.all_append ..
section
variable{a c:Code}{b:GT}{q:OQ}{f:GE->List Baa}(hf:∀e,(f e).length<=1)(hY:∀(e:GE) (A:List Baa),(A++f e).length<=1048576->DG prog 7 [.val (.string e.1),.agg (A7 e.2)] (Ek a c b q A) (.val (.bool true)) (Ek a c b q (A++f e)))
abbrev NM(a c:Code)(b:GT)(q:OQ)(f:GE->List Baa)(lo hi:Baa)(op:Bool)(A:List Baa)(t:GT)(l:Lga):Prop:=
 A4 prog 395 [Ah t,.agg [sD lo,sD hi,bD op],.yld 7] (Ek a c b q A) (bD (Jg lo hi op l)) (Ek a c b q (A++(CQ lo hi op l).flatMap f))
theorem c_walk0(t:GT)(lo hi:Baa)(op:Bool)(A B:List Baa)(r:Bool)(hh:t.height=0)
  (O:A4 prog 420 [Ah t,.agg [sD lo,sD hi,bD op],.yld 7] (Ek a c b q A) (bD r) (Ek a c b q B)):
  A4 prog 395 [Ah t,.agg [sD lo,sD hi,bD op],.yld 7] (Ek a c b q A) (bD r) (Ek a c b q B):=by
 have C:=BP t;rw[hh] at C;have M:=A6 t;have N:=A6 b;unfold Ek oqH at*;refine Zd [8] ?_
 (have z:=Za M N;push_cast[z]<;>repeat' (first|refine Zc C ?_|refine Zs [(7,7),(3,3),(6,6),(1,1),(2,2),(4,4)] (O ..) ?_|apply Za)<;>push_cast[z])
 apply Zr [(2,74),(4,76),(6,78)] rfl<;>push_cast [M,N]
include hf hY
theorem QC(t:GT)(lo hi:Baa)(op:Bool)(A:List Baa)(hh:t.height=0)(h8:t.es.length<=8)(Z:t.kids=[])(hs:∀e ∈ t.es,Sm e.2)(hr:Srt t.es)(hA:A.length+t.es.length<=1048576):NM a c b q f lo hi op A t t.es:=by
 have N:=RC lo t.es;rw[N8 lo hr] at N;have a0:Srt (t.es.drop (AL t.es lo)):=List.Pairwise.sublist (List.drop_sublist ..) hr;obtain⟨J,j1,j2,O,U⟩:=LO zM (KM hi op) (t.es.drop (AL t.es lo));rw[ML a0] at j2;have a2:=Sv t.es lo;have V:∀j,(t.es.drop (AL t.es lo)).getD j zM=t.es.getD (AL t.es lo+j) zM:=λj=>by
  simp[A29,A3J]
 have a3:(t.es.drop (AL t.es lo)).length=t.es.length-AL t.es lo:=A2t ..;have e1:(t.es.drop (AL t.es lo)).take J=CQ lo hi op t.es:=by
  rw[j2,N,List.filter_filter];unfold CQ;congr 1;funext e;exact Bool.and_comm ..
 have e2:decide (J=(t.es.drop (AL t.es lo)).length)=Jg lo hi op t.es:=by
  have key:Jg lo hi op t.es=(t.es.drop (AL t.es lo)).all λe=>!KM hi op e:=by
   rw[N,List.all_filter];unfold Jg;congr 1;funext e;simp
  rw[key];rcases A2z J (t.es.drop (AL t.es lo)).length with h|h
  ·rw[Df'];symm;rw[List.all_eq_false];refine⟨(t.es.drop (AL t.es lo)).getD J zM,Ae h,?_⟩;rw[U h];simp
  ·rw[Dt'];symm;rw[A2q];intro e he;obtain⟨j,C,rfl⟩:=A2W.1 he;have:=O j Om;rw[A29,A2f C] at this;simpa using this
 have hm:∀i j,i<=j->j<t.es.length->ltS (t.es.getD i zM).1 lo=false->ltS (t.es.getD j zM).1 lo=false:=by
  intro i j a1 C M;rcases Nat.eq_or_lt_of_le a1 with rfl|hlt
  ·exact M
  ·have hp:=A3Z.1 hr i j Om C hlt;simp only[A29,A2f C,A2f (show i<t.es.length by omega),A2P] at M|-;cases hb:ltS t.es[j].1 lo with
   |false=>rfl
   |true=>have:=Cv hp hb;rw[this] at M;cases M
 have Y:=XW hY t lo hi op A h8 Z hs hm (t.es.drop (AL t.es lo)).length J Om j1 (λj C=>by have:=O j C;rw[V] at this;exact this) (λC=>by have:=U C;rw[V] at this;exact this) (by
  rw[A2a];have:((t.es.drop (AL t.es lo)).flatMap f).length<=(t.es.drop (AL t.es lo)).length:=by
   generalize t.es.drop (AL t.es lo)=l
   induction l with
   |nil=>simp
   |cons x l ih=>have:=hf x;simp only[A2T,A2a,A2l];omega
  omega)
 rw[e1,e2] at Y;exact c_walk0 t lo hi op A _ _ hh Y
theorem Ys(lo C:Baa)(op:Bool):∀(h:Nat) (t:GT) (A:List Baa),Wf h t->A.length+(Af h t).length<=1048576->NM a c b q f lo C op A t (Af h t)
 |0,t,A,hw,hb=>by
  obtain⟨l,rfl,ho,hn⟩:=hw;exact QC hf hY (AO l) lo C op A rfl ho.hl rfl ho.hs (NR ho.hr) hb
 |h+1,t,A,hw,hb=>by
  have hd:=hw.d;obtain⟨l,rfl,h2,h8,hk,hs⟩:=hw;have Z:(AP l).kids=l:=rfl;have ac:Af (h+1) (AP l)=l.flatMap (Af h):=rfl;rw[ac] at hb|-;obtain⟨J,j1,j2,j3,j4⟩:=LO GT.nil (λk=>!Jg lo C op (Af h k)) l;let G:Nat->List Baa:=λi=>A++(CQ lo C op ((l.take i).flatMap (Af h))).flatMap f;have a6:G 0=A:=by simp[G,CQ]
  have a1:∀i,i<l.length->l.flatMap (Af h)=(l.take i).flatMap (Af h)++(Af h (l.getD i .nil)++(l.drop (i+1)).flatMap (Af h)):=λi hi=>by
   have e1:=A2O i l;have e2:l.drop i=l.getD i .nil::l.drop (i+1):=by
    rw[A29,A2f hi];exact List.drop_eq_getElem_cons hi
   conv=>lhs;rw[<-e1]
   rw[A2C,e2,A2T]
  have a0:∀i,i<l.length->G (i+1)=G i++(CQ lo C op (Af h (l.getD i .nil))).flatMap f:=λi hi=>by
   simp only[G];rw[Hf .nil hi,A2C,LT,A2C,A2c];simp
  have a2:∀i,i<l.length->NM a c b q f lo C op (G i) (l.getD i .nil) (Af h (l.getD i .nil)):=λi hi=>by
   refine Ys lo C op h _ _ (hk _ (Ae hi)).1 ?_;have h1:=congrArg List.length (a1 i hi);have h2:=QL lo C op hf ((l.take i).flatMap (Af h));simp only[A2a] at h1;simp only[G,A2a];omega
  have O:∀i,i<l.length->WfD h (l.getD i .nil):=λi hi=>Wf.d (hk _ (Ae hi)).1;have al:∀i (hi:i<l.length),(Af h (l.getD i .nil)).getD 0 zM ∈ Af h (l.getD i .nil):=λi hi=>H3 (O i hi).ne;have a7:∀i (hi:i<l.length),(Af h (l.getD i .nil)).getD ((Af h (l.getD i .nil)).length-1) zM ∈ Af h (l.getD i .nil):=λi hi=>PD (O i hi).ne;have a3:∀i (hi:i<l.length) e,e ∈ Af h (l.getD i .nil)->e=(Af h (l.getD i .nil)).getD 0 zM\/ltS ((Af h (l.getD i .nil)).getD 0 zM).1 e.1=true:=λi hi e N=>by
   have a4:=(O i hi).srt;have ad:=(O i hi).ne;generalize Af h (l.getD i .nil)=L at*;cases L with
   |nil=>exact absurd rfl ad
   |cons x L=>
    rcases A2s.1 N with rfl|N
    ·exact .inl rfl
    ·exact .inr (a4.head e N)
  have ae:∀i (hi:i<l.length) e,e ∈ Af h (l.getD i .nil)->e=(Af h (l.getD i .nil)).getD ((Af h (l.getD i .nil)).length-1) zM\/ltS e.1 ((Af h (l.getD i .nil)).getD ((Af h (l.getD i .nil)).length-1) zM).1=true:=λi hi e N=>by
   have a4:=(O i hi).srt;generalize Af h (l.getD i .nil)=L at*;obtain⟨j,M,rfl⟩:=A2W.1 N;have hn:L.length-1<L.length:=Om;rw[A29,A2f hn,A2P];rcases A2z j (L.length-1) with hlt|a3
   ·exact .inr (A3Z.1 a4 j (L.length-1) M hn hlt)
   ·have:j=L.length-1:=Om;subst this;exact .inl rfl
  have a5:∀i,i<l.length->ltS (l.getD i .nil).last lo=true->CQ lo C op (Af h (l.getD i .nil))=[]/\Jg lo C op (Af h (l.getD i .nil))=true:=λi hi hlt=>by
   rw[(O i hi).last] at hlt;have a8:∀e ∈ Af h (l.getD i .nil),ltS e.1 lo=true:=λe N=>by
    rcases ae i hi e N with rfl|U
    ·exact hlt
    ·exact Cv U hlt
   exact⟨List.filter_eq_nil_iff.2 λe N=>by simp[a8 e N],A2q.2 λe N=>by simp[a8 e N]⟩
  have a9:∀i,i<l.length->ltS (l.getD i .nil).last lo=false->Jg lo C op (Af h (l.getD i .nil))=true->(!op&& !ltS (l.getD i .nil).first C)=false:=λi hi hlt Y=>by
   rw[(O i hi).last] at hlt;have h1:=A2q.1 Y _ (a7 i hi);rw[hlt,A42] at h1;rw[(O i hi).first];cases hb:(!op&& !ltS ((Af h (l.getD i .nil)).getD 0 zM).1 C) with
   |false=>rfl
   |true=>
    have hE:KM C op ((Af h (l.getD i .nil)).getD 0 zM)=true:=hb;rcases a3 i hi _ (a7 i hi) with U|U
    ·rw[U,hE] at h1;cases h1
    ·rw[JZ hE U] at h1;cases h1
  have aa:decide (J=l.length)=Jg lo C op (l.flatMap (Af h)):=by
   rcases A2z J l.length with M|M
   ·rw[Df',a1 J M,QK,QK];have:=j4 M;simp only[A3u] at this;rw[this];simp
   ·rw[Dt'];symm;refine A2q.2 λe N=>?_;obtain⟨k,ah,N⟩:=A3D.1 N;obtain⟨j,ai,rfl⟩:=A2W.1 ah;have:=j3 j Om;rw[A29,A2f ai] at this;simp only[A2P,A3A] at this;exact A2q.1 this e N
  have aj:∀(M:J<l.length),CQ lo C op (l.flatMap (Af h))=CQ lo C op ((l.take J).flatMap (Af h))++CQ lo C op (Af h (l.getD J .nil)):=λM=>by
   have h1:=j4 M;simp only[A3u] at h1;obtain⟨e,N,ab⟩:=List.all_eq_false.1 h1;have hE:KM C op e=true:=by
    simp only[A40,not_or,Bool.not_eq_true,A3A] at ab;exact ab.2
   rw[a1 J M] at hs;have hp:=(A35.1 (A35.1 hs).2.1).2.2;have:CQ lo C op ((l.drop (J+1)).flatMap (Af h))=[]:=List.filter_eq_nil_iff.2 λx hx=>by simp[JZ hE (hp e N x hx)]
   rw[a1 J M,LT,LT,this,A2y]
  rcases A2z J l.length with M|M
  ·have h1:=j4 M;simp only[A3u] at h1;have ak:ltS (l.getD J .nil).last lo=false:=by
    cases hb:ltS (l.getD J .nil).last lo with
    |false=>rfl
    |true=>rw [(a5 J M hb).2] at h1;cases h1
   have hB:A++(CQ lo C op (l.flatMap (Af h))).flatMap f=G (J+1):=by
    rw[a0 J M,aj M,A2C,<-A2c]
   show A4 _ _ _ _ _ (Ek a c b q (A++(CQ lo C op (l.flatMap (Af h))).flatMap f));rw[hB,<-aa];have:=Zj (a:=a) (c:=c) (b:=b) (q:=q) (AP l) lo C op (by show ¬((l.getD 0 .nil).height+1=0);rw[(O 0 Om).height];omega) (by rw[Z];omega) h8 G (G (J+1)) J j1 (λi hi=>?_) (λ_=>?_) (λU=>by rw[Z] at U;omega)
   ·rw[a6] at this;exact this
   ·rw[Z];have V:i<l.length:=Om;have Y:=j3 i hi;simp only[A3A] at Y;cases hb:ltS (l.getD i .nil).last lo with
    |true=>exact .inl ⟨rfl,by rw[a0 i V,(a5 i V hb).1];simp⟩
    |false=>
     have hr:=a2 i V;unfold NM at hr;rw[Y,<-a0 i V] at hr;exact .inr ⟨rfl,a9 i V hb Y,hr⟩
   ·rw[Z];refine⟨ak,?_⟩;cases hb:(!op&& !ltS (l.getD J .nil).first C) with
    |true=>
     refine .inl ⟨rfl,?_⟩;rw[a0 J M];have hE:KM C op ((Af h (l.getD J .nil)).getD 0 zM)=true:=by rw[(O J M).first] at hb;exact hb
     have:CQ lo C op (Af h (l.getD J .nil))=[]:=List.filter_eq_nil_iff.2 λx hx=>by
      rcases a3 J M x hx with rfl|U
      ·rw[hE];simp
      ·simp[JZ hE U]
     rw[this];simp
    |false=>
     have hr:=a2 J M;unfold NM at hr;rw[h1,<-a0 J M] at hr;exact .inr ⟨rfl,hr⟩
  ·have hJ:J=l.length:=Om;have hB:A++(CQ lo C op (l.flatMap (Af h))).flatMap f=G J:=by
    simp only[G,hJ,A2I]
   show A4 _ _ _ _ _ (Ek a c b q (A++(CQ lo C op (l.flatMap (Af h))).flatMap f));rw[hB,<-aa];have:=Zj (a:=a) (c:=c) (b:=b) (q:=q) (AP l) lo C op (by show ¬((l.getD 0 .nil).height+1=0);rw[(O 0 Om).height];omega) (by rw[Z];omega) h8 G (G J) J j1 (λi hi=>?_) (λU=>by rw[Z] at U;omega) (λ_=>rfl)
   ·rw[a6] at this;exact this
   ·rw[Z];have V:i<l.length:=Om;have Y:=j3 i hi;simp only[A3A] at Y;cases hb:ltS (l.getD i .nil).last lo with
    |true=>exact .inl ⟨rfl,by rw[a0 i V,(a5 i V hb).1];simp⟩
    |false=>
     have hr:=a2 i V;unfold NM at hr;rw[Y,<-a0 i V] at hr;exact .inr ⟨rfl,a9 i V hb Y,hr⟩
theorem walk_tr(lo hi:Baa)(op:Bool)(t:GT)(l:Lga)(A:List Baa)(ht:Dw t l)(hb:A.length+l.length<=1048576):NM a c b q f lo hi op A t l:=by
 rcases ht with⟨rfl,rfl⟩|⟨h,C,rfl⟩
 ·exact QC hf hY .nil lo hi op A rfl (by simp[GT.es]) rfl (by simp[GT.es]) List.Pairwise.nil hb
 ·exact Ys hf hY lo hi op h t A C hb
end
def F8(p:Baa)(e:CE):List Baa:=if e.2.2.1&&Cn e.1 p then [e.1] else []
def GX(p:Baa)(es:List CE)(n:Nat):List Baa:=match es.find? λe=>e.2.1==n with|some e=>F8 p e|none=>[]
def preC_len(p:Baa)(e:CE):(F8 p e).length<=1:=by unfold F8;split<;>simp
def HH:∀ {es:List CE},(es.map (·.2.1)).Nodup->∀e ∈ es,(es.find? λx=>x.2.1==e.2.1)=some e
 |[],_,e,h=>by cases h
 |x::es,hn,e,h=>by
  rw[A2m,A3h] at hn;rw[List.find?_cons];rcases A2s.1 h with rfl|h
  ·simp
  ·have:(x.2.1==e.2.1)=false:=by
    have:x.2.1≠e.2.1:=λC=>hn.1 (by rw[C];exact A2p.2 ⟨e,h,rfl⟩);simpa using this
   rw[this];exact HH hn.2 e h
def PN:∀ {es:List CE},(es.map (·.2.1)).Nodup->∀e ∈ es,PO e.2.1 (es.map CH)=some (.string e.1,.agg (D4 e.2.2))
 |[],_,e,h=>by cases h
 |x::es,hn,e,h=>by
  rw[A2m,A3h] at hn;simp only[A2m,PO,CH];rcases A2s.1 h with rfl|h
  ·simp
  ·have:(x.2.1==e.2.1)=false:=by
    have:x.2.1≠e.2.1:=λC=>hn.1 (by rw[C];exact A2p.2 ⟨e,h,rfl⟩);simpa using this
   rw[this];exact PN hn.2 e h
def Km(es:List CE)(sn:List Nat):Nat:=(es.filter λe=>decide (e.2.1 ∉ sn)).length
def V9{es:List CE}{e:CE}(U:e ∈ es)(hn:e.2.1 ∉ C):Km es (C++[e.2.1])<Km es C:=by
 have key:∀l:List CE,Km l (C++[e.2.1])<=Km l C/\(e ∈ l->Km l (C++[e.2.1])<Km l C):=by
  intro l
  induction l with
  |nil=>exact ⟨A2e _,λh=>by cases h⟩
  |cons x l M=>
   unfold Km at*;simp only[List.filter_cons];by_cases h1:x.2.1 ∈ C
   ·have N:x.2.1 ∈ C++[e.2.1]:=List.mem_append_left _ h1;simp only[h1,N,not_true_eq_false,decide_false,A2G,if_false];refine⟨M.1,λh=>?_⟩;rcases A2s.1 h with rfl|h
    ·exact absurd h1 hn
    ·exact M.2 h
   ·by_cases N:x.2.1=e.2.1
    ·have O:x.2.1 ∈ C++[e.2.1]:=by rw[N];simp
     simp only[h1,O,not_true_eq_false,not_false_eq_true,decide_false,decide_true,A2G,if_false,if_true,A2l];have:=M.1;exact⟨Om,λ_=>Om⟩
    ·have O:x.2.1 ∉ C++[e.2.1]:=by simp[h1,N]
     simp only[h1,O,not_false_eq_true,decide_true,if_true,A2l];refine⟨by have:=M.1;omega,λh=>?_⟩;rcases A2s.1 h with rfl|h
     ·exact absurd rfl N
     ·have:=M.2 h;omega
 exact(key es).2 U
structure JL(p:ByteArray)(es:List CE)(n0:Nat)(sn:List Nat):Prop where
 nd:sn.Nodup
 sub:∀n ∈ sn,n ∈ es.map (·.2.1)
 len:n0+(sn.flatMap (GX p es)).length+Km es sn<=n0+es.length
def JL.nil(p:Baa)(es:List CE)(C:Nat):JL p es C []:=
 ⟨List.nodup_nil,Sq',by have:=A2S (λe:CE=>decide (e.2.1 ∉ ([]:List Nat))) es;simp only[A46,A2r];unfold Km;omega⟩
def JL.snoc{p:Baa}{es:List CE}{N:Nat}(h:JL p es N C)(hb:(es.map (·.2.1)).Nodup){e:CE}(M:e ∈ es)(hn:e.2.1 ∉ C):
  JL p es N (C++[e.2.1])/\(C++[e.2.1]).flatMap (GX p es)=C.flatMap (GX p es)++F8 p e:=by
 have V:GX p es e.2.1=F8 p e:=by unfold GX;rw[HH hb e M]
 have O:(C++[e.2.1]).flatMap (GX p es)=C.flatMap (GX p es)++F8 p e:=by rw[A2C];simp[V]
 refine⟨⟨?_,?_,?_⟩,O⟩
 ·rw[List.nodup_append];exact⟨h.nd,Sq',λa Y b U=>by simp only[A2b] at U;subst U;exact λhh=>hn (by rw[<-hh];exact Y)⟩
 ·intro n Z;rcases A2Y.1 Z with h1|h1
  ·exact h.sub n h1
  ·rw[A2b.1 h1];exact A2p.2 ⟨e,M,rfl⟩
 ·rw[O,A2a];have:=V9 M hn;have:=preC_len p e;have:=h.len;omega
def MP{a b:List Baa}(h:a.Perm b):AD a=AD b:=by
 unfold AD;rw[Pn (h.map _)]
def JL.all{p:Baa}{es:List CE}{N:Nat}(h:JL p es N C)(hb:(es.map (·.2.1)).Nodup)(O:∀e ∈ es,e.2.1 ∈ C)(A:List Baa):
  AD (A++C.flatMap (GX p es))=AD (A++es.flatMap (F8 p)):=by
 refine MP (List.Perm.append_left A ?_);have hp:C.Perm (es.map (·.2.1)):=(List.perm_ext_iff_of_nodup h.nd hb).2 λn=>⟨h.sub n,λhn=>by obtain⟨e,M,rfl⟩:=A2p.1 hn;exact O e M⟩
 refine(hp.flatMap_right _).trans ?_;rw[List.flatMap_map];have:es.flatMap (λe=>GX p es e.2.1)=es.flatMap (F8 p):=by
  have:∀l:List CE,(∀e ∈ l,e ∈ es)->l.flatMap (λe=>GX p es e.2.1)=l.flatMap (F8 p):=by
   intro l hl
   induction l with
   |nil=>rfl
   |cons x l U=>
    rw[A2T,A2T,U λe M=>hl e (A2V _ M)];have:=HH hb x (hl x A36);unfold GX;rw[this]
  exact this es λ_ h=>h
 rw[this]
def PB:∀a b:Lua,BD a b<0->a<=b
 |[],b,_=>Sq'
 |a::x,[],h=>by simp[BD] at h
 |a::x,b::y,h=>by
  simp only[BD] at h;rw[List.cons_le_cons_iff];by_cases C:a=b
  ·subst C;rw[if_pos rfl] at h;exact .inr ⟨rfl,PB x y h⟩
  ·rw[if_neg C] at h;refine .inl ?_;by_cases hl:a<b
   ·exact hl
   ·simp[hl] at h
def sortS_eq{a b:List Baa}(h:a.Perm b)(hs:b.Pairwise λx y=>ltS x y=true):AD a=b:=by
 rw[MP h];unfold AD;have M:(b.map (·.data.toList)).Pairwise λx y=>decide (x<=y)=true:=by
  rw[List.pairwise_map];refine hs.imp λ{x y} C=>?_;rw[decide_eq_true_eq];rw[ltS,decide_eq_true_eq] at C;exact PB _ _ C
 rw[List.mergeSort_of_pairwise M,A30];have:((λl:Lua=>(⟨l.toArray⟩:Baa)) ∘ λk:Baa=>k.data.toList)=id:=by funext k;simp
 rw[this,List.map_id]
end Go.Ab
namespace Go.Ab
open Go.RowKit
open Go.ChangeMaps (setBlock)
section
variable{w0:World}{M0:Nat->Prop}{I0:Gh}{fr I:Nat->Prop}{mu:Nat->Option Value}{hp:Nat->Option Blk}{w:World}
def AA.setObjV(h:AA w0 M0 I0 fr I mu hp w){b k:Nat}{O x:Blk}{Z:Value}(hb:hp b=some O)(hm:mu b=some Z)(a0:Al Z=some k)(o:Obj)(hx:(setBlock w k o).heap[k]? =some o->(∀j,j≠k->(setBlock w k o).heap[j]? =w.heap[j]?)->DQ (setBlock w k o) I mu b x):
  AA w0 M0 I0 fr I mu (λc=>AZ c (hp c) [(b,some x)]) (setBlock w k o)/\Ext I mu w I mu (setBlock w k o):=by
 obtain⟨a6,a7,a2⟩:=h.loc b O _ k hb hm a0;have a1:∀j,j≠k->(setBlock w k o).heap[j]? =w.heap[j]?:=λj M=>by
  simp[setBlock,Array.getElem?_setIfInBounds,Ne.symm M]
 have a8:(setBlock w k o).heap[k]? =some o:=by simp[setBlock,a2]
 have V:(setBlock w k o).heap.size=w.heap.size:=by simp[setBlock]
 have hI:∀j,I j->(setBlock w k o).heap[j]? =w.heap[j]?:=by grind
 have U:∀c,AZ c (hp c) [(b,some x)]=if c=b then some x else hp c:=by
  grind [AZ]
 refine⟨⟨λc y C=>?_,λc y v j C N M=>?_,λc d y z v u j C hz N hu M a3=>?_,h.fresh,λj M=>by rw[V];exact h.lt j M,h.os,h.tape,h.output,by rw[V];exact h.grown,λj M hn=>?_,h.iold,h.inew,h.keep,λc y C hf=>?_⟩,λ_ h=>h,λ_ _ h=>h,hI⟩
 ·rw[U] at C;by_cases hc:c=b
  ·simp_all
  ·rw[if_neg hc] at C;refine(h.blk c y C).mono hI (λ_ h=>h) (λ_ _ h=>h) λv j N M=>a1 j ?_;rintro rfl;exact hc (h.inj c b y O v _ j C hb N hm M a0)
 ·rw[U] at C;rw[V];by_cases hc:c=b
  ·simp_all
  ·rw[if_neg hc] at C;exact h.loc c y v j C N M
 ·rw[U] at C hz;have g:∀c y,(if c=b then some x else hp c)=some y->∃Y,hp c=some Y:=by grind
  obtain⟨Y,a4⟩:=g c y C;obtain⟨z',a5⟩:=g d z hz;exact h.inj c d Y z' v u j a4 a5 N hu M a3
 ·rw[a1 j ?_]
  ·exact h.old j M hn
  grind
 ·rw[U] at C;by_cases hc:c=b
  ·subst hc;exact h.used c O hb hf
  ·rw[if_neg hc] at C;exact h.used c y C hf
end
def Wp(P:Program)(f:FuncId):Prop:=(∀(blk off cap:Nat) (ss:List (Lua)) (w:World),Sort.Holds Proofs.encStr w blk off ss.toArray->blk<w.heap.size->ss.length<4611686018427387904->
  Calls P f #[.slice (some ⟨blk,off,none⟩) ss.length cap] w λe w'=>e=.returned (.tuple #[])/\∃n os,w'=Sort.grow (Sort.putRow Proofs.encStr (Sort.ahead w n) blk off (ss.mergeSort λx y=>decide (x<=y)).toArray) os)/\
 ∀(p:Option Addr) (cap:Nat) (w:World),Calls P f #[.slice p 0 cap] w λe w'=>e=.returned (.tuple #[])/\w'=w
def A4.of_sort{P:Program}{f:FuncId}(he:By P f=true)(hc:Wp P f)(C:List Baa)(ah:C.length<=1048576)(a3:∀k ∈ C,k.size<=9223372036854775807):
  A4 P f [.gref 1 C.length] [(1,.grow (C.map λk=>[sD k]) 1)] (.tup []) [(1,.grow ((AD C).map λk=>[sD k]) 1)]:=by
 unfold A4;refine⟨he,λw M0 G I mu vs ai aj M hr=>?_⟩;have a0:Ak [(1,Blk.grow (C.map λk=>[D.val (.string k)]) 1)] 1=some (.grow (C.map λk=>[sD k]) 1):=rfl;obtain⟨A,cap,T,us,h1,h2,h3,h4⟩:=M.blk 1 _ a0;rw[A2k] at h1;obtain⟨g1,g2⟩:=hr;obtain⟨v0,rfl⟩:∃v,vs=[v]:=by
  match vs,g1 with
  |[v],_=>simp_all
 have a4:=g2 0 Sq';cases a4 with
 |gref _ _ A' cap' O=>
 rw[h1] at O;obtain⟨rfl,rfl⟩:=O;rcases A2K C.length with hz|hz
 ·have a5:C=[]:=by simp_all
  subst a5;refine(hc.2 A cap w).mono λe w' ⟨V,U⟩=>⟨_,I,mu,V,.tup [] [] rfl Om,?_⟩
  simp_all [AD]
 ·rcases h4 with⟨_,h4⟩|⟨k,c0,hA,h5,h6,h7,h8⟩
  ·simp_all
  ·subst hA;have a1:k<w.heap.size:=by grind
   have ak:∀i,i<C.length->us[i]? =some (.string (C.getD i default)):=λi hi=>by
    have N:=h8 i 0 (by simp_all) Om;have hn:nr (C.map λk=>[D.val (.string k)]) i=[sD (C.getD i default)]:=by
     grind [nr]
    rw[hn] at N;simp at N;have hlt:i<us.length:=by grind
    simp[nv,A29,A2f hlt,A2P] at N;rw[A2f hlt];generalize us[i]=x at N;cases N with
    |val _ _=>rfl
   have hH:Sort.Holds Proofs.encStr w k 0 (C.map (·.data.toList)).toArray:=λj Y=>by
    simp_all [World.cell?,Proofs.encStr,World.frozen?]
   have a2:=hc.1 k 0 cap (C.map (·.data.toList)) w hH a1 (by grind);rw[A2k] at a2;refine a2.mono λe w' ⟨V,n,os,U⟩=>⟨_,I,mu,V,.tup [] [] rfl (by simp_all),?_⟩
   have hD:AA w M0 G (frN 4) I mu (Ak [(1,Blk.grow (C.map λk=>[D.val (.string k)]) 1)]) (Sort.ahead w n):=⟨λb x hb=>(M.blk b x hb).mono (λ_ _=>rfl) (λ_ h=>h) (λ_ _ h=>h) (λ_ _ _ _=>rfl),M.loc,M.inj,M.fresh,M.lt,M.os,M.tape,M.output,M.grown,M.old,M.iold,M.inew,M.keep,M.used⟩
   generalize hd:((C.map (·.data.toList)).mergeSort λx y=>decide (x<=y)).toArray=d at U;have a6:d.size=C.length:=by rw[<-hd];simp
   have al:(AD C).length=C.length:=by simp[AD]
   have a7:∀i,i<C.length->Proofs.encStr d[i]! =.string ((AD C).getD i default):=λi hi=>by
    have a8:i<((C.map (·.data.toList)).mergeSort λx y=>decide (x<=y)).length:=by simp_all
    rw[<-hd];simp only[AD,A29,A2X,A2f a8,A3g,A2P];grind
   have a9:Sort.putRow Proofs.encStr (Sort.ahead w n) k 0 d=setBlock (Sort.ahead w n) k (.cells (Sort.putCells Proofs.encStr 0 d us.toArray) T (0,0)):=by
    have hh:(Sort.ahead w n).heap.modify k (Sort.onCells (Sort.putCells Proofs.encStr 0 d))=(Sort.ahead w n).heap.setIfInBounds k (.cells (Sort.putCells Proofs.encStr 0 d us.toArray) T (0,0)):=by
     apply Array.ext_getElem?;intro j;rw[Array.getElem?_modify,Array.getElem?_setIfInBounds];by_cases Y:k=j
     ·subst Y;have:(Sort.ahead w n).heap[k]? =some (.cells us.toArray T (0,0)):=h5;rw[if_pos rfl,if_pos rfl,this,if_pos (show k<(Sort.ahead w n).heap.size from a1)];rfl
     simp_all
    simp only[Sort.putRow,Sort.mapBlock,setBlock,hh]
   obtain⟨Z,_⟩:=hD.setObjV (k:=k) (x:=.grow ((AD C).map λk=>[sD k]) 1) a0 h1 (by simp[Al];omega) (.cells (Sort.putCells Proofs.encStr 0 d us.toArray) T (0,0)) (λam an=>by
    have hL:((AD C).map λk=>[D.val (.string k)]).length=C.length:=by simp_all
    have aa:∀i,i<C.length->nr ((AD C).map λk=>[D.val (.string k)]) i=[sD ((AD C).getD i default)]:=λi hi=>by
     grind [AD,nr]
    refine⟨some ⟨k,0,none⟩,cap,T,(Sort.putCells Proofs.encStr 0 d us.toArray).toList,by simp_all,λi hi=>?_,h3,.inr ⟨k,c0,rfl,Om,by simp_all,?_,λi j hi Y=>?_⟩⟩
    ·simp_all
    ·simp[Sort.putCells,h7]
    ·rw[hL] at hi;obtain rfl:j=0:=Om;rw[aa i hi];have hlt:i<us.length:=by grind
     have hv:nv (Sort.putCells Proofs.encStr 0 d us.toArray).toList (i*1+0)=.string ((AD C).getD i default):=by
      rw[<-a7 i hi];simp[nv,Sort.putCells,hlt,a6,hi]
     rw[hv];refine .val _ ?_;have hm:(AD C).getD i default ∈ AD C:=by
      simp_all
     obtain⟨a,ha,ab⟩:=A2p.1 hm;have ac:=(List.mergeSort_perm _ _).mem_iff.1 ha;obtain⟨k',ad,rfl⟩:=A2p.1 ac;have:(⟨(k'.data.toList).toArray⟩:Baa)=k':=Sq';rw[<-ab,this];exact a3 k' ad)
   rw[a9] at U;have ae:(λc=>AZ c (Ak [(1,Blk.grow (C.map λk=>[D.val (.string k)]) 1)] c) [(1,some (Blk.grow ((AD C).map λk=>[D.val (.string k)]) 1))])=Ak [(1,Blk.grow ((AD C).map λk=>[D.val (.string k)]) 1)]:=by
    funext c;grind [AZ,Ak]
   rw[ae] at Z;subst U;refine Z.below (λ_ h=>h) (λ_ h=>.inl h) (λk O=>?_) ?_
   ·have:=Z.lt k O;simp;omega
   ·exact Lib.below_grow _ _ (A2e _) 0 os
end Go.Ab
namespace Go.Ab
open Go.Maps Go.Proofs Go.Proofs.Tryz Go.RowKit Go.Shelf Go.Sort
def sortsStr:Wp prog 172:=
 ⟨λblk off cap C w M N O=>AnyM.slices_Sort_string Tryz.sortA blk off cap C w M N O,λp cap w=>AnyM.slices_Sort_string_none Tryz.sortA p cap w⟩
def c_Sort(C:List Baa)(M:C.length<=1048576)(N:∀k ∈ C,k.size<=9223372036854775807):
  A4 prog 172 [.gref 1 C.length] [(1,.grow (C.map λk=>[sD k]) 1)] (.tup []) [(1,.grow ((AD C).map λk=>[sD k]) 1)]:=
 A4.of_sort Kq' sortsStr C M N
end Go.Ab
