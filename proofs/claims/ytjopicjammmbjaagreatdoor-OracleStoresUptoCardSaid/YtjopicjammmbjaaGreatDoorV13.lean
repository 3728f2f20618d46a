/- The layer by which the program is walked, and what its functions do: part 14 of 16. -/
import Derived.Test.YtjopicjammmbjaaGreatDoorV12
import Derived.Lib.ConvBytes
set_option maxHeartbeats 4000000
set_option maxRecDepth 20000
set_option linter.unusedVariables false
set_option linter.unusedSimpArgs false
set_option linter.unnecessarySimpa false
set_option linter.unusedSectionVars false
namespace Go.Ab
open Go.Proofs Go.Proofs.Tryz
def FD:List UInt8->Option (List UInt8)
 |[]=>none
 |x::l=>match FD l with
  |some r=>some (x::r)
  |none=>if x=255 then none else some [x+1]
theorem VG:∀ (p k:List UInt8),Lib.hasPrefix k p=(!decide (Bo k p<0)&&match FD p with|none=>true|some e=>decide (Bo k e<0))
 |[],k=>by cases k<;>simp [Lib.hasPrefix,Bo,FD]
 |x::l,[]=>by simp[Lib.hasPrefix,Bo]
 |x::l,y::m=>by
  have ih:=VG l m
  have hp:Lib.hasPrefix (y::m) (x::l)=(decide (y=x)&&Lib.hasPrefix m l):=by
   by_cases h:y=x
   ·simp[Lib.hasPrefix,h]
   ·have h':(x==y)=false:=by simpa using Ne.symm h
    simp[Lib.hasPrefix,List.isPrefixOf,h,h']
  rw[hp]
  by_cases hyx:y=x
  ·subst hyx
   simp only[decide_true,Bool.true_and,Bo,if_true]
   rw[ih]
   cases he:FD l with
   |some r=>simp [FD,he,Bo]
   |none=>
    simp only[FD,he]
    by_cases hx:y=255
    ·simp[hx]
    ·have hlt:y<y+1:=by
      rw[UInt8.lt_iff_toNat_lt,UInt8.toNat_add]
      have:y.toNat≠255:=fun h=>hx (UInt8.toNat_inj.1 h)
      have:=y.toNat_lt
      have h1:(1:UInt8).toNat=1:=rfl
      omega
     have hne:¬y=y+1:=UInt8.ne_of_lt hlt
     simp[hx,Bo,hne,hlt]
  ·simp only[hyx,decide_false,Bool.false_and]
   by_cases hl:y<x
   ·have:Bo (y::m) (x::l)<0:=by simp[Bo,hyx,hl]
    simp[this]
   ·have hgt:x<y:=by
     rcases Nat.lt_trichotomy x.toNat y.toNat with h|h|h
     ·exact UInt8.lt_iff_toNat_lt.2 h
     ·exact absurd (UInt8.toNat_inj.1 h).symm hyx
     ·exact absurd (UInt8.lt_iff_toNat_lt.2 h) hl
    have h1:¬Bo (y::m) (x::l)<0:=by simp[Bo,hyx,hl]
    simp only[h1,decide_false,Bool.not_false,Bool.true_and]
    cases he:FD l with
    |some r=>simp [FD,he,Bo,hyx,hl]
    |none=>
     simp only[FD,he]
     by_cases hx:x=255
     ·subst hx
      have:=UInt8.lt_iff_toNat_lt.1 hgt
      have:=y.toNat_lt
      have h2:(255:UInt8).toNat=255:=rfl
      omega
     ·simp only[hx,if_false]
      have hge:¬y<x+1:=by
       rw[UInt8.lt_iff_toNat_lt,UInt8.toNat_add]
       have:=UInt8.lt_iff_toNat_lt.1 hgt
       have h1:(1:UInt8).toNat=1:=rfl
       have:=y.toNat_lt
       omega
      by_cases h3:y=x+1
      ·subst h3
       have:¬Bo m []<0:=by cases m<;>simp [Bo]
       simp[Bo,this]
      ·simp[Bo,h3,hge]
def HA(p:ByteArray):ByteArray×Bool:=match FD p.data.toList with|none=>(ByteArray.empty,false)|some l=>(⟨l.toArray⟩,true)
theorem Yg(p:ByteArray)(l:List GE):Cu p (HA p).1 (!(HA p).2) l=Bs p l:=by
 unfold Cu Bs
 congr 1
 funext e
 have h:=VG p.data.toList e.1.data.toList
 unfold C1
 rw[h]
 unfold JE HA
 cases he:FD p.data.toList with
 |none=>simp [ltS,Ep,bl];rfl
 |some r=>simp [ltS,Ep,bl];rfl
theorem L3{k:ByteArray}{l:List GE}(hs:Srt l):(∃ v,(k,v) ∈ l)↔(Ah k l).isSome=true:=by
 unfold Ah
 rw[Option.isSome_map,List.find?_isSome]
 constructor
 ·rintro⟨v,hv⟩;exact⟨_,hv,by simp⟩
 ·rintro⟨⟨k',v⟩,hv,hk⟩
  simp only[decide_eq_true_eq] at hk
  subst hk
  exact⟨v,hv⟩
theorem Srt.keys{l:List GE}(h:Srt l):(l.map (·.1)).Nodup:=by
 unfold List.Nodup
 rw[List.pairwise_map]
 exact h.imp fun h=>Es h
theorem YY{q:OQ}{l:List GE}(hs:Srt l)(hch:Do q.es q.ck)(p:ByteArray):
  ((Bs p l).flatMap (H3 q)++q.es.flatMap (El p)).Perm ((Bs p (q.view l)).map (·.1)):=by
 have hsv:Srt (q.view l):=Da _ hs
 have hb:∀ {l:List GE},Srt l->Srt (Bs p l):=fun h=>List.Pairwise.sublist List.filter_sublist h
 have m1:∀ k,k ∈ (Bs p l).flatMap (H3 q)↔C1 k p=true/\(Ah k l).isSome=true/\lk q.es k=none:=by
  intro k
  rw[A1F]
  constructor
  ·rintro⟨x,hx,hk⟩
   unfold H3 at hk
   split at hk
   ·cases hk
   ·rename_i hn
    rw[A0d.1 hk]
    obtain⟨h1,h2⟩:=A11.1 hx
    exact⟨h2,(L3 hs).1 ⟨x.2,h1⟩,by simpa using hn⟩
  ·rintro⟨h1,h2,h3⟩
   obtain⟨v,hv⟩:=(L3 hs).2 h2
   exact⟨(k,v),A11.2 ⟨hv,h1⟩,by unfold H3;simp[h3]⟩
 have m2:∀ k,k ∈ q.es.flatMap (El p)↔C1 k p=true/\∃ v,lk q.es k=some (true,v):=by
  intro k
  rw[A1F]
  constructor
  ·rintro⟨⟨xk,xn,xb,xv⟩,hx,hk⟩
   unfold El at hk
   split at hk
   ·rename_i hn
    rw[A0d.1 hk]
    simp only[A0c] at hn
    obtain⟨h1,h2⟩:=hn
    subst h1
    exact⟨h2,xv,KX hch.keys hx⟩
   ·cases hk
  ·rintro⟨h1,v,h2⟩
   obtain⟨n,hn⟩:=Uk h2
   exact⟨(k,n,true,v),hn,by unfold El;simp[h1]⟩
 refine(List.perm_ext_iff_of_nodup ?_ (hb hsv).keys).2 fun k=>?_
 ·rw[List.nodup_append]
  refine⟨?_,?_,fun a ha b' hb'=>?_⟩
  ·have:∀ {l:List GE},(l.map (·.1)).Nodup->(l.flatMap (H3 q)).Nodup/\∀ k ∈ l.flatMap (H3 q),k ∈ l.map (·.1):=by
    intro l
    induction l with
    |nil=>intro _;simp
    |cons x l ih=>
     intro hn
     rw[A0k,A1h] at hn
     obtain⟨i1,i2⟩:=ih hn.2
     rw[A0I]
     rcases(show H3 q x=[]∨H3 q x=[x.1] by unfold H3;split<;>simp) with hx|hx<;>rw [hx]
     ·refine⟨by simpa using i1,fun k hk=>?_⟩
      exact A0l _ (i2 k (by simpa using hk))
     ·refine⟨?_,fun k hk=>?_⟩
      ·rw[A1U,A1h]
       exact⟨fun h=>hn.1 (i2 _ h),i1⟩
      ·rw[A1U] at hk
       rcases A0o.1 hk with rfl|hk
       ·simp
       ·exact A0l _ (i2 k hk)
   exact(this (hb hs).keys).1
  ·have:∀ {l:List CE},(l.map (·.1)).Nodup->(l.flatMap (El p)).Nodup/\∀ k ∈ l.flatMap (El p),k ∈ l.map (·.1):=by
    intro l
    induction l with
    |nil=>intro _;simp
    |cons x l ih=>
     intro hn
     rw[A0k,A1h] at hn
     obtain⟨i1,i2⟩:=ih hn.2
     rw[A0I]
     rcases(show El p x=[]∨El p x=[x.1] by unfold El;split<;>simp) with hx|hx<;>rw [hx]
     ·refine⟨by simpa using i1,fun k hk=>?_⟩
      exact A0l _ (i2 k (by simpa using hk))
     ·refine⟨?_,fun k hk=>?_⟩
      ·rw[A1U,A1h]
       exact⟨fun h=>hn.1 (i2 _ h),i1⟩
      ·rw[A1U] at hk
       rcases A0o.1 hk with rfl|hk
       ·simp
       ·exact A0l _ (i2 k hk)
   exact(this hch.keys).1
  ·rintro rfl
   obtain⟨_,_,h1⟩:=(m1 a).1 ha
   obtain⟨_,v,h2⟩:=(m2 a).1 hb'
   rw[h1] at h2;cases h2
 ·rw[A1a,m1,m2]
  have hr:k ∈ (Bs p (q.view l)).map (·.1)↔C1 k p=true/\(Ah k (q.view l)).isSome=true:=by
   rw[<-L3 hsv,A0j]
   constructor
   ·rintro⟨x,hx,rfl⟩
    obtain⟨h1,h2⟩:=A11.1 hx
    exact⟨h2,x.2,h1⟩
   ·rintro⟨h1,v,h2⟩
    exact⟨(k,v),A11.2 ⟨h2,h1⟩,rfl⟩
  rw[hr]
  have hg:=Cz k q.es l hch.keys
  show _↔_/\(Ah k (FI q.es l)).isSome=true
  rw[hg]
  cases hk:lk q.es k with
  |none=>simp
  |some s=>
   obtain⟨sb,sv⟩:=s
   cases sb<;>simp [LL]
theorem RV{b:GT}{q:OQ}{l:List GE}(h:Ey b q l)(hl:l.length+q.es.length<=1048576)(hls:∀ e ∈ l,e.1.size<=64)(p:ByteArray)(hE:A3 prog 202 [.val (.string p)] (.tup [.val (.string (HA p).1),.val (.bool (HA p).2)])):
  A4 prog 121 [.ref 1 0 0 3,.val (.string p)] (oqH b q) (.slice (((Bs p (q.view l)).map (·.1)).map fun k=>[.val (.string k)]) false) (oqH b q):=by
 have hP:=XF b q l h.tr hl h.ch hls p _ _ hE
 rw[Yg] at hP
 have hsv:Srt (q.view l):=Da _ h.tr.srt
 have hs:((Bs p (q.view l)).map (·.1)).Pairwise fun x y=>ltS x y=true:=by
  rw[List.pairwise_map]
  exact List.Pairwise.sublist List.filter_sublist hsv
 rw[Yc (YY h.tr.srt h.ch p) hs] at hP
 exact hP
noncomputable def mvF(p t:ByteArray)(L:List GE)(e:GE):Int:=if C7 (BL e.1 p t)≠0 then 8 else if CG (BL e.1 p t) L=true/\C1 (BL e.1 p t) p=false then 13 else 0
noncomputable abbrev mvT(p t:ByteArray)(e:GE):GE:=(BL e.1 p t,e.2)
theorem JZ(p t:ByteArray)(L:List GE)(e:GE)(g:List GE):Gu p t L (e::g)=if mvF p t L e≠0 then(mvF p t L e,[]) else((Gu p t L g).1,mvT p t e::(Gu p t L g).2):=by
 simp only[Gu,mvF]
 split
 ·simp
 ·split
  ·simp
  ·simp
theorem MB{p t:ByteArray}{L:List GE}:∀ {G:List GE},(∀ e ∈ G,mvF p t L e=0)->Gu p t L G=(0,G.map (mvT p t))
 |[],_=>rfl
 |e::g,h=>by
  rw[JZ,if_neg (by simp[h e A0C]),MB fun x hx=>h x (A0l _ hx)];rfl
theorem KQ{p t:ByteArray}{L:List GE}:∀ {G:List GE},(Gu p t L G).1=0->∀ e ∈ G,mvF p t L e=0
 |[],_,e,he=>by cases he
 |x::g,h,e,he=>by
  rw[JZ] at h
  split at h
  ·rename_i h1;exact absurd h h1
  ·rename_i h1
   rcases A0o.1 he with rfl|he
   ·simpa using h1
   ·exact KQ h e he
theorem MA{p t:ByteArray}{L:List GE}:∀ {G:List GE},(Gu p t L G).1≠0->∃ J,J<G.length/\(∀ j,j<J->mvF p t L (G.getD j zM)=0)/\mvF p t L (G.getD J zM)≠0/\(Gu p t L G).1=mvF p t L (G.getD J zM)
 |[],h=>by simp[Gu] at h
 |x::g,h=>by
  rw[JZ] at h|-
  by_cases h1:mvF p t L x≠0
  ·exact⟨0,by simp,fun j hj=>by omega,by simpa using h1,by rw[if_pos h1];simp⟩
  ·rw[if_neg h1] at h|-
   obtain⟨J,a,b,c,d⟩:=MA (G:=g) h
   refine⟨J+1,by simpa using a,fun j hj=>?_,by simpa using c,by simpa using d⟩
   cases j with
   |zero=>simpa using h1
   |succ j=>simpa using b j (by omega)
theorem Mz{p t:ByteArray}{L:List GE}{e:GE}(h:mvF p t L e=0):C7 (BL e.1 p t)=0/\¬(CG (BL e.1 p t) L=true/\C1 (BL e.1 p t) p=false):=by
 unfold mvF at h
 split at h
 ·cases h
 ·rename_i h1
  split at h
  ·cases h
  ·rename_i h2;exact⟨by simpa using h1,h2⟩
structure VOk(L:List GE):Prop where
 srt:Srt L
 key:∀ e ∈ L,C7 e.1=0
 fit:∀ e ∈ L,Al e.2=0
 sm:∀ e ∈ L,Sm e.2
theorem VOk.nil:VOk []:=⟨List.Pairwise.nil,by simp,by simp,by simp⟩
theorem VOk.put{L:List GE}(h:VOk L){k:ByteArray}{v:GV}(hk:C7 k=0)(hf:Al v=0)(hs:Sm v):VOk (AU (k,v) L):=
 ⟨Ek h.srt,fun e he=>(A00 he).elim (fun e'=>by rw[e'];exact hk) (h.key e),fun e he=>(A00 he).elim (fun e'=>by rw[e'];exact hf) (h.fit e),fun e he=>(A00 he).elim (fun e'=>by rw[e'];exact hs) (h.sm e)⟩
theorem VOk.sub{L L':List GE}(h:VOk L)(hs:L'.Sublist L):VOk L':=
 ⟨h.srt.sublist hs,fun e he=>h.key e (hs.subset he),fun e he=>h.fit e (hs.subset he),fun e he=>h.sm e (hs.subset he)⟩
theorem VOk.rem{L:List GE}(h:VOk L)(k:ByteArray):VOk (BE k L):=h.sub List.filter_sublist
theorem DC{f:Int}{k:ByteArray}(h:Bv f k=0):C7 k=0/\f=0:=by
 unfold Bv at h
 split at h
 ·exact⟨by assumption,h⟩
 ·cases h
abbrev Dg(g R:List GE):List GE:=g.foldl (fun R e=>AU e R) R
theorem Hm{F:GV->Int}:∀ {g R:List GE},(∀ e ∈ g,Bv (F e.2) e.1=0)->Q4 F g R=(0,Dg g R)
 |[],R,_=>rfl
 |e::g,R,h=>by
  simp only[Q4]
  rw[if_pos (h e (by simp)),Hm fun x hx=>h x (by simp[hx])]
  rfl
theorem MS:∀ {g R:List GE},(∀ e ∈ g,C7 e.1=0/\Al e.2=0/\Sm e.2)->VOk R->VOk (Dg g R)/\(Dg g R).length<=R.length+g.length
 |[],R,_,h=>⟨h,A0e _⟩
 |e::g,R,hg,h=>by
  obtain⟨h1,h2,h3⟩:=hg e (by simp)
  obtain⟨a,b⟩:=MS (g:=g) (R:=AU e R) (fun x hx=>hg x (by simp[hx])) (h.put (k:=e.1) (v:=e.2) h1 h2 h3)
  refine⟨a,A0L b ?_⟩
  have:=(CY e R).1
  simp only[A0g];omega
theorem Tc(p:ByteArray)(L:List GE):(E3 p L).length+(Bs p L).length=L.length:=by
 unfold E3 Bs
 induction L with
 |nil=>rfl
 |cons e L ih=>
  simp only[List.filter_cons]
  cases C1 e.1 p<;>simp<;>omega
theorem Sc{p t:ByteArray}{L:List GE}(hL:VOk L)(h:(Gu p t L (Bs p L)).1=0):CP Al p t L=(0,Dg ((Bs p L).map (mvT p t)) (E3 p L))/\(∀ e ∈ (Bs p L).map (mvT p t),C7 e.1=0/\Al e.2=0/\Sm e.2):=by
 have hz:=KQ h
 have hg:∀ e ∈ (Bs p L).map (mvT p t),C7 e.1=0/\Al e.2=0/\Sm e.2:=fun e he=>by
  obtain⟨x,hx,rfl⟩:=A0j.1 he
  have hxL:=(A11.1 hx).1
  exact⟨(Mz (hz x hx)).1,hL.fit x hxL,hL.sm x hxL⟩
 refine⟨?_,hg⟩
 unfold CP
 rw[if_neg (by simp[h]),MB hz]
 exact Hm fun e he=>by
  obtain⟨h1,h2,_⟩:=hg e he
  simp[Bv,h1,h2]
noncomputable def Gn(m:GM)(L:List GE):List GE:=if (Bk Al m L).1=0 then(Bk Al m L).2 else L
theorem Qb{L:List GE}(h:VOk L)(k:ByteArray):Sm (AH (Ah k L))/\wtV (AH (Ah k L))<=1024:=by
 unfold Ah
 cases hf:L.find? fun x=>decide (x.1=k) with
 |none=>exact ⟨Sm_zV,by simp[AH,zV,wtV,Fw,J7]⟩
 |some e=>
  have he:=A1V hf
  exact⟨h.sm e he,QA (h.fit e he)⟩
theorem Qt(L:List GE)(k:ByteArray)(d:Int):Sm (E8 L k d):=.mk _ _ _ _ [] [] (by simp) (by simp) (by simp) (by simp) (NG _) (by decide) (by simp)
theorem Vw(L:List GE)(k:ByteArray)(d:Int):wtV (E8 L k d)=0:=by simp[E8,wtV,Fw,J7]
theorem Lg:∀ (a b:List GV),Fw (a++b)=Fw a+Fw b
 |[],b=>by simp[Fw]
 |x::a,b=>by simp only[A07,Fw,Lg a b];omega
theorem Ra{L:List GE}(h:VOk L)(k:ByteArray){x:GV}(hx:Sm x):Sm (D9 L k x)/\wtV (D9 L k x)<=2048+wtV x:=by
 obtain⟨h1,h2⟩:=Qb h k
 rw[XV] at h2
 constructor
 ·refine .mk _ _ _ _ _ [] ?_ (by simp) (fun y hy=>?_) (by simp) (by decide) (by decide) (by simp)
  ·rw[A08];simp only[A0g,A0i];omega
  ·rcases A1a.1 hy with hy|hy
   ·exact h1.list y hy
   ·rw[A0d.1 hy];exact hx
 ·simp only[D9,wtV,Lg,Fw,J7,A08,A0g,A0i]
  simp
  omega
theorem SmU.parts{m:GM}(h:SmU m):Sm m.was/\Sm m.value/\m.list.length<=1048576/\∀ x ∈ m.list,SmU x:=by
 cases h;exact⟨by assumption,by assumption,by assumption,by assumption⟩
theorem casL_ok{m:GM}{L:List GE}{f:Int}(h:QJ m L f=0):SZ m L f=(if m.has=true then AU (m.key,m.value) L else BE m.key L)/\(m.has=true->Bv f m.key=0):=by
 unfold QJ at h
 unfold SZ
 split at h
 ·rename_i hs
  rw[if_pos hs]
  split at h
  ·rename_i hh
   rw[if_pos hh,if_pos h,if_pos hh]
   exact⟨rfl,fun _=>h⟩
  ·rename_i hh
   rw[if_neg hh,if_neg hh]
   exact⟨rfl,fun e=>absurd e hh⟩
 ·cases h
mutual
theorem JO:∀ (m:GM) (L:List GE),SmU m->VOk L->VOk (Gn m L)/\(Gn m L).length<=L.length+AQ m
 |.mk kd k t n h w i v l,L,hm,hL=>by
  have hz:1<=AQ (.mk kd k t n h w i v l):=by simp[AQ]
  obtain⟨m1,m2,m3,m4⟩:=hm.parts
  simp only[GM.was,GM.value,GM.list] at m1 m2 m3 m4
  have triv:VOk L/\L.length<=L.length+AQ (.mk kd k t n h w i v l):=⟨hL,by omega⟩
  have hput:∀ v',Al v'=0->C7 k=0->Sm v'->VOk (AU (k,v') L)/\(AU (k,v') L).length<=L.length+AQ (.mk kd k t n h w i v l):=fun v' h1 h2 h3=>⟨hL.put h2 h1 h3,by have:=(CY (k,v') L).1;omega⟩
  have hrem:VOk (BE k L)/\(BE k L).length<=L.length+AQ (.mk kd k t n h w i v l):=⟨hL.rem k,by have:(BE k L).length<=L.length:=A0Y _ _;omega⟩
  unfold Gn
  by_cases hc:(Bk Al (.mk kd k t n h w i v l) L).1=0
  ·rw[if_pos hc]
   simp only[Bk] at hc|-
   by_cases k1:kd=1
   ·simp only[if_pos k1] at hc|-
    rw[if_pos hc]
    exact hput v (DC hc).2 (DC hc).1 m2
   ·simp only[if_neg k1] at hc|-
    by_cases k2:kd=2
    ·simp only[if_pos k2] at hc|-
     by_cases hh:CG k L=true
     ·rw[if_pos hh];exact hrem
     ·rw[if_neg hh] at hc;exact absurd (show(12:Int)=0 from hc) (by decide)
    ·simp only[if_neg k2] at hc|-
     by_cases k3:kd=3
     ·simp only[if_pos k3] at hc|-
      rw[if_pos hc]
      unfold FX at hc
      split at hc
      ·cases hc
      ·split at hc
       ·cases hc
       ·exact hput _ (DC hc).2 (DC hc).1 (Qt L k n)
     ·simp only[if_neg k3] at hc|-
      by_cases k4:kd=4
      ·simp only[if_pos k4] at hc|-
       obtain⟨e1,e2⟩:=casL_ok hc
       rw[e1]
       change VOk (if i=true then AU (k,v) L else BE k L)/\(if i=true then AU (k,v) L else BE k L).length<=_
       cases i with
       |true=>exact hput v (DC (e2 rfl)).2 (DC (e2 rfl)).1 m2
       |false=>exact hrem
      ·simp only[if_neg k4] at hc|-
       by_cases k5:kd=5
       ·simp only[if_pos k5] at hc|-
        rw[if_pos hc]
        unfold G8 at hc
        split at hc
        ·cases hc
        ·split at hc
         ·cases hc
         ·exact hput _ (DC hc).2 (DC hc).1 (Ra hL k m2).1
       ·simp only[if_neg k5] at hc|-
        by_cases k6:kd=6
        ·simp only[if_pos k6] at hc|-
         by_cases hmv:(Gu k t L (Bs k L)).1=0
         ·obtain⟨e1,e2⟩:=Sc hL hmv
          rw[e1]
          obtain⟨a,b⟩:=MS e2 (hL.sub (L':=E3 k L) List.filter_sublist)
          have hb:=Tc k L
          rw[A0b] at b
          refine⟨a,?_⟩
          show(Dg ((Bs k L).map (mvT k t)) (E3 k L)).length<=_
          omega
         ·unfold CP at hc
          rw[if_pos hmv] at hc
          exact absurd hc hmv
        ·simp only[if_neg k6] at hc|-
         by_cases k7:kd=7
         ·simp only[if_pos k7] at hc|-
          by_cases hs:k.size≠0/\DU (.mk kd k t n h w i v l) L=false
          ·rw[if_pos hs] at hc;exact absurd (show(13:Int)=0 from hc) (by decide)
          ·rw[if_neg hs] at hc|-
           obtain⟨a,b⟩:=Rt l L m4 hL hc
           refine⟨a,?_⟩
           simp only[AQ];omega
         ·simp only[if_neg k7] at hc
          exact absurd (show(9:Int)=0 from hc) (by decide)
  ·rw[if_neg hc];exact triv
theorem Rt:∀ (l:List GM) (L:List GE),(∀ x ∈ l,SmU x)->VOk L->(Cl Al l L).1=0->VOk (Cl Al l L).2/\(Cl Al l L).2.length<=L.length+Bf l
 |[],L,_,hL,_=>⟨hL,by simp[Cl]⟩
 |m::l,L,hm,hL,hc=>by
  simp only[Cl] at hc|-
  by_cases h:(Bk Al m L).1=0
  ·rw[if_pos h] at hc|-
   obtain⟨a,b⟩:=JO m L (hm m (by simp)) hL
   have e:Gn m L=(Bk Al m L).2:=by unfold Gn;rw[if_pos h]
   rw[e] at a b
   obtain⟨c,d⟩:=Rt l _ (fun x hx=>hm x (by simp[hx])) a hc
   exact⟨c,by simp only[Bf];omega⟩
  ·rw[if_neg h] at hc;exact absurd hc h
end
theorem Sw{L:List GE}(hs:Srt L){x:GE}(hx:x ∈ L):Ah x.1 L=some x.2:=by
 have hn:=hs.keys
 unfold Ah
 have h1:(L.find? fun y=>decide (y.1=x.1))=some x:=by
  induction L with
  |nil=>cases hx
  |cons y L ih=>
   simp only[List.find?_cons]
   by_cases hy:y.1=x.1
   ·rw[decide_eq_true hy]
    rcases A0o.1 hx with rfl|hx
    ·rfl
    ·have:=Es (hs.head x hx)
     exact absurd hy this
   ·rw[decide_eq_false hy]
    rcases A0o.1 hx with rfl|hx
    ·exact absurd rfl hy
    ·exact ih hs.tail hx hs.tail.keys
 rw[h1];rfl
section
variable{b:GT}{q:OQ}{l:List GE}(h:Ey b q l)(hl:l.length+q.es.length<=1048576)(hls:∀ e ∈ l,e.1.size<=64)(p t:ByteArray)(hp:p.size<=1048576)(ht:t.size<=1048576)(hvs:∀ e ∈ q.view l,e.1.size<=64/\Sm e.2)(hE:A3 prog 202 [.val (.string p)] (.tup [.val (.string (HA p).1),.val (.bool (HA p).2)]))
include h hl hls hp ht hvs hE
variable(hvl:(q.view l).length<=1048576)
include hvl
theorem q_moveE(G:List GE)(hG:Bs p (q.view l)=G)(J:Nat)(hJ:J<G.length)(h0:∀ j,j<J->mvF p t (q.view l) (G.getD j zM)=0)(hc:mvF p t (q.view l) (G.getD J zM)≠0):
  A4 prog 82 [.ref 1 0 0 3,.val (.string p),.val (.string t)] (oqH b q) (.val (.int .i64 (mvF p t (q.view l) (G.getD J zM)))) (oqH b q):=by
 have hP:=RV h hl hls p hE
 have hGet:=fun k=>Vf h (by omega) k
 have oB:=A5 b
 have hGm:∀ j,j<G.length->G.getD j zM ∈ q.view l/\C1 (G.getD j zM).1 p=true:=fun j hj=>by
  have:=Ad (d:=zM) hj
  generalize G.getD j zM=x at this|-
  rw[<-hG] at this
  exact A11.1 this
 have hGl:G.length<=1048576:=by
  rw[<-hG]
  exact A0L (A0Y _ _) hvl
 rw[hG] at hP
 have e1:((G.map (·.1)).map fun k=>[D.val (.string k)])=G.map fun e=>[D.val (.string e.1)]:=by rw[A1o];rfl
 rw[e1] at hP
 have oG:Am (G.map fun e=>[D.val (.string e.1)])=true:=AA (fun _=>rfl) G
 simp only[oqH] at hP hGet|-
 refine Zd [] func82 rfl ntmps82 results82 ?_
 (have z:=Za oB oG;(try push_cast[z])<;>repeat' (first|apply Zi<;>intro _|refine Zs [(1,1),(2,2),(4,4)] hP ?_|exact Zo|with_reducible apply Za)<;>try push_cast[z])
 refine Zl (fun i=>i<=J) (fun i=>⟨[(8,.gref 46 i),(27,.val (.int .i64 i)),(26,.val (.int .i64 G.length)),(25,.slice (G.map fun e=>[.val (.string e.1)]) false),(7,.slice (G.map fun e=>[.val (.string e.1)]) false),(0,.ref 1 0 0 3),(1,.val (.string p)),(2,.val (.string t))],[(46,.grow ((G.take i).map fun e=>Ac (mvT p t e)) 7),(1,.rows [[Ag b,cD 42 q,.gref 44 q.us.length]] 3),(42,cB q),(44,.grow (q.us.map fun u=>[Bj u]) 1)],200⟩) (fun i=>J-i) 0 (by simp) ?_ fun i hi=>?_
 ·refine Ar.trans (s':=⟨(8,.slice [] true)::[(27,.val (.int .i64 0)),(26,.val (.int .i64 G.length)),(25,.slice (G.map fun e=>[.val (.string e.1)]) false),(7,.slice (G.map fun e=>[.val (.string e.1)]) false),(0,.ref 1 0 0 3),(1,.val (.string p)),(2,.val (.string t))],[(1,.rows [[Ag b,cD 34 q,.gref 36 q.us.length]] 3),(34,cB q),(36,.grow (q.us.map fun u=>[Bj u]) 1)],40⟩) (by apply Zw<;>push_cast [oB,oG]) (Ar.trans (Ar.nilgrowE 7) ?_)
  apply Zr [(46,80),(42,34),(44,36)] rfl<;>push_cast [oB,oG]
 ·push_cast[oB,oG]
  refine A6 (fun ha=>?_) (fun ha=>?_)
  ·have hi':i<G.length:=by simpa using ha
   have e1:=DL (f:=fun e:GE=>[D.val (.string e.1)]) zM hi'
   obtain⟨m1,m2⟩:=hGm i hi'
   obtain⟨m3,m4⟩:=hvs _ m1
   generalize hx:G.getD i zM=x at*
   have hT:=c_Turn x.1 p t m2 ⟨by omega,ht⟩
   change A3 _ _ _ (if C7 (BL x.1 p t)=0 then .tup [.val (.string (BL x.1 p t)),.val (.int .i64 0)] else .tup [.val (.string ByteArray.empty),.val (.int .i64 (C7 (BL x.1 p t)))]) at hT
   have hG1:=hGet (BL x.1 p t)
   have hG2:=hGet x.1
   have hB:=Nu (BL x.1 p t) p
   rcases A0v i J with hij|hij
   ·have h00:=h0 i hij
    rw[hx] at h00
    obtain⟨z1,z2⟩:=Mz h00
    rw[if_pos z1] at hT
    rw[F9] at z2
    generalize hu:BL x.1 p t=u at*
    have hv2:=Sw h.srt m1
    rw[hv2,show AH (some x.2)=x.2 from rfl] at hG2
    have tl:(G.take i).length=i:=by rw[A0s];omega
    have tk:((G.take i).map fun e=>Ac (mvT p t e))++[.val (.string u)::Aa x.2]=(G.take (i+1)).map fun e=>Ac (mvT p t e):=by
     rw[A10 hi',A12]
     have:G[i]=x:=by rw[<-hx,A03,A06 hi'];rfl
     simp[this,mvT,hu,Ao]
    cases hs:(Ah u (q.view l)).isSome with
    |false=>
     rw[hs] at hG1
     (have z:=Za oB<|Za oG e1;(try push_cast[z])<;>repeat' (first|apply Zi<;>intro _|refine Zc hT ?_|refine Zs [(1,1),(2,42),(4,44)] hG1 ?_|refine Zs [(1,1),(2,538),(4,540)] hG2 ?_|exact Zo|with_reducible apply Za)<;>try push_cast[z])
     all_goals first|omega|(intro y hy;rw[A0d.1 hy];exact AT (u,x.2))|(intro y hy;rw[A0d.1 hy];exact A0p.1 (Cf (u,x.2)))|skip
     rw[tk,tl]
     refine⟨i+1,hij,by omega,?_⟩
     have w1:IntKind.i64.wrap (↑i+1)=↑i+1:=A9 (by omega) (by omega)
     have oK:Am ((G.take (i+1)).map fun e=>Ac (mvT p t e))=true:=AA (fun _=>Bd _) _
     apply Zr [(46,760),(42,666),(44,668)] rfl<;>push_cast [oB,oG,w1,oK]
    |true=>
     rw[hs] at hG1
     have hb:C1 u p=true:=by
      cases hb:C1 u p with
      |true=>rfl
      |false=>exact absurd ⟨hs,hb⟩ z2
     rw[hb] at hB
     (have z:=Za oB<|Za oG e1;(try push_cast[z])<;>repeat' (first|apply Zi<;>intro _|refine Zc hT ?_|refine Zs [(1,1),(2,42),(4,44)] hG1 ?_|refine Zc hB ?_|refine Zs [(1,1),(2,538),(4,540)] hG2 ?_|exact Zo|with_reducible apply Za)<;>try push_cast[z])
     all_goals first|omega|(intro y hy;rw[A0d.1 hy];exact AT (u,x.2))|(intro y hy;rw[A0d.1 hy];exact A0p.1 (Cf (u,x.2)))|skip
     rw[tk,tl]
     refine⟨i+1,hij,by omega,?_⟩
     have w1:IntKind.i64.wrap (↑i+1)=↑i+1:=A9 (by omega) (by omega)
     have oK:Am ((G.take (i+1)).map fun e=>Ac (mvT p t e))=true:=AA (fun _=>Bd _) _
     apply Zr [(46,760),(42,666),(44,668)] rfl<;>push_cast [oB,oG,w1,oK]
   ·obtain rfl:i=J:=by omega
    rw[hx] at hc|-
    unfold mvF at hc|-
    rw[F9] at hc|-
    generalize hu:BL x.1 p t=u at*
    by_cases z1:C7 u=0
    ·rw[if_pos z1] at hT
     rw[if_neg (by simp[z1])] at hc|-
     by_cases z2:(Ah u (q.view l)).isSome=true/\C1 u p=false
     ·rw[if_pos z2]
      obtain⟨hs,hb⟩:=z2
      rw[hs] at hG1
      rw[hb] at hB
      (have z:=Za oB<|Za oG e1;(try push_cast[z])<;>repeat' (first|apply Zi<;>intro _|refine Zc hT ?_|refine Zs [(1,1),(2,42),(4,44)] hG1 ?_|refine Zc hB ?_|exact Zo|with_reducible apply Za)<;>try push_cast[z])
      all_goals first|omega|skip
      apply Zr [(2,538),(4,540)] rfl<;>push_cast [oB,oG]
     ·rw[if_neg z2] at hc;exact absurd rfl hc
    ·rw[if_neg z1] at hT
     rw[if_pos z1]
     have b1:(C7 u !=0)=true:=by simpa using z1
     generalize C7 u=c at*
     (have z:=Za oB<|Za oG<|Za e1 b1;(try push_cast[z])<;>repeat' (first|apply Zi<;>intro _|refine Zc hT ?_|exact Zo|with_reducible apply Za)<;>try push_cast[z])
     all_goals first|omega|skip
     apply Zr [(2,42),(4,44)] rfl<;>push_cast [oB,oG]
  ·exact absurd ha (by simp;omega)
theorem q_move0(G:List GE)(hG:Bs p (q.view l)=G)(h0:∀ j,j<G.length->mvF p t (q.view l) (G.getD j zM)=0)(Q2 Q3:Nat->OQ)(c2:Nat->Bool)(hQ2:Q2 0=q)(hQ3:Q3 0=Q2 G.length)
  (hD:∀ i,i<G.length->A4 prog 78 [.ref 1 0 0 3,.val (.string (G.getD i zM).1)] (oqH b (Q2 i)) (.val (.bool (c2 i))) (oqH b (Q2 (i+1))))
  (hPut:∀ i,i<G.length->A4 prog 77 [.ref 1 0 0 3,.val (.string (mvT p t (G.getD i zM)).1),.agg (Aa (G.getD i zM).2)] (oqH b (Q3 i)) (.val (.int .i64 0)) (oqH b (Q3 (i+1)))):
  A4 prog 82 [.ref 1 0 0 3,.val (.string p),.val (.string t)] (oqH b q) (.val (.int .i64 0)) (oqH b (Q3 G.length)):=by
 have hP:=RV h hl hls p hE
 have hGet:=fun k=>Vf h (by omega) k
 have oB:=A5 b
 have hGm:∀ j,j<G.length->G.getD j zM ∈ q.view l/\C1 (G.getD j zM).1 p=true:=fun j hj=>by
  have:=Ad (d:=zM) hj
  generalize G.getD j zM=x at this|-
  rw[<-hG] at this
  exact A11.1 this
 have hGl:G.length<=1048576:=by
  rw[<-hG]
  exact A0L (A0Y _ _) hvl
 rw[hG] at hP
 have e1:((G.map (·.1)).map fun k=>[D.val (.string k)])=G.map fun e=>[D.val (.string e.1)]:=by rw[A1o];rfl
 rw[e1] at hP
 have oG:Am (G.map fun e=>[D.val (.string e.1)])=true:=AA (fun _=>rfl) G
 simp only[oqH] at hP hGet hD hPut|-
 refine Zd [] func82 rfl ntmps82 results82 ?_
 (have z:=Za oB oG;(try push_cast[z])<;>repeat' (first|apply Zi<;>intro _|refine Zs [(1,1),(2,2),(4,4)] hP ?_|exact Zo|with_reducible apply Za)<;>try push_cast[z])
 refine Zl (fun i=>i<=G.length) (fun i=>⟨[(8,.gref 46 i),(27,.val (.int .i64 i)),(26,.val (.int .i64 G.length)),(25,.slice (G.map fun e=>[.val (.string e.1)]) false),(7,.slice (G.map fun e=>[.val (.string e.1)]) false),(0,.ref 1 0 0 3),(1,.val (.string p)),(2,.val (.string t))],[(46,.grow ((G.take i).map fun e=>Ac (mvT p t e)) 7),(1,.rows [[Ag b,cD 42 q,.gref 44 q.us.length]] 3),(42,cB q),(44,.grow (q.us.map fun u=>[Bj u]) 1)],200⟩) (fun i=>G.length-i) 0 (by simp) ?_ fun i hi=>?_
 ·refine Ar.trans (s':=⟨(8,.slice [] true)::[(27,.val (.int .i64 0)),(26,.val (.int .i64 G.length)),(25,.slice (G.map fun e=>[.val (.string e.1)]) false),(7,.slice (G.map fun e=>[.val (.string e.1)]) false),(0,.ref 1 0 0 3),(1,.val (.string p)),(2,.val (.string t))],[(1,.rows [[Ag b,cD 34 q,.gref 36 q.us.length]] 3),(34,cB q),(36,.grow (q.us.map fun u=>[Bj u]) 1)],40⟩) (by apply Zw<;>push_cast [oB,oG]) (Ar.trans (Ar.nilgrowE 7) ?_)
  apply Zr [(46,80),(42,34),(44,36)] rfl<;>push_cast [oB,oG]
 ·push_cast[oB,oG]
  refine A6 (fun ha=>?_) (fun ha=>?_)
  ·have hi':i<G.length:=by simpa using ha
   have e1:=DL (f:=fun e:GE=>[D.val (.string e.1)]) zM hi'
   obtain⟨m1,m2⟩:=hGm i hi'
   obtain⟨m3,m4⟩:=hvs _ m1
   generalize hx:G.getD i zM=x at*
   have hT:=c_Turn x.1 p t m2 ⟨by omega,ht⟩
   change A3 _ _ _ (if C7 (BL x.1 p t)=0 then .tup [.val (.string (BL x.1 p t)),.val (.int .i64 0)] else .tup [.val (.string ByteArray.empty),.val (.int .i64 (C7 (BL x.1 p t)))]) at hT
   have hG1:=hGet (BL x.1 p t)
   have hG2:=hGet x.1
   have hB:=Nu (BL x.1 p t) p
   ·have hij:=hi'
    have h00:=h0 i hij
    rw[hx] at h00
    obtain⟨z1,z2⟩:=Mz h00
    rw[if_pos z1] at hT
    rw[F9] at z2
    generalize hu:BL x.1 p t=u at*
    have hv2:=Sw h.srt m1
    rw[hv2,show AH (some x.2)=x.2 from rfl] at hG2
    have tl:(G.take i).length=i:=by rw[A0s];omega
    have tk:((G.take i).map fun e=>Ac (mvT p t e))++[.val (.string u)::Aa x.2]=(G.take (i+1)).map fun e=>Ac (mvT p t e):=by
     rw[A10 hi',A12]
     have:G[i]=x:=by rw[<-hx,A03,A06 hi'];rfl
     simp[this,mvT,hu,Ao]
    cases hs:(Ah u (q.view l)).isSome with
    |false=>
     rw[hs] at hG1
     (have z:=Za oB<|Za oG e1;(try push_cast[z])<;>repeat' (first|apply Zi<;>intro _|refine Zc hT ?_|refine Zs [(1,1),(2,42),(4,44)] hG1 ?_|refine Zs [(1,1),(2,538),(4,540)] hG2 ?_|exact Zo|with_reducible apply Za)<;>try push_cast[z])
     all_goals first|omega|(intro y hy;rw[A0d.1 hy];exact AT (u,x.2))|(intro y hy;rw[A0d.1 hy];exact A0p.1 (Cf (u,x.2)))|skip
     rw[tk,tl]
     refine⟨i+1,hij,by omega,?_⟩
     have w1:IntKind.i64.wrap (↑i+1)=↑i+1:=A9 (by omega) (by omega)
     have oK:Am ((G.take (i+1)).map fun e=>Ac (mvT p t e))=true:=AA (fun _=>Bd _) _
     apply Zr [(46,760),(42,666),(44,668)] rfl<;>push_cast [oB,oG,w1,oK]
    |true=>
     rw[hs] at hG1
     have hb:C1 u p=true:=by
      cases hb:C1 u p with
      |true=>rfl
      |false=>exact absurd ⟨hs,hb⟩ z2
     rw[hb] at hB
     (have z:=Za oB<|Za oG e1;(try push_cast[z])<;>repeat' (first|apply Zi<;>intro _|refine Zc hT ?_|refine Zs [(1,1),(2,42),(4,44)] hG1 ?_|refine Zc hB ?_|refine Zs [(1,1),(2,538),(4,540)] hG2 ?_|exact Zo|with_reducible apply Za)<;>try push_cast[z])
     all_goals first|omega|(intro y hy;rw[A0d.1 hy];exact AT (u,x.2))|(intro y hy;rw[A0d.1 hy];exact A0p.1 (Cf (u,x.2)))|skip
     rw[tk,tl]
     refine⟨i+1,hij,by omega,?_⟩
     have w1:IntKind.i64.wrap (↑i+1)=↑i+1:=A9 (by omega) (by omega)
     have oK:Am ((G.take (i+1)).map fun e=>Ac (mvT p t e))=true:=AA (fun _=>Bd _) _
     apply Zr [(46,760),(42,666),(44,668)] rfl<;>push_cast [oB,oG,w1,oK]
  ·have hi':i=G.length:=by simp at ha;omega
   subst hi'
   have oC:Am (G.map fun e=>Ac (mvT p t e))=true:=AA (fun _=>Bd _) G
   rw[A0Q]
   clear hGet hP
   (have z:=Za oB<|Za oG oC;(try push_cast[z])<;>repeat' (first|apply Zi<;>intro _|exact Zo|with_reducible apply Za)<;>try push_cast[z])
   subst hQ2
   refine Zl (fun i=>i<=G.length) (fun i=>⟨[(8,.gref 46 G.length),(68,.val (.int .i64 i)),(67,.val (.int .i64 G.length)),(66,.slice (G.map fun e=>[.val (.string e.1)]) false),(0,.ref 1 0 0 3)],[(46,.grow (G.map fun e=>Ac (mvT p t e)) 7),(1,.rows [[Ag b,cD 42 (Q2 i),.gref 44 (Q2 i).us.length]] 3),(42,cB (Q2 i)),(44,.grow ((Q2 i).us.map fun u=>[Bj u]) 1)],400⟩) (fun i=>G.length-i) 0 (by simp) ?_ fun i hi=>?_
   ·apply Zw<;>push_cast [oB,oG,oC]
   ·push_cast[oB,oG,oC]
    refine A6 (fun hb=>?_) (fun hb=>?_)
    ·have hi':i<G.length:=by simpa using hb
     have e1:=DL (f:=fun e:GE=>[D.val (.string e.1)]) zM hi'
     have hd:=hD i hi'
     (have z:=Za oB<|Za oG<|Za oC e1;(try push_cast[z])<;>repeat' (first|apply Zi<;>intro _|refine Zs [(1,1),(2,42),(4,44)] (hd ..) ?_|exact Zo|with_reducible apply Za)<;>try push_cast[z])
     all_goals first|omega|skip
     refine⟨i+1,hi',by omega,?_⟩
     have w1:IntKind.i64.wrap (↑i+1)=↑i+1:=A9 (by omega) (by omega)
     apply Zr [(42,850),(44,852)] rfl<;>push_cast [oB,oG,oC,w1]
    ·have hi':i=G.length:=by simp at hb;omega
     subst hi'
     rw[<-hQ3]
     (have z:=Za oB<|Za oG oC;(try push_cast[z])<;>repeat' (first|apply Zi<;>intro _|exact Zo|with_reducible apply Za)<;>try push_cast[z])
     all_goals first|omega|skip
     refine Zl (fun i=>i<=G.length) (fun i=>⟨[(76,.gref 46 G.length),(78,.val (.int .i64 i)),(77,.val (.int .i64 G.length)),(0,.ref 1 0 0 3)],[(46,.grow (G.map fun e=>Ac (mvT p t e)) 7),(1,.rows [[Ag b,cD 42 (Q3 i),.gref 44 (Q3 i).us.length]] 3),(42,cB (Q3 i)),(44,.grow ((Q3 i).us.map fun u=>[Bj u]) 1)],800⟩) (fun i=>G.length-i) 0 (by simp) ?_ fun i hi=>?_
     ·apply Zw<;>push_cast [oB,oG,oC]
     ·push_cast[oB,oG,oC]
      refine A6 (fun hb=>?_) (fun hb=>?_)
      ·have hi':i<G.length:=by simpa using hb
       have e1:=DL (f:=fun e:GE=>Ac (mvT p t e)) zM hi'
       have hd:=hPut i hi'
       rw[Ao] at e1
       generalize G.getD i zM=x at*
       (have z:=Za oB<|Za oG<|Za oC e1;(try push_cast[z])<;>repeat' (first|apply Zi<;>intro _|refine Zs [(1,1),(2,42),(4,44)] (hd ..) ?_|exact Zo|with_reducible apply Za)<;>try push_cast[z])
       all_goals first|omega|skip
       refine⟨i+1,hi',by omega,?_⟩
       have w1:IntKind.i64.wrap (↑i+1)=↑i+1:=A9 (by omega) (by omega)
       apply Zr [(42,1682),(44,1684)] rfl<;>push_cast [oB,oG,oC,w1]
      ·have hi':i=G.length:=by simp at hb;omega
       subst hi'
       (have z:=Za oB<|Za oG oC;(try push_cast[z])<;>repeat' (first|apply Zi<;>intro _|exact Zo|with_reducible apply Za)<;>try push_cast[z])
       apply Zr [(2,42),(4,44)] rfl<;>push_cast [oB,oG,oC]
end
theorem Pm:∀ {l:List UInt8},(∀ j,j<l.length->l[j]? =some 255)->FD l=none
 |[],_=>rfl
 |x::l,h=>by
  have h0:=h 0 (by simp)
  simp only[A0P,A04] at h0
  have ih:=Pm (l:=l) fun j hj=>by
   have:=h (j+1) (by simpa using hj)
   simpa using this
  simp[FD,ih,h0]
theorem Xd:∀ {l:List UInt8} {m:Nat} {x:UInt8},l[m]? =some x->(∀ j,m<j->j<l.length->l[j]? =some 255)->x≠255->FD l=some (l.take m++[x+1])
 |[],m,x,h,_,_=>by simp at h
 |y::l,0,x,h,hh,hx=>by
  simp only[A0P,A04] at h
  subst h
  have ih:=Pm (l:=l) fun j hj=>by
   have:=hh (j+1) (by omega) (by simpa using hj)
   simpa using this
  simp[FD,ih,hx]
 |y::l,m+1,x,h,hh,hx=>by
  have ih:=Xd (l:=l) (m:=m) (x:=x) (by simpa using h) (fun j h1 h2=>by
   have:=hh (j+1) (by omega) (by simpa using h2)
   simpa using this) hx
  simp[FD,ih]
theorem endS_none{p:ByteArray}(h:FD p.data.toList=none):HA p=(⟨#[]⟩,false):=by unfold HA;rw[h];rfl
theorem endS_some{p:ByteArray}{l:List UInt8}(h:FD p.data.toList=some l):HA p=(⟨l.toArray⟩,true):=by unfold HA;rw[h]
end Go.Ab
namespace Go.Proofs
open Go.Proofs Go.Proofs.Tryz Go.RowKit
def Tf(p:ByteArray)(k:Nat):Prop:=∀ j,k<=j->j<p.size->p.data.toList[j]? =some 255
theorem w_End(p:ByteArray)(w:World)(hs:p.size<=9223372036854775807):
  Calls prog 202 [.string p].toArray w fun e w'=>e=.returned (.tuple #[.string (Go.Ab.HA p).1,.bool (Go.Ab.HA p).2])/\Below w.heap.size w w':=by
 show Calls prog 202 #[.string p] w _
 have tyS:=underlying9
 have tyI:=underlying3
 have tyB:=underlying5
 have tyR:=underlying250
 have hlen:p.data.toList.length=p.size:=rfl
 go_enter func202,ntmps202
 go_wp2;go_step3;go_wp2;go_step3;go_wp2
 go_loop [4] (fun i=>∃ k:Nat,k<=p.size/\i=.int .i64 ((k:Int)-1)/\Tf p k) (fun i=>(intOf i+1).toNat)
 case atStart=>
  exact⟨p.size,A0e _,rfl,fun j h1 h2=>by omega⟩
 case round=>
  obtain⟨k,hk,rfl,hall⟩:=hrel
  rcases A0M k with hz|hz
  ·subst hz
   have hend:=Go.Ab.endS_none (Go.Ab.Pm fun j hj=>hall j (by omega) (by omega))
   go_wp2
   refine bodyPost_ret (results_tmp2 rfl _ _ _) rfl ?_
   rw[hend]
   exact⟨rfl,Below.refl _ _⟩
  ·obtain⟨m,rfl⟩:∃ m,k=m+1:=⟨k-1,by omega⟩
   have hm:m<p.size:=by omega
   have em:((m+1:Nat):Int)-1=(m:Int):=by omega
   simp only[em]
   clear em
   have hpx:p.data.toList[m]? =some p[m]:=by
    have:m<p.data.toList.length:=hm
    rw[A06 this]
    rfl
   by_cases hx:p[m]=255
   ·have hx':(p[m].toNat:Int)=255:=by rw[hx];rfl
    have hall':Tf p m:=fun j h1 h2=>by
     by_cases hj:j=m
     ·rw[hj,hpx,hx]
     ·exact hall j (by omega) h2
    go_wp2
    exact⟨⟨m,by omega,rfl,hall'⟩,by simp only[intOf];omega⟩
   ·have hx':¬(p[m].toNat:Int)=255:=fun h=>hx (UInt8.toNat_inj.1 (by
     have h2:p[m].toNat=255:=by exact_mod_cast h
     rw[h2];rfl))
    have hend:=Go.Ab.endS_some (Go.Ab.Xd hpx (fun j h1 h2=>hall j (by omega) (by omega)) hx)
    have hlt:=p[m].toNat_lt
    obtain⟨q,hq⟩:∃ q,p.extract 0 (m+1)=q:=⟨_,rfl⟩
    have hqs:q.size=m+1:=by rw[<-hq,ByteArray.size_extract];omega
    have hql:q.data.toList=p.data.toList.take (m+1):=by rw[<-hq];simp
    have hconv:=Lib.run_convert_string_bytes (P:=prog) w 9 250 5 q tyS tyR tyB
    have hnew:=Lib.bytesWorld_at_new w 5 q
    have hsz:=Lib.bytesWorld_size w 5 q
    have hbl:Below w.heap.size w (Lib.bytesWorld w 5 q):=Lib.below_freeze ((Below.drew (Below.refl _ w)).alloc (A0e _) _) (p:=⟨w.heap.size,_,none⟩) (A0e _) 1
    have hcs:m+1<=(Lib.bytesCells w 5 q).size:=by simp[Lib.bytesCells];omega
    have hcell:∀ j,j<m+1->(Lib.bytesWorld w 5 q).cell? ⟨w.heap.size,j,none⟩=some (.int .u8 (p.data.toList.getD j 0).toNat):=fun j hj=>by
     have:=Lib.bytesWorld_cell w 5 q j (by omega)
     rw[hql] at this
     rw[this]
     simp[A03,A1C,hj]
    have hf:(Lib.bytesWorld w 5 q).frozen? ⟨w.heap.size,m,none⟩=false:=by
     simp[World.frozen?,hnew];omega
    have hpm:p.data.toList.getD m 0=p[m]:=by rw[A03,hpx];rfl
    have hc:=hcell m (by omega)
    rw[hpm] at hc
    rw[hqs] at hconv
    have hcell2:∀ j,j<m->(Lib.bytesWorld w 5 q).cell? ⟨w.heap.size,j,none⟩=some (.int .u8 (p.data.toList.getD j 0).toNat):=fun j hj=>hcell j (by omega)
    generalize grownCap w (m+1) 0 5=cap at hconv
    clear hnew hql hpm hcell
    generalize Lib.bytesWorld w 5 q=W1 at*
    have hbk:∀ (j:Nat) (hj:j<(p.data.toList.take m++[p[m]+1]).length),(W1.setCell ⟨w.heap.size,m,none⟩ (.int .u8 ((p[m].toNat:Int)+1))).cell? ((⟨w.heap.size,0,none⟩:Addr).add j)=some (.int .u8 (p.data.toList.take m++[p[m]+1])[j].toNat):=fun j hj=>by
     have hj2:j<m+1:=by
      have:=hj
      simp only[A08,A0s,A0g,A0i] at this
      omega
     have ea:(⟨w.heap.size,0,none⟩:Addr).add j=⟨w.heap.size,j,none⟩:=by simp only[Addr.add,A1m];split<;>simp_all
     rw[ea]
     by_cases hjm:j=m
     ·subst hjm
      rw[World.cell?_setCell_same' _ _ _ (by rw[hc];rfl)]
      have hlt2:j<p.data.toList.length:=hm
      have e1:(p.data.toList.take j++[p[j]+1])[j]=p[j]+1:=by
       rw[List.getElem_append_right (by rw[A0s];omega)]
       simp
      rw[e1]
      have h256:p[j].toNat+1<256:=by
       have:(p[j].toNat:Int)<256:=by exact_mod_cast hlt
       omega
      rw[UInt8.toNat_add]
      have h1:(1:UInt8).toNat=1:=rfl
      rw[h1,Nat.mod_eq_of_lt h256]
      rfl
     ·rw[World.cell?_setCell_other _ _ _ _ (by intro h;injection h with h1 h2;exact hjm h2.symm),hcell2 j (by omega)]
      have hlt2:j<p.data.toList.length:=by omega
      rw[List.getElem_append_left (by rw[A0s];omega),List.getElem_take]
      simp[A03,A06 hlt2]
    have hback:=run_convert_bytes_back (P:=prog) (W1.setCell ⟨w.heap.size,m,none⟩ (.int .u8 ((p[m].toNat:Int)+1))) 250 9 5 ⟨w.heap.size,0,none⟩ cap (p.data.toList.take m++[p[m]+1]) tyR tyB tyS hbk
    have hl1:(p.data.toList.take m++[p[m]+1]).length=m+1:=by
     simp only[A08,A0s,A0g,A0i];omega
    rw[hl1] at hback
    clear hbk hcell2
    go_wp2
    refine bodyPost_ret (results_tmp2 rfl _ _ _) rfl ?_
    rw[hend]
    exact⟨rfl,hbl.setCell (p:=⟨w.heap.size,m,none⟩) (A0e _) _⟩
end Go.Proofs
namespace Go.Ab
open Go.Proofs Go.Proofs.Tryz Go.RowKit
theorem Xc(p:ByteArray):(HA p).1.size<=p.size:=by
 have key:∀ (l:List UInt8) (r:List UInt8),FD l=some r->r.length<=l.length:=by
  intro l
  induction l with
  |nil=>intro r h;cases h
  |cons x l ih=>
   intro r h
   simp only[FD] at h
   split at h
   ·rename_i r' h'
    cases h
    have:=ih r' h'
    simpa using this
   ·split at h
    ·cases h
    ·cases h;simp
 unfold HA
 cases h:FD p.data.toList with
 |none=>exact A0t _
 |some r=>exact key _ r h
theorem c_End(p:ByteArray):A3 prog 202 [.val (.string p)] (.tup [.val (.string (HA p).1),.val (.bool (HA p).2)]):=
 A3.of_vals (us:=[.string p]) (by kernel_rfl) rfl fun w I hg ho=>by
  have hs:=ho (.string p) (by simp)
  refine⟨_,fun w'=>JU (u:=.string (HA p).1) (v:=.bool (HA p).2) (A0L (Xc p) hs) trivial,w_End p w hs⟩
section
variable{b:GT}{q:OQ}
theorem do_seqS(m:GM)(hk:m.kind=7)(hkey:m.key≠⟨#[]⟩)(hP:A4 prog 83 [.ref 1 0 0 3,.agg (Aj m)] (oqH b q) (.val (.bool false)) (oqH b q))(hq:q.chg=none->q.us=[])(hn1:q.us.length<=1073741824):
  A4 prog 50 [.ref 1 0 0 3,.agg (Aj m)] (oqH b q) (.val (.int .i64 13)) (oqH b (q.back q.us.length)):=by
 have hM:=CX b q
 have oB:=A5 b
 have hD:=GH b q 13 (by decide) hq q.us.length (A0e _) hn1
 generalize q.back q.us.length=q2 at*
 rw[Ae,A0 m.was,A0 m.value,hk]
 rw[Ae,A0 m.was,A0 m.value,hk] at hP
 have b2:decide (m.key=⟨#[]⟩)=false:=decide_eq_false hkey
 simp only[A07,A09,A05] at hP|-
 refine A4.of_awp_defer [_,_] func50 rfl ntmps50 (by kernel_rfl) (by simp) (by decide) (congrArg Array.toList results50) (BN doR) doC doE ((9,.rows [D3 7 m] 19)::doH 0 q.us.length b q) (.val (.int .i64 13)) (doH 13 q.us.length b q2) ?_
 simp only[doH,oqH,D3,doR,doC,doE] at hM hD hP|-
 refine Zy ?_
 (have z:=oB;(try push_cast[z])<;>repeat' (first|apply Zi<;>intro _|exact Zo|with_reducible apply Za)<;>try push_cast[z])
 refine Zy ?_
 (have z:=oB;(try push_cast[z])<;>repeat' (first|apply Zi<;>intro _|refine Zs [(1,1),(2,2),(4,4)] hM ?_|exact Zo|with_reducible apply Za)<;>try push_cast[z])
 have z:=oB
 refine Dq1 ?_ ?_
 ·refine Zy ?_
  (have z:=Za oB b2;(try push_cast[z])<;>repeat' (first|apply Zi<;>intro _|refine Zs [(1,1),(2,2),(4,4)] hP ?_|exact Zo|with_reducible apply Za)<;>try push_cast[z])
  refine Dq2 [(2,186),(4,188)] (.val (.int .i64 13)) hD ?_
  push_cast[oB]
  apply Zr [(2,218),(4,220)] rfl<;>push_cast [oB]
 ·push_cast[oB]
  apply Zr [(2,66),(4,68)] rfl<;>push_cast [oB]
theorem do_seq0(m:GM)(hk:m.kind=7)(Qs:Nat->OQ)(hkey:m.key=⟨#[]⟩)(hQ:Qs 0=q)(hl:m.list.length<=64)(hd:∀ i,i<m.list.length->A4 prog 50 [.ref 1 0 0 3,.agg (Aj (m.list.getD i zU))] (oqH b (Qs i)) (.val (.int .i64 0)) (oqH b (Qs (i+1)))):
  A4 prog 50 [.ref 1 0 0 3,.agg (Aj m)] (oqH b q) (.val (.int .i64 0)) (oqH b (Qs m.list.length)):=by
 subst hQ
 have hM:=CX b (Qs 0)
 have oB:=A5 b
 have hD:=SS b (Qs m.list.length) (Qs 0).us.length
 have b2:decide (m.key=⟨#[]⟩)=true:=decide_eq_true hkey
 rw[Ae,A0 m.was,A0 m.value,hk]
 simp only[A07,A09,A05]
 refine A4.of_awp_defer [_,_] func50 rfl ntmps50 (by kernel_rfl) (by simp) (by decide) (congrArg Array.toList results50) (BN doR) doC doE ((9,.rows [D3 7 m] 19)::doH 0 (Qs 0).us.length b (Qs 0)) (.val (.int .i64 0)) (doH 0 (Qs 0).us.length b (Qs m.list.length)) ?_
 simp only[doH,oqH,D3,doR,doC,doE] at hM hD hd|-
 refine Zy ?_
 (have z:=oB;(try push_cast[z])<;>repeat' (first|apply Zi<;>intro _|exact Zo|with_reducible apply Za)<;>try push_cast[z])
 refine Zy ?_
 (have z:=oB;(try push_cast[z])<;>repeat' (first|apply Zi<;>intro _|refine Zs [(1,1),(2,2),(4,4)] hM ?_|exact Zo|with_reducible apply Za)<;>try push_cast[z])
 have z:=oB
 refine Dq1 ?_ ?_
 ·refine Zy ?_
  (have z:=Za oB b2;(try push_cast[z])<;>repeat' (first|apply Zi<;>intro _|exact Zo|with_reducible apply Za)<;>try push_cast[z])
  refine Zl (fun i=>i<=m.list.length) (fun i=>⟨[(72,.val (.int .i64 i)),(71,.val (.int .i64 m.list.length)),(70,.slice (m.list.map Aj) false),(4,.ref 3 0 0 1),(2,.ref 5 0 0 1)],(3,.rows [[.val (.int .i64 0)]] 1)::(5,.rows [[.ref 1 0 0 3]] 1)::(7,.rows [[.val (.int .i64 (Qs 0).us.length)]] 1)::[(1,.rows [[Ag b,cD 42 (Qs i),.gref 44 (Qs i).us.length]] 3),(42,cB (Qs i)),(44,.grow ((Qs i).us.map fun u=>[Bj u]) 1)],300⟩) (fun i=>m.list.length-i) 0 (by simp) ?_ fun i hi=>?_
  ·apply Zr [(42,2),(44,4)] rfl<;>push_cast [oB]
  ·push_cast[oB]
   refine A6 (fun ha=>?_) (fun ha=>?_)
   ·have hi':i<m.list.length:=by simpa using ha
    have e2:=Cd (l:=m.list) hi'
    have hr:=hd i hi'
    generalize m.list.getD i zU=x at*
    (have z:=Za oB e2;(try push_cast[z])<;>repeat' (first|apply Zi<;>intro _|refine Zs [(1,1),(2,42),(4,44)] (hr ..) ?_|exact Zo|with_reducible apply Za)<;>try push_cast[z])
    all_goals first|omega|skip
    have w1:IntKind.i64.wrap (↑i+1)=↑i+1:=A9 (by omega) (by omega)
    refine⟨i+1,hi',by omega,?_⟩
    apply Zr [(42,658),(44,660)] rfl<;>push_cast [oB,w1]
   ·have hi':i=m.list.length:=by simp at ha;omega
    subst hi'
    (have z:=oB;(try push_cast[z])<;>repeat' (first|apply Zi<;>intro _|exact Zo|with_reducible apply Za)<;>try push_cast[z])
    refine Dq2 [(2,42),(4,44)] (.val (.int .i64 0)) hD ?_
    push_cast[oB]
    apply Zr [(2,618),(4,620)] rfl<;>push_cast [oB]
 ·push_cast[oB]
  apply Zr [(2,66),(4,68)] rfl<;>push_cast [oB]
theorem do_seqE(m:GM)(hk:m.kind=7)(Qs:Nat->OQ)(hkey:m.key=⟨#[]⟩)(J:Nat)(hJ:J<m.list.length)(c:Int)(hc:c≠0)(hQ:Qs 0=q)(hl:m.list.length<=64)(hd:∀ i,i<J->A4 prog 50 [.ref 1 0 0 3,.agg (Aj (m.list.getD i zU))] (oqH b (Qs i)) (.val (.int .i64 0)) (oqH b (Qs (i+1))))(hj:A4 prog 50 [.ref 1 0 0 3,.agg (Aj (m.list.getD J zU))] (oqH b (Qs J)) (.val (.int .i64 c)) (oqH b (Qs (J+1))))(hq1:(Qs (J+1)).chg=none->(Qs (J+1)).us=[])(hle:q.us.length<=(Qs (J+1)).us.length)(hn1:(Qs (J+1)).us.length<=1073741824):
  A4 prog 50 [.ref 1 0 0 3,.agg (Aj m)] (oqH b q) (.val (.int .i64 c)) (oqH b ((Qs (J+1)).back q.us.length)):=by
 subst hQ
 have hM:=CX b (Qs 0)
 have oB:=A5 b
 have hD:=GH b (Qs (J+1)) c hc hq1 (Qs 0).us.length hle hn1
 generalize(Qs (J+1)).back (Qs 0).us.length=q2 at*
 have b3:(c !=0)=true:=by simpa using hc
 have b2:decide (m.key=⟨#[]⟩)=true:=decide_eq_true hkey
 rw[Ae,A0 m.was,A0 m.value,hk]
 simp only[A07,A09,A05]
 refine A4.of_awp_defer [_,_] func50 rfl ntmps50 (by kernel_rfl) (by simp) (by decide) (congrArg Array.toList results50) (BN doR) doC doE ((9,.rows [D3 7 m] 19)::doH 0 (Qs 0).us.length b (Qs 0)) (.val (.int .i64 c)) (doH c (Qs 0).us.length b q2) ?_
 simp only[doH,oqH,D3,doR,doC,doE] at hM hD hd hj|-
 refine Zy ?_
 (have z:=oB;(try push_cast[z])<;>repeat' (first|apply Zi<;>intro _|exact Zo|with_reducible apply Za)<;>try push_cast[z])
 refine Zy ?_
 (have z:=oB;(try push_cast[z])<;>repeat' (first|apply Zi<;>intro _|refine Zs [(1,1),(2,2),(4,4)] hM ?_|exact Zo|with_reducible apply Za)<;>try push_cast[z])
 have z:=oB
 refine Dq1 ?_ ?_
 ·refine Zy ?_
  (have z:=Za oB b2;(try push_cast[z])<;>repeat' (first|apply Zi<;>intro _|exact Zo|with_reducible apply Za)<;>try push_cast[z])
  refine Zl (fun i=>i<=J) (fun i=>⟨[(72,.val (.int .i64 i)),(71,.val (.int .i64 m.list.length)),(70,.slice (m.list.map Aj) false),(4,.ref 3 0 0 1),(2,.ref 5 0 0 1)],(3,.rows [[.val (.int .i64 0)]] 1)::(5,.rows [[.ref 1 0 0 3]] 1)::(7,.rows [[.val (.int .i64 (Qs 0).us.length)]] 1)::[(1,.rows [[Ag b,cD 42 (Qs i),.gref 44 (Qs i).us.length]] 3),(42,cB (Qs i)),(44,.grow ((Qs i).us.map fun u=>[Bj u]) 1)],300⟩) (fun i=>m.list.length-i) 0 (by simp) ?_ fun i hi=>?_
  ·apply Zr [(42,2),(44,4)] rfl<;>push_cast [oB]
  ·push_cast[oB]
   refine A6 (fun ha=>?_) (fun ha=>?_)
   ·have hi':i<m.list.length:=by simpa using ha
    have e2:=Cd (l:=m.list) hi'
    rcases A0v i J with hij|hij
    ·have hr:=hd i hij
     generalize m.list.getD i zU=x at*
     (have z:=Za oB e2;(try push_cast[z])<;>repeat' (first|apply Zi<;>intro _|refine Zs [(1,1),(2,42),(4,44)] (hr ..) ?_|exact Zo|with_reducible apply Za)<;>try push_cast[z])
     all_goals first|omega|skip
     have w1:IntKind.i64.wrap (↑i+1)=↑i+1:=A9 (by omega) (by omega)
     refine⟨i+1,hij,by omega,?_⟩
     apply Zr [(42,658),(44,660)] rfl<;>push_cast [oB,w1]
    ·have hr:=hj
     obtain rfl:i=J:=by omega
     generalize m.list.getD i zU=x at*
     (have z:=Za oB<|Za e2 b3;(try push_cast[z])<;>repeat' (first|apply Zi<;>intro _|refine Zs [(1,1),(2,42),(4,44)] (hr ..) ?_|exact Zo|with_reducible apply Za)<;>try push_cast[z])
     all_goals first|omega|skip
     refine Dq2 [(2,658),(4,660)] (.val (.int .i64 c)) hD ?_
     push_cast[oB]
     apply Zr [(2,706),(4,708)] rfl<;>push_cast [oB]
   ·exact absurd ha (by simp;omega)
 ·push_cast[oB]
  apply Zr [(2,66),(4,68)] rfl<;>push_cast [oB]
theorem do_seqP0(m:GM)(hk:m.kind=7)(Qs:Nat->OQ)(hkey:m.key≠⟨#[]⟩)(hP:A4 prog 83 [.ref 1 0 0 3,.agg (Aj m)] (oqH b q) (.val (.bool true)) (oqH b q))(hQ:Qs 0=q)(hl:m.list.length<=64)(hd:∀ i,i<m.list.length->A4 prog 50 [.ref 1 0 0 3,.agg (Aj (m.list.getD i zU))] (oqH b (Qs i)) (.val (.int .i64 0)) (oqH b (Qs (i+1)))):
  A4 prog 50 [.ref 1 0 0 3,.agg (Aj m)] (oqH b q) (.val (.int .i64 0)) (oqH b (Qs m.list.length)):=by
 subst hQ
 have hM:=CX b (Qs 0)
 have oB:=A5 b
 have hD:=SS b (Qs m.list.length) (Qs 0).us.length
 have b2:decide (m.key=⟨#[]⟩)=false:=decide_eq_false hkey
 rw[Ae,A0 m.was,A0 m.value,hk] at hP|-
 simp only[A07,A09,A05] at hP|-
 refine A4.of_awp_defer [_,_] func50 rfl ntmps50 (by kernel_rfl) (by simp) (by decide) (congrArg Array.toList results50) (BN doR) doC doE ((9,.rows [D3 7 m] 19)::doH 0 (Qs 0).us.length b (Qs 0)) (.val (.int .i64 0)) (doH 0 (Qs 0).us.length b (Qs m.list.length)) ?_
 simp only[doH,oqH,D3,doR,doC,doE] at hM hD hd hP|-
 refine Zy ?_
 (have z:=oB;(try push_cast[z])<;>repeat' (first|apply Zi<;>intro _|exact Zo|with_reducible apply Za)<;>try push_cast[z])
 refine Zy ?_
 (have z:=oB;(try push_cast[z])<;>repeat' (first|apply Zi<;>intro _|refine Zs [(1,1),(2,2),(4,4)] hM ?_|exact Zo|with_reducible apply Za)<;>try push_cast[z])
 have z:=oB
 refine Dq1 ?_ ?_
 ·refine Zy ?_
  (have z:=Za oB b2;(try push_cast[z])<;>repeat' (first|apply Zi<;>intro _|refine Zs [(1,1),(2,2),(4,4)] hP ?_|exact Zo|with_reducible apply Za)<;>try push_cast[z])
  refine Zl (fun i=>i<=m.list.length) (fun i=>⟨[(72,.val (.int .i64 i)),(71,.val (.int .i64 m.list.length)),(70,.slice (m.list.map Aj) false),(4,.ref 3 0 0 1),(2,.ref 5 0 0 1)],(3,.rows [[.val (.int .i64 0)]] 1)::(5,.rows [[.ref 1 0 0 3]] 1)::(7,.rows [[.val (.int .i64 (Qs 0).us.length)]] 1)::[(1,.rows [[Ag b,cD 42 (Qs i),.gref 44 (Qs i).us.length]] 3),(42,cB (Qs i)),(44,.grow ((Qs i).us.map fun u=>[Bj u]) 1)],300⟩) (fun i=>m.list.length-i) 0 (by simp) ?_ fun i hi=>?_
  ·apply Zr [(42,186),(44,188)] rfl<;>push_cast [oB]
  ·push_cast[oB]
   refine A6 (fun ha=>?_) (fun ha=>?_)
   ·have hi':i<m.list.length:=by simpa using ha
    have e2:=Cd (l:=m.list) hi'
    have hr:=hd i hi'
    generalize m.list.getD i zU=x at*
    (have z:=Za oB e2;(try push_cast[z])<;>repeat' (first|apply Zi<;>intro _|refine Zs [(1,1),(2,42),(4,44)] (hr ..) ?_|exact Zo|with_reducible apply Za)<;>try push_cast[z])
    all_goals first|omega|skip
    have w1:IntKind.i64.wrap (↑i+1)=↑i+1:=A9 (by omega) (by omega)
    refine⟨i+1,hi',by omega,?_⟩
    apply Zr [(42,658),(44,660)] rfl<;>push_cast [oB,w1]
   ·have hi':i=m.list.length:=by simp at ha;omega
    subst hi'
    (have z:=oB;(try push_cast[z])<;>repeat' (first|apply Zi<;>intro _|exact Zo|with_reducible apply Za)<;>try push_cast[z])
    refine Dq2 [(2,42),(4,44)] (.val (.int .i64 0)) hD ?_
    push_cast[oB]
    apply Zr [(2,618),(4,620)] rfl<;>push_cast [oB]
 ·push_cast[oB]
  apply Zr [(2,66),(4,68)] rfl<;>push_cast [oB]
theorem do_seqPE(m:GM)(hk:m.kind=7)(Qs:Nat->OQ)(hkey:m.key≠⟨#[]⟩)(hP:A4 prog 83 [.ref 1 0 0 3,.agg (Aj m)] (oqH b q) (.val (.bool true)) (oqH b q))(J:Nat)(hJ:J<m.list.length)(c:Int)(hc:c≠0)(hQ:Qs 0=q)(hl:m.list.length<=64)(hd:∀ i,i<J->A4 prog 50 [.ref 1 0 0 3,.agg (Aj (m.list.getD i zU))] (oqH b (Qs i)) (.val (.int .i64 0)) (oqH b (Qs (i+1))))(hj:A4 prog 50 [.ref 1 0 0 3,.agg (Aj (m.list.getD J zU))] (oqH b (Qs J)) (.val (.int .i64 c)) (oqH b (Qs (J+1))))(hq1:(Qs (J+1)).chg=none->(Qs (J+1)).us=[])(hle:q.us.length<=(Qs (J+1)).us.length)(hn1:(Qs (J+1)).us.length<=1073741824):
  A4 prog 50 [.ref 1 0 0 3,.agg (Aj m)] (oqH b q) (.val (.int .i64 c)) (oqH b ((Qs (J+1)).back q.us.length)):=by
 subst hQ
 have hM:=CX b (Qs 0)
 have oB:=A5 b
 have hD:=GH b (Qs (J+1)) c hc hq1 (Qs 0).us.length hle hn1
 generalize(Qs (J+1)).back (Qs 0).us.length=q2 at*
 have b3:(c !=0)=true:=by simpa using hc
 have b2:decide (m.key=⟨#[]⟩)=false:=decide_eq_false hkey
 rw[Ae,A0 m.was,A0 m.value,hk] at hP|-
 simp only[A07,A09,A05] at hP|-
 refine A4.of_awp_defer [_,_] func50 rfl ntmps50 (by kernel_rfl) (by simp) (by decide) (congrArg Array.toList results50) (BN doR) doC doE ((9,.rows [D3 7 m] 19)::doH 0 (Qs 0).us.length b (Qs 0)) (.val (.int .i64 c)) (doH c (Qs 0).us.length b q2) ?_
 simp only[doH,oqH,D3,doR,doC,doE] at hM hD hd hP hj|-
 refine Zy ?_
 (have z:=oB;(try push_cast[z])<;>repeat' (first|apply Zi<;>intro _|exact Zo|with_reducible apply Za)<;>try push_cast[z])
 refine Zy ?_
 (have z:=oB;(try push_cast[z])<;>repeat' (first|apply Zi<;>intro _|refine Zs [(1,1),(2,2),(4,4)] hM ?_|exact Zo|with_reducible apply Za)<;>try push_cast[z])
 have z:=oB
 refine Dq1 ?_ ?_
 ·refine Zy ?_
  (have z:=Za oB b2;(try push_cast[z])<;>repeat' (first|apply Zi<;>intro _|refine Zs [(1,1),(2,2),(4,4)] hP ?_|exact Zo|with_reducible apply Za)<;>try push_cast[z])
  refine Zl (fun i=>i<=J) (fun i=>⟨[(72,.val (.int .i64 i)),(71,.val (.int .i64 m.list.length)),(70,.slice (m.list.map Aj) false),(4,.ref 3 0 0 1),(2,.ref 5 0 0 1)],(3,.rows [[.val (.int .i64 0)]] 1)::(5,.rows [[.ref 1 0 0 3]] 1)::(7,.rows [[.val (.int .i64 (Qs 0).us.length)]] 1)::[(1,.rows [[Ag b,cD 42 (Qs i),.gref 44 (Qs i).us.length]] 3),(42,cB (Qs i)),(44,.grow ((Qs i).us.map fun u=>[Bj u]) 1)],300⟩) (fun i=>m.list.length-i) 0 (by simp) ?_ fun i hi=>?_
  ·apply Zr [(42,186),(44,188)] rfl<;>push_cast [oB]
  ·push_cast[oB]
   refine A6 (fun ha=>?_) (fun ha=>?_)
   ·have hi':i<m.list.length:=by simpa using ha
    have e2:=Cd (l:=m.list) hi'
    rcases A0v i J with hij|hij
    ·have hr:=hd i hij
     generalize m.list.getD i zU=x at*
     (have z:=Za oB e2;(try push_cast[z])<;>repeat' (first|apply Zi<;>intro _|refine Zs [(1,1),(2,42),(4,44)] (hr ..) ?_|exact Zo|with_reducible apply Za)<;>try push_cast[z])
     all_goals first|omega|skip
     have w1:IntKind.i64.wrap (↑i+1)=↑i+1:=A9 (by omega) (by omega)
     refine⟨i+1,hij,by omega,?_⟩
     apply Zr [(42,658),(44,660)] rfl<;>push_cast [oB,w1]
    ·have hr:=hj
     obtain rfl:i=J:=by omega
     generalize m.list.getD i zU=x at*
     (have z:=Za oB<|Za e2 b3;(try push_cast[z])<;>repeat' (first|apply Zi<;>intro _|refine Zs [(1,1),(2,42),(4,44)] (hr ..) ?_|exact Zo|with_reducible apply Za)<;>try push_cast[z])
     all_goals first|omega|skip
     refine Dq2 [(2,658),(4,660)] (.val (.int .i64 c)) hD ?_
     push_cast[oB]
     apply Zr [(2,706),(4,708)] rfl<;>push_cast [oB]
   ·exact absurd ha (by simp;omega)
 ·push_cast[oB]
  apply Zr [(2,66),(4,68)] rfl<;>push_cast [oB]
end
abbrev UB(g L:List GE):List GE:=g.foldl (fun L e=>BE e.1 L) L
theorem SQ(p:ByteArray):∀ (g L:List GE),(∀ e ∈ g,C1 e.1 p=true)->UB g L=L.filter fun x=>!(g.any fun e=>decide (x.1=e.1))
 |[],L,_=>by
  show L=_
  exact(A1Q.2 (by simp)).symm
 |e::g,L,h=>by
  have ih:=SQ p g (BE e.1 L) fun x hx=>h x (by simp[hx])
  show UB g (BE e.1 L)=_
  rw[ih]
  unfold BE
  rw[List.filter_filter]
  congr 1
  funext x
  simp only[List.any_cons,Bool.not_or]
  by_cases hx:x.1=e.1<;>simp [hx]
theorem delL_all(p:ByteArray)(L:List GE):UB (Bs p L) L=E3 p L:=by
 rw[SQ p (Bs p L) L fun e he=>(A11.1 he).2]
 unfold E3
 refine List.filter_congr fun x hx=>?_
 congr 1
 rw[Bool.eq_iff_iff,List.any_eq_true]
 constructor
 ·rintro⟨e,he,h⟩
  rw[of_decide_eq_true h];exact(A11.1 he).2
 ·intro h;exact⟨x,A11.2 ⟨hx,h⟩,by simp⟩
theorem H8{G:List GE}{i:Nat}(h:i<G.length):G.take (i+1)=G.take i++[G.getD i zM]:=by
 rw[A10 h,A03,A06 h];rfl
theorem MR(g R:List GE)(e:GE):Dg (g++[e]) R=AU e (Dg g R):=by simp[Dg]
theorem Xi(g R:List GE)(e:GE):UB (g++[e]) R=BE e.1 (UB g R):=by simp[UB]
theorem rw1_len(p:List CE×Nat)(u:Bt):p.1.length<=(rw1 p u).1.length+1:=by
 unfold rw1
 split
 ·unfold JG
  split<;>simp
  omega
 ·unfold UH
  split
  ·simp only[List.length_eraseIdx]
   split<;>omega
  ·exact Nat.le_succ _
theorem V7:∀ (n:Nat) (us:List Bt),us.length=n->∀ p:List CE×Nat,p.1.length<=(rwd p us).1.length+us.length
 |0,us,h,p=>by
  have:us=[]:=A0G.1 h
  subst this
  simp[rwd]
 |n+1,us,h,p=>by
  have hne:us≠[]:=by intro e;subst e;simp at h
  obtain⟨a,u,rfl⟩:∃ a u,us=a++[u]:=⟨us.dropLast,us.getLast hne,(List.dropLast_concat_getLast hne).symm⟩
  rw[Yh]
  have h1:=V7 n a (by simpa using h) (rw1 p u)
  have h2:=rw1_len p u
  simp only[A08,A0g,A0i]
  omega
theorem es_le{q:OQ}(h:Do q.es q.ck)(e:JM ⟨none,[]⟩ q):q.es.length<=q.us.length:=by
 obtain⟨ext,e1,e2,e3⟩:=e.ex
 have hu:q.us=ext:=by rw[e1];rfl
 have h1:=V7 _ ext rfl (q.es,q.ck)
 have h2:=TG e2 (p:=(q.es,q.ck)) h
 have h3:(rwd (q.es,q.ck) ext).1=[]:=by
  cases hr:(rwd (q.es,q.ck) ext).1 with
  |nil=>rfl
  |cons x l=>
   obtain⟨k,n,s⟩:=x
   have h4:=KX h2.keys (k:=k) (n:=n) (s:=s) (by rw[hr];simp)
   rw[e3 k] at h4
   cases h4
 rw[h3] at h1
 rw[hu]
 simpa using h1
noncomputable def Vs(F:GV->Int):List GM->List GE->Nat->List GE
 |_,L,0=>L
 |[],L,_+1=>L
 |m::l,L,i+1=>Vs F l (Bk F m L).2 i
theorem VV(F:GV->Int)(l:List GM)(L:List GE):Vs F l L 0=L:=by cases l<;>rfl
theorem Rb(F:GV->Int):∀ {l:List GM} {L:List GE} {i:Nat},i<l.length->Vs F l L (i+1)=(Bk F (l.getD i zU) (Vs F l L i)).2
 |[],L,i,h=>by simp at h
 |m::l,L,0,h=>by cases l<;>rfl
 |m::l,L,i+1,h=>by
  show Vs F l (Bk F m L).2 (i+1)=_
  rw[Rb F (by simpa using h)]
  rfl
theorem Ge(F:GV->Int):∀ (l:List GM) (L:List GE),((Cl F l L)=(0,Vs F l L l.length)/\∀ i,i<l.length->(Bk F (l.getD i zU) (Vs F l L i)).1=0)∨(∃ J,J<l.length/\(∀ i,i<J->(Bk F (l.getD i zU) (Vs F l L i)).1=0)/\(Bk F (l.getD J zU) (Vs F l L J)).1=(Cl F l L).1/\(Cl F l L).1≠0)
 |[],L=>.inl ⟨rfl,fun i h=>by simp at h⟩
 |m::l,L=>by
  by_cases h:(Bk F m L).1=0
  ·simp only[Cl,if_pos h]
   rcases Ge F l (Bk F m L).2 with⟨a,b⟩|⟨J,a,b,c,d⟩
   ·refine .inl ⟨a,fun i hi=>?_⟩
    cases i with
    |zero=>exact h
    |succ i=>exact b i (by simpa using hi)
   ·refine .inr ⟨J+1,by simpa using a,fun i hi=>?_,c,d⟩
    cases i with
    |zero=>exact h
    |succ i=>exact b i (by omega)
  ·simp only[Cl,if_neg h]
   exact .inr ⟨0,by simp,fun i hi=>by omega,rfl,h⟩
structure DoOk(b:GT)(l:List GE)(q:OQ)(n:Nat):Prop where
 ok:Ey b q l
 v:VOk (q.view l)
 ext:JM ⟨none,[]⟩ q
 len:(q.view l).length+n<=4096
 us:q.us.length+8193*n<=524352
theorem Led.of_back{b:GT}{l:List GE}{q q':OQ}{n m:Nat}{L:List GE}(h:Ey b q l)(hL:Led b l q q' n L):Led b l q (q'.back q.us.length) m (q.view l):=by
 obtain⟨a1,a2,a3,a4⟩:=OQ.back_ok h hL.ok hL.ext
 refine⟨a1,a2,a3,?_⟩
 have:(q'.back q.us.length).us.length<=q.us.length:=by
  show(q'.us.take q.us.length).length<=_
  rw[A0s];omega
 omega
theorem Led.le{b:GT}{l:List GE}{q q':OQ}{n:Nat}{L:List GE}(h:Ey b q l)(hL:Led b l q q' n L):q.us.length<=q'.us.length:=(OQ.back_ok h hL.ok hL.ext).2.2.2
theorem TC{l:List GM}{x:GM}(h:x ∈ l):AQ x<=Bf l:=by
 induction l with
 |nil=>cases h
 |cons y l ih=>
  simp only[Bf]
  rcases A0o.1 h with rfl|h
  ·omega
  ·have:=ih h;omega
theorem Ly{F:GV->Int}{m:GM}{d:Nat}(h0:Ay F m d=0):AD m=false/\d<=6/\Cy m=true/\(m.had=true->F m.was=0)/\((m.kind=1∨m.kind=5∨m.kind=4/\m.has=true)->F m.value=0)/\BP F m.list (d+1)=0:=by
 rw[K5] at h0
 have s1:AD m=false:=by cases h:AD m<;>simp [h] at h0|-
 rw[if_neg (by simp[s1])] at h0
 have s2:d<=6:=by
  rcases A0v 6 d with h|h
  ·simp[h] at h0
  ·exact h
 rw[if_neg (by omega)] at h0
 have s3:Cy m=true:=by cases h:Cy m<;>simp [h] at h0|-
 rw[if_neg (by simp[s3])] at h0
 have s4:m.had=true->F m.was=0:=fun h=>Classical.byContradiction fun h2=>by rw[if_pos ⟨h,h2⟩] at h0;exact h2 h0
 rw[if_neg (fun h=>h.2 (s4 h.1))] at h0
 have s5:(m.kind=1∨m.kind=5∨m.kind=4/\m.has=true)->F m.value=0:=fun h=>Classical.byContradiction fun h2=>by rw[if_pos ⟨h,h2⟩] at h0;exact h2 h0
 rw[if_neg (fun h=>h.2 (s5 h.1))] at h0
 exact⟨s1,s2,s3,s4,s5,h0⟩
theorem Uh{F:GV->Int}{d:Nat}{l:List GM}(h:BP F l d=0){x:GM}(hx:x ∈ l):Ay F x d=0:=by
 obtain⟨i,hi,rfl⟩:=A16.1 hx
 have:=Fk h i hi
 rwa[A03,A06 hi] at this
theorem Pe{m:GM}(h:Cy m=true)(h6:m.kind≠6)(h7:m.kind≠7):C7 m.key=0:=by
 unfold Cy at h
 have e6:(m.kind==6)=false:=by simpa using h6
 have e7:(m.kind==7)=false:=by simpa using h7
 rw[e6,e7] at h
 simpa using h
theorem Um{m:GM}(h:Cy m=true)(h6:m.kind=6):m.key.size<=64/\m.to.size<=64:=by
 unfold Cy at h
 have e6:(m.kind==6)=true:=by simpa using h6
 rw[e6] at h
 simp only[if_true,A0c,QV,decide_eq_true_eq] at h
 omega
theorem PO{m:GM}(h:AD m=false):1<=m.kind/\m.kind<=7:=by
 unfold AD at h
 simp only[Bool.or_eq_false_iff] at h
 obtain⟨_,h⟩:=h
 grind
section
variable(hF:∀ v,Sm v->wtV v<=2097152->A3 prog 116 [.agg (Aa v)] (.val (.int .i64 (Al v))))
include hF
theorem q_moveX{b:GT}{q:OQ}{l:List GE}(h:Ey b q l)(hV:VOk (q.view l))(hl:l.length+q.es.length<=1048576)(hls:∀ e ∈ l,e.1.size<=64)(p t:ByteArray)(hp:p.size<=64)(ht:t.size<=64)(hvl:(q.view l).length<=4096)(hn:q.us.length+8192<=1073741823):
  ∃ q',A4 prog 82 [.ref 1 0 0 3,.val (.string p),.val (.string t)] (oqH b q) (.val (.int .i64 (CP Al p t (q.view l)).1)) (oqH b q')/\Led b l q q' 8192 (if(CP Al p t (q.view l)).1=0 then(CP Al p t (q.view l)).2 else q.view l):=by
 have hvs:∀ e ∈ q.view l,e.1.size<=64/\Sm e.2:=fun e he=>⟨E6 (hV.key e he),hV.sm e he⟩
 have hE:=c_End p
 obtain⟨G,hG⟩:∃ G,Bs p (q.view l)=G:=⟨_,rfl⟩
 by_cases hc:(Gu p t (q.view l) G).1=0
 ·rw[<-hG] at hc
  obtain⟨e1,e2⟩:=Sc hV hc
  have hz:=KQ hc
  rw[e1]
  rw[hG] at e2 hz|-
  have hGl:G.length<=4096:=by rw[<-hG];exact A0L (A0Y _ _) hvl
  have hGm:∀ i,i<G.length->G.getD i zM ∈ q.view l/\G.getD i zM ∈ G:=fun i hi=>by
   have h1:=Ad (d:=zM) hi
   refine⟨?_,h1⟩
   generalize G.getD i zM=x at h1|-
   rw[<-hG] at h1
   exact(A11.1 h1).1
  obtain⟨Q2,a0,a1⟩:=GG (fun i q2=>i<=G.length->Led b l q q2 i (UB (G.take i) (q.view l)))
   (fun i a c=>i<G.length->A4 prog 78 [.ref 1 0 0 3,.val (.string (G.getD i zM).1)] (oqH b a) (.val (.bool (CG (G.getD i zM).1 (a.view l)))) (oqH b c)) q (fun _=>Led.refl h 0) fun i a ha=>by
    by_cases hi:i<G.length
    ·have hLd:=ha (by omega)
     obtain⟨c,s1,s2⟩:=U8 hLd.ok (by omega) (G.getD i zM).1 (hvs _ (hGm i hi).1).1 (by have:=hLd.len;omega)
     refine⟨c,fun _=>?_,fun _=>s1⟩
     have:=hLd.trans s2
     rw[hLd.view,<-Xi,<-H8 hi] at this
     exact this
    ·exact⟨a,fun h'=>by omega,fun h'=>absurd h' hi⟩
  have hLd2:=(a1 G.length).1 (A0e _)
  rw[A0Q,<-hG,delL_all,hG] at hLd2
  obtain⟨Q3,b0,b1⟩:=GG (fun i q3=>i<=G.length->Led b l (Q2 G.length) q3 i (Dg ((G.take i).map (mvT p t)) (E3 p (q.view l))))
   (fun i a c=>i<G.length->A4 prog 77 [.ref 1 0 0 3,.val (.string (mvT p t (G.getD i zM)).1),.agg (Aa (G.getD i zM).2)] (oqH b a) (.val (.int .i64 0)) (oqH b c)) (Q2 G.length) (fun _=>by
    have:=Led.refl hLd2.ok 0
    rw[hLd2.view] at this
    exact this) fun i a ha=>by
    by_cases hi:i<G.length
    ·have hLd:=ha (by omega)
     obtain⟨g1,g2⟩:=hGm i hi
     have k0:=e2 (mvT p t (G.getD i zM)) (A0j.2 ⟨_,g2,rfl⟩)
     have hf:=hF _ (hvs _ g1).2 (by have:=QA (hV.fit _ g1);omega)
     rw[hV.fit _ g1] at hf
     obtain⟨c,s1,s2⟩:=Mr hLd.ok (mvT p t (G.getD i zM)).1 (G.getD i zM).2 0 hf (hvs _ g1).2 (by have:=hLd.len;have:=hLd2.len;omega)
     have hp0:Bv 0 (mvT p t (G.getD i zM)).1=0:=by unfold Bv;rw[if_pos k0.1]
     rw[hp0] at s1 s2
     rw[if_pos rfl] at s2
     refine⟨c,fun _=>?_,fun _=>s1⟩
     have:=hLd.trans s2
     rw[hLd.view] at this
     rw[H8 hi,A12]
     show Led b l _ c (i+1) (Dg ((G.take i).map (mvT p t)++[mvT p t (G.getD i zM)]) _)
     rw[MR]
     exact this
    ·exact⟨a,fun h'=>by omega,fun h'=>absurd h' hi⟩
  have hLd3:=(b1 G.length).1 (A0e _)
  rw[A0Q] at hLd3
  refine⟨Q3 G.length,?_,?_⟩
  ·exact q_move0 h hl hls p t (by omega) (by omega) hvs hE (by omega) G hG (fun j hj=>hz _ (hGm j hj).2) Q2 Q3 (fun i=>CG (G.getD i zM).1 ((Q2 i).view l)) a0 b0 (fun i hi=>(a1 i).2 hi) (fun i hi=>(b1 i).2 hi)
  ·rw[if_pos rfl]
   exact(hLd2.trans hLd3).mono (by omega)
 ·have e1:CP Al p t (q.view l)=((Gu p t (q.view l) G).1,q.view l):=by unfold CP;rw[hG,if_pos hc]
  obtain⟨J,hJ,z1,z2,z3⟩:=MA hc
  refine⟨q,?_,?_⟩
  ·rw[e1,z3]
   exact q_moveE h hl hls p t (by omega) (by omega) hvs hE (by omega) G hG J hJ z1 z2
  ·rw[e1,if_neg (by simpa using hc)]
   exact Led.refl h _
theorem do_all{b:GT}{l:List GE}(hl:l.length<=4096)(hls:∀ e ∈ l,e.1.size<=64):∀ (n:Nat) (m:GM) (d:Nat) (q:OQ),SizeOf.sizeOf m<=n->SmU m->wtU m<=1048576->Ay Al m d=0->AQ m<=64->DoOk b l q (AQ m)->
  ∃ q',A4 prog 50 [.ref 1 0 0 3,.agg (Aj m)] (oqH b q) (.val (.int .i64 (Bk Al m (q.view l)).1)) (oqH b q')/\Led b l q q' (8193*AQ m) (Gn m (q.view l))
 |0,m,d,q,hn,_,_,_,_,_=>by cases m;simp at hn
 |n+1,m,d,q,hn,hm,hw,h0,hsz,hq=>by
  obtain⟨m1,m2,m3,m4⟩:=hm.parts
  have hz:1<=AQ m:=by rw[EY];omega
  have hes:=es_le hq.ok.ch hq.ext
  have hus:=hq.us
  have hlen:=hq.len
  have hstep:Bk Al m (q.view l)=if m.kind=1 then(Bv (Al m.value) m.key,if Bv (Al m.value) m.key=0 then AU (m.key,m.value) (q.view l) else q.view l)
   else if m.kind=2 then(if CG m.key (q.view l)=true then(0,BE m.key (q.view l)) else(12,q.view l))
   else if m.kind=3 then(FX (q.view l) m.key m.n (Al (E8 (q.view l) m.key m.n)),if FX (q.view l) m.key m.n (Al (E8 (q.view l) m.key m.n))=0 then AU (m.key,E8 (q.view l) m.key m.n) (q.view l) else q.view l)
   else if m.kind=4 then(QJ m (q.view l) (Al m.value),SZ m (q.view l) (Al m.value))
   else if m.kind=5 then(G8 (q.view l) m.key (Al (D9 (q.view l) m.key m.value)),if G8 (q.view l) m.key (Al (D9 (q.view l) m.key m.value))=0 then AU (m.key,D9 (q.view l) m.key m.value) (q.view l) else q.view l)
   else if m.kind=6 then CP Al m.key m.to (q.view l)
   else if m.kind=7 then(if m.key.size≠0/\DU m (q.view l)=false then(13,q.view l) else Cl Al m.list (q.view l))
   else(9,q.view l):=by cases m;rfl
  obtain⟨p1,p2,p3,p4,p5,p6⟩:=Ly h0
  have hwt:=Kq m
  have hll:l.length<=1099511627776:=by omega
  have hres:∀ c L,Bk Al m (q.view l)=(c,L)->c=0->Gn m (q.view l)=L:=fun c L h1 h2=>by unfold Gn;rw[h1];exact if_pos h2
  have hresE:∀ c L,Bk Al m (q.view l)=(c,L)->c≠0->Gn m (q.view l)=q.view l:=fun c L h1 h2=>by unfold Gn;rw[h1];exact if_neg h2
  by_cases k1:m.kind=1
  ·rw[if_pos k1] at hstep
   obtain⟨q1,hP,hL⟩:=Mr hq.ok m.key m.value (Al m.value) (hF _ m2 (by omega)) m2 (by omega)
   have hk:=hL.le hq.ok
   have hl2:=hL.len
   by_cases hc:Bv (Al m.value) m.key=0
   ·rw[hres _ _ hstep hc,hstep]
    refine⟨q1,?_,hL.mono (by omega)⟩
    rw[hc] at hP|-
    exact do_put0 m k1 q1 hP
   ·rw[hresE _ _ hstep hc,hstep]
    exact⟨_,do_putE m k1 _ q1 hP hc hL.ok.us hk (by omega),hL.of_back hq.ok⟩
  ·rw[if_neg k1] at hstep
   by_cases k2:m.kind=2
   ·rw[if_pos k2] at hstep
    have hky:=E6 (Pe p3 (by omega) (by omega))
    obtain⟨q1,hP,hL⟩:=U8 hq.ok hll m.key hky (by omega)
    have hk:=hL.le hq.ok
    have hl2:=hL.len
    cases hh:CG m.key (q.view l) with
    |true=>
     rw[hh] at hP hstep
     rw[if_pos rfl] at hstep
     rw[hres _ _ hstep rfl,hstep]
     exact⟨q1,do_del1 m k2 q1 hP,hL.mono (by omega)⟩
    |false=>
     rw[hh] at hP hstep
     rw[if_neg (by decide)] at hstep
     rw[hresE _ _ hstep (by decide),hstep]
     exact⟨_,do_del0 m k2 q1 hP hL.ok.us hk (by omega),hL.of_back hq.ok⟩
   ·rw[if_neg k2] at hstep
    by_cases k3:m.kind=3
    ·rw[if_pos k3] at hstep
     obtain⟨q1,hP,hL⟩:=q_inc hq.ok hll m.key m.n (Al (E8 (q.view l) m.key m.n)) (hF _ (Qt _ _ _) (by rw[Vw];omega)) (by omega)
     have hk:=hL.le hq.ok
     have hl2:=hL.len
     by_cases hc:FX (q.view l) m.key m.n (Al (E8 (q.view l) m.key m.n))=0
     ·rw[hres _ _ hstep hc,hstep]
      refine⟨q1,?_,hL.mono (by omega)⟩
      rw[hc] at hP|-
      exact do_inc0 m k3 q1 hP
     ·rw[hresE _ _ hstep hc,hstep]
      exact⟨_,do_incE m k3 _ q1 hP hc hL.ok.us hk (by omega),hL.of_back hq.ok⟩
    ·rw[if_neg k3] at hstep
     by_cases k4:m.kind=4
     ·rw[if_pos k4] at hstep
      have hky:=E6 (Pe p3 (by omega) (by omega))
      obtain⟨q1,hP,hL⟩:=q_cas hq.ok hll m (Al m.value) m2 hky (fun _=>hF _ m2 (by omega)) (by omega)
      have hk:=hL.le hq.ok
      have hl2:=hL.len
      by_cases hc:QJ m (q.view l) (Al m.value)=0
      ·rw[hres _ _ hstep hc,hstep]
       refine⟨q1,?_,hL.mono (by omega)⟩
       rw[hc] at hP|-
       exact do_cas0 m k4 q1 hP
      ·rw[hresE _ _ hstep hc,hstep]
       exact⟨_,do_casE m k4 _ q1 hP hc hL.ok.us hk (by omega),hL.of_back hq.ok⟩
     ·rw[if_neg k4] at hstep
      by_cases k5:m.kind=5
      ·rw[if_pos k5] at hstep
       obtain⟨w1,w2⟩:=Ra hq.v m.key m2
       obtain⟨q1,hP,hL⟩:=YX hq.ok hll m.key m.value (Al (D9 (q.view l) m.key m.value)) m2 (Qb hq.v m.key).1 (hF _ w1 (by omega)) (by omega)
       have hk:=hL.le hq.ok
       have hl2:=hL.len
       by_cases hc:G8 (q.view l) m.key (Al (D9 (q.view l) m.key m.value))=0
       ·rw[hres _ _ hstep hc,hstep]
        refine⟨q1,?_,hL.mono (by omega)⟩
        rw[hc] at hP|-
        exact do_add0 m k5 q1 hP
       ·rw[hresE _ _ hstep hc,hstep]
        exact⟨_,do_addE m k5 _ q1 hP hc hL.ok.us hk (by omega),hL.of_back hq.ok⟩
      ·rw[if_neg k5] at hstep
       by_cases k6:m.kind=6
       ·rw[if_pos k6] at hstep
        obtain⟨z1,z2⟩:=Um p3 k6
        obtain⟨q1,hP,hL⟩:=q_moveX hF hq.ok hq.v (by omega) hls m.key m.to z1 z2 (by omega) (by omega)
        have hk:=hL.le hq.ok
        have hl2:=hL.len
        have hst:Bk Al m (q.view l)=((CP Al m.key m.to (q.view l)).1,(CP Al m.key m.to (q.view l)).2):=hstep
        by_cases hc:(CP Al m.key m.to (q.view l)).1=0
        ·rw[hres _ _ hst hc,hstep]
         rw[if_pos hc] at hL
         refine⟨q1,?_,hL.mono (by omega)⟩
         rw[hc] at hP|-
         exact do_move0 m k6 q1 hP
        ·rw[hresE _ _ hst hc,hstep]
         exact⟨_,do_moveE m k6 _ q1 hP hc hL.ok.us hk (by omega),hL.of_back hq.ok⟩
       ·rw[if_neg k6] at hstep
        have hkd:=PO p1
        have k7:m.kind=7:=by omega
        rw[if_pos k7] at hstep
        have hsu:=EY m
        have hl64:m.list.length<=64:=by have:=Gg m.list;omega
        have hS:=YW hq.ok hll m
        let V:Nat->List GE:=Vs Al m.list (q.view l)
        let P:Nat->OQ->Prop:=fun i qi=>Led b l q qi (8193*Bf (m.list.take i)) (V i)/\VOk (V i)/\(V i).length<=(q.view l).length+Bf (m.list.take i)
        have one:∀ i,i<m.list.length->∀ qi,P i qi->∃ q',A4 prog 50 [.ref 1 0 0 3,.agg (Aj (m.list.getD i zU))] (oqH b qi) (.val (.int .i64 (Bk Al (m.list.getD i zU) (V i)).1)) (oqH b q')/\Led b l qi q' (8193*AQ (m.list.getD i zU)) (Gn (m.list.getD i zU) (V i)):=fun i hi qi hP=>by
         obtain⟨g1,g2,g3⟩:=hP
         have hmem:=Ad (d:=zU) hi
         obtain⟨t1,t2⟩:=CV hi
         have hw1:=FH hmem
         have hlen2:=g1.len
         have hlt:=GM.list_lt hmem
         have:=do_all hl hls n (m.list.getD i zU) (d+1) qi (by omega) (m4 _ hmem) (by omega) (Uh p6 hmem) (by omega)
          ⟨g1.ok,by rw[g1.view];exact g2,JM.trans hq.ok.ch g1.ok.ch hq.ext g1.ext,by rw[g1.view];omega,by omega⟩
         rw[g1.view] at this
         exact this
        have next:∀ i,i<m.list.length->∀ qi q',P i qi->(Bk Al (m.list.getD i zU) (V i)).1=0->Led b l qi q' (8193*AQ (m.list.getD i zU)) (Gn (m.list.getD i zU) (V i))->P (i+1) q':=fun i hi qi q' hP hc hL=>by
         obtain⟨g1,g2,g3⟩:=hP
         have hmem:=Ad (d:=zU) hi
         obtain⟨t1,t2⟩:=CV hi
         obtain⟨a1,a2⟩:=JO _ _ (m4 _ hmem) g2
         have e1:Gn (m.list.getD i zU) (V i)=V (i+1):=by
          unfold Gn
          rw[if_pos hc]
          exact(Rb Al hi).symm
         rw[e1] at hL a1 a2
         refine⟨(g1.trans hL).mono (by rw[t1,Nat.mul_add];exact A0e _),a1,by omega⟩
        have hV0:V 0=q.view l:=VV _ _ _
        have hP0:P 0 q:=⟨by rw[hV0];exact(Led.refl hq.ok 0).mono (A0t _),by rw[hV0];exact hq.v,by rw[hV0];omega⟩
        have seqN:∀ N,N<=m.list.length->(∀ i,i<N->(Bk Al (m.list.getD i zU) (V i)).1=0)->∃ f:Nat->OQ,f 0=q/\(∀ i,i<=N->P i (f i))/\∀ i,i<N->A4 prog 50 [.ref 1 0 0 3,.agg (Aj (m.list.getD i zU))] (oqH b (f i)) (.val (.int .i64 0)) (oqH b (f (i+1))):=fun N hN hz=>by
         obtain⟨f,f0,f1⟩:=GG (fun i qi=>i<=N->P i qi) (fun i a c=>i<N->A4 prog 50 [.ref 1 0 0 3,.agg (Aj (m.list.getD i zU))] (oqH b a) (.val (.int .i64 0)) (oqH b c)) q (fun _=>hP0) fun i a ha=>by
          by_cases hi:i<N
          ·obtain⟨c,s1,s2⟩:=one i (by omega) a (ha (by omega))
           rw[hz i hi] at s1
           exact⟨c,fun _=>next i (by omega) a c (ha (by omega)) (hz i hi) s2,fun _=>s1⟩
          ·exact⟨a,fun h'=>by omega,fun h'=>absurd h' hi⟩
         exact⟨f,f0,fun i hi=>(f1 i).1 hi,fun i hi=>(f1 i).2 hi⟩
        by_cases hs:m.key.size≠0/\DU m (q.view l)=false
        ·rw[if_pos hs] at hstep
         obtain⟨s1,s2⟩:=hs
         rw[s2] at hS
         rw[hresE _ _ hstep (by decide),hstep]
         exact⟨_,do_seqS m k7 (fun e=>s1 ((Fe _).1 e)) hS hq.ok.us (by omega),(Led.refl hq.ok 0).of_back hq.ok⟩
        ·rw[if_neg hs] at hstep
         have hst:Bk Al m (q.view l)=((Cl Al m.list (q.view l)).1,(Cl Al m.list (q.view l)).2):=hstep
         have hsd:m.key.size≠0->DU m (q.view l)=true:=fun h=>by
          cases h2:DU m (q.view l) with
          |true=>rfl
          |false=>exact absurd ⟨h,h2⟩ hs
         rcases Ge Al m.list (q.view l) with⟨c1,c2⟩|⟨J,c1,c2,c3,c4⟩
         ·obtain⟨f,f0,f1,f2⟩:=seqN m.list.length (A0e _) c2
          have hcz:(Cl Al m.list (q.view l)).1=0:=by rw[c1]
          rw[hres _ _ hst hcz,hstep,hcz]
          obtain⟨g1,_,_⟩:=f1 m.list.length (A0e _)
          rw[A0Q] at g1
          refine⟨f m.list.length,?_,?_⟩
          ·by_cases hk0:m.key.size=0
           ·exact do_seq0 m k7 f ((Fe _).2 hk0) f0 hl64 f2
           ·rw[hsd hk0] at hS
            exact do_seqP0 m k7 f (fun e=>hk0 ((Fe _).1 e)) hS f0 hl64 f2
          ·rw[c1]
           exact g1.mono (by omega)
         ·obtain⟨f,f0,f1,f2⟩:=seqN J (by omega) c2
          rw[hresE _ _ hst c4,hstep]
          have g:=f1 J (A0e _)
          obtain⟨qf,s1,s2⟩:=one J c1 (f J) g
          rw[show(Bk Al (m.list.getD J zU) (V J)).1=(Cl Al m.list (q.view l)).1 from c3] at s1
          have hmem:=Ad (d:=zU) c1
          have hsz1:=TC hmem
          obtain⟨t1,t2⟩:=CV c1
          have hL:=g.1.trans s2
          have hk:=hL.le hq.ok
          have hl2:=hL.len
          let Q:Nat->OQ:=fun i=>if i=J+1 then qf else f i
          have eJ:Q (J+1)=qf:=if_pos rfl
          have ei:∀ i,i<=J->Q i=f i:=fun i hi=>if_neg (by omega)
          have q0:Q 0=q:=by rw[ei 0 (A0t _)];exact f0
          have hd:∀ i,i<J->A4 prog 50 [.ref 1 0 0 3,.agg (Aj (m.list.getD i zU))] (oqH b (Q i)) (.val (.int .i64 0)) (oqH b (Q (i+1))):=fun i hi=>by
           rw[ei i (by omega),ei (i+1) (by omega)];exact f2 i hi
          have hj:A4 prog 50 [.ref 1 0 0 3,.agg (Aj (m.list.getD J zU))] (oqH b (Q J)) (.val (.int .i64 (Cl Al m.list (q.view l)).1)) (oqH b (Q (J+1))):=by
           rw[ei J (A0e _),eJ];exact s1
          rw[<-eJ] at hL hk hl2
          refine⟨_,?_,hL.of_back hq.ok⟩
          by_cases hk0:m.key.size=0
          ·exact do_seqE m k7 Q ((Fe _).2 hk0) J c1 _ c4 q0 hl64 hd hj hL.ok.us hk (by omega)
          ·rw[hsd hk0] at hS
           exact do_seqPE m k7 Q (fun e=>hk0 ((Fe _).1 e)) hS J c1 _ c4 q0 hl64 hd hj hL.ok.us hk (by omega)
end
noncomputable def DY(m:GM)(L:List GE):Int×List GE:=if K0 Al m≠0 then(K0 Al m,L) else((Bk Al m L).1,Gn m L)
theorem ME{L:List GE}{k:ByteArray}{v:GV}(h:Ah k L=some v):(k,v) ∈ L:=by
 unfold Ah at h
 cases hf:L.find? fun x=>decide (x.1=k) with
 |none=>rw [hf] at h;cases h
 |some e=>
  rw[hf] at h
  simp only[A0U,A04] at h
  have h1:=A1V hf
  have h2:=List.find?_some hf
  simp only[decide_eq_true_eq] at h2
  obtain⟨a,b⟩:=e
  subst h h2
  exact h1
theorem Wn{q:OQ}{l:List GE}(hl:VOk l)(hv:VOk (q.view l))(hk:(q.es.map (·.1)).Nodup):Rf q.es l:=fun k v w h1 h2 h3=>by
 have h4:Ah k (q.view l)=some v:=by
  show Ah k (FI q.es l)=_
  rw[Cz k q.es l hk,h1];rfl
 have f1:=(MW (hl.fit _ (ME h2))).1
 have f2:=(MW (hv.fit _ (ME h4))).1
 exact same_eq f1 f2 h3
section
variable(hF:∀ v,Sm v->wtV v<=2097152->A3 prog 116 [.agg (Aa v)] (.val (.int .i64 (Al v))))
include hF
theorem Yr{b:GT}{l:List GE}(hb:DF b l)(hV:VOk l)(hl:l.length<=4000)(m:GM)(hm:SmU m)(hw:wtU m<=1048576)(hz:AQ m<=1099511627776):
  ∃ t',A3 prog 24 [Be b,.agg (Aj m)] (.tup [Be t',.val (.int .i64 (DY m l).1)])/\DF t' (DY m l).2/\VOk (DY m l).2/\(DY m l).2.length<=l.length+64:=by
 have hM:=c_mMay hF m hm (by omega) hz
 unfold DY
 by_cases hc:K0 Al m=0
 ·rw[if_neg (by simpa using hc)]
  rw[hc] at hM
  have hc':=hc
  unfold K0 at hc'
  have h64:AQ m<=64:=by
   rcases A0v 64 (AQ m) with h|h
   ·rw[if_pos h] at hc';cases hc'
   ·exact h
  rw[if_neg (by omega)] at hc'
  let q:OQ:=⟨none,[]⟩
  have hq:Ey b q l:=⟨hb,⟨by simp[q,OQ.es],by simp[q,OQ.es],by simp[q,OQ.es],by simp[q,OQ.es]⟩,fun _=>rfl⟩
  have hv0:q.view l=l:=rfl
  have hls:∀ e ∈ l,e.1.size<=64:=fun e he=>E6 (hV.key e he)
  obtain⟨q',hD,hL⟩:=do_all hF (by omega) hls _ m 1 q (A0e _) hm hw hc' h64 ⟨hq,by rw[hv0];exact hV,.refl q,by rw[hv0];omega,by simp only[q,A0i];omega⟩
  rw[hv0] at hD hL
  obtain⟨a1,a2⟩:=JO m l hm hV
  by_cases hcs:(Bk Al m l).1=0
  ·have hDo:=q_Do m _ q' hM hD
   rw[hcs] at hDo|-
   have hes:=es_le hL.ok.ch hL.ext
   have hus:=hL.len
   obtain⟨t',ht,hC⟩:=Xk (oq b q') l hL.ok.ov (by show l.length+q'.es.length<=1048576;simp only[q,A0i] at hus;omega) (Wn hV (by rw[hL.view];exact a1) hL.ok.ch.keys)
   rw[F1] at hC
   rw[JY,hL.view] at ht
   exact⟨t',c_Run b t' m q' hDo hC,ht,a1,by simp only;omega⟩
  ·have hDo:=q_Do m _ q' hM hD
   have hr:Gn m l=l:=by unfold Gn;rw[if_neg hcs]
   refine⟨b,c_RunE b m _ hcs q' hDo,?_,?_,?_⟩
   ·simp only[hr];exact hb
   ·simp only[hr];exact hV
   ·simp only[hr];omega
 ·rw[if_pos (by simpa using hc)]
  exact⟨b,c_RunE b m _ hc ⟨none,[]⟩ (q_DoE m _ hM hc),hb,hV,by simp only;omega⟩
end
end Go.Ab
namespace Go.Ab
open Go.Proofs Go.Proofs.Tryz Go.RowKit Go.Shelf
theorem begS_ext(k p:ByteArray)(h:p.size<=k.size):C1 k p=decide (k.extract 0 p.size=p):=by
 have hk:k.size=k.data.toList.length:=rfl
 have hp:p.size=p.data.toList.length:=rfl
 have e:(k.extract 0 p.size).data.toList=k.data.toList.take p.size:=by
  rw[ByteArray.data_extract,Array.toList_extract]
  simp[List.extract]
 unfold C1 Lib.hasPrefix
 rw[Bool.eq_iff_iff,decide_eq_true_eq,List.isPrefixOf_iff_prefix,List.prefix_iff_eq_take]
 constructor
 ·intro h
  apply Ld
  show(k.extract 0 p.size).data.toList=p.data.toList
  rw[e,hp]
  exact h.symm
 ·intro h
  have:=congrArg (fun x:ByteArray=>x.data.toList) h
  change(k.extract 0 p.size).data.toList=p.data.toList at this
  rw[e,hp] at this
  exact this.symm
theorem RP(k p:ByteArray)(hk:k.size<=4611686018427387904):A3 prog 100 [.val (.string k),.val (.string p)] (.val (.bool (C1 k p))):=by
 refine Zf [] func100 rfl ntmps100 results100 ?_
 rcases A0v k.size p.size with h|h
 ·have b1:decide ((p.size:Int)<=k.size)=false:=decide_eq_false (by omega)
  have e:C1 k p=false:=by
   cases hb:C1 k p with
   |false=>rfl
   |true=>
    unfold C1 Lib.hasPrefix at hb
    have:=(List.isPrefixOf_iff_prefix.1 hb).length_le
    have hk:k.size=k.data.toList.length:=rfl
    have hp:p.size=p.data.toList.length:=rfl
    omega
  rw[e]
  (have z:=b1;(try push_cast[z])<;>repeat' (first|apply Zi<;>intro _|exact Zo|with_reducible apply Za)<;>try push_cast[z])
 ·have b1:decide ((p.size:Int)<=k.size)=true:=decide_eq_true (by omega)
  rw[begS_ext k p h]
  (have z:=b1;(try push_cast[z])<;>repeat' (first|apply Zi<;>intro _|exact Zo|with_reducible apply Za)<;>try push_cast[z])
  all_goals first|omega|skip
theorem c_MCopyB(l:List GE)(hn:l.length<=1048576):A4 prog 62 [.ref 1 0 0 1] [(1,mB l)] (.ref 2 0 0 1) [(1,mB l),(2,mB l)]:=by
 refine Zd [] func62 rfl ntmps62 results62 ?_
 ((try push_cast)<;>repeat' (first|apply Zi<;>intro _|exact Zp|with_reducible apply Za)<;>try push_cast)
 all_goals first|omega|exact B4 _|exact Cp l|(intro y hy;cases hy;done)|exact Hv _ _|skip
 refine Ar.trans (Ar.fzB (b:=48) rfl) ?_
 push_cast[A7]
 apply Zr [(2,64)] rfl<;>push_cast
theorem RO(l:List GE)(hn:l.length<=1048576):A4 prog 96 [AR l] [] (.ref 4 0 0 2) [(2,mB l),(4,.rows [[.ref 2 0 0 1,.slice [] true]] 2)]:=by
 have hC:=HH l hn
 have oM:=A7 l
 refine Zd [] func96 rfl ntmps96 results96 ?_
 (have z:=oM;(try push_cast[z])<;>repeat' (first|apply Zi<;>intro _|refine Zs [] hC ?_|exact Zo|with_reducible apply Za)<;>try push_cast[z])
 apply Zr [(2,26),(4,40)] rfl<;>push_cast [oM]
theorem Vd(l:List GE)(e:GE)(hn:l.length<=1048575)(hk:e.1.size<=4611686018427387904)(f:Int)(hF:A3 prog 95 [.agg (Aa e.2)] (.val (.int .i64 f)))(h0:Bv f e.1≠0):
  A4 prog 97 [.ref 1 0 0 2,.val (.string e.1),.agg (Aa e.2)] [(1,.rows [[.ref 3 0 0 1,.slice [] true]] 2),(3,mB l)] (.val (.int .i64 (Bv f e.1))) [(1,.rows [[.ref 3 0 0 1,.slice [] true]] 2),(3,mB l)]:=by
 have hM:=JV e.1 hk
 have oM:=A7 l
 unfold Bv at h0|-
 rw[A0] at hF|-
 by_cases hc:C7 e.1=0
 ·rw[if_pos hc] at h0|-
  rw[hc] at hM
  have b1:(f !=0)=true:=by simpa using h0
  refine Zd [8] func97 rfl ntmps97 results97 ?_
  (have z:=Za oM b1;(try push_cast[z])<;>repeat' (first|apply Zi<;>intro _|refine Zc hM ?_|refine Zc hF ?_|exact Zo|with_reducible apply Za)<;>try push_cast[z])
  apply Zw<;>push_cast [oM]
 ·rw[if_neg hc]
  have b1:(C7 e.1 !=0)=true:=by simpa using hc
  refine Zd [8] func97 rfl ntmps97 results97 ?_
  (have z:=Za oM b1;(try push_cast[z])<;>repeat' (first|apply Zi<;>intro _|refine Zc hM ?_|exact Zo|with_reducible apply Za)<;>try push_cast[z])
  apply Zw<;>push_cast [oM]
theorem Vc(l:List GE)(e:GE)(hn:l.length<=1048575)(hk:e.1.size<=4611686018427387904)(hF:A3 prog 95 [.agg (Aa e.2)] (.val (.int .i64 0)))(h0:C7 e.1=0):
  A4 prog 97 [.ref 1 0 0 2,.val (.string e.1),.agg (Aa e.2)] [(1,.rows [[.ref 3 0 0 1,.slice [] true]] 2),(3,mB l)] (.val (.int .i64 0)) [(1,.rows [[.ref 3 0 0 1,.gref 2 1]] 2),(2,.grow [[.ref 4 0 0 1]] 1),(4,mB l),(3,mB (Eu l e))]:=by
 have hM:=JV e.1 hk
 rw[h0] at hM
 have hC:=c_MCopyB l (by omega)
 have hP:=c_MPut l e hn
 have oM:=A7 l
 have oI:=A7 (Eu l e)
 rw[A0] at hF hP|-
 refine Zd [8] func97 rfl ntmps97 results97 ?_
 (have z:=Za oM oI;(try push_cast[z])<;>repeat' (first|apply Zi<;>intro _|refine Zc hM ?_|refine Zc hF ?_|refine Zs [(1,3)] hC ?_|refine Zs [(1,3)] hP ?_|exact Zo|with_reducible apply Za)<;>try push_cast[z])
 all_goals first|(intro y hy;cases hy;done)|(intro y hy;cases A0d.1 hy;rfl)|(intro y hy d hd;cases hy;done)|(intro y hy d hd;cases A0d.1 hy;cases A0d.1 hd;rfl)|skip
 apply Zr [(2,176),(4,162)] rfl<;>push_cast [oM,oI]
theorem r_put(l:List GE)(k:ByteArray)(v:GV)(hn:l.length<=1048575)(hk:k.size<=4611686018427387904)(f:Int)(hF:A3 prog 95 [.agg (Aa v)] (.val (.int .i64 f))):
  A3 prog 61 [AR l,.val (.string k),.agg (Aa v)] (.tup [AR (if Bv f k=0 then Eu l (k,v) else l),.val (.int .i64 (Bv f k))]):=by
 have hB:=RO l (by omega)
 have oM:=A7 l
 by_cases h0:Bv f k=0
 ·rw[if_pos h0,h0]
  unfold Bv at h0
  by_cases hky:C7 k=0
  ·rw[if_pos hky] at h0
   rw[h0] at hF
   have hP:=Vc l (k,v) hn hk hF hky
   have oI:=A7 (Eu l (k,v))
   simp only at hP
   rw[A0] at hP|-
   generalize Eu l (k,v)=L at*
   refine A3.of_awpW func61 rfl ntmps61 (by kernel_rfl) (by simp) (congrArg Array.toList results61) ?_
   refine BJ.seqV [0] mixed (by kernel_rfl) ?_
   (have z:=oM;(try push_cast[z])<;>repeat' (first|apply Zi<;>intro _|exact Zo|with_reducible apply Za)<;>try push_cast[z])
   refine BJ.seqV [] mixed (by kernel_rfl) ?_
   (have z:=oM;(try push_cast[z])<;>repeat' (first|apply Zi<;>intro _|refine Zs [] hB ?_|exact Zo|with_reducible apply Za)<;>try push_cast[z])
   refine BJ.seqV [] mixed (by kernel_rfl) ?_
   (have z:=Za oM oI;(try push_cast[z])<;>repeat' (first|apply Zi<;>intro _|refine Zs [(1,36),(3,34)] hP ?_|exact Zo|with_reducible apply Za)<;>try push_cast[z])
   refine BJ.vc [34] mixed (by kernel_rfl) ?_
   (have z:=Za oM oI;(try push_cast[z])<;>repeat' (first|apply Zi<;>intro _|exact Zo|with_reducible apply Za)<;>try push_cast[z])
  ·rw[if_neg hky] at h0;exact absurd h0 (by decide)
 ·rw[if_neg h0]
  have hP:=Vd l (k,v) hn hk f hF h0
  simp only at hP
  rw[A0] at hP|-
  generalize Bv f k=c at*
  refine A3.of_awpW func61 rfl ntmps61 (by kernel_rfl) (by simp) (congrArg Array.toList results61) ?_
  refine BJ.seqV [0] mixed (by kernel_rfl) ?_
  (have z:=oM;(try push_cast[z])<;>repeat' (first|apply Zi<;>intro _|exact Zo|with_reducible apply Za)<;>try push_cast[z])
  refine BJ.seqV [] mixed (by kernel_rfl) ?_
  (have z:=oM;(try push_cast[z])<;>repeat' (first|apply Zi<;>intro _|refine Zs [] hB ?_|exact Zo|with_reducible apply Za)<;>try push_cast[z])
  refine BJ.seqV [] mixed (by kernel_rfl) ?_
  (have z:=oM;(try push_cast[z])<;>repeat' (first|apply Zi<;>intro _|refine Zs [(1,36),(3,34)] hP ?_|exact Zo|with_reducible apply Za)<;>try push_cast[z])
  refine BJ.vc [34] mixed (by kernel_rfl) ?_
  (have z:=oM;(try push_cast[z])<;>repeat' (first|apply Zi<;>intro _|exact Zo|with_reducible apply Za)<;>try push_cast[z])
theorem r_putS(l:List GE)(k:ByteArray)(v:GV)(hn:l.length<=1048575)(hk:k.size<=4611686018427387904)(f:Int)(hF:A3 prog 95 [.agg (Aa v)] (.val (.int .i64 f))):
  A4 prog 61 [AR l,.val (.string k),.agg (Aa v)] [] (.tup [AR (if Bv f k=0 then Eu l (k,v) else l),.val (.int .i64 (Bv f k))]) []:=by
 have hB:=RO l (by omega)
 have oM:=A7 l
 by_cases h0:Bv f k=0
 ·rw[if_pos h0,h0]
  unfold Bv at h0
  by_cases hky:C7 k=0
  ·rw[if_pos hky] at h0
   rw[h0] at hF
   have hP:=Vc l (k,v) hn hk hF hky
   have oI:=A7 (Eu l (k,v))
   simp only at hP
   rw[A0] at hP|-
   generalize Eu l (k,v)=L at*
   refine A4.of_awpW func61 rfl ntmps61 (by kernel_rfl) (by simp) (congrArg Array.toList results61) ?_
   refine BJ.seqV [8] mixed (by kernel_rfl) ?_
   (have z:=oM;(try push_cast[z])<;>repeat' (first|apply Zi<;>intro _|exact Zo|with_reducible apply Za)<;>try push_cast[z])
   refine BJ.seqV [] mixed (by kernel_rfl) ?_
   (have z:=oM;(try push_cast[z])<;>repeat' (first|apply Zi<;>intro _|refine Zs [] hB ?_|exact Zo|with_reducible apply Za)<;>try push_cast[z])
   refine BJ.seqV [] mixed (by kernel_rfl) ?_
   (have z:=Za oM oI;(try push_cast[z])<;>repeat' (first|apply Zi<;>intro _|refine Zs [(1,44),(3,42)] hP ?_|exact Zo|with_reducible apply Za)<;>try push_cast[z])
   refine BJ.vc [42] mixed (by kernel_rfl) ?_
   (have z:=Za oM oI;(try push_cast[z])<;>repeat' (first|apply Zi<;>intro _|exact Zo|with_reducible apply Za)<;>try push_cast[z])
   apply Zw<;>push_cast [oI]
  ·rw[if_neg hky] at h0;exact absurd h0 (by decide)
 ·rw[if_neg h0]
  have hP:=Vd l (k,v) hn hk f hF h0
  simp only at hP
  rw[A0] at hP|-
  generalize Bv f k=c at*
  refine A4.of_awpW func61 rfl ntmps61 (by kernel_rfl) (by simp) (congrArg Array.toList results61) ?_
  refine BJ.seqV [8] mixed (by kernel_rfl) ?_
  (have z:=oM;(try push_cast[z])<;>repeat' (first|apply Zi<;>intro _|exact Zo|with_reducible apply Za)<;>try push_cast[z])
  refine BJ.seqV [] mixed (by kernel_rfl) ?_
  (have z:=oM;(try push_cast[z])<;>repeat' (first|apply Zi<;>intro _|refine Zs [] hB ?_|exact Zo|with_reducible apply Za)<;>try push_cast[z])
  refine BJ.seqV [] mixed (by kernel_rfl) ?_
  (have z:=oM;(try push_cast[z])<;>repeat' (first|apply Zi<;>intro _|refine Zs [(1,44),(3,42)] hP ?_|exact Zo|with_reducible apply Za)<;>try push_cast[z])
  refine BJ.vc [42] mixed (by kernel_rfl) ?_
  (have z:=oM;(try push_cast[z])<;>repeat' (first|apply Zi<;>intro _|exact Zo|with_reducible apply Za)<;>try push_cast[z])
  apply Zw<;>push_cast [oM]
theorem ovf_ref(n d:Int)(h1: -9223372036854775808<=n)(h2:n<=9223372036854775807)(h3: -9223372036854775808<=d)(h4:d<=9223372036854775807):ovf n d=((decide (0<d)&&decide (9223372036854775807-d<n)) ||(decide (d<0)&&decide (n< -9223372036854775808-d))):=by
 unfold ovf
 have e:(-9223372036854775808<=n+d/\n+d<=9223372036854775807/\IntKind.i64.wrap (n+d)=n+d)∨(9223372036854775807<n+d/\IntKind.i64.wrap (n+d)=n+d-18446744073709551616)∨(n+d< -9223372036854775808/\IntKind.i64.wrap (n+d)=n+d+18446744073709551616):=by
  simp only[IntKind.wrap,IntKind.bits,IntKind.signed]
  simp
  omega
 rw[Bool.eq_iff_iff]
 simp only[A1P,A0c,decide_eq_true_eq]
 rcases e with⟨e1,e2,e⟩|⟨e1,e⟩|⟨e1,e⟩<;>rw [e]<;>omega
section
variable{L:List GE}(hs:Srt L)(hn:L.length<=1048575)
include hs hn
theorem Ve(k:ByteArray):A3 prog 99 [AR L,.val (.string k)] (.tup [.agg (Aa (AH (Ah k L))),.val (.bool (Ah k L).isSome)]):=by
 have h:=c_Get L k (by omega)
 have e:=Qz k L hs
 rw[<-e]
 cases hh:C5 L k with
 |true=>rw [hh] at h;simpa[AH] using h
 |false=>rw [hh] at h;simpa[AH] using h
theorem r_As(k:ByteArray)(hd:Bool)(was:GV):A3 prog 65 [AR L,.val (.string k),.val (.bool hd),.agg (Aa was)] (.val (.bool (((Ah k L).isSome==hd)&&(!(Ah k L).isSome ||(HE (AH (Ah k L)) was==0))))):=by
 have hG:=Ve hs hn k
 have hC:=Jp (AH (Ah k L)) was
 have oM:=A7 L
 generalize AH (Ah k L)=v at*
 generalize(Ah k L).isSome=x at*
 generalize HE v was=c at*
 rw[A0] at hG
 rw[A0 v,A0 was] at hC
 rw[A0 was]
 refine Zk [0,32] func65 rfl ntmps65 results65 fun H Hb=>?_
 (have z:=oM;(try push_cast[z])<;>repeat' (first|apply Zi<;>intro _|refine Zc hG ?_|refine Zc hC ?_|exact Zo|with_reducible apply Za)<;>try push_cast[z])
 all_goals(clear hG hC H Hb;simp_all)
omit hs in
theorem Q1(k:ByteArray)(v:GV)(hk:k.size<=4611686018427387904)(f:Int)(hF:A3 prog 95 [.agg (Aa v)] (.val (.int .i64 f))):
  A3 prog 61 [AR L,.val (.string k),.agg (Aa v)] (.tup [AR (if Bv f k=0 then AU (k,v) L else L),.val (.int .i64 (Bv f k))]):=by
 have h:=r_put L k v hn hk f hF
 rwa[Kb] at h
theorem r_inc(k:ByteArray)(d:Int)(hk:k.size<=4611686018427387904)(h3: -9223372036854775808<=d)(h4:d<=9223372036854775807)(hv:Sm (AH (Ah k L)))(f:Int)(hF:A3 prog 95 [.agg (Aa (E8 L k d))] (.val (.int .i64 f))):
  A3 prog 64 [AR L,.val (.string k),.val (.int .i64 d)] (.tup [AR (if FX L k d f=0 then AU (k,E8 L k d) L else L),.val (.int .i64 (FX L k d f))]):=by
 have hG:=Ve hs hn k
 have hP:=Q1 hn k (E8 L k d) hk f hF
 have oM:=A7 L
 have oM2:=A7 (if Bv f k=0 then AU (k,E8 L k d) L else L)
 have hPz:=hP.lo (ds':=[AR L,.val (.string k),.agg [.val (.int .i64 3),.val (.bool false),.val (.int .i64 (E8 L k d).n),.val (.string ByteArray.empty),.slice [] true,.slice [] true]]) (by
  rw[A0]
  exact⟨An _,An _,⟨An _,An _,An _,An _,⟨trivial,fun e=>by cases e⟩,⟨trivial,fun e=>by cases e⟩,trivial⟩,trivial⟩)
 have hnn:(E8 L k d).n=IntKind.i64.wrap ((AH (Ah k L)).n+d):=rfl
 rw[hnn] at hPz
 have hz:(Ah k L).isSome=false->(AH (Ah k L)).n=0:=fun h=>by
  cases hg:Ah k L with
  |none=>rfl
  |some v=>rw [hg] at h;cases h
 have hov:=ovf_ref (AH (Ah k L)).n d hv.int.1 hv.int.2 h3 h4
 have wa:0<d->IntKind.i64.wrap (9223372036854775807-d)=9223372036854775807-d:=fun h=>A9 (by omega) (by omega)
 have wb:d<0->IntKind.i64.wrap (-9223372036854775808-d)= -9223372036854775808-d:=fun h=>A9 (by omega) (by omega)
 have hc9:(Ah k L).isSome=true->(AH (Ah k L)).kind≠3->FX L k d f=9:=fun h1 h2=>by unfold FX;rw[if_pos ⟨h1,h2⟩]
 have hc7:((Ah k L).isSome=true->(AH (Ah k L)).kind=3)->ovf (AH (Ah k L)).n d=true->FX L k d f=7:=fun h1 h2=>by unfold FX;rw[if_neg (fun h=>h.2 (h1 h.1)),if_pos h2]
 have hcp:((Ah k L).isSome=true->(AH (Ah k L)).kind=3)->ovf (AH (Ah k L)).n d=false->FX L k d f=Bv f k:=fun h1 h2=>by unfold FX;rw[if_neg (fun h=>h.2 (h1 h.1)),if_neg (by rw[h2];decide)]
 generalize FX L k d f=ic at*
 generalize E8 L k d=iv at*
 clear hP hnn hF
 generalize AH (Ah k L)=v at*
 generalize(Ah k L).isSome=x at*
 rw[A0] at hG
 cases x with
 |true=>
  by_cases hk3:v.kind=3
  ·have b1:(v.kind !=3)=false:=by simpa using hk3
   have hgood:true=true->v.kind=3:=fun _=>hk3
   by_cases d1:0<d
   ·have b2:decide (0<d)=true:=decide_eq_true d1
    have b3:decide (d<0)=false:=decide_eq_false (by omega)
    have wa':=wa d1
    cases hq:decide (9223372036854775807-d<v.n) with
    |true=>
     rw[hc7 hgood (by rw[hov,b2,b3,hq];rfl)]
     rw[if_neg (by decide)]
     refine Zf [32] func64 rfl ntmps64 results64 ?_
     (have z:=Za oM<|Za b1<|Za b2<|Za b3<|Za wa' hq;(try push_cast[z])<;>repeat' (first|apply Zi<;>intro _|refine Zc hG ?_|exact Zo|with_reducible apply Za)<;>try push_cast[z])
    |false=>
     rw[hcp hgood (by rw[hov,b2,b3,hq];rfl)]
     generalize(if Bv f k=0 then AU (k,iv) L else L)=L2 at*
     refine Zf [32] func64 rfl ntmps64 results64 ?_
     (have z:=Za oM<|Za oM2<|Za b1<|Za b2<|Za b3<|Za wa' hq;(try push_cast[z])<;>repeat' (first|apply Zi<;>intro _|refine Zc hG ?_|refine Zc (hPz ..) ?_|exact Zo|with_reducible apply Za)<;>try push_cast[z])
   ·have b2:decide (0<d)=false:=decide_eq_false d1
    by_cases d2:d<0
    ·have b3:decide (d<0)=true:=decide_eq_true d2
     have wb':=wb d2
     cases hq:decide (v.n< -9223372036854775808-d) with
     |true=>
      rw[hc7 hgood (by rw[hov,b2,b3,hq];rfl)]
      rw[if_neg (by decide)]
      refine Zf [32] func64 rfl ntmps64 results64 ?_
      (have z:=Za oM<|Za b1<|Za b2<|Za b3<|Za wb' hq;(try push_cast[z])<;>repeat' (first|apply Zi<;>intro _|refine Zc hG ?_|exact Zo|with_reducible apply Za)<;>try push_cast[z])
     |false=>
      rw[hcp hgood (by rw[hov,b2,b3,hq];rfl)]
      generalize(if Bv f k=0 then AU (k,iv) L else L)=L2 at*
      refine Zf [32] func64 rfl ntmps64 results64 ?_
      (have z:=Za oM<|Za oM2<|Za b1<|Za b2<|Za b3<|Za wb' hq;(try push_cast[z])<;>repeat' (first|apply Zi<;>intro _|refine Zc hG ?_|refine Zc (hPz ..) ?_|exact Zo|with_reducible apply Za)<;>try push_cast[z])
    ·have b3:decide (d<0)=false:=decide_eq_false d2
     rw[hcp hgood (by rw[hov,b2,b3];rfl)]
     generalize(if Bv f k=0 then AU (k,iv) L else L)=L2 at*
     refine Zf [32] func64 rfl ntmps64 results64 ?_
     (have z:=Za oM<|Za oM2<|Za b1<|Za b2 b3;(try push_cast[z])<;>repeat' (first|apply Zi<;>intro _|refine Zc hG ?_|refine Zc (hPz ..) ?_|exact Zo|with_reducible apply Za)<;>try push_cast[z])
  ·have b1:(v.kind !=3)=true:=by simpa using hk3
   rw[hc9 rfl hk3,if_neg (by decide)]
   refine Zf [32] func64 rfl ntmps64 results64 ?_
   (have z:=Za oM b1;(try push_cast[z])<;>repeat' (first|apply Zi<;>intro _|refine Zc hG ?_|exact Zo|with_reducible apply Za)<;>try push_cast[z])
 |false=>
  have hgood:false=true->v.kind=3:=fun h=>by cases h
  have hz':=hz rfl
  rw[hz'] at hPz hov
  rw[Int.zero_add] at hPz
  have wd:IntKind.i64.wrap d=d:=A9 (by omega) (by omega)
  rw[wd] at hPz
  have z0:IntKind.i64.wrap (0+d)=d:=by rw[Int.zero_add,wd]
  have hov2:ovf v.n d=ovf 0 d:=by rw[hz']
  rw[<-hov2] at hov
  by_cases d1:0<d
  ·have b2:decide (0<d)=true:=decide_eq_true d1
   have b3:decide (d<0)=false:=decide_eq_false (by omega)
   have wa':=wa d1
   cases hq:decide (9223372036854775807-d<0) with
   |true=>
    rw[hc7 hgood (by rw[hov,b2,b3,hq];rfl)]
    rw[if_neg (by decide)]
    refine Zf [32] func64 rfl ntmps64 results64 ?_
    (have z:=Za oM<|Za wd<|Za z0<|Za b2<|Za b3<|Za wa' hq;(try push_cast[z])<;>repeat' (first|apply Zi<;>intro _|refine Zc hG ?_|exact Zo|with_reducible apply Za)<;>try push_cast[z])
   |false=>
    rw[hcp hgood (by rw[hov,b2,b3,hq];rfl)]
    generalize(if Bv f k=0 then AU (k,iv) L else L)=L2 at*
    refine Zf [32] func64 rfl ntmps64 results64 ?_
    (have z:=Za oM<|Za oM2<|Za wd<|Za z0<|Za b2<|Za b3<|Za wa' hq;(try push_cast[z])<;>repeat' (first|apply Zi<;>intro _|refine Zc hG ?_|refine Zc (hPz ..) ?_|exact Zo|with_reducible apply Za)<;>try push_cast[z])
  ·have b2:decide (0<d)=false:=decide_eq_false d1
   by_cases d2:d<0
   ·have b3:decide (d<0)=true:=decide_eq_true d2
    have wb':=wb d2
    cases hq:decide (0< -9223372036854775808-d) with
    |true=>
     rw[hc7 hgood (by rw[hov,b2,b3,hq];rfl)]
     rw[if_neg (by decide)]
     refine Zf [32] func64 rfl ntmps64 results64 ?_
     (have z:=Za oM<|Za wd<|Za z0<|Za b2<|Za b3<|Za wb' hq;(try push_cast[z])<;>repeat' (first|apply Zi<;>intro _|refine Zc hG ?_|exact Zo|with_reducible apply Za)<;>try push_cast[z])
    |false=>
     rw[hcp hgood (by rw[hov,b2,b3,hq];rfl)]
     generalize(if Bv f k=0 then AU (k,iv) L else L)=L2 at*
     refine Zf [32] func64 rfl ntmps64 results64 ?_
     (have z:=Za oM<|Za oM2<|Za wd<|Za z0<|Za b2<|Za b3<|Za wb' hq;(try push_cast[z])<;>repeat' (first|apply Zi<;>intro _|refine Zc hG ?_|refine Zc (hPz ..) ?_|exact Zo|with_reducible apply Za)<;>try push_cast[z])
   ·have b3:decide (d<0)=false:=decide_eq_false d2
    rw[hcp hgood (by rw[hov,b2,b3];rfl)]
    generalize(if Bv f k=0 then AU (k,iv) L else L)=L2 at*
    refine Zf [32] func64 rfl ntmps64 results64 ?_
    (have z:=Za oM<|Za oM2<|Za wd<|Za z0<|Za b2 b3;(try push_cast[z])<;>repeat' (first|apply Zi<;>intro _|refine Zc hG ?_|refine Zc (hPz ..) ?_|exact Zo|with_reducible apply Za)<;>try push_cast[z])
end
section
variable{L:List GE}(hs:Srt L)(hn:L.length<=1048575)
include hs hn
theorem r_add(k:ByteArray)(w:GV)(hk:k.size<=4611686018427387904)(hv:Sm (AH (Ah k L)))(f:Int)(hF:A3 prog 95 [.agg (Aa (D9 L k w))] (.val (.int .i64 f))):
  A3 prog 66 [AR L,.val (.string k),.agg (Aa w)] (.tup [AR (if G8 L k f=0 then AU (k,D9 L k w) L else L),.val (.int .i64 (G8 L k f))]):=by
 have hG:=Ve hs hn k
 have hP:=r_putS L k (D9 L k w) hn hk f hF
 rw[Kb] at hP
 have oM:=A7 L
 have oM2:=A7 (if Bv f k=0 then AU (k,D9 L k w) L else L)
 have oS:Am ((AH (Ah k L)).list.map Aa++[Aa w])=true:=by
  rw[show(AH (Ah k L)).list.map Aa++[Aa w]=((AH (Ah k L)).list++[w]).map Aa by simp]
  exact AA Bh _
 have hPz:A4 prog 61 [AR L,.val (.string k),.agg [.val (.int .i64 5),.val (.bool false),.val (.int .i64 0),.val (.string ByteArray.empty),.gref 3 ((AH (Ah k L)).list.length+1),.slice [] true]] [(3,.grow ((AH (Ah k L)).list.map Aa++[Aa w]) 6)]
   (.tup [AR (if Bv f k=0 then AU (k,D9 L k w) L else L),.val (.int .i64 (Bv f k))]) []:=by
  generalize(if Bv f k=0 then AU (k,D9 L k w) L else L)=L2 at*
  rw[A0] at hP
  have e1:(D9 L k w).list.map Aa=(AH (Ah k L)).list.map Aa++[Aa w]:=by simp[D9,GV.list]
  have e2:(D9 L k w).obj.map Ac=[]:=by simp[D9,GV.obj]
  rw[e1,e2] at hP
  simp only[D9,GV.kind,GV.b,GV.n,GV.s] at hP
  refine A4.weakIn ?_ ?_ hP
  ·rfl
  ·refine Ar.trans (Ar.fzB (b:=3) (x:=.grow ((AH (Ah k L)).list.map Aa++[Aa w]) 6) rfl) ?_
   have l0:(AH (Ah k L)).list.length+1=((AH (Ah k L)).list.map Aa++[Aa w]).length:=by simp
   rw[l0]
   push_cast[oM,oS]
   apply Zw<;>push_cast [oM,oS,BG]
   all_goals first|exact fun h=>h.elim|skip
 have hc9:(Ah k L).isSome=true->(AH (Ah k L)).kind≠5->G8 L k f=9:=fun h1 h2=>by unfold G8;rw[if_pos ⟨h1,h2⟩]
 have hc6:((Ah k L).isSome=true->(AH (Ah k L)).kind=5)->256<=(AH (Ah k L)).list.length->G8 L k f=6:=fun h1 h2=>by unfold G8;rw[if_neg (fun h=>h.2 (h1 h.1)),if_pos h2]
 have hcp:((Ah k L).isSome=true->(AH (Ah k L)).kind=5)->¬256<=(AH (Ah k L)).list.length->G8 L k f=Bv f k:=fun h1 h2=>by unfold G8;rw[if_neg (fun h=>h.2 (h1 h.1)),if_neg h2]
 have hz:(Ah k L).isSome=false->(AH (Ah k L)).list=[]:=fun h=>by
  cases hg:Ah k L with
  |none=>rfl
  |some v=>rw [hg] at h;cases h
 generalize G8 L k f=ic at*
 generalize D9 L k w=iv at*
 clear hP hF
 have hll:=hv.list_le
 generalize AH (Ah k L)=v at*
 generalize(Ah k L).isSome=x at*
 rw[A0] at hG
 have oW:=Bh w
 have w6:=AS w
 have wt:=HL w
 have wone:∀ d ∈ Aa w,BF d=true:=fun d hd=>by
  rw[A0] at hd
  simp only[A0o,A1i,or_false] at hd
  rcases hd with rfl|rfl|rfl|rfl|rfl|rfl<;>rfl
 have wall:(Aa w).all BF=true:=A0p.2 wone
 have hl6:∀ y ∈ v.list.map Aa,y.length=6:=fun y hy=>by obtain⟨x,_,rfl⟩:=A0j.1 hy;exact AS x
 have ol:=J0 v.list
 cases x with
 |true=>
  by_cases hk5:v.kind=5
  ·have b1:(v.kind !=5)=false:=by simpa using hk5
   have hgood:true=true->v.kind=5:=fun _=>hk5
   by_cases h256:256<=v.list.length
   ·have b2:decide ((256:Int)<=v.list.length)=true:=decide_eq_true (by omega)
    rw[hc6 hgood h256,if_neg (by decide)]
    generalize Aa w=W at*
    refine Zf [0,32] func66 rfl ntmps66 results66 ?_
    (have z:=Za oM<|Za b1<|Za b2<|Za oW<|Za w6<|Za wt<|Za @wall ol;(try push_cast[z])<;>repeat' (first|apply Zi<;>intro _|refine Zc hG ?_|exact Zo|with_reducible apply Za)<;>try push_cast[z])
    all_goals first|omega|exact hl6|(intro y hy;cases hy;done)|skip
   ·have b2:decide ((256:Int)<=v.list.length)=false:=decide_eq_false (by omega)
    rw[hcp hgood h256]
    generalize(if Bv f k=0 then AU (k,iv) L else L)=L2 at*
    generalize Aa w=W at*
    refine Zf [0,32] func66 rfl ntmps66 results66 ?_
    (have z:=Za oM<|Za oM2<|Za b1<|Za b2<|Za oW<|Za w6<|Za wt<|Za @wall ol;(try push_cast[z])<;>repeat' (first|apply Zi<;>intro _|refine Zc hG ?_|refine Zs [(3,240)] (hPz ..) ?_|exact Zo|with_reducible apply Za)<;>try push_cast[z])
    all_goals first|omega|exact hl6|(intro y hy;cases hy;done)|(intro y hy;cases A0d.1 hy;exact w6)|(intro y hy d hd;cases A0d.1 hy;exact wone d hd)|skip
  ·have b1:(v.kind !=5)=true:=by simpa using hk5
   rw[hc9 rfl hk5,if_neg (by decide)]
   generalize Aa w=W at*
   refine Zf [0,32] func66 rfl ntmps66 results66 ?_
   (have z:=Za oM<|Za b1<|Za oW<|Za w6<|Za wt @wall;(try push_cast[z])<;>repeat' (first|apply Zi<;>intro _|refine Zc hG ?_|exact Zo|with_reducible apply Za)<;>try push_cast[z])
 |false=>
  have hgood:false=true->v.kind=5:=fun h=>by cases h
  have hz':=hz rfl
  rw[hz'] at hPz
  rw[hcp hgood (by rw[hz'];simp)]
  generalize(if Bv f k=0 then AU (k,iv) L else L)=L2 at*
  simp only[A0S,A09,A0i,A1m] at hPz
  generalize Aa w=W at*
  refine Zf [0,32] func66 rfl ntmps66 results66 ?_
  (have z:=Za oM<|Za oM2<|Za oW<|Za w6<|Za wt @wall;(try push_cast[z])<;>repeat' (first|apply Zi<;>intro _|refine Zc hG ?_|refine Zs [(3,176)] (hPz ..) ?_|exact Zo|with_reducible apply Za)<;>try push_cast[z])
  all_goals first|omega|(intro y hy;cases hy;done)|(intro y hy;cases A0d.1 hy;exact w6)|(intro y hy d hd;cases hy;done)|(intro y hy d hd;cases A0d.1 hy;exact wone d hd)|skip
end
end Go.Ab
