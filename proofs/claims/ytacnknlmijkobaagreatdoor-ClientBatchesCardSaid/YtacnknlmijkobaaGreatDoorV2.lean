/- The layer by which the program is walked, and what its functions do: part 3 of 15. -/
import Derived.Test.YtacnknlmijkobaaGreatDoorV1
import Derived.Maps.RangeRun
import Derived.Lib.AppendZerosOnto
set_option maxHeartbeats 4000000
set_option maxRecDepth 20000
set_option linter.unusedVariables false
set_option linter.unusedSimpArgs false
set_option linter.unnecessarySimpa false
namespace Go.Ab
open Go.RowKit
section
variable{P:Program}{w0:World}{M0:Nat->Prop}{I0:Gh}{fr I:Nat->Prop}{mu:Nat->Option Value}{h:Nat->Option Blk}{w:World}
def Lx(hp:Nat->Option Blk)(ti te:TI):D->Option D->Option D->Res
 |.val v,lo,hi=>K1 ti te (.val v) lo hi
 |.slice es t,lo,hi=>K1 ti te (.slice es t) lo hi
 |.sref b i len cap sz,lo,hi=>K1 ti te (.sref b i len cap sz) lo hi
 |.gref b len,lo,hi=>match ti.sh with
  |.slice _=>match hp b with
   |some (.grow es sz)=>match bnd lo 0,bnd hi len with
    |some l,some r=>some (⟨.gsub b l.toNat (r.toNat-l.toNat) sz,[],[b]⟩,0<=l/\l<=r/\r<=len/\len=es.length/\sz=te.sz)
    |_,_=>none
   |_=>none
  |_=>none
 |.gsub b i len sz,lo,hi=>match ti.sh with
  |.slice _=>match hp b with
   |some (.grow es sz')=>match bnd lo 0,bnd hi len with
    |some l,some r=>some (⟨.gsub b (i+l.toNat) (r.toNat-l.toNat) sz,[],[b]⟩,0<=l/\l<=r/\(i:Int)+r<=es.length/\i+len<=es.length/\sz=te.sz)
    |_,_=>none
   |_=>none
  |_=>none
 |_,_,_=>none
theorem S3{b:Nat}{es:List (List D)}{sz:Nat}(hr:D7 w I mu b (.grow es sz)){A:Option Addr}{n cap:Nat}(h:mu b=some (.slice A n cap)):n=es.length/\es.length<=cap/\cap<=maxLen:=by
 obtain⟨A',cap',T,us,g1,g2,g3,g4⟩:=hr
 rw[h] at g1
 simp only[A03,A0N] at g1
 obtain⟨rfl,rfl,rfl⟩:=g1
 refine⟨rfl,?_,g3⟩
 rcases g4 with⟨_,rfl⟩|⟨k,_,_,_,q,_⟩
 ·simp
 ·exact q
theorem KH{t e':TypeId}{ti te:TI}(ht:Ak P t=some ti)(hte:(∃ s,ti.sh=s/\s=.str)∨(ti.sh=.slice e'/\Ak P e'=some te))(id:Nat){hp:Nat->Option Blk}{x:D}{lo hi:Option D}{e:Eff}{c:Prop}(he:Lx hp ti te x lo hi=some (e,c))(hc:c)(hr:Ap w0 M0 I0 fr I mu h w){v:Value}{vl vh:Option Value}
  (hv:Rep w I mu x v) (hl:Ef w I mu lo vl) (hh:Ef w I mu hi vh) (hb:∀ b ∈ e.rd,h b=hp b):
  AA P (fun w=>(Instr.sliceAt t v vl vh none).run P w) id e.d e.up w0 M0 I0 fr I mu h w:=by
 unfold Lx at he
 split at he
 ·exact J8 ht hte he hc hr hv hl hh id
 ·exact J8 ht hte he hc hr hv hl hh id
 ·exact J8 ht hte he hc hr hv hl hh id
 ·rename_i b len
  split at he
  case h_2=>cases he
  rename_i e'' hsh
  rcases hte with⟨s,hs1,hs2⟩|⟨hs1,hte⟩
  ·rw[hs2] at hs1;rw[hs1] at hsh;cases hsh
  have hu:=Aq ht hs1
  split at he
  case h_2=>cases he
  rename_i es sz hx
  split at he
  case h_2=>cases he
  rename_i l r hbl hbr
  simp only[A03,A05] at he
  obtain⟨rfl,rfl⟩:=he
  obtain⟨h0,h1,h2,hlen,hsz⟩:=hc
  have hbr':=hr.blk b _ ((hb b (by simp)).trans hx)
  cases hv with
  |gref _ _ A cap hk=>
   obtain⟨_,hcap,_⟩:=S3 hbr' hk
   have run:=FO (P:=P) (w:=w) hu hte A len cap vl vh l r h0 h1 (by omega) (by
     rcases CO hbl hl with⟨rfl,rfl,rfl⟩|⟨k,rfl,_⟩
     ·exact .inl ⟨rfl,rfl⟩
     ·exact .inr ⟨k,rfl⟩) (by
     rcases CO hbr hh with⟨rfl,rfl,rfl⟩|⟨k,rfl,_⟩
     ·exact .inl ⟨rfl,rfl⟩
     ·exact .inr ⟨k,rfl⟩) (by omega)
   refine AA.same hr _ run (.gsub b l.toNat (r.toNat-l.toNat) sz A _ len cap hk (by omega) fun hne=>?_)
   rcases hne with hne|hne
   ·rw[if_neg hne,hsz]
   ·rw[hne]
    split
    ·cases A<;>simp [Addr.add]
    ·simp
 ·rename_i b i len sz
  split at he
  case h_2=>cases he
  rename_i e'' hsh
  rcases hte with⟨s,hs1,hs2⟩|⟨hs1,hte⟩
  ·rw[hs2] at hs1;rw[hs1] at hsh;cases hsh
  have hu:=Aq ht hs1
  split at he
  case h_2=>cases he
  rename_i es sz' hx
  split at he
  case h_2=>cases he
  rename_i l r hbl hbr
  simp only[A03,A05] at he
  obtain⟨rfl,rfl⟩:=he
  obtain⟨h0,h1,h2,hlen,hsz⟩:=hc
  have hbr':=hr.blk b _ ((hb b (by simp)).trans hx)
  cases hv with
  |gsub _ _ _ _ A B n cap hk hle hB=>
   obtain⟨_,hcap,_⟩:=S3 hbr' hk
   have run:=FO (P:=P) (w:=w) hu hte B len (cap-i) vl vh l r h0 h1 (by omega) (by
     rcases CO hbl hl with⟨rfl,rfl,rfl⟩|⟨k,rfl,_⟩
     ·exact .inl ⟨rfl,rfl⟩
     ·exact .inr ⟨k,rfl⟩) (by
     rcases CO hbr hh with⟨rfl,rfl,rfl⟩|⟨k,rfl,_⟩
     ·exact .inl ⟨rfl,rfl⟩
     ·exact .inr ⟨k,rfl⟩) (by omega)
   have e1:cap-i-l.toNat=cap-(i+l.toNat):=by omega
   rw[e1] at run
   refine AA.same hr _ run (.gsub b (i+l.toNat) (r.toNat-l.toNat) sz A _ n cap hk (by omega) fun hne=>?_)
   by_cases hz:i+l.toNat=0
   ·have hi:i=0:=by omega
    have hl0:l.toNat=0:=by omega
    have hB0:=hB (.inr hi)
    subst hi
    rw[hl0]
    split
    ·rw[hB0];try(cases A<;>simp [Addr.add])
    ·rw[hB0];try(cases A<;>simp [Addr.add])
   have hne:cap≠i+l.toNat:=hne.resolve_right hz
   rw[if_neg (by omega),hB (.inl (by omega)),Option.map_map,<-hsz]
   congr 1
   funext a
   show(a.add (i*sz)).add (l.toNat*sz)=a.add ((i+l.toNat)*sz)
   rw[A19]
   unfold Addr.add
   by_cases h1:l.toNat*sz=0
   ·rw[if_pos h1,h1,A11]
   ·by_cases h2:i*sz=0
    ·rw[if_neg h1,if_pos h2,if_neg (by omega),h2,A1c]
    ·rw[if_neg h1,if_neg h2,if_neg (by omega)]
     simp[A1l]
 ·cases he
def JV(id:Nat)(hp:Nat->Option Blk)(te:TI)(b x:D):Res:=
 match EP hp x with
 |none=>none
 |some (news,rd,c)=>match b with
  |.slice es true=>some (⟨.gref id (es.length+news.length),[(id,some (.grow (es++news) te.sz))],rd⟩,
    c/\(es=[]∨news.length≠0)/\(es.length+news.length)*te.bytes<=140737488355328/\es.length+news.length<=1073741824/\0<te.sz/\te.zero.length=te.sz/\(∀ y ∈ es,y.length=te.sz)/\∀ y ∈ news,y.length=te.sz)
  |.gref g len=>match hp g with
   |some (.grow es sz)=>some (⟨.gref id (es.length+news.length),[(g,none),(id,some (.grow (es++news) sz))],g::rd⟩,
     c/\len=es.length/\sz=te.sz/\g≠id/\(es.length+news.length)*te.bytes<=140737488355328/\es.length+news.length<=1073741824/\0<te.sz/\te.zero.length=te.sz/\(∀ y ∈ news,y.length=te.sz)/\∀ y ∈ news,∀ d ∈ y,AN d=true)
   |_=>none
  |_=>none
theorem JH{T:TypeId}{es:List (List D)}{sz:Nat}{us vs:List Value}{A:Option Addr}{mu':Nat->Option Value}{id cap k:Nat}{w':World}(hmu:mu' id=some (.slice (some ⟨k,0,none⟩) es.length cap))(hpos:0<cap)(hcm:cap<=maxLen)(hle:es.length<=cap)
  (hheap:w'.heap[k]? =some (.cells (us++vs).toArray T (0,0))) (hlen:us.length+vs.length=cap*sz) (hrows:AM w' I mu' es sz us):D7 w' I mu' id (.grow es sz):=by
 refine⟨some ⟨k,0,none⟩,cap,T,us++vs,hmu,hrows.2.1,hcm,.inr ⟨k,hpos,rfl,hheap,hle,by rw[A04];exact hlen,fun i j hi hj=>?_⟩⟩
 have hlt:i*sz+j<us.length:=by
  rw[hrows.1]
  have:i*sz+sz<=es.length*sz:=by rw[<-A0F];exact A0f _ hi
  omega
 have:nv (us++vs) (i*sz+j)=nv us (i*sz+j):=by simp only[nv,A02];rw[A0q hlt]
 rw[this]
 exact hrows.2.2 i j hi hj
theorem F6{t ty e':TypeId}{ti te:TI}(ht:Ak P t=some ti)(hs:ti.sh=.slice e')(hte:Ak P e'=some te){id:Nat}{hp:Nat->Option Blk}{db dx:D}{e:Eff}{c:Prop}(he:JV id hp te db dx=some (e,c))(hc:c)
  (hr:Ap w0 M0 I0 fr I mu h w) (hid:fr id) {vb vx:Value} (hvb:Rep w I mu db vb) (hvx:Rep w I mu dx vx) (hb:∀ b ∈ e.rd,h b=hp b):AA P (fun w=>(Builtin.append_ #[t,t] ty #[vb,vx]).run P w) id e.d e.up w0 M0 I0 fr I mu h w:=by
 obtain⟨inf,d,z,g1,g2,g3,g4,g5,g6,g7,g8,g9⟩:=B9 hte
 have hu:=Aq ht hs
 have hzs:z.cells.size=te.zero.length:=by rw[<-g6];simp
 unfold JV at he
 split at he
 ·cases he
 ·rename_i news rd c' hnews
  split at he
  ·rename_i es
   simp only[A03,A05] at he
   obtain⟨rfl,rfl⟩:=he
   obtain⟨hc',hne,hby,hln,hsz,hzl,hes,hnw⟩:=hc
   obtain⟨B,capB,vs,rfl,hrv,hB⟩:=C9 hnews hc' hr hvx hb hsz hnw
   have hself:EP hp (.slice es true)=some (es,[],True):=rfl
   obtain⟨A,cap,us,rfl,hru,hA⟩:=C9 (hp:=hp) hself trivial hr hvb (fun b hb=>by simp at hb) hsz hes
   have hcap:cap=es.length:=by cases hvb with|slice _ _ _ k o sz cap u hA hcp htg hm hlen hcell hrep=>exact htg rfl
   subst hcap
   have run:=Dq (P:=P) (w:=w) (ty:=ty) (cap:=es.length) (cap':=capB) hu g1 g3 (us:=us) (vs:=vs) (n:=es.length) (m:=news.length) (by rw[g4];exact hru.1) (by rw[g4];exact hrv.1) hA hB (A0a _) (by omega) (by rw[g7];exact hby)
   by_cases h0:news.length=0
   ·have hes0:es=[]:=hne.resolve_right (by simp[h0])
    have hnews0:news=[]:=A0w h0
    subst hes0 hnews0
    have hvs0:vs=[]:=A0w (by simpa using hrv.1)
    subst hvs0
    have r1:=run.1 (by simp)
    have hid0:=hr.fresh id hid
    have:=hr.put (b0:=none) hid w (.slice A 0 0) (.grow [] te.sz) (fun k hk=>by cases A<;>simp [Ae] at hk) (A0a _) (fun _ _ _=>rfl) rfl rfl rfl ⟨A,0,e',[],by simp[Ax],fun i hi=>by simp at hi,A0D _,.inl ⟨rfl,rfl⟩⟩
    refine⟨.slice A 0 0,w,I,Ax mu id (.slice A 0 0),?_,this.2,?_,.gref id 0 A 0 (by simp[Ax])⟩
    ·simp only[A0t] at r1|-
     rw[r1]
     cases A<;>simp [storeCells]
    ·have h2:=this.1
     have e1:(fun c=>if c=id then some (Blk.grow [] te.sz) else if(none:Option Nat)=some c then none else h c)=fun b=>AO b (h b) [(id,some (.grow ([]++[]) te.sz))]:=by
      funext b;simp only[AO,A0r,A0Z,A0H]
      by_cases hbi:b=id
      ·subst hbi;simp
      ·have:¬id=b:=fun h=>hbi h.symm
       simp[hbi,this]
     rw[e1] at h2
     exact h2
   ·have r1:=run.2 (by omega)
    generalize hcg:grownCap w (es.length+news.length) es.length e'=gc at r1
    have hge:es.length+news.length<=gc:=by rw[<-hcg];exact grownCap_ge w _ _ _
    have hgm:gc<=maxLen:=by rw[<-hcg];exact grownCap_le_maxLen w _ _ _ (by simp only[maxLen];omega)
    have hcells:(us++vs).toArray++Builtin.zeroCells z.cells (gc-(es.length+news.length))=((us++vs)++(Builtin.zeroCells z.cells (gc-(es.length+news.length))).toList).toArray:=by
     apply Array.ext';simp
    have r2:(Builtin.append_ #[t,t] ty #[.slice A es.length es.length,.slice B news.length capB]).run P w=.ok (.slice (some ⟨w.heap.size,0,none⟩) (es.length+news.length) gc) (w.drew.alloc (.cells ((us++vs)++(Builtin.zeroCells z.cells (gc-(es.length+news.length))).toList).toArray e')):=by
     rw[<-hcells,<-A1d us vs];exact r1
    generalize hw':w.drew.alloc (.cells ((us++vs)++(Builtin.zeroCells z.cells (gc-(es.length+news.length))).toList).toArray e')=w' at r2
    have hsame:∀ j,j<w.heap.size->w'.heap[j]? =w.heap[j]?:=fun j hj=>by rw[<-hw'];exact B8 w.drew _ hj
    have hws:w'.heap.size=w.heap.size+1:=by rw[<-hw'];simp
    have hid0:=hr.fresh id hid
    have hm:=Bs (v:=.slice (some ⟨w.heap.size,0,none⟩) (es.length+news.length) gc) hid0
    have hll:(es++news).length=es.length+news.length:=A04
    have:=hr.put (b0:=none) hid w' (.slice (some ⟨w.heap.size,0,none⟩) (es.length+news.length) gc) (.grow (es++news) te.sz) (fun k hk=>by
      simp only[Ae] at hk
      rw[if_neg (by omega)] at hk
      cases hk;exact .inl ⟨A0a _,by omega⟩) (by omega) (fun j hj _=>hsame j hj) (by rw[<-hw'];rfl) (by rw[<-hw'];rfl) (by rw[<-hw'];rfl)
     (JH (A:=none) (us:=us++vs) (T:=e') (k:=w.heap.size) (cap:=gc) (by simp[Ax,hll]) (by omega) hgm (by omega) (by rw[<-hw'];exact heap_alloc_new w.drew _) (by
       have q3:(Builtin.zeroCells z.cells (gc-(es.length+news.length))).toList.length=(gc-(es.length+news.length))*te.sz:=by rw[A0T,size_zeroCells,hzs,hzl]
       rw[A04,hru.1,hrv.1,q3,<-A19,<-A19]
       exact congrArg (· *te.sz) (by omega))
      ((hru.append hrv).mono ⟨fun _ h=>h,hm,fun k hk=>hsame k (hr.lt k hk)⟩))
    refine⟨_,w',I,_,r2,this.2,?_,.gref id _ _ gc (by simp[Ax])⟩
    have h2:=this.1
    have e1:(fun c=>if c=id then some (Blk.grow (es++news) te.sz) else if(none:Option Nat)=some c then none else h c)=fun b=>AO b (h b) [(id,some (.grow (es++news) te.sz))]:=by
     funext b;simp only[AO,A0r,A0Z]
     by_cases hbi:b=id
     ·subst hbi;simp
     ·have:¬id=b:=fun h=>hbi h.symm
      simp[hbi,this]
    rw[e1] at h2
    exact h2
  ·rename_i g len
   split at he
   ·rename_i es sz hx
    simp only[A03,A05] at he
    obtain⟨rfl,rfl⟩:=he
    obtain⟨hc',rfl,rfl,hgid,hby,hln,hsz,hzl,hnw,hnone⟩:=hc
    have hg:h g=some (.grow es te.sz):=(hb g (by simp)).trans hx
    obtain⟨B,capB,vs,rfl,hrv,hB⟩:=C9 hnews hc' hr hvx (fun b hb'=>hb b (by simp[hb'])) hsz hnw
    obtain⟨A,cap,T,us0,h1,h2,h3,h4⟩:=hr.blk g _ hg
    have hes:∀ y ∈ es,y.length=te.sz:=by
     intro y hy
     obtain⟨i,hi,rfl⟩:=A1n.1 hy
     have:=h2 i hi
     simpa[nr,A02,hi] using this
    have hself:EP h (.gref g es.length)=some (es,[g],es.length=es.length):=by simp[EP,hg]
    obtain⟨A',cap',us,hveq,hru,hA⟩:=C9 hself rfl hr hvb (fun b hb'=>rfl) hsz hes
    have hvb':vb=.slice A es.length cap:=by
     cases hvb with
     |gref _ _ A'' cap'' hk=>
      rw[h1] at hk
      simp only[A03,A0N,true_and] at hk
      rw[hk.1,hk.2]
    rw[hvb'] at hveq
    simp only[A0N,true_and] at hveq
    obtain⟨rfl,rfl⟩:=hveq
    subst hvb'
    have hncap:es.length<=cap:=by
     rcases h4 with⟨rfl,rfl⟩|⟨k,_,_,_,h5,_⟩
     ·simp
     ·exact h5
    have run:=Dq (P:=P) (w:=w) (ty:=ty) (cap:=cap) (cap':=capB) hu g1 g3 (us:=us) (vs:=vs) (n:=es.length) (m:=news.length) (by rw[g4];exact hru.1) (by rw[g4];exact hrv.1) hA hB hncap (by omega) (by rw[g7];exact hby)
    have hid0:=hr.fresh id hid
    have hll:(es++news).length=es.length+news.length:=A04
    have e1:(fun c=>if c=id then some (Blk.grow (es++news) te.sz) else if(some g:Option Nat)=some c then none else h c)=fun b=>AO b (h b) [(g,none),(id,some (.grow (es++news) te.sz))]:=by
     funext b;simp only[AO,A0r,A0Z,A03]
     by_cases hbi:b=id
     ·subst hbi;simp
     ·have:¬id=b:=fun h=>hbi h.symm
      simp[hbi,this]
    by_cases hroom:es.length+news.length<=cap
    ·have r1:=run.1 hroom
     rcases h4 with⟨rfl,rfl⟩|⟨k,hpos,rfl,h5,h6,h7,h8⟩
     ·
      have hnews0:news=[]:=A0w (by simpa using hroom)
      subst hnews0
      have hvs0:vs=[]:=A0w (by simpa using hrv.1)
      subst hvs0
      have:=hr.put (b0:=some g) hid w (.slice A 0 0) (.grow ([]++[]) te.sz) (fun k hk=>by cases A<;>simp [Ae] at hk) (A0a _) (fun _ _ _=>rfl) rfl rfl rfl ⟨A,0,e',[],by simp[Ax],fun i hi=>by simp at hi,A0D _,.inl ⟨rfl,rfl⟩⟩
      refine⟨.slice A 0 0,w,I,Ax mu id (.slice A 0 0),?_,this.2,by rw[<-e1];exact this.1,.gref id 0 A 0 (by simp[Ax])⟩
      ·simp only[A0t] at r1|-
       rw[r1]
       cases A<;>simp [storeCells]
     ·
      have hloc:Ae (.slice (some ⟨k,0,none⟩) es.length cap)=some k:=by simp[Ae];omega
      have hlg:=hr.loc g _ _ k hg h1 hloc
      have hmul:(es.length+news.length)*te.sz<=cap*te.sz:=A0f _ hroom
      rw[A19] at hmul
      have hone:∀ u ∈ vs,u.oneCell'=true:=by
       intro u hu
       obtain⟨m,hm,rfl⟩:=A1n.1 hu
       have hm':m<news.length*te.sz:=by rw[<-hrv.1];exact hm
       have q1:m/te.sz<news.length:=(Nat.div_lt_iff_lt_mul hsz).2 hm'
       have q2:m%te.sz<te.sz:=Nat.mod_lt _ hsz
       have q3:=hrv.2.2 _ _ q1 q2
       have q4:m/te.sz*te.sz+m%te.sz=m:=by rw[Nat.mul_comm];exact Nat.div_add_mod m te.sz
       rw[q4] at q3
       have q5:nv vs m=vs[m]:=by simp[nv,A02,hm]
       rw[q5] at q3
       refine q3.one ?_
       have q6:nr news (m/te.sz)=news[m/te.sz]:=by simp[nr,A02,q1]
       have q7:=hnw _ (A0X q1)
       rw[q6]
       have q8:nd news[m/te.sz] (m%te.sz)=news[m/te.sz][m%te.sz]'(by omega):=by simp[nd,A02,show m%te.sz<news[m/te.sz].length by omega]
       rw[q8]
       exact hnone _ (A0X q1) _ (A0X _)
      obtain⟨w',hrun,hheap,hwrote⟩:=BB (P:=P) (T:=T) vs 0 (es.length*te.sz) us0 w h5 (by rw[hrv.1];omega) hone
      simp only[A11] at hheap
      have hm:=Bs (v:=.slice (some ⟨k,0,none⟩) (es.length+news.length) cap) hid0
      have hIw:∀ j,I j->w'.heap[j]? =w.heap[j]?:=fun j hj=>hwrote.other j (by rintro rfl;exact hlg.2.1 hj)
      have hsplit:Au us0 (es.length*te.sz) vs=(us0.take (es.length*te.sz)++vs)++us0.drop (es.length*te.sz+vs.length):=by simp[Au]
      have hrows0:AM w I mu es te.sz (us0.take (es.length*te.sz)):=by
       refine⟨by simp;omega,h2,fun i j hi hj=>?_⟩
       have hlt:i*te.sz+j<es.length*te.sz:=by
        have:i*te.sz+te.sz<=es.length*te.sz:=by rw[<-A0F];exact A0f _ hi
        omega
       have:nv (us0.take (es.length*te.sz)) (i*te.sz+j)=nv us0 (i*te.sz+j):=by simp only[nv,A02];rw[A0n hlt]
       rw[this];exact h8 i j hi hj
      have:=hr.put (b0:=some g) hid w' (.slice (some ⟨k,0,none⟩) (es.length+news.length) cap) (.grow (es++news) te.sz) (fun j hj=>by
        simp only[Ae] at hj
        rw[if_neg (by omega)] at hj
        cases hj
        exact .inr ⟨g,_,_,rfl,hg,h1,hloc⟩) (by rw[hwrote.size];exact A0a _) (fun j _ hj=>hwrote.other j (fun hjk=>hj g _ _ rfl hg h1 (by rw[hjk];exact hloc))) hwrote.os hwrote.tape hwrote.output
       (JH (A:=none) (T:=T) (k:=k) (cap:=cap) (us:=us0.take (es.length*te.sz)++vs) (vs:=us0.drop (es.length*te.sz+vs.length)) (by simp[Ax,hll]) hpos h3 (by omega) (by rw[<-hsplit];exact hheap) (by
         have:=hrv.1
         simp only[A04,A0z,A0v];omega)
        ((hrows0.append hrv).mono ⟨fun _ h=>h,hm,hIw⟩))
      refine⟨.slice (some ⟨k,0,none⟩) (es.length+news.length) cap,w',I,_,?_,this.2,by rw[<-e1];exact this.1,.gref id _ _ cap (by simp[Ax])⟩
      have r2:=r1
      simp only[BM,A1c,g4] at r2
      show(Builtin.append_ #[t,t] ty #[_,_]).run P w=_
      rw[r2,hrun];rfl
    ·have r1:=run.2 (by omega)
     generalize hcg:grownCap w (es.length+news.length) cap e'=gc at r1
     have hge:es.length+news.length<=gc:=by rw[<-hcg];exact grownCap_ge w _ _ _
     have hgm:gc<=maxLen:=by rw[<-hcg];exact grownCap_le_maxLen w _ _ _ (by simp only[maxLen];omega)
     have hcells:(us++vs).toArray++Builtin.zeroCells z.cells (gc-(es.length+news.length))=((us++vs)++(Builtin.zeroCells z.cells (gc-(es.length+news.length))).toList).toArray:=by
      apply Array.ext';simp
     have r2:(Builtin.append_ #[t,t] ty #[.slice A es.length cap,.slice B news.length capB]).run P w=.ok (.slice (some ⟨w.heap.size,0,none⟩) (es.length+news.length) gc) (w.drew.alloc (.cells ((us++vs)++(Builtin.zeroCells z.cells (gc-(es.length+news.length))).toList).toArray e')):=by
      rw[<-hcells,<-A1d us vs];exact r1
     generalize hw':w.drew.alloc (.cells ((us++vs)++(Builtin.zeroCells z.cells (gc-(es.length+news.length))).toList).toArray e')=w' at r2
     have hsame:∀ j,j<w.heap.size->w'.heap[j]? =w.heap[j]?:=fun j hj=>by rw[<-hw'];exact B8 w.drew _ hj
     have hws:w'.heap.size=w.heap.size+1:=by rw[<-hw'];simp
     have hm:=Bs (v:=.slice (some ⟨w.heap.size,0,none⟩) (es.length+news.length) gc) hid0
     have:=hr.put (b0:=some g) hid w' (.slice (some ⟨w.heap.size,0,none⟩) (es.length+news.length) gc) (.grow (es++news) te.sz) (fun k hk=>by
       simp only[Ae] at hk
       rw[if_neg (by omega)] at hk
       cases hk;exact .inl ⟨A0a _,by omega⟩) (by omega) (fun j hj _=>hsame j hj) (by rw[<-hw'];rfl) (by rw[<-hw'];rfl) (by rw[<-hw'];rfl)
      (JH (A:=none) (us:=us++vs) (T:=e') (k:=w.heap.size) (cap:=gc) (by simp[Ax,hll]) (by omega) hgm (by omega) (by rw[<-hw'];exact heap_alloc_new w.drew _) (by
        have q3:(Builtin.zeroCells z.cells (gc-(es.length+news.length))).toList.length=(gc-(es.length+news.length))*te.sz:=by rw[A0T,size_zeroCells,hzs,hzl]
        rw[A04,hru.1,hrv.1,q3,<-A19,<-A19]
        exact congrArg (· *te.sz) (by omega))
       ((hru.append hrv).mono ⟨fun _ h=>h,hm,fun k hk=>hsame k (hr.lt k hk)⟩))
     exact⟨_,w',I,_,r2,this.2,by rw[<-e1];exact this.1,.gref id _ _ gc (by simp[Ax])⟩
   ·cases he
  ·cases he
end
def zD(ti:TI):Option D:=bif ti.ag then some (.agg (ti.zero.map ofV)) else match ti.zero with
 |[x]=>some (ofV x)
 |_=>none
theorem ba_beq(a b:ByteArray):(a==b)=decide (a=b):=by
 cases a with|mk x=>cases b with|mk y=>
 have h:((⟨x⟩:ByteArray)==⟨y⟩)=(x==y):=rfl
 rw[h]
 by_cases hxy:x=y
 ·subst hxy;simp
 ·have:¬(⟨x⟩:ByteArray)=⟨y⟩:=fun h=>hxy (by cases h;rfl)
  simp[hxy]
def keq:Sh->Value->Value->Option Bool
 |.int _,.int k a,.int k' b=>if k=k' then some (decide (a=b)) else none
 |.str,.string a,.string b=>some (decide (a=b))
 |_,_,_=>none
def DE(sh:Sh)(k:Value):List (Value×Nat×D)->Nat->Option (Option (Nat×D))
 |[],_=>some none
 |e::es,i=>match keq sh k e.1 with
  |some true=>some (some (i,e.2.2))
  |some false=>DE sh k es (i+1)
  |none=>none
def Fb:Sh->Bool
 |.int _=>true
 |.str=>true
 |_=>false
def Nt(ok:Bool)(d:D)(b:Bool):D:=bif ok then .tup [d,.val (.bool b)] else d
def Vb(hp:Nat->Option Blk)(sh:Sh)(te:TI)(ok:Bool)(m k:D):Res:=
 match m,k with
 |.val (.map none),.val _=>match zD te with
  |some z=>pvc (Nt ok z false) (Fb sh=true)
  |none=>none
 |.mref b,.val kv=>match hp b with
  |some (.map es _)=>match DE sh kv es 0 with
   |some (some (_,d))=>some (⟨Nt ok d true,[],[b]⟩,Fb sh=true)
   |some none=>match zD te with
    |some z=>some (⟨Nt ok z false,[],[b]⟩,Fb sh=true)
    |none=>none
   |none=>none
  |_=>none
 |_,_=>none
def LC(es:List (Value×Nat×D))(i:Nat)(d:D):List (Value×Nat×D):=es.modify i fun e=>(e.1,e.2.1,d)
def T7(hp:Nat->Option Blk)(sh:Sh)(m k d:D):Res:=
 match m,k with
 |.mref b,.val kv=>match hp b with
  |some (.map es ck)=>match DE sh kv es 0 with
   |some (some (i,_))=>some (⟨.any,[(b,some (.map (LC es i d) ck))],[b]⟩,Fb sh=true)
   |some none=>some (⟨.any,[(b,some (.map (es++[(kv,ck,d)]) (ck+1)))],[b]⟩,Fb sh=true)
   |none=>none
  |_=>none
 |_,_=>none
def delE(hp:Nat->Option Blk)(sh:Sh)(m k:D):Res:=
 match m,k with
 |.mref b,.val kv=>match hp b with
  |some (.map es ck)=>match DE sh kv es 0 with
   |some (some (i,_))=>some (⟨.any,[(b,some (.map (es.eraseIdx i) ck))],[b]⟩,Fb sh=true)
   |some none=>some (⟨.any,[(b,some (.map es ck))],[b]⟩,Fb sh=true)
   |none=>none
  |_=>none
 |_,_=>none
def mapE(id:Nat):Res:=some (⟨.mref id,[(id,some (.map [] 0))],[]⟩,True)
def PO(id:Nat)(hp:Nat->Option Blk):D->Res
 |.mref b=>match hp b with
  |some (.map _ ck)=>some (⟨.ref id 0 0 1,[(id,some (.iter b ck [] ck))],[b]⟩,True)
  |_=>none
 |.val (.map none)=>some (⟨.ref id 0 0 1,[(id,some (.obj (.mapIter none 0 #[] 0)))],[]⟩,True)
 |_=>none
def Sd(born:Nat):List (Value×Nat×D)->Option (Value×D)
 |[]=>none
 |e::es=>bif e.2.1==born then some (e.1,e.2.2) else Sd born es
def Qi(hp:Nat->Option Blk):D->Res
 |.ref b 0 0 _=>match hp b with
  |some (.iter m _ seen last)=>match hp m with
   |some (.map es ck)=>match seen.getLast? with
    |some born=>match Sd born es with
     |some (k,d)=>some (⟨.tup [.val k,d],[],[b,m]⟩,ck=last/\okP k)
     |none=>none
    |none=>none
   |_=>none
  |_=>none
 |_=>none
section
variable{P:Program}{w0:World}{M0:Nat->Prop}{I0:Gh}{fr I:Nat->Prop}{mu:Nat->Option Value}{h:Nat->Option Blk}{w:World}
theorem Y2{t:TypeId}{ti:TI}(ht:Ak P t=some ti){d:D}(hd:zD ti=some d):∃ z,(zeroValue t).run P w=.ok z w/\Rep w I mu d z:=by
 obtain⟨z,h1,h2,h3⟩:=Dp ht w
 refine⟨z,h1,?_⟩
 unfold zD at hd
 cases hag:ti.ag with
 |true=>
  simp only[hag,cond_true,A03] at hd
  subst hd
  rw[hag] at h3
  cases z with
  |agg cs=>
   have hc:cs.toList=ti.zero:=h2
   have:=Rep.agg (w:=w) (I:=I) (mu:=mu) (ti.zero.map ofV) cs.toList (by simp[hc]) fun i hi=>by
    simp only[A06] at hi
    have e1:nd (ti.zero.map ofV) i=ofV ti.zero[i]:=by simp[nd,A02,hi]
    have e2:nv cs.toList i=ti.zero[i]:=by rw[hc];simp[nv,A02,hi]
    rw[e1,e2];exact FR _ _ _ _
   simpa using this
  |_=>simp [zOk] at h3
 |false=>
  simp only[hag,cond_false] at hd
  split at hd
  ·rename_i x hx
   simp only[A03] at hd
   subst hd
   have hz:z=x:=by
    rw[hag] at h3
    rw[hx] at h2
    cases z<;>simp [Value.cells,zOk] at h2 h3<;>exact h2
   rw[hz];exact FR _ _ _ _
  ·cases hd
def Qh(es:List (Value×Nat×D))(l:List MapEntry)(kv:Value)(i:Nat):Option (Nat×D)->Option (Nat×Value)->Prop
 |none,none=>True
 |some (j,d),some (j',v)=>j=j'/\i<=j/\∃ x y,l[j-i]? =some x/\es[j-i]? =some y/\d=y.2.2/\v=x.val/\y.1=kv/\Instr.sameBits 10000 x.key kv=true
 |_,_=>False
theorem NV{sh:Sh}{kd:TypeDesc}{kv:Value}(hkd:Fb sh=true)(hk:∀ k,sh=.int k->kd=.int k)(hs:sh=.str->kd=.string):∀ (es:List (Value×Nat×D)) (l:List MapEntry) (i:Nat) (r:Option (Nat×D)),l.map (·.key)=es.map (·.1)->DE sh kv es i=some r->
  ∃ r',Instr.findNow kd kv l i=some r'/\Qh es l kv i r r'
 |[],[],i,r,_,hf=>by
  simp only[DE,A03] at hf
  subst hf
  exact⟨none,rfl,trivial⟩
 |[],_::_,i,r,h,_=>by simp at h
 |_::_,[],i,r,h,_=>by simp at h
 |e::es,x::l,i,r,hl,hf=>by
  simp only[A0h,List.cons.injEq] at hl
  have hsame:Instr.sameNow kd kv x.key=keq sh kv e.1:=by
   rw[hl.1]
   cases sh with
   |int k=>
    rw[hk k rfl];unfold Instr.sameNow keq
    cases kv<;>cases e.1<;>first|rfl|(simp only[beq_eq_decide])
   |str=>
    rw[hs rfl];unfold Instr.sameNow keq
    cases kv<;>cases e.1<;>first|rfl|(simp only[ba_beq])
   |_=>cases hkd
  simp only[DE] at hf
  simp only[Instr.findNow,hsame]
  cases hq:keq sh kv e.1 with
  |none=>rw [hq] at hf;cases hf
  |some b=>
   rw[hq] at hf
   cases b with
   |true=>
    simp only[A03] at hf
    subst hf
    refine⟨some (i,x.val),rfl,rfl,A0a _,x,e,by simp,by simp,rfl,rfl,?_,?_⟩
    ·unfold keq at hq
     split at hq
     ·split at hq
      ·rename_i hkk;subst hkk;simp only[A03,decide_eq_true_eq] at hq;subst hq;simp_all
      ·cases hq
     ·simp only[A03,decide_eq_true_eq] at hq;subst hq;simp_all
     ·cases hq
    ·unfold keq at hq
     rw[hl.1]
     split at hq
     ·split at hq
      ·rename_i hkk;subst hkk;simp only[A03,decide_eq_true_eq] at hq;subst hq;simp_all [Instr.sameBits]
      ·cases hq
     ·simp only[A03,decide_eq_true_eq] at hq;subst hq;simp_all [Instr.sameBits,ba_beq]
     ·cases hq
   |false=>
    simp only at hf
    obtain⟨r',h1,h2⟩:=NV hkd hk hs es l (i+1) r hl.2 hf
    refine⟨r',h1,?_⟩
    match r,r',h2 with
    |none,none,_=>trivial
    |some (j,d),some (j',v),h2=>
     obtain⟨g1,g2,x',y,g3,g4,g5⟩:=h2
     have e1:j-i=(j-(i+1))+1:=by omega
     exact⟨g1,by omega,x',y,by rw[e1];exact g3,by rw[e1];exact g4,g5⟩
theorem Cl{empty:Bool}{n:Nat}{t:TypeId}{ti:TI}(ht:Ak P t=some ti)(hk:Fb ti.sh=true)(k:Value):(Instr.checkKey empty (n+1) t k).run P w=.ok () w:=by
 have:(∃ k,P.underlying t=some (.int k))∨P.underlying t=some .string:=by
  cases hs:ti.sh with
  |int k=>exact .inl ⟨k,PA ht hs⟩
  |str=>exact .inr (JY ht hs)
  |_=>rw [hs] at hk;cases hk
 rcases this with⟨k,hu⟩|hu
 ·simp only[Instr.checkKey,A0e,run_underlying hu,Result.andThen]
  simp
 ·simp only[Instr.checkKey,A0e,run_underlying hu,Result.andThen]
  simp
theorem F7{t:TypeId}{ti:TI}(ht:Ak P t=some ti)(hk:Fb ti.sh=true){kv:Value}{es:List (Value×Nat×D)}{l:List MapEntry}{r:Option (Nat×D)}(hl:l.map (·.key)=es.map (·.1))(hf:DE ti.sh kv es 0=some r):
  ∃ r',(Instr.findKey t kv l).run P w=.ok r' w/\Qh es l kv 0 r r':=by
 obtain⟨kd,hu,h1,h2⟩:∃ kd,P.underlying t=some kd/\(∀ k,ti.sh=.int k->kd=.int k)/\(ti.sh=.str->kd=.string):=by
  cases hs:ti.sh with
  |int k=>exact ⟨_,PA ht hs,fun k' h=>(by cases h;rfl),fun h=>(by cases h)⟩
  |str=>exact ⟨_,JY ht hs,fun k' h=>(by cases h),fun _=>rfl⟩
  |_=>rw [hs] at hk;cases hk
 obtain⟨r',h3,h4⟩:=NV (kv:=kv) hk h1 h2 es l 0 r hl hf
 exact⟨r',by simp only[Instr.findKey,A0e,run_underlying hu,Result.andThen,h3,A0j],h4⟩
def lookRel(w:World)(I:Nat->Prop)(mu:Nat->Option Value):Option (Nat×D)->Option (Nat×Value)->Prop
 |none,none=>True
 |some (_,d),some (_,v)=>Rep w I mu d v
 |_,_=>False
theorem Wj{t tk e':TypeId}{tm ti te:TI}(ht:Ak P t=some tm)(hs:tm.sh=.map tk e')(htk:Ak P tk=some ti)(hte:Ak P e'=some te){hp:Nat->Option Blk}{ok:Bool}{dm dk:D}{e:Eff}{c:Prop}(he:Vb hp ti.sh te ok dm dk=some (e,c))(hc:c)
  (hr:Ap w0 M0 I0 fr I mu h w) {m k:Value} (hm:Rep w I mu dm m) (hk:Rep w I mu dk k) (hb:∀ b ∈ e.rd,h b=hp b) (id:Nat):AA P (fun w=>(Instr.lookup t m k ok).run P w) id e.d e.up w0 M0 I0 fr I mu h w:=by
 have hu:=Gw ht hs
 have fin:∀ {d:D} {v:Value} {b:Bool},Rep w I mu d v->Rep w I mu (Nt ok d b) (if ok=true then .tuple #[v,.bool b] else v):=by
  intro d v b hv
  cases ok with
  |false=>exact hv
  |true=>
   simp only[Nt,cond_true,if_true]
   refine .tup [d,.val (.bool b)] [v,.bool b] rfl fun i hi=>?_
   match i,hi with
   |0,_=>exact hv
   |1,_=>exact .val _ trivial
 unfold Vb at he
 split at he
 ·split at he
  ·rename_i z hz
   simp only[pvc,A03,A05] at he
   obtain⟨rfl,rfl⟩:=he
   have hmv:=hm.val_inv;subst hmv
   obtain⟨z',g1,g2⟩:=Y2 (w:=w) (I:=I) (mu:=mu) hte hz
   obtain⟨r',q1,q2⟩:=F7 (w:=w) (kv:=k) (es:=[]) (l:=[]) (r:=none) htk hc rfl rfl
   match r',q2 with
   |none,_=>
    refine AA.same hr _ ?_ (fin g2)
    simp only[Instr.lookup,A0e,run_underlying hu,Result.andThen,A0j,Cl htk hc,q1,g1]
    all_goals(cases ok<;>simp)
  ·cases he
 ·rename_i b kv
  have hkv:=hk.val_inv;rw[hkv] at hk|-;clear hkv
  split at he
  case h_2=>cases he
  rename_i es ck hx
  have aux:b ∈ e.rd->Fb ti.sh=true->∀ r,DE ti.sh kv es 0=some r->∃ (km:Nat) (l:List MapEntry),m=.map (some km)/\w.heap[km]? =some (.map l.toArray ck)/\∃ r',(Instr.findKey tk kv l).run P w=.ok r' w/\lookRel w I mu r r':=by
   intro hbr hko r hr'
   obtain⟨km,l,h1,h2,h3,h4,h5⟩:=hr.blk b _ ((hb b hbr).trans hx)
   cases hm with
   |mref _ km' hk'=>
    rw[h1] at hk'
    simp only[A03,Value.map.injEq] at hk'
    subst hk'
    obtain⟨r',q1,q2⟩:=F7 (w:=w) (kv:=kv) htk hko h3 hr'
    refine⟨km,l,rfl,h2,r',q1,?_⟩
    match r,r',q2 with
    |none,none,_=>trivial
    |some (j,d),some (j',v),q2=>
     obtain⟨_,_,x,y,g1,g2,rfl,rfl,_⟩:=q2
     exact h5 j x y g1 g2
  split at he
  ·rename_i j d hfd
   simp only[A03,A05] at he
   obtain⟨rfl,rfl⟩:=he
   obtain⟨km,l,rfl,h2,r',q1,q2⟩:=aux (by simp) hc _ hfd
   match r',q2 with
   |some (j',v),q2=>
    refine AA.same hr _ ?_ (fin q2)
    simp only[Instr.lookup,A0e,run_underlying hu,Result.andThen,getObj,Sem.run,h2,A0j,Cl htk hc,q1]
    all_goals(cases ok<;>simp)
  ·rename_i hfd
   split at he
   ·rename_i z hz
    simp only[A03,A05] at he
    obtain⟨rfl,rfl⟩:=he
    obtain⟨km,l,rfl,h2,r',q1,q2⟩:=aux (by simp) hc _ hfd
    obtain⟨z',g1,g2⟩:=Y2 (w:=w) (I:=I) (mu:=mu) hte hz
    match r',q2 with
    |none,q2=>
     refine AA.same hr _ ?_ (fin g2)
     simp only[Instr.lookup,A0e,run_underlying hu,Result.andThen,getObj,Sem.run,h2,A0j,Cl htk hc,q1,g1]
     all_goals(cases ok<;>simp)
   ·cases he
  ·cases he
 ·cases he
theorem L5{l:List MapEntry}{i:Nat}{x:MapEntry}{kv v:Value}(hx:l[i]? =some x)(hk:x.key=kv):(l.modify i fun e=> {e with key:=kv,val:=v}).map (·.key)=l.map (·.key):=by
 apply A1B
 intro j
 simp only[A0x,A1T]
 by_cases h:i=j
 ·subst h;rw[hx];simp[hk]
 ·simp[h]
theorem Nh{α:Type}{es:List (Value×Nat×D)}{i:Nat}{d:D}(f:Value×Nat×D->α)(hf:∀ k n d d',f (k,n,d)=f (k,n,d')):(LC es i d).map f=es.map f:=by
 apply A1B
 intro j
 simp only[LC,A0x,A1T]
 by_cases h:i=j
 ·subst h
  cases es[i]? with
  |none=>simp
  |some x=>simp;exact hf _ _ _ _
 ·simp[h]
theorem PJ{a:Value}{kv:Value}(h:Instr.sameBits 10000 a kv=true)(w:World):(Instr.keyThatStays a kv).run P w=.ok kv w:=by
 simp[Instr.keyThatStays,h]
def updRel(l:List MapEntry)(kv:Value):Option (Nat×D)->Option (Nat×Value)->Prop
 |none,none=>True
 |some (j,_),some (j',_)=>j=j'/\∃ x,l[j]? =some x/\x.key=kv/\Instr.sameBits 10000 x.key kv=true
 |_,_=>False
theorem Ro{t tk e':TypeId}{tm ti:TI}(ht:Ak P t=some tm)(hs:tm.sh=.map tk e')(htk:Ak P tk=some ti){hp:Nat->Option Blk}{dm dk d:D}{e:Eff}{c:Prop}(he:T7 hp ti.sh dm dk d=some (e,c))(hc:c)
  (hr:Ap w0 M0 I0 fr I mu h w) {m k v:Value} (hm:Rep w I mu dm m) (hk:Rep w I mu dk k) (hv:Rep w I mu d v) (hb:∀ b ∈ e.rd,h b=hp b) (id:Nat):
  e.d=.any/\∃ w' I' mu',(Instr.mapUpdate t m k v).run P w=.ok () w'/\Ext I mu w I' mu' w'/\Ap w0 M0 I0 (fun b=>fr b/\b≠id) I' mu' (fun b=>AO b (h b) e.up) w':=by
 have hu:=Gw ht hs
 unfold T7 at he
 split at he
 case h_2=>cases he
 rename_i b kv
 have hkv:=hk.val_inv;rw[hkv] at hk|-;clear hkv
 split at he
 case h_2=>cases he
 rename_i es ck hx
 have wr:∀ {km:Nat} {l:List MapEntry} (l':List MapEntry) (ck':Nat) (es':List (Value×Nat×D)),h b=some (.map es ck)->mu b=some (.map (some km))->w.heap[km]? =some (.map l.toArray ck)->l'.map (·.key)=es'.map (·.1)->l'.map (·.born)=es'.map (·.2.1)->
   (∀(i:Nat) (x:MapEntry) (y:Value×Nat×D),l'[i]? =some x->es'[i]? =some y->Rep w I mu y.2.2 x.val)->
   Ext I mu w I mu {w with heap:=w.heap.setIfInBounds km (.map l'.toArray ck')}/\Ap w0 M0 I0 (fun b=>fr b/\b≠id) I mu (fun c=>AO c (h c) [(b,some (.map es' ck'))]) {w with heap:=w.heap.setIfInBounds km (.map l'.toArray ck')}:=by
  intro km l l' ck' es' hb0 h1 h2 h3 h4 h5
  have hlt:=(hr.loc b _ _ km hb0 h1 rfl).2.2
  have hwr:Gr km w {w with heap:=w.heap.setIfInBounds km (.map l'.toArray ck')}:=⟨rfl,rfl,rfl,by simp,fun j hj=>by simp[A1k (Ne.symm hj)]⟩
  have hnotI:¬I km:=(hr.loc b _ _ km hb0 h1 rfl).2.1
  have hIkeep:∀ j,I j->({w with heap:=w.heap.setIfInBounds km (.map l'.toArray ck')}:World).heap[j]? =w.heap[j]?:=fun j hj=>hwr.other j (by rintro rfl;exact hnotI hj)
  have:=hr.wrote (id:=id) hb0 h1 rfl hwr (.map es' ck') ⟨km,l',h1,by simp[hlt],h3,h4,fun i x y hx hy=>(h5 i x y hx hy).mono hIkeep (fun _ h=>h) (fun _ _ h=>h)⟩
  exact⟨this.2,this.1⟩
 have aux:b ∈ e.rd->Fb ti.sh=true->∀ r,DE ti.sh kv es 0=some r->∃ (km:Nat) (l:List MapEntry),m=.map (some km)/\h b=some (.map es ck)/\mu b=some (.map (some km))/\w.heap[km]? =some (.map l.toArray ck)/\l.map (·.key)=es.map (·.1)/\l.map (·.born)=es.map (·.2.1)/\
   (∀(i:Nat) (x:MapEntry) (y:Value×Nat×D),l[i]? =some x->es[i]? =some y->Rep w I mu y.2.2 x.val)/\∃ r',(Instr.findKey tk kv l).run P w=.ok r' w/\updRel l kv r r':=by
  intro hbr hko r hr'
  have hb0:=(hb b hbr).trans hx
  obtain⟨km,l,h1,h2,h3,h4,h5⟩:=hr.blk b _ hb0
  cases hm with
  |mref _ km' hk'=>
   rw[h1] at hk'
   simp only[A03,Value.map.injEq] at hk'
   subst hk'
   obtain⟨r',q1,q2⟩:=F7 (w:=w) (kv:=kv) htk hko h3 hr'
   refine⟨km,l,rfl,hb0,h1,h2,h3,h4,h5,r',q1,?_⟩
   match r,r',q2 with
   |none,none,_=>trivial
   |some (j,d),some (j',v),q2=>
    obtain⟨g0,_,x,y,g1,g2,rfl,rfl,g3,g4⟩:=q2
    simp only[Nat.sub_zero] at g1 g2
    refine⟨g0,x,g1,?_,g4⟩
    have:=congrArg (fun z=>z[j]?) h3
    simp only[A0x,g1,g2,A15,A03] at this
    rw[this,g3]
 split at he
 ·rename_i j d' hfd
  simp only[A03,A05] at he
  obtain⟨rfl,rfl⟩:=he
  obtain⟨km,l,rfl,hb0,h1,h2,h3,h4,h5,r',q1,q2⟩:=aux (by simp) hc _ hfd
  refine⟨rfl,?_⟩
  match r',q2 with
  |some (j',v'),q2=>
   obtain⟨rfl,x,g1,g2,g3⟩:=q2
   have:=wr (l:=l) (l.modify j fun e=> {e with key:=kv,val:=v}) ck (LC es j d) hb0 h1 h2 (by rw[L5 g1 g2,Nh _ (fun _ _ _ _=>rfl),h3]) (by
     rw[Nh _ (fun _ _ _ _=>rfl),<-h4]
     apply A1B;intro i
     simp only[A0x,A1T]
     by_cases h:j=i
     ·subst h;rw[g1];simp
     ·simp[h]) (fun i x' y' hx' hy'=>by
     simp only[LC,A1T] at hx' hy'
     by_cases h:j=i
     ·subst h
      rw[g1] at hx'
      simp only[if_true,Option.map_eq_map,A15,A03] at hx'
      subst hx'
      cases hz:es[j]? with
      |none=>rw [hz] at hy';cases hy'
      |some z=>
       rw[hz] at hy'
       simp only[if_true,Option.map_eq_map,A15,A03] at hy'
       subst hy'
       exact hv
     ·simp only[h,if_false] at hx' hy'
      have hx'':l[i]? =some x':=by cases hl:l[i]? <;>simp_all
      have hy'':es[i]? =some y':=by cases hl:es[i]? <;>simp_all
      exact h5 i x' y' hx'' hy'')
   refine⟨_,I,mu,?_,this.1,this.2⟩
   have hlt:=(hr.loc b _ _ km hb0 h1 rfl).2.2
   have e1:(l.toArray.modify j fun e=> {e with key:=kv,val:=v})=(l.modify j fun e=> {e with key:=kv,val:=v}).toArray:=by simp
   simp only[Instr.mapUpdate,A0e,run_underlying hu,Result.andThen,getObj,Sem.run,h2,Cl htk hc,q1,A1b,g1,A15,A0J,PJ g3,setObj,e1]
 ·rename_i hfd
  simp only[A03,A05] at he
  obtain⟨rfl,rfl⟩:=he
  obtain⟨km,l,rfl,hb0,h1,h2,h3,h4,h5,r',q1,q2⟩:=aux (by simp) hc _ hfd
  refine⟨rfl,?_⟩
  match r',q2 with
  |none,q2=>
   have hll:l.length=es.length:=by have:=congrArg List.length h3;simpa using this
   have:=wr (l:=l) (l++[{key:=kv,val:=v,born:=ck}]) (ck+1) (es++[(kv,ck,d)]) hb0 h1 h2 (by simp[h3]) (by simp[h4]) (fun i x' y' hx' hy'=>by
     rcases Nat.lt_trichotomy i l.length with hlt|heq|hgt
     ·rw[A0q hlt] at hx'
      rw[A0q (by omega)] at hy'
      exact h5 i x' y' hx' hy'
     ·subst heq
      rw[A0o (A0a _)] at hx'
      rw[A0o (by omega)] at hy'
      simp[hll] at hx' hy'
      subst hx' hy'
      exact hv
     ·rw[List.getElem?_eq_none (by simp;omega)] at hx';cases hx')
   refine⟨_,I,mu,?_,this.1,this.2⟩
   have e1:l.toArray.push ({key:=kv,val:=v,born:=ck}:MapEntry)=(l++[({key:=kv,val:=v,born:=ck}:MapEntry)]).toArray:=by simp
   simp only[Instr.mapUpdate,A0e,run_underlying hu,Result.andThen,getObj,Sem.run,h2,Cl htk hc,q1,setObj,e1]
 ·cases he
theorem Cw{α β:Type}(f:α->β):∀ (l:List α) (i:Nat),(l.eraseIdx i).map f=(l.map f).eraseIdx i
 |[],i=>by simp
 |x::l,0=>by simp
 |x::l,i+1=>by simp[Cw f l i]
theorem Yt{t tk e':TypeId}{ty:TypeId}{tm ti:TI}(ht:Ak P t=some tm)(hs:tm.sh=.map tk e')(htk:Ak P tk=some ti){hp:Nat->Option Blk}{dm dk:D}{e:Eff}{c:Prop}(he:delE hp ti.sh dm dk=some (e,c))(hc:c)
  (hr:Ap w0 M0 I0 fr I mu h w) {m k:Value} {ts:Array TypeId} (hts:ts[0]? =some t) (hm:Rep w I mu dm m) (hk:Rep w I mu dk k) (hb:∀ b ∈ e.rd,h b=hp b) (id:Nat):
  AA P (fun w=>(Builtin.delete_ ts ty #[m,k]).run P w) id e.d e.up w0 M0 I0 fr I mu h w:=by
 have hu:=Gw ht hs
 unfold delE at he
 split at he
 case h_2=>cases he
 rename_i b kv
 have hkv:=hk.val_inv;rw[hkv] at hk|-;clear hkv
 split at he
 case h_2=>cases he
 rename_i es ck hx
 have wr:∀ {km:Nat} {l:List MapEntry} (l':List MapEntry) (es':List (Value×Nat×D)),h b=some (.map es ck)->mu b=some (.map (some km))->w.heap[km]? =some (.map l.toArray ck)->l'.map (·.key)=es'.map (·.1)->l'.map (·.born)=es'.map (·.2.1)->
   (∀(i:Nat) (x:MapEntry) (y:Value×Nat×D),l'[i]? =some x->es'[i]? =some y->Rep w I mu y.2.2 x.val)->
   Ext I mu w I mu {w with heap:=w.heap.setIfInBounds km (.map l'.toArray ck)}/\Ap w0 M0 I0 (fun b=>fr b/\b≠id) I mu (fun c=>AO c (h c) [(b,some (.map es' ck))]) {w with heap:=w.heap.setIfInBounds km (.map l'.toArray ck)}:=by
  intro km l l' es' hb0 h1 h2 h3 h4 h5
  have hlt:=(hr.loc b _ _ km hb0 h1 rfl).2.2
  have hwr:Gr km w {w with heap:=w.heap.setIfInBounds km (.map l'.toArray ck)}:=⟨rfl,rfl,rfl,by simp,fun j hj=>by simp[A1k (Ne.symm hj)]⟩
  have hnotI:¬I km:=(hr.loc b _ _ km hb0 h1 rfl).2.1
  have hIkeep:∀ j,I j->({w with heap:=w.heap.setIfInBounds km (.map l'.toArray ck)}:World).heap[j]? =w.heap[j]?:=fun j hj=>hwr.other j (by rintro rfl;exact hnotI hj)
  have:=hr.wrote (id:=id) hb0 h1 rfl hwr (.map es' ck) ⟨km,l',h1,by simp[hlt],h3,h4,fun i x y hx hy=>(h5 i x y hx hy).mono hIkeep (fun _ h=>h) (fun _ _ h=>h)⟩
  exact⟨this.2,this.1⟩
 have aux:b ∈ e.rd->Fb ti.sh=true->∀ r,DE ti.sh kv es 0=some r->∃ (km:Nat) (l:List MapEntry),m=.map (some km)/\h b=some (.map es ck)/\mu b=some (.map (some km))/\w.heap[km]? =some (.map l.toArray ck)/\l.map (·.key)=es.map (·.1)/\l.map (·.born)=es.map (·.2.1)/\
   (∀(i:Nat) (x:MapEntry) (y:Value×Nat×D),l[i]? =some x->es[i]? =some y->Rep w I mu y.2.2 x.val)/\∃ r',(Instr.findKey tk kv l).run P w=.ok r' w/\Qh es l kv 0 r r':=by
  intro hbr hko r hr'
  have hb0:=(hb b hbr).trans hx
  obtain⟨km,l,h1,h2,h3,h4,h5⟩:=hr.blk b _ hb0
  cases hm with
  |mref _ km' hk'=>
   rw[h1] at hk'
   simp only[A03,Value.map.injEq] at hk'
   subst hk'
   obtain⟨r',q1,q2⟩:=F7 (w:=w) (kv:=kv) htk hko h3 hr'
   exact⟨km,l,rfl,hb0,h1,h2,h3,h4,h5,r',q1,q2⟩
 split at he
 ·rename_i j d' hfd
  simp only[A03,A05] at he
  obtain⟨rfl,rfl⟩:=he
  obtain⟨km,l,rfl,hb0,h1,h2,h3,h4,h5,r',q1,q2⟩:=aux (by simp) hc _ hfd
  match r',q2 with
  |some (j',v'),q2=>
   obtain⟨rfl,_⟩:=q2
   have:=wr (l:=l) (l.eraseIdx j) (es.eraseIdx j) hb0 h1 h2 (by rw[Cw,Cw,h3]) (by rw[Cw,Cw,h4]) (fun i x' y' hx' hy'=>by
     rw[List.getElem?_eraseIdx] at hx' hy'
     by_cases h:i<j
     ·rw[if_pos h] at hx' hy';exact h5 _ _ _ hx' hy'
     ·rw[if_neg h] at hx' hy';exact h5 _ _ _ hx' hy')
   refine⟨.tuple #[],_,I,mu,?_,this.1,this.2,.any _⟩
   have e1:l.toArray.eraseIdxIfInBounds j=(l.eraseIdx j).toArray:=by
    apply Array.ext';simp
   simp only[Builtin.delete_,hts,A0e,run_underlying hu,Result.andThen,getObj,Sem.run,h2,Cl htk hc,q1,setObj,e1,A1b,A0U,A0V,A0j]
 ·rename_i hfd
  simp only[A03,A05] at he
  obtain⟨rfl,rfl⟩:=he
  obtain⟨km,l,rfl,hb0,h1,h2,h3,h4,h5,r',q1,q2⟩:=aux (by simp) hc _ hfd
  match r',q2 with
  |none,q2=>
   have:=wr (l:=l) l es hb0 h1 h2 h3 h4 h5
   refine⟨.tuple #[],_,I,mu,?_,this.1,this.2,.any _⟩
   simp only[Builtin.delete_,hts,A0e,run_underlying hu,Result.andThen,getObj,Sem.run,h2,Cl htk hc,q1,setObj,A1b,A0U,A0V,A0j]
 ·cases he
theorem Tv{t:TypeId}{id:Nat}{e:Eff}{c:Prop}(he:mapE id=some (e,c))(hr:Ap w0 M0 I0 fr I mu h w)(hid:fr id):AA P (fun w=>(Instr.makeMap t none).run P w) id e.d e.up w0 M0 I0 fr I mu h w:=by
 simp only[mapE,A03,A05] at he
 obtain⟨rfl,rfl⟩:=he
 have:=hr.new hid (.map #[] 0) (.map (some w.heap.size)) rfl (.map [] 0) ⟨w.heap.size,[],by simp[Ax],World.alloc_heap_new w _,rfl,rfl,fun i x y hx _=>by simp at hx⟩
 exact⟨.map (some w.heap.size),_,I,_,by simp[Instr.makeMap,newObj,Sem.run],this.2,this.1,.mref id _ (by simp[Ax])⟩
theorem Tu{t tk e':TypeId}{tm:TI}(ht:Ak P t=some tm)(hs:tm.sh=.map tk e'){id:Nat}{hp:Nat->Option Blk}{d:D}{e:Eff}{c:Prop}(he:PO id hp d=some (e,c))(hr:Ap w0 M0 I0 fr I mu h w)(hid:fr id){v:Value}(hv:Rep w I mu d v)(hb:∀ b ∈ e.rd,h b=hp b):
  AA P (fun w=>(Instr.range t v).run P w) id e.d e.up w0 M0 I0 fr I mu h w:=by
 have hu:=Gw ht hs
 have hnone:=hr.fresh id hid
 unfold PO at he
 split at he
 ·rename_i b
  split at he
  ·rename_i es ck hx
   simp only[A03,A05] at he
   obtain⟨rfl,rfl⟩:=he
   obtain⟨km,l,h1,h2,h3,h4,h5⟩:=hr.blk b _ ((hb b (by simp)).trans hx)
   cases hv with
   |mref _ km' hk'=>
    rw[h1] at hk'
    simp only[A03,Value.map.injEq] at hk'
    subst hk'
    have:=hr.new hid (.mapIter (some km) ck #[] ck) (.pointer (some ⟨w.heap.size,0,none⟩)) rfl (.iter b ck [] ck) ⟨w.heap.size,km,by simp[Ax],Bs hnone b _ h1,World.alloc_heap_new w _⟩
    exact⟨.pointer (some ⟨w.heap.size,0,none⟩),_,I,_,by simp[Instr.range,run_underlying hu,newObj,Sem.run,getObj,h2],this.2,this.1,.ref id 0 0 1 w.heap.size (by simp[Ax])⟩
  ·cases he
 ·simp only[A03,A05] at he
  obtain⟨rfl,rfl⟩:=he
  have hvv:=hv.val_inv;subst hvv
  have:=hr.new hid (.mapIter none 0 #[] 0) (.pointer (some ⟨w.heap.size,0,none⟩)) rfl (.obj (.mapIter none 0 #[] 0)) ⟨w.heap.size,by simp[Ax],World.alloc_heap_new w _⟩
  exact⟨.pointer (some ⟨w.heap.size,0,none⟩),_,I,_,by simp[Instr.range,run_underlying hu,newObj,Sem.run],this.2,this.1,.ref id 0 0 1 w.heap.size (by simp[Ax])⟩
 ·cases he
theorem Mk{born:Nat}:∀ {es:List (Value×Nat×D)} {l:List MapEntry} {k:Value} {d:D},Sd born es=some (k,d)->l.map (·.key)=es.map (·.1)->l.map (·.born)=es.map (·.2.1)->
  ∃(i:Nat) (x:MapEntry) (y:Value×Nat×D),l.find? (fun e=>e.born==born)=some x/\l[i]? =some x/\es[i]? =some y/\x.key=k/\d=y.2.2
 |[],l,k,d,h,_,_=>by cases h
 |e::es,[],k,d,h,h1,_=>by simp at h1
 |e::es,x::l,k,d,h,h1,h2=>by
  simp only[A0h,List.cons.injEq] at h1 h2
  simp only[Sd] at h
  cases hq:(e.2.1==born) with
  |true=>
   simp only[hq,cond_true,A03,A05] at h
   exact⟨0,x,e,by simp[h2.1,beq_iff_eq.1 hq],by simp,by simp,by rw[h1.1,h.1],h.2.symm⟩
  |false=>
   simp only[hq,cond_false] at h
   obtain⟨i,x',y,g1,g2,g3,g4,g5⟩:=Mk h h1.2 h2.2
   have hne:¬x.born=born:=by rw[h2.1];simpa using hq
   exact⟨i+1,x',y,by simp[List.find?_cons,hne,g1],by simpa using g2,by simpa using g3,g4,g5⟩
theorem Ty{hp:Nat->Option Blk}{d:D}{e:Eff}{c:Prop}(he:Qi hp d=some (e,c))(hc:c)(hr:Ap w0 M0 I0 fr I mu h w){v:Value}(hv:Rep w I mu d v)(hb:∀ b ∈ e.rd,h b=hp b)(id:Nat):
  AA P (fun w=>(Instr.entry v).run P w) id e.d e.up w0 M0 I0 fr I mu h w:=by
 unfold Qi at he
 split at he
 case h_2=>cases he
 rename_i b sz
 split at he
 case h_2=>cases he
 rename_i m since seen last hx
 split at he
 case h_2=>cases he
 rename_i es ck hm
 split at he
 case h_2=>cases he
 rename_i born hborn
 split at he
 case h_2=>cases he
 rename_i k d' hfb
 simp only[A03,A05] at he
 obtain⟨rfl,rfl⟩:=he
 obtain⟨hck,hok⟩:=hc
 subst hck
 obtain⟨ki,km,h1,h2,h3⟩:=hr.blk b _ ((hb b (by simp)).trans hx)
 obtain⟨km',l,g1,g2,g3,g4,g5⟩:=hr.blk m _ ((hb m (by simp)).trans hm)
 rw[h2] at g1
 simp only[A03,Value.map.injEq] at g1
 subst g1
 cases hv with
 |ref _ _ _ _ kv hk=>
  rw[h1] at hk
  simp only[A03,A0O,A16,and_true] at hk
  subst hk
  obtain⟨i,x,y,q1,q2,q3,q4,q5⟩:=Mk hfb g3 g4
  subst q5
  refine AA.same hr (.tuple #[x.key,x.val]) ?_ (.tup [.val k,y.2.2] [x.key,x.val] rfl fun j hj=>?_)
  ·have hbk:seen.toArray.back? =some born:=by
    rw[List.back?_toArray];exact hborn
   have hfd:l.toArray.find? (fun e=>e.born==born)=some x:=by
    rw[List.find?_toArray];exact q1
   simp[Instr.entry,getObj,Sem.run,h3,g2,hbk,hfd]
  ·match j,hj with
   |0,_=>show Rep w I mu (.val k) x.key;rw[q4];exact .val k hok
   |1,_=>exact g5 i x y q2 q3
end
section
variable{P:Program}{w0:World}{M0:Nat->Prop}{I0:Gh}{fr I:Nat->Prop}{mu:Nat->Option Value}{h:Nat->Option Blk}{w:World}
theorem AM.take{es:List (List D)}{sz:Nat}{us:List Value}(h:AM w I mu es sz us){n:Nat}(hn:n<=es.length):AM w I mu (es.take n) sz (us.take (n*sz)):=by
 have hmul:n*sz<=es.length*sz:=A0f _ hn
 have hnr:∀ i,i<n->nr (es.take n) i=nr es i:=by
  intro i hi;simp only[nr,A02];rw[A0n hi]
 have hl:(es.take n).length=n:=by simp;omega
 refine⟨by rw[hl,A0z,h.1];omega,fun i hi=>?_,fun i j hi hj=>?_⟩
 ·rw[hl] at hi;rw[hnr i hi];exact h.2.1 i (by omega)
 ·rw[hl] at hi
  have hlt:i*sz+j<n*sz:=by
   have:i*sz+sz<=n*sz:=by rw[<-A0F];exact A0f _ hi
   omega
  have e:nv (us.take (n*sz)) (i*sz+j)=nv us (i*sz+j):=by simp only[nv,A02];rw[A0n hlt]
  rw[hnr i hi,e];exact h.2.2 i j (by omega) hj
theorem AM.drop{es:List (List D)}{sz:Nat}{us:List Value}(h:AM w I mu es sz us)(n:Nat):AM w I mu (es.drop n) sz (us.drop (n*sz)):=by
 have hnr:∀ i,nr (es.drop n) i=nr es (n+i):=by
  intro i;simp only[nr,A02];rw[A0I]
 refine⟨by simp only[A0v,h.1,Nat.sub_mul],fun i hi=>?_,fun i j hi hj=>?_⟩
 ·simp only[A0v] at hi;rw[hnr i];exact h.2.1 _ (by omega)
 ·simp only[A0v] at hi
  have e:nv (us.drop (n*sz)) (i*sz+j)=nv us ((n+i)*sz+j):=by
   simp only[nv,A02];rw[A0I]
   congr 2
   rw[A19];omega
  rw[hnr i,e];exact h.2.2 _ j (by omega) hj
theorem AM.over{es ns:List (List D)}{sz:Nat}{us vs:List Value}(h:AM w I mu es sz us)(k:AM w I mu ns sz vs){i:Nat}(hi:i+ns.length<=es.length):AM w I mu (Au es i ns) sz (Au us (i*sz) vs):=by
 have e:i*sz+vs.length=(i+ns.length)*sz:=by rw[k.1,A19]
 unfold Au
 rw[e]
 exact(h.take (by omega)).append (k.append (h.drop _))
theorem Rt{news:List (List D)}{sz:Nat}{vs:List Value}(hsz:0<sz)(hrv:AM w I mu news sz vs)(hone:∀ y ∈ news,∀ d ∈ y,AN d=true):∀ u ∈ vs,u.oneCell'=true:=by
 intro u hu
 obtain⟨m,hm,rfl⟩:=A1n.1 hu
 have hm':m<news.length*sz:=by rw[<-hrv.1];exact hm
 have q1:m/sz<news.length:=(Nat.div_lt_iff_lt_mul hsz).2 hm'
 have q2:m%sz<sz:=Nat.mod_lt _ hsz
 have q3:=hrv.2.2 _ _ q1 q2
 have q4:m/sz*sz+m%sz=m:=by rw[Nat.mul_comm];exact Nat.div_add_mod m sz
 rw[q4] at q3
 have q5:nv vs m=vs[m]:=by simp[nv,A02,hm]
 rw[q5] at q3
 refine q3.one ?_
 have q6:nr news (m/sz)=news[m/sz]:=by simp[nr,A02,q1]
 have q7:news[m/sz].length=sz:=by rw[<-q6];exact hrv.2.1 _ q1
 rw[q6]
 have q8:nd news[m/sz] (m%sz)=news[m/sz][m%sz]'(by omega):=by simp[nd,A02,show m%sz<news[m/sz].length by omega]
 rw[q8]
 exact hone _ (A0X q1) _ (A0X _)
theorem Fo.take{A:Option Addr}{us:List Value}(h:Fo w A us)(n:Nat):Fo w A (us.take n):=by
 rcases h with rfl|⟨k,o,rfl,hc⟩
 ·exact .inl (by simp)
 ·refine .inr ⟨k,o,rfl,fun j u hj=>?_⟩
  rw[A1Q] at hj
  split at hj
  ·exact hc j u hj
  ·cases hj
theorem Ru{es:List (List D)}{sz:Nat}{us:List Value}(h:AM w I mu es sz us){w':World}(hw:∀ j,I j->w'.heap[j]? =w.heap[j]?):AM w' I mu es sz us:=⟨h.1,h.2.1,fun i j hi hj=>(h.2.2 i j hi hj).mono hw (fun _ h=>h) (fun _ _ h=>h)⟩
def KL(r:Bool)(es:List (List D))(sz:Nat):Blk:=bif r then .rows es sz else .grow es sz
theorem Jb{b i sz:Nat}{r:Bool}{es ns:List (List D)}{vs:List Value}(hr:Ap w0 M0 I0 fr I mu h w)(hx:h b=some (KL r es sz))(hk:AM w I mu ns sz vs)(hi:i+ns.length<=es.length)(hone:∀ u ∈ vs,u.oneCell'=true)(hpos:0<ns.length)(id:Nat):
  ∃(k:Nat) (v:Value) (T:TypeId) (us:List Value),mu b=some v/\Ae v=some k/\w.heap[k]? =some (.cells us.toArray T (0,0))/\es.length*sz<=us.length/\∃ w',(storeCells ⟨k,i*sz,none⟩ vs).run P w=.ok () w'/\Ext I mu w I mu w'/\
   Ap w0 M0 I0 (fun b=>fr b/\b≠id) I mu (fun c=>AO c (h c) [(b,some (KL r (Au es i ns) sz))]) w':=by
 have hmul:i*sz+ns.length*sz<=es.length*sz:=by rw[<-A19];exact A0f _ hi
 cases r
 case true=>
  obtain⟨k,T,us,h1,h2,h3,h4,h5⟩:=hr.blk b _ hx
  have hl:=hr.loc b _ _ k hx h1 rfl
  obtain⟨w',hrun,hheap,hwrote⟩:=BB (P:=P) (T:=T) vs 0 (i*sz) us w h2 (by rw[hk.1];omega) hone
  simp only[A11] at hheap
  have hIw:∀ j,I j->w'.heap[j]? =w.heap[j]?:=fun j hj=>hwrote.other j (by rintro rfl;exact hl.2.1 hj)
  have hov:=Ru ((show AM w I mu es sz us from⟨h3,h4,h5⟩).over hk hi) hIw
  have:=hr.wrote (id:=id) hx h1 rfl hwrote (.rows (Au es i ns) sz) ⟨k,T,Au us (i*sz) vs,h1,hheap,hov.1,hov.2.1,hov.2.2⟩
  exact⟨k,_,T,us,h1,rfl,h2,by omega,w',hrun,this.2,this.1⟩
 case false=>
  obtain⟨A,cap,T,us,h1,h4,h3,h5⟩:=hr.blk b _ hx
  rcases h5 with⟨_,rfl⟩|⟨k,q0,rfl,h2,q3,q4,h5⟩
  ·simp only[A0t] at hi;omega
  have hloc:Ae (.slice (some ⟨k,0,none⟩) es.length cap)=some k:=by simp[Ae];omega
  have hl:=hr.loc b _ _ k hx h1 hloc
  have hcm:es.length*sz<=cap*sz:=A0f _ q3
  obtain⟨w',hrun,hheap,hwrote⟩:=BB (P:=P) (T:=T) vs 0 (i*sz) us w h2 (by rw[hk.1];omega) hone
  simp only[A11] at hheap
  have hIw:∀ j,I j->w'.heap[j]? =w.heap[j]?:=fun j hj=>hwrote.other j (by rintro rfl;exact hl.2.1 hj)
  have hr0:AM w I mu es sz (us.take (es.length*sz)):=by
   refine⟨by simp;omega,h4,fun a c ha hc=>?_⟩
   have hlt:a*sz+c<es.length*sz:=by
    have:a*sz+sz<=es.length*sz:=by rw[<-A0F];exact A0f _ ha
    omega
   have e:nv (us.take (es.length*sz)) (a*sz+c)=nv us (a*sz+c):=by simp only[nv,A02];rw[A0n hlt]
   rw[e];exact h5 a c ha hc
  have hov:=Ru (hr0.over hk hi) hIw
  have hlen:(Au es i ns).length=es.length:=B0 hi
  have hnv:∀ m,m<es.length*sz->nv (Au us (i*sz) vs) m=nv (Au (us.take (es.length*sz)) (i*sz) vs) m:=by
   intro m hm
   have hkl:=hk.1
   rw[F8 (by omega),F8 (by simp;omega)]
   have e:nv (us.take (es.length*sz)) m=nv us m:=by simp only[nv,A02];rw[A0n hm]
   rw[e]
  have:=hr.wrote (id:=id) hx h1 hloc hwrote (.grow (Au es i ns) sz) ⟨_,cap,T,Au us (i*sz) vs,by rw[hlen];exact h1,hov.2.1,h3,.inr ⟨k,q0,rfl,hheap,by rw[hlen];exact q3,by rw[B0 (by rw[hk.1];omega),q4],fun a c ha hc=>by
   rw[hlen] at ha
   have hlt:a*sz+c<es.length*sz:=by
    have:a*sz+sz<=es.length*sz:=by rw[<-A0F];exact A0f _ ha
    omega
   rw[hnv _ hlt]
   exact hov.2.2 a c (by rw[hlen];exact ha) hc⟩⟩
  exact⟨k,_,T,us,h1,hloc,h2,by omega,w',hrun,this.2,this.1⟩
def RI(hp:Nat->Option Blk):D->Option (Nat×Nat×Nat×List (List D)×Nat×Bool)
 |.sref b i len _ sz=>match hp b with
  |some (.rows es sz')=>bif sz==sz' then some (b,i,len,es,sz,true) else none
  |_=>none
 |.gsub b i len sz=>match hp b with
  |some (.grow es sz')=>bif sz==sz' then some (b,i,len,es,sz,false) else none
  |_=>none
 |_=>none
theorem LR{hp:Nat->Option Blk}{d:D}{b i len sz:Nat}{es:List (List D)}{r:Bool}(hd:RI hp d=some (b,i,len,es,sz,r)){v:Value}(hr:Ap w0 M0 I0 fr I mu h w)(hv:Rep w I mu d v)(hb:h b=hp b)(hle:i+len<=es.length):
  h b=some (KL r es sz)/\∃ A cap,v=.slice A len cap/\(0<len->∀ k u,mu b=some u->Ae u=some k->A=some ⟨k,i*sz,none⟩):=by
 unfold RI at hd
 split at hd
 ·rename_i b' i' len' cap' sz'
  split at hd
  ·rename_i es' sz'' hx
   cases hq:(sz'==sz'') with
   |false=>rw [hq] at hd;cases hd
   |true=>
    rw[hq] at hd
    simp only[cond_true,A03,A05] at hd
    obtain⟨rfl,rfl,rfl,rfl,rfl,rfl⟩:=hd
    have hq':=beq_iff_eq.1 hq
    subst hq'
    refine⟨hb.trans hx,?_⟩
    cases hv with
    |sref _ _ _ _ _ k hk=>
     refine⟨_,_,rfl,fun _ k' u hu hl=>?_⟩
     rw[hk] at hu;cases hu
     simp only[Ae,A03] at hl
     rw[hl]
  ·cases hd
 ·rename_i b' i' len' sz'
  split at hd
  ·rename_i es' sz'' hx
   cases hq:(sz'==sz'') with
   |false=>rw [hq] at hd;cases hd
   |true=>
    rw[hq] at hd
    simp only[cond_true,A03,A05] at hd
    obtain⟨rfl,rfl,rfl,rfl,rfl,rfl⟩:=hd
    have hq':=beq_iff_eq.1 hq
    subst hq'
    have hx':=hb.trans hx
    refine⟨hx',?_⟩
    cases hv with
    |gsub _ _ _ _ A B n cap hk hle' hB=>
     refine⟨_,_,rfl,fun hpos k' u hu hl=>?_⟩
     have hbr:=hr.blk _ _ hx'
     obtain⟨A',cap',T,us,g1,g2,g3,g4⟩:=hbr
     rw[hk] at g1 hu
     simp only[A03,A0N] at g1
     obtain⟨rfl,_,rfl⟩:=g1
     rcases g4 with⟨_,rfl⟩|⟨k,q0,rfl,_⟩
     ·simp at hle;omega
     ·cases hu
      simp only[Ae] at hl
      rw[if_neg (by omega)] at hl
      cases hl
      rw[hB (.inl (by omega))]
      simp[BM]
  ·cases hd
 ·cases hd
def capE(ti:TI):D->Res
 |.sref _ _ _ cap _=>match ti.sh with
  |.slice _=>pvc (.val (.int .i64 cap)) (cap<=9223372036854775807)
  |_=>none
 |_=>none
theorem Yu{t ty:TypeId}{ti:TI}(ht:Ak P t=some ti){d:D}{e:Eff}{c:Prop}(he:capE ti d=some (e,c))(hc:c)(hr:Ap w0 M0 I0 fr I mu h w){v:Value}(hv:Rep w I mu d v)(id:Nat):
  AA P (fun w=>(Builtin.cap_ #[t] ty #[v]).run P w) id e.d e.up w0 M0 I0 fr I mu h w:=by
 unfold capE at he
 split at he
 ·split at he
  ·rename_i hsh
   simp only[pvc,A03,A05] at he
   obtain⟨rfl,rfl⟩:=he
   cases hv with
   |sref _ _ _ _ _ k hk=>exact AA.same hr _ (by simp[Builtin.cap_,run_underlying (Aq ht hsh),goInt]) (.val _ (by simp only[okP,D2,D3];omega))
  ·cases he
 ·cases he
def Vq(hp:Nat->Option Blk)(te:TI)(dst src:D):Res:=
 match EP hp src,RI hp dst with
 |some (news,rd,c),some (b,i,len,es,sz,r)=>some (⟨.val (.int .i64 (min news.length len:Nat)),[(b,some (KL r (Au es i (news.take (min news.length len))) sz))],b::rd⟩,
   c/\sz=te.sz/\0<sz/\i+len<=es.length/\len<=9223372036854775807/\(∀ y ∈ news,y.length=te.sz)/\∀ y ∈ news.take (min news.length len),∀ d ∈ y,AN d=true)
 |_,_=>none
theorem Do{α:Type}(xs:List α)(i:Nat):Au xs i []=xs:=by simp[Au]
theorem Wl{t ty e':TypeId}{ti te:TI}(ht:Ak P t=some ti)(hs:ti.sh=.slice e')(hte:Ak P e'=some te){ts:Array TypeId}(hts:ts[0]? =some t){hp:Nat->Option Blk}{dd ds:D}{e:Eff}{c:Prop}(he:Vq hp te dd ds=some (e,c))(hc:c)
  (hr:Ap w0 M0 I0 fr I mu h w) {v x:Value} (hv:Rep w I mu dd v) (hx:Rep w I mu ds x) (hb:∀ b ∈ e.rd,h b=hp b) (id:Nat):AA P (fun w=>(Builtin.copy_ ts ty #[v,x]).run P w) id e.d e.up w0 M0 I0 fr I mu h w:=by
 have hu:=Aq ht hs
 unfold Vq at he
 split at he
 case h_2=>cases he
 rename_i news rd c' b i len es sz r hn hd
 simp only[A03,A05] at he
 obtain⟨rfl,rfl⟩:=he
 obtain⟨hc',hsz,hpos,hle,hlen,hnw,hone⟩:=hc
 subst hsz
 obtain⟨B,capB,vs,rfl,hrv,hB⟩:=C9 hn hc' hr hx (fun b hb'=>hb b (by simp[hb'])) hpos hnw
 obtain⟨hbb,A,cap,rfl,hA⟩:=LR hd hr hv (hb b (by simp)) hle
 generalize hm:min news.length len=m at hone|-
 have hml:(news.take m).length=m:=by simp;omega
 have hrt:=hrv.take (n:=m) (by omega)
 have hfc:=Cs (P:=P) (w:=w) (size:=te.sz) (n:=m) (A:=B) (cap:=capB) (us:=vs.take (m*te.sz)) (by rw[hrt.1,hml]) (hB.take _)
 have hfc':(Builtin.firstCells te.sz m (.slice B news.length capB)).run P w=.ok (vs.take (m*te.sz)).toArray w:=by
  cases B<;>exact hfc
 have hmin:Nat.min news.length len=m:=hm
 have hrep:Rep w I mu (.val (.int .i64 (m:Nat))) (.int .i64 (m:Nat)):=.val _ (by simp only[okP,D2,D3];omega)
 by_cases h0:m=0
 ·subst h0
  have e1:(fun c=>AO c (h c) [(b,some (KL r (Au es i (news.take 0)) te.sz))])=h:=by
   funext c
   simp only[AO,A0r,A0Z,A1A,Do]
   by_cases hc:b=c
   ·subst hc;rw[if_pos rfl,hbb]
   ·rw[if_neg hc]
  refine⟨.int .i64 0,w,I,mu,?_,Ext.refl _ _ _,?_,hrep⟩
  ·have hz:te.sz*0=0:=Nat.mul_zero _
   simp only[Nat.zero_mul,A1A] at hfc'
   simp only[Builtin.copy_,hts,A0e,run_underlying hu,Result.andThen,Builtin.lenOf,A0j,hmin,AS hte,hfc',A1b,A0U,A0V]
   cases A<;>simp [storeCells,goInt]
  ·have:=hr.less (fr':=fun b=>fr b/\b≠id) fun b hb=>hb.1
   rw[<-e1] at this
   exact this
 ·have hone':∀ u ∈ vs.take (m*te.sz),u.oneCell'=true:=Rt hpos hrt hone
  obtain⟨k,u,T,us,g1,g2,g3,g4,w',hrun,hext,hwr⟩:=Jb (P:=P) (i:=i) (es:=es) (sz:=te.sz) hr hbb hrt (by rw[hml];omega) hone' (by rw[hml];omega) id
  refine⟨.int .i64 m,w',I,mu,?_,hext,?_,hrep.ext hext⟩
  ·rw[hA (by omega) k u g1 g2]
   simp only[Builtin.copy_,hts,A0e,run_underlying hu,Result.andThen,Builtin.lenOf,A0j,hmin,AS hte,hfc',hrun,goInt,A1b,A0U,A0V]
  ·exact hwr
def Qn(hp:Nat->Option Blk)(te:TI)(dst:D):Res:=
 match RI hp dst with
 |some (b,i,len,es,sz,r)=>some (⟨.any,[(b,some (KL r (Au es i (List.replicate len (te.zero.map ofV))) sz))],[b]⟩,sz=te.sz/\0<sz/\te.zero.length=te.sz/\(te.zero.all fun v=>v.oneCell')=true/\i+len<=es.length)
 |none=>none
theorem Tz{t ty e':TypeId}{ti te:TI}(ht:Ak P t=some ti)(hs:ti.sh=.slice e')(hte:Ak P e'=some te){ts:Array TypeId}(hts:ts[0]? =some t){hp:Nat->Option Blk}{dd:D}{e:Eff}{c:Prop}(he:Qn hp te dd=some (e,c))(hc:c)
  (hr:Ap w0 M0 I0 fr I mu h w) {v:Value} (hv:Rep w I mu dd v) (hb:∀ b ∈ e.rd,h b=hp b) (id:Nat):AA P (fun w=>(Builtin.clear_ ts ty #[v]).run P w) id e.d e.up w0 M0 I0 fr I mu h w:=by
 have hu:=Aq ht hs
 unfold Qn at he
 split at he
 case h_2=>cases he
 rename_i b i len es sz r hd
 simp only[A03,A05] at he
 obtain⟨rfl,rfl⟩:=he
 obtain⟨hsz,hpos,hzl,hzo,hle⟩:=hc
 subst hsz
 obtain⟨hbb,A,cap,rfl,hA⟩:=LR hd hr hv (hb b (by simp)) hle
 by_cases h0:len=0
 ·subst h0
  have e1:(fun c=>AO c (h c) [(b,some (KL r (Au es i (List.replicate 0 (te.zero.map ofV))) te.sz))])=h:=by
   funext c
   simp only[AO,A0r,A0Z,List.replicate_zero,Do]
   by_cases hc:b=c
   ·subst hc;rw[if_pos rfl,hbb]
   ·rw[if_neg hc]
  refine⟨.tuple #[],w,I,mu,?_,Ext.refl _ _ _,?_,.any _⟩
  ·simp only[Builtin.clear_,hts,A0e,run_underlying hu,Result.andThen,A1b,A0U]
   cases A<;>simp
  ·have:=hr.less (fr':=fun b=>fr b/\b≠id) fun b hb=>hb.1
   rw[<-e1] at this
   exact this
 ·have hzr:=JW (w:=w) (I:=I) (mu:=mu) hzl len
  have hl:(List.replicate len (te.zero.map ofV)).length=len:=by simp
  have hone:∀ u ∈ (List.range (len*te.sz)).map fun m=>nv te.zero (m%te.sz),u.oneCell'=true:=by
   intro u hu
   obtain⟨m,hm,rfl⟩:=A0l.1 hu
   have hlt:m%te.sz<te.zero.length:=by rw[hzl];exact Nat.mod_lt _ hpos
   have:nv te.zero (m%te.sz)=te.zero[m%te.sz]:=by simp[nv,A02,hlt]
   rw[this]
   exact A0u.1 hzo _ (A0X hlt)
  obtain⟨k,u,T,us,g1,g2,g3,g4,w',hrun,hext,hwr⟩:=Jb (P:=P) (i:=i) (es:=es) (sz:=te.sz) hr hbb hzr (by rw[hl];omega) hone (by rw[hl];omega) id
  obtain⟨z,hz,hzc,_⟩:=Dp hte w
  have hzc':z.cells=te.zero.toArray:=by apply Array.ext';simpa using hzc
  have hcells:(Builtin.zeroCells z.cells len).toList=(List.range (len*te.sz)).map fun m=>nv te.zero (m%te.sz):=by
   have hsz:z.cells.size=te.sz:=by rw[hzc'];simpa using hzl
   have:=J2 hzl len z.cells hzc'
   unfold Builtin.zeroCells
   rw[show len*z.cells.size=len*te.sz by rw[hsz],this]
  refine⟨.tuple #[],w',I,mu,?_,hext,?_,.any _⟩
  ·rw[hA (by omega) k u g1 g2]
   obtain⟨n,rfl⟩:∃ n,len=n+1:=⟨len-1,by omega⟩
   simp only[Builtin.clear_,hts,A0e,run_underlying hu,Result.andThen,A1b,A0U,hz,hcells,hrun,A0j]
  ·exact hwr
def Lo(id:Nat)(hp:Nat->Option Blk)(te:TI)(g i len cap sz:Nat)(x:D):Res:=
 match EP hp x,hp g with
 |some (news,rd,c),some (.rows es sz')=>
  bif decide (len+news.length<=cap) then some (⟨.sref g i (len+news.length) cap sz,[(g,some (.rows (Au es (i+len) news) sz))],g::rd⟩,
   c/\sz=sz'/\sz=te.sz/\0<sz/\len<=cap/\i+len+news.length<=es.length/\(len+news.length)*te.bytes<=140737488355328/\len+news.length<=1073741824/\(∀ y ∈ news,y.length=te.sz)/\∀ y ∈ news,∀ d ∈ y,AN d=true)
  else some (⟨.gref id (len+news.length),[(id,some (.grow ((es.drop i).take len++news) sz))],g::rd⟩,
   c/\sz=sz'/\sz=te.sz/\0<sz/\len<=cap/\i+len<=es.length/\te.zero.length=te.sz/\(len+news.length)*te.bytes<=140737488355328/\len+news.length<=1073741824/\∀ y ∈ news,y.length=te.sz)
 |_,_=>none
theorem S2{id cap:Nat}{es:List (List D)}{sz:Nat}{us zs:List Value}{T:TypeId}(hr:Ap w0 M0 I0 fr I mu h w)(hid:fr id)(hpos:0<cap)(hcm:cap<=maxLen)(hle:es.length<=cap)(hlen:us.length+zs.length=cap*sz)(hrows:AM w I mu es sz us):
  ∃ mu',Ext I mu w I mu' (w.drew.alloc (.cells (us++zs).toArray T))/\mu' id=some (.slice (some ⟨w.heap.size,0,none⟩) es.length cap)/\Ap w0 M0 I0 (fun b=>fr b/\b≠id) I mu' (fun c=>AO c (h c) [(id,some (.grow es sz))]) (w.drew.alloc (.cells (us++zs).toArray T)):=by
 have hid0:=hr.fresh id hid
 generalize hw':w.drew.alloc (.cells (us++zs).toArray T)=w'
 have hsame:∀ j,j<w.heap.size->w'.heap[j]? =w.heap[j]?:=fun j hj=>by rw[<-hw'];exact B8 w.drew _ hj
 have hws:w'.heap.size=w.heap.size+1:=by rw[<-hw'];simp
 have hm:=Bs (v:=.slice (some ⟨w.heap.size,0,none⟩) es.length cap) hid0
 have:=hr.put (b0:=none) hid w' (.slice (some ⟨w.heap.size,0,none⟩) es.length cap) (.grow es sz) (fun k hk=>by
   simp only[Ae] at hk
   rw[if_neg (by omega)] at hk
   cases hk;exact .inl ⟨A0a _,by omega⟩) (by omega) (fun j hj _=>hsame j hj) (by rw[<-hw'];rfl) (by rw[<-hw'];rfl) (by rw[<-hw'];rfl)
  (JH (A:=none) (us:=us) (vs:=zs) (T:=T) (k:=w.heap.size) (cap:=cap) (by simp[Ax]) hpos hcm hle (by rw[<-hw'];exact heap_alloc_new w.drew _) hlen (hrows.mono ⟨fun _ h=>h,hm,fun k hk=>hsame k (hr.lt k hk)⟩))
 have e1:(fun c=>if c=id then some (Blk.grow es sz) else if(none:Option Nat)=some c then none else h c)=fun b=>AO b (h b) [(id,some (.grow es sz))]:=by
  funext b;simp only[AO,A0r,A0Z]
  by_cases hbi:b=id
  ·subst hbi;simp
  ·have:¬id=b:=fun h=>hbi h.symm
   simp[hbi,this]
 exact⟨_,this.2,by simp[Ax],by rw[<-e1];exact this.1⟩
theorem Jq{t ty e':TypeId}{ti te:TI}(ht:Ak P t=some ti)(hs:ti.sh=.slice e')(hte:Ak P e'=some te){id:Nat}{hp:Nat->Option Blk}{g i len cap sz:Nat}{dx:D}{e:Eff}{c:Prop}(he:Lo id hp te g i len cap sz dx=some (e,c))(hc:c)
  (hr:Ap w0 M0 I0 fr I mu h w) (hid:fr id) {vb vx:Value} (hvb:Rep w I mu (.sref g i len cap sz) vb) (hvx:Rep w I mu dx vx) (hb:∀ b ∈ e.rd,h b=hp b):AA P (fun w=>(Builtin.append_ #[t,t] ty #[vb,vx]).run P w) id e.d e.up w0 M0 I0 fr I mu h w:=by
 obtain⟨inf,d,z,g1,g2,g3,g4,g5,g6,g7,g8⟩:=B9 hte
 have hu:=Aq ht hs
 have hzs:z.cells.size=te.zero.length:=by rw[<-g6];simp
 unfold Lo at he
 split at he
 case h_2=>cases he
 rename_i news rd c' es sz' hn hx
 cases hroom:decide (len+news.length<=cap) with
 |true=>
  rw[hroom] at he
  have hroom':=of_decide_eq_true hroom
  simp only[cond_true,A03,A05] at he
  obtain⟨rfl,rfl⟩:=he
  obtain⟨hc',rfl,rfl,hpos,hlc,hle,hby,hln,hnw,hone⟩:=hc
  have hg:h g=some (.rows es te.sz):=(hb g (by simp)).trans hx
  have hrows:∀ y ∈ (es.drop i).take len,y.length=te.sz:=by
   obtain⟨k,T,us,q1,q2,q3,q4,q5⟩:=hr.blk g _ hg
   intro y hy
   obtain⟨j,hj,rfl⟩:=A1n.1 (A0P (A1e hy))
   have:=q4 j hj
   simpa[nr,A02,hj] using this
  obtain⟨B,capB,vs,rfl,hrv,hB⟩:=C9 hn hc' hr hvx (fun b hb'=>hb b (by simp[hb'])) hpos hnw
  have hself:EP h (.sref g i len cap te.sz)=some ((es.drop i).take len,[g],te.sz=te.sz/\i+len<=es.length):=by simp[EP,hg]
  obtain⟨A',cap',us,hveq,hru,hA⟩:=C9 hself ⟨rfl,by omega⟩ hr hvb (fun b _=>rfl) hpos hrows
  have hll:((es.drop i).take len).length=len:=by simp;omega
  rw[hll] at hveq
  cases hvb with
  |sref _ _ _ _ _ k hk=>
   simp only[A0N,true_and] at hveq
   obtain⟨rfl,rfl⟩:=hveq
   have run:=(Dq (P:=P) (w:=w) (ty:=ty) (cap:=cap) (cap':=capB) hu g1 g3 (us:=us) (vs:=vs) (n:=len) (m:=news.length) (by rw[g4,hru.1,hll]) (by rw[g4];exact hrv.1) hA hB hlc (by omega) (by rw[g7];exact hby)).1 hroom'
   have ea:((⟨k,i*te.sz,none⟩:Addr).add (len*inf.size))=⟨k,(i+len)*te.sz,none⟩:=by rw[BM,g4,A19]
   simp only[ea] at run
   have hrep:∀ w',Ext I mu w I mu w'->Rep w' I mu (.sref g i (len+news.length) cap te.sz) (.slice (some ⟨k,i*te.sz,none⟩) (len+news.length) cap):=fun w' _=>.sref _ _ _ _ _ k hk
   by_cases h0:news.length=0
   ·have hn0:news=[]:=A0w h0
    subst hn0
    have hv0:vs=[]:=A0w (by simpa using hrv.1)
    subst hv0
    have e1:(fun c=>AO c (h c) [(g,some (Blk.rows (Au es (i+len) []) te.sz))])=h:=by
     funext c
     simp only[AO,A0r,A0Z,Do]
     by_cases hc:g=c
     ·subst hc;rw[if_pos rfl,hg]
     ·rw[if_neg hc]
    refine⟨_,w,I,mu,?_,Ext.refl _ _ _,?_,hrep w (Ext.refl _ _ _)⟩
    ·show(Builtin.append_ #[t,t] ty #[_,_]).run P w=_
     rw[run];simp[storeCells,Result.andThen]
    ·have:=hr.less (fr':=fun b=>fr b/\b≠id) fun b hb=>hb.1
     rw[<-e1] at this
     exact this
   ·obtain⟨k',u,T,us',q1,q2,q3,q4,w',hrun,hext,hwr⟩:=Jb (P:=P) (r:=true) (i:=i+len) (es:=es) (sz:=te.sz) hr hg hrv (by omega) (Rt hpos hrv hone) (by omega) id
    rw[hk] at q1
    cases q1
    simp only[Ae,A03] at q2
    subst q2
    refine⟨_,w',I,mu,?_,hext,hwr,hrep w' hext⟩
    show(Builtin.append_ #[t,t] ty #[_,_]).run P w=_
    rw[run,hrun];rfl
 |false=>
  rw[hroom] at he
  have hroom':=of_decide_eq_false hroom
  simp only[cond_false,A03,A05] at he
  obtain⟨rfl,rfl⟩:=he
  obtain⟨hc',rfl,rfl,hpos,hlc,hle,hzl,hby,hln,hnw⟩:=hc
  have hg:h g=some (.rows es te.sz):=(hb g (by simp)).trans hx
  have hrows:∀ y ∈ (es.drop i).take len,y.length=te.sz:=by
   obtain⟨k,T,us,q1,q2,q3,q4,q5⟩:=hr.blk g _ hg
   intro y hy
   obtain⟨j,hj,rfl⟩:=A1n.1 (A0P (A1e hy))
   have:=q4 j hj
   simpa[nr,A02,hj] using this
  obtain⟨B,capB,vs,rfl,hrv,hB⟩:=C9 hn hc' hr hvx (fun b hb'=>hb b (by simp[hb'])) hpos hnw
  have hself:EP h (.sref g i len cap te.sz)=some ((es.drop i).take len,[g],te.sz=te.sz/\i+len<=es.length):=by simp[EP,hg]
  obtain⟨A',cap',us,hveq,hru,hA⟩:=C9 hself ⟨rfl,hle⟩ hr hvb (fun b _=>rfl) hpos hrows
  have hll:((es.drop i).take len).length=len:=by simp;omega
  rw[hll] at hveq
  cases hvb with
  |sref _ _ _ _ _ k hk=>
   simp only[A0N,true_and] at hveq
   obtain⟨rfl,rfl⟩:=hveq
   have r1:=(Dq (P:=P) (w:=w) (ty:=ty) (cap:=cap) (cap':=capB) hu g1 g3 (us:=us) (vs:=vs) (n:=len) (m:=news.length) (by rw[g4,hru.1,hll]) (by rw[g4];exact hrv.1) hA hB hlc (by omega) (by rw[g7];exact hby)).2 (by omega)
   generalize hcg:grownCap w (len+news.length) cap e'=gc at r1
   have hge:len+news.length<=gc:=by rw[<-hcg];exact grownCap_ge w _ _ _
   have hgm:gc<=maxLen:=by rw[<-hcg];exact grownCap_le_maxLen w _ _ _ (by simp only[maxLen];omega)
   have hap:=hru.append hrv
   have hlen2:((es.drop i).take len++news).length=len+news.length:=by rw[A04,hll]
   obtain⟨mu',q1,q2,q3⟩:=S2 (T:=e') (zs:=(Builtin.zeroCells z.cells (gc-(len+news.length))).toList) hr hid (by omega) hgm (by rw[hlen2];exact hge) (by
    have q3:(Builtin.zeroCells z.cells (gc-(len+news.length))).toList.length=(gc-(len+news.length))*te.sz:=by rw[A0T,size_zeroCells,hzs,hzl]
    rw[hap.1,hlen2,q3,<-A19]
    exact congrArg (· *te.sz) (by omega)) hap
   have hcells:us.toArray++vs.toArray++Builtin.zeroCells z.cells (gc-(len+news.length))=((us++vs)++(Builtin.zeroCells z.cells (gc-(len+news.length))).toList).toArray:=by
    apply Array.ext';simp
   rw[hcells] at r1
   rw[hlen2] at q2
   exact⟨_,_,I,mu',r1,q1,q3,.gref id _ _ gc q2⟩
def Ln(id:Nat)(hp:Nat->Option Blk)(te:TI):D->D->Res
 |.sref g i len cap sz,.val (.int _ m)=>match hp g with
  |some (.rows es sz')=>some (⟨.gref id (len+m.toNat),[(id,some (.grow ((es.drop i).take len++List.replicate m.toNat (te.zero.map ofV)) sz))],[g]⟩,
   sz=sz'/\sz=te.sz/\0<sz/\len<=cap/\i+len<=es.length/\te.zero.length=te.sz/\0<m/\(cap:Int)<len+m/\(len+m.toNat)*te.bytes<=140737488355328/\len+m.toNat<=1073741824)
  |_=>none
 |_,_=>none
theorem PL{t tn ty e':TypeId}{ti te tni:TI}{kn:IntKind}(ht:Ak P t=some ti)(hs:ti.sh=.slice e')(hte:Ak P e'=some te)(htn:Ak P tn=some tni)(hsn:tni.sh=.int kn){id:Nat}{hp:Nat->Option Blk}{db dx:D}{e:Eff}{c:Prop}(he:Ln id hp te db dx=some (e,c))(hc:c)
  (hr:Ap w0 M0 I0 fr I mu h w) (hid:fr id) {vb vx:Value} (hvb:Rep w I mu db vb) (hvx:Rep w I mu dx vx) (hb:∀ b ∈ e.rd,h b=hp b):AA P (fun w=>(Builtin.append_ #[t,tn] ty #[vb,vx]).run P w) id e.d e.up w0 M0 I0 fr I mu h w:=by
 obtain⟨inf,d,z,g1,g2,g3,g4,g5,g6,g7,g8⟩:=B9 hte
 have hu:=Aq ht hs
 have hzs:z.cells.size=te.zero.length:=by rw[<-g6];simp
 unfold Ln at he
 split at he
 case h_2=>cases he
 rename_i g i len cap sz kq m
 split at he
 case h_2=>cases he
 rename_i es sz' hx
 simp only[A03,A05] at he
 obtain⟨rfl,rfl⟩:=he
 obtain⟨rfl,rfl,hpos,hlc,hle,hzl,hm,hroom,hby,hln⟩:=hc
 have hg:h g=some (.rows es te.sz):=(hb g (by simp)).trans hx
 have hxv:=hvx.val_inv
 subst hxv
 have hrows:∀ y ∈ (es.drop i).take len,y.length=te.sz:=by
  obtain⟨k,T,us,q1,q2,q3,q4,q5⟩:=hr.blk g _ hg
  intro y hy
  obtain⟨j,hj,rfl⟩:=A1n.1 (A0P (A1e hy))
  have:=q4 j hj
  simpa[nr,A02,hj] using this
 have hself:EP h (.sref g i len cap te.sz)=some ((es.drop i).take len,[g],te.sz=te.sz/\i+len<=es.length):=by simp[EP,hg]
 obtain⟨A',cap',us,hveq,hru,hA⟩:=C9 hself ⟨rfl,hle⟩ hr hvb (fun b _=>rfl) hpos hrows
 have hll:((es.drop i).take len).length=len:=by simp;omega
 rw[hll] at hveq
 obtain⟨mn,rfl⟩:∃ mn:Nat,m=mn:=⟨m.toNat,by omega⟩
 simp only[Int.toNat_natCast] at hby hln|-
 cases hvb with
 |sref _ _ _ _ _ k hk=>
  simp only[A0N,true_and] at hveq
  obtain⟨rfl,rfl⟩:=hveq
  have hA':Fo w.drew (some ⟨k,i*te.sz,none⟩) us:=by
   rcases hA with rfl|⟨k,o,hko,hc⟩
   ·exact .inl rfl
   ·exact .inr ⟨k,o,hko,fun j u hj=>by simpa using hc j u hj⟩
  have hold:=Cs (P:=P) (w:=w.drew) (size:=inf.size) (n:=len) (A:=some ⟨k,i*te.sz,none⟩) (cap:=cap) (us:=us) (by rw[g4,hru.1,hll]) hA'
  have hfit:=growslice_fits (need:=len+mn) (old:=cap) (bytes:=inf.bytes) (by omega) (by rw[g7];exact hby)
  have hmb:mn*inf.bytes<=(len+mn)*inf.bytes:=A0f _ (by omega)
  have r1:=Lib.run_append_grow_zeros (P:=P) w t tn ty e' inf z kq kn hu (PA htn hsn) g1 g3 (some ⟨k,i*te.sz,none⟩) len cap us hold mn (by omega) (by rw[g4];exact hpos) (by omega) (by omega) (by rw[g7] at hmb|-;omega) (by omega)
  generalize hcg:grownCap w (len+mn) cap e'=gc at r1
  have hge:len+mn<=gc:=by rw[<-hcg];exact grownCap_ge w _ _ _
  have hgm:gc<=maxLen:=by rw[<-hcg];exact grownCap_le_maxLen w _ _ _ (by simp only[maxLen];omega)
  have hzr:=JW (w:=w) (I:=I) (mu:=mu) hzl mn
  have hap:=hru.append hzr
  have hlen2:((es.drop i).take len++List.replicate mn (te.zero.map ofV)).length=len+mn:=by rw[A04,hll,A1a]
  have hzc':z.cells=te.zero.toArray:=by apply Array.ext';simpa using g6
  have hzm:Builtin.zeroCells z.cells mn=((List.range (mn*te.sz)).map fun m=>nv te.zero (m%te.sz)).toArray:=by
   have:=J2 hzl mn z.cells hzc'
   unfold Builtin.zeroCells
   rw[show mn*z.cells.size=mn*te.sz by rw[hzs,hzl],this]
  obtain⟨mu',q1,q2,q3⟩:=S2 (T:=e') (zs:=(Builtin.zeroCells z.cells (gc-(len+mn))).toList) hr hid (by omega) hgm (by rw[hlen2];exact hge) (by
   have q3:(Builtin.zeroCells z.cells (gc-(len+mn))).toList.length=(gc-(len+mn))*te.sz:=by rw[A0T,size_zeroCells,hzs,hzl]
   rw[hap.1,hlen2,q3,<-A19]
   exact congrArg (· *te.sz) (by omega)) hap
  have hcells:us.toArray++Builtin.zeroCells z.cells mn++Builtin.zeroCells z.cells (gc-(len+mn))=((us++(List.range (mn*te.sz)).map fun m=>nv te.zero (m%te.sz))++(Builtin.zeroCells z.cells (gc-(len+mn))).toList).toArray:=by
   rw[hzm];apply Array.ext';simp
  rw[hcells] at r1
  rw[hlen2] at q2
  exact⟨_,_,I,mu',r1,q1,q3,.gref id _ _ gc q2⟩
def PH(hp:Nat->Option Blk)(ti:TI):D->Option D->Option D->D->Res
 |.sref _ _ len cap _,lo,hi,.val (.int _ m)=>match ti.sh,bnd lo 0,bnd hi len with
  |.slice _,some l,some r=>pvc .any (0<=l/\l<=r/\r<=m/\m<=cap/\hi.isSome=true)
  |_,_,_=>none
 |_,_,_,_=>none
theorem Rp{t e':TypeId}{ti te:TI}(ht:Ak P t=some ti)(hs:ti.sh=.slice e')(hte:Ak P e'=some te){hp:Nat->Option Blk}{x m:D}{lo hi:Option D}{e:Eff}{c:Prop}(he:PH hp ti x lo hi m=some (e,c))(hc:c)(hr:Ap w0 M0 I0 fr I mu h w){v vm:Value}{vl vh:Option Value}
  (hv:Rep w I mu x v) (hl:Ef w I mu lo vl) (hh:Ef w I mu hi vh) (hm:Rep w I mu m vm) (id:Nat):
  AA P (fun w=>(Instr.sliceAt t v vl vh (some vm)).run P w) id e.d e.up w0 M0 I0 fr I mu h w:=by
 have hu:=Aq ht hs
 unfold PH at he
 split at he
 case h_2=>cases he
 rename_i b i len cap sz km mm
 split at he
 case h_2=>cases he
 rename_i e'' l r hsh hbl hbr
 simp only[pvc,A03,A05] at he
 obtain⟨rfl,rfl⟩:=he
 obtain⟨h0,h1,h2,h3,h4⟩:=hc
 have hmv:=hm.val_inv
 subst hmv
 cases hv with
 |sref _ _ _ _ _ k hk=>
  obtain⟨ln,rfl⟩:∃ n:Nat,l=n:=⟨l.toNat,by omega⟩
  obtain⟨rn,rfl⟩:∃ n:Nat,r=n:=⟨r.toNat,by omega⟩
  obtain⟨mn,rfl⟩:∃ n:Nat,mm=n:=⟨mm.toNat,by omega⟩
  have hh':∃ k,vh=some (.int k rn):=by
   rcases CO hbr hh with⟨q,_,_⟩|⟨k,q,_⟩
   ·rw[q] at h4;cases h4
   ·exact⟨k,q⟩
  obtain⟨kh,rfl⟩:=hh'
  have hlow:vl=none/\ln=0∨∃ k,vl=some (.int k ln):=by
   rcases CO hbl hl with⟨_,q2,q1⟩|⟨k,q,_⟩
   ·exact .inl ⟨q2,by omega⟩
   ·exact .inr ⟨k,q⟩
  refine AA.same hr (.slice (if mn=ln then some ⟨k,i*sz,none⟩ else some (Addr.add ⟨k,i*sz,none⟩ (ln*te.sz))) (rn-ln) (mn-ln)) ?_ (.any _)
  rcases hlow with⟨rfl,rfl⟩|⟨kl,rfl⟩
  ·simp[Instr.sliceAt,Instr.slice,run_underlying hu,Instr.sliceBounds,run_sliceBound,AS hte,h1,h2,h3]
  ·simp[Instr.sliceAt,Instr.slice,run_underlying hu,Instr.sliceBounds,run_sliceBound,AS hte,h0,h1,h2,h3]
end
def nilE:D->Res
 |.ptr cs off=>pv (.ptr cs off)
 |.ref b i off sz=>pv (.ref b i off sz)
 |.func (.func f) fs cs=>pv (.func (.func f) fs cs)
 |_=>none
def tq(P:Program)(t:TypeId)(k:TI->Res):Res:=
 match Ak P t with
 |some ti=>k ti
 |none=>none
def HY(P:Program)(t:TypeId)(k:TI->TI->Res):Res:=tq P t fun ti=>match ti.sh with
 |.slice e=>tq P e fun te=>k ti te
 |_=>none
theorem BG{P:Program}{t:TypeId}{k:TI->Res}{e:Eff}{c:Prop}(h:tq P t k=some (e,c)):∃ ti,Ak P t=some ti/\k ti=some (e,c):=by
 unfold tq at h
 split at h
 ·rename_i ti ht;exact⟨ti,ht,h⟩
 ·cases h
theorem CL{P:Program}{t:TypeId}{k:TI->TI->Res}{e:Eff}{c:Prop}(h:HY P t k=some (e,c)):∃ ti te e',Ak P t=some ti/\ti.sh=.slice e'/\Ak P e'=some te/\k ti te=some (e,c):=by
 obtain⟨ti,h1,h2⟩:=BG h
 split at h2
 ·rename_i e' hs
  obtain⟨te,h3,h4⟩:=BG h2
  exact⟨ti,te,e',h1,hs,h3,h4⟩
 ·cases h2
def TW(P:Program)(t:TypeId)(k:TI->TI->Res):Res:=tq P t fun tm=>match tm.sh with
 |.map tk e=>tq P tk fun ti=>tq P e fun te=>k ti te
 |_=>none
theorem FA{P:Program}{t:TypeId}{k:TI->TI->Res}{e:Eff}{c:Prop}(h:TW P t k=some (e,c)):∃ tm ti te tk e',Ak P t=some tm/\tm.sh=.map tk e'/\Ak P tk=some ti/\Ak P e'=some te/\k ti te=some (e,c):=by
 obtain⟨tm,h1,h2⟩:=BG h
 split at h2
 ·rename_i tk e' hs
  obtain⟨ti,h3,h4⟩:=BG h2
  obtain⟨te,h5,h6⟩:=BG h4
  exact⟨tm,ti,te,tk,e',h1,hs,h3,h5,h6⟩
 ·cases h2
def arrQ(P:Program)(t:TypeId)(k:Nat->TI->Res)(d:Res):Res:=match Ak P t with
 |some ti=>match ti.sh with
  |.arr n e=>tq P e (k n)
  |_=>d
 |none=>d
theorem XU{P:Program}{t:TypeId}{k:Nat->TI->Res}{d:Res}{e:Eff}{c:Prop}(h:arrQ P t k d=some (e,c)):d=some (e,c)∨∃ ti te n e',Ak P t=some ti/\ti.sh=.arr n e'/\Ak P e'=some te/\k n te=some (e,c):=by
 unfold arrQ at h
 split at h
 ·rename_i ti ht
  split at h
  ·rename_i n e' hs
   obtain⟨te,h3,h4⟩:=BG h
   exact .inr ⟨ti,te,n,e',ht,hs,h3,h4⟩
  ·exact .inl h
 ·exact .inl h
def arrE(n:Nat)(te:TI):D->D->Res
 |.ref b i off sz,.val (.int _ k)=>pvc (.ref b i (off+k.toNat*te.sz) sz) (0<=k/\k<n)
 |.ptr cs off,.val (.int _ k)=>pvc (.ptr cs (off+k.toNat*te.sz)) (0<=k/\k<n)
 |_,_=>none
theorem Yx{P:Program}{w0:World}{M0:Nat->Prop}{I0:Gh}{fr I:Nat->Prop}{mu:Nat->Option Value}{h:Nat->Option Blk}{w:World}{t e':TypeId}{ti te:TI}{n:Nat}(ht:Ak P t=some ti)(hs:ti.sh=.arr n e')(hte:Ak P e'=some te){d i:D}{e:Eff}{c:Prop}(he:arrE n te d i=some (e,c))(hc:c)
  (hr:Ap w0 M0 I0 fr I mu h w) {v x:Value} (hv:Rep w I mu d v) (hx:Rep w I mu i x) (id:Nat):AA P (fun w=>(Instr.indexAt t v x).run P w) id e.d e.up w0 M0 I0 fr I mu h w:=by
 have hu:=ti_arr ht hs
 unfold arrE at he
 split at he
 ·rename_i b j off sz kk k
  simp only[pvc,A03,A05] at he
  obtain⟨rfl,rfl⟩:=he
  obtain⟨h0,h1⟩:=hc
  have hxv:=hx.val_inv
  subst hxv
  cases hv with
  |ref _ _ _ _ k0 hk=>
   have:=Rep.ref (w:=w) (I:=I) b j (off+k.toNat*te.sz) sz k0 hk
   rw[<-A1l] at this
   refine AA.same hr _ ?_ this
   simp[Instr.indexAt,asIntOf,run_underlying hu,AS hte,h0,h1,BM,Instr.sureAddr,Result.andThen]
 ·rename_i cs off kk k
  simp only[pvc,A03,A05] at he
  obtain⟨rfl,rfl⟩:=he
  obtain⟨h0,h1⟩:=hc
  have hxv:=hx.val_inv
  subst hxv
  cases hv with
  |ptr _ _ k0 o u hI hcell hrep=>
   have:=Rep.ptr (w:=w) (I:=I) (mu:=mu) cs (off+k.toNat*te.sz) k0 o u hI hcell hrep
   rw[<-A1l] at this
   refine AA.same hr _ ?_ this
   simp[Instr.indexAt,asIntOf,run_underlying hu,AS hte,h0,h1,BM,Instr.sureAddr,Result.andThen]
 ·cases he
theorem XV{P:Program}{t t' ty e e':TypeId}(h:P.underlying t=some (.slice e))(h':P.underlying t'=some (.slice e'))(x y:Value)(w:World):(Builtin.append_ #[t,t'] ty #[x,y]).run P w=(Builtin.append_ #[t,t] ty #[x,y]).run P w:=by
 cases x<;>simp [Builtin.append_,run_underlying h,run_underlying h',Result.andThen]
def JU(id:Nat)(hp:Nat->Option Blk)(te:TI):D->D->Res
 |.sref g i len cap sz,x=>Lo id hp te g i len cap sz x
 |.slice es t,x=>JV id hp te (.slice es t) x
 |.gref g len,x=>JV id hp te (.gref g len) x
 |_,_=>none
def Vs(P:Program)(id:Nat)(ev:Operand->D)(hp:Nat->Option Blk)(b:Builtin)(args:List Operand)(ts:List TypeId):Res:=
 match b,args,ts with
 |.len,[x],[t]=>tq P t fun ti=>lenE hp ti (ev x)
 |.min,[x,y],_=>minE (ev x) (ev y)
 |.max,[x,y],_=>maxE (ev x) (ev y)
 |.append,[x,y],[t,t']=>if t=t' then HY P t fun _ te=>JU id hp te (ev x) (ev y) else HY P t fun _ te=>tq P t' fun tn=>match tn.sh with
  |.int _=>Ln id hp te (ev x) (ev y)
  |.slice _=>JU id hp te (ev x) (ev y)
  |_=>none
 |.copy,[x,y],[t,_]=>HY P t fun _ te=>Vq hp te (ev x) (ev y)
 |.clear,[x],[t]=>HY P t fun _ te=>Qn hp te (ev x)
 |.cap,[x],[t]=>tq P t fun ti=>capE ti (ev x)
 |.delete,[x,y],[t,_]=>TW P t fun ti _=>delE hp ti.sh (ev x) (ev y)
 |_,_,_=>none
def A01(P:Program)(id:Nat)(ev:Operand->D)(hp:Nat->Option Blk)(op:Op):Res:=
 match op with
 |.move x=>pv (ev x)
 |.assign x=>pv (ev x)
 |.alloc t=>tq P t fun ti=>QE id ti
 |.box _ x=>boxE id (ev x)
 |.build t ps=>tq P t fun ti=>Qy ti (ps.toList.map fun p=>(p.1,ev p.2))
 |.buildSlice t n ps=>HY P t fun _ te=>Lm id te n (ps.toList.map fun p=>(p.1,ev p.2))
 |.load t a=>tq P t fun ti=>HV ti hp (ev a)
 |.store t a x=>tq P t fun ti=>J5 ti hp (ev a) (ev x)
 |.nilCheck x=>nilE (ev x)
 |.binOp op T x y _=>binX P op T (ev x) y (ev y)
 |.unOp op _ x=>unE op (ev x)
 |.convert s d x=>tq P s fun ts=>tq P d fun td=>Vr ts td (ev x)
 |.field t x i=>tq P t fun ti=>Ml ti i (ev x)
 |.fieldAddr t x i=>tq P t fun ti=>G7 ti i (ev x)
 |.indexAddr t x i=>arrQ P t (fun n te=>arrE n te (ev x) (ev i)) (HY P t fun _ te=>G5 hp te (ev x) (ev i))
 |.index t x i=>tq P t fun ti=>Qc ti (ev x) (ev i)
 |.slice t x lo hi none=>tq P t fun ti=>match ti.sh with
  |.str=>Lx hp ti ti (ev x) (lo.map ev) (hi.map ev)
  |.slice e=>tq P e fun te=>Lx hp ti te (ev x) (lo.map ev) (hi.map ev)
  |_=>none
 |.slice t x lo hi (some m)=>HY P t fun ti te=>PH hp ti (ev x) (lo.map ev) (hi.map ev) (ev m)
 |.extract x i=>H4 i (ev x)
 |.makeSlice t l c=>HY P t fun _ te=>V9 id te (ev l) (ev c)
 |.makeFunc fn fs cs=>pv (.func fn (fs.toList.map ev) (cs.toList.map ev))
 |.makeInterface t x=>pvc (.iface t (ev x)) (P.concrete t=true)
 |.makeMap _ none=>mapE id
 |.lookup t x i ok=>TW P t fun ti te=>Vb hp ti.sh te ok (ev x) (ev i)
 |.mapUpdate t m k x=>TW P t fun ti _=>T7 hp ti.sh (ev m) (ev k) (ev x)
 |.insert t m k x=>TW P t fun ti _=>T7 hp ti.sh (ev m) (ev k) (ev x)
 |.range t x=>TW P t fun _ _=>PO id hp (ev x)
 |.entry x=>Qi hp (ev x)
 |.call c=>match c.callee with
  |.builtin b=>Vs P id ev hp b c.args.toList c.argTypes.toList
  |_=>none
 |_=>none
theorem BL{P:Program}(s:Sem Value)(w:World):(do pure (Next.value (<-s)):Sem Next).run P w=(s.run P w).andThen fun v w'=>.ok (.value v) w':=by simp
theorem Rr{P:Program}(s:Sem Unit)(w:World):(do s;pure Next.skip:Sem Next).run P w=(s.run P w).andThen fun _ w'=>.ok .skip w':=by simp
section
variable{P:Program}{id:Nat}{ev:Operand->D}{hp:Nat->Option Blk}{dst:Option Tmp}{T:TypeId}{pos:String}{af:Array Edge}{gd:Option (Nat×Bool)}{e:Eff}{c:Prop}
theorem Nr{w:World}{I:Nat->Prop}{mu:Nat->Option Value}{ps:Array (Nat×Operand)}{a:Act}(hx:∀ x,x ∈ (ps.toList.map (·.2)).toArray->Rep w I mu (ev x) (a.eval x)):
  (ps.toList.map fun p=>(p.1,a.eval p.2)).length=(ps.toList.map fun p=>(p.1,ev p.2)).length/\
  ∀(i:Nat) (p:Nat×D) (q:Nat×Value),(ps.toList.map fun p=>(p.1,ev p.2))[i]? =some p->(ps.toList.map fun p=>(p.1,a.eval p.2))[i]? =some q->p.1=q.1/\Rep w I mu p.2 q.2:=by
 refine⟨by simp,fun i p q hp hq=>?_⟩
 simp only[A0x,A1z] at hp hq
 obtain⟨x,hx1,rfl⟩:=hp
 obtain⟨y,hy1,rfl⟩:=hq
 rw[hx1] at hy1
 cases hy1
 have hm:=A1G hx1
 exact⟨rfl,hx x.2 (by simp;exact⟨x.1,by simpa using hm⟩)⟩
theorem Xn{b:Builtin}{args:Array Operand}{ts:Array TypeId}(he:Vs P id ev hp b args.toList ts.toList=some (e,c))(hc:c):AC P ⟨dst,.call {callee:=.builtin b,args:=args,argTypes:=ts},T,pos,af,gd⟩ id ev hp e:=by
 have hops:∀ x,x ∈ args.toList->x ∈ (Op.call {callee:=.builtin b,args:=args,argTypes:=ts}).operands:=fun x hx=>by simpa[Op.operands,Call.operands] using hx
 have hex:∀ (a:Act) (w:World) (F:Array Value->Sem Value),(∀ cs,builtin b ts T cs (args.map a.eval)=do pure (.value (<-F (args.map a.eval))))->
   (execOp a.eval ⟨dst,.call {callee:=.builtin b,args:=args,argTypes:=ts},T,pos,af,gd⟩).run P w=((F (args.map a.eval)).run P w).andThen fun v w'=>.ok (.value v) w':=by
  intro a w F hF
  simp only[execOp,resolve,A0e,A0j,Result.andThen,invoke]
  rw[hF]
  exact BL _ w
 unfold Vs at he
 split at he
 ·rename_i x t ha hts
  obtain⟨ti,ht,he⟩:=BG he
  refine AC.of_runs (fun ρ=>Builtin.len_ ts T (args.map ρ)) (fun a w=>hex a w (fun vs=>Builtin.len_ ts T vs) fun _=>rfl) ?_
  intro w0 M0 I0 fr I mu h a w hw _ hx hb
  have e1:args.map a.eval=#[a.eval x]:=by apply Array.ext';simp[ha]
  have e2:ts=#[t]:=by apply Array.ext';simpa using hts
  rw[e1,e2]
  exact Ys ht he hc hw (hx x (hops x (by simp[ha]))) hb id
 ·rename_i x y ha
  refine AC.of_runs (fun ρ=>Builtin.min_ ts T (args.map ρ)) (fun a w=>hex a w (fun vs=>Builtin.min_ ts T vs) fun _=>rfl) ?_
  intro w0 M0 I0 fr I mu h a w hw _ hx hb
  have e1:args.map a.eval=#[a.eval x,a.eval y]:=by apply Array.ext';simp[ha]
  rw[e1]
  exact Yq he hw (hx x (hops x (by simp[ha]))) (hx y (hops y (by simp[ha]))) id
 ·rename_i x y ha
  refine AC.of_runs (fun ρ=>Builtin.max_ ts T (args.map ρ)) (fun a w=>hex a w (fun vs=>Builtin.max_ ts T vs) fun _=>rfl) ?_
  intro w0 M0 I0 fr I mu h a w hw _ hx hb
  have e1:args.map a.eval=#[a.eval x,a.eval y]:=by apply Array.ext';simp[ha]
  rw[e1]
  exact Yr he hw (hx x (hops x (by simp[ha]))) (hx y (hops y (by simp[ha]))) id
 ·rename_i x y t t' ha hts
  split at he
  ·rename_i htt
   subst htt
   obtain⟨ti,te,e',ht,hs,hte,he⟩:=CL he
   refine AC.of_runs (fun ρ=>Builtin.append_ ts T (args.map ρ)) (fun a w=>hex a w (fun vs=>Builtin.append_ ts T vs) fun _=>rfl) ?_
   intro w0 M0 I0 fr I mu h a w hw hid hx hb
   have e1:args.map a.eval=#[a.eval x,a.eval y]:=by apply Array.ext';simp[ha]
   have e2:ts=#[t,t]:=by apply Array.ext';simpa using hts
   rw[e1,e2]
   have hxx:=hx x (hops x (by simp[ha]))
   unfold JU at he
   split at he
   ·rename_i hev
    rw[hev] at hxx
    exact Jq ht hs hte he hc hw hid hxx (hx y (hops y (by simp[ha]))) hb
   ·rename_i hev
    rw[hev] at hxx
    exact F6 ht hs hte he hc hw hid hxx (hx y (hops y (by simp[ha]))) hb
   ·rename_i hev
    rw[hev] at hxx
    exact F6 ht hs hte he hc hw hid hxx (hx y (hops y (by simp[ha]))) hb
   ·cases he
  ·obtain⟨ti,te,e',ht,hs,hte,he⟩:=CL he
   obtain⟨tn,htn,he⟩:=BG he
   split at he
   ·rename_i kn hsn
    refine AC.of_runs (fun ρ=>Builtin.append_ ts T (args.map ρ)) (fun a w=>hex a w (fun vs=>Builtin.append_ ts T vs) fun _=>rfl) ?_
    intro w0 M0 I0 fr I mu h a w hw hid hx hb
    have e1:args.map a.eval=#[a.eval x,a.eval y]:=by apply Array.ext';simp[ha]
    have e2:ts=#[t,t']:=by apply Array.ext';simpa using hts
    rw[e1,e2]
    exact PL ht hs hte htn hsn he hc hw hid (hx x (hops x (by simp[ha]))) (hx y (hops y (by simp[ha]))) hb
   ·rename_i en hsn
    refine AC.of_runs (fun ρ=>Builtin.append_ ts T (args.map ρ)) (fun a w=>hex a w (fun vs=>Builtin.append_ ts T vs) fun _=>rfl) ?_
    intro w0 M0 I0 fr I mu h a w hw hid hx hb
    have e1:args.map a.eval=#[a.eval x,a.eval y]:=by apply Array.ext';simp[ha]
    have e2:ts=#[t,t']:=by apply Array.ext';simpa using hts
    rw[e1,e2]
    have e3:∀ w,(Builtin.append_ #[t,t'] T #[a.eval x,a.eval y]).run P w=(Builtin.append_ #[t,t] T #[a.eval x,a.eval y]).run P w:=fun w=>XV (Aq ht hs) (Aq htn hsn) _ _ w
    simp only[e3]
    have hxx:=hx x (hops x (by simp[ha]))
    unfold JU at he
    split at he
    ·rename_i hev
     rw[hev] at hxx
     exact Jq ht hs hte he hc hw hid hxx (hx y (hops y (by simp[ha]))) hb
    ·rename_i hev
     rw[hev] at hxx
     exact F6 ht hs hte he hc hw hid hxx (hx y (hops y (by simp[ha]))) hb
    ·rename_i hev
     rw[hev] at hxx
     exact F6 ht hs hte he hc hw hid hxx (hx y (hops y (by simp[ha]))) hb
    ·cases he
   ·cases he
 ·rename_i x y t t' ha hts
  obtain⟨ti,te,e',ht,hs,hte,he⟩:=CL he
  refine AC.of_runs (fun ρ=>Builtin.copy_ ts T (args.map ρ)) (fun a w=>hex a w (fun vs=>Builtin.copy_ ts T vs) fun _=>rfl) ?_
  intro w0 M0 I0 fr I mu h a w hw hid hx hb
  have e1:args.map a.eval=#[a.eval x,a.eval y]:=by apply Array.ext';simp[ha]
  have e2:ts=#[t,t']:=by apply Array.ext';simpa using hts
  rw[e1]
  exact Wl ht hs hte (by rw[e2];rfl) he hc hw (hx x (hops x (by simp[ha]))) (hx y (hops y (by simp[ha]))) hb id
 ·rename_i x t ha hts
  obtain⟨ti,te,e',ht,hs,hte,he⟩:=CL he
  refine AC.of_runs (fun ρ=>Builtin.clear_ ts T (args.map ρ)) (fun a w=>hex a w (fun vs=>Builtin.clear_ ts T vs) fun _=>rfl) ?_
  intro w0 M0 I0 fr I mu h a w hw hid hx hb
  have e1:args.map a.eval=#[a.eval x]:=by apply Array.ext';simp[ha]
  have e2:ts=#[t]:=by apply Array.ext';simpa using hts
  rw[e1]
  exact Tz ht hs hte (by rw[e2];rfl) he hc hw (hx x (hops x (by simp[ha]))) hb id
 ·rename_i x t ha hts
  obtain⟨ti,ht,he⟩:=BG he
  refine AC.of_runs (fun ρ=>Builtin.cap_ ts T (args.map ρ)) (fun a w=>hex a w (fun vs=>Builtin.cap_ ts T vs) fun _=>rfl) ?_
  intro w0 M0 I0 fr I mu h a w hw hid hx hb
  have e1:args.map a.eval=#[a.eval x]:=by apply Array.ext';simp[ha]
  have e2:ts=#[t]:=by apply Array.ext';simpa using hts
  rw[e1,e2]
  exact Yu ht he hc hw (hx x (hops x (by simp[ha]))) id
 ·rename_i x y t t' ha hts
  obtain⟨tm,ti,te,tk,e',ht,hs,htk,hte,he⟩:=FA he
  refine AC.of_runs (fun ρ=>Builtin.delete_ ts T (args.map ρ)) (fun a w=>hex a w (fun vs=>Builtin.delete_ ts T vs) fun _=>rfl) ?_
  intro w0 M0 I0 fr I mu h a w hw hid hx hb
  have e1:args.map a.eval=#[a.eval x,a.eval y]:=by apply Array.ext';simp[ha]
  have e2:ts=#[t,t']:=by apply Array.ext';simpa using hts
  rw[e1]
  exact Yt ht hs htk he hc hw (by rw[e2];rfl) (hx x (hops x (by simp[ha]))) (hx y (hops y (by simp[ha]))) hb id
 ·cases he
theorem FU{w:World}{I:Nat->Prop}{mu:Nat->Option Value}{o:Option Operand}{a:Act}(h:∀ x,o=some x->Rep w I mu (ev x) (a.eval x)):Ef w I mu (o.map ev) (o.map a.eval):=by
 cases o with
 |none=>trivial
 |some x=>exact h x rfl
theorem To{op:Op}(he:A01 P id ev hp op=some (e,c))(hc:c):AC P ⟨dst,op,T,pos,af,gd⟩ id ev hp e:=by
 cases op<;>simp only[A01] at he<;>try (cases he;done)
 case move x=>simp only[pv,A03,A05] at he;obtain⟨rfl,rfl⟩:=he;exact Xh x
 case assign x=>simp only[pv,A03,A05] at he;obtain⟨rfl,rfl⟩:=he;exact Ss x
 case alloc t=>
  obtain⟨ti,ht,he⟩:=BG he
  exact AC.of_runs (fun _=>Instr.alloc t true (.tuple #[])) (fun a w=>BL _ w) fun w0 M0 I0 fr I mu h a w hw hid hx hb=>TB ht he hc hw hid
 case box t x=>
  exact AC.of_runs (fun ρ=>Instr.box t (ρ x)) (fun a w=>BL _ w) fun w0 M0 I0 fr I mu h a w hw hid hx hb=>Yv he hw hid (hx x (by simp[Op.operands]))
 case build t ps=>
  obtain⟨ti,ht,he⟩:=BG he
  refine AC.of_runs (fun ρ=>Instr.build t (ps.toList.map fun p=>(p.1,ρ p.2)).toArray) (fun a w=>?_) fun w0 M0 I0 fr I mu h a w hw hid hx hb=>?_
  ·have:(ps.map fun(i,x)=>(i,a.eval x))=(ps.toList.map fun p=>(p.1,a.eval p.2)).toArray:=by apply Array.ext';simp
   simp only[execOp]
   rw[this]
   exact BL _ w
  ·have:=Nr (ev:=ev) (ps:=ps) (a:=a) (fun x hx'=>hx x (by simpa[Op.operands] using hx'))
   exact TA ht he hc hw _ this.1 this.2 id
 case buildSlice t n ps=>
  obtain⟨ti,te,e',ht,hs,hte,he⟩:=CL he
  refine AC.of_runs (fun ρ=>Instr.buildSlice t n (ps.toList.map fun p=>(p.1,ρ p.2)).toArray) (fun a w=>?_) fun w0 M0 I0 fr I mu h a w hw hid hx hb=>?_
  ·have:(ps.map fun(i,x)=>(i,a.eval x))=(ps.toList.map fun p=>(p.1,a.eval p.2)).toArray:=by apply Array.ext';simp
   simp only[execOp]
   rw[this]
   exact BL _ w
  ·have:=Nr (ev:=ev) (ps:=ps) (a:=a) (fun x hx'=>hx x (by simpa[Op.operands] using hx'))
   exact Rq ht hs hte he hc hw hid _ this.1 this.2
 case load t x=>
  obtain⟨ti,ht,he⟩:=BG he
  exact AC.of_runs (fun ρ=>Instr.loadAt t (ρ x)) (fun a w=>BL _ w) fun w0 M0 I0 fr I mu h a w hw hid hx hb=>Wk ht he hc hw (hx x (by simp[Op.operands])) hb id
 case store t x y=>
  obtain⟨ti,ht,he⟩:=BG he
  have hd:e.d=.any:=by
   unfold J5 at he
   split at he
   ·split at he
    ·split at he
     ·simp only[A03,A05] at he;obtain⟨rfl,_⟩:=he;rfl
     ·cases he
    ·cases he
   ·split at he
    ·split at he
     ·simp only[A03,A05] at he;obtain⟨rfl,_⟩:=he;rfl
     ·cases he
    ·cases he
   ·cases he
  have he':e=⟨.any,e.up,e.rd⟩:=by cases e;simp at hd;simp[hd]
  rw[he']
  exact AC.of_runs_u (fun ρ=>Instr.storeAt t (ρ x) (ρ y)) (fun a w=>Rr _ w) fun w0 M0 I0 fr I mu h a w hw hid hx hb=>(Tt ht he hc hw (hx x (by simp[Op.operands])) (hx y (by simp[Op.operands])) hb id).2
 case nilCheck x=>
  unfold nilE at he
  split at he<;>first|(cases he;done)|skip
  all_goals
   rename_i hd
   simp only[pv,A03,A05] at he
   obtain⟨rfl,rfl⟩:=he
   refine AC.quiet fun _ _ _ _ I mu _ a w _ hx _=>⟨a.eval x,?_,?_⟩
   ·have hx':=hx x (by simp[Op.operands])
    rw[hd] at hx'
    simp only[execOp]
    generalize a.eval x=v at hx'|-
    cases hx'<;>rfl
   ·have hx':=hx x (by simp[Op.operands])
    rw[hd] at hx'
    exact hx'
 case binOp op t x y t'=>
  unfold binX at he
  split at he
  ·exact AC.of_runs (fun ρ=>do eqGuard op t x (.const (.slice none 0 0)) (ρ x) (.slice none 0 0);binOp op t (ρ x) (.slice none 0 0)) (fun a w=>BL _ w) fun w0 M0 I0 fr I mu h a w hw hid hx hb=>Wg he hw (hx x (by simp[Op.operands])) id
  ·exact AC.of_runs (fun ρ=>do eqGuard op t x (.const (.map none)) (ρ x) (.map none);binOp op t (ρ x) (.map none)) (fun a w=>BL _ w) fun w0 M0 I0 fr I mu h a w hw hid hx hb=>Wh he hw (hx x (by simp[Op.operands])) id
  ·exact AC.of_runs (fun ρ=>do eqGuard op t x y (ρ x) (ρ y);binOp op t (ρ x) (ρ y)) (fun a w=>BL _ w) fun w0 M0 I0 fr I mu h a w hw hid hx hb=>Yw he hc hw (hx x (by simp[Op.operands])) (hx y (by simp[Op.operands])) id
 case unOp op t x=>
  exact AC.of_runs (fun ρ=>Op.unary op (ρ x)) (fun a w=>BL _ w) fun w0 M0 I0 fr I mu h a w hw hid hx hb=>runs_un he hw (hx x (by simp[Op.operands])) id
 case convert s d x=>
  obtain⟨ts,hts,he⟩:=BG he
  obtain⟨td,htd,he⟩:=BG he
  exact AC.of_runs (fun ρ=>convert s d (ρ x)) (fun a w=>BL _ w) fun w0 M0 I0 fr I mu h a w hw hid hx hb=>Wm hts htd he hw (hx x (by simp[Op.operands])) id
 case field t x i=>
  obtain⟨ti,ht,he⟩:=BG he
  exact AC.of_runs (fun ρ=>Instr.field t (ρ x) i) (fun a w=>BL _ w) fun w0 M0 I0 fr I mu h a w hw hid hx hb=>Tx ht he hc hw (hx x (by simp[Op.operands])) id
 case fieldAddr t x i=>
  obtain⟨ti,ht,he⟩:=BG he
  exact AC.of_runs (fun ρ=>Instr.fieldAt t (ρ x) i) (fun a w=>BL _ w) fun w0 M0 I0 fr I mu h a w hw hid hx hb=>LF ht he hc hw (hx x (by simp[Op.operands])) id
 case indexAddr t x i=>
  rcases XU he with he|⟨ti,te,n,e',ht,hs,hte,he⟩
  rotate_left
  ·exact AC.of_runs (fun ρ=>Instr.indexAt t (ρ x) (ρ i)) (fun a w=>BL _ w) fun w0 M0 I0 fr I mu h a w hw hid hx hb=>Yx ht hs hte he hc hw (hx x (by simp[Op.operands])) (hx i (by simp[Op.operands])) id
  obtain⟨ti,te,e',ht,hs,hte,he⟩:=CL he
  exact AC.of_runs (fun ρ=>Instr.indexAt t (ρ x) (ρ i)) (fun a w=>BL _ w) fun w0 M0 I0 fr I mu h a w hw hid hx hb=>LE (ti:=ti) ht hs hte he hc hw (hx x (by simp[Op.operands])) (hx i (by simp[Op.operands])) hb id
 case index t x i=>
  obtain⟨ti,ht,he⟩:=BG he
  exact AC.of_runs (fun ρ=>Instr.index t (ρ x) (ρ i)) (fun a w=>BL _ w) fun w0 M0 I0 fr I mu h a w hw hid hx hb=>Tw ht he hc hw (hx x (by simp[Op.operands])) (hx i (by simp[Op.operands])) id
 case slice t x lo hi mx=>
  cases mx with
  |some m=>
   simp only at he
   obtain⟨ti,te,e',ht,hs,hte,he⟩:=CL he
   refine AC.of_runs (fun ρ=>Instr.sliceAt t (ρ x) (lo.map ρ) (hi.map ρ) (some (ρ m))) (fun a w=>BL _ w) fun w0 M0 I0 fr I mu h a w hw hid hx hb=>?_
   have hlo:Ef w I mu (lo.map ev) (lo.map a.eval):=FU fun y hy=>hx y (by simp[Op.operands,hy])
   have hhi:Ef w I mu (hi.map ev) (hi.map a.eval):=FU fun y hy=>hx y (by simp[Op.operands,hy])
   exact Rp ht hs hte he hc hw (hx x (by simp[Op.operands])) hlo hhi (hx m (by simp[Op.operands])) id
  |none=>
   simp only at he
   obtain⟨ti,ht,he⟩:=BG he
   refine AC.of_runs (fun ρ=>Instr.sliceAt t (ρ x) (lo.map ρ) (hi.map ρ) none) (fun a w=>BL _ w) fun w0 M0 I0 fr I mu h a w hw hid hx hb=>?_
   have hlo:Ef w I mu (lo.map ev) (lo.map a.eval):=FU fun y hy=>hx y (by simp[Op.operands,hy])
   have hhi:Ef w I mu (hi.map ev) (hi.map a.eval):=FU fun y hy=>hx y (by simp[Op.operands,hy])
   split at he
   ·rename_i hsh
    exact KH (e':=0) ht (.inl ⟨_,rfl,hsh⟩) id he hc hw (hx x (by simp[Op.operands])) hlo hhi hb
   ·rename_i e' hsh
    obtain⟨te,hte,he⟩:=BG he
    exact KH ht (.inr ⟨hsh,hte⟩) id he hc hw (hx x (by simp[Op.operands])) hlo hhi hb
   ·cases he
 case extract x i=>
  exact AC.of_runs (fun ρ=>Instr.extract (ρ x) i) (fun a w=>BL _ w) fun w0 M0 I0 fr I mu h a w hw hid hx hb=>PK he hc hw (hx x (by simp[Op.operands])) id
 case makeSlice t l n=>
  obtain⟨ti,te,e',ht,hs,hte,he⟩:=CL he
  exact AC.of_runs (fun ρ=>Instr.makeSlice t (ρ l) (ρ n)) (fun a w=>BL _ w) fun w0 M0 I0 fr I mu h a w hw hid hx hb=>Wi ht hs hte he hc hw hid (hx l (by simp[Op.operands])) (hx n (by simp[Op.operands]))
 case makeFunc fn fs cs=>
  simp only[pv,A03,A05] at he
  obtain⟨rfl,rfl⟩:=he
  refine AC.quiet fun _ _ _ _ I mu _ a w _ hx _=>⟨.func fn (fs.map a.eval) (cs.map a.eval),by simp[execOp,Instr.makeFunc],?_⟩
  have e1:fs.map a.eval=(fs.toList.map a.eval).toArray:=by apply Array.ext';simp
  have e2:cs.map a.eval=(cs.toList.map a.eval).toArray:=by apply Array.ext';simp
  rw[e1,e2]
  refine .func fn _ _ _ _ (by simp) (by simp) (fun i hi=>?_) fun i hi=>?_
  ·simp only[A06,A0T] at hi
   have h1:nd (fs.toList.map ev) i=ev fs[i]:=by simp[nd,A02,hi]
   have h2:nv (fs.toList.map a.eval) i=a.eval fs[i]:=by simp[nv,A02,hi]
   rw[h1,h2];exact hx _ (by simp[Op.operands])
  ·simp only[A06,A0T] at hi
   have h1:nd (cs.toList.map ev) i=ev cs[i]:=by simp[nd,A02,hi]
   have h2:nv (cs.toList.map a.eval) i=a.eval cs[i]:=by simp[nv,A02,hi]
   rw[h1,h2];exact hx _ (by simp[Op.operands])
 case makeInterface t x=>
  simp only[pvc,A03,A05] at he
  obtain⟨rfl,rfl⟩:=he
  exact AC.quiet fun _ _ _ _ I mu _ a w _ hx _=>⟨.iface t (a.eval x),by simp[execOp,run_makeInterface w t (a.eval x) hc],.iface t _ _ (hx x (by simp[Op.operands]))⟩
 case makeMap t o=>
  cases o with
  |some r=>cases he
  |none=>exact AC.of_runs (fun _=>Instr.makeMap t none) (fun a w=>BL _ w) fun w0 M0 I0 fr I mu h a w hw hid hx hb=>Tv he hw hid
 case lookup t x i ok=>
  obtain⟨tm,ti,te,tk,e',ht,hs,htk,hte,he⟩:=FA he
  exact AC.of_runs (fun ρ=>Instr.lookup t (ρ x) (ρ i) ok) (fun a w=>BL _ w) fun w0 M0 I0 fr I mu h a w hw hid hx hb=>Wj ht hs htk hte he hc hw (hx x (by simp[Op.operands])) (hx i (by simp[Op.operands])) hb id
 case mapUpdate t m k x=>
  obtain⟨tm,ti,te,tk,e',ht,hs,htk,hte,he⟩:=FA he
  have hd:e.d=.any:=by
   unfold T7 at he
   split at he
   ·split at he
    ·split at he<;>first|(simp only[A03,A05] at he;obtain⟨rfl,_⟩:=he;rfl)|cases he
    ·cases he
   ·cases he
  have he':e=⟨.any,e.up,e.rd⟩:=by cases e;simp at hd;simp[hd]
  rw[he']
  exact AC.of_runs_u (fun ρ=>Instr.mapUpdate t (ρ m) (ρ k) (ρ x)) (fun a w=>Rr _ w) fun w0 M0 I0 fr I mu h a w hw hid hx hb=>(Ro ht hs htk he hc hw (hx m (by simp[Op.operands])) (hx k (by simp[Op.operands])) (hx x (by simp[Op.operands])) hb id).2
 case insert t m k x=>
  obtain⟨tm,ti,te,tk,e',ht,hs,htk,hte,he⟩:=FA he
  have hd:e.d=.any:=by
   unfold T7 at he
   split at he
   ·split at he
    ·split at he<;>first|(simp only[A03,A05] at he;obtain⟨rfl,_⟩:=he;rfl)|cases he
    ·cases he
   ·cases he
  have he':e=⟨.any,e.up,e.rd⟩:=by cases e;simp at hd;simp[hd]
  rw[he']
  exact AC.of_runs_u (fun ρ=>Instr.mapUpdate t (ρ m) (ρ k) (ρ x)) (fun a w=>Rr _ w) fun w0 M0 I0 fr I mu h a w hw hid hx hb=>(Ro ht hs htk he hc hw (hx m (by simp[Op.operands])) (hx k (by simp[Op.operands])) (hx x (by simp[Op.operands])) hb id).2
 case range t x=>
  obtain⟨tm,ti,te,tk,e',ht,hs,htk,hte,he⟩:=FA he
  exact AC.of_runs (fun ρ=>Instr.range t (ρ x)) (fun a w=>BL _ w) fun w0 M0 I0 fr I mu h a w hw hid hx hb=>Tu ht hs he hw hid (hx x (by simp[Op.operands])) hb
 case entry x=>
  exact AC.of_runs (fun ρ=>Instr.entry (ρ x)) (fun a w=>BL _ w) fun w0 M0 I0 fr I mu h a w hw hid hx hb=>Ty he hc hw (hx x (by simp[Op.operands])) hb id
 case call k=>
  obtain⟨callee,args,ts⟩:=k
  cases callee with
  |builtin b=>exact Xn he hc
  |_=>cases he
end
end Go.Ab
