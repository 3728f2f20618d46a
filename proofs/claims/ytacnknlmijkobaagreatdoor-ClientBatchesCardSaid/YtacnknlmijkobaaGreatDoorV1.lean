/- The layer by which the program is walked, and what its functions do: part 2 of 15. -/
import Derived.Test.YtacnknlmijkobaaGreatDoorV0
import Derived.WalkSpells
set_option maxHeartbeats 4000000
set_option maxRecDepth 20000
set_option linter.unusedVariables false
set_option linter.unusedSimpArgs false
set_option linter.unnecessarySimpa false
namespace Go.Ab
open Go.RowKit
abbrev Res:=Option (Eff×Prop)
def pv(d:D):Res:=some (⟨d,[],[]⟩,True)
def pvc(d:D)(c:Prop):Res:=some (⟨d,[],[]⟩,c)
def AA(P:Program)(s:World->Result Value)(id:Nat)(d:D)(up:List (Nat×Option Blk))(w0:World)(M0:Nat->Prop)(I0:Gh)(fr I:Nat->Prop)(mu:Nat->Option Value)(h:Nat->Option Blk)(w:World):Prop:=
 ∃ v w' I' mu',s w=.ok v w'/\Ext I mu w I' mu' w'/\Ap w0 M0 I0 (fun b=>fr b/\b≠id) I' mu' (fun b=>AO b (h b) up) w'/\Rep w' I' mu' d v
theorem Ap.less{w0:World}{M0:Nat->Prop}{I0:Gh}{fr fr' I:Nat->Prop}{mu:Nat->Option Value}{h:Nat->Option Blk}{w:World}(r:Ap w0 M0 I0 fr I mu h w)(hf:∀ b,fr' b->fr b):Ap w0 M0 I0 fr' I mu h w:=
 ⟨r.blk,r.loc,r.inj,fun b hb=>r.fresh b (hf b hb),r.lt,r.os,r.tape,r.output,r.grown,r.old,r.iold,r.inew,r.keep,fun b x hx hb=>r.used b x hx (hf b hb)⟩
theorem AA.same{P:Program}{s:World->Result Value}{id:Nat}{d:D}{w0:World}{M0:Nat->Prop}{I0:Gh}{fr I:Nat->Prop}{mu:Nat->Option Value}{h:Nat->Option Blk}{w:World}(r:Ap w0 M0 I0 fr I mu h w)(v:Value)(hs:s w=.ok v w)(hv:Rep w I mu d v):AA P s id d [] w0 M0 I0 fr I mu h w:=
 ⟨v,w,I,mu,hs,Ext.refl _ _ _,r.less fun b hb=>hb.1,hv⟩
theorem AC.of_runs{P:Program}{o:Oper}{id:Nat}{ev:Operand->D}{hp:Nat->Option Blk}{e:Eff}(s:(Operand->Value)->Sem Value)
  (hs:∀ (a:Act) w,(execOp a.eval o).run P w=((s a.eval).run P w).andThen fun v w'=>.ok (.value v) w')
  (h:∀ w0 M0 I0 fr I mu h (a:Act) w,Ap w0 M0 I0 fr I mu h w->fr id->(∀ x ∈ o.op.operands,Rep w I mu (ev x) (a.eval x))->(∀ b ∈ e.rd,h b=hp b)->AA P (fun w=>(s a.eval).run P w) id e.d e.up w0 M0 I0 fr I mu h w):AC P o id ev hp e:=by
 intro w0 M0 I0 fr I mu hh a w hga hw hid hx hb K Q hK
 obtain⟨v,w',I',mu',hrun,hext,hw',hv⟩:=h w0 M0 I0 fr I mu hh a w hw (by simpa using hid 0 (by decide)) hx hb
 have hrun':(s a.eval).run P w=.ok v w':=hrun
 refine DG (by rw[hs,hrun'];rfl) ?_
 exact hK v w' I' mu' hext (hw'.less fun b hb=>⟨hb.1,by simpa using hb.2 0 (by decide)⟩) hv
theorem AC.of_runs_u{P:Program}{o:Oper}{id:Nat}{ev:Operand->D}{hp:Nat->Option Blk}{up:List (Nat×Option Blk)}{rd:List Nat}(s:(Operand->Value)->Sem Unit)
  (hs:∀ (a:Act) w,(execOp a.eval o).run P w=((s a.eval).run P w).andThen fun _ w'=>.ok .skip w')
  (h:∀ w0 M0 I0 fr I mu h (a:Act) w,Ap w0 M0 I0 fr I mu h w->fr id->(∀ x ∈ o.op.operands,Rep w I mu (ev x) (a.eval x))->(∀ b ∈ rd,h b=hp b)->
   ∃ w' I' mu',(s a.eval).run P w=.ok () w'/\Ext I mu w I' mu' w'/\Ap w0 M0 I0 (fun b=>fr b/\b≠id) I' mu' (fun b=>AO b (h b) up) w'):AC P o id ev hp ⟨.any,up,rd⟩:=by
 intro w0 M0 I0 fr I mu hh a w hga hw hid hx hb K Q hK
 obtain⟨w',I',mu',hrun,hext,hw'⟩:=h w0 M0 I0 fr I mu hh a w hw (by simpa using hid 0 (by decide)) hx hb
 refine T5 (by rw[hs,hrun];rfl) ?_
 exact hK undef w' I' mu' hext (hw'.less fun b hb=>⟨hb.1,by simpa using hb.2 0 (by decide)⟩) (.any _)
section
variable{P:Program}{w0:World}{M0:Nat->Prop}{I0:Gh}{fr I:Nat->Prop}{mu:Nat->Option Value}{h:Nat->Option Blk}{w:World}
def HV(ti:TI)(hp:Nat->Option Blk):D->Res
 |.ptr cs off=>bif ti.ag then pvc (.agg ((cs.drop off).take ti.sz)) (off+ti.sz<=cs.length) else pvc (nd cs off) (off<cs.length)
 |.ref b i off sz=>match hp b with
  |some (.rows es sz')=>bif ti.ag then some (⟨.agg (((nr es i).drop off).take ti.sz),[],[b]⟩,i<es.length/\sz=sz'/\off+ti.sz<=sz) else some (⟨nd (nr es i) off,[],[b]⟩,i<es.length/\sz=sz'/\off<sz)
  |_=>none
 |.gel b i off sz=>match hp b with
  |some (.grow es sz')=>bif ti.ag then some (⟨.agg (((nr es i).drop off).take ti.sz),[],[b]⟩,i<es.length/\sz=sz'/\off+ti.sz<=sz) else some (⟨nd (nr es i) off,[],[b]⟩,i<es.length/\sz=sz'/\off<sz)
  |_=>none
 |_=>none
theorem C0{t:TypeId}{ti:TI}(ht:Ak P t=some ti)(w:World)(k o:Nat)(cs:List D)(u:Nat->Value)(hcell:∀ j,j<cs.length->w.cell? ⟨k,o+j,none⟩=some (u j))(hr:∀ j,j<cs.length->Rep w I mu (nd cs j) (u j))(off:Nat):
  (ti.ag=true->off+ti.sz<=cs.length->∃ v,(loadVar t ⟨k,o+off,none⟩).run P w=.ok v w/\Rep w I mu (.agg ((cs.drop off).take ti.sz)) v)/\
  (ti.ag=false->off<cs.length->∃ v,(loadVar t ⟨k,o+off,none⟩).run P w=.ok v w/\Rep w I mu (nd cs off) v):=by
 constructor
 ·intro hag hle
  have hl:=run_loadCells (P:=P) w ⟨k,o+off,none⟩ ti.sz (fun j=>u (off+j)) (fun j hj=>by rw[BM,A1l];exact hcell (off+j) (by omega))
  refine⟨.agg ((List.range ti.sz).map fun j=>u (off+j)).toArray,?_,.agg _ _ (by simp;omega) fun i hi=>?_⟩
  ·simp[loadVar,LI ht,hag,AS ht,hl]
  ·simp only[A0z,A0v] at hi
   have h1:nd ((cs.drop off).take ti.sz) i=nd cs (off+i):=by
    simp only[nd,A02]
    rw[A0n (by omega),A0I]
   have h2:nv ((List.range ti.sz).map fun j=>u (off+j)) i=u (off+i):=by
    simp[nv,A02,show i<ti.sz by omega]
   rw[h1,h2]
   exact hr (off+i) (by omega)
 ·intro hag hlt
  refine⟨u off,?_,hr off hlt⟩
  simp[loadVar,LI ht,hag,hcell off hlt]
theorem Wk{t:TypeId}{ti:TI}(ht:Ak P t=some ti){hp:Nat->Option Blk}{d:D}{e:Eff}{c:Prop}(he:HV ti hp d=some (e,c))(hc:c)(hr:Ap w0 M0 I0 fr I mu h w){v:Value}(hv:Rep w I mu d v)(hb:∀ b ∈ e.rd,h b=hp b)(id:Nat):
  AA P (fun w=>(Instr.loadAt t v).run P w) id e.d e.up w0 M0 I0 fr I mu h w:=by
 cases d with
 |ptr cs off=>
  cases hv with
  |ptr _ _ k o u hI hcell hrep=>
   have hl:=C0 (I:=I) (mu:=mu) ht w k o cs u hcell hrep off
   cases hag:ti.ag<;>simp only[HV,hag,cond_true,cond_false,pvc,A03,A05] at he<;>obtain ⟨rfl,rfl⟩:=he
   ·obtain⟨v,h1,h2⟩:=hl.2 hag hc
    exact AA.same hr v (by simp[Instr.loadAt,Instr.sureAddr,h1]) h2
   ·obtain⟨v,h1,h2⟩:=hl.1 hag hc
    exact AA.same hr v (by simp[Instr.loadAt,Instr.sureAddr,h1]) h2
 |ref b i off sz=>
  simp only[HV] at he
  split at he
  ·rename_i es sz' hx
   cases hv with
   |ref _ _ _ _ k hk=>
    have hbb:∀ e',e=e'->b ∈ e'.rd->h b=hp b:=fun e' h1 h2=>hb b (h1▸h2)
    have core:h b=some (.rows es sz')->i<es.length->sz=sz'->(∀ off,(ti.ag=true->off+ti.sz<=sz->∃ v,(loadVar t ⟨k,i*sz+off,none⟩).run P w=.ok v w/\Rep w I mu (.agg (((nr es i).drop off).take ti.sz)) v)/\
      (ti.ag=false->off<sz->∃ v,(loadVar t ⟨k,i*sz+off,none⟩).run P w=.ok v w/\Rep w I mu (nd (nr es i) off) v)):=by
     intro hhb hi hsz off
     subst hsz
     obtain⟨k',T,us,h1,h2,h3,h4,h5⟩:=hr.blk b _ hhb
     rw[hk] at h1
     simp only[A03,A0O,A16,and_true] at h1
     subst h1
     have hlen:=h4 i hi
     have hmul:i*sz+sz<=es.length*sz:=by rw[<-A0F];exact A0f _ hi
     have:=C0 (P:=P) (I:=I) (mu:=mu) ht w k (i*sz) (nr es i) (fun j=>nv us (i*sz+j)) (fun j hj=>by
       rw[hlen] at hj
       simp only[World.cell?,h2,A1f,nv]
       rw[if_neg (by simp)]
       simp[A02,show i*sz+j<us.length by omega])
      (fun j hj=>h5 i j hi (by omega)) off
     rw[hlen] at this
     exact this
    cases hag:ti.ag<;>simp only[hag,cond_true,cond_false,A03,A05] at he<;>obtain ⟨rfl,rfl⟩:=he
    ·obtain⟨v,h1,h2⟩:=(core ((hb b (by simp)).trans hx) hc.1 hc.2.1 off).2 hag hc.2.2
     exact AA.same hr v (by simp[Instr.loadAt,Instr.sureAddr,h1]) h2
    ·obtain⟨v,h1,h2⟩:=(core ((hb b (by simp)).trans hx) hc.1 hc.2.1 off).1 hag hc.2.2
     exact AA.same hr v (by simp[Instr.loadAt,Instr.sureAddr,h1]) h2
  ·cases he
 |gel b i off sz=>
  simp only[HV] at he
  split at he
  ·rename_i es sz' hx
   cases hv with
   |gel _ _ _ _ k len0 cap0 hk=>
    have core:h b=some (.grow es sz')->i<es.length->sz=sz'->(∀ off,(ti.ag=true->off+ti.sz<=sz->∃ v,(loadVar t ⟨k,i*sz+off,none⟩).run P w=.ok v w/\Rep w I mu (.agg (((nr es i).drop off).take ti.sz)) v)/\
      (ti.ag=false->off<sz->∃ v,(loadVar t ⟨k,i*sz+off,none⟩).run P w=.ok v w/\Rep w I mu (nd (nr es i) off) v)):=by
     intro hhb hi hsz off
     subst hsz
     obtain⟨A,cap,T,us,h1,h2,h3,h4⟩:=hr.blk b _ hhb
     rw[hk] at h1
     simp only[A03,A0N] at h1
     obtain⟨rfl,hl0,rfl⟩:=h1
     rcases h4 with⟨_,rfl⟩|⟨k',q0,q1,q2,q3,q4,q5⟩
     ·simp at hi
     simp only[A03,A16,and_true] at q1
     subst q1
     have hlen:=h2 i hi
     have hmul:i*sz+sz<=cap0*sz:=by rw[<-A0F];exact A0f _ (by omega)
     have:=C0 (P:=P) (I:=I) (mu:=mu) ht w k (i*sz) (nr es i) (fun j=>nv us (i*sz+j)) (fun j hj=>by
       rw[hlen] at hj
       simp only[World.cell?,q2,A1f,nv]
       rw[if_neg (by simp)]
       simp[A02,show i*sz+j<us.length by omega])
      (fun j hj=>q5 i j hi (by omega)) off
     rw[hlen] at this
     exact this
    cases hag:ti.ag<;>simp only[hag,cond_true,cond_false,A03,A05] at he<;>obtain ⟨rfl,rfl⟩:=he
    ·obtain⟨v,h1,h2⟩:=(core ((hb b (by simp)).trans hx) hc.1 hc.2.1 off).2 hag hc.2.2
     exact AA.same hr v (by simp[Instr.loadAt,Instr.sureAddr,h1]) h2
    ·obtain⟨v,h1,h2⟩:=(core ((hb b (by simp)).trans hx) hc.1 hc.2.1 off).1 hag hc.2.2
     exact AA.same hr v (by simp[Instr.loadAt,Instr.sureAddr,h1]) h2
  ·cases he
 |_=>simp [HV] at he
def J5(ti:TI)(hp:Nat->Option Blk)(a d:D):Res:=
 match a with
 |.ref b i off sz=>match hp b with
  |some (.rows es sz')=>match Gb d with
   |some ns=>some (⟨.any,[(b,some (.rows (es.set i (Au (nr es i) off ns)) sz'))],[b]⟩,i<es.length/\sz=sz'/\off+ns.length<=sz/\ns.length=ti.sz)
   |none=>none
  |_=>none
 |.gel b i off sz=>match hp b with
  |some (.grow es sz')=>match Gb d with
   |some ns=>some (⟨.any,[(b,some (.grow (es.set i (Au (nr es i) off ns)) sz'))],[b]⟩,i<es.length/\sz=sz'/\off+ns.length<=sz/\ns.length=ti.sz)
   |none=>none
  |_=>none
 |_=>none
theorem Q4{xs ys:List D}{off:Nat}(h:off+ys.length<=xs.length)(i:Nat):nd (Au xs off ys) i=if i<off then nd xs i else if i<off+ys.length then nd ys (i-off) else nd xs i:=by
 simp only[nd,A02,Ft h]
 split
 ·rfl
 ·split<;>rfl
theorem F8{xs ys:List Value}{off:Nat}(h:off+ys.length<=xs.length)(i:Nat):nv (Au xs off ys) i=if i<off then nv xs i else if i<off+ys.length then nv ys (i-off) else nv xs i:=by
 simp only[nv,A02,Ft h]
 split
 ·rfl
 ·split<;>rfl
theorem Kd{es:List (List D)}{i:Nat}{r:List D}(hi:i<es.length)(j:Nat):nr (es.set i r) j=if i=j then r else nr es j:=by
 simp only[nr,A02,A1I]
 by_cases h:i=j
 ·subst h;simp[hi]
 ·simp[h]
theorem Tt{t:TypeId}{ti:TI}(ht:Ak P t=some ti){hp:Nat->Option Blk}{a d:D}{e:Eff}{c:Prop}(he:J5 ti hp a d=some (e,c))(hc:c)(hr:Ap w0 M0 I0 fr I mu h w){v x:Value}(hv:Rep w I mu a v)(hx:Rep w I mu d x)(hb:∀ b ∈ e.rd,h b=hp b)(id:Nat):
  e.d=.any/\∃ w' I' mu',(Instr.storeAt t v x).run P w=.ok () w'/\Ext I mu w I' mu' w'/\Ap w0 M0 I0 (fun b=>fr b/\b≠id) I' mu' (fun b=>AO b (h b) e.up) w':=by
 cases a with
 |ref b i off sz=>
  simp only[J5] at he
  split at he
  ·rename_i es sz' hh
   split at he
   ·rename_i ns hns
    simp only[A03,A05] at he
    obtain⟨rfl,rfl⟩:=he
    obtain⟨hi,rfl,hle,hsz⟩:=hc
    have hhb:=(hb b (by simp)).trans hh
    refine⟨rfl,?_⟩
    obtain⟨us',hcs,hl',hrep,hone⟩:=hx.cells hns
    obtain⟨k,T,us,h1,h2,h3,h4,h5⟩:=hr.blk b _ hhb
    cases hv with
    |ref _ _ _ _ k' hk=>
     rw[h1] at hk
     simp only[A03,A0O,A16,and_true] at hk
     subst hk
     have hlen:=h4 i hi
     have hmul:i*sz+sz<=es.length*sz:=by rw[<-A0F];exact A0f _ hi
     obtain⟨w',hrun,hheap,hwrote⟩:=BB (P:=P) (T:=T) us' 0 (i*sz+off) us w h2 (by omega) hone
     simp only[A11] at hheap
     have hne:∀ j,j<es.length->i≠j->∀ l,l<sz->¬(i*sz+off<=j*sz+l/\j*sz+l<i*sz+off+us'.length):=by
      intro j hj hij l hl
      rintro⟨g1,g2⟩
      rcases Nat.lt_or_gt_of_ne hij with h6|h6
      ·have:i*sz+sz<=j*sz:=by rw[<-A0F];exact A0f _ h6
       omega
      ·have:j*sz+sz<=i*sz:=by rw[<-A0F];exact A0f _ h6
       omega
     have hnotI:¬I k:=(hr.loc b _ _ k hhb h1 rfl).2.1
     have hIkeep:∀ j,I j->w'.heap[j]? =w.heap[j]?:=fun j hj=>hwrote.other j (by rintro rfl;exact hnotI hj)
     have:=hr.wrote (id:=id) hhb h1 rfl hwrote (.rows (es.set i (Au (nr es i) off ns)) sz) ⟨k,T,Au us (i*sz+off) us',h1,hheap,by
       rw[B0 (by omega),h3,A0S],fun j hj=>by
       rw[A0S] at hj
       rw[Kd hi]
       split
       ·rw[B0 (by omega)];exact hlen
       ·exact h4 j hj,fun j l hj hl=>by
       rw[A0S] at hj
       rw[Kd hi,F8 (by omega)]
       by_cases hij:i=j
       ·subst hij
        rw[if_pos rfl,Q4 (by omega)]
        have c1:(i*sz+l<i*sz+off)↔l<off:=by omega
        have c2:(i*sz+l<i*sz+off+us'.length)↔l<off+ns.length:=by omega
        have e1:i*sz+l-(i*sz+off)=l-off:=by omega
        simp only[c1,c2,e1]
        by_cases g1:l<off
        ·simp only[if_pos g1]
         exact(h5 i l hj hl).mono hIkeep (fun _ h=>h) (fun _ _ h=>h)
        ·simp only[if_neg g1]
         by_cases g2:l<off+ns.length
         ·simp only[if_pos g2]
          exact(hrep (l-off) (by omega)).mono hIkeep (fun _ h=>h) (fun _ _ h=>h)
         ·simp only[if_neg g2]
          exact(h5 i l hj hl).mono hIkeep (fun _ h=>h) (fun _ _ h=>h)
       ·rw[if_neg hij]
        have:=hne j hj hij l hl
        by_cases g1:j*sz+l<i*sz+off
        ·rw[if_pos g1]
         exact(h5 j l hj hl).mono hIkeep (fun _ h=>h) (fun _ _ h=>h)
        ·rw[if_neg g1,if_neg (by omega)]
         exact(h5 j l hj hl).mono hIkeep (fun _ h=>h) (fun _ _ h=>h)⟩
     refine⟨w',I,mu,?_,this.2,this.1⟩
     have hcz:x.cells.size=ti.sz:=by
      have:x.cells.toList.length=us'.length:=by rw[hcs]
      simp only[A0T] at this
      omega
     simp[Instr.storeAt,Instr.sureAddr,storeVar,AS ht,hcz,hcs,hrun]
   ·cases he
  ·cases he
 |gel b i off sz=>
  simp only[J5] at he
  split at he
  ·rename_i es sz' hh
   split at he
   ·rename_i ns hns
    simp only[A03,A05] at he
    obtain⟨rfl,rfl⟩:=he
    obtain⟨hi,rfl,hle,hsz⟩:=hc
    have hhb:=(hb b (by simp)).trans hh
    refine⟨rfl,?_⟩
    obtain⟨us',hcs,hl',hrep,hone⟩:=hx.cells hns
    obtain⟨A,cap,T,us,h1,h4,h3,h5⟩:=hr.blk b _ hhb
    cases hv with
    |gel _ _ _ _ k len0 cap0 hk=>
     rcases h5 with⟨_,rfl⟩|⟨k',q0,q1,h2,q3,q4,h5⟩
     ·simp at hi
     subst q1
     rw[h1] at hk
     simp only[A03,A0N,A16,and_true] at hk
     obtain⟨rfl,hl0,rfl⟩:=hk
     have hlen:=h4 i hi
     have hmul:i*sz+sz<=cap*sz:=by rw[<-A0F];exact A0f _ (by omega)
     obtain⟨w',hrun,hheap,hwrote⟩:=BB (P:=P) (T:=T) us' 0 (i*sz+off) us w h2 (by omega) hone
     simp only[A11] at hheap
     have hne:∀ j,j<es.length->i≠j->∀ l,l<sz->¬(i*sz+off<=j*sz+l/\j*sz+l<i*sz+off+us'.length):=by
      intro j hj hij l hl
      rintro⟨g1,g2⟩
      rcases Nat.lt_or_gt_of_ne hij with h6|h6
      ·have:i*sz+sz<=j*sz:=by rw[<-A0F];exact A0f _ h6
       omega
      ·have:j*sz+sz<=i*sz:=by rw[<-A0F];exact A0f _ h6
       omega
     have hloc:Ae (.slice (some ⟨k',0,none⟩) es.length cap)=some k':=by simp[Ae];omega
     have hnotI:¬I k':=(hr.loc b _ _ k' hhb h1 hloc).2.1
     have hIkeep:∀ j,I j->w'.heap[j]? =w.heap[j]?:=fun j hj=>hwrote.other j (by rintro rfl;exact hnotI hj)
     have:=hr.wrote (id:=id) hhb h1 hloc hwrote (.grow (es.set i (Au (nr es i) off ns)) sz) ⟨some ⟨k',0,none⟩,cap,T,Au us (i*sz+off) us',by rw[A0S];exact h1,fun j hj=>by
       rw[A0S] at hj
       rw[Kd hi]
       split
       ·rw[B0 (by omega)];exact hlen
       ·exact h4 j hj,h3,.inr ⟨k',q0,rfl,hheap,by rw[A0S];exact q3,by rw[B0 (by omega),q4],fun j l hj hl=>by
       rw[A0S] at hj
       rw[Kd hi,F8 (by omega)]
       by_cases hij:i=j
       ·subst hij
        rw[if_pos rfl,Q4 (by omega)]
        have c1:(i*sz+l<i*sz+off)↔l<off:=by omega
        have c2:(i*sz+l<i*sz+off+us'.length)↔l<off+ns.length:=by omega
        have e1:i*sz+l-(i*sz+off)=l-off:=by omega
        simp only[c1,c2,e1]
        by_cases g1:l<off
        ·simp only[if_pos g1]
         exact(h5 i l hj hl).mono hIkeep (fun _ h=>h) (fun _ _ h=>h)
        ·simp only[if_neg g1]
         by_cases g2:l<off+ns.length
         ·simp only[if_pos g2]
          exact(hrep (l-off) (by omega)).mono hIkeep (fun _ h=>h) (fun _ _ h=>h)
         ·simp only[if_neg g2]
          exact(h5 i l hj hl).mono hIkeep (fun _ h=>h) (fun _ _ h=>h)
       ·rw[if_neg hij]
        have:=hne j hj hij l hl
        by_cases g1:j*sz+l<i*sz+off
        ·rw[if_pos g1]
         exact(h5 j l hj hl).mono hIkeep (fun _ h=>h) (fun _ _ h=>h)
        ·rw[if_neg g1,if_neg (by omega)]
         exact(h5 j l hj hl).mono hIkeep (fun _ h=>h) (fun _ _ h=>h)⟩⟩
     refine⟨w',I,mu,?_,this.2,this.1⟩
     have hcz:x.cells.size=ti.sz:=by
      have:x.cells.toList.length=us'.length:=by rw[hcs]
      simp only[A0T] at this
      omega
     simp[Instr.storeAt,Instr.sureAddr,storeVar,AS ht,hcz,hcs,hrun]
   ·cases he
  ·cases he
 |_=>simp [J5] at he
theorem KI{elem:TypeId}(us:List Value)(cs:List D)(hl:us.length=cs.length)(hrep:∀ i,i<cs.length->Rep w I mu (nd cs i) (nv us i))(hr:Ap w0 M0 I0 fr I mu h w){id:Nat}(hid:fr id)(sz:Nat)(hsz:cs.length=sz):
  ∃ mu',(newRow elem us.toArray).run P w=.ok ⟨w.heap.size,0,none⟩ (w.alloc (.cells us.toArray elem))/\Ext I mu w I mu' (w.alloc (.cells us.toArray elem))/\
   Ap w0 M0 I0 (fun b=>fr b/\b≠id) I mu' (fun b=>AO b (h b) [(id,some (.rows [cs] sz))]) (w.alloc (.cells us.toArray elem))/\mu' id=some (.pointer (some ⟨w.heap.size,0,none⟩)):=by
 have hnone:=hr.fresh id hid
 have:=hr.new hid (.cells us.toArray elem) (.pointer (some ⟨w.heap.size,0,none⟩)) rfl (.rows [cs] sz) ⟨w.heap.size,elem,us,by simp[Ax],heap_alloc_new w _,by simp;omega,fun i hi=>by
   simp only[A18] at hi;obtain rfl:i=0:=by omega
   simpa[nr] using hsz,fun i j hi hj=>by
   simp only[A18] at hi;obtain rfl:i=0:=by omega
   simp only[Nat.zero_mul,A1c]
   have:nr [cs] 0=cs:=rfl
   rw[this]
   exact(hrep j (by omega)).mono (fun k hk=>B8 w _ (hr.lt k hk)) (fun _ h=>h) (Bs hnone)⟩
 exact⟨_,by simp[newRow],this.2,this.1,by simp[Ax]⟩
def QE(id:Nat)(ti:TI):Res:=some (⟨.ref id 0 0 ti.sz,[(id,some (.rows [ti.zero.map ofV] ti.sz))],[]⟩,ti.zero.length=ti.sz)
theorem TB{t:TypeId}{ti:TI}(ht:Ak P t=some ti){id:Nat}{e:Eff}{c:Prop}(he:QE id ti=some (e,c))(hc:c)(hr:Ap w0 M0 I0 fr I mu h w)(hid:fr id):
  AA P (fun w=>(Instr.alloc t true (.tuple #[])).run P w) id e.d e.up w0 M0 I0 fr I mu h w:=by
 simp only[QE,A03,A05] at he
 obtain⟨rfl,rfl⟩:=he
 obtain⟨z,hz,hzl,_⟩:=Dp ht w
 obtain⟨mu',h1,h2,h3,h4⟩:=KI (P:=P) (elem:=t) ti.zero (ti.zero.map ofV) (by simp) (fun i hi=>by
   simp only[A06] at hi
   have:nd (ti.zero.map ofV) i=ofV (nv ti.zero i):=by simp[nd,nv,A02,hi]
   rw[this];exact FR _ _ _ _) hr hid ti.sz (by simpa using hc)
 have hza:z.cells=ti.zero.toArray:=by rw[<-hzl]
 refine⟨.pointer (some ⟨w.heap.size,0,none⟩),_,I,mu',?_,h2,h3,by simpa using Rep.ref (w:=w.alloc (.cells ti.zero.toArray t)) (I:=I) id 0 0 ti.sz _ h4⟩
 simp only[Instr.alloc,newVar,A0e,hz,hza,h1,Result.andThen,A0j]
def boxE(id:Nat)(d:D):Res:=
 match Gb d with
 |some ns=>some (⟨.ref id 0 0 ns.length,[(id,some (.rows [ns] ns.length))],[]⟩,True)
 |none=>none
theorem Yv{t:TypeId}{id:Nat}{d:D}{e:Eff}{c:Prop}(he:boxE id d=some (e,c))(hr:Ap w0 M0 I0 fr I mu h w)(hid:fr id){v:Value}(hv:Rep w I mu d v):
  AA P (fun w=>(Instr.box t v).run P w) id e.d e.up w0 M0 I0 fr I mu h w:=by
 unfold boxE at he
 split at he
 ·rename_i ns hns
  simp only[A03,A05] at he
  obtain⟨rfl,rfl⟩:=he
  obtain⟨us,hcs,hl,hrep,hone⟩:=hv.cells hns
  obtain⟨mu',h1,h2,h3,h4⟩:=KI (P:=P) (elem:=t) us ns hl hrep hr hid ns.length rfl
  have hza:v.cells=us.toArray:=by rw[<-hcs]
  refine⟨.pointer (some ⟨w.heap.size,0,none⟩),_,I,mu',?_,h2,h3,by simpa using Rep.ref (w:=w.alloc (.cells us.toArray t)) (I:=I) id 0 0 ns.length _ h4⟩
  simp only[Instr.box,newVar,A0e,hza,h1,Result.andThen,A0j]
 ·cases he
end
section
variable{P:Program}{w0:World}{M0:Nat->Prop}{I0:Gh}{fr I:Nat->Prop}{mu:Nat->Option Value}{h:Nat->Option Blk}{w:World}
def Kx(fs:List (Nat×Nat×Bool)):List D->List (Nat×D)->Option (List D×Prop)
 |cs,[]=>some (cs,True)
 |cs,(i,d)::r=>match fs[i]?,Gb d with
  |some (off,sz,_),some ns=>match Kx fs (Au cs off ns) r with
   |some (x,c)=>some (x,ns.length=sz/\off+ns.length<=cs.length/\c)
   |none=>none
  |_,_=>none
def Qy(ti:TI)(ps:List (Nat×D)):Res:=
 match ti.sh with
 |.struct fs=>match Kx fs (ti.zero.map ofV) ps with
  |some (cs,c)=>pvc (.agg cs) c
  |none=>none
 |_=>none
theorem Kp(off:Nat):∀ (vs:List Value) (j:Nat) (us:List Value),off+j+vs.length<=us.length->
  ((vs.zipIdx j).foldl (fun(cs:Array Value) (p:Value×Nat)=>cs.setIfInBounds (off+p.2) p.1) us.toArray)=(Au us (off+j) vs).toArray
 |[],j,us,_=>by simp[Au]
 |v::vs,j,us,hl=>by
  simp only[A0g] at hl
  simp only[List.zipIdx_cons,A0r,List.setIfInBounds_toArray]
  rw[Kp off vs (j+1) (us.set (off+j) v) (by simp;omega)]
  congr 1
  apply A1B
  intro i
  rw[Ft (by simp;omega),Ft (by simp;omega)]
  simp only[A0g,A1I]
  by_cases h2:i<off+j
  ·rw[if_pos (by omega),if_pos h2,if_neg (by omega)]
  ·rw[if_neg h2]
   by_cases h3:i=off+j
   ·subst h3
    rw[if_pos (by omega),if_pos rfl,if_pos (by omega),if_pos (by omega)]
    simp
   ·rw[if_neg (by omega)]
    by_cases h4:i<off+(j+1)+vs.length
    ·rw[if_pos h4,if_pos (by omega)]
     have:i-(off+j)=(i-(off+(j+1)))+1:=by omega
     rw[this];rfl
    ·rw[if_neg h4,if_neg (by omega),if_neg (by omega)]
theorem YB{cs ns:List D}{us vs:List Value}{off:Nat}(hl:us.length=cs.length)(hv:vs.length=ns.length)(hle:off+ns.length<=cs.length)(h1:∀ i,i<cs.length->Rep w I mu (nd cs i) (nv us i))(h2:∀ i,i<ns.length->Rep w I mu (nd ns i) (nv vs i)):
  ∀ i,i<(Au cs off ns).length->Rep w I mu (nd (Au cs off ns) i) (nv (Au us off vs) i):=by
 intro i hi
 rw[B0 hle] at hi
 rw[Q4 hle,F8 (by omega),hv]
 by_cases g1:i<off
 ·simp only[if_pos g1];exact h1 i hi
 ·simp only[if_neg g1]
  by_cases g2:i<off+ns.length
  ·simp only[if_pos g2];exact h2 _ (by omega)
  ·simp only[if_neg g2];exact h1 i hi
theorem Rs{fs:List (Nat×Nat×Bool)}:∀ (ds:List (Nat×D)) (vs:List (Nat×Value)) (cs:List D) (us:List Value) (x:List D) (c:Prop),Kx fs cs ds=some (x,c)->c->vs.length=ds.length->
  (∀(i:Nat) (p:Nat×D) (q:Nat×Value),ds[i]? =some p->vs[i]? =some q->p.1=q.1/\Rep w I mu p.2 q.2)->us.length=cs.length->(∀ i,i<cs.length->Rep w I mu (nd cs i) (nv us i))->
  ∃ us',Instr.fill (fun i=>(fs.map fun y=>(y.1,y.2.1))[i]?) us.toArray vs=some us'.toArray/\us'.length=x.length/\∀ i,i<x.length->Rep w I mu (nd x i) (nv us' i)
 |[],[],cs,us,x,c,hb,_,_,_,hl,hr=>by
  simp only[Kx,A03,A05] at hb
  obtain⟨rfl,_⟩:=hb
  exact⟨us,by simp[Instr.fill],hl,hr⟩
 |[],_::_,_,_,_,_,_,_,hv,_,_,_=>by simp at hv
 |_::_,[],_,_,_,_,_,_,hv,_,_,_=>by simp at hv
 |(i,d)::ds,(i',v)::vs,cs,us,x,c,hb,hc,hv,hp,hl,hr=>by
  simp only[Kx] at hb
  split at hb
  ·rename_i off sz ag ns hfi hns
   split at hb
   ·rename_i y c' hb'
    simp only[A03,A05] at hb
    obtain⟨rfl,rfl⟩:=hb
    obtain⟨hsz,hle,hc'⟩:=hc
    obtain⟨he,hrep⟩:=hp 0 (i,d) (i',v) rfl rfl
    simp only at he hrep
    subst he
    obtain⟨vs',hcs,hl',hrep',_⟩:=hrep.cells hns
    have hcz:v.cells.size=sz:=by
     have:v.cells.toList.length=vs'.length:=by rw[hcs]
     simp only[A0T] at this
     omega
    obtain⟨us',h1,h2,h3⟩:=Rs ds vs (Au cs off ns) (Au us off vs') y c' hb' hc' (by simpa using hv) (fun j p q hp' hq'=>hp (j+1) p q (by simpa using hp') (by simpa using hq'))
     (by rw[B0 (by omega),B0 hle,hl]) (YB hl hl' hle hr hrep')
    refine⟨us',?_,h2,h3⟩
    have hget:(fs.map fun y=>(y.1,y.2.1))[i]? =some (off,sz):=by simp[hfi]
    simp only[Instr.fill,hget,hcz,ne_eq,not_true_eq_false,decide_false,Bool.false_or,A0y]
    have hlen:us.length=cs.length:=hl
    rw[if_neg (by simp;omega)]
    have hz:(v.cells.zipIdx.foldl (fun(cs:Array Value) (p:Value×Nat)=>cs.setIfInBounds (off+p.2) p.1) us.toArray)=(Au us off vs').toArray:=by
     rw[<-Array.foldl_toList,Array.toList_zipIdx,hcs]
     have:=Kp off vs' 0 us (by omega)
     simpa using this
    exact(congrArg (fun z=>Instr.fill (fun i=>(fs.map fun y=>(y.1,y.2.1))[i]?) z vs) hz).trans h1
   ·cases hb
  ·cases hb
theorem TA{t:TypeId}{ti:TI}(ht:Ak P t=some ti){ds:List (Nat×D)}{e:Eff}{c:Prop}(he:Qy ti ds=some (e,c))(hc:c)(hr:Ap w0 M0 I0 fr I mu h w)(vs:List (Nat×Value))(hv:vs.length=ds.length)
  (hp:∀ (i:Nat) (p:Nat×D) (q:Nat×Value),ds[i]? =some p->vs[i]? =some q->p.1=q.1/\Rep w I mu p.2 q.2) (id:Nat):
  AA P (fun w=>(Instr.build t vs.toArray).run P w) id e.d e.up w0 M0 I0 fr I mu h w:=by
 unfold Qy at he
 split at he
 ·rename_i fs hfs
  split at he
  ·rename_i cs c' hb
   simp only[pvc,A03,A05] at he
   obtain⟨rfl,rfl⟩:=he
   obtain⟨l,hl1,hl2⟩:=JX ht hfs
   obtain⟨i,d,z,h1,h2,h3,h4,h5,h6,h7,h8,h9⟩:=B9 ht
   obtain⟨us',g1,g2,g3⟩:=Rs (w:=w) (I:=I) (mu:=mu) ds vs (ti.zero.map ofV) ti.zero cs c' hb hc hv hp (by simp) (fun i hi=>by
    simp only[A06] at hi
    have:nd (ti.zero.map ofV) i=ofV (nv ti.zero i):=by simp[nd,nv,A02,hi]
    rw[this];exact FR _ _ _ _)
   refine AA.same hr (.agg us'.toArray) (run_build w t vs.toArray us'.toArray ?_) (.agg _ _ g2 g3)
   have hza:z.cells=ti.zero.toArray:=by rw[<-h6]
   have hpl:=KP hl2
   have g1':Instr.fill (fun x=>Option.map (fun y=>(y.fst,y.snd.fst)) fs[x]?) ti.zero.toArray vs=some us'.toArray:=by simpa using g1
   simp[Program.built,h1,hl1,h3,hpl,hza,g1']
  ·cases he
 ·cases he
def Ml(ti:TI)(i:Nat):D->Res
 |.agg cs=>match ti.sh with
  |.struct fs=>match fs[i]? with
   |some (off,sz,ag)=>bif ag then pvc (.agg ((cs.drop off).take sz)) (off+sz<=cs.length) else pvc (nd cs off) (off<cs.length)
   |none=>none
  |_=>none
 |_=>none
theorem Tx{t:TypeId}{ti:TI}(ht:Ak P t=some ti){i:Nat}{d:D}{e:Eff}{c:Prop}(he:Ml ti i d=some (e,c))(hc:c)(hr:Ap w0 M0 I0 fr I mu h w){v:Value}(hv:Rep w I mu d v)(id:Nat):
  AA P (fun w=>(Instr.field t v i).run P w) id e.d e.up w0 M0 I0 fr I mu h w:=by
 cases d with
 |agg cs=>
  simp only[Ml] at he
  split at he
  ·rename_i fs hfs
   split at he
   ·rename_i off sz ag hfi
    obtain⟨l,hl1,hl2⟩:=JX ht hfs
    obtain⟨f,hf1,hf2⟩:=M5 hl2 i _ hfi
    obtain⟨us,rfl,hlu,hrep⟩:=hv.agg_inv
    have hfa:l[i]? =some f:=by simpa using hf1
    unfold Hw at hf2
    split at hf2
    ·rename_i inf dsc hinf hdsc
     simp only[A03,A05] at hf2
     obtain⟨rfl,rfl,rfl⟩:=hf2
     have hag:(isAgg f.type).run P w=.ok (MW dsc) w:=by
      simp only[isAgg,A0e,run_underlying hdsc,Result.andThen]
      cases dsc<;>rfl
     have hsz:(sizeOf f.type).run P w=.ok inf.size w:=by simp[sizeOf,typeInfo,hinf]
     cases ha:MW dsc<;>simp only[ha,cond_true,cond_false,pvc,A03,A05] at he<;>obtain ⟨rfl,rfl⟩:=he
     ·rw[ha] at hag
      refine AA.same hr (nv us f.offset) ?_ (hrep _ hc)
      simp only[Instr.field,A0e,run_underlying hl1,Result.andThen,hfa,asAgg,A0j,part,hag]
      simp[nv,A02,show f.offset<us.length by omega]
     ·rw[ha] at hag
      refine AA.same hr (.agg ((us.drop f.offset).take inf.size).toArray) ?_ (.agg _ _ (by simp;omega) fun j hj=>?_)
      ·simp only[Instr.field,A0e,run_underlying hl1,Result.andThen,hfa,asAgg,A0j,part,hag]
       simp[hsz]
      ·simp only[A0z,A0v] at hj
       have e1:nd ((cs.drop f.offset).take inf.size) j=nd cs (f.offset+j):=by
        simp only[nd,A02];rw[A0n (by omega),A0I]
       have e2:nv ((us.drop f.offset).take inf.size) j=nv us (f.offset+j):=by
        simp only[nv,A02];rw[A0n (by omega),A0I]
       rw[e1,e2]
       exact hrep _ (by omega)
    ·cases hf2
   ·cases he
  ·cases he
 |_=>simp [Ml] at he
def G7(ti:TI)(i:Nat)(d:D):Res:=
 match ti.sh with
 |.struct fs=>match fs[i]? with
  |some (off,sz,_)=>match d with
   |.ptr cs o=>pvc (.ptr cs (o+off)) (sz≠0)
   |.ref b r o s=>pvc (.ref b r (o+off) s) (sz≠0)
   |.gel b r o s=>pvc (.gel b r (o+off) s) (sz≠0)
   |_=>none
  |none=>none
 |_=>none
theorem LF{t:TypeId}{ti:TI}(ht:Ak P t=some ti){i:Nat}{d:D}{e:Eff}{c:Prop}(he:G7 ti i d=some (e,c))(hc:c)(hr:Ap w0 M0 I0 fr I mu h w){v:Value}(hv:Rep w I mu d v)(id:Nat):
  AA P (fun w=>(Instr.fieldAt t v i).run P w) id e.d e.up w0 M0 I0 fr I mu h w:=by
 unfold G7 at he
 split at he
 ·rename_i fs hfs
  split at he
  ·rename_i off sz ag hfi
   obtain⟨l,hl1,hl2⟩:=JX ht hfs
   obtain⟨f,hf1,hf2⟩:=M5 hl2 i _ hfi
   have hfa:l[i]? =some f:=by simpa using hf1
   unfold Hw at hf2
   split at hf2
   ·rename_i inf dsc hinf hdsc
    simp only[A03,A05] at hf2
    obtain⟨rfl,rfl,rfl⟩:=hf2
    have hsz:(sizeOf f.type).run P w=.ok inf.size w:=by simp[sizeOf,typeInfo,hinf]
    have run:∀ k o,inf.size≠0->(Instr.fieldAt t (.pointer (some ⟨k,o,none⟩)) i).run P w=.ok (.pointer (some ⟨k,o+f.offset,none⟩)) w:=by
     intro k o hne
     simp[Instr.fieldAt,run_underlying hl1,hfa,Instr.sureAddr,fieldPlace,hsz,hne,BM]
    split at he
    ·rename_i cs o
     simp only[pvc,A03,A05] at he
     obtain⟨rfl,rfl⟩:=he
     cases hv with
     |ptr _ _ k b u hI hcell hrep=>
      exact AA.same hr _ (run k (b+o) hc) (by rw[A1l];exact .ptr cs (o+f.offset) k b u hI hcell hrep)
    ·rename_i b r o s
     simp only[pvc,A03,A05] at he
     obtain⟨rfl,rfl⟩:=he
     cases hv with
     |ref _ _ _ _ k hk=>exact AA.same hr _ (run k (r*s+o) hc) (by rw[A1l];exact .ref b r (o+f.offset) s k hk)
    ·rename_i b r o s
     simp only[pvc,A03,A05] at he
     obtain⟨rfl,rfl⟩:=he
     cases hv with
     |gel _ _ _ _ k len cap hk=>exact AA.same hr _ (run k (r*s+o) hc) (by rw[A1l];exact .gel b r (o+f.offset) s k len cap hk)
    ·cases he
   ·cases hf2
  ·cases he
 ·cases he
def G5(hp:Nat->Option Blk)(te:TI):D->D->Res
 |.slice es _,.val (.int _ n)=>pvc (.ptr (nr es n.toNat) 0) (0<=n/\n<es.length/\(nr es n.toNat).length=te.sz)
 |.sref b i len _ sz,.val (.int _ n)=>pvc (.ref b (i+n.toNat) 0 sz) (0<=n/\n<len/\sz=te.sz)
 |.gref b len,.val (.int _ n)=>match hp b with
  |some (.grow es _)=>some (⟨.gel b n.toNat 0 te.sz,[],[b]⟩,0<=n/\n<len/\len=es.length)
  |_=>none
 |.gsub b i len sz,.val (.int _ n)=>match hp b with
  |some (.grow es _)=>some (⟨.gel b (i+n.toNat) 0 sz,[],[b]⟩,0<=n/\n<len/\sz=te.sz/\i+len<=es.length)
  |_=>none
 |_,_=>none
theorem LE{t e':TypeId}{ti te:TI}(ht:Ak P t=some ti)(hs:ti.sh=.slice e')(hte:Ak P e'=some te){d i:D}{e:Eff}{c:Prop}{hp:Nat->Option Blk}(he:G5 hp te d i=some (e,c))(hc:c)(hr:Ap w0 M0 I0 fr I mu h w){v x:Value}(hv:Rep w I mu d v)(hx:Rep w I mu i x)(hb:∀ b ∈ e.rd,h b=hp b)(id:Nat):
  AA P (fun w=>(Instr.indexAt t v x).run P w) id e.d e.up w0 M0 I0 fr I mu h w:=by
 have hu:=Aq ht hs
 unfold G5 at he
 split at he
 ·rename_i es tg k n
  simp only[pvc,A03,A05] at he
  obtain⟨rfl,rfl⟩:=he
  obtain⟨h0,h1,h2⟩:=hc
  have hxv:=hx.val_inv
  subst hxv
  cases hv with
  |slice _ _ A k' o sz cap u hA hcp htg hm hlen hcell hrep=>
   have hpos:0<es.length:=by omega
   obtain⟨rfl,hI⟩:=hA hpos
   have hn:n.toNat<es.length:=by omega
   have hsz:sz=te.sz:=by rw[<-h2];exact(hlen _ hn).symm
   refine AA.same hr (.pointer (some ⟨k',o+n.toNat*sz+0,none⟩)) ?_ (.ptr _ 0 k' (o+n.toNat*sz) (fun j=>u n.toNat j) (fun h=>hI (by rw[<-hlen _ hn];exact h)) (fun j hj=>?_) fun j hj=>?_)
   ·subst hsz
    simp[Instr.indexAt,asIntOf,run_underlying hu,AS hte,h0,h1,BM]
   ·rw[hlen _ hn] at hj
    rw[A1l];exact hcell _ j hn hj
   ·rw[hlen _ hn] at hj
    exact hrep _ j hn hj
 ·rename_i b i len cap sz k n
  simp only[pvc,A03,A05] at he
  obtain⟨rfl,rfl⟩:=he
  obtain⟨h0,h1,h2⟩:=hc
  have hxv:=hx.val_inv
  subst hxv
  cases hv with
  |sref _ _ _ _ _ k' hk=>
   refine AA.same hr (.pointer (some ⟨k',(i+n.toNat)*sz+0,none⟩)) ?_ (.ref b (i+n.toNat) 0 sz k' hk)
   subst h2
   simp[Instr.indexAt,asIntOf,run_underlying hu,AS hte,h0,h1,BM,A19]
 ·rename_i b len k n
  split at he
  ·rename_i es sz' hx'
   simp only[A03,A05] at he
   obtain⟨rfl,rfl⟩:=he
   obtain⟨h0,h1,h2⟩:=hc
   have hxv:=hx.val_inv
   subst hxv
   obtain⟨A,cap,T,us,g1,g2,g3,g4⟩:=hr.blk b _ ((hb b (by simp)).trans hx')
   cases hv with
   |gref _ _ A' cap' hk=>
    rw[g1] at hk
    simp only[A03,A0N] at hk
    obtain⟨rfl,hl,rfl⟩:=hk
    rcases g4 with⟨_,rfl⟩|⟨k',q0,rfl,q2,q3,q4,q5⟩
    ·simp at h2;omega
    refine AA.same hr (.pointer (some ⟨k',n.toNat*te.sz+0,none⟩)) ?_ (.gel b n.toNat 0 te.sz k' es.length cap g1)
    simp[Instr.indexAt,asIntOf,run_underlying hu,AS hte,h0,h1,BM]
  ·cases he
 ·rename_i b i len sz k n
  split at he
  ·rename_i es sz' hx'
   simp only[A03,A05] at he
   obtain⟨rfl,rfl⟩:=he
   obtain⟨h0,h1,h2,h3⟩:=hc
   have hxv:=hx.val_inv
   subst hxv
   obtain⟨A,cap,T,us,g1,g2,g3,g4⟩:=hr.blk b _ ((hb b (by simp)).trans hx')
   cases hv with
   |gsub _ _ _ _ A' B n' cap' hk hle hB=>
    rw[g1] at hk
    simp only[A03,A0N] at hk
    obtain⟨rfl,hl,rfl⟩:=hk
    rcases g4 with⟨_,rfl⟩|⟨k',q0,rfl,q2,q3,q4,q5⟩
    ·simp at h3;omega
    have hBB:=hB (.inl (by omega))
    subst hBB
    refine AA.same hr (.pointer (some ⟨k',(i+n.toNat)*sz+0,none⟩)) ?_ (.gel b (i+n.toNat) 0 sz k' es.length cap g1)
    subst h2
    simp[Instr.indexAt,asIntOf,run_underlying hu,AS hte,h0,h1,BM,A19]
  ·cases he
 ·cases he
def BT(s:ByteArray)(n:Int):Int:=((s.data.toList.getD n.toNat 0).toNat:Int)
theorem Yf(s:ByteArray)(n:Int):okP (.int .u8 (BT s n)):=by
 have:=(s.data.toList.getD n.toNat 0).toNat_lt
 simp only[okP,BT,D2,D3];omega
def Qc(ti:TI):D->D->Res
 |.val (.string s),.val (.int _ n)=>match ti.sh with
  |.str=>pvc (.val (.int .u8 (BT s n))) (0<=n/\n<s.size)
  |_=>none
 |_,_=>none
theorem Tw{t:TypeId}{ti:TI}(ht:Ak P t=some ti){d i:D}{e:Eff}{c:Prop}(he:Qc ti d i=some (e,c))(hc:c)(hr:Ap w0 M0 I0 fr I mu h w){v x:Value}(hv:Rep w I mu d v)(hx:Rep w I mu i x)(id:Nat):
  AA P (fun w=>(Instr.index t v x).run P w) id e.d e.up w0 M0 I0 fr I mu h w:=by
 unfold Qc at he
 split at he
 ·rename_i s k n
  split at he
  ·rename_i hsh
   simp only[pvc,A03,A05] at he
   obtain⟨rfl,rfl⟩:=he
   have hxv:=hx.val_inv
   have hvv:=hv.val_inv
   subst hxv hvv
   obtain⟨h0,h1⟩:=hc
   have hlt:n.toNat<s.size:=by omega
   refine AA.same hr _ ?_ (.val _ (Yf _ _))
   have:s[n.toNat]? =some s[n.toNat]:=getElem?_pos s n.toNat hlt
   have hb:s[n.toNat]=s.data.toList.getD n.toNat 0:=by
    have hlt':n.toNat<s.data.size:=hlt
    simp only[A02,Array.getElem?_toList,A0W hlt',A0J]
    rfl
   simp only[Instr.index,asIntOf,A0e,A0j,Result.andThen,run_underlying (JY ht hsh),h0,if_true,this,BT,hb]
  ·cases he
 ·cases he
end
section
variable{P:Program}{w0:World}{M0:Nat->Prop}{I0:Gh}{fr I:Nat->Prop}{mu:Nat->Option Value}{h:Nat->Option Blk}{w:World}
def Z8:D->Option Bool
 |.val (.pointer none)=>some true
 |.ptr _ _=>some false
 |.ref _ _ _ _=>some false
 |_=>none
theorem Nw{d:D}{b:Bool}(hd:Z8 d=some b){v:Value}(hv:Rep w I mu d v):∃ a:Option Addr,v=.pointer a/\a.isNone=b:=by
 unfold Z8 at hd
 split at hd
 ·simp only[A03] at hd;subst hd;exact⟨none,hv.val_inv,rfl⟩
 ·simp only[A03] at hd;subst hd;cases hv;exact⟨_,rfl,rfl⟩
 ·simp only[A03] at hd;subst hd;cases hv;exact⟨_,rfl,rfl⟩
 ·cases hd
def binE(P:Program)(op:BinOp)(T:TypeId)(x y:D):Res:=
 match x,y with
 |.val (.int k a),.val (.int k' b)=>match Kn op k a k' b with
  |some (r,c)=>pvc (.val r) c
  |none=>none
 |.val (.string a),.val (.string b)=>match JZ op a b with
  |some (r,c)=>pvc (.val r) c
  |none=>none
 |.val (.bool a),.val (.bool b)=>match Ak P T with
  |some ti=>match ti.sh,op with
   |.bool,.eql=>pv (.val (.bool (a==b)))
   |.bool,.neq=>pv (.val (.bool (!(a==b))))
   |_,_=>none
  |none=>none
 |x,y=>match Z8 x,Z8 y,Ak P T with
  |some a,some b,some ti=>match ti.sh,op with
   |.ptr _,.eql=>bif a then pv (.val (.bool b)) else bif b then pv (.val (.bool false)) else none
   |.ptr _,.neq=>bif a then pv (.val (.bool (!b))) else bif b then pv (.val (.bool true)) else none
   |_,_=>none
  |_,_,_=>none
theorem BP(op:BinOp)(t:TypeId)(x y:Operand)(a b:Value)(h1:∀ z,a≠ .agg z)(h2:a≠ .nilIface):(eqGuard op t x y a b).run P w=.ok () w:=by
 unfold eqGuard
 cases op<;>simp<;>(cases a<;>simp at h1 h2|-)
theorem L2(d:Nat){T e:TypeId}(hu:P.underlying T=some (.pointer e))(p q:Option Addr)(hpq:p.isNone=true∨q.isNone=true):(Op.equalIn (d+1) T (.pointer p) (.pointer q)).run P w=.ok (p.isNone&&q.isNone) w:=by
 cases p<;>cases q<;>simp at hpq<;>simp [Op.equalIn,run_underlying hu]
theorem HO{T e:TypeId}(hu:P.underlying T=some (.pointer e))(p q:Option Addr)(hpq:p.isNone=true∨q.isNone=true):(Op.equal T (.pointer p) (.pointer q)).run P w=.ok (p.isNone&&q.isNone) w:=L2 9999 hu p q hpq
theorem Yw{op:BinOp}{T:TypeId}{dx dy:D}{e:Eff}{c:Prop}(he:binE P op T dx dy=some (e,c))(hc:c)(hr:Ap w0 M0 I0 fr I mu h w){ox oy:Operand}{x y:Value}(hx:Rep w I mu dx x)(hy:Rep w I mu dy y)(id:Nat):
  AA P (fun w=>(do eqGuard op T ox oy x y;binOp op T x y:Sem Value).run P w) id e.d e.up w0 M0 I0 fr I mu h w:=by
 unfold binE at he
 split at he
 ·rename_i k a k' b
  split at he
  ·rename_i r c' hb
   simp only[pvc,A03,A05] at he
   obtain⟨rfl,rfl⟩:=he
   have:=hx.val_inv;have:=hy.val_inv;subst x y
   exact AA.same hr r (by simp[BP,TD hb hc]) (.val _ (X5 hb hc hx.val_ok))
  ·cases he
 ·rename_i a b
  split at he
  ·rename_i r c' hb
   simp only[pvc,A03,A05] at he
   obtain⟨rfl,rfl⟩:=he
   have:=hx.val_inv;have:=hy.val_inv;subst x y
   exact AA.same hr r (by simp[BP,TC hb hc]) (.val _ (VW hb hc))
  ·cases he
 ·rename_i a b
  have:=hx.val_inv;have:=hy.val_inv;subst x y
  split at he
  ·rename_i ti ht
   split at he
   ·rename_i hsh
    simp only[pv,A03,A05] at he
    obtain⟨rfl,rfl⟩:=he
    exact AA.same hr _ (by simp[BP,run_eql_bool w T a b (UU ht hsh)]) (.val _ trivial)
   ·rename_i hsh
    simp only[pv,A03,A05] at he
    obtain⟨rfl,rfl⟩:=he
    exact AA.same hr _ (by simp[BP,run_neq_bool w T a b (UU ht hsh)]) (.val _ trivial)
   ·cases he
  ·cases he
 ·split at he
  ·rename_i a b ti ha hb ht
   obtain⟨p,rfl,hp⟩:=Nw ha hx
   obtain⟨q,rfl,hq⟩:=Nw hb hy
   split at he
   ·rename_i e' hsh
    have hu:=Ya ht hsh
    have run:(p.isNone=true∨q.isNone=true)->(binOp .eql T (.pointer p) (.pointer q)).run P w=.ok (.bool (p.isNone&&q.isNone)) w:=by
     intro hpq
     simp only[binOp,A0e,HO hu p q hpq,Result.andThen,A0j]
    cases a<;>cases b<;>simp only[cond_true,cond_false,pv,A03,A05,reduceCtorEq] at he<;>obtain ⟨rfl,rfl⟩:=he<;>
     exact AA.same hr _ (by simp[BP];rw[run (by simp[hp,hq]),hp,hq]<;>rfl) (.val _ trivial)
   ·rename_i e' hsh
    have hu:=Ya ht hsh
    have run:(p.isNone=true∨q.isNone=true)->(binOp .neq T (.pointer p) (.pointer q)).run P w=.ok (.bool (!(p.isNone&&q.isNone))) w:=by
     intro hpq
     simp only[binOp,A0e,HO hu p q hpq,Result.andThen,A0j]
    cases a<;>cases b<;>simp only[cond_true,cond_false,pv,A03,A05,reduceCtorEq] at he<;>obtain ⟨rfl,rfl⟩:=he<;>
     exact AA.same hr _ (by simp[BP];rw[run (by simp[hp,hq]),hp,hq]<;>rfl) (.val _ trivial)
   ·cases he
  ·cases he
def V5(P:Program)(op:BinOp)(T:TypeId):D->Res
 |.slice es _=>match Ak P T with
  |some ti=>match ti.sh,op with
   |.slice _,.eql=>pv (.abool es.length true)
   |.slice _,.neq=>pv (.abool es.length false)
   |_,_=>none
  |none=>none
 |_=>none
theorem Gl(d:Nat){T k e:TypeId}(hu:P.underlying T=some (.map k e))(m:Option Nat):(Op.equalIn (d+1) T (.map m) (.map none)).run P w=.ok m.isNone w:=by
 unfold Op.equalIn
 simp only[A0e,run_underlying hu,Result.andThen]
 cases m<;>rfl
def Z7:D->Option Bool
 |.mref _=>some false
 |.val (.map none)=>some true
 |_=>none
def V6(P:Program)(op:BinOp)(T:TypeId)(d:D):Res:=
 match Z7 d,Ak P T with
 |some b,some ti=>match ti.sh,op with
  |.map _ _,.eql=>pv (.val (.bool b))
  |.map _ _,.neq=>pv (.val (.bool (!b)))
  |_,_=>none
 |_,_=>none
theorem Wh{op:BinOp}{T:TypeId}{dx:D}{e:Eff}{c:Prop}(he:V6 P op T dx=some (e,c))(hr:Ap w0 M0 I0 fr I mu h w){ox oy:Operand}{x:Value}(hx:Rep w I mu dx x)(id:Nat):
  AA P (fun w=>(do eqGuard op T ox oy x (.map none);binOp op T x (.map none):Sem Value).run P w) id e.d e.up w0 M0 I0 fr I mu h w:=by
 unfold V6 at he
 split at he
 ·rename_i b ti hb ht
  have key:∃ m:Option Nat,x=.map m/\m.isNone=b:=by
   unfold Z7 at hb
   split at hb
   ·simp only[A03] at hb;subst hb
    cases hx with|mref _ k hk=>exact ⟨some k,rfl,rfl⟩
   ·simp only[A03] at hb;subst hb
    exact⟨none,hx.val_inv,rfl⟩
   ·cases hb
  obtain⟨m,rfl,rfl⟩:=key
  have run:∀ {k e':TypeId},P.underlying T=some (.map k e')->(Op.equal T (.map m) (.map none)).run P w=.ok m.isNone w:=by
   intro k e' hu
   exact Gl 9999 hu m
  split at he
  ·rename_i k e' hsh
   simp only[pv,A03,A05] at he
   obtain⟨rfl,rfl⟩:=he
   exact AA.same hr (.bool m.isNone) (by simp[BP];simp only[binOp,A0e,run (Gw ht hsh),Result.andThen,A0j]) (.val _ trivial)
  ·rename_i k e' hsh
   simp only[pv,A03,A05] at he
   obtain⟨rfl,rfl⟩:=he
   exact AA.same hr (.bool (!m.isNone)) (by simp[BP];simp only[binOp,A0e,run (Gw ht hsh),Result.andThen,A0j];simp) (.val _ trivial)
  ·cases he
 ·cases he
def binX(P:Program)(op:BinOp)(T:TypeId)(dx:D)(y:Operand)(dy:D):Res:=
 match y with
 |.const (.slice none 0 0)=>V5 P op T dx
 |.const (.map none)=>V6 P op T dx
 |_=>binE P op T dx dy
theorem Wg{op:BinOp}{T:TypeId}{dx:D}{e:Eff}{c:Prop}(he:V5 P op T dx=some (e,c))(hr:Ap w0 M0 I0 fr I mu h w){ox oy:Operand}{x:Value}(hx:Rep w I mu dx x)(id:Nat):
  AA P (fun w=>(do eqGuard op T ox oy x (.slice none 0 0);binOp op T x (.slice none 0 0):Sem Value).run P w) id e.d e.up w0 M0 I0 fr I mu h w:=by
 unfold V5 at he
 split at he
 ·rename_i es t
  split at he
  ·rename_i ti ht
   have key:∃ A n cap,x=.slice A n cap/\(A.isNone=true->es.length=0):=by
    cases hx with
    |slice _ _ A k o sz cap u hA=>
     refine⟨_,_,_,rfl,fun h=>?_⟩
     rcases A17 es.length with h0|h0
     ·exact h0
     ·rw[(hA h0).1] at h;cases h
   obtain⟨A,n,cap,rfl,hn⟩:=key
   split at he
   ·rename_i e' hsh
    simp only[pv,A03,A05] at he
    obtain⟨rfl,rfl⟩:=he
    exact AA.same hr (.bool A.isNone) (by simp[BP];exact Lib.run_eql_slice_nil _ _ _ _ _ _ _ _ (QX ht hsh)) (.abool _ _ _ hn)
   ·rename_i e' hsh
    simp only[pv,A03,A05] at he
    obtain⟨rfl,rfl⟩:=he
    exact AA.same hr (.bool (!A.isNone)) (by have h5:=run_neq_slice_nil_any (P:=P) w T e' A n cap 0 0 (QX ht hsh);simp only[Option.not_isNone] at h5;simp[BP];exact h5) (.abool _ _ _ fun h=>hn (by simpa using h))
   ·cases he
  ·cases he
 ·cases he
def unE(op:UnOp):D->Res
 |.val (.bool b)=>match op with
  |.not=>pv (.val (.bool (!b)))
  |_=>none
 |.val (.int k n)=>match op with
  |.neg=>pv (.val (.int k (k.wrap (0-n))))
  |.xor=>pv (.val (.int k (bits .xor k (if k.signed then-1 else k.max) n)))
  |_=>none
 |.abool n pos=>match op with
  |.not=>pv (.abool n (!pos))
  |_=>none
 |_=>none
theorem runs_un{op:UnOp}{d:D}{e:Eff}{c:Prop}(he:unE op d=some (e,c))(hr:Ap w0 M0 I0 fr I mu h w){v:Value}(hv:Rep w I mu d v)(id:Nat):AA P (fun w=>(Op.unary op v).run P w) id e.d e.up w0 M0 I0 fr I mu h w:=by
 unfold unE at he
 split at he
 ·have:=hv.val_inv;subst v
  split at he
  ·simp only[pv,A03,A05] at he
   obtain⟨rfl,rfl⟩:=he
   exact AA.same hr _ (by simp[Op.unary]) (.val _ trivial)
  ·cases he
 ·have:=hv.val_inv;subst v
  split at he
  ·simp only[pv,A03,A05] at he
   obtain⟨rfl,rfl⟩:=he
   exact AA.same hr _ (by simp[Op.unary,Op.intArith]) (.val _ (F3 _ _))
  ·simp only[pv,A03,A05] at he
   obtain⟨rfl,rfl⟩:=he
   exact AA.same hr _ (by simp[Op.unary,intBits_xor]) (.val _ (by unfold bits;exact F3 _ _))
  ·cases he
 ·cases hv with
  |abool _ _ b hb=>
  split at he
  ·simp only[pv,A03,A05] at he
   obtain⟨rfl,rfl⟩:=he
   exact AA.same hr (.bool (!b)) (by simp[Op.unary]) (.abool _ _ _ fun h=>hb (by simpa using h))
  ·cases he
 ·cases he
def Vr(ts td:TI):D->Res
 |.val (.int k n)=>match td.sh with
  |.int k'=>pv (.val (.int k' (k'.wrap n)))
  |_=>none
 |.val (.string s)=>match td.sh with
  |.str=>pv (.val (.string s))
  |_=>none
 |_=>none
theorem Wm{src dst:TypeId}{ts td:TI}(hs:Ak P src=some ts)(ht:Ak P dst=some td){d:D}{e:Eff}{c:Prop}(he:Vr ts td d=some (e,c))(hr:Ap w0 M0 I0 fr I mu h w){v:Value}(hv:Rep w I mu d v)(id:Nat):
  AA P (fun w=>(convert src dst v).run P w) id e.d e.up w0 M0 I0 fr I mu h w:=by
 obtain⟨i,ds,z,_,hsu,_⟩:=B9 hs
 unfold Vr at he
 split at he
 ·have:=hv.val_inv;subst v
  split at he
  ·rename_i hsh
   simp only[pv,A03,A05] at he
   obtain⟨rfl,rfl⟩:=he
   exact AA.same hr _ (by simp[convert,run_underlying hsu,run_underlying (PA ht hsh),Conv.intToInt]) (.val _ (F3 _ _))
  ·cases he
 ·have:=hv.val_inv;subst v
  split at he
  ·rename_i hsh
   simp only[pv,A03,A05] at he
   obtain⟨rfl,rfl⟩:=he
   exact AA.same hr _ (by simp[convert,run_underlying hsu,run_underlying (JY ht hsh)]) (.val _ hv.val_ok)
  ·cases he
 ·cases he
def H4(i:Nat):D->Res
 |.tup cs=>pvc (nd cs i) (i<cs.length)
 |_=>none
theorem PK{i:Nat}{d:D}{e:Eff}{c:Prop}(he:H4 i d=some (e,c))(hc:c)(hr:Ap w0 M0 I0 fr I mu h w){v:Value}(hv:Rep w I mu d v)(id:Nat):AA P (fun w=>(Instr.extract v i).run P w) id e.d e.up w0 M0 I0 fr I mu h w:=by
 cases d with
 |tup cs=>
  simp only[H4,pvc,A03,A05] at he
  obtain⟨rfl,rfl⟩:=he
  obtain⟨us,rfl,hl,hrep⟩:=hv.tup_inv
  refine AA.same hr (nv us i) ?_ (hrep i hc)
  simp[Instr.extract,nv,A02,show i<us.length by omega]
 |_=>simp [H4] at he
def lenE(hp:Nat->Option Blk)(ti:TI):D->Res
 |.slice es _=>match ti.sh with
  |.slice _=>pv (.val (.int .i64 es.length))
  |_=>none
 |.sref _ _ len _ _=>match ti.sh with
  |.slice _=>pvc (.val (.int .i64 len)) (len<=9223372036854775807)
  |_=>none
 |.gref _ len=>match ti.sh with
  |.slice _=>pvc (.val (.int .i64 len)) (len<=9223372036854775807)
  |_=>none
 |.gsub _ _ len _=>match ti.sh with
  |.slice _=>pvc (.val (.int .i64 len)) (len<=9223372036854775807)
  |_=>none
 |.val (.string s)=>match ti.sh with
  |.str=>pv (.val (.int .i64 s.size))
  |_=>none
 |.mref b=>match ti.sh,hp b with
  |.map _ _,some (.map es _)=>some (⟨.val (.int .i64 es.length),[],[b]⟩,es.length<=9223372036854775807)
  |_,_=>none
 |.val (.map none)=>match ti.sh with
  |.map _ _=>pv (.val (.int .i64 0))
  |_=>none
 |_=>none
theorem Ys{t ty:TypeId}{ti:TI}(ht:Ak P t=some ti){hp:Nat->Option Blk}{d:D}{e:Eff}{c:Prop}(he:lenE hp ti d=some (e,c))(hc:c)(hr:Ap w0 M0 I0 fr I mu h w){v:Value}(hv:Rep w I mu d v)(hb:∀ b ∈ e.rd,h b=hp b)(id:Nat):
  AA P (fun w=>(Builtin.len_ #[t] ty #[v]).run P w) id e.d e.up w0 M0 I0 fr I mu h w:=by
 unfold lenE at he
 split at he
 ·split at he
  ·rename_i hsh
   simp only[pv,A03,A05] at he
   obtain⟨rfl,rfl⟩:=he
   cases hv with
   |slice es _ A k o sz cap u hA hcp _ hmx=>exact AA.same hr _ (by simp[Builtin.len_,run_underlying (Aq ht hsh),goInt]) (.val _ (by simp only[okP,D2,D3];simp only[maxLen] at hmx;omega))
  ·cases he
 ·split at he
  ·rename_i hsh
   simp only[pvc,A03,A05] at he
   obtain⟨rfl,rfl⟩:=he
   cases hv with
   |sref _ _ _ _ _ k hk=>exact AA.same hr _ (by simp[Builtin.len_,run_underlying (Aq ht hsh),goInt]) (.val _ (by simp only[okP,D2,D3];omega))
  ·cases he
 ·split at he
  ·rename_i hsh
   simp only[pvc,A03,A05] at he
   obtain⟨rfl,rfl⟩:=he
   cases hv with
   |gref _ _ A cap hk=>exact AA.same hr _ (by simp[Builtin.len_,run_underlying (Aq ht hsh),goInt]) (.val _ (by simp only[okP,D2,D3];omega))
  ·cases he
 ·split at he
  ·rename_i hsh
   simp only[pvc,A03,A05] at he
   obtain⟨rfl,rfl⟩:=he
   cases hv with
   |gsub _ _ _ _ A B n cap hk hle hB=>exact AA.same hr _ (by simp[Builtin.len_,run_underlying (Aq ht hsh),goInt]) (.val _ (by simp only[okP,D2,D3];omega))
  ·cases he
 ·split at he
  ·rename_i hsh
   simp only[pv,A03,A05] at he
   obtain⟨rfl,rfl⟩:=he
   have hok:=hv.val_ok;have:=hv.val_inv;subst v
   exact AA.same hr _ (by simp[Builtin.len_,run_underlying (JY ht hsh),goInt]) (.val _ (by simp only[okP,D2,D3] at hok|-;omega))
  ·cases he
 ·rename_i b
  split at he
  ·rename_i k e' es ck hsh hx
   simp only[A03,A05] at he
   obtain⟨rfl,rfl⟩:=he
   have hhb:=(hb b (by simp)).trans hx
   obtain⟨k,l,h1,h2,h3,h4,h5⟩:=hr.blk b _ hhb
   cases hv with
   |mref _ k' hk=>
    rw[h1] at hk
    simp only[A03,Value.map.injEq] at hk
    subst hk
    have hl:l.length=es.length:=by have:=congrArg List.length h3;simpa using this
    exact AA.same hr _ (by
     simp[Builtin.len_,run_underlying (Gw ht hsh),goInt,getObj,Sem.run,h2,hl]) (.val _ (by simp only[okP,D2,D3];omega))
  ·cases he
 ·split at he
  ·rename_i hsh
   simp only[pv,A03,A05] at he
   obtain⟨rfl,rfl⟩:=he
   have:=hv.val_inv;subst v
   exact AA.same hr _ (by simp[Builtin.len_,run_underlying (Gw ht hsh),goInt]) (.val _ (by simp[okP,D2,D3]))
  ·cases he
 ·cases he
def minE:D->D->Res
 |.val (.int k x),.val (.int k' y)=>if k'=k then pv (.val (.int k (if y<x then y else x))) else none
 |_,_=>none
def maxE:D->D->Res
 |.val (.int k x),.val (.int k' y)=>if k'=k then pv (.val (.int k (if y>x then y else x))) else none
 |_,_=>none
theorem Yq{ts:Array TypeId}{t:TypeId}{dx dy:D}{e:Eff}{c:Prop}(he:minE dx dy=some (e,c))(hr:Ap w0 M0 I0 fr I mu h w){x y:Value}(hx:Rep w I mu dx x)(hy:Rep w I mu dy y)(id:Nat):AA P (fun w=>(Builtin.min_ ts t #[x,y]).run P w) id e.d e.up w0 M0 I0 fr I mu h w:=by
 unfold minE at he
 split at he
 ·split at he
  case isFalse=>cases he
  rename_i hk
  subst hk
  simp only[pv,A03,A05] at he
  obtain⟨rfl,rfl⟩:=he
  have:=hx.val_inv;have:=hy.val_inv;subst x y
  exact AA.same hr _ (run_min_int2 w ts t _ _ _ _) (.val _ (by have h1:=hx.val_ok;have h2:=hy.val_ok;simp only[okP] at h1 h2|-;split<;>assumption))
 ·cases he
theorem Yr{ts:Array TypeId}{t:TypeId}{dx dy:D}{e:Eff}{c:Prop}(he:maxE dx dy=some (e,c))(hr:Ap w0 M0 I0 fr I mu h w){x y:Value}(hx:Rep w I mu dx x)(hy:Rep w I mu dy y)(id:Nat):AA P (fun w=>(Builtin.max_ ts t #[x,y]).run P w) id e.d e.up w0 M0 I0 fr I mu h w:=by
 unfold maxE at he
 split at he
 ·split at he
  case isFalse=>cases he
  rename_i hk
  subst hk
  simp only[pv,A03,A05] at he
  obtain⟨rfl,rfl⟩:=he
  have:=hx.val_inv;have:=hy.val_inv;subst x y
  exact AA.same hr _ (run_max_int2 w ts t _ _ _ _) (.val _ (by have h1:=hx.val_ok;have h2:=hy.val_ok;simp only[okP] at h1 h2|-;split<;>assumption))
 ·cases he
end
section
variable{P:Program}{w0:World}{M0:Nat->Prop}{I0:Gh}{fr I:Nat->Prop}{mu:Nat->Option Value}{h:Nat->Option Blk}{w:World}
def bnd:Option D->Int->Option Int
 |none,d=>some d
 |some (.val (.int _ n)),_=>some n
 |some _,_=>none
def Ef(w:World)(I:Nat->Prop)(mu:Nat->Option Value):Option D->Option Value->Prop
 |none,none=>True
 |some x,some y=>Rep w I mu x y
 |_,_=>False
def K1(ti:TI)(te:TI)(x:D)(lo hi:Option D):Res:=
 match x with
 |.val (.string s)=>match ti.sh with
  |.str=>match bnd lo 0,bnd hi s.size with
   |some l,some r=>pvc (.val (.string (s.extract l.toNat r.toNat))) (0<=l/\l<=r/\r<=s.size)
   |_,_=>none
  |_=>none
 |.slice es t=>match ti.sh with
  |.slice _=>match bnd lo 0,bnd hi es.length with
   |some l,some r=>pvc (.slice ((es.drop l.toNat).take (r.toNat-l.toNat)) (t&&hi.isNone)) (0<=l/\l<=r/\r<=es.length/\∀ x ∈ es,x.length=te.sz)
   |_,_=>none
  |_=>none
 |.sref b i len cap sz=>match ti.sh with
  |.slice _=>match bnd lo 0,bnd hi len with
   |some l,some r=>pvc (bif l.toNat==0 ||decide (l.toNat<cap) then .sref b (i+l.toNat) (r.toNat-l.toNat) (cap-l.toNat) sz else .slice [] true) (0<=l/\l<=r/\r<=cap/\sz=te.sz/\len<=cap)
   |_,_=>none
  |_=>none
 |_=>none
theorem CO{o:Option D}{v:Option Value}{d n:Int}(hb:bnd o d=some n)(hv:Ef w I mu o v):
  (o=none/\v=none/\n=d)∨(∃ k,v=some (.int k n)/\o.isNone=false):=by
 cases o with
 |none=>cases v with
  |none=>simp only[bnd,A03] at hb;exact .inl ⟨rfl,rfl,hb.symm⟩
  |some y=>exact hv.elim
 |some x=>cases v with
  |none=>exact hv.elim
  |some y=>
   have hr:Rep w I mu x y:=hv
   cases x<;>simp only[bnd] at hb<;>try (cases hb;done)
   rename_i z
   cases z<;>simp only[reduceCtorEq,A03] at hb
   subst hb
   exact .inr ⟨_,by rw[hr.val_inv],rfl⟩
theorem FO{t e':TypeId}{te:TI}(hu:P.underlying t=some (.slice e'))(hte:Ak P e'=some te)(A:Option Addr)(len cap:Nat)(lo hi:Option Value)(l r:Int)(h0:0<=l)(h1:l<=r)(h2:r<=cap)
  (hl:(lo=none/\l=0)∨∃ k,lo=some (.int k l)) (hr:(hi=none/\r=len)∨∃ k,hi=some (.int k r)) (hlc:len<=cap):
  (Instr.sliceAt t (.slice A len cap) lo hi none).run P w=.ok (.slice (if cap=l.toNat then A else A.map (·.add (l.toNat*te.sz))) (r.toNat-l.toNat) (cap-l.toNat)) w:=by
 have he:P.elem t=e':=by simp[Program.elem,hu]
 have hu':P.underlying t=some (.slice (P.elem t)):=by rw[he];exact hu
 rw[run_sliceAt_slice w t _ _ _ _ hu']
 have hs:(sizeOf (P.elem t)).run P w=.ok te.sz w:=by rw[he];exact AS hte w
 rcases hl with⟨rfl,rfl⟩|⟨k,rfl⟩<;>rcases hr with⟨rfl,rfl⟩|⟨k',rfl⟩
 ·rw[run_slice_all w t A len cap hu',hs];simp[sliced]
 ·rw[run_slice_h w t A len cap hu' k' r h1 h2,hs];simp[sliced]
 ·rw[run_slice_l w t A len cap hu' k l h0 h1,hs];simp[sliced]
 ·rw[run_slice_lh w t A len cap hu' k k' l r h0 h1 h2,hs];simp[sliced]
theorem J8{t e':TypeId}{ti te:TI}(ht:Ak P t=some ti)(hte:(∃ s,ti.sh=s/\s=.str)∨(ti.sh=.slice e'/\Ak P e'=some te)){x:D}{lo hi:Option D}{e:Eff}{c:Prop}(he:K1 ti te x lo hi=some (e,c))(hc:c)(hr:Ap w0 M0 I0 fr I mu h w){v:Value}{vl vh:Option Value}
  (hv:Rep w I mu x v) (hl:Ef w I mu lo vl) (hh:Ef w I mu hi vh) (id:Nat):
  AA P (fun w=>(Instr.sliceAt t v vl vh none).run P w) id e.d e.up w0 M0 I0 fr I mu h w:=by
 unfold K1 at he
 split at he
 ·rename_i s
  split at he
  case h_2=>cases he
  rename_i hsh
  split at he
  ·rename_i l r hbl hbr
   simp only[pvc,A03,A05] at he
   obtain⟨rfl,rfl⟩:=he
   obtain⟨h0,h1,h2⟩:=hc
   have hv0:=hv.val_ok;have hvv:=hv.val_inv;subst hvv
   have hu:=JY ht hsh
   refine AA.same hr (.string (s.extract l.toNat r.toNat)) ?_ (.val _ (by have:=hv0;simp only[okP,ByteArray.size_extract] at this|-;omega))
   show(Instr.sliceAt t (.string s) vl vh none).run P w=_
   rw[run_sliceAt_string w t _ _ _ _ hu]
   rcases CO hbl hl with⟨rfl,rfl,rfl⟩|⟨k,rfl,hkn⟩<;>rcases CO hbr hh with⟨rfl,rfl,rfl⟩|⟨k',rfl,hkn'⟩
   ·have:=run_slice_string_all w t s hu;simpa using this
   ·exact run_slice_string_h w t s hu k' r h1 h2
   ·have:=run_slice_string_l w t s hu k l h0 h1;simpa using this
   ·have eh:(r.toNat:Int)=r:=Int.toNat_of_nonneg (by omega)
    simp[Instr.slice,run_underlying hu,Instr.sliceBounds,run_sliceBound,h0,h1,h2,(by omega:0<=r),eh]
  ·cases he
 ·rename_i es tg
  split at he
  case h_2=>cases he
  rename_i e'' hsh
  rcases hte with⟨s,hs1,hs2⟩|⟨hs1,hte⟩
  ·rw[hs2] at hs1;rw[hs1] at hsh;cases hsh
  have hu:=Aq ht hs1
  split at he
  ·rename_i l r hbl hbr
   simp only[pvc,A03,A05] at he
   obtain⟨rfl,rfl⟩:=he
   obtain⟨h0,h1,h2,hsz⟩:=hc
   cases hv with
   |slice _ _ A k o sz cap u hA hcp htg hm hlen hcell hrep=>
    have run:=FO (P:=P) (w:=w) hu hte A es.length cap vl vh l r h0 h1 (by omega) (by
      rcases CO hbl hl with⟨rfl,rfl,rfl⟩|⟨k,rfl,_⟩
      ·exact .inl ⟨rfl,rfl⟩
      ·exact .inr ⟨k,rfl⟩) (by
      rcases CO hbr hh with⟨rfl,rfl,rfl⟩|⟨k,rfl,_⟩
      ·exact .inl ⟨rfl,rfl⟩
      ·exact .inr ⟨k,rfl⟩) hcp
    refine AA.same hr _ run ?_
    have hlen':((es.drop l.toNat).take (r.toNat-l.toNat)).length=r.toNat-l.toNat:=by simp;omega
    have hnr:∀ i,i<r.toNat-l.toNat->nr ((es.drop l.toNat).take (r.toNat-l.toNat)) i=nr es (l.toNat+i):=by
     intro i hi
     simp only[nr,A02]
     rw[A0n hi,A0I]
    have key:Rep w I mu (.slice ((es.drop l.toNat).take (r.toNat-l.toNat)) (tg&&hi.isNone)) (.slice (if cap=l.toNat then A else A.map (·.add (l.toNat*te.sz))) ((es.drop l.toNat).take (r.toNat-l.toNat)).length (cap-l.toNat)):=?_
    ·rw[hlen'] at key;exact key
    refine .slice _ _ _ k (o+l.toNat*sz) sz (cap-l.toNat) (fun i j=>u (l.toNat+i) j) (fun hpos=>?_) (by rw[hlen'];omega) (fun htt=>?_) (by omega) (fun i hi=>?_) (fun i j hi hj=>?_) (fun i j hi hj=>?_)
    ·rw[hlen'] at hpos
     obtain⟨rfl,hI⟩:=hA (by omega)
     have hsz':sz=te.sz:=by rw[<-hlen 0 (by omega)];exact hsz _ (by simp[nr,A02,show 0<es.length by omega])
     rw[if_neg (by omega),hsz']
     exact⟨by simp[BM],fun h=>hI (by rw[hsz'];exact h)⟩
    ·rw[hlen']
     simp only[A07] at htt
     have:=htg htt.1
     rcases CO hbr hh with⟨_,_,rfl⟩|⟨k,_,hkn⟩
     ·omega
     ·rw[htt.2] at hkn;cases hkn
    ·rw[hlen'] at hi;rw[hnr i hi];exact hlen _ (by omega)
    ·rw[hlen'] at hi
     have:=hcell (l.toNat+i) j (by omega) hj
     rw[<-this]
     congr 2
     rw[A19];omega
    ·rw[hlen'] at hi;rw[hnr i hi];exact hrep _ j (by omega) hj
  ·cases he
 ·rename_i b i len cap sz
  split at he
  case h_2=>cases he
  rename_i e'' hsh
  rcases hte with⟨s,hs1,hs2⟩|⟨hs1,hte⟩
  ·rw[hs2] at hs1;rw[hs1] at hsh;cases hsh
  have hu:=Aq ht hs1
  split at he
  ·rename_i l r hbl hbr
   simp only[pvc,A03,A05] at he
   obtain⟨rfl,rfl⟩:=he
   obtain⟨h0,h1,h2,hsz,hlc⟩:=hc
   cases hv with
   |sref _ _ _ _ _ k hk=>
    have run:=FO (P:=P) (w:=w) hu hte (some ⟨k,i*sz,none⟩) len cap vl vh l r h0 h1 h2 (by
      rcases CO hbl hl with⟨rfl,rfl,rfl⟩|⟨k,rfl,_⟩
      ·exact .inl ⟨rfl,rfl⟩
      ·exact .inr ⟨k,rfl⟩) (by
      rcases CO hbr hh with⟨rfl,rfl,rfl⟩|⟨k,rfl,_⟩
      ·exact .inl ⟨rfl,rfl⟩
      ·exact .inr ⟨k,rfl⟩) hlc
    refine AA.same hr _ run ?_
    cases hend:(l.toNat==0 ||decide (l.toNat<cap)) with
    |false=>
     simp only[Bool.or_eq_false_iff,beq_eq_false_iff_ne,decide_eq_false_iff_not] at hend
     simp only[cond_false]
     have e1:r.toNat-l.toNat=0:=by omega
     have e2:cap-l.toNat=0:=by omega
     rw[e1,e2]
     exact .slice [] true _ 0 0 0 0 (fun _ _=>.nilFunc) (fun h=>absurd h (by simp)) (A0a _) (fun _=>rfl) (A0D _) (fun i h=>absurd h (by simp)) (fun i j h=>absurd h (by simp)) (fun i j h=>absurd h (by simp))
    |true=>
    have h3:l=0∨l<cap:=by
     simp only[Bool.or_eq_true,beq_iff_eq,decide_eq_true_eq] at hend
     omega
    simp only[cond_true]
    have:=Rep.sref (w:=w) (I:=I) b (i+l.toNat) (r.toNat-l.toNat) (cap-l.toNat) sz k hk
    subst hsz
    have ha:(if cap=l.toNat then some (⟨k,i*te.sz,none⟩:Addr) else(some (⟨k,i*te.sz,none⟩:Addr)).map (·.add (l.toNat*te.sz)))=some ⟨k,(i+l.toNat)*te.sz,none⟩:=by
     rw[A19]
     split
     ·have:l.toNat=0:=by omega
      rw[this];simp
     ·simp[BM]
    rw[ha]
    exact this
  ·cases he
 ·cases he
def AM(w:World)(I:Nat->Prop)(mu:Nat->Option Value)(es:List (List D))(sz:Nat)(us:List Value):Prop:=
 us.length=es.length*sz/\(∀ i,i<es.length->(nr es i).length=sz)/\∀ i j,i<es.length->j<sz->Rep w I mu (nd (nr es i) j) (nv us (i*sz+j))
theorem AM.mono{w w':World}{I I':Nat->Prop}{mu mu':Nat->Option Value}{es:List (List D)}{sz:Nat}{us:List Value}(h:AM w I mu es sz us)(e:Ext I mu w I' mu' w'):AM w' I' mu' es sz us:=
 ⟨h.1,h.2.1,fun i j hi hj=>(h.2.2 i j hi hj).ext e⟩
theorem AM.append{es fs:List (List D)}{sz:Nat}{us vs:List Value}(h:AM w I mu es sz us)(k:AM w I mu fs sz vs):AM w I mu (es++fs) sz (us++vs):=by
 refine⟨by rw[A04,h.1,k.1,A04,A19],fun i hi=>?_,fun i j hi hj=>?_⟩
 ·rw[A04] at hi
  by_cases g:i<es.length
  ·have:nr (es++fs) i=nr es i:=by simp[nr,A02,A0q g]
   rw[this];exact h.2.1 i g
  ·have:nr (es++fs) i=nr fs (i-es.length):=by simp[nr,A02,A0o (A1Y g)]
   rw[this];exact k.2.1 _ (by omega)
 ·rw[A04] at hi
  by_cases g:i<es.length
  ·have e1:nr (es++fs) i=nr es i:=by simp[nr,A02,A0q g]
   have hb:i*sz+j<us.length:=by
    rw[h.1]
    have:i*sz+sz<=es.length*sz:=by rw[<-A0F];exact A0f _ g
    omega
   have e2:nv (us++vs) (i*sz+j)=nv us (i*sz+j):=by simp[nv,A02,A0q hb]
   rw[e1,e2];exact h.2.2 i j g hj
  ·have e1:nr (es++fs) i=nr fs (i-es.length):=by simp[nr,A02,A0o (A1Y g)]
   have e3:i*sz+j-us.length=(i-es.length)*sz+j:=by
    rw[h.1,Nat.sub_mul]
    have:es.length*sz<=i*sz:=A0f _ (A1Y g)
    omega
   have hb:us.length<=i*sz+j:=by
    rw[h.1]
    have:es.length*sz<=i*sz:=A0f _ (A1Y g)
    omega
   have e2:nv (us++vs) (i*sz+j)=nv vs ((i-es.length)*sz+j):=by simp only[nv,A02];rw[A0o hb,e3]
   rw[e1,e2];exact k.2.2 _ j (by omega) hj
theorem AM.set{es:List (List D)}{sz:Nat}{us vs:List Value}{ns:List D}(h:AM w I mu es sz us){i:Nat}(hi:i<es.length)(hl:vs.length=ns.length)(hz:ns.length=sz)(hr:∀ j,j<ns.length->Rep w I mu (nd ns j) (nv vs j)):
  AM w I mu (es.set i ns) sz (Au us (i*sz) vs):=by
 have hmul:i*sz+sz<=es.length*sz:=by rw[<-A0F];exact A0f _ hi
 have h1:=h.1
 refine⟨by rw[B0 (by omega),A0S];exact h1,fun j hj=>?_,fun j l hj hlz=>?_⟩
 ·rw[A0S] at hj
  rw[Kd hi]
  split
  ·exact hz
  ·exact h.2.1 j hj
 ·rw[A0S] at hj
  rw[Kd hi,F8 (by omega)]
  by_cases hij:i=j
  ·subst hij
   have e1:i*sz+l-i*sz=l:=by omega
   rw[if_pos rfl,if_neg (by omega),if_pos (by omega),e1]
   exact hr l (by omega)
  ·rw[if_neg hij]
   have hne:¬(i*sz<=j*sz+l/\j*sz+l<i*sz+vs.length):=by
    rintro⟨g1,g2⟩
    rcases Nat.lt_or_gt_of_ne hij with h6|h6
    ·have:i*sz+sz<=j*sz:=by rw[<-A0F];exact A0f _ h6
     omega
    ·have:j*sz+sz<=i*sz:=by rw[<-A0F];exact A0f _ h6
     omega
   by_cases g1:j*sz+l<i*sz
   ·rw[if_pos g1];exact h.2.2 j l hj hlz
   ·rw[if_neg g1,if_neg (by omega)];exact h.2.2 j l hj hlz
theorem RQ{T:TypeId}{es:List (List D)}{sz:Nat}{us:List Value}(hrows:AM w I mu es sz us)(hr:Ap w0 M0 I0 fr I mu h w){id:Nat}(hid:fr id):
  ∃ mu',Ext I mu w I mu' (w.alloc (.cells us.toArray T))/\Ap w0 M0 I0 (fun b=>fr b/\b≠id) I mu' (fun b=>AO b (h b) [(id,some (.rows es sz))]) (w.alloc (.cells us.toArray T))/\mu' id=some (.pointer (some ⟨w.heap.size,0,none⟩)):=by
 have hnone:=hr.fresh id hid
 have:=hr.new hid (.cells us.toArray T) (.pointer (some ⟨w.heap.size,0,none⟩)) rfl (.rows es sz) ⟨w.heap.size,T,us,by simp[Ax],heap_alloc_new w _,hrows.1,hrows.2.1,fun i j hi hj=>
   (hrows.2.2 i j hi hj).mono (fun k hk=>B8 w _ (hr.lt k hk)) (fun _ h=>h) (Bs hnone)⟩
 exact⟨_,this.2,this.1,by simp[Ax]⟩
def V9(id:Nat)(te:TI):D->D->Res
 |.val (.int _ l),.val (.int _ c)=>some (⟨.sref id 0 l.toNat c.toNat te.sz,[(id,some (.rows (List.replicate c.toNat (te.zero.map ofV)) te.sz))],[]⟩,0<=l/\l<=c/\(te.bytes:Int)*c<=281474976710656/\c<=9223372036854775807/\te.zero.length=te.sz)
 |_,_=>none
theorem Wi{t e':TypeId}{ti te:TI}(ht:Ak P t=some ti)(hs:ti.sh=.slice e')(hte:Ak P e'=some te){id:Nat}{dl dc:D}{e:Eff}{c:Prop}(he:V9 id te dl dc=some (e,c))(hc:c)(hr:Ap w0 M0 I0 fr I mu h w)(hid:fr id){vl vc:Value}(hl:Rep w I mu dl vl)(hcv:Rep w I mu dc vc):
  AA P (fun w=>(Instr.makeSlice t vl vc).run P w) id e.d e.up w0 M0 I0 fr I mu h w:=by
 unfold V9 at he
 split at he
 ·rename_i kl l kc c
  simp only[A03,A05] at he
  obtain⟨rfl,rfl⟩:=he
  obtain⟨h0,h1,h2,h3,h4⟩:=hc
  have:=hl.val_inv;have:=hcv.val_inv;subst vl vc
  obtain⟨i,d,z,g1,g2,g3,g4,g5,g6,g7,g8,g9⟩:=B9 hte
  have hu:=Aq ht hs
  have run:=run_make (P:=P) w t e' i z hu g1 g3 kl kc l c h0 h1 (by rw[g7];exact h2) h3
  have hzs:z.cells=te.zero.toArray:=by rw[<-g6]
  have hmc:madeCells z.cells (c.toNat*i.size)=((List.range (c.toNat*te.sz)).map fun n=>nv te.zero (n%te.sz)).toArray:=by
   rw[g4,hzs]
   apply Array.ext'
   simp only[madeCells,Array.toList_map,Array.toList_range]
   refine A13 fun n hn=>?_
   have hn':=A1m.1 hn
   have hpos:0<te.sz:=Nat.pos_of_ne_zero fun h0=>by rw[h0] at hn';simp at hn'
   have hlt:n%te.sz<te.zero.length:=by rw[h4];exact Nat.mod_lt _ hpos
   simp only[A0y,h4,nv,A02]
   rw[getElem!_pos _ _ (by simpa using hlt)]
   simp[hlt]
  rw[hmc] at run
  have hrows:AM w I mu (List.replicate c.toNat (te.zero.map ofV)) te.sz ((List.range (c.toNat*te.sz)).map fun n=>nv te.zero (n%te.sz)):=by
   refine⟨by simp,fun i hi=>?_,fun i j hi hj=>?_⟩
   ·simp only[A1a] at hi
    have:nr (List.replicate c.toNat (te.zero.map ofV)) i=te.zero.map ofV:=by simp[nr,A02,hi]
    rw[this];simpa using h4
   ·simp only[A1a] at hi
    have e1:nr (List.replicate c.toNat (te.zero.map ofV)) i=te.zero.map ofV:=by simp[nr,A02,hi]
    have hlt:i*te.sz+j<c.toNat*te.sz:=by
     have:i*te.sz+te.sz<=c.toNat*te.sz:=by rw[<-A0F];exact A0f _ hi
     omega
    have e2:nv ((List.range (c.toNat*te.sz)).map fun n=>nv te.zero (n%te.sz)) (i*te.sz+j)=nv te.zero j:=by
     have e3:(i*te.sz+j)%te.sz=j:=by rw[Nat.add_comm,Nat.add_mul_mod_self_right,Nat.mod_eq_of_lt hj]
     have e4:∀ (f:Nat->Value) n m,m<n->nv ((List.range n).map f) m=f m:=by intro f n m hm;simp[nv,A02,hm]
     rw[e4 _ _ _ hlt,e3]
    have e5:nd (te.zero.map ofV) j=ofV (nv te.zero j):=by simp[nd,nv,A02,show j<te.zero.length by omega]
    rw[e1,e2,e5]
    exact FR _ _ _ _
  obtain⟨mu',x1,x2,x3⟩:=RQ (T:=e') hrows hr hid
  exact⟨_,_,I,mu',run,x1,x2,by simpa using Rep.sref (w:=w.alloc (.cells ((List.range (c.toNat*te.sz)).map fun n=>nv te.zero (n%te.sz)).toArray e')) (I:=I) id 0 l.toNat c.toNat te.sz _ x3⟩
 ·cases he
end
section
variable{P:Program}{w0:World}{M0:Nat->Prop}{I0:Gh}{fr I:Nat->Prop}{mu:Nat->Option Value}{h:Nat->Option Blk}{w:World}
def HG(sz:Nat):List (List D)->List (Nat×D)->Option (List (List D)×Prop)
 |es,[]=>some (es,True)
 |es,(i,d)::r=>match Gb d with
  |some ns=>match HG sz (es.set i ns) r with
   |some (x,c)=>some (x,ns.length=sz/\i<es.length/\c)
   |none=>none
  |none=>none
def Lm(id:Nat)(te:TI)(n:Nat)(ps:List (Nat×D)):Res:=
 match HG te.sz (List.replicate n (te.zero.map ofV)) ps with
 |some (es,c)=>some (⟨.sref id 0 n n te.sz,[(id,some (.rows es te.sz))],[]⟩,c/\n*te.sz<=16777216/\te.zero.length=te.sz)
 |none=>none
theorem Nm(sz:Nat):∀ (ds:List (Nat×D)) (vs:List (Nat×Value)) (es:List (List D)) (us:List Value) (x:List (List D)) (c:Prop),HG sz es ds=some (x,c)->c->vs.length=ds.length->
  (∀(i:Nat) (p:Nat×D) (q:Nat×Value),ds[i]? =some p->vs[i]? =some q->p.1=q.1/\Rep w I mu p.2 q.2)->AM w I mu es sz us->
  ∃ us',Instr.fill (fun i=>some (i*sz,sz)) us.toArray vs=some us'.toArray/\AM w I mu x sz us'/\x.length=es.length
 |[],[],es,us,x,c,hb,_,_,_,hr=>by
  simp only[HG,A03,A05] at hb
  obtain⟨rfl,_⟩:=hb
  exact⟨us,by simp[Instr.fill],hr,rfl⟩
 |[],_::_,_,_,_,_,_,_,hv,_,_=>by simp at hv
 |_::_,[],_,_,_,_,_,_,hv,_,_=>by simp at hv
 |(i,d)::ds,(i',v)::vs,es,us,x,c,hb,hc,hv,hp,hr=>by
  simp only[HG] at hb
  split at hb
  ·rename_i ns hns
   split at hb
   ·rename_i y c' hb'
    simp only[A03,A05] at hb
    obtain⟨rfl,rfl⟩:=hb
    obtain⟨hsz,hi,hc'⟩:=hc
    obtain⟨he,hrep⟩:=hp 0 (i,d) (i',v) rfl rfl
    simp only at he hrep
    subst he
    obtain⟨vs',hcs,hl',hrep',_⟩:=hrep.cells hns
    have hcz:v.cells.size=sz:=by
     have:v.cells.toList.length=vs'.length:=by rw[hcs]
     simp only[A0T] at this
     omega
    obtain⟨us',h1,h2,h3⟩:=Nm sz ds vs (es.set i ns) (Au us (i*sz) vs') y c' hb' hc' (by simpa using hv) (fun j p q hp' hq'=>hp (j+1) p q (by simpa using hp') (by simpa using hq')) (hr.set hi hl' hsz hrep')
    refine⟨us',?_,h2,by rw[h3,A0S]⟩
    have hmul:i*sz+sz<=es.length*sz:=by rw[<-A0F];exact A0f _ hi
    have hul:=hr.1
    simp only[Instr.fill,hcz,ne_eq,not_true_eq_false,decide_false,Bool.false_or,A0y]
    rw[if_neg (by simp;omega)]
    have hz:(v.cells.zipIdx.foldl (fun(cs:Array Value) (p:Value×Nat)=>cs.setIfInBounds (i*sz+p.2) p.1) us.toArray)=(Au us (i*sz) vs').toArray:=by
     rw[<-Array.foldl_toList,Array.toList_zipIdx,hcs]
     have:=Kp (i*sz) vs' 0 us (by omega)
     simpa using this
    exact(congrArg (fun z=>Instr.fill (fun i=>some (i*sz,sz)) z vs) hz).trans h1
   ·cases hb
  ·cases hb
theorem J2{te:TI}(h4:te.zero.length=te.sz)(n:Nat)(z:Array Value)(hzs:z=te.zero.toArray):((Array.range (n*te.sz)).map (z[· %z.size]!))=((List.range (n*te.sz)).map fun m=>nv te.zero (m%te.sz)).toArray:=by
 subst hzs
 apply Array.ext'
 simp only[Array.toList_map,Array.toList_range]
 refine A13 fun m hn=>?_
 have hn':=A1m.1 hn
 have hpos:0<te.sz:=Nat.pos_of_ne_zero fun h0=>by rw[h0] at hn';simp at hn'
 have hlt:m%te.sz<te.zero.length:=by rw[h4];exact Nat.mod_lt _ hpos
 simp only[A0y,h4,nv,A02]
 rw[getElem!_pos _ _ (by simpa using hlt)]
 simp[hlt]
theorem JW{te:TI}(h4:te.zero.length=te.sz)(n:Nat):AM w I mu (List.replicate n (te.zero.map ofV)) te.sz ((List.range (n*te.sz)).map fun m=>nv te.zero (m%te.sz)):=by
 refine⟨by simp,fun i hi=>?_,fun i j hi hj=>?_⟩
 ·simp only[A1a] at hi
  have:nr (List.replicate n (te.zero.map ofV)) i=te.zero.map ofV:=by simp[nr,A02,hi]
  rw[this];simpa using h4
 ·simp only[A1a] at hi
  have e1:nr (List.replicate n (te.zero.map ofV)) i=te.zero.map ofV:=by simp[nr,A02,hi]
  have hlt:i*te.sz+j<n*te.sz:=by
   have:i*te.sz+te.sz<=n*te.sz:=by rw[<-A0F];exact A0f _ hi
   omega
  have e2:nv ((List.range (n*te.sz)).map fun m=>nv te.zero (m%te.sz)) (i*te.sz+j)=nv te.zero j:=by
   have e3:(i*te.sz+j)%te.sz=j:=by rw[Nat.add_comm,Nat.add_mul_mod_self_right,Nat.mod_eq_of_lt hj]
   have e4:∀ (f:Nat->Value) n m,m<n->nv ((List.range n).map f) m=f m:=by intro f n m hm;simp[nv,A02,hm]
   rw[e4 _ _ _ hlt,e3]
  have e5:nd (te.zero.map ofV) j=ofV (nv te.zero j):=by simp[nd,nv,A02,show j<te.zero.length by omega]
  rw[e1,e2,e5]
  exact FR _ _ _ _
theorem Rq{t e':TypeId}{ti te:TI}(ht:Ak P t=some ti)(hs:ti.sh=.slice e')(hte:Ak P e'=some te){id n:Nat}{ds:List (Nat×D)}{e:Eff}{c:Prop}(he:Lm id te n ds=some (e,c))(hc:c)(hr:Ap w0 M0 I0 fr I mu h w)(hid:fr id)(vs:List (Nat×Value))(hv:vs.length=ds.length)
  (hp:∀ (i:Nat) (p:Nat×D) (q:Nat×Value),ds[i]? =some p->vs[i]? =some q->p.1=q.1/\Rep w I mu p.2 q.2):
  AA P (fun w=>(Instr.buildSlice t n vs.toArray).run P w) id e.d e.up w0 M0 I0 fr I mu h w:=by
 unfold Lm at he
 split at he
 ·rename_i es c' hb
  simp only[A03,A05] at he
  obtain⟨rfl,rfl⟩:=he
  obtain⟨hc',hle,hz⟩:=hc
  obtain⟨i,d,z,g1,g2,g3,g4,g5,g6,g7,g8,g9⟩:=B9 hte
  have hu:=Aq ht hs
  have hzs:z.cells=te.zero.toArray:=by rw[<-g6]
  obtain⟨us',f1,f2,f3⟩:=Nm (w:=w) (I:=I) (mu:=mu) te.sz ds vs _ _ es c' hb hc' hv hp (JW hz n)
  simp only[A1a] at f3
  obtain⟨mu',x1,x2,x3⟩:=RQ (T:=e') f2 hr hid
  refine⟨.slice (some ⟨w.heap.size,0,none⟩) n n,_,I,mu',?_,x1,x2,by simpa using Rep.sref (w:=w.alloc (.cells us'.toArray e')) (I:=I) id 0 n n te.sz _ x3⟩
  have hn:¬(16777216<n*te.sz):=by omega
  by_cases h0:n*te.sz=0
  ·have hr0:Array.range 0=#[]:=rfl
   have hempty:(List.range (n*te.sz)).map (fun m=>nv te.zero (m%te.sz))=[]:=by rw[h0];rfl
   rw[hempty] at f1
   simp[Instr.buildSlice,run_underlying hu,sizeOf,typeInfo,g1,g4,h0,hr0,f1,newRow]
  ·have hcells:=J2 hz n z.cells hzs
   simp only[Instr.buildSlice,A0e,run_underlying hu,Result.andThen,AS hte,gt_iff_lt]
   have f1':Instr.fill (fun i=>some (i*te.sz,te.sz)) (Array.map (fun x=>z.cells[x%z.cells.size]!) (Array.range (n*te.sz))) vs=some us'.toArray:=by rw[hcells];exact f1
   simp[hn,h0,zeroValue,typeInfo,g1,g3,f1',newRow]
 ·cases he
def EP(hp:Nat->Option Blk):D->Option (List (List D)×List Nat×Prop)
 |.slice es _=>some (es,[],True)
 |.sref b i len _ sz=>match hp b with
  |some (.rows es sz')=>some ((es.drop i).take len,[b],sz=sz'/\i+len<=es.length)
  |_=>none
 |.gref b len=>match hp b with
  |some (.grow es _)=>some (es,[b],len=es.length)
  |_=>none
 |_=>none
def Fo(w:World)(A:Option Addr)(us:List Value):Prop:=us=[]∨∃ k o,A=some ⟨k,o,none⟩/\∀ j u,us[j]? =some u->w.cell? ⟨k,o+j,none⟩=some u
theorem Ud{es:List (List D)}{sz:Nat}{u:Nat->Nat->Value}{k o:Nat}(hsz:0<sz)(hcell:∀ i j,i<es.length->j<sz->w.cell? ⟨k,o+(i*sz+j),none⟩=some (u i j)):
  ∀ m,m<es.length*sz->w.cell? ⟨k,o+m,none⟩=some (u (m/sz) (m%sz)):=by
 intro m hm
 have h1:m/sz<es.length:=(Nat.div_lt_iff_lt_mul hsz).2 hm
 have h2:m%sz<sz:=Nat.mod_lt _ hsz
 have:=hcell (m/sz) (m%sz) h1 h2
 have e:m/sz*sz+m%sz=m:=by rw[Nat.mul_comm];exact Nat.div_add_mod m sz
 rw[e] at this
 exact this
theorem C9{hp:Nat->Option Blk}{d:D}{es:List (List D)}{rd:List Nat}{c:Prop}(hn:EP hp d=some (es,rd,c))(hc:c)(hr:Ap w0 M0 I0 fr I mu h w){v:Value}(hv:Rep w I mu d v)(hb:∀ b ∈ rd,h b=hp b){sz:Nat}(hsz:0<sz)(hall:∀ x ∈ es,x.length=sz):
  ∃ A cap us,v=.slice A es.length cap/\AM w I mu es sz us/\Fo w A us:=by
 have hnr:∀ i,i<es.length->(nr es i).length=sz:=fun i hi=>hall _ (by simp[nr,A02,hi])
 unfold EP at hn
 split at hn
 ·rename_i es0 tg0
  simp only[A03,A05] at hn
  obtain⟨rfl,rfl,rfl⟩:=hn
  cases hv with
  |slice _ _ A k o sz' cap u hA hcp htg hm hlen hcell hrep=>
   by_cases h0:es0.length=0
   ·have:es0=[]:=A0w h0
    subst this
    exact⟨A,cap,[],rfl,⟨by simp,fun i hi=>by simp at hi,fun i j hi=>by simp at hi⟩,.inl rfl⟩
   ·have hs:sz'=sz:=by rw[<-hlen 0 (by omega)];exact hnr 0 (by omega)
    subst hs
    obtain⟨rfl,hI⟩:=hA (by omega)
    refine⟨_,cap,(List.range (es0.length*sz')).map fun m=>u (m/sz') (m%sz'),rfl,⟨by simp,hlen,fun i j hi hj=>?_⟩,.inr ⟨k,o,rfl,fun j x hx=>?_⟩⟩
    ·have hlt:i*sz'+j<es0.length*sz':=by
      have:i*sz'+sz'<=es0.length*sz':=by rw[<-A0F];exact A0f _ hi
      omega
     have e1:(i*sz'+j)/sz'=i:=by rw[Nat.add_comm,Nat.add_mul_div_right _ _ hsz,Nat.div_eq_of_lt hj];omega
     have e2:(i*sz'+j)%sz'=j:=by rw[Nat.add_comm,Nat.add_mul_mod_self_right,Nat.mod_eq_of_lt hj]
     have e3:nv ((List.range (es0.length*sz')).map fun m=>u (m/sz') (m%sz')) (i*sz'+j)=u i j:=by simp[nv,A02,hlt,e1,e2]
     rw[e3];exact hrep i j hi hj
    ·simp only[A0x,A1z] at hx
     obtain⟨m,hm',rfl⟩:=hx
     obtain⟨hlt,rfl⟩:=List.getElem?_eq_some_iff.1 hm'
     simp only[List.length_range] at hlt
     simp only[List.getElem_range]
     exact Ud hsz hcell j hlt
 ·rename_i b i len cap szb
  split at hn
  ·rename_i es' sz' hx
   simp only[A03,A05] at hn
   obtain⟨rfl,rfl,rfl⟩:=hn
   obtain⟨rfl,hle⟩:=hc
   obtain⟨k,T,us,h1,h2,h3,h4,h5⟩:=hr.blk b _ ((hb b (by simp)).trans hx)
   cases hv with
   |sref _ _ _ _ _ k' hk=>
    rw[h1] at hk
    simp only[A03,A0O,A16,and_true] at hk
    subst hk
    have hlen':((es'.drop i).take len).length=len:=by simp;omega
    have hnr':∀ j,j<len->nr ((es'.drop i).take len) j=nr es' (i+j):=by
     intro j hj
     simp only[nr,A02]
     rw[A0n hj,A0I]
    have hz:0<len->szb=sz:=fun hpos=>by
     have:=hnr 0 (by omega)
     rw[hnr' 0 hpos] at this
     rw[<-this];exact(h4 (i+0) (by omega)).symm
    have key:Value.slice (some ⟨k,i*szb,none⟩) len cap=.slice (some ⟨k,i*szb,none⟩) ((es'.drop i).take len).length cap:=by rw[hlen']
    refine⟨_,cap,(us.drop (i*szb)).take (len*szb),key,⟨?_,hnr,fun j l hj hl=>?_⟩,.inr ⟨k,i*szb,rfl,fun j x hx=>?_⟩⟩
    ·rw[hlen']
     by_cases hpos:0<len
     ·rw[<-hz hpos]
      have:(i+len)*szb<=es'.length*szb:=A0f _ hle
      rw[A19] at this
      simp only[A0z,A0v];omega
     ·have:len=0:=by omega
      subst this;simp
    ·rw[hlen'] at hj
     have hs:=hz (by omega)
     subst hs
     rw[hnr' j hj]
     have hlt:j*szb+l<len*szb:=by
      have:j*szb+szb<=len*szb:=by rw[<-A0F];exact A0f _ hj
      omega
     have e:nv ((us.drop (i*szb)).take (len*szb)) (j*szb+l)=nv us ((i+j)*szb+l):=by
      simp only[nv,A02]
      rw[A0n hlt,A0I]
      congr 2
      rw[A19];omega
     rw[e]
     exact h5 (i+j) l (by omega) hl
    ·rw[A1Q] at hx
     split at hx
     ·rw[A0I] at hx
      simp[World.cell?,h2,hx]
     ·cases hx
  ·cases hn
 ·rename_i b len
  split at hn
  ·rename_i es' szb hx
   simp only[A03,A05] at hn
   obtain⟨rfl,rfl,rfl⟩:=hn
   subst hc
   obtain⟨A,cap,T,us,h1,h2,h3,h4⟩:=hr.blk b _ ((hb b (by simp)).trans hx)
   cases hv with
   |gref _ _ A' cap' hk=>
    rw[h1] at hk
    simp only[A03,A0N,true_and] at hk
    obtain⟨rfl,rfl⟩:=hk
    rcases h4 with⟨rfl,rfl⟩|⟨k,g0,rfl,g1,g2,g3,g4⟩
    ·exact⟨A,0,[],rfl,⟨by simp,fun i hi=>by simp at hi,fun i j hi=>by simp at hi⟩,.inl rfl⟩
    ·by_cases h0:es'.length=0
     ·have:es'=[]:=A0w h0
      subst this
      exact⟨_,cap,[],rfl,⟨by simp,fun i hi=>by simp at hi,fun i j hi=>by simp at hi⟩,.inl rfl⟩
     ·have hs:szb=sz:=by rw[<-h2 0 (by omega)];exact hnr 0 (by omega)
      subst hs
      have hmul:es'.length*szb<=cap*szb:=A0f _ g2
      refine⟨_,cap,us.take (es'.length*szb),rfl,⟨by simp;omega,h2,fun i j hi hj=>?_⟩,.inr ⟨k,0,rfl,fun j x hx=>?_⟩⟩
      ·have hlt:i*szb+j<es'.length*szb:=by
        have:i*szb+szb<=es'.length*szb:=by rw[<-A0F];exact A0f _ hi
        omega
       have e:nv (us.take (es'.length*szb)) (i*szb+j)=nv us (i*szb+j):=by
        simp only[nv,A02];rw[A0n hlt]
       rw[e];exact g4 i j hi hj
      ·rw[A1Q] at hx
       split at hx
       ·simp[World.cell?,g1,hx]
       ·cases hx
  ·cases hn
 ·cases hn
theorem Ap.put{b0:Option Nat}{id:Nat}(hr:Ap w0 M0 I0 fr I mu h w)(hid:fr id)(w':World)(v:Value)(x:Blk)
  (hk:∀ k,Ae v=some k->(w.heap.size<=k/\k<w'.heap.size)∨∃ b x0 v0,b0=some b/\h b=some x0/\mu b=some v0/\Ae v0=some k)
  (hsize:w.heap.size<=w'.heap.size) (hsame:∀ j,j<w.heap.size->(∀ b x0 v0,b0=some b->h b=some x0->mu b=some v0->Ae v0≠some j)->w'.heap[j]? =w.heap[j]?)
  (hos:w'.os=w.os) (htape:w'.tape=w.tape) (hout:w'.output=w.output) (hb:D7 w' I (Ax mu id v) id x):
  Ap w0 M0 I0 (fun b=>fr b/\b≠id) I (Ax mu id v) (fun c=>if c=id then some x else if b0=some c then none else h c) w'/\Ext I mu w I (Ax mu id v) w':=by
 have hnone:=hr.fresh id hid
 have hm:=Bs (v:=v) hnone
 have hIw:∀ k,I k->w'.heap[k]? =w.heap[k]?:=fun k hk=>hsame k (hr.lt k hk) fun b x0 v0 _ hx0 hv0 hl=>(hr.loc b x0 v0 k hx0 hv0 hl).2.1 hk
 have hext:Ext I mu w I (Ax mu id v) w':=⟨fun _ h=>h,hm,hIw⟩
 have hold:∀ c y,c≠id->(if c=id then some x else if b0=some c then none else h c)=some y->h c=some y/\b0≠some c:=by
  intro c y hc hy
  rw[if_neg hc] at hy
  by_cases hb0:b0=some c
  ·rw[if_pos hb0] at hy;cases hy
  ·rw[if_neg hb0] at hy;exact⟨hy,hb0⟩
 have hmu:∀ c,c≠id->Ax mu id v c=mu c:=fun c hc=>by simp[Ax,hc]
 have hne:∀ c y u k b x0 v0,b0≠some c->h c=some y->mu c=some u->Ae u=some k->b0=some b->h b=some x0->mu b=some v0->Ae v0≠some k:=by
  intro c y u k b x0 v0 hbc hy hu hk' hb0 hx0 hv0 hl
  have:=hr.inj c b y x0 u v0 k hy hx0 hu hv0 hk' hl
  subst this
  exact hbc hb0
 refine⟨⟨fun c y hy=>?_,fun c y u k hy hu hk'=>?_,fun c c' y z u u' k hy hz hu hu' hk' hk''=>?_,fun b hb=>?_,fun k hk'=>A0R (hr.lt k hk') hsize,hos.trans hr.os,htape.trans hr.tape,hout.trans hr.output,A0L hr.grown hsize,fun j hj hnm=>?_,hr.iold,hr.inew,fun b x hb hn=>hm b x (hr.keep b x hb hn),fun c y hy hc=>hr.used c y (hold c y hc.2 hy).1 hc.1⟩,hext⟩
 ·by_cases hc:c=id
  ·subst hc;rw[if_pos rfl] at hy;cases hy;exact hb
  ·obtain⟨hy',hbc⟩:=hold c y hc hy
   exact(hr.blk c y hy').mono hIw (fun _ h=>h) hm fun u k hu hk'=>hsame k (hr.loc c y u k hy' hu hk').2.2 fun b x0 v0 hb0 hx0 hv0=>hne c y u k b x0 v0 hbc hy' hu hk' hb0 hx0 hv0
 ·by_cases hc:c=id
  ·subst hc
   simp only[Ax,if_pos,A03] at hu
   subst hu
   rcases hk k hk' with⟨g1,g2⟩|⟨b,x0,v0,_,hx0,hv0,hl⟩
   ·exact⟨.inr (A0L hr.grown g1),fun hI=>by have:=hr.lt k hI;omega,g2⟩
   ·have:=hr.loc b x0 v0 k hx0 hv0 hl
    exact⟨this.1,this.2.1,A0R this.2.2 hsize⟩
  ·obtain⟨hy',hbc⟩:=hold c y hc hy
   rw[hmu c hc] at hu
   have:=hr.loc c y u k hy' hu hk'
   exact⟨this.1,this.2.1,A0R this.2.2 hsize⟩
 ·have one:∀ c y u,c≠id->(if c=id then some x else if b0=some c then none else h c)=some y->Ax mu id v c=some u->Ae u=some k->Ae v=some k->False:=by
   intro c y u hc hy hu hku hkv
   obtain⟨hy',hbc⟩:=hold c y hc hy
   rw[hmu c hc] at hu
   rcases hk k hkv with⟨g1,g2⟩|⟨b,x0,v0,hb0,hx0,hv0,hl⟩
   ·have:=(hr.loc c y u k hy' hu hku).2.2
    omega
   ·exact hne c y u k b x0 v0 hbc hy' hu hku hb0 hx0 hv0 hl
  by_cases hc:c=id<;>by_cases hc':c'=id
  ·rw[hc,hc']
  ·exfalso
   have hu2:v=u:=by simpa[Ax,hc] using hu
   exact one c' z u' hc' hz hu' hk'' (hu2▸hk')
  ·exfalso
   have hu2:v=u':=by simpa[Ax,hc'] using hu'
   exact one c y u hc hy hu hk' (hu2▸hk'')
  ·obtain⟨hy',_⟩:=hold c y hc hy
   obtain⟨hz',_⟩:=hold c' z hc' hz
   rw[hmu c hc] at hu
   rw[hmu c' hc'] at hu'
   exact hr.inj c c' y z u u' k hy' hz' hu hu' hk' hk''
 ·rw[hmu b hb.2];exact hr.fresh b hb.1
 ·rw[hsame j (by have:=hr.grown;omega) fun b x0 v0 hb0 hx0 hv0 hl=>?_]
  ·exact hr.old j hj hnm
  ·rcases(hr.loc b x0 v0 j hx0 hv0 hl).1 with h1|h1
   ·exact hnm h1
   ·omega
theorem Cs{size n:Nat}{A:Option Addr}{cap:Nat}{us:List Value}(hl:us.length=n*size)(hh:Fo w A us):(Builtin.firstCells size n (.slice A n cap)).run P w=.ok us.toArray w:=by
 rcases hh with rfl|⟨k,o,rfl,hc⟩
 ·cases A with
  |none=>simp [Builtin.firstCells]
  |some a=>exact run_firstCells_some w size n a n cap [] hl (fun j v hj=>by simp at hj)
 ·exact run_firstCells_some w size n _ n cap us hl fun j v hj=>by rw[BM];exact hc j v hj
theorem Dq{t ty e':TypeId}{i:TypeInfo}{z:Value}(hu:P.underlying t=some (.slice e'))(hi:P.info? e'=some i)(hz:i.zero=some z){A B:Option Addr}{n m cap cap':Nat}{us vs:List Value}
  (hus:us.length=n*i.size) (hvs:vs.length=m*i.size) (hA:Fo w A us) (hB:Fo w B vs) (hncap:n<=cap) (hle:n+m<=9223372036854775807) (hbytes:(n+m)*i.bytes<=140737488355328):
  (n+m<=cap->(Builtin.append_ #[t,t] ty #[.slice A n cap,.slice B m cap']).run P w=((match A with|some a=>(storeCells (a.add (n*i.size)) vs).run P w|none=>.ok () w)).andThen fun _ w'=>.ok (.slice A (n+m) cap) w')/\
  (cap<n+m->(Builtin.append_ #[t,t] ty #[.slice A n cap,.slice B m cap']).run P w=.ok (.slice (some ⟨w.heap.size,0,none⟩) (n+m) (grownCap w (n+m) cap e'))
   (w.drew.alloc (.cells (us.toArray++vs.toArray++Builtin.zeroCells z.cells (grownCap w (n+m) cap e'-(n+m))) e'))):=by
 have hfB:=Cs (P:=P) (size:=i.size) (n:=m) (A:=B) (cap:=cap') hvs hB
 constructor
 ·intro hroom
  cases A with
  |none=>simp [Builtin.append_,run_underlying hu,sizeOf,typeInfo,hi,Builtin.lenOf,hroom,hfB]
  |some a=>simp [Builtin.append_,run_underlying hu,sizeOf,typeInfo,hi,Builtin.lenOf,hroom,hfB]
 ·intro hg
  have hA':Fo w.drew A us:=by
   rcases hA with rfl|⟨k,o,rfl,hc⟩
   ·exact .inl rfl
   ·exact .inr ⟨k,o,rfl,fun j u hj=>by simpa using hc j u hj⟩
  have hB':Fo w.drew B vs:=by
   rcases hB with rfl|⟨k,o,rfl,hc⟩
   ·exact .inl rfl
   ·exact .inr ⟨k,o,rfl,fun j u hj=>by simpa using hc j u hj⟩
  have hfA:=Cs (P:=P) (w:=w.drew) (size:=i.size) (n:=n) (A:=A) (cap:=cap) hus hA'
  have hfB':=Cs (P:=P) (w:=w.drew) (size:=i.size) (n:=m) (A:=B) (cap:=cap') hvs hB'
  have hn:¬(n+m<=cap):=by omega
  have h63:¬(9223372036854775807<((n:Int)+(m:Int))):=by omega
  have hfit:=growslice_fits (need:=n+m) (old:=cap) (bytes:=i.bytes) hg hbytes
  have h48:¬(281474976710656<Builtin.nextslicecap (n+m) cap*i.bytes):=by omega
  simp[Builtin.append_,run_underlying hu,sizeOf,typeInfo,zeroValue,hi,hz,Builtin.lenOf,hn,h63,h48,Question.forced,hfA,hfB',newRow,grownCap]
  have hx:∀ X:Array Value,us.toArray++(vs.toArray++X)=(us++vs).toArray++X:=fun X=>by rw[<-Array.append_assoc,A1d us vs]
  rw[hx]
end
end Go.Ab
