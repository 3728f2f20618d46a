/- The layer by which the program is walked, and what its functions do: part 5 of 16. -/
import Derived.Test.YtjopicjammmbjaaGreatDoorV3
import Derived.Lib.Overlaps
set_option maxHeartbeats 4000000
set_option maxRecDepth 20000
set_option linter.unusedVariables false
set_option linter.unusedSimpArgs false
set_option linter.unnecessarySimpa false
namespace Go.Ab
open Go.RowKit
def A4(P:Program)(f:FuncId)(ds:List D)(H:Hp)(r:D)(H':Hp):Prop:=
 Bc P f=true/\∀ (w:World) (M0:Nat->Prop) (G:Gh) (I:Nat->Prop) (mu:Nat->Option Value) (vs:List Value),GA P w M0 G->G.dl=[]->Aq w M0 G (frN 4) I mu (Ai H) w->Bp w I mu ds vs->
  Calls P f vs.toArray w fun e w'=>∃ v I' mu',e=.returned v/\Rep w' I' mu' r v/\Aq w M0 G (frN 4) I' mu' (Ai H') w'
def Ny(P:Program)(rs:List ResultVar)(r:D)(H':Hp):AE->St->Prop
 |.ret,s|.normal,s=>∃ d,Jx P s rs=some d/\Ar ⟨[(0,d)],s.hp,s.nx⟩ ⟨[(0,r)],H',4⟩
 |_,_=>False
theorem Fu{w:World}{I:Nat->Prop}{mu:Nat->Option Value}{ds:List D}{vs:List Value}(h:Bp w I mu ds vs)(n t:Nat):Rep w I mu ((Bq 0 ds).get t) ((vs.toArray++Array.replicate n undef).getD t undef):=by
 have hget:=Ff ds 0 t
 simp only[A0t,true_and,A1m,Nat.sub_zero] at hget
 rw[hget]
 by_cases ht:t<ds.length
 ·rw[if_pos ht]
  have e:(vs.toArray++Array.replicate n undef).getD t undef=nv vs t:=by
   have:=h.1
   simp only[nv,A03,A1n]
   rw[Array.getElem?_append_left (by simp;omega)]
   simp
  rw[e];exact h.2 t ht
 ·rw[if_neg ht];exact .any _
theorem A4.of_awp{P:Program}{nt:Nat}{f:FuncId}{fn:Func}{c:Code}{ds:List D}{H:Hp}{r:D}{H':Hp}(hf:P.funcs[f]? =some fn)(hb:fn.body=some c)(hn:fn.ntmps=nt)(hent:Bc P f=true)(hlen:ds.length<=nt){rs:List ResultVar}(hrs:fn.results.toList=rs)
  (h:AWp P nt c (Ny P rs r H') ⟨Bq 0 ds,H,4⟩):A4 P f ds H r H':=by
 subst hrs
 refine⟨hent,fun w M0 G0 I mu vs hga hdl hw hrep=>?_⟩
 let G:Gh:=⟨G0.st,G0.nm,[],Fence.wide,0,.inl rfl⟩
 have hG:∀ k,G k->k<w.heap.size:=fun k hk=>hw.lt k (hw.iold k hk)
 refine callsIn_wide.1 (callsIn_of_wp_marks (n:=0) hf hb trivial (wpIn_mono (h w M0 G hga I mu _ w ⟨?_,BR.refl _ _ _ _,fun t=>Fu hrep _ t,⟨hw.blk,hw.loc,hw.inj,hw.fresh,hw.lt,hw.os,hw.tape,hw.output,hw.grown,hw.old,hw.iold,hw.inew,hw.keep,hw.used⟩⟩) ?_))
 ·have:=hrep.1;simp[hn];omega
 ·rintro e a' w' ⟨x,s',I',mu',hq,he,r'⟩
  have fin:∀ d,Jx P s' fn.results.toList=some d->Ar ⟨[(0,d)],s'.hp,s'.nx⟩ ⟨[(0,r)],H',4⟩->LeavesInM Fence.wide 0 P fn a'.tmps (fun e w'=>∃ v I' mu',e=.returned v/\Rep w' I' mu' r v/\Aq w M0 G0 (frN 4) I' mu' (Ai H') w') a'.defers .returning w':=by
   intro d hd hwk
   refine r'.leave hG rfl hd fun v w2 I2 _ W2 h2=>?_
   obtain⟨I3,mu3,R3⟩:=hwk w M0 G 1 I2 mu' {tmps:=#[v],defers:=[]} w2 ⟨rfl,BR.refl _ _ _ _,fun t=>by
    cases t with
    |zero=>simpa [St.fs,Env.get] using h2
    |succ t=>simp [St.fs,Env.get];exact .any _,W2⟩
   have r0:=R3.env 0
   exact⟨v,I3,mu3,rfl,by simpa[St.fs,Env.get] using r0,⟨R3.w.blk,R3.w.loc,R3.w.inj,R3.w.fresh,R3.w.lt,R3.w.os,R3.w.tape,R3.w.output,R3.w.grown,R3.w.old,R3.w.iold,R3.w.inew,R3.w.keep,R3.w.used⟩⟩
  cases x<;>cases e<;>simp only[Ga] at he<;>simp only[Ny] at hq
  case normal.normal=>
   obtain⟨d,hd,hfr⟩:=hq
   exact fin d hd hfr
  case ret.ret=>
   obtain⟨d,hd,hfr⟩:=hq
   exact fin d hd hfr
theorem A3.lo{P:Program}{f:FuncId}{ds ds':List D}{r:D}(h:A3 P f ds r)(hl:loL ds' ds):A3 P f ds' r:=by
 unfold A3 at h|-
 obtain⟨l1,l2⟩:=Ce hl
 exact⟨h.1,fun w I vs hga hI hl hr=>h.2 w I vs hga hI (by omega) fun i hi=>(hr i (by omega)).lo (l2 i (by omega))⟩
theorem Rep.into{w:World}{I:Nat->Prop}{mu mu':Nat->Option Value}{r:Nat->Nat}(hmu:∀ b x,x≠undef->mu b=some x->mu' (r b)=some x){d:D}{v:Value}(h:Rep w I mu d v):Rep w I mu' (B3 r d) v:=by
 induction h with
 |any v=>exact .any v
 |abool n pos b h=>exact .abool _ _ b h
 |val v ok=>exact .val v ok
 |cond g d v _ h' ih=>exact .cond _ _ v ih h'
 |agg cs us hl _ ih=>
  simp only[B3]
  refine .agg _ us (by rw[Az];exact hl) fun i hi=>?_
  rw[Az] at hi
  rw[BV hi];exact ih i hi
 |tup cs us hl _ ih=>
  simp only[B3]
  refine .tup _ us (by rw[Az];exact hl) fun i hi=>?_
  rw[Az] at hi
  rw[BV hi];exact ih i hi
 |slice es tight A k o sz cap u hA hc ht hm hlen hcell _ ih=>
  simp only[B3]
  have:=Rep.slice (w:=w) (I:=I) (mu:=mu') (DB r es) tight A k o sz cap u (by rw[AI];exact hA) (by rw[AI];exact hc) (by rw[AI];exact ht) hm
   (fun i hi=>by rw[AI] at hi;rw[Cq hi,Az];exact hlen i hi) (by rw[AI];exact hcell) (fun i j hi hj=>by
    rw[AI] at hi
    rw[Cq hi,BV (by rw[hlen i hi];exact hj)];exact ih i j hi hj)
  rw[AI] at this
  exact this
 |ptr cs off k o u hk hcell _ ih=>
  simp only[B3]
  refine .ptr _ _ k o u (by rw[Az];exact hk) (by rw[Az];exact hcell) fun j hj=>?_
  rw[Az] at hj
  rw[BV hj];exact ih j hj
 |ref b i off sz k h=>exact .ref _ _ _ _ k (hmu _ _ (by simp[undef]) h)
 |sref b i len cap sz k h=>exact .sref _ _ _ _ _ k (hmu _ _ (by simp[undef]) h)
 |gref b len A cap h=>exact .gref _ _ A cap (hmu _ _ (by simp[undef]) h)
 |mref b k h=>exact .mref _ k (hmu _ _ (by simp[undef]) h)
 |yld b k h=>exact .yld _ k (hmu _ _ (by simp[undef]) h)
 |gel b i off sz k len cap h=>exact .gel _ _ _ _ k len cap (hmu _ _ (by simp[undef]) h)
 |gsub b i len sz A B n cap h hle hB=>exact .gsub _ _ _ _ A B n cap (hmu _ _ (by simp[undef]) h) hle hB
 |func fn fs cs us vs hl hk _ _ ih ih'=>
  simp only[B3]
  refine .func _ _ _ us vs (by rw[Az];exact hl) (by rw[Az];exact hk) (fun i hi=>?_) fun i hi=>?_
  ·rw[Az] at hi;rw[BV hi];exact ih i hi
  ·rw[Az] at hi;rw[BV hi];exact ih' i hi
 |iface t d v _ ih=>exact .iface t _ v ih
theorem Dp.into{w:World}{I:Nat->Prop}{mu mu':Nat->Option Value}{r:Nat->Nat}(hmu:∀ b x,x≠undef->mu b=some x->mu' (r b)=some x){b:Nat}{x:Blk}(h:Dp w I mu b x):Dp w I mu' (r b) (FA r x):=by
 cases x with
 |rows es sz=>
  obtain⟨k,T,us,h1,h2,h3,h4,h5⟩:=h
  refine⟨k,T,us,hmu _ _ (by simp[undef]) h1,h2,by rw[AI];exact h3,fun i hi=>?_,fun i j hi hj=>?_⟩
  ·rw[AI] at hi;rw[Cq hi,Az];exact h4 i hi
  ·rw[AI] at hi;rw[Cq hi,BV (by rw[h4 i hi];exact hj)];exact(h5 i j hi hj).into hmu
 |grow es sz=>
  obtain⟨A,cap,T,us,h1,h2,h3,h4⟩:=h
  refine⟨A,cap,T,us,by rw[AI];exact hmu _ _ (by simp[undef]) h1,fun i hi=>?_,h3,?_⟩
  ·rw[AI] at hi;rw[Cq hi,Az];exact h2 i hi
  ·rcases h4 with⟨h5,rfl⟩|⟨k,g0,g1,g2,g3,g4,g5⟩
   ·exact .inl ⟨h5,rfl⟩
   ·refine .inr ⟨k,g0,g1,g2,by rw[AI];exact g3,g4,fun i j hi hj=>?_⟩
    rw[AI] at hi;rw[Cq hi,BV (by rw[h2 i hi];exact hj)];exact(g5 i j hi hj).into hmu
 |map es ck=>
  obtain⟨k,l,h1,h2,h3,h4,h5⟩:=h
  refine⟨k,l,hmu _ _ (by simp[undef]) h1,h2,by rw[h3];simp[Function.comp_def],by rw[h4];simp[Function.comp_def],fun i x y hx hy=>?_⟩
  simp only[A0A,A1v] at hy
  obtain⟨z,hz,rfl⟩:=hy
  exact(h5 i x z hx hz).into hmu
 |iter m since seen last=>
  obtain⟨k,km,h1,h2,h3⟩:=h
  exact⟨k,km,hmu _ _ (by simp[undef]) h1,hmu _ _ (by simp[undef]) h2,h3⟩
 |obj o=>
  obtain⟨k,h1,h2⟩:=h
  exact⟨k,hmu _ _ (by simp[undef]) h1,h2⟩
 |loop env nt st pd ps a c=>
  obtain⟨k,fn,tmps,kd,h1,h2,h3,h4⟩:=h
  exact⟨k,fn,tmps,kd,hmu _ _ (by simp[undef]) h1,h2,h3,fun t=>by rw[J1 (F:=B3 r) rfl];exact(h4 t).into hmu⟩
 |junk=>trivial
def BD(r:Nat->Nat)(hp:Nat->Option Blk):Hp->Prop
 |[]=>True
 |(b,x)::l=>(match hp (r b) with
  |some y=>loB y (FA r x)
  |none=>False)/\BD r hp l
theorem Lj{r:Nat->Nat}{hp:Nat->Option Blk}:∀ {l:Hp},BD r hp l->∀ b x,Ai l b=some x->∃ y,hp (r b)=some y/\loB y (FA r x)
 |[],_,b,x,hx=>by simp[Ai] at hx
 |(k,y)::l,h,b,x,hx=>by
  by_cases hk:k=b
  ·subst hk
   simp only[Ai,beq_self_eq_true,cond_true,A04] at hx
   subst hx
   have h1:=h.1
   split at h1
   ·rename_i y hy;exact⟨y,hy,h1⟩
   ·exact h1.elim
  ·have:(k==b)=false:=by simp[hk]
   simp only[Ai,this,cond_false] at hx
   exact Lj h.2 b x hx
theorem F7:∀ {l:Hp} {b:Nat} {x:Blk},Ai l b=some x->b ∈ l.map (·.1)
 |[],b,x,h=>by simp[Ai] at h
 |(k,y)::l,b,x,h=>by
  by_cases hk:k=b
  ·simp[hk]
  ·have:(k==b)=false:=by simp[hk]
   simp only[Ai,this,cond_false] at h
   exact A0l _ (F7 h)
def My:List Nat->Bool
 |[]=>true
 |x::r=>(r.all fun y=>!(y==x))&&My r
def CL(id:Nat)(r:Nat->Nat)(b:Nat):Nat:=bif b%2==1 then r b else id+b
def DX(id:Nat)(r:Nat->Nat)(H H':Hp):List (Nat×Option Blk):=H.map (fun p=>(r p.1,none))++H'.map fun p=>(CL id r p.1,some (FA (CL id r) p.2))
def Cm(id:Nat)(r:Nat->Nat)(H:Hp)(d:D)(H':Hp):Eff:=⟨B3 (CL id r) d,DX id r H H',H.map fun p=>r p.1⟩
def Dj(id:Nat)(r:Nat->Nat)(H H':Hp):Bool:=ND 4 H&&Sk r H&&My (H'.map (·.1))&&(H'.all fun p=>okN 4 p.1&&(p.1%2==0 ||H.any fun q=>q.1==p.1))&&H.all fun p=>!(decide (id<=r p.1)&&decide (r p.1<id+8)&&(r p.1-id)%2==0)
theorem NI{b:Nat}(r:Nat->Nat):∀ (l:Hp) (x:Option Blk),AX b x (l.map fun p=>(r p.1,none))=if (l.any fun p=>r p.1==b) then none else x
 |[],x=>rfl
 |p::l,x=>by
  have:=NI (b:=b) r l (if r p.1=b then none else x)
  simp only[AX,A0k,A0y] at this|-
  rw[this]
  by_cases h:r p.1=b
  ·simp[h]
  ·have:(r p.1==b)=false:=by simp[h]
   rw[if_neg h,List.any_cons,this,Bool.false_or]
theorem M9{σ:Nat->Nat}{F:Blk->Blk}:∀ (l:Hp) (x0:Option Blk),(∀ p ∈ l,∀ q ∈ l,σ p.1=σ q.1->p.1=q.1)->My (l.map (·.1))=true->∀ c y,Ai l c=some y->AX (σ c) x0 (l.map fun p=>(σ p.1,some (F p.2)))=some (F y)
 |[],_,_,_,c,y,h=>by cases h
 |(k,z)::l,x0,hinj,hn,c,y,h=>by
  simp only[My,A0k,A0c] at hn
  have hinj':∀ p ∈ l,∀ q ∈ l,σ p.1=σ q.1->p.1=q.1:=fun p hp q hq=>hinj p (A0l _ hp) q (A0l _ hq)
  by_cases hk:k=c
  ·subst hk
   simp only[Ai,beq_self_eq_true,cond_true,A04] at h
   subst h
   have hs:=EO (b:=σ k) (up:=l.map fun p=>(σ p.1,some (F p.2))) (fun p hp hb=>by
    obtain⟨q,hq,rfl⟩:=A0j.1 hp
    have:=hinj q (A0l _ hq) (k,z) A0C hb
    have h2:=A0p.1 hn.1 q.1 (A0j.2 ⟨q,hq,rfl⟩)
    simp at this
    simp[this] at h2) (some (F z))
   simp only[AX,A0k,A0y,if_true] at hs|-
   exact hs
  ·have:(k==c)=false:=by simp[hk]
   simp only[Ai,this,cond_false] at h
   exact M9 l _ hinj' hn.2 c y h
def PI(P:Program)(o:Oper)(id:Nat)(ev:Operand->D)(hp:Nat->Option Blk)(rd:List Nat)(F:Eff->Prop):Prop:=
 ∀ w0 M0 I0 fr I mu h (a:Act) w,GA P w0 M0 I0->Aq w0 M0 I0 fr I mu h w->(∀ j,j<4->fr (id+2*j))->(∀ x ∈ o.op.operands,Rep w I mu (ev x) (a.eval x))->(∀ b ∈ rd,h b=hp b)->
  ∀ K Q,(∀ e,F e->∀ v w' I' mu',Ext I mu w I' mu' w'->Aq w0 M0 I0 (fun b=>fr b/\∀ j,j<4->b≠id+2*j) I' mu' (fun b=>AX b (h b) e.up) w'->Rep w' I' mu' e.d v->K (a.put o.dst v) w')->o.wpIn I0.F I0.n P a w K Q
def UX(P:Program)(f:FuncId)(ds:List D)(H:Hp)(X:D->Hp->Prop):Prop:=
 Bc P f=true/\∀ (w:World) (M0:Nat->Prop) (G:Gh) (I:Nat->Prop) (mu:Nat->Option Value) (vs:List Value),GA P w M0 G->G.dl=[]->Aq w M0 G (frN 4) I mu (Ai H) w->Bp w I mu ds vs->
  Calls P f vs.toArray w fun e w'=>∃ r H' v I' mu',X r H'/\e=.returned v/\Rep w' I' mu' r v/\Aq w M0 G (frN 4) I' mu' (Ai H') w'
theorem A4.x{P:Program}{f:FuncId}{ds:List D}{H:Hp}{r:D}{H':Hp}(h:A4 P f ds H r H'):UX P f ds H (fun d h=>d=r/\h=H'):=
 ⟨h.1,fun w M0 G I mu vs hga hdl hw hr=>(h.2 w M0 G I mu vs hga hdl hw hr).mono fun e w' ⟨v,I',mu',he,hv,R⟩=>⟨r,H',v,I',mu',⟨rfl,rfl⟩,he,hv,R⟩⟩
theorem X4{P:Program}{id:Nat}{h hp:Nat->Option Blk}{ds:List D}{H:Hp}(r:Nat->Nat){w0:World}{M0:Nat->Prop}{I0:Gh}{fr I:Nat->Prop}{mu:Nat->Option Value}{w:World}{vs:List Value}
  (hga:GA P w0 M0 I0) (hw:Aq w0 M0 I0 fr I mu h w) (hid:∀ j,j<4->fr (id+2*j)) (hb:∀ b ∈ H.map fun p=>r p.1,h b=hp b) (hargs:Bp w I mu (Ca r ds) vs)
  (hl:ltL 4 ds=true) (hh:BD r hp H) (hok0:Dj id r H []=true):∃ (M:Nat->Prop) (G:Gh) (muc:Nat->Option Value),
   (GA P w M G/\G.dl=[]/\Aq w M G (frN 4) I muc (Ai H) w/\Bp w I muc ds vs/\(∀ b x,okN 4 b=true->mu (r b)=some x->muc b=some x)/\(∀ k,I k->G k)/\(∀ k,M k->¬I k)/\(∀ b x,b%2=1->muc b=some x->G.nm b=some x))/\
   ∀(d:D) (H':Hp) (v:Value) (w':World) (I':Nat->Prop) (mu':Nat->Option Value),Dj id r H H'=true->Rep w' I' mu' d v->Aq w M G (frN 4) I' mu' (Ai H') w'->∃ mu2,Ext I mu w I' mu2 w'/\
    Aq w0 M0 I0 (fun b=>fr b/\∀ j,j<4->b≠id+2*j) I' mu2 (fun b=>AX b (h b) (Cm id r H d H').up) w'/\Rep w' I' mu2 (Cm id r H d H').d v/\
    ∀ b x,Ai H' b=some x->AX (CL id r b) (h (CL id r b)) (Cm id r H d H').up=some (FA (CL id r) x):=by
 simp only[Dj,A0c] at hok0
 obtain⟨⟨⟨⟨hok1,hok2⟩,_⟩,_⟩,hok5⟩:=hok0
 have hfree:∀ j,j<4->mu (id+2*j)=none:=fun j hj=>hw.fresh _ (hid j hj)
 have hrd:∀ b x,Ai H b=some x->h (r b)=hp (r b):=fun b x hx=>hb _ (by
  obtain⟨p,hp',rfl⟩:=A0j.1 (F7 hx)
  exact A0j.2 ⟨p,hp',rfl⟩)
 have hlk:∀ b x,Ai H b=some x->∃ y,h (r b)=some y/\loB y (FA r x):=fun b x hx=>by
  obtain⟨y,h1,h2⟩:=Lj hh b x hx
  exact⟨y,(hrd b x hx).trans h1,h2⟩
 let muc:Nat->Option Value:=fun b=>if b%2=1 then some ((mu (r b)).getD undef) else if b<8 then mu (r b) else none
 have hmuc:∀ b x,okN 4 b=true->mu (r b)=some x->muc b=some x:=by
  intro b x hb hx
  simp only[muc]
  by_cases hb1:b%2=1
  ·rw[if_pos hb1,hx];rfl
  ·have:b<8:=by simp[okN,hb1] at hb;omega
   rw[if_neg hb1,if_pos this,hx]
 have hmuc':∀ b v,muc b=some v->v≠undef->mu (r b)=some v:=by
  intro b v hv hu
  simp only[muc] at hv
  split at hv
  ·cases hm:mu (r b) with
   |none=>rw [hm] at hv;simp at hv;exact absurd hv.symm hu
   |some y=>rw [hm] at hv;simpa using hv
  ·split at hv
   ·exact hv
   ·cases hv
 have hloc:∀ b v k,muc b=some v->Ap v=some k->mu (r b)=some v:=fun b v k hv hk=>hmuc' b v hv (by rintro rfl;cases hk)
 have hokn:∀ b x,Ai H b=some x->okN 4 b=true/\ltB 4 x=true:=fun b x hx=>by
  have key:∀ {l:Hp},ND 4 l=true->Ai l b=some x->okN 4 b=true/\ltB 4 x=true:=by
   intro l
   induction l with
   |nil=>intro _ h;cases h
   |cons p l ih=>
    intro ho hx
    simp only[ND,A0c] at ho
    by_cases hk:p.1=b
    ·have hk':(p.1==b)=true:=by simp[hk]
     simp only[Ai,hk',cond_true,A04] at hx
     subst hx
     exact⟨hk▸ho.1.1,ho.1.2⟩
    ·have hk':(p.1==b)=false:=by simp[hk]
     simp only[Ai,hk',cond_false] at hx
     exact ih ho.2 hx
  exact key hok1 hx
 let M:Nat->Prop:=fun k=>∃ b x v,Ai H b=some x/\muc b=some v/\Ap v=some k
 let G:Gh:=⟨I,fun b=>if b%2=1 then muc b else none,[],Fence.wide,0,.inl rfl⟩
 have hMloc:∀ k,M k->∃ b x v,Ai H b=some x/\(∃ y,h (r b)=some y)/\mu (r b)=some v/\Ap v=some k:=by
  rintro k ⟨b,x,v,h1,h2,h3⟩
  obtain⟨y,hy,_⟩:=hlk b x h1
  exact⟨b,x,v,h1,⟨y,hy⟩,hloc b v k h2 h3,h3⟩
 have hMc:∀ k,M k->(M0 k∨w0.heap.size<=k)/\¬I k/\k<w.heap.size:=fun k hk=>by
  obtain⟨b,x,v,_,⟨y,hy⟩,h2,h3⟩:=hMloc k hk
  exact hw.loc _ y v k hy h2 h3
 have hW:Aq w M G (frN 4) I muc (Ai H) w:=by
  refine⟨fun b x hx=>?_,fun b x v k hx hv hk=>?_,fun b c x y v u k hx hy hv hu hk hk'=>?_,fun b hb=>?_,hw.lt,rfl,rfl,rfl,A0e _,fun _ _ _=>rfl,fun _ h=>h,fun _ h=>.inl h,fun b x hb hn=>?_,fun b x hx hb=>?_⟩
  ·obtain⟨y,h1,h2⟩:=hlk b x hx
   obtain⟨g1,g2⟩:=hokn b x hx
   exact(Dp.lo (hw.blk (r b) y h1) h2).ren hmuc g1 g2
  ·have hm:M k:=⟨b,x,v,hx,hv,hk⟩
   exact⟨.inl hm,(hMc k hm).2⟩
  ·obtain⟨y1,g1,_⟩:=hlk b x hx
   obtain⟨y2,g2,_⟩:=hlk c y hy
   have h1:=hloc b v k hv hk
   have h2:=hloc c u k hu hk'
   have:=hw.inj (r b) (r c) _ _ v u k g1 g2 h1 h2 hk hk'
   have h3:=A0p.1 (A0p.1 hok2 b (F7 hx)) c (F7 hy)
   simp_all
  ·obtain⟨h1,h2⟩:=hb
   simp only[muc]
   rw[if_neg (by omega),if_neg (by omega)]
  ·have hn':(if b%2=1 then muc b else none)=some x:=hn
   rw[if_pos hb] at hn';exact hn'
  ·have h1:=(hokn b x hx).1
   have h3:=hb.1
   have h4:=hb.2
   simp[okN] at h1
   omega
 have hga':GA P w M G:=fun g l hgl=>by
  obtain⟨h1,T,fz,h2⟩:=hga.at hw g l hgl
  exact⟨h1,hw.lt g h1,fun hm=>(hMc g hm).2.1 h1,T,fz,h2⟩
 have hargs':Bp w I muc ds vs:=by
  refine⟨by rw[hargs.1,Az],fun i hi=>?_⟩
  have:=hargs.2 i (by rw[Az];exact hi)
  rw[BV hi] at this
  exact this.ren hmuc rfl (Et hl i)
 refine⟨M,G,muc,⟨hga',rfl,hW,hargs',hmuc,fun _ h=>h,fun k hk=>(hMc k hk).2.1,fun b x hb hx=>(by show(if b%2=1 then muc b else none)=_;rw[if_pos hb];exact hx)⟩,fun d H' v w' I' mu' hok hv R=>?_⟩
 simp only[Dj,A0c] at hok
 obtain⟨⟨⟨_,hok3⟩,hok4⟩,_⟩:=hok
 let mu2:Nat->Option Value:=fun b=>if id<=b/\b<id+8/\(b-id)%2=0 then mu' (b-id) else mu b
 have hmu2:∀ b x,mu b=some x->mu2 b=some x:=by
  intro b x hx
  simp only[mu2]
  rw[if_neg]
  ·exact hx
  ·rintro⟨h1,h2,h3⟩
   have:=hfree ((b-id)/2) (by omega)
   have e:id+2*((b-id)/2)=b:=by omega
   rw[e,hx] at this
   cases this
 have hout:∀ b x,x≠undef->mu' b=some x->mu2 (CL id r b)=some x:=by
  intro b x hu hx
  by_cases hb1:b%2=1
  ·have hb1':(b%2==1)=true:=by simp[hb1]
   simp only[CL,hb1',cond_true]
   refine hmu2 _ _ (hmuc' b x ?_ hu)
   have hk:=R.keep b ((mu (r b)).getD undef) hb1 (by show(if b%2=1 then muc b else none)=_;simp only[muc,if_pos hb1])
   rw[hx] at hk
   simp only[muc,if_pos hb1]
   exact hk.symm▸rfl
  ·have hb1':(b%2==1)=false:=by simp[hb1]
   simp only[CL,hb1',cond_false,mu2]
   have:b<8:=by
    apply Nat.lt_of_not_le
    intro hge
    have:=R.fresh b ⟨by omega,by omega⟩
    rw[hx] at this
    cases this
   rw[if_pos ⟨by omega,by omega,by omega⟩,A1O]
   exact hx
 have hback:∀ b v,mu2 (CL id r b)=some v->∀ x,Ai H' b=some x->∀ k,Ap v=some k->mu' b=some v:=by
  intro b v hv x hx k hk
  have hmem:=A0p.1 hok4
  obtain⟨p,hp',rfl⟩:=A0j.1 (F7 hx)
  have h4:=hmem p hp'
  simp only[A0c,A1P,beq_iff_eq,List.any_eq_true] at h4
  by_cases hb1:p.1%2=1
  ·have hb1':(p.1%2==1)=true:=by simp[hb1]
   simp only[CL,hb1',cond_true] at hv
   obtain⟨q,hq,hqe⟩:=h4.2.resolve_left (by omega)
   have hmu1:mu (r p.1)=some v:=by
    simp only[mu2] at hv
    split at hv
    ·rename_i hr
     exfalso
     have h5:=A0p.1 hok5 q hq
     rw[hqe] at h5
     simp at h5
     omega
    ·exact hv
   refine R.keep p.1 v hb1 ?_
   show(if p.1%2=1 then muc p.1 else none)=_
   simp only[if_pos hb1,muc,hmu1,A0D]
  ·have hb1':(p.1%2==1)=false:=by simp[hb1]
   simp only[CL,hb1',cond_false,mu2] at hv
   have:p.1<8:=by have:=h4.1;simp[okN,hb1] at this;omega
   rw[if_pos ⟨by omega,by omega,by omega⟩,A1O] at hv
   exact hv
 have hinj:∀ p ∈ H',∀ q ∈ H',CL id r p.1=CL id r q.1->p.1=q.1:=by
  intro p hp' q hq he
  have h4:=A0p.1 hok4
  have hp4:=h4 p hp'
  have hq4:=h4 q hq
  simp only[A0c,A1P,beq_iff_eq,List.any_eq_true] at hp4 hq4
  have h5:=A0p.1 hok5
  have odd:∀ p:Nat×Blk,p.1%2=1->(p.1%2=0∨∃ x,x ∈ H/\x.1=p.1)->∃ x,x ∈ H/\x.1=p.1:=fun p hp h=>h.resolve_left (by omega)
  have mix:∀ p q:Nat×Blk,p.1%2=1->(p.1%2=0∨∃ x,x ∈ H/\x.1=p.1)->¬q.1%2=1->okN 4 q.1=true->r p.1=id+q.1->False:=by
   intro p q h1 h2 h3 h4 h6
   obtain⟨x,hx,hxe⟩:=odd p h1 h2
   have h7:=h5 x hx
   rw[hxe,h6] at h7
   have:q.1<8:=by simp[okN,h3] at h4;omega
   simp at h7
   omega
  by_cases h1:p.1%2=1<;>by_cases h2:q.1%2=1
  ·have h1':(p.1%2==1)=true:=by simp[h1]
   have h2':(q.1%2==1)=true:=by simp[h2]
   simp only[CL,h1',h2',cond_true] at he
   obtain⟨x,hx,hxe⟩:=odd p h1 hp4.2
   obtain⟨y,hy,hye⟩:=odd q h2 hq4.2
   have h3:=A0p.1 (A0p.1 hok2 x.1 (A0j.2 ⟨x,hx,rfl⟩)) y.1 (A0j.2 ⟨y,hy,rfl⟩)
   rw[hxe,hye] at h3
   simp_all
  ·have h1':(p.1%2==1)=true:=by simp[h1]
   have h2':(q.1%2==1)=false:=by simp[h2]
   simp only[CL,h1',h2',cond_true,cond_false] at he
   exact(mix p q h1 hp4.2 h2 hq4.1 he).elim
  ·have h1':(p.1%2==1)=false:=by simp[h1]
   have h2':(q.1%2==1)=true:=by simp[h2]
   simp only[CL,h1',h2',cond_true,cond_false] at he
   exact(mix q p h2 hq4.2 h1 hp4.1 he.symm).elim
  ·have h1':(p.1%2==1)=false:=by simp[h1]
   have h2':(q.1%2==1)=false:=by simp[h2]
   simp only[CL,h1',h2',cond_false] at he
   omega
 have hat:∀ b y,AX b (h b) (DX id r H H')=some y->(∃ c x,Ai H' c=some x/\CL id r c=b/\y=FA (CL id r) x)∨((∀ c x,Ai H c=some x->r c≠b)/\h b=some y):=by
  intro b y hy
  have hsplit:AX b (h b) (DX id r H H')=AX b (AX b (h b) (H.map fun p=>(r p.1,none))) (H'.map fun p=>(CL id r p.1,some (FA (CL id r) p.2))):=by
   simp only[DX,AX,A1Z]
  rw[hsplit,NI] at hy
  by_cases hex:∃ p ∈ H',CL id r p.1=b
  ·obtain⟨p,hp',rfl⟩:=hex
   have:∃ x,Ai H' p.1=some x:=by
    have:∀ {l:Hp},p ∈ l->∃ y,Ai l p.1=some y:=by
     intro l
     induction l with
     |nil=>intro h;cases h
     |cons z l ih=>
      intro hm
      by_cases hz:z.1=p.1
      ·exact⟨z.2,by simp[Ai,hz]⟩
      ·have:(z.1==p.1)=false:=by simp[hz]
       simp only[Ai,this,cond_false]
       rcases A0o.1 hm with rfl|hm
       ·exact absurd rfl hz
       ·exact ih hm
    exact this hp'
   obtain⟨x,hx⟩:=this
   rw[M9 H' _ hinj hok3 p.1 x hx] at hy
   exact .inl ⟨p.1,x,hx,rfl,(Option.some.inj hy).symm⟩
  ·rw[EO (fun p hp' hpb=>hex (by
    obtain⟨q,hq,rfl⟩:=A0j.1 hp'
    exact⟨q,hq,hpb⟩))] at hy
   split at hy
   ·cases hy
   ·rename_i hn
    refine .inr ⟨fun c x hx hc=>hn ?_,hy⟩
    obtain⟨p,hp',rfl⟩:=A0j.1 (F7 hx)
    exact List.any_eq_true.2 ⟨p,hp',by simp[hc]⟩
 have hMne:∀ b y v k,h b=some y->(∀ c x,Ai H c=some x->r c≠b)->mu b=some v->Ap v=some k->¬M k:=by
  intro b y v k hy hne hv hk hm
  obtain⟨c,x,u,g1,⟨z,g2⟩,g3,g4⟩:=hMloc k hm
  exact hne c x g1 (hw.inj (r c) b z y u v k g2 hy g3 hv g4 hk)
 have hIw:∀ k,I k->w'.heap[k]? =w.heap[k]?:=fun k hk=>R.old k (hw.lt k hk) fun hm=>(hMc k hm).2.1 hk
 have hext:Ext I mu w I' mu2 w':=⟨fun k hk=>R.iold k hk,hmu2,hIw⟩
 have hframe:∀ b y v k,h b=some y->(∀ c x,Ai H c=some x->r c≠b)->mu2 b=some v->Ap v=some k->mu b=some v:=by
  intro b y v k hy hne hv hk
  simp only[mu2] at hv
  split at hv
  ·rename_i hr
   exfalso
   have hn:=hid ((b-id)/2) (by omega)
   have e:id+2*((b-id)/2)=b:=by omega
   rw[e] at hn
   exact hw.used b y hy hn
  ·exact hv
 refine⟨mu2,hext,⟨fun b y hy=>?_,fun b y v k hy hv hk=>?_,fun b c y z v u k hy hz hv hu hk hk'=>?_,fun b hb=>?_,R.lt,R.os.trans hw.os,R.tape.trans hw.tape,R.output.trans hw.output,A0L hw.grown R.grown,fun k hk hnm=>?_,fun k hk=>R.iold k (hw.iold k hk),fun k hk=>?_,fun b x hb hn=>hmu2 b x (hw.keep b x hb hn),fun b y hy hb=>?_⟩,hv.into hout,fun b x hx=>?_⟩
 ·rcases hat b y hy with⟨c,x,h1,rfl,rfl⟩|⟨hne,h1⟩
  ·exact(R.blk c x h1).into hout
  ·exact(hw.blk b y h1).mono hIw (fun k hk=>R.iold k hk) hmu2 fun v k hv hk=>R.old k (hw.loc b y v k h1 hv hk).2.2 (hMne b y v k h1 hne hv hk)
 ·rcases hat b y hy with⟨c,x,h1,rfl,rfl⟩|⟨hne,h1⟩
  ·have:=R.loc c x v k h1 (hback c v hv x h1 k hk) hk
   refine⟨?_,this.2⟩
   rcases this.1 with h2|h2
   ·exact(hMc k h2).1
   ·exact .inr (A0L hw.grown h2)
  ·have hv':=hframe b y v k h1 hne hv hk
   have:=hw.loc b y v k h1 hv' hk
   refine⟨this.1,fun hI=>?_,A1f this.2.2 R.grown⟩
   rcases R.inew k hI with h2|h2|h2
   ·exact this.2.1 h2
   ·exact hMne b y v k h1 hne hv' hk h2
   ·omega
 ·have cross:∀ b y c x v u k,h b=some y->(∀ c x,Ai H c=some x->r c≠b)->mu b=some v->Ap v=some k->Ai H' c=some x->mu' c=some u->Ap u=some k->False:=by
   intro b y c x v u k h1 hne h2 h3 h4 h5 h6
   have g1:=hw.loc b y v k h1 h2 h3
   have g2:=(R.loc c x u k h4 h5 h6).1
   rcases g2 with g2|g2
   ·exact hMne b y v k h1 hne h2 h3 g2
   ·omega
  rcases hat b y hy with⟨b',x,h1,rfl,rfl⟩|⟨hne,h1⟩<;>rcases hat c z hz with⟨c',x',h2,rfl,rfl⟩|⟨hne',h2⟩
  ·rw[R.inj b' c' x x' v u k h1 h2 (hback b' v hv x h1 k hk) (hback c' u hu x' h2 k hk') hk hk']
  ·exact(cross c z b' x u v k h2 hne' (hframe c z u k h2 hne' hu hk') hk' h1 (hback b' v hv x h1 k hk) hk).elim
  ·exact(cross b y c' x' v u k h1 hne (hframe b y v k h1 hne hv hk) hk h2 (hback c' u hu x' h2 k hk') hk').elim
  ·exact hw.inj b c y z v u k h1 h2 (hframe b y v k h1 hne hv hk) (hframe c z u k h2 hne' hu hk') hk hk'
 ·simp only[mu2]
  rw[if_neg]
  ·exact hw.fresh b hb.1
  ·rintro⟨h1,h2,h3⟩
   exact hb.2 ((b-id)/2) (by omega) (by omega)
 ·have hnM:¬M k:=fun hm=>by
   rcases(hMc k hm).1 with h1|h1
   ·exact hnm h1
   ·omega
  rw[R.old k (by have:=hw.grown;omega) hnM]
  exact hw.old k hk hnm
 ·rcases R.inew k hk with h1|h1|h1
  ·exact hw.inew k h1
  ·exact .inr (hMc k h1).1
  ·exact .inr (.inr (A0L hw.grown h1))
 ·rcases hat b y hy with⟨c,x,h1,rfl,rfl⟩|⟨hne,h1⟩
  ·have h4:=A0p.1 hok4
   obtain⟨p,hp',rfl⟩:=A0j.1 (F7 h1)
   have h4:=h4 p hp'
   simp only[A0c,A1P,beq_iff_eq,List.any_eq_true] at h4
   by_cases hb1:p.1%2=1
   ·have hb1':(p.1%2==1)=true:=by simp[hb1]
    simp only[CL,hb1',cond_true] at hb
    obtain⟨q,hq,hqe⟩:=h4.2.resolve_left (by omega)
    have:∀ {l:Hp},q ∈ l->∃ y,Ai l q.1=some y:=by
     intro l
     induction l with
     |nil=>intro h;cases h
     |cons z l ih=>
      intro hm
      by_cases hz:z.1=q.1
      ·exact⟨z.2,by simp[Ai,hz]⟩
      ·have:(z.1==q.1)=false:=by simp[hz]
       simp only[Ai,this,cond_false]
       rcases A0o.1 hm with rfl|hm
       ·exact absurd rfl hz
       ·exact ih hm
    obtain⟨y,hy⟩:=this hq
    obtain⟨z,hz,_⟩:=hlk q.1 y hy
    rw[hqe] at hz
    exact hw.used _ z hz hb.1
   ·have hb1':(p.1%2==1)=false:=by simp[hb1]
    simp only[CL,hb1',cond_false] at hb
    have:p.1<8:=by have:=h4.1;simp[okN,hb1] at this;omega
    exact hb.2 (p.1/2) (by omega) (by omega)
  ·exact hw.used b y h1 hb.1
 ·show AX _ _ (DX id r H H')=_
  have hs:∀ z,AX (CL id r b) z (DX id r H H')=AX (CL id r b) (AX (CL id r b) z (H.map fun p=>(r p.1,none))) (H'.map fun p=>(CL id r p.1,some (FA (CL id r) p.2))):=fun z=>by
   simp only[DX,AX,A1Z]
  rw[hs]
  exact M9 H' _ hinj hok3 b x hx
theorem Px{P:Program}{id:Nat}{ev:Operand->D}{hp:Nat->Option Blk}{o:Oper}{ds:List D}{H:Hp}{X:D->Hp->Prop}(r:Nat->Nat)
  (hrun:∀ w0 M0 (I0:Gh) fr I mu h (a:Act) w,Aq w0 M0 I0 fr I mu h w->(∀ x ∈ o.op.operands,Rep w I mu (ev x) (a.eval x))->∃ vs,Bp w I mu (Ca r ds) vs/\
   ∀(M:Nat->Prop) (G:Gh) (muc:Nat->Option Value),GA P w M G->G.dl=[]->Aq w M G (frN 4) I muc (Ai H) w->Bp w I muc ds vs->(∀ b x,okN 4 b=true->mu (r b)=some x->muc b=some x)->
    ∀ K Q,(∀(e:Ending) (w':World),(∃ d H' v I' mu',X d H'/\e=.returned v/\Rep w' I' mu' d v/\Aq w M G (frN 4) I' mu' (Ai H') w')->∃ v,e=.returned v/\K (a.put o.dst v) w')->o.wpIn I0.F I0.n P a w K Q)
  (hl:ltL 4 ds=true) (hh:BD r hp H) (hok0:Dj id r H []=true) (hokX:∀ d H',X d H'->Dj id r H H'=true):PI P o id ev hp (H.map fun p=>r p.1) (fun e=>∃ d H',X d H'/\e=Cm id r H d H'):=by
 intro w0 M0 I0 fr I mu h a w hga hw hid hxs hb K Q hK
 obtain⟨vs,hargs,hwp⟩:=hrun w0 M0 I0 fr I mu h a w hw hxs
 obtain⟨M,G,muc,⟨g1,g2,g3,g4,g5,_⟩,hback⟩:=X4 r hga hw hid hb hargs hl hh hok0
 refine hwp M G muc g1 g2 g3 g4 g5 K Q fun e w' ⟨d,H',v,I',mu',hX,he,hv,R⟩=>⟨v,he,?_⟩
 obtain⟨mu2,q1,q2,q3,_⟩:=hback d H' v w' I' mu' (hokX d H' hX) hv R
 exact hK _ ⟨d,H',hX,rfl⟩ v w' I' mu2 q1 q2 q3
theorem SM{P:Program}{id:Nat}{ev:Operand->D}{hp:Nat->Option Blk}{o:Oper}{f:FuncId}{ds:List D}{H:Hp}{X:D->Hp->Prop}(r:Nat->Nat)
  (hrun:∀ w0 M0 I0 fr I mu h (a:Act) w,Aq w0 M0 I0 fr I mu h w->(∀ x ∈ o.op.operands,Rep w I mu (ev x) (a.eval x))->∃ vs,(execOp a.eval o).run P w=.ok (.enter f vs.toArray) w/\Bp w I mu (Ca r ds) vs)
  (hl:ltL 4 ds=true) (hh:BD r hp H) (hok0:Dj id r H []=true) (hokX:∀ d H',X d H'->Dj id r H H'=true) (hc:UX P f ds H X):PI P o id ev hp (H.map fun p=>r p.1) (fun e=>∃ d H',X d H'/\e=Cm id r H d H'):=by
 refine Px r (fun w0 M0 I0 fr I mu h a w hw hxs=>?_) hl hh hok0 hokX
 obtain⟨vs,hrun,hargs⟩:=hrun w0 M0 I0 fr I mu h a w hw hxs
 refine⟨vs,hargs,fun M G muc hga hdl hW ha _ K Q hK=>CS hrun ((hc.2 w M G I muc vs hga hdl hW ha).mono fun e w' h=>?_)⟩
 obtain⟨v,rfl,hv⟩:=hK e w' h
 exact hv
theorem Na{P:Program}{id:Nat}{ev:Operand->D}{hp:Nat->Option Blk}{o:Oper}{f:FuncId}{ds:List D}{H:Hp}{d:D}{H':Hp}(r:Nat->Nat)
  (hrun:∀ w0 M0 I0 fr I mu h (a:Act) w,Aq w0 M0 I0 fr I mu h w->(∀ x ∈ o.op.operands,Rep w I mu (ev x) (a.eval x))->∃ vs,(execOp a.eval o).run P w=.ok (.enter f vs.toArray) w/\Bp w I mu (Ca r ds) vs)
  (hl:ltL 4 ds=true) (hh:BD r hp H) (hok:Dj id r H H'=true) (hc:A4 P f ds H d H'):B8 P o id ev hp (Cm id r H d H'):=by
 have h0:Dj id r H []=true:=by
  simp only[Dj,A0c] at hok|-
  obtain⟨⟨⟨⟨hok1,hok2⟩,hok3⟩,hok4⟩,hok5⟩:=hok
  exact⟨⟨⟨⟨hok1,hok2⟩,rfl⟩,rfl⟩,hok5⟩
 intro w0 M0 I0 fr I mu h a w hga hw hid hxs hb K Q hK
 exact SM r hrun hl hh h0 (fun d' H'' h=>by rw[h.2];exact hok) hc.x w0 M0 I0 fr I mu h a w hga hw hid hxs hb K Q fun e ⟨d',H'',h1,h2⟩=>by
  obtain⟨rfl,rfl⟩:=h1;subst h2;exact hK
section
variable{P:Program}{ops:Array Oper}{nx:Nat}{dst:Option Tmp}{T:TypeId}{ps:String}{af:Array Edge}{gd:Option (Nat×Bool)}{f:FuncId}{x:Operand}{args:Array Operand}{ts:Array TypeId}{fs cs ds:List D}{d:D}{H H':Hp}{l:List Oper}{pos:Nat}{acc:List Eff}{s:St}{K:List Eff->St->Prop}
theorem Af.scall(r:Nat->Nat)(hc:A4 P f ds H d H')(hg:gd=none∨∃ j want t,gd=some (j,want)/\BS ops j=some t/\gOf (s.env.get t) want=some true)(ha:args.toList.map (evO P s.env.get)=Ca r ds)
  (hl:ltL 4 ds=true) (hh:BD r (Ai s.hp) H) (hok:Dj (2*(nx+4*pos)) r H H'=true)
  (hk:GoS P ops nx l (pos+1) (Cm (2*(nx+4*pos)) r H d H'::acc) (s.app dst (Cm (2*(nx+4*pos)) r H d H')) K):Af P ops nx (⟨dst,.call {callee:=.value (.func f),args:=args,argTypes:=ts},T,ps,af,gd⟩::l) pos acc s K:=by
 rw[Dl] at hk;rw[Cg]
 unfold Cj
 have hdo:B8 P ⟨dst,.call {callee:=.value (.func f),args:=args,argTypes:=ts},T,ps,af,gd⟩ (2*(nx+4*pos)) (evO P s.env.get) (Ai s.hp) (Cm (2*(nx+4*pos)) r H d H'):=by
  refine Na r (fun w0 M0 I0 fr I mu h a w hw hx=>⟨args.toList.map a.eval,?_,?_⟩) hl hh hok hc
  ·have e1:args.map a.eval=(args.toList.map a.eval).toArray:=by apply Array.ext';simp
   simp only[execOp,resolve,Act.eval,Deferred.ofValue,A0m,A0w,Result.andThen,invoke]
   have e2:#[]++args.map a.eval++ #[]=(args.toList.map a.eval).toArray:=by rw[e1];simp
   exact(congrArg (fun z=>(callFunc f z).run P w) e2).trans (Bn hc.1 _ w)
  ·rw[<-ha]
   exact Bp.args fun y hy=>hx y (by simp[Op.operands,Call.operands];exact .inr (by simpa using hy))
 refine .inl ⟨_,?_,by have:=Go.run hk;unfold Cj at this;exact this⟩
 rcases hg with rfl|⟨j,want,t,rfl,ht,hg⟩
 ·exact BT.plain rfl hdo
 ·exact BT.guard_true rfl ht hg hdo
theorem Af.scallV(r:Nat->Nat)(hx:evO P s.env.get x=.func (.func f) fs cs)(hc:A4 P f ds H d H')(hg:gd=none∨∃ j want t,gd=some (j,want)/\BS ops j=some t/\gOf (s.env.get t) want=some true)(ha:fs++args.toList.map (evO P s.env.get)++cs=Ca r ds)
  (hl:ltL 4 ds=true) (hh:BD r (Ai s.hp) H) (hok:Dj (2*(nx+4*pos)) r H H'=true)
  (hk:GoS P ops nx l (pos+1) (Cm (2*(nx+4*pos)) r H d H'::acc) (s.app dst (Cm (2*(nx+4*pos)) r H d H')) K):Af P ops nx (⟨dst,.call {callee:=.value x,args:=args,argTypes:=ts},T,ps,af,gd⟩::l) pos acc s K:=by
 rw[Dl] at hk;rw[Cg]
 unfold Cj
 have hdo:B8 P ⟨dst,.call {callee:=.value x,args:=args,argTypes:=ts},T,ps,af,gd⟩ (2*(nx+4*pos)) (evO P s.env.get) (Ai s.hp) (Cm (2*(nx+4*pos)) r H d H'):=by
  refine Na r (fun w0 M0 I0 fr I mu h a w hw hxs=>?_) hl hh hok hc
  have hxr:=hxs x (by simp[Op.operands,Call.operands])
  rw[hx] at hxr
  have hargs:=Bp.args (w:=w) (I:=I) (mu:=mu) (ev:=evO P s.env.get) (a:=a) (args:=args) fun y hy=>hxs y (by simp[Op.operands,Call.operands];exact .inr (by simpa using hy))
  generalize he:a.eval x=fv at hxr
  cases hxr with
  |func _ _ _ us vs hl hk h1 h2=>
  refine⟨us++args.toList.map a.eval++vs,?_,?_⟩
  ·have e1:us.toArray++args.map a.eval++vs.toArray=(us++args.toList.map a.eval++vs).toArray:=by apply Array.ext';simp
   simp only[execOp,resolve,he,Deferred.ofValue,A0m,A0w,Result.andThen,invoke]
   exact(congrArg (fun z=>(callFunc f z).run P w) e1).trans (Bn hc.1 _ w)
  ·rw[<-ha]
   exact Bp.append (Bp.append ⟨hl,h1⟩ hargs) ⟨hk,h2⟩
 refine .inl ⟨_,?_,by have:=Go.run hk;unfold Cj at this;exact this⟩
 rcases hg with rfl|⟨j,want,t,rfl,ht,hg⟩
 ·exact BT.plain rfl hdo
 ·exact BT.guard_true rfl ht hg hdo
theorem Re.plain{o:Oper}{id:Nat}{s0:FSt}{rd:List Nat}{F:Eff->Prop}(hg:o.guard=none)(h:PI P o id (evO P s0.env) s0.hp rd F):Re P ops o id s0 F:=by
 intro w0 M0 I0 nt fr I mu a w hga r hid hd K Q hK
 rw[if_pos (by simp[Region.wanted,hg])]
 refine h w0 M0 I0 fr I mu s0.hp a w hga r.w hid (fun x hx=>DI (hga.at r.w) r.env x) (fun _ _=>rfl) K Q fun e hF v w' I' mu' hext hw hv=>hK e hF _ _ I' mu' ⟨?_,?_,?_,hw⟩
 ·rw[F0];exact r.size
 ·rw[DZ];exact r.defers.ext hext
 ·exact Kh r.size hd (fun t=>(r.env t).ext hext) hv a rfl
theorem Af.many{op:Op}(rd:List Nat)(F:Eff->Prop)(he:∃ e,F e)(h:PI P ⟨dst,op,T,ps,af,none⟩ (2*(nx+4*pos)) (evO P s.env.get) (Ai s.hp) rd F)
  (hk:∀ e,F e->GoS P ops nx l (pos+1) (bad::acc) (s.app dst e) K):Af P ops nx (⟨dst,op,T,ps,af,none⟩::l) pos acc s K:=by
 rw[Dl] at hk;rw[Cg]
 unfold Cj
 exact .inr (.inl ⟨F,he,Re.plain rfl h,fun e hF=>by have:=Go.run (hk e hF);unfold Cj at this;exact this⟩)
def G9(P:Program)(y:Nat)(ds:List D)(H:Hp)(d:D)(H':Hp):Prop:=
 ∀(w:World) (M0:Nat->Prop) (G:Gh) (I:Nat->Prop) (mu:Nat->Option Value) (vs:List Value) (l:Nat),GA P w M0 G->G.dl=[]->mu y=some (.pointer (some ⟨l,0,none⟩))->Aq w M0 G (frN 4) I mu (Ai H) w->Bp w I mu ds vs->
  ∃ fn tmps assign body,(Instr.yield l vs.toArray).run P w=.ok (.round l fn tmps assign body) w/\RoundIn Fence.wide 0 P l fn tmps assign body w fun e w'=>∃ v I' mu',e=.returned v/\Rep w' I' mu' d v/\Aq w M0 G (frN 4) I' mu' (Ai H') w'
theorem TV{G:Gh}{l fn:Nat}{tmps:Array Value}{assign body:Code}{w:World}{R:Ending->World->Prop}(h:RoundIn Fence.wide 0 P l fn tmps assign body w R):RoundIn G.F (G.n-1) P l fn tmps assign body w R:=by
 obtain⟨h1,h2⟩:=h
 have hn:∀ n m,RoundIn Fence.wide n P l fn tmps assign body w R->RoundIn Fence.wide m P l fn tmps assign body w R:=fun n m h=>⟨h.1,fun c cs _=>h.2 c cs (fun d hd=>by cases hd)⟩
 rcases G.hF with e|⟨l',e⟩<;>rw [e]
 ·exact hn 0 _ ⟨h1,h2⟩
 ·exact hn 0 _ ⟨h1,h2⟩
theorem Af.yield(y:Nat)(r:Nat->Nat)(hy:y%2=1)(hx:evO P s.env.get x=.yld (r y))(hc:G9 P y ds H d H')(ha:args.toList.map (evO P s.env.get)=Ca r ds)(hg:gd=none∨∃ j want t,gd=some (j,want)/\BS ops j=some t/\gOf (s.env.get t) want=some true)
  (hl:ltL 4 ds=true) (hh:BD r (Ai s.hp) H) (hok:Dj (2*(nx+4*pos)) r H H'=true)
  (hk:GoS P ops nx l (pos+1) (Cm (2*(nx+4*pos)) r H d H'::acc) (s.app dst (Cm (2*(nx+4*pos)) r H d H')) K):Af P ops nx (⟨dst,.call {callee:=.value x,args:=args,argTypes:=ts},T,ps,af,gd⟩::l) pos acc s K:=by
 rw[Dl] at hk;rw[Cg]
 unfold Cj
 have h0:Dj (2*(nx+4*pos)) r H []=true:=by
  simp only[Dj,A0c] at hok|-
  obtain⟨⟨⟨⟨hok1,hok2⟩,hok3⟩,hok4⟩,hok5⟩:=hok
  exact⟨⟨⟨⟨hok1,hok2⟩,rfl⟩,rfl⟩,hok5⟩
 have hdo:B8 P ⟨dst,.call {callee:=.value x,args:=args,argTypes:=ts},T,ps,af,gd⟩ (2*(nx+4*pos)) (evO P s.env.get) (Ai s.hp) (Cm (2*(nx+4*pos)) r H d H'):=by
  intro w0 M0 I0 fr I mu h a w hga hw hid hxs hb K Q hK
  refine Px (X:=fun d' h'=>d'=d/\h'=H') r (fun w0 M0 I0 fr I mu h a w hw hxs=>⟨args.toList.map a.eval,?_,fun M G muc hga hdl hW hargs hmuc K Q hK=>?_⟩) hl hh h0 (fun d' H'' h=>by rw[h.2];exact hok) w0 M0 I0 fr I mu h a w hga hw hid hxs hb K Q fun e ⟨d',H'',h1,h2⟩=>by
   obtain⟨rfl,rfl⟩:=h1;subst h2;exact hK
  ·rw[<-ha]
   exact Bp.args fun y hy=>hxs y (by simp[Op.operands,Call.operands];exact .inr (by simpa using hy))
  ·have hxr:=hxs x (by simp[Op.operands,Call.operands])
   rw[hx] at hxr
   generalize he:a.eval x=fv at hxr
   cases hxr with
   |yld _ l hl=>
   obtain⟨fn,tmps,assign,body,q1,q2⟩:=hc w M G I muc (args.toList.map a.eval) l hga hdl (hmuc y _ (by simp[okN,hy]) hl) hW hargs
   have hrun:(execOp a.eval ⟨dst,.call {callee:=.value x,args:=args,argTypes:=ts},T,ps,af,gd⟩).run P w=.ok (.round l fn tmps assign body) w:=by
    have e1:args.map a.eval=(args.toList.map a.eval).toArray:=by apply Array.ext';simp
    simp only[execOp,resolve,he,Deferred.ofValue,A0m,A0w,Result.andThen,invoke]
    have e2:#[]++args.map a.eval++ #[]=(args.toList.map a.eval).toArray:=by rw[e1];simp
    exact(congrArg (fun z=>(Instr.yield l z).run P w) e2).trans q1
   refine⟨fun f _=>I0.fn f,?_⟩
   rw[Oper.semAt_eq _ _ _ (HQ hrun (fun _ h=>by cases h)),hrun]
   refine⟨fun h=>(by rw[I0.depth] at h;cases h),TV (RoundIn.mono q2 fun e w' ⟨v,I',mu',he,hv,R⟩=>?_)⟩
   obtain⟨v',rfl,hK'⟩:=hK e w' ⟨d,H',v,I',mu',⟨rfl,rfl⟩,he,hv,R⟩
   exact hK'
 refine .inl ⟨_,?_,by have:=Go.run hk;unfold Cj at this;exact this⟩
 rcases hg with rfl|⟨j,want,t,rfl,ht,hg⟩
 ·exact BT.plain rfl hdo
 ·exact BT.guard_true rfl ht hg hdo
end
attribute [irreducible] A4 UX G9
def P3(F:D->D):Env->Env
 |[]=>[]
 |(t,d)::r=>(t,F d)::P3 F r
def WP(F:D->D):Hp->Hp
 |[]=>[]
 |(c,y)::r=>(c,JB F y)::WP F r
theorem P2{F:D->D}(hF:F .any=.any):∀ (e:Env) (t:Nat),(P3 F e).get t=F (e.get t)
 |[],t=>hF.symm
 |(k,d)::r,t=>by
  simp only[P3,Env.get]
  cases k==t with
  |true=>rfl
  |false=>exact P2 hF r t
theorem P1{F:D->D}:∀ (h:Hp) (c:Nat) (y:Blk),Ai (WP F h) c=some y->∃ z,Ai h c=some z/\y=JB F z
 |[],c,y,h=>by cases h
 |(k,z)::r,c,y,h=>by
  simp only[WP,Ai] at h|-
  cases hk:k==c with
  |true=>simp only[hk,cond_true,A04] at h;exact⟨z,by simp,h.symm⟩
  |false=>simp only[hk,cond_false] at h|-;exact P1 r c y h
def reS(b:Nat)(F:D->D)(y:Blk)(s:St):St:=⟨P3 F s.env,(2*s.nx,y)::WP F (del s.hp b),s.nx+1⟩
def ReOk(b c:Nat)(x:Blk)(F:D->D)(y:Blk)(w:World)(I:Nat->Prop)(mu:Nat->Option Value)(u:Value):Prop:=
 Dp w I (AN mu c u) c y/\(∀ k,Ap u=some k->∃ v,mu b=some v/\Ap v=some k)/\∀ d v,Rep w I mu d v->Rep w I (AN mu c u) (F d) v
theorem Rel.re{w0:World}{M0:Nat->Prop}{I0:Gh}{nt:Nat}{I:Nat->Prop}{mu:Nat->Option Value}{s:St}{a:Act}{w:World}{b:Nat}{x y:Blk}{F:D->D}(hF:F .any=.any)(r:Rel w0 M0 I0 nt (frN s.nx) I mu s.fs a w)(hb:Ai s.hp b=some x){u:Value}(k:ReOk b (2*s.nx) x F y w I mu u):
  Rel w0 M0 I0 nt (frN (reS b F y s).nx) I (AN mu (2*s.nx) u) (reS b F y s).fs a w:=by
 obtain⟨k1,k2,k3⟩:=k
 have hfr:frN s.nx (2*s.nx):=⟨by omega,A0e _⟩
 have hnone:mu (2*s.nx)=none:=r.w.fresh _ hfr
 have hm:=BO (v:=u) hnone
 have hb':s.fs.hp b=some x:=hb
 have hlk:∀ c z,Ai ((2*s.nx,y)::WP F (del s.hp b)) c=some z->(c=2*s.nx/\z=y)∨(c≠2*s.nx/\c≠b/\∃ z',s.fs.hp c=some z'/\z=JB F z'):=by
  intro c z h
  simp only[Ai] at h
  by_cases hc:2*s.nx=c
  ·have:(2*s.nx==c)=true:=by simp[hc]
   rw[this,cond_true] at h
   exact .inl ⟨hc.symm,(Option.some.inj h).symm⟩
  ·have:(2*s.nx==c)=false:=by simp[hc]
   rw[this,cond_false] at h
   obtain⟨z',hz,rfl⟩:=P1 _ c z h
   rw[K4] at hz
   split at hz
   ·cases hz
   ·rename_i hne;exact .inr ⟨fun h=>hc h.symm,fun h=>hne h.symm,z',hz,rfl⟩
 have hmu:∀ c,c≠2*s.nx->AN mu (2*s.nx) u c=mu c:=fun c hc=>by simp[AN,hc]
 refine⟨r.size,r.defers,fun t=>?_,⟨fun c z h=>?_,fun c z v j h hv hj=>?_,fun c c' z z' v v' j h h' hv hv' hj hj'=>?_,fun c hc=>?_,r.w.lt,r.w.os,r.w.tape,r.w.output,r.w.grown,r.w.old,r.w.iold,r.w.inew,fun c v hc hn=>hm c v (r.w.keep c v hc hn),fun c z h hc=>?_⟩⟩
 ·show Rep w I _ ((P3 F s.env).get t) _
  rw[P2 hF]
  exact k3 _ _ (r.env t)
 ·rcases hlk c z h with⟨rfl,rfl⟩|⟨h1,h2,z',h3,rfl⟩
  ·exact k1
  ·have:=(r.w.blk c z' h3).mapB (F:=fun d=>d) (J:=I) (fun d v h=>h)
   have hbr:=r.w.blk c z' h3
   cases z' with
   |rows es sz=>
    obtain⟨kk,T,us,g1,g2,g3,g4,g5⟩:=hbr
    refine⟨kk,T,us,hm _ _ g1,g2,by simpa using g3,fun i hi=>?_,fun i j hi hj=>?_⟩
    ·simp only[A0b] at hi;rw[Fj hi,A0b];exact g4 i hi
    ·simp only[A0b] at hi;rw[Fj hi,DN (by rw[g4 i hi];exact hj)];exact k3 _ _ (g5 i j hi hj)
   |grow es sz=>
    obtain⟨A,cap,T,us,g1,g2,g3,g4⟩:=hbr
    refine⟨A,cap,T,us,by simpa using hm _ _ g1,fun i hi=>?_,g3,?_⟩
    ·simp only[A0b] at hi;rw[Fj hi,A0b];exact g2 i hi
    ·rcases g4 with⟨g4,rfl⟩|⟨kk,g0,hA,g5,g6,g7,g8⟩
     ·exact .inl ⟨g4,rfl⟩
     ·refine .inr ⟨kk,g0,hA,g5,by simpa using g6,g7,fun i j hi hj=>?_⟩
      simp only[A0b] at hi;rw[Fj hi,DN (by rw[g2 i hi];exact hj)];exact k3 _ _ (g8 i j hi hj)
   |map es ck=>
    obtain⟨kk,l,g1,g2,g3,g4,g5⟩:=hbr
    refine⟨kk,l,hm _ _ g1,g2,by rw[g3];simp[Function.comp_def],by rw[g4];simp[Function.comp_def],fun i e p he hp=>?_⟩
    simp only[A0A,A1v] at hp
    obtain⟨q,hq,rfl⟩:=hp
    exact k3 _ _ (g5 i e q he hq)
   |iter m since seen last=>
    obtain⟨kk,km,g1,g2,g3⟩:=hbr
    exact⟨kk,km,hm _ _ g1,hm _ _ g2,g3⟩
   |obj o=>
    obtain⟨kk,g1,g2⟩:=hbr
    exact⟨kk,hm _ _ g1,g2⟩
   |loop env nt st pd ps a c=>
    obtain⟨kk,fn,tmps,kd,g1,g2,g3,g4⟩:=hbr
    exact⟨kk,fn,tmps,kd,hm _ _ g1,g2,g3,fun t=>N7 (Q:=fun d=>Rep w I (AN mu (2*s.nx) u) d (tmps.getD t undef)) (.any _) (k3 _ _ (g4 t))⟩
   |junk=>trivial
 ·rcases hlk c z h with⟨rfl,rfl⟩|⟨h1,h2,z',h3,rfl⟩
  ·simp only[AN,if_true,A04] at hv
   subst hv
   obtain⟨v',hv',hj'⟩:=k2 j hj
   exact r.w.loc b x v' j hb' hv' hj'
  ·rw[hmu c h1] at hv
   exact r.w.loc c z' v j h3 hv hj
 ·have cross:∀ c z v j,c≠b->s.fs.hp c=some z->mu c=some v->Ap v=some j->Ap u=some j->False:=by
   intro c z v j hc h1 h2 h3 h4
   obtain⟨v',hv',hj'⟩:=k2 j h4
   exact hc (r.w.inj c b z x v v' j h1 hb' h2 hv' h3 hj')
  rcases hlk c z h with⟨rfl,rfl⟩|⟨h1,h2,z1,h3,rfl⟩<;>rcases hlk c' z' h' with⟨rfl,rfl⟩|⟨h1',h2',z1',h3',rfl⟩
  ·rfl
  ·simp only[AN,if_true,A04] at hv
   subst hv
   rw[hmu c' h1'] at hv'
   exact(cross c' z1' v' j h2' h3' hv' hj' hj).elim
  ·simp only[AN,if_true,A04] at hv'
   subst hv'
   rw[hmu c h1] at hv
   exact(cross c z1 v j h2 h3 hv hj hj').elim
  ·rw[hmu c h1] at hv
   rw[hmu c' h1'] at hv'
   exact r.w.inj c c' z1 z1' v v' j h3 h3' hv hv' hj hj'
 ·obtain⟨h1,h2⟩:=hc
  have h2':2*(s.nx+1)<=c:=h2
  rw[hmu c (by omega)]
  exact r.w.fresh c ⟨h1,by omega⟩
 ·obtain⟨h1,h2⟩:=hc
  have h2':2*(s.nx+1)<=c:=h2
  rcases hlk c z h with⟨rfl,rfl⟩|⟨h3,h4,z',h5,rfl⟩
  ·omega
  ·exact r.w.used c z' h5 ⟨h1,by omega⟩
def unD(b c cap sz:Nat):D->D
 |.gref b' n=>bif b'==b then .sref c 0 n cap sz else .gref b' n
 |d=>d
def un0D(b:Nat):D->D
 |.gref b' n=>bif b'==b then .slice [] true else .gref b' n
 |d=>d
def unB(es:List (List D))(sz cap:Nat):Blk:=.rows (es++List.replicate (cap-es.length) (List.replicate sz .any)) sz
theorem AWp.ungrow{P:Program}{nt:Nat}{c:Code}{Q:AE->St->Prop}{s:St}{b sz:Nat}{es:List (List D)}(hb:Ai s.hp b=some (.grow es sz))
  (h0:es=[]->AWp P nt c Q (reS b (un0D b) .junk s)) (h1:∀ cap,es.length<=cap->0<cap->cap<=9223372036854775807->AWp P nt c Q (reS b (unD b (2*s.nx) cap sz) (unB es sz cap) s)):AWp P nt c Q s:=by
 intro w0 M0 I0 g I mu a w r
 have hbr:=r.w.blk b _ hb
 have hnone:mu (2*s.nx)=none:=r.w.fresh _ ⟨by omega,A0e _⟩
 obtain⟨A,cap,T,us,g1,g2,g3,g4⟩:=hbr
 rcases g4 with⟨rfl,rfl⟩|⟨k,g0,rfl,g5,g6,g7,g8⟩
 ·have hm:=BO (v:=undef) hnone
  refine h0 rfl w0 M0 I0 g I _ a w (r.re (b:=b) (u:=undef) rfl hb ⟨trivial,fun k hk=>by simp[undef,Ap] at hk,fun d v hv=>?_⟩)
  cases hv with
  |gref b' n A' cap' hk=>
   simp only[un0D]
   by_cases hbb:b'=b
   ·subst hbb
    rw[g1] at hk
    simp only[A04,A0Z] at hk
    obtain⟨rfl,rfl,rfl⟩:=hk
    simp only[beq_self_eq_true,cond_true]
    exact .slice [] true A 0 0 0 0 (fun _ _=>.nilFunc) (fun h=>absurd h (by simp)) (A0e _) (fun _=>rfl) (A0t _) (fun i h=>absurd h (by simp)) (fun i j h=>absurd h (by simp)) (fun i j h=>absurd h (by simp))
   ·have:(b'==b)=false:=by simp[hbb]
    rw[this,cond_false]
    exact .gref b' n A' cap' (hm _ _ hk)
  |any v=>exact .any v
  |val v ok=>exact .val v ok
  |cond g d v h h'=>exact (Rep.cond g d v h h').mono (fun _ _=>rfl) (fun _ h=>h) hm
  |agg cs us hl h=>exact (Rep.agg cs us hl h).mono (fun _ _=>rfl) (fun _ h=>h) hm
  |tup cs us hl h=>exact (Rep.tup cs us hl h).mono (fun _ _=>rfl) (fun _ h=>h) hm
  |slice es tight A k o sz cap u hA hc ht hm' hlen hcell h=>exact (Rep.slice es tight A k o sz cap u hA hc ht hm' hlen hcell h).mono (fun _ _=>rfl) (fun _ h=>h) hm
  |ptr cs off k o u hI hcell h=>exact (Rep.ptr cs off k o u hI hcell h).mono (fun _ _=>rfl) (fun _ h=>h) hm
  |ref b i off sz k h=>exact .ref b i off sz k (hm _ _ h)
  |sref b i len cap sz k h=>exact .sref b i len cap sz k (hm _ _ h)
  |mref b k h=>exact .mref b k (hm _ _ h)
  |yld b k h=>exact .yld b k (hm _ _ h)
  |func fn fs cs us vs hl hk h h'=>exact (Rep.func fn fs cs us vs hl hk h h').mono (fun _ _=>rfl) (fun _ h=>h) hm
  |iface t d v h=>exact (Rep.iface t d v h).mono (fun _ _=>rfl) (fun _ h=>h) hm
  |abool n pos b h=>exact .abool n pos b h
  |gel b i off sz k len cap h=>exact .gel b i off sz k len cap (hm _ _ h)
  |gsub b i len sz A B n cap h hle hB=>exact .gsub b i len sz A B n cap (hm _ _ h) hle hB
 ·have hm:=BO (v:=.pointer (some ⟨k,0,none⟩)) hnone
  refine h1 cap g6 g0 (by simpa[maxLen] using g3) w0 M0 I0 g I _ a w (r.re (b:=b) (u:=.pointer (some ⟨k,0,none⟩)) rfl hb ⟨⟨k,T,us,by simp[AN],g5,by rw[g7,A08,A1s];exact congrArg (· *sz) (by omega),fun i hi=>?_,fun i j hi hj=>?_⟩,fun k' hk=>?_,fun d v hv=>?_⟩)
  ·by_cases hlt:i<es.length
   ·have:nr (es++List.replicate (cap-es.length) (List.replicate sz .any)) i=nr es i:=by simp[nr,A03,A0x hlt]
    rw[this];exact g2 i hlt
   ·simp at hi
    have:nr (es++List.replicate (cap-es.length) (List.replicate sz .any)) i=List.replicate sz .any:=by
     simp[nr,A03,A0r (A27 hlt),A1D,show i-es.length<cap-es.length by omega]
    rw[this];simp
  ·by_cases hlt:i<es.length
   ·have:nr (es++List.replicate (cap-es.length) (List.replicate sz .any)) i=nr es i:=by simp[nr,A03,A0x hlt]
    rw[this];exact(g8 i j hlt hj).mono (fun _ _=>rfl) (fun _ h=>h) hm
   ·simp at hi
    have:nr (es++List.replicate (cap-es.length) (List.replicate sz .any)) i=List.replicate sz .any:=by
     simp[nr,A03,A0r (A27 hlt),A1D,show i-es.length<cap-es.length by omega]
    rw[this]
    have:nd (List.replicate sz D.any) j=.any:=by simp[nd,A03,A1D,hj]
    rw[this];exact .any _
  ·simp only[Ap,A04] at hk
   exact⟨_,g1,by simp only[Ap];rw[if_neg (by omega),hk]⟩
  ·cases hv with
   |gref b' n A' cap' hk=>
    simp only[unD]
    by_cases hbb:b'=b
    ·subst hbb
     rw[g1] at hk
     simp only[A04,A0Z] at hk
     obtain⟨rfl,rfl,rfl⟩:=hk
     simp only[beq_self_eq_true,cond_true]
     have:=Rep.sref (w:=w) (I:=I) (mu:=AN mu (2*s.nx) (.pointer (some ⟨k,0,none⟩))) (2*s.nx) 0 es.length cap sz k (by simp[AN])
     rw[A1X] at this
     exact this
    ·have:(b'==b)=false:=by simp[hbb]
     rw[this,cond_false]
     exact .gref b' n A' cap' (hm _ _ hk)
   |any v=>exact .any v
   |val v ok=>exact .val v ok
   |cond g d v h h'=>exact (Rep.cond g d v h h').mono (fun _ _=>rfl) (fun _ h=>h) hm
   |agg cs us hl h=>exact (Rep.agg cs us hl h).mono (fun _ _=>rfl) (fun _ h=>h) hm
   |tup cs us hl h=>exact (Rep.tup cs us hl h).mono (fun _ _=>rfl) (fun _ h=>h) hm
   |slice es tight A k o sz cap u hA hc ht hm' hlen hcell h=>exact (Rep.slice es tight A k o sz cap u hA hc ht hm' hlen hcell h).mono (fun _ _=>rfl) (fun _ h=>h) hm
   |ptr cs off k o u hI hcell h=>exact (Rep.ptr cs off k o u hI hcell h).mono (fun _ _=>rfl) (fun _ h=>h) hm
   |ref b i off sz k h=>exact .ref b i off sz k (hm _ _ h)
   |sref b i len cap sz k h=>exact .sref b i len cap sz k (hm _ _ h)
   |mref b k h=>exact .mref b k (hm _ _ h)
   |yld b k h=>exact .yld b k (hm _ _ h)
   |func fn fs cs us vs hl hk h h'=>exact (Rep.func fn fs cs us vs hl hk h h').mono (fun _ _=>rfl) (fun _ h=>h) hm
   |iface t d v h=>exact (Rep.iface t d v h).mono (fun _ _=>rfl) (fun _ h=>h) hm
   |abool n pos b h=>exact .abool n pos b h
   |gel b i off sz k len cap h=>exact .gel b i off sz k len cap (hm _ _ h)
   |gsub b i len sz A B n cap h hle hB=>exact .gsub b i len sz A B n cap (hm _ _ h) hle hB
def grS(b c n cap:Nat):D->D
 |.sref b' i len cap' sz=>bif b'==b&&i==0&&len==n&&cap'==cap then .gref c n else .sref b' i len cap' sz
 |d=>d
def grG(b c n:Nat):D->D
 |.gsub b' i len sz=>bif b'==b&&i==0&&len==n then .gref c n else .gsub b' i len sz
 |d=>d
section
variable{w:World}{I:Nat->Prop}{mu mu':Nat->Option Value}
theorem rep_grS{b c n cap k:Nat}(hm:∀ b x,mu b=some x->mu' b=some x)(hb:mu b=some (.pointer (some ⟨k,0,none⟩)))(hc:mu' c=some (.slice (some ⟨k,0,none⟩) n cap)){d:D}{v:Value}(hv:Rep w I mu d v):Rep w I mu' (grS b c n cap d) v:=by
 have hv':=hv.mono (fun _ _=>rfl) (fun _ h=>h) hm
 cases d with
 |sref b' i len cap' sz=>
  simp only[grS]
  cases hq:(b'==b&&i==0&&len==n&&cap'==cap) with
  |true=>
   simp only[A0c,beq_iff_eq] at hq
   obtain⟨⟨⟨rfl,rfl⟩,rfl⟩,rfl⟩:=hq
   cases hv with
   |sref _ _ _ _ _ k' h=>
    rw[hb] at h
    simp only[A04,A0N,A17,and_true] at h
    subst h
    rw[A1X]
    exact .gref c len _ cap' hc
  |false=>exact hv'
 |_=>exact hv'
theorem rep_grG{b c n m cap:Nat}{A:Option Addr}(hm:∀ b x,mu b=some x->mu' b=some x)(hb:mu b=some (.slice A m cap))(hc:mu' c=some (.slice A n cap)){d:D}{v:Value}(hv:Rep w I mu d v):Rep w I mu' (grG b c n d) v:=by
 have hv':=hv.mono (fun _ _=>rfl) (fun _ h=>h) hm
 cases d with
 |gsub b' i len sz=>
  simp only[grG]
  cases hq:(b'==b&&i==0&&len==n) with
  |true=>
   simp only[A0c,beq_iff_eq] at hq
   obtain⟨⟨rfl,rfl⟩,rfl⟩:=hq
   cases hv with
   |gsub _ _ _ _ A' B' n' cap' h hle hB=>
    rw[hb] at h
    simp only[A04,A0Z] at h
    obtain⟨rfl,rfl,rfl⟩:=h
    have:B'=A:=by rw[hB (.inr rfl)];cases A<;>simp [Addr.add]
    rw[this,Nat.sub_zero]
    exact .gref c len A cap hc
  |false=>exact hv'
 |_=>exact hv'
end
theorem Ar.regrow{s:St}{b sz:Nat}{es:List (List D)}(n:Nat)(hb:Ai s.hp b=some (.rows es sz))(hn:n<=es.length)(hm:es.length<=9223372036854775807):Ar s (reS b (grS b (2*s.nx) n es.length) (.grow (es.take n) sz) s):=by
 intro w0 M0 I0 nt I mu a w r
 obtain⟨k,T,us,g1,g2,g3,g4,g5⟩:=r.w.blk b _ hb
 have hnone:mu (2*s.nx)=none:=r.w.fresh _ ⟨by omega,A0e _⟩
 have hmm:=BO (v:=.slice (some ⟨k,0,none⟩) n es.length) hnone
 have hl:(es.take n).length=n:=by simp;omega
 have hnr:∀ i,i<n->nr (es.take n) i=nr es i:=by
  intro i hi;simp only[nr,A03];rw[A0z hi]
 refine⟨I,_,r.re (b:=b) (u:=.slice (some ⟨k,0,none⟩) n es.length) rfl hb ⟨⟨some ⟨k,0,none⟩,es.length,T,us,by simp[AN,hl],fun i hi=>by rw[hl] at hi;rw[hnr i hi];exact g4 i (by omega),by simpa[maxLen] using hm,?_⟩,fun k' hk=>?_,fun d v hv=>rep_grS hmm g1 (by simp[AN]) hv⟩⟩
 ·rcases A0M es.length with h0|hpos
  ·exact .inl ⟨h0,by rw[A0J h0];simp⟩
  ·exact .inr ⟨k,hpos,rfl,g2,by rw[hl];exact hn,g3,fun i j hi hj=>by
    rw[hl] at hi
    rw[hnr i hi];exact(g5 i j (by omega) hj).mono (fun _ _=>rfl) (fun _ h=>h) hmm⟩
 ·simp only[Ap] at hk
  split at hk
  ·cases hk
  ·exact⟨_,g1,hk⟩
theorem Ar.cut{s:St}{b sz:Nat}{es:List (List D)}(n:Nat)(hb:Ai s.hp b=some (.grow es sz))(hn:n<=es.length):Ar s (reS b (grG b (2*s.nx) n) (.grow (es.take n) sz) s):=by
 intro w0 M0 I0 nt I mu a w r
 obtain⟨A,cap,T,us,g1,g2,g3,g4⟩:=r.w.blk b _ hb
 have hnone:mu (2*s.nx)=none:=r.w.fresh _ ⟨by omega,A0e _⟩
 have hmm:=BO (v:=.slice A n cap) hnone
 have hl:(es.take n).length=n:=by simp;omega
 have hnr:∀ i,i<n->nr (es.take n) i=nr es i:=by
  intro i hi;simp only[nr,A03];rw[A0z hi]
 refine⟨I,_,r.re (b:=b) (u:=.slice A n cap) rfl hb ⟨⟨A,cap,T,us,by simp[AN,hl],fun i hi=>by rw[hl] at hi;rw[hnr i hi];exact g2 i (by omega),g3,?_⟩,fun k' hk=>⟨_,g1,by cases A with
  |none=>simp [Ap] at hk
  |some a=>exact hk⟩,fun d v hv=>rep_grG hmm g1 (by simp[AN]) hv⟩⟩
 rcases g4 with⟨g4,rfl⟩|⟨k,q0,q1,q2,q3,q4,q5⟩
 ·exact .inl ⟨g4,by simp⟩
 ·exact .inr ⟨k,q0,q1,q2,by rw[hl];omega,q4,fun i j hi hj=>by
   rw[hl] at hi
   rw[hnr i hi];exact(q5 i j (by omega) hj).mono (fun _ _=>rfl) (fun _ h=>h) hmm⟩
def ED:D->Bool
 |.val _|.any|.abool _ _=>true
 |.agg cs=>flatL cs
 |.tup cs=>flatL cs
 |.iface _ d=>ED d
 |_=>false
where flatL:List D->Bool
 |[]=>true
 |d::r=>ED d&&flatL r
theorem MV:∀ {l:List D},ED.flatL l=true->∀ i,i<l.length->ED (nd l i)=true
 |d::r,h,0,_=>by simp only[ED.flatL,A0c] at h;exact h.1
 |d::r,h,i+1,hi=>by simp only[ED.flatL,A0c] at h;exact MV h.2 i (by simpa using hi)
theorem Rep.flat{w w':World}{I J:Nat->Prop}{mu mu':Nat->Option Value}{d:D}{v:Value}(h:Rep w I mu d v)(hf:ED d=true):Rep w' J mu' d v:=by
 induction h with
 |any v=>exact .any v
 |val v ok=>exact .val v ok
 |agg cs us hl _ ih=>exact .agg cs us hl fun i hi=>ih i hi (MV (by simpa[ED] using hf) i hi)
 |tup cs us hl _ ih=>exact .tup cs us hl fun i hi=>ih i hi (MV (by simpa[ED] using hf) i hi)
 |iface t d v _ ih=>exact .iface t d v (ih (by simpa[ED] using hf))
 |abool n pos b h=>exact .abool n pos b h
 |_=>simp [ED] at hf
def FF(hp:Nat->Option Blk):D->D
 |.sref b i len cap sz=>match hp b with
  |some (.rows es _)=>.slice ((es.drop i).take len) false
  |_=>.sref b i len cap sz
 |.gref b len=>match hp b with
  |some (.grow es _)=>.slice es false
  |_=>.gref b len
 |.ref b i off sz=>match hp b with
  |some (.rows es _)=>.ptr (nr es i) off
  |_=>.ref b i off sz
 |d=>d
def GZ(hp:Nat->Option Blk):D->Prop
 |.sref b i len cap sz=>match hp b with
  |some (.rows es sz')=>sz=sz'/\i+len<=es.length/\len<=cap/\cap<=9223372036854775807/\Am es=true
  |_=>False
 |.gref b len=>match hp b with
  |some (.grow es _)=>len=es.length/\Am es=true
  |_=>False
 |.ref b i _ sz=>match hp b with
  |some (.rows es sz')=>sz=sz'/\i<es.length
  |_=>False
 |_=>True
def Fd(hp:Nat->Option Blk):List D->Prop
 |[]=>True
 |d::r=>GZ hp d/\Fd hp r
theorem GX{hp:Nat->Option Blk}:∀ {l:List D},Fd hp l->∀ d ∈ l,GZ hp d
 |d::r,h,x,hx=>by
  rcases A0o.1 hx with rfl|hx
  ·exact h.1
  ·exact GX h.2 x hx
def US:D->List Nat
 |.sref b _ _ _ _=>[b]
 |.gref b _=>[b]
 |.ref b _ _ _=>[b]
 |_=>[]
def EF:List D->List Nat
 |[]=>[]
 |d::r=>US d++EF r
theorem J5:∀ {l:List D},∀ d ∈ l,∀ b ∈ US d,b ∈ EF l
 |d::r,x,hx,b,hb=>by
  simp only[EF,A1a]
  rcases A0o.1 hx with rfl|hx
  ·exact .inl hb
  ·exact .inr (J5 x hx b hb)
theorem Rep.bor{w0:World}{M0:Nat->Prop}{I0:Gh}{fr I J:Nat->Prop}{mu:Nat->Option Value}{hp:Nat->Option Blk}{w:World}(hr:Aq w0 M0 I0 fr I mu hp w)(hIJ:∀ k,I k->J k)(hJ:∀ b x v k,hp b=some x->mu b=some v->Ap v=some k->J k){d:D}{v:Value}(h:Rep w I mu d v)(ho:GZ hp d):Rep w J mu (FF hp d) v:=by
 have hz:=Rep.frz hr hIJ hJ 1 d v h
 have mono:=h.mono (w':=w) (I':=J) (mu':=mu) (fun _ _=>rfl) hIJ (fun _ _ h=>h)
 cases d with
 |sref b i len cap sz=>
  simp only[FF,GZ] at*
  cases hb:hp b with
  |none=>rw [hb] at ho;exact ho.elim
  |some x=>
   rw[hb] at ho
   cases x with
   |rows es sz'=>
    obtain⟨h1,h2,h3,h4,h5⟩:=ho
    simp only[Go.Ab.frz,hb] at hz
    rw[if_pos ⟨h1,h2,h3,h4⟩,h5] at hz
    exact hz.loose
   |_=>exact ho.elim
 |gref b len=>
  simp only[FF,GZ] at*
  cases hb:hp b with
  |none=>rw [hb] at ho;exact ho.elim
  |some x=>
   rw[hb] at ho
   cases x with
   |grow es sz'=>
    obtain⟨h1,h2⟩:=ho
    simp only[Go.Ab.frz,hb] at hz
    rw[if_pos ⟨h1,h2⟩] at hz
    exact hz
   |_=>exact ho.elim
 |ref b i off sz=>
  simp only[FF,GZ] at*
  cases hb:hp b with
  |none=>rw [hb] at ho;exact ho.elim
  |some x=>
   rw[hb] at ho
   cases x with
   |rows es sz'=>
    simp only[Go.Ab.frz,hb] at hz
    rw[if_pos ho] at hz
    simpa[Go.Ab.frz] using hz
   |_=>exact ho.elim
 |_=>exact mono
theorem QT{h hp:Nat->Option Blk}{d:D}(hb:∀ b ∈ US d,h b=hp b):FF h d=FF hp d/\(GZ hp d->GZ h d):=by
 cases d with
 |sref b i len cap sz=>have:=hb b (by simp[US]);simp only[FF,GZ,this];exact⟨trivial,fun h=>h⟩
 |gref b len=>have:=hb b (by simp[US]);simp only[FF,GZ,this];exact⟨trivial,fun h=>h⟩
 |ref b i off sz=>have:=hb b (by simp[US]);simp only[FF,GZ,this];exact⟨trivial,fun h=>h⟩
 |_=>exact ⟨rfl,fun h=>h⟩
theorem GIn.mono{P:Program}{w:World}{I J:Nat->Prop}(h:GIn P w I)(hIJ:∀ k,I k->J k):GIn P w J:=fun g l hg=>⟨hIJ _ (h g l hg).1,(h g l hg).2⟩
theorem LD{P:Program}{id:Nat}{ev:Operand->D}{hp:Nat->Option Blk}{dst:Option Tmp}{T:TypeId}{pos:String}{af:Array Edge}{gd:Option (Nat×Bool)}{f:FuncId}{args:Array Operand}{ts:Array TypeId}{ds:List D}{r:D}
  (ha:(args.toList.map ev).map (FF hp)=ds) (ho:Fd hp (args.toList.map ev)) (hpu:Av ds=true) (hf:ED r=true) (hc:A3 P f ds r):
  B8 P ⟨dst,.call {callee:=.value (.func f),args:=args,argTypes:=ts},T,pos,af,gd⟩ id ev hp ⟨r,[],EF (args.toList.map ev)⟩:=by
 intro w0 M0 I0 fr I mu h a w hga hw hid hxs hb K Q hK
 subst ha
 have hargs:=Bp.args (w:=w) (I:=I) (mu:=mu) (ev:=ev) (a:=a) (args:=args) fun y hy=>hxs y (by simp[Op.operands,Call.operands];exact .inr (by simpa using hy))
 let J:Nat->Prop:=fun k=>I k∨∃ b x v,h b=some x/\mu b=some v/\Ap v=some k
 have hIJ:∀ k,I k->J k:=fun k hk=>.inl hk
 have hJ:∀ b x v k,h b=some x->mu b=some v->Ap v=some k->J k:=fun b x v k h1 h2 h3=>.inr ⟨b,x,v,h1,h2,h3⟩
 have hJl:∀ k,J k->k<w.heap.size:=by
  rintro k (hk|⟨b,x,v,h1,h2,h3⟩)
  ·exact hw.lt k hk
  ·exact(hw.loc b x v k h1 h2 h3).2.2
 have hall:Bp w J mu ((args.toList.map ev).map (FF hp)) (args.toList.map a.eval):=by
  refine⟨by simpa using hargs.1,fun i hi=>?_⟩
  simp only[A0b] at hi
  have hi':i<(args.toList.map ev).length:=by simpa using hi
  rw[DN hi']
  have hmem:nd (args.toList.map ev) i ∈ args.toList.map ev:=by
   simp only[nd,A03,A06 hi',A0D]
   exact A18 hi'
  obtain⟨e1,e2⟩:=QT (h:=h) (hp:=hp) (d:=nd (args.toList.map ev) i) fun b hb'=>hb b (J5 _ hmem b hb')
  rw[<-e1]
  exact Rep.bor hw hIJ hJ (hargs.2 i hi') (e2 (GX ho _ hmem))
 have hall':=hall.unmu (mu':=fun _=>none) hpu
 unfold A3 at hc
 have hcall:=hc.2 w J _ ((hga.at hw).mono hIJ) hJl hall'.1 hall'.2
 have hrun:(execOp a.eval ⟨dst,.call {callee:=.value (.func f),args:=args,argTypes:=ts},T,pos,af,gd⟩).run P w=.ok (.enter f (args.toList.map a.eval).toArray) w:=by
  have e1:args.map a.eval=(args.toList.map a.eval).toArray:=by apply Array.ext';simp
  simp only[execOp,resolve,Act.eval,Deferred.ofValue,A0m,A0w,Result.andThen,invoke]
  have e2:#[]++args.map a.eval++ #[]=(args.toList.map a.eval).toArray:=by rw[e1];simp
  exact(congrArg (fun z=>(callFunc f z).run P w) e2).trans (Bn hc.1 _ w)
 refine CS hrun ?_
 refine hcall.mono fun e w' ⟨v,I',he,hv,h1,h2,h3,h4⟩=>?_
 subst he
 have hext:Ext I mu w I mu w':=⟨fun _ h=>h,fun _ _ h=>h,fun k hk=>h4.block k (hw.lt k hk)⟩
 exact hK v w' I mu hext ((hw.below (fun _ h=>h) (fun _ h=>.inl h) (fun k hk=>A1f (hw.lt k hk) h4.size) h4).less fun b hb=>hb.1) (hv.flat hf)
noncomputable section
section
variable{P:Program}{ops:Array Oper}{nx:Nat}{dst:Option Tmp}{T:TypeId}{ps:String}{af:Array Edge}{gd:Option (Nat×Bool)}{f:FuncId}{args:Array Operand}{ts:Array TypeId}{ds:List D}{r:D}{l:List Oper}{pos:Nat}{acc:List Eff}{s:St}{K:List Eff->St->Prop}
theorem Af.borrow{bs:List Nat}(hbs:EF (args.toList.map (evO P s.env.get))=bs)(hc:A3 P f ds r)(hg:gd=none∨∃ j want t,gd=some (j,want)/\BS ops j=some t/\gOf (s.env.get t) want=some true)(ha:(args.toList.map (evO P s.env.get)).map (FF (Ai s.hp))=ds)(ho:Fd (Ai s.hp) (args.toList.map (evO P s.env.get)))(hpu:Av ds=true)(hf:ED r=true)
  (hk:GoS P ops nx l (pos+1) (⟨r,[],bs⟩::acc) (s.app dst ⟨r,[],bs⟩) K):Af P ops nx (⟨dst,.call {callee:=.value (.func f),args:=args,argTypes:=ts},T,ps,af,gd⟩::l) pos acc s K:=by
 subst hbs
 rw[Dl] at hk;rw[Cg]
 unfold Cj
 refine .inl ⟨_,?_,by have:=Go.run hk;unfold Cj at this;exact this⟩
 rcases hg with rfl|⟨j,want,t,rfl,ht,hg⟩
 ·exact BT.plain rfl (LD ha ho hpu hf hc)
 ·exact BT.guard_true rfl ht hg (LD ha ho hpu hf hc)
end
end
theorem Aq.sub{w0 w:World}{M0:Nat->Prop}{I0:Gh}{fr I:Nat->Prop}{mu:Nat->Option Value}{h h':Nat->Option Blk}(r:Aq w0 M0 I0 fr I mu h w)(hs:∀ b x,h' b=some x->h b=some x):Aq w0 M0 I0 fr I mu h' w:=
 ⟨fun b x hx=>r.blk b x (hs b x hx),fun b x v k hx=>r.loc b x v k (hs b x hx),fun b c x y v u k hx hy=>r.inj b c x y v u k (hs b x hx) (hs c y hy),r.fresh,r.lt,r.os,r.tape,r.output,r.grown,r.old,r.iold,r.inew,r.keep,fun b x hx=>r.used b x (hs b x hx)⟩
theorem Kr{b:Nat}:∀ (bs:List Nat) (x:Option Blk),AX b x (bs.map fun c=>(c,none))=if b ∈ bs then none else x
 |[],x=>by simp[AX]
 |c::bs,x=>by
  have:=Kr (b:=b) bs (if c=b then none else x)
  simp only[AX,A0k,A0y] at this|-
  rw[this]
  by_cases h:c=b
  ·subst h;simp
  ·simp[h,show ¬b=c from fun e=>h e.symm]
theorem Py{P:Program}{id:Nat}{ev:Operand->D}{hp:Nat->Option Blk}{dst:Option Tmp}{T:TypeId}{pos:String}{af:Array Edge}{gd:Option (Nat×Bool)}{f:FuncId}{args:Array Operand}{ts:Array TypeId}{ds:List D}{r:D}
  (ha:(args.toList.map ev).map (FF hp)=ds) (ho:Fd hp (args.toList.map ev)) (hpu:Av ds=true) (hc:A3 P f ds r):
  B8 P ⟨dst,.call {callee:=.value (.func f),args:=args,argTypes:=ts},T,pos,af,gd⟩ id ev hp ⟨r,(EF (args.toList.map ev)).map fun c=>(c,none),EF (args.toList.map ev)⟩:=by
 intro w0 M0 I0 fr I mu h a w hga hw hid hxs hb K Q hK
 subst ha
 have hargs:=Bp.args (w:=w) (I:=I) (mu:=mu) (ev:=ev) (a:=a) (args:=args) fun y hy=>hxs y (by simp[Op.operands,Call.operands];exact .inr (by simpa using hy))
 generalize hbs:EF (args.toList.map ev)=bs at*
 let hR:Nat->Option Blk:=fun b=>if b ∈ bs then h b else none
 have hRs:∀ b x,hR b=some x->h b=some x/\b ∈ bs:=by
  intro b x hx
  simp only[hR] at hx
  split at hx
  ·rename_i hm;exact⟨hx,hm⟩
  ·cases hx
 have hwR:Aq w0 M0 I0 fr I mu hR w:=hw.sub fun b x hx=>(hRs b x hx).1
 let J:Nat->Prop:=fun k=>I k∨∃ b x v,hR b=some x/\mu b=some v/\Ap v=some k
 have hIJ:∀ k,I k->J k:=fun k hk=>.inl hk
 have hJ:∀ b x v k,hR b=some x->mu b=some v->Ap v=some k->J k:=fun b x v k h1 h2 h3=>.inr ⟨b,x,v,h1,h2,h3⟩
 have hJl:∀ k,J k->k<w.heap.size:=by
  rintro k (hk|⟨b,x,v,h1,h2,h3⟩)
  ·exact hw.lt k hk
  ·exact(hwR.loc b x v k h1 h2 h3).2.2
 have hall:Bp w J mu ((args.toList.map ev).map (FF hp)) (args.toList.map a.eval):=by
  refine⟨by simpa using hargs.1,fun i hi=>?_⟩
  simp only[A0b] at hi
  have hi':i<(args.toList.map ev).length:=by simpa using hi
  rw[DN hi']
  have hmem:nd (args.toList.map ev) i ∈ args.toList.map ev:=by
   simp only[nd,A03,A06 hi',A0D]
   exact A18 hi'
  obtain⟨e1,e2⟩:=QT (h:=hR) (hp:=hp) (d:=nd (args.toList.map ev) i) fun b hb'=>by
   have hm:b ∈ bs:=by rw[<-hbs];exact J5 _ hmem b hb'
   simp only[hR,if_pos hm]
   exact hb b hm
  rw[<-e1]
  exact Rep.bor hwR hIJ hJ (hargs.2 i hi') (e2 (GX ho _ hmem))
 have hall':=hall.unmu (mu':=fun _=>none) hpu
 unfold A3 at hc
 have hcall:=hc.2 w J _ ((hga.at hw).mono hIJ) hJl hall'.1 hall'.2
 have hrun:(execOp a.eval ⟨dst,.call {callee:=.value (.func f),args:=args,argTypes:=ts},T,pos,af,gd⟩).run P w=.ok (.enter f (args.toList.map a.eval).toArray) w:=by
  have e1:args.map a.eval=(args.toList.map a.eval).toArray:=by apply Array.ext';simp
  simp only[execOp,resolve,Act.eval,Deferred.ofValue,A0m,A0w,Result.andThen,invoke]
  have e2:#[]++args.map a.eval++ #[]=(args.toList.map a.eval).toArray:=by rw[e1];simp
  exact(congrArg (fun z=>(callFunc f z).run P w) e2).trans (Bn hc.1 _ w)
 refine CS hrun ?_
 refine hcall.mono fun e w' ⟨v,I',he,hv,h1,h2,h3,h4⟩=>?_
 subst he
 have hbl:∀ k,k<w.heap.size->w'.heap[k]? =w.heap[k]?:=fun k hk=>h4.block k hk
 have hII:∀ k,I k->I' k:=fun k hk=>h1 k (hIJ k hk)
 have hext:Ext I mu w I' mu w':=⟨hII,fun _ _ h=>h,fun k hk=>hbl k (hw.lt k hk)⟩
 have hup:∀ b x,AX b (h b) (bs.map fun c=>(c,none))=some x->h b=some x/\b ∉ bs:=by
  intro b x hx
  rw[Kr] at hx
  split at hx
  ·cases hx
  ·rename_i hm;exact⟨hx,hm⟩
 refine hK v w' I' mu hext ⟨fun b x hx=>?_,fun b x u k hx hu hk=>?_,fun b c x y u u' k hx hy=>hw.inj b c x y u u' k (hup b x hx).1 (hup c y hy).1,fun b hb'=>hw.fresh b hb'.1,h3,h4.os.trans hw.os,h4.tape.trans hw.tape,h4.output.trans hw.output,A0L hw.grown h4.size,fun k hk hnm=>(hbl k (by have:=hw.grown;omega)).trans (hw.old k hk hnm),fun k hk=>hII k (hw.iold k hk),fun k hk=>?_,hw.keep,fun b x hx hb'=>hw.used b x (hup b x hx).1 hb'.1⟩ (hv.mono (fun _ _=>rfl) (fun _ h=>h) (fun _ _ h=>by cases h))
 ·obtain⟨g1,g2⟩:=hup b x hx
  exact(hw.blk b x g1).mono hext.w hext.i hext.m fun u k hu hk=>hbl k (hw.loc b x u k g1 hu hk).2.2
 ·obtain⟨g1,g2⟩:=hup b x hx
  have g3:=hw.loc b x u k g1 hu hk
  refine⟨g3.1,fun hI=>?_,A1f g3.2.2 h4.size⟩
  rcases h2 k hI with(h5|⟨c,y,v',q1,q2,q3⟩)|h5
  ·exact g3.2.1 h5
  ·have:=hw.inj b c x y u v' k g1 (hRs c y q1).1 hu q2 hk q3
   exact g2 (this▸(hRs c y q1).2)
  ·omega
 ·rcases h2 k hk with(h5|⟨c,y,v',q1,q2,q3⟩)|h5
  ·exact hw.inew k h5
  ·exact .inr (hwR.loc c y v' k q1 q2 q3).1
  ·exact .inr (.inr (A0L hw.grown h5))
noncomputable section
section
variable{P:Program}{ops:Array Oper}{nx:Nat}{dst:Option Tmp}{T:TypeId}{ps:String}{af:Array Edge}{gd:Option (Nat×Bool)}{f:FuncId}{args:Array Operand}{ts:Array TypeId}{ds:List D}{r:D}{l:List Oper}{pos:Nat}{acc:List Eff}{s:St}{K:List Eff->St->Prop}
theorem Af.give{bs:List Nat}(hbs:EF (args.toList.map (evO P s.env.get))=bs)(hc:A3 P f ds r)(hg:gd=none∨∃ j want t,gd=some (j,want)/\BS ops j=some t/\gOf (s.env.get t) want=some true)(ha:(args.toList.map (evO P s.env.get)).map (FF (Ai s.hp))=ds)(ho:Fd (Ai s.hp) (args.toList.map (evO P s.env.get)))(hpu:Av ds=true)
  (hk:GoS P ops nx l (pos+1) (⟨r,bs.map fun c=>(c,none),bs⟩::acc) (s.app dst ⟨r,bs.map fun c=>(c,none),bs⟩) K):Af P ops nx (⟨dst,.call {callee:=.value (.func f),args:=args,argTypes:=ts},T,ps,af,gd⟩::l) pos acc s K:=by
 subst hbs
 rw[Dl] at hk;rw[Cg]
 unfold Cj
 refine .inl ⟨_,?_,by have:=Go.run hk;unfold Cj at this;exact this⟩
 rcases hg with rfl|⟨j,want,t,rfl,ht,hg⟩
 ·exact BT.plain rfl (Py ha ho hpu hc)
 ·exact BT.guard_true rfl ht hg (Py ha ho hpu hc)
end
end
theorem Nb{P:Program}{id:Nat}{ev:Operand->D}{hp:Nat->Option Blk}{dst:Option Tmp}{T:TypeId}{pos:String}{af:Array Edge}{gd:Option (Nat×Bool)}{x:Operand}{f:FuncId}{args:Array Operand}{ts:Array TypeId}{ds:List D}{r:D}
  (hx:ev x=.func (.func f) [] []) (ha:(args.toList.map ev).map (FF hp)=ds) (ho:Fd hp (args.toList.map ev)) (hpu:Av ds=true) (hc:A3 P f ds r):
  B8 P ⟨dst,.call {callee:=.value x,args:=args,argTypes:=ts},T,pos,af,gd⟩ id ev hp ⟨r,(EF (args.toList.map ev)).map fun c=>(c,none),EF (args.toList.map ev)⟩:=by
 intro w0 M0 I0 fr I mu h a w hga hw hid hxs hb K Q hK
 subst ha
 have he:a.eval x=.func (.func f) #[] #[]:=by
  have hxr:=hxs x (by simp[Op.operands,Call.operands])
  rw[hx] at hxr
  generalize a.eval x=fv at hxr
  cases hxr with
  |func _ _ _ us vs hl hk h1 h2=>rw [A0G.1 hl,A0G.1 hk]
 have hargs:=Bp.args (w:=w) (I:=I) (mu:=mu) (ev:=ev) (a:=a) (args:=args) fun y hy=>hxs y (by simp[Op.operands,Call.operands];exact .inr (by simpa using hy))
 generalize hbs:EF (args.toList.map ev)=bs at*
 let hR:Nat->Option Blk:=fun b=>if b ∈ bs then h b else none
 have hRs:∀ b x,hR b=some x->h b=some x/\b ∈ bs:=by
  intro b x hx
  simp only[hR] at hx
  split at hx
  ·rename_i hm;exact⟨hx,hm⟩
  ·cases hx
 have hwR:Aq w0 M0 I0 fr I mu hR w:=hw.sub fun b x hx=>(hRs b x hx).1
 let J:Nat->Prop:=fun k=>I k∨∃ b x v,hR b=some x/\mu b=some v/\Ap v=some k
 have hIJ:∀ k,I k->J k:=fun k hk=>.inl hk
 have hJ:∀ b x v k,hR b=some x->mu b=some v->Ap v=some k->J k:=fun b x v k h1 h2 h3=>.inr ⟨b,x,v,h1,h2,h3⟩
 have hJl:∀ k,J k->k<w.heap.size:=by
  rintro k (hk|⟨b,x,v,h1,h2,h3⟩)
  ·exact hw.lt k hk
  ·exact(hwR.loc b x v k h1 h2 h3).2.2
 have hall:Bp w J mu ((args.toList.map ev).map (FF hp)) (args.toList.map a.eval):=by
  refine⟨by simpa using hargs.1,fun i hi=>?_⟩
  simp only[A0b] at hi
  have hi':i<(args.toList.map ev).length:=by simpa using hi
  rw[DN hi']
  have hmem:nd (args.toList.map ev) i ∈ args.toList.map ev:=by
   simp only[nd,A03,A06 hi',A0D]
   exact A18 hi'
  obtain⟨e1,e2⟩:=QT (h:=hR) (hp:=hp) (d:=nd (args.toList.map ev) i) fun b hb'=>by
   have hm:b ∈ bs:=by rw[<-hbs];exact J5 _ hmem b hb'
   simp only[hR,if_pos hm]
   exact hb b hm
  rw[<-e1]
  exact Rep.bor hwR hIJ hJ (hargs.2 i hi') (e2 (GX ho _ hmem))
 have hall':=hall.unmu (mu':=fun _=>none) hpu
 unfold A3 at hc
 have hcall:=hc.2 w J _ ((hga.at hw).mono hIJ) hJl hall'.1 hall'.2
 have hrun:(execOp a.eval ⟨dst,.call {callee:=.value x,args:=args,argTypes:=ts},T,pos,af,gd⟩).run P w=.ok (.enter f (args.toList.map a.eval).toArray) w:=by
  have e1:args.map a.eval=(args.toList.map a.eval).toArray:=by apply Array.ext';simp
  simp only[execOp,resolve,he,Deferred.ofValue,A0m,A0w,Result.andThen,invoke]
  have e2:#[]++args.map a.eval++ #[]=(args.toList.map a.eval).toArray:=by rw[e1];simp
  exact(congrArg (fun z=>(callFunc f z).run P w) e2).trans (Bn hc.1 _ w)
 refine CS hrun ?_
 refine hcall.mono fun e w' ⟨v,I',he,hv,h1,h2,h3,h4⟩=>?_
 subst he
 have hbl:∀ k,k<w.heap.size->w'.heap[k]? =w.heap[k]?:=fun k hk=>h4.block k hk
 have hII:∀ k,I k->I' k:=fun k hk=>h1 k (hIJ k hk)
 have hext:Ext I mu w I' mu w':=⟨hII,fun _ _ h=>h,fun k hk=>hbl k (hw.lt k hk)⟩
 have hup:∀ b x,AX b (h b) (bs.map fun c=>(c,none))=some x->h b=some x/\b ∉ bs:=by
  intro b x hx
  rw[Kr] at hx
  split at hx
  ·cases hx
  ·rename_i hm;exact⟨hx,hm⟩
 refine hK v w' I' mu hext ⟨fun b x hx=>?_,fun b x u k hx hu hk=>?_,fun b c x y u u' k hx hy=>hw.inj b c x y u u' k (hup b x hx).1 (hup c y hy).1,fun b hb'=>hw.fresh b hb'.1,h3,h4.os.trans hw.os,h4.tape.trans hw.tape,h4.output.trans hw.output,A0L hw.grown h4.size,fun k hk hnm=>(hbl k (by have:=hw.grown;omega)).trans (hw.old k hk hnm),fun k hk=>hII k (hw.iold k hk),fun k hk=>?_,hw.keep,fun b x hx hb'=>hw.used b x (hup b x hx).1 hb'.1⟩ (hv.mono (fun _ _=>rfl) (fun _ h=>h) (fun _ _ h=>by cases h))
 ·obtain⟨g1,g2⟩:=hup b x hx
  exact(hw.blk b x g1).mono hext.w hext.i hext.m fun u k hu hk=>hbl k (hw.loc b x u k g1 hu hk).2.2
 ·obtain⟨g1,g2⟩:=hup b x hx
  have g3:=hw.loc b x u k g1 hu hk
  refine⟨g3.1,fun hI=>?_,A1f g3.2.2 h4.size⟩
  rcases h2 k hI with(h5|⟨c,y,v',q1,q2,q3⟩)|h5
  ·exact g3.2.1 h5
  ·have:=hw.inj b c x y u v' k g1 (hRs c y q1).1 hu q2 hk q3
   exact g2 (this▸(hRs c y q1).2)
  ·omega
 ·rcases h2 k hk with(h5|⟨c,y,v',q1,q2,q3⟩)|h5
  ·exact hw.inew k h5
  ·exact .inr (hwR.loc c y v' k q1 q2 q3).1
  ·exact .inr (.inr (A0L hw.grown h5))
noncomputable section
section
variable{P:Program}{ops:Array Oper}{nx:Nat}{dst:Option Tmp}{T:TypeId}{ps:String}{af:Array Edge}{gd:Option (Nat×Bool)}{f:FuncId}{args:Array Operand}{ts:Array TypeId}{ds:List D}{r:D}{l:List Oper}{pos:Nat}{acc:List Eff}{s:St}{K:List Eff->St->Prop}
theorem Af.giveV{x:Operand}{bs:List Nat}(hx:evO P s.env.get x=.func (.func f) [] [])(hbs:EF (args.toList.map (evO P s.env.get))=bs)(hc:A3 P f ds r)(hg:gd=none∨∃ j want t,gd=some (j,want)/\BS ops j=some t/\gOf (s.env.get t) want=some true)(ha:(args.toList.map (evO P s.env.get)).map (FF (Ai s.hp))=ds)(ho:Fd (Ai s.hp) (args.toList.map (evO P s.env.get)))(hpu:Av ds=true)
  (hk:GoS P ops nx l (pos+1) (⟨r,bs.map fun c=>(c,none),bs⟩::acc) (s.app dst ⟨r,bs.map fun c=>(c,none),bs⟩) K):Af P ops nx (⟨dst,.call {callee:=.value x,args:=args,argTypes:=ts},T,ps,af,gd⟩::l) pos acc s K:=by
 subst hbs
 rw[Dl] at hk;rw[Cg]
 unfold Cj
 refine .inl ⟨_,?_,by have:=Go.run hk;unfold Cj at this;exact this⟩
 rcases hg with rfl|⟨j,want,t,rfl,ht,hg⟩
 ·exact BT.plain rfl (Nb hx ha ho hpu hc)
 ·exact BT.guard_true rfl ht hg (Nb hx ha ho hpu hc)
end
end
def Lf(d:D)(x y:Prop):Prop:=
 match d with
 |.val (.bool b)=>Ew b x y
 |.abool n pos=>((pos=true->n=0)->x)/\((pos=false->n=0)->y)
 |_=>False
def S4(ops:Array Oper)(E:List Eff):Prop:=DK ops (FL E)=true
@[congr] theorem ordB_congr{ops:Array Oper}{E:List Eff}{u:Unit}(h:H6 ()=u):S4 ops E=S4 ops E:=rfl
def Rz(R:(AE->St->Prop)->St->Prop)(Q:AE->St->Prop):AE->St->Prop
 |.normal,s=>R Q s
 |e,s=>Q e s
def VC(P:Program)(nt:Nat)(fz:List Nat):Code->(AE->St->Prop)->St->Prop
 |.skip,Q,s=>Q .normal s
 |.ret,Q,s=>Q .ret s
 |.exit id,Q,s=>Q (.exit id) s
 |.label _,Q,s=>Q .normal s
 |.seq a b,Q,s=>VC P nt fz a (Rz (VC P nt fz b) Q) s
 |.block id c,Q,s=>VC P nt fz c (JK id Q) s
 |.cond c a b,Q,s=>Lf (evO P s.env.get c) (VC P nt fz a Q s) (VC P nt fz b Q s)
 |.region _ ops draw,Q,s=>Go P ops s.nx ops.toList 0 [] s (fun E s'=>cond draw (S4 ops E/\Q .normal (fzL fz ⟨s'.env,s'.hp,s.nx+4*ops.size⟩)) (Mp ops.toList E (Q .normal (fzL fz ⟨s'.env,s'.hp,s.nx+4*ops.size⟩)) (Ua Q (s.nx+4*ops.size) s')))
 |.loop c,Q,s=>AWp P nt (.loop c) Q s
 |.scope c,Q,s=>AWp P nt (.scope c) Q s
 |.rangeFunc f ps a b,Q,s=>AWp P nt (.rangeFunc f ps a b) Q s
 |.goto l,Q,s=>AWp P nt (.goto l) Q s
 |.refuse w,Q,s=>AWp P nt (.refuse w) Q s
noncomputable section
def VCS:Program->Nat->List Nat->Code->(AE->St->Prop)->St->Prop:=PS VC
theorem Ex:VCS=VC:=KA VC
section
variable(P:Program)(nt:Nat)(fz:List Nat)(Q:AE->St->Prop)(s:St)
theorem VCS_skip:VCS P nt fz .skip Q s=Q .normal s:=by rw[Ex];rfl
theorem VCS_ret:VCS P nt fz .ret Q s=Q .ret s:=by rw[Ex];rfl
theorem VCS_exit(id:Nat):VCS P nt fz (.exit id) Q s=Q (.exit id) s:=by rw[Ex];rfl
theorem XQ(l:Nat):VCS P nt fz (.label l) Q s=Q .normal s:=by rw[Ex];rfl
theorem VCS_seq(a b:Code):VCS P nt fz (.seq a b) Q s=VCS P nt fz a (Rz (VCS P nt fz b) Q) s:=by rw[Ex];rfl
theorem XR(id:Nat)(c:Code):VCS P nt fz (.block id c) Q s=VCS P nt fz c (JK id Q) s:=by rw[Ex];rfl
theorem VCS_cond(c:Operand)(a b:Code):VCS P nt fz (.cond c a b) Q s=Lf (evO P s.env.get c) (VCS P nt fz a Q s) (VCS P nt fz b Q s):=by rw[Ex];rfl
theorem Rc(id:Nat)(l:List Oper):VCS P nt fz (.region id l.toArray true) Q s=GoS P l.toArray s.nx l 0 [] s (fun E s'=>S4 l.toArray E/\Q .normal (fzL fz ⟨s'.env,s'.hp,s.nx+4*l.length⟩)):=by rw[Ex,Dl];rfl
theorem Rd(id:Nat)(l:List Oper):VCS P nt fz (.region id l.toArray false) Q s=GoS P l.toArray s.nx l 0 [] s (fun E s'=>Mp l E (Q .normal (fzL fz ⟨s'.env,s'.hp,s.nx+4*l.length⟩)) (Ua Q (s.nx+4*l.length) s')):=by rw[Ex,Dl];rfl
theorem VCS_loop(c:Code):VCS P nt fz (.loop c) Q s=AWp P nt (.loop c) Q s:=by rw[Ex];rfl
theorem XP(c:Code):VCS P nt fz (.scope c) Q s=AWp P nt (.scope c) Q s:=by rw[Ex];rfl
end
theorem Ry(R:(AE->St->Prop)->St->Prop)(Q:AE->St->Prop)(s:St):Rz R Q .normal s=R Q s:=rfl
theorem Wm(R:(AE->St->Prop)->St->Prop)(Q:AE->St->Prop)(s:St)(i:Nat):Rz R Q (.exit i) s=Q (.exit i) s:=rfl
theorem Wl(R:(AE->St->Prop)->St->Prop)(Q:AE->St->Prop)(s:St)(i:Nat):Rz R Q (.goto i) s=Q (.goto i) s:=rfl
theorem Ye(R:(AE->St->Prop)->St->Prop)(Q:AE->St->Prop)(s:St):Rz R Q .ret s=Q .ret s:=rfl
theorem TE(R:(AE->St->Prop)->St->Prop)(Q:AE->St->Prop)(s:St)(d:D):Rz R Q (.panic d) s=Q (.panic d) s:=rfl
@[congr] theorem VCS_congr{P:Program}{nt:Nat}{fz:List Nat}{c:Code}{Q:AE->St->Prop}{s s':St}(h:H6 s=s'):VCS P nt fz c Q s=VCS P nt fz c Q s':=by rw[<-h];rfl
end
@[congr] theorem regK_congr{l:List Oper}{E:List Eff}{x y:Prop}{u:Unit}(h:H6 ()=u):Mp l E x y=Mp l E x y:=rfl
theorem Yx(l:List Oper)(e:Eff)(E:List Eff)(x y:Prop):Mp l (List.reverse (e::E)) x y=x:=by
 unfold Mp
 split
 ·rename_i h;simp at h
 ·rfl
theorem Yy(o:Oper)(l:List Oper)(x y:Prop):Mp (o::l) [] x y=y:=congrArg (fun x=>x) rfl
theorem panQ_eq(Q:AE->St->Prop)(nx:Nat)(s:St):Ua Q nx s=Q (.panic (s.env.get BB)) ⟨(BB,.any)::s.env,s.hp,nx⟩:=congrArg (fun x=>x) rfl
@[congr] theorem panQ_congr{Q:AE->St->Prop}{nx:Nat}{s s':St}(h:H6 s=s'):Ua Q nx s=Ua Q nx s':=by rw[<-h];rfl
attribute [push_cast] Yx Yy panQ_eq
@[congr] theorem CondVC_congr{d d':D}{x y:Prop}(h:H6 d=d'):Lf d x y=Lf d' x y:=by rw[<-h];rfl
theorem AWp.same{P:Program}{nt:Nat}{c:Code}{Q:AE->St->Prop}{s:St}(h:AWp P nt c (fun e s=>∃ s',s'.fs=s.fs/\s'.nx=s.nx/\Q e s') s):AWp P nt c Q s:=fun w0 M0 I0 g I mu a w r b k cs hro hb hroom=>by
 obtain⟨e,a',w',⟨x,s',I',mu',⟨s'',h1,h2,h3⟩,he,r'⟩,harr⟩:=h w0 M0 I0 g I mu a w r b k cs hro hb hroom
 exact⟨e,a',w',⟨x,s'',I',mu',h3,he,by rw[h1,h2];exact r'⟩,harr⟩
def QW(Q:AE->St->Prop):AE->St->Prop
 |.normal,s=>∃ s',Ar s s'/\Q .normal s'
 |e,s=>Q e s
theorem AWp.postW{P:Program}{nt:Nat}{c:Code}{Q:AE->St->Prop}{s:St}(h:AWp P nt c (QW Q) s):AWp P nt c Q s:=fun w0 M0 I0 g I mu a w r b k cs hro hb hroom=>by
 obtain⟨e,a',w',⟨x,s',I',mu',hq,he,r'⟩,harr⟩:=h w0 M0 I0 g I mu a w r b k cs hro hb hroom
 cases x with
 |normal=>
  obtain⟨s'',h1,h2⟩:=hq
  obtain⟨I'',mu'',r''⟩:=h1 w0 M0 I0 nt I' mu' a' w' r'
  exact⟨e,a',w',⟨.normal,s'',I'',mu'',h2,by cases e<;>simp_all [Ga],r''⟩,harr⟩
 |_=>exact ⟨e,a',w',⟨_,s',I',mu',hq,he,r'⟩,harr⟩
theorem Run.mono{P:Program}{ops:Array Oper}{nx:Nat}{K K':List Eff->St->Prop}(hK:∀ E s,K E s->K' E s):∀ {l:List Oper} {pos:Nat} {acc:List Eff} {s:St},Run P ops nx l pos acc s K->Run P ops nx l pos acc s K'
 |[],_,_,_,h=>hK _ _ h
 |_::_,_,_,_,.inl ⟨e,h1,h2⟩=>.inl ⟨e,h1,Run.mono hK h2⟩
 |_::_,_,_,_,.inr (.inl ⟨F,he,h1,h2⟩)=>.inr (.inl ⟨F,he,h1,fun e hF=>Run.mono hK (h2 e hF)⟩)
 |_::_,_,_,_,.inr (.inr ⟨d,h1,h2⟩)=>.inr (.inr ⟨d,h1,hK _ _ h2⟩)
theorem WC{l:List Oper}{E:List Eff}{x y x' y':Prop}(h:Mp l E x y)(hx:x->x')(hy:y->y'):Mp l E x' y':=by
 cases E with
 |nil=>cases l with
  |nil=>exact hx h
  |cons o l=>exact hy h
 |cons e E=>cases l<;>exact hx h
def CN(nt:Nat):Code->Bool
 |.seq a b=>CN nt a&&CN nt b
 |.block _ c=>CN nt c
 |.cond _ a b=>CN nt a&&CN nt b
 |.region _ ops _=>Lv nt ops.toList
 |_=>true
theorem VC.sound0{P:Program}{nt:Nat}{fz:List Nat}(hm:P.follows .mixedOrders=true):∀ {c:Code} {Q:AE->St->Prop} {s:St},CN nt c=true->VC P nt fz c Q s->AWp P nt c Q s
 |.skip,_,_,_,h=>AWp.skip h
 |.ret,_,_,_,h=>AWp.ret h
 |.exit _,_,_,_,h=>AWp.exit h
 |.label _,_,_,_,h=>AWp.label h
 |.seq a b,Q,s,hc,h=>by
  simp only[CN,A0c] at hc
  exact AWp.seq (AWp.mono (VC.sound0 hm (c:=a) hc.1 h) fun e s hq=>by
   cases e with
   |normal=>exact VC.sound0 hm (c:=b) hc.2 hq
   |_=>exact hq)
 |.block _ c,_,_,hc,h=>AWp.block (VC.sound0 hm (c:=c) hc h)
 |.cond c a b,Q,s,hc,h=>by
  simp only[CN,A0c] at hc
  simp only[VC] at h
  unfold Lf at h
  split at h
  ·rename_i x hx
   exact AWp.cond hx (fun hb=>VC.sound0 hm (c:=a) hc.1 (h.1 hb)) (fun hb=>VC.sound0 hm (c:=b) hc.2 (h.2 hb))
  ·rename_i hx
   exact AWp.condA hx (fun hn=>VC.sound0 hm (c:=a) hc.1 (h.1 hn)) (fun hn=>VC.sound0 hm (c:=b) hc.2 (h.2 hn))
  ·exact h.elim
 |.region id ops draw,Q,s,hc,h=>by
  simp only[VC] at h
  have hgo:=h
  have hin:Lv nt ops.toList=true:=hc
  obtain⟨l⟩:=ops
  have hr:=(Go.run hgo).out
  cases draw with
  |false=>
   refine AWp.postW (AWp.same (AWp.region hin (Run.mono (fun E t h=>?_) hr)))
   obtain⟨s',h1,h2⟩:=h
   refine WC h2 (fun h2=>⟨⟨s'.env,s'.hp,s.nx+4*l.length⟩,h1,rfl,_,Ar.fzL _ _,h2⟩) fun h2=>?_
   have e1:s'.env.get BB=t.env.get BB:=congrFun (congrArg FSt.env h1) BB
   refine⟨⟨(BB,.any)::s'.env,s'.hp,s.nx+4*l.length⟩,?_,rfl,?_⟩
   ·have:=FSt.app_eq h1 (some BB) ⟨.any,[],[]⟩
    simpa[St.app,Er,St.fs] using this
   ·rw[<-e1];exact h2
  |true=>exact AWp.postW (AWp.same (AWp.region_draw hm hin (Run.mono (fun E t h=>by obtain⟨s',h1,h2,h3⟩:=h;exact⟨h2,⟨s'.env,s'.hp,s.nx+4*l.length⟩,h1,rfl,_,Ar.fzL _ _,h3⟩) hr)))
 |.loop _,_,_,_,h=>h
 |.scope _,_,_,_,h=>h
 |.rangeFunc _ _ _ _,_,_,_,h=>h
 |.goto _,_,_,_,h=>h
 |.refuse _,_,_,_,h=>h
theorem VC.sound{P:Program}{nt:Nat}{fz:List Nat}(hm:P.follows .mixedOrders=true){c:Code}{Q:AE->St->Prop}{s:St}(hc:CN nt c=true)(h:VCS P nt fz c Q s):AWp P nt c Q s:=by
 rw[Ex] at h;exact VC.sound0 hm hc h
mutual
def szD:D->Prop
 |.val v=>okP v
 |.agg cs=>szL cs
 |.tup cs=>szL cs
 |.slice es _=>es.length<=9223372036854775807/\Rr es
 |.ptr cs _=>szL cs
 |.iface _ d=>szD d
 |.func _ fs cs=>szL fs/\szL cs
 |_=>True
def szL:List D->Prop
 |[]=>True
 |d::l=>szD d/\szL l
def Rr:List (List D)->Prop
 |[]=>True
 |d::l=>szL d/\Rr l
end
theorem Fx:∀ {l:List D},(∀ i,i<l.length->szD (nd l i))->szL l
 |[],_=>trivial
 |d::l,h=>⟨by simpa[nd] using h 0 (by simp),Fx fun i hi=>by simpa[nd] using h (i+1) (by simpa using hi)⟩
theorem LO:∀ {l:List (List D)},(∀ i,i<l.length->szL (nr l i))->Rr l
 |[],_=>trivial
 |d::l,h=>⟨by simpa[nr] using h 0 (by simp),LO fun i hi=>by simpa[nr] using h (i+1) (by simpa using hi)⟩
theorem Y6{α:Type}{f:α->List D}{l:List α}:Rr (l.map f)↔∀ x ∈ l,szL (f x):=by
 induction l<;>simp [Rr, *]
theorem Rep.sz{w:World}{I:Nat->Prop}{mu:Nat->Option Value}{d:D}{v:Value}(h:Rep w I mu d v):szD d:=by
 induction h with
 |any v=>trivial
 |val v ok=>exact ok
 |cond g d v _ _ _=>trivial
 |agg cs us hl _ ih=>exact Fx ih
 |tup cs us hl _ ih=>exact Fx ih
 |slice es t A k o sz cap u hA hc ht hm hlen hcell _ ih=>
  exact⟨A0L hc hm,LO fun i hi=>Fx fun j hj=>ih i j hi (by rw[hlen i hi] at hj;exact hj)⟩
 |ptr cs off k o u hk hcell _ ih=>exact Fx ih
 |ref _ _ _ _ _ _=>trivial
 |sref _ _ _ _ _ _ _=>trivial
 |gref _ _ _ _ _=>trivial
 |mref _ _ _=>trivial
 |yld _ _ _=>trivial
 |func fn fs cs us vs hl hk _ _ ih ih'=>exact ⟨Fx ih,Fx ih'⟩
 |iface t d v _ ih=>exact ih
 |abool n pos b h=>trivial
 |gel _ _ _ _ _ _ _ _=>trivial
 |gsub _ _ _ _ _ _ _ _ _ _ _=>trivial
def szB:Blk->Prop
 |.rows es _=>Rr es
 |.grow es _=>es.length<=9223372036854775807/\Rr es
 |.map es _=>∀ p ∈ es,szD p.2.2
 |_=>True
theorem Dp.sz{w:World}{I:Nat->Prop}{mu:Nat->Option Value}{b:Nat}{x:Blk}(h:Dp w I mu b x):szB x:=by
 cases x with
 |rows es sz=>
  obtain⟨k,T,us,h1,h2,h3,h4,h5⟩:=h
  exact LO fun i hi=>Fx fun j hj=>(h5 i j hi (by rw[h4 i hi] at hj;exact hj)).sz
 |grow es sz=>
  obtain⟨A,cap,T,us,h1,h2,h3,h4⟩:=h
  rcases h4 with⟨h5,h6⟩|⟨k,q0,q1,q2,q3,q4,q5⟩
  ·subst h6;exact⟨by simp,trivial⟩
  ·exact⟨A0L q3 h3,LO fun i hi=>Fx fun j hj=>(q5 i j hi (by rw[h2 i hi] at hj;exact hj)).sz⟩
 |iter m since seen last=>trivial
 |obj o=>trivial
 |loop _ _ _ _ _ _ _=>trivial
 |junk=>trivial
 |map es ck=>
  obtain⟨k,l,h1,h2,h3,_,h4⟩:=h
  intro p hp
  obtain⟨i,hi⟩:=List.getElem?_of_mem hp
  have hl:l.length=es.length:=by have:=congrArg List.length h3;simpa using this
  have hlt:=(List.getElem?_eq_some_iff.1 hi).1
  exact(h4 i (l[i]'(by omega)) p (A06 (by omega)) hi).sz
theorem AWp.sz{P:Program}{nt:Nat}{c:Code}{Q:AE->St->Prop}{s:St}(h:(∀ t,szD (s.env.get t))->(∀ b x,Ai s.hp b=some x->szB x)->AWp P nt c Q s):AWp P nt c Q s:=fun w0 M0 I0 g I mu a w r=>
 h (fun t=>(r.env t).sz) (fun b x hx=>Dp.sz (r.w.blk b x hx)) w0 M0 I0 g I mu a w r
theorem fzD_fun(b:Nat)(x:Blk):fzD b x=frz (Mw b x) 4:=rfl
theorem PY(r:Nat->Nat)(a b:List (List D)):DB r (a++b)=DB r a++DB r b:=by simp[Ei]
theorem Lx(n:Nat):∀ (a b:List (List D)),EJ n (a++b)=(EJ n a&&EJ n b)
 |[],b=>by simp[EJ]
 |x::a,b=>by simp[EJ,Lx n a b,Bool.and_assoc]
theorem Se:∀ (a b c:List (List D)),E5 (a++b) (a++c)=E5 b c
 |[],b,c=>rfl
 |x::a,b,c=>by simp only[A07,E5,Se a b c,eq_true (AJ x),true_and]
attribute [push_cast] PY Lx Se
def BN:List (Nat×Nat)->Nat->Nat
 |[],b=>b
 |(a,c)::l,b=>bif a==b then c else BN l b
theorem RK:∀ {l:List (Nat×Nat)},(l.all fun p=>p.1%2==0)=true->∀ b,b%2=1->BN l b=b
 |[],_,b,_=>rfl
 |(a,c)::l,h,b,hb=>by
  simp only[List.all_cons,A0c,beq_iff_eq] at h
  have:(a==b)=false:=by
   have:=h.1
   simp;omega
  simp only[BN,this,cond_false]
  exact RK h.2 b hb
attribute [push_cast] FZ Xf
attribute [push_cast] BN Eo K2 Hs
attribute [push_cast] szD szL Rr szB Y6 okP
attribute [push_cast] P3 WP reS unD un0D unB grS grG FF GZ Fd US EF ED ED.flatL
theorem Wx(r:Nat->Nat)(es:List (List D))(sz:Nat):FA r (.rows es sz)=.rows (DB r es) sz:=rfl
theorem WB(r:Nat->Nat)(es:List (List D))(sz:Nat):FA r (.grow es sz)=.grow (DB r es) sz:=rfl
theorem Yw(r:Nat->Nat)(es:List (Value×Nat×D))(ck:Nat):FA r (.map es ck)=.map (es.map fun p=>(p.1,p.2.1,B3 r p.2.2)) ck:=rfl
theorem WA(r:Nat->Nat)(m a:Nat)(b:List Nat)(c:Nat):FA r (.iter m a b c)=.iter (r m) a b c:=rfl
theorem Yv(r:Nat->Nat)(o:Obj):FA r (.obj o)=.obj o:=rfl
theorem Wz(r:Nat->Nat):FA r .junk=.junk:=rfl
theorem Wy(r:Nat->Nat)(env:Env)(nt:Nat)(st:LoopState)(pd:Option Code)(ps:List Nat)(a c:Code):FA r (.loop env nt st pd ps a c)=.loop (FZ (B3 r) env) nt st pd ps a c:=rfl
theorem ZL(n:Nat)(es:List (List D))(sz:Nat):ltB n (.rows es sz)=EJ n es:=rfl
theorem ZP(n:Nat)(es:List (List D))(sz:Nat):ltB n (.grow es sz)=EJ n es:=rfl
theorem ltB_map(n:Nat)(es:List (Value×Nat×D))(ck:Nat):ltB n (.map es ck)=es.all fun p=>ltD n p.2.2:=rfl
theorem ZO(n m a:Nat)(b:List Nat)(c:Nat):ltB n (.iter m a b c)=okN n m:=rfl
theorem ltB_obj(n:Nat)(o:Obj):ltB n (.obj o)=true:=rfl
theorem ZN(n:Nat):ltB n .junk=true:=rfl
theorem ZM(n:Nat)(env:Env)(nt:Nat)(st:LoopState)(pd:Option Code)(ps:List Nat)(a c:Code):ltB n (.loop env nt st pd ps a c)=Xf (ltD n) env:=rfl
theorem WQ(F:D->D)(es:List (List D))(sz:Nat):JB F (.rows es sz)=.rows (es.map fun r=>r.map F) sz:=rfl
theorem WU(F:D->D)(es:List (List D))(sz:Nat):JB F (.grow es sz)=.grow (es.map fun r=>r.map F) sz:=rfl
theorem ZK(F:D->D)(es:List (Value×Nat×D))(ck:Nat):JB F (.map es ck)=.map (es.map fun p=>(p.1,p.2.1,F p.2.2)) ck:=rfl
theorem WT(F:D->D)(m a:Nat)(b:List Nat)(c:Nat):JB F (.iter m a b c)=.iter m a b c:=rfl
theorem ZJ(F:D->D)(o:Obj):JB F (.obj o)=.obj o:=rfl
theorem WS(F:D->D):JB F .junk=.junk:=rfl
theorem WR(F:D->D)(env:Env)(nt:Nat)(st:LoopState)(pd:Option Code)(ps:List Nat)(a c:Code):JB F (.loop env nt st pd ps a c)=.loop (FZ F env) nt st pd ps a c:=rfl
attribute [push_cast] Wx WB Yw WA Yv Wz Wy ZL ZP ltB_map ZO ltB_obj ZN ZM WQ WU ZK WT ZJ WS WR fzL fzS fzE fzD_fun fzH Mw okN VCS_skip VCS_ret VCS_exit XQ VCS_seq XR VCS_cond Rc Rd VCS_loop XP Ry Wm Wl Ye TE Lf Di Lk Lk.junkB Cm DX CL Dj BD My Ny Jg ND Sk ltD ltL EJ B3 Ca DB
def XS(P:Program)(f:FuncId):Prop:=
 ∀(w:World) (a b:Addr) (la ca lb cb:Nat) (tA tB:TypeId) (kA kB:Nat),a.block≠b.block->w.shape? a.block=some (tA,kA)->w.frozen? a=false->w.frozen? {block:=a.block,off:=kA}=false->w.shape? b.block=some (tB,kB)->kB≠0->
  (callFunc f #[.slice (some a) la ca,.slice (some b) lb cb]).run P w=.ok (.value (.bool false)) w
theorem XS.of{P:Program}{k:FuncId}{fn:Func}{tS tR e:TypeId}{size:Nat}(hf:P.funcs[k]? =some fn)(hn:(fn.name== "runtime.NumGoroutine")=false)(hb:fn.body.isNone=true)(h1:Extern.findNext fn=none)
  (h2:Extern.find fn=some (Extern.SlicesOverlaps.overlaps #[tS,tS] #[tR])) (ht:P.underlying tS=some (.slice e)) (hz:∀ w,(Go.sizeOf e).run P w=.ok size w):XS P k:=by
 intro w a b la ca lb cb tA tB kA kB hne h3 h4 h5 h6 h7
 have g1:=Lib.run_overlaps_apart w tS tR e ht size hz a b la ca lb cb hne tA tB kA kB h3 h6 h7 h4 h5
 have hn':fn.name≠ "runtime.NumGoroutine":=by simpa using hn
 have hb':fn.body=none:=by simpa using hb
 simp[callFunc,hf,hn',hb',h1,h2,g1,Result.andThen]
theorem SN{P:Program}{id:Nat}{ev:Operand->D}{hp:Nat->Option Blk}{dst:Option Tmp}{T:TypeId}{pos:String}{af:Array Edge}{gd:Option (Nat×Bool)}{f:FuncId}{x y:Operand}{ts:Array TypeId}{b1 i1 l1 c1 s1 b2 i2 l2 c2 s2 z1 z2:Nat}{es1 es2:List (List D)}
  (hc:XS P f) (hx:ev x=.sref b1 i1 l1 c1 s1) (hy:ev y=.sref b2 i2 l2 c2 s2) (h1:hp b1=some (.rows es1 z1)) (h2:hp b2=some (.rows es2 z2)) (hne:b1≠b2) (h0:0<es2.length*z2):
  B8 P ⟨dst,.call {callee:=.value (.func f),args:=#[x,y],argTypes:=ts},T,pos,af,gd⟩ id ev hp ⟨.val (.bool false),[],[b1,b2]⟩:=by
 refine B8.quiet fun w0 M0 I0 fr I mu hh a w hw hxs hb=>⟨.bool false,?_,.val _ trivial⟩
 have rx:=hxs x (by simp[Op.operands,Call.operands])
 have ry:=hxs y (by simp[Op.operands,Call.operands])
 rw[hx] at rx
 rw[hy] at ry
 have hb1:=(hb b1 (by simp)).trans h1
 have hb2:=(hb b2 (by simp)).trans h2
 obtain⟨k1,T1,us1,m1,g1,q1,_,_⟩:=hw.blk b1 _ hb1
 obtain⟨k2,T2,us2,m2,g2,q2,_,_⟩:=hw.blk b2 _ hb2
 have hk:k1≠k2:=fun e=>hne (hw.inj b1 b2 _ _ _ _ k1 hb1 hb2 m1 m2 rfl (by rw[e];rfl))
 generalize hvx:a.eval x=vx at rx
 generalize hvy:a.eval y=vy at ry
 cases rx with
 |sref _ _ _ _ _ j1 n1=>
 cases ry with
 |sref _ _ _ _ _ j2 n2=>
 rw[m1] at n1
 rw[m2] at n2
 simp only[A04,A0N,A17,and_true] at n1 n2
 subst n1 n2
 have hr:=hc w ⟨k1,i1*s1,none⟩ ⟨k2,i2*s2,none⟩ l1 c1 l2 c2 T1 T2 us1.length us2.length hk (by simp[World.shape?,g1]) (by simp[World.frozen?,g1]) (by simp[World.frozen?,g1]) (by simp[World.shape?,g2]) (by omega)
 simp only[execOp,resolve,Act.eval,Deferred.ofValue,A0m,A0w,Result.andThen,invoke]
 have e2:#[]++(#[x,y]:Array Operand).map a.eval++ #[]=#[.slice (some ⟨k1,i1*s1,none⟩) l1 c1,.slice (some ⟨k2,i2*s2,none⟩) l2 c2]:=by
  apply Array.ext';simp[hvx,hvy]
 exact(congrArg (fun z=>(callFunc f z).run P w) e2).trans hr
noncomputable section
section
variable{P:Program}{ops:Array Oper}{nx:Nat}{dst:Option Tmp}{T:TypeId}{ps:String}{af:Array Edge}{gd:Option (Nat×Bool)}{f:FuncId}{x y:Operand}{ts:Array TypeId}{l:List Oper}{pos:Nat}{acc:List Eff}{s:St}{K:List Eff->St->Prop}{b1 i1 l1 c1 s1 b2 i2 l2 c2 s2 z1 z2:Nat}{es1 es2:List (List D)}
theorem Af.ovl(hc:XS P f)(hg:gd=none∨∃ j want t,gd=some (j,want)/\BS ops j=some t/\gOf (s.env.get t) want=some true)(hx:evO P s.env.get x=.sref b1 i1 l1 c1 s1)(hy:evO P s.env.get y=.sref b2 i2 l2 c2 s2)(h1:Ai s.hp b1=some (.rows es1 z1))(h2:Ai s.hp b2=some (.rows es2 z2))(hne:b1≠b2)(h0:0<es2.length*z2)
  (hk:GoS P ops nx l (pos+1) (⟨.val (.bool false),[],[b1,b2]⟩::acc) (s.app dst ⟨.val (.bool false),[],[b1,b2]⟩) K):Af P ops nx (⟨dst,.call {callee:=.value (.func f),args:=#[x,y],argTypes:=ts},T,ps,af,gd⟩::l) pos acc s K:=by
 rw[Dl] at hk;rw[Cg]
 unfold Cj
 refine .inl ⟨_,?_,by have:=Go.run hk;unfold Cj at this;exact this⟩
 rcases hg with rfl|⟨j,want,t,rfl,ht,hg⟩
 ·exact BT.plain rfl (SN hc hx hy h1 h2 hne h0)
 ·exact BT.guard_true rfl ht hg (SN hc hx hy h1 h2 hne h0)
end
end
end Go.Ab
namespace Go.Ab
open Go.RowKit
open Go.ChangeMaps (setBlock)
section
variable{w0:World}{M0:Nat->Prop}{I0:Gh}{fr I:Nat->Prop}{mu:Nat->Option Value}{hp:Nat->Option Blk}{w:World}
theorem Aq.drew(h:Aq w0 M0 I0 fr I mu hp w):Aq w0 M0 I0 fr I mu hp w.drew:=
 ⟨fun b x hb=>(h.blk b x hb).mono (fun _ _=>rfl) (fun _ h=>h) (fun _ _ h=>h) (fun _ _ _ _=>rfl),h.loc,h.inj,h.fresh,h.lt,h.os,h.tape,h.output,h.grown,h.old,h.iold,h.inew,h.keep,h.used⟩
theorem Aq.setObj(h:Aq w0 M0 I0 fr I mu hp w){b k:Nat}{x0 x:Blk}(hb:hp b=some x0)(hm:mu b=some (.pointer (some ⟨k,0,none⟩)))(o:Obj)(hx:(setBlock w k o).heap[k]? =some o->(∀ j,j≠k->(setBlock w k o).heap[j]? =w.heap[j]?)->Dp (setBlock w k o) I mu b x):
  Aq w0 M0 I0 fr I mu (fun c=>AX c (hp c) [(b,some x)]) (setBlock w k o)/\Ext I mu w I mu (setBlock w k o):=by
 obtain⟨hk1,hk2,hk3⟩:=h.loc b x0 _ k hb hm rfl
 have hoth:∀ j,j≠k->(setBlock w k o).heap[j]? =w.heap[j]?:=fun j hj=>by
  simp[setBlock,Array.getElem?_setIfInBounds,Ne.symm hj]
 have hself:(setBlock w k o).heap[k]? =some o:=by simp[setBlock,hk3]
 have hsz:(setBlock w k o).heap.size=w.heap.size:=by simp[setBlock]
 have hI:∀ j,I j->(setBlock w k o).heap[j]? =w.heap[j]?:=fun j hj=>hoth j (by rintro rfl;exact hk2 hj)
 have hup:∀ c,AX c (hp c) [(b,some x)]=if c=b then some x else hp c:=by
  intro c;simp only[AX,A0y,A1c];by_cases hc:c=b
  ·subst hc;simp
  ·have:¬b=c:=fun h=>hc h.symm
   simp[hc,this]
 refine⟨⟨fun c y hy=>?_,fun c y v j hy hv hj=>?_,fun c d y z v u j hy hz hv hu hj hj'=>?_,h.fresh,fun j hj=>by rw[hsz];exact h.lt j hj,h.os,h.tape,h.output,by rw[hsz];exact h.grown,fun j hj hn=>?_,h.iold,h.inew,h.keep,fun c y hy hf=>?_⟩,fun _ h=>h,fun _ _ h=>h,hI⟩
 ·rw[hup] at hy
  by_cases hc:c=b
  ·rw[if_pos hc] at hy;cases hy;subst hc;exact hx hself hoth
  ·rw[if_neg hc] at hy
   refine(h.blk c y hy).mono hI (fun _ h=>h) (fun _ _ h=>h) fun v j hv hj=>hoth j ?_
   rintro rfl
   exact hc (h.inj c b y x0 v _ j hy hb hv hm hj rfl)
 ·rw[hup] at hy
  rw[hsz]
  by_cases hc:c=b
  ·subst hc;exact h.loc c x0 v j hb hv hj
  ·rw[if_neg hc] at hy;exact h.loc c y v j hy hv hj
 ·rw[hup] at hy hz
  have g:∀ c y,(if c=b then some x else hp c)=some y->∃ y',hp c=some y':=fun c y hy=>by
   by_cases hc:c=b
   ·subst hc;exact⟨_,hb⟩
   ·rw[if_neg hc] at hy;exact⟨_,hy⟩
  obtain⟨y',hy'⟩:=g c y hy
  obtain⟨z',hz'⟩:=g d z hz
  exact h.inj c d y' z' v u j hy' hz' hv hu hj hj'
 ·rw[hoth j ?_]
  ·exact h.old j hj hn
  ·rintro rfl
   rcases hk1 with h1|h1
   ·exact hn h1
   ·omega
 ·rw[hup] at hy
  by_cases hc:c=b
  ·subst hc;exact h.used c x0 hb hf
  ·rw[if_neg hc] at hy;exact h.used c y hy hf
end
section
variable{P:Program}{ops:Array Oper}{nx:Nat}{dst:Option Tmp}{T:TypeId}{ps:String}{af:Array Edge}{x:Operand}{l:List Oper}{pos:Nat}{acc:List Eff}{s:St}{K:List Eff->St->Prop}
def nextF(b m:Nat)(es:List (Value×Nat×D))(ck:Nat)(seen:List Nat)(e:Eff):Prop:=
 ((∀ y ∈ es,y.2.1 ∈ seen)/\e=⟨.tup [.val (.bool false)],[],[]⟩)∨∃ y ∈ es,y.2.1 ∉ seen/\e=⟨.tup [.val (.bool true),.any,.any],[(b,some (.iter m ck (seen++[y.2.1]) ck))],[]⟩
theorem ZG(b m:Nat)(es:List (Value×Nat×D))(ck:Nat)(seen:List Nat):∃ e,nextF b m es ck seen e:=by
 by_cases h:∀ y ∈ es,y.2.1 ∈ seen
 ·exact⟨_,.inl ⟨h,rfl⟩⟩
 ·have:∃ y ∈ es,y.2.1 ∉ seen:=Classical.byContradiction fun hn=>h fun y hy=>Classical.byContradiction fun hs=>hn ⟨y,hy,hs⟩
  obtain⟨y,h1,h2⟩:=this
  exact⟨_,.inr ⟨y,h1,h2,rfl⟩⟩
theorem Xg{id b m:Nat}{ev:Operand->D}{hp:Nat->Option Blk}{es:List (Value×Nat×D)}{ck:Nat}{seen:List Nat}(hx:ev x=.ref b 0 0 1)(hb:hp b=some (.iter m ck seen ck))(hm:hp m=some (.map es ck))(hlt:∀ y ∈ es,y.2.1<ck):
  PI P ⟨dst,.next x false,T,ps,af,none⟩ id ev hp [b,m] (nextF b m es ck seen):=by
 intro w0 M0 I0 fr I mu h a w hga hw hid hxs hrd K Q hK
 have hxr:=hxs x (by simp[Op.operands])
 rw[hx] at hxr
 obtain⟨k,km,h1,h2,h3⟩:=hw.blk b _ ((hrd b (by simp)).trans hb)
 obtain⟨km',l,g1,g2,g3,g4,g5⟩:=hw.blk m _ ((hrd m (by simp)).trans hm)
 rw[h2] at g1
 simp only[A04,A1Y] at g1
 subst g1
 generalize he:a.eval x=v at hxr
 cases hxr with
 |ref _ _ _ _ k' hk=>
 rw[h1] at hk
 simp only[A04,A0N,A17,and_true] at hk
 subst hk
 have hborn:∀ e ∈ l,∃ y ∈ es,y.2.1=e.born:=fun e hel=>by
  have:e.born ∈ es.map (·.2.1):=by rw[<-g4];exact A0j.2 ⟨e,hel,rfl⟩
  obtain⟨y,hy,h⟩:=A0j.1 this
  exact⟨y,hy,h⟩
 have hold:∀ e ∈ l.toArray.toList,e.born<ck:=fun e hel=>by
  obtain⟨y,hy,h⟩:=hborn e hel
  rw[<-h];exact hlt y hy
 have hex:∀ r w',(Instr.next (.pointer (some ⟨k,0*1+0,none⟩)) false T).run P w=.ok r w'->(execOp a.eval ⟨dst,.next x false,T,ps,af,none⟩).run P w=.ok (.value r) w':=by
  intro r w' h
  simp only[execOp,he,A0m]
  simp only[A1X,A1b] at h|-
  simp only[Sem.run_map,A0m,A0w,h,Result.andThen]
 rcases run_next_at (P:=P) w T k km ck ck seen.toArray l.toArray ck h3 g2 hold (A0e _) with⟨h0,hrun⟩|⟨e,hel,w1,hal,hrun⟩
 ·have hseen:∀ y ∈ es,y.2.1 ∈ seen:=fun y hy=>by
   have:y.2.1 ∈ l.map (·.born):=by rw[g4];exact A0j.2 ⟨y,hy,rfl⟩
   obtain⟨e,hel,h⟩:=A0j.1 this
   have:=all_seen l.toArray seen.toArray h0 e (by simpa using hel)
   rw[<-h];simpa using this
  refine Dt (hex _ _ hrun) (hK _ (.inl ⟨hseen,rfl⟩) _ w I mu (Ext.refl _ _ _) (hw.less fun b hb=>hb.1) ?_)
  refine .tup _ [.bool false] rfl fun i hi=>?_
  match i,hi with
  |0,_=>exact .val _ trivial
 ·have hmem:=mem_left hel
  obtain⟨hel',hns⟩:=hmem
  obtain⟨y,hy,hyb⟩:=hborn e (by simpa using hel')
  have hw1:Aq w0 M0 I0 fr I mu h w1:=by rcases hal with rfl|rfl;exact hw;exact hw.drew
  have hx1:Ext I mu w I mu w1:=by rcases hal with rfl|rfl<;>exact ⟨fun _ h=>h,fun _ _ h=>h,fun _ _=>rfl⟩
  obtain⟨q1,q2⟩:=hw1.setObj (x:=.iter m ck (seen++[y.2.1]) ck) ((hrd b (by simp)).trans hb) h1 (.mapIter (some km) ck (seen.toArray.push e.born) ck) fun hs _=>⟨k,km,h1,h2,by rw[hs,hyb];simp⟩
  refine Dt (hex _ _ hrun) (hK _ (.inr ⟨y,hy,by rw[hyb];simpa using hns,rfl⟩) _ _ I mu ⟨q2.i,q2.m,fun j hj=>(q2.w j hj).trans (hx1.w j hj)⟩ (q1.less fun b hb=>hb.1) ?_)
  refine .tup _ [.bool true,e.key,e.val] rfl fun i hi=>?_
  match i,hi with
  |0,_=>exact .val _ trivial
  |1,_=>exact .any _
  |2,_=>exact .any _
theorem Af.next(b m:Nat){es:List (Value×Nat×D)}{ck:Nat}{seen:List Nat}(hx:evO P s.env.get x=.ref b 0 0 1)(hb:Ai s.hp b=some (.iter m ck seen ck))(hm:Ai s.hp m=some (.map es ck))(hlt:∀ y ∈ es,y.2.1<ck)
  (h0:(∀ y ∈ es,y.2.1 ∈ seen)->GoS P ops nx l (pos+1) (bad::acc) (s.app dst ⟨.tup [.val (.bool false)],[],[]⟩) K)
  (h1:∀ y ∈ es,y.2.1 ∉ seen->GoS P ops nx l (pos+1) (bad::acc) (s.app dst ⟨.tup [.val (.bool true),.any,.any],[(b,some (.iter m ck (seen++[y.2.1]) ck))],[]⟩) K):Af P ops nx (⟨dst,.next x false,T,ps,af,none⟩::l) pos acc s K:=
 Af.many _ _ (ZG b m es ck seen) (Xg hx hb hm hlt) fun e he=>by
  rcases he with⟨h,rfl⟩|⟨y,hy,hn,rfl⟩
  ·exact h0 h
  ·exact h1 y hy hn
theorem UA{id b:Nat}{ev:Operand->D}{hp:Nat->Option Blk}(hx:ev x=.ref b 0 0 1)(hb:hp b=some (.obj (.mapIter none 0 #[] 0))):
  PI P ⟨dst,.next x false,T,ps,af,none⟩ id ev hp [b] (fun e=>e=⟨.tup [.val (.bool false)],[],[]⟩):=by
 intro w0 M0 I0 fr I mu h a w hga hw hid hxs hrd K Q hK
 have hxr:=hxs x (by simp[Op.operands])
 rw[hx] at hxr
 obtain⟨k,h1,h2⟩:=hw.blk b _ ((hrd b (by simp)).trans hb)
 generalize he:a.eval x=v at hxr
 cases hxr with
 |ref _ _ _ _ k' hk=>
 rw[h1] at hk
 simp only[A04,A0N,A17,and_true] at hk
 subst hk
 have hrun:(execOp a.eval ⟨dst,.next x false,T,ps,af,none⟩).run P w=.ok (.value (.tuple #[.bool false])) w:=by
  simp only[execOp,he,A0m,A1X,A1b]
  simp[Instr.next,getObj,Sem.run,h2,Result.andThen]
 refine Dt hrun (hK _ rfl _ w I mu (Ext.refl _ _ _) (hw.less fun b hb=>hb.1) ?_)
 refine .tup _ [.bool false] rfl fun i hi=>?_
 match i,hi with
 |0,_=>exact .val _ trivial
theorem Af.nextN(b:Nat)(hx:evO P s.env.get x=.ref b 0 0 1)(hb:Ai s.hp b=some (.obj (.mapIter none 0 #[] 0)))
  (h0:GoS P ops nx l (pos+1) (bad::acc) (s.app dst ⟨.tup [.val (.bool false)],[],[]⟩) K):Af P ops nx (⟨dst,.next x false,T,ps,af,none⟩::l) pos acc s K:=
 Af.many [b] (fun e=>e=⟨.tup [.val (.bool false)],[],[]⟩) ⟨_,rfl⟩ (UA hx hb) fun e he=>by subst he;exact h0
end
end Go.Ab
