/- The layer by which the program is walked, and what its functions do: part 5 of 15. -/
import Derived.Test.YtiobcncfjaoniaaGreatDoorV3
set_option maxHeartbeats 4000000
set_option maxRecDepth 20000
set_option linter.unusedVariables false
set_option linter.unusedSimpArgs false
set_option linter.unnecessarySimpa false
namespace Go.Ab
open Go.RowKit
mutual
def AT(r:Nat->Nat):D->D
 |.any=>.any
 |.val v=>.val v
 |.cond g d=>.cond g (AT r d)
 |.agg cs=>.agg (BX r cs)
 |.tup cs=>.tup (BX r cs)
 |.slice es t=>.slice (D9 r es) t
 |.ptr cs o=>.ptr (BX r cs) o
 |.func fn fs cs=>.func fn (BX r fs) (BX r cs)
 |.iface t d=>.iface t (AT r d)
 |.ref b i o s=>.ref (r b) i o s
 |.sref b i l c s=>.sref (r b) i l c s
 |.gref b l=>.gref (r b) l
 |.mref b=>.mref (r b)
 |.yld b=>.yld (r b)
 |.abool n p=>.abool n p
 |.gel b i o s=>.gel (r b) i o s
 |.gsub b i l s=>.gsub (r b) i l s
def BX(r:Nat->Nat):List D->List D
 |[]=>[]
 |d::l=>AT r d::BX r l
def D9(r:Nat->Nat):List (List D)->List (List D)
 |[]=>[]
 |d::l=>BX r d::D9 r l
end
def okN(n b:Nat):Bool:=b%2==1 ||decide (b<2*n)
mutual
def ltD(n:Nat):D->Bool
 |.any=>true
 |.val _=>true
 |.cond _ d=>ltD n d
 |.agg cs=>ltL n cs
 |.tup cs=>ltL n cs
 |.slice es _=>Eg n es
 |.ptr cs _=>ltL n cs
 |.func _ fs cs=>ltL n fs&&ltL n cs
 |.iface _ d=>ltD n d
 |.ref b _ _ _=>okN n b
 |.sref b _ _ _ _=>okN n b
 |.gref b _=>okN n b
 |.mref b=>okN n b
 |.yld b=>okN n b
 |.gel b _ _ _=>okN n b
 |.gsub b _ _ _=>okN n b
 |.abool _ _=>true
def ltL(n:Nat):List D->Bool
 |[]=>true
 |d::l=>ltD n d&&ltL n l
def Eg(n:Nat):List (List D)->Bool
 |[]=>true
 |d::l=>ltL n d&&Eg n l
end
mutual
theorem Fe(r:Nat->Nat):∀ (d:D),d.pure=true->AT r d=d
 |.any,_=>rfl
 |.abool _ _,_=>rfl
 |.val _,_=>rfl
 |.cond g d,h=>by simp only[AT];rw[Fe r d (by simpa[D.pure] using h)]
 |.agg cs,h=>by simp only[AT];rw[BN r cs (by simpa[D.pure] using h)]
 |.tup cs,h=>by simp only[AT];rw[BN r cs (by simpa[D.pure] using h)]
 |.slice es _,h=>by simp only[AT];rw[HL r es (by simpa[D.pure] using h)]
 |.ptr cs _,h=>by simp only[AT];rw[BN r cs (by simpa[D.pure] using h)]
 |.func _ fs cs,h=>by
  simp only[D.pure,A09] at h
  simp only[AT];rw[BN r fs h.1,BN r cs h.2]
 |.iface _ d,h=>by simp only[AT];rw[Fe r d (by simpa[D.pure] using h)]
 |.ref _ _ _ _,h=>by simp[D.pure] at h
 |.sref _ _ _ _ _,h=>by simp[D.pure] at h
 |.gref _ _,h=>by simp[D.pure] at h
 |.yld _,h=>by simp[D.pure] at h
 |.mref _,h=>by simp[D.pure] at h
 |.gel _ _ _ _,h=>by simp[D.pure] at h
 |.gsub _ _ _ _,h=>by simp[D.pure] at h
theorem BN(r:Nat->Nat):∀ (l:List D),Af l=true->BX r l=l
 |[],_=>rfl
 |d::l,h=>by
  simp only[Af,A09] at h
  simp only[BX];rw[Fe r d h.1,BN r l h.2]
theorem HL(r:Nat->Nat):∀ (l:List (List D)),A3 l=true->D9 r l=l
 |[],_=>rfl
 |d::l,h=>by
  simp only[A3,A09] at h
  simp only[D9];rw[BN r d h.1,HL r l h.2]
end
mutual
theorem Gu(n:Nat):∀ (d:D),d.pure=true->ltD n d=true
 |.any,_=>rfl
 |.abool _ _,_=>rfl
 |.val _,_=>rfl
 |.cond g d,h=>by simp only[ltD];exact Gu n d (by simpa[D.pure] using h)
 |.agg cs,h=>by simp only[ltD];exact Ck n cs (by simpa[D.pure] using h)
 |.tup cs,h=>by simp only[ltD];exact Ck n cs (by simpa[D.pure] using h)
 |.slice es _,h=>by simp only[ltD];exact JV n es (by simpa[D.pure] using h)
 |.ptr cs _,h=>by simp only[ltD];exact Ck n cs (by simpa[D.pure] using h)
 |.func _ fs cs,h=>by
  simp only[D.pure,A09] at h
  simp only[ltD,A09];exact⟨Ck n fs h.1,Ck n cs h.2⟩
 |.iface _ d,h=>by simp only[ltD];exact Gu n d (by simpa[D.pure] using h)
 |.ref _ _ _ _,h=>by simp[D.pure] at h
 |.sref _ _ _ _ _,h=>by simp[D.pure] at h
 |.gref _ _,h=>by simp[D.pure] at h
 |.yld _,h=>by simp[D.pure] at h
 |.mref _,h=>by simp[D.pure] at h
 |.gel _ _ _ _,h=>by simp[D.pure] at h
 |.gsub _ _ _ _,h=>by simp[D.pure] at h
theorem Ck(n:Nat):∀ (l:List D),Af l=true->ltL n l=true
 |[],_=>rfl
 |d::l,h=>by
  simp only[Af,A09] at h
  simp only[ltL,A09];exact⟨Gu n d h.1,Ck n l h.2⟩
theorem JV(n:Nat):∀ (l:List (List D)),A3 l=true->Eg n l=true
 |[],_=>rfl
 |d::l,h=>by
  simp only[A3,A09] at h
  simp only[Eg,A09];exact⟨Ck n d h.1,JV n l h.2⟩
end
theorem Ps(r:Nat->Nat):∀ l:List D,BX r l=l.map (AT r)
 |[]=>rfl
 |d::l=>by simp[BX,Ps r l]
theorem DU(r:Nat->Nat):∀ l:List (List D),D9 r l=l.map (BX r)
 |[]=>rfl
 |d::l=>by simp[D9,DU r l]
theorem E0{n:Nat}:∀ {cs:List D},ltL n cs=true->∀ i,ltD n (nd cs i)=true
 |[],_,i=>by simp[nd,ltD]
 |d::r,h,0=>by simp only[ltL,A09] at h;simpa[nd] using h.1
 |d::r,h,i+1=>by simp only[ltL,A09] at h;have:=E0 h.2 i;simpa[nd] using this
theorem KO{n:Nat}:∀ {es:List (List D)},Eg n es=true->∀ i,ltL n (nr es i)=true
 |[],_,i=>by simp[nr,ltL]
 |d::r,h,0=>by simp only[Eg,A09] at h;simpa[nr] using h.1
 |d::r,h,i+1=>by simp only[Eg,A09] at h;have:=KO h.2 i;simpa[nr] using this
theorem BK{r:Nat->Nat}{cs:List D}{i:Nat}(hi:i<cs.length):nd (BX r cs) i=AT r (nd cs i):=by rw[Ps];exact CQ hi
theorem Ca{r:Nat->Nat}{es:List (List D)}{i:Nat}(hi:i<es.length):nr (D9 r es) i=BX r (nr es i):=by rw[DU];simp[nr,A02,hi]
theorem Av(r:Nat->Nat)(cs:List D):(BX r cs).length=cs.length:=by rw[Ps];simp
theorem AF(r:Nat->Nat)(cs:List (List D)):(D9 r cs).length=cs.length:=by rw[DU];simp
theorem Rep.ren{w:World}{I:Nat->Prop}{mu mu':Nat->Option Value}{r:Nat->Nat}{n:Nat}(hmu:∀ b x,okN n b=true->mu (r b)=some x->mu' b=some x){d':D}{v:Value}(h:Rep w I mu d' v):∀ {d:D},d'=AT r d->ltD n d=true->Rep w I mu' d v:=by
 induction h with
 |any v=>intro d he hl;cases d<;>simp only[AT,reduceCtorEq] at he;exact .any v
 |abool n pos b h=>intro d he hl;cases d<;>simp only[AT,reduceCtorEq,D.abool.injEq] at he;obtain⟨rfl,rfl⟩:=he;exact .abool _ _ b h
 |val v ok=>intro d he hl;cases d<;>simp only[AT,reduceCtorEq,D.val.injEq] at he;subst he;exact .val v ok
 |cond g d v _ h' ih=>
  intro d he hl;cases d<;>simp only[AT,reduceCtorEq,D.cond.injEq] at he
  obtain⟨rfl,he⟩:=he
  exact .cond _ _ v (fun hg=>ih hg he (by simpa[ltD] using hl)) h'
 |agg cs us hl _ ih=>
  intro d he hlt;cases d<;>simp only[AT,reduceCtorEq,D.agg.injEq] at he
  subst he
  rw[Av] at hl ih
  exact .agg _ us hl fun i hi=>ih i hi (BK hi) (E0 (by simpa[ltD] using hlt) i)
 |tup cs us hl _ ih=>
  intro d he hlt;cases d<;>simp only[AT,reduceCtorEq,D.tup.injEq] at he
  subst he
  rw[Av] at hl ih
  exact .tup _ us hl fun i hi=>ih i hi (BK hi) (E0 (by simpa[ltD] using hlt) i)
 |slice es tight A k o sz cap u hA hc ht hm hlen hcell _ ih=>
  intro d he hlt;cases d<;>simp only[AT,reduceCtorEq,D.slice.injEq] at he
  obtain⟨rfl,rfl⟩:=he
  rw[AF] at hA hc ht hlen hcell ih
  rename_i es t
  have:=Rep.slice (w:=w) (I:=I) (mu:=mu') es tight A k o sz cap u hA hc ht hm (fun i hi=>by have:=hlen i hi;rw[Ca hi,Av] at this;exact this) hcell (fun i j hi hj=>ih i j hi hj (by
    have h1:=hlen i hi
    rw[Ca hi,Av] at h1
    rw[Ca hi,BK (by omega)]) (E0 (KO (by simpa[ltD] using hlt) i) j))
  rw[AF]
  exact this
 |ptr cs off k o u hk hcell _ ih=>
  intro d he hlt;cases d<;>simp only[AT,reduceCtorEq,D.ptr.injEq] at he
  obtain⟨rfl,rfl⟩:=he
  rw[Av] at hk hcell ih
  exact .ptr _ _ k o u hk hcell fun j hj=>ih j hj (BK hj) (E0 (by simpa[ltD] using hlt) j)
 |ref b i off sz k h=>
  intro d he hlt;cases d<;>simp only[AT,reduceCtorEq,D.ref.injEq] at he
  obtain⟨rfl,rfl,rfl,rfl⟩:=he
  exact .ref _ _ _ _ k (hmu _ _ (by simpa[ltD] using hlt) h)
 |sref b i len cap sz k h=>
  intro d he hlt;cases d<;>simp only[AT,reduceCtorEq,D.sref.injEq] at he
  obtain⟨rfl,rfl,rfl,rfl,rfl⟩:=he
  exact .sref _ _ _ _ _ k (hmu _ _ (by simpa[ltD] using hlt) h)
 |gref b len A cap h=>
  intro d he hlt;cases d<;>simp only[AT,reduceCtorEq,D.gref.injEq] at he
  obtain⟨rfl,rfl⟩:=he
  exact .gref _ _ A cap (hmu _ _ (by simpa[ltD] using hlt) h)
 |mref b k h=>
  intro d he hlt;cases d<;>simp only[AT,reduceCtorEq,D.mref.injEq] at he
  subst he
  exact .mref _ k (hmu _ _ (by simpa[ltD] using hlt) h)
 |yld b k h=>
  intro d he hlt;cases d<;>simp only[AT,reduceCtorEq,D.yld.injEq] at he
  subst he
  exact .yld _ k (hmu _ _ (by simpa[ltD] using hlt) h)
 |gel b i off sz k len cap h=>
  intro d he hlt;cases d<;>simp only[AT,reduceCtorEq,D.gel.injEq] at he
  obtain⟨rfl,rfl,rfl,rfl⟩:=he
  exact .gel _ _ _ _ k len cap (hmu _ _ (by simpa[ltD] using hlt) h)
 |gsub b i len sz A B m cap h hle hB=>
  intro d he hlt;cases d<;>simp only[AT,reduceCtorEq,D.gsub.injEq] at he
  obtain⟨rfl,rfl,rfl,rfl⟩:=he
  exact .gsub _ _ _ _ A B m cap (hmu _ _ (by simpa[ltD] using hlt) h) hle hB
 |func fn fs cs us vs hl hk _ _ ih ih'=>
  intro d he hlt;cases d<;>simp only[AT,reduceCtorEq,D.func.injEq] at he
  obtain⟨rfl,rfl,rfl⟩:=he
  rw[Av] at hl hk ih ih'
  simp only[ltD,A09] at hlt
  exact .func _ _ _ us vs hl hk (fun i hi=>ih i hi (BK hi) (E0 hlt.1 i)) fun i hi=>ih' i hi (BK hi) (E0 hlt.2 i)
 |iface t d v _ ih=>
  intro d he hlt;cases d<;>simp only[AT,reduceCtorEq,D.iface.injEq] at he
  obtain⟨rfl,rfl⟩:=he
  exact .iface _ _ v (ih rfl (by simpa[ltD] using hlt))
def EM(r:Nat->Nat):Blk->Blk
 |.rows es sz=>.rows (D9 r es) sz
 |.grow es sz=>.grow (D9 r es) sz
 |.map es ck=>.map (es.map fun p=>(p.1,p.2.1,AT r p.2.2)) ck
 |.iter m since seen last=>.iter (r m) since seen last
 |.obj o=>.obj o
 |.loop env nt st pd ps a c=>.loop (Fo (AT r) env) nt st pd ps a c
 |.pr g p=>.pr (r g) p
 |.junk=>.junk
def ltB(n:Nat):Blk->Bool
 |.rows es _=>Eg n es
 |.grow es _=>Eg n es
 |.map es _=>es.all fun p=>ltD n p.2.2
 |.iter m _ _ _=>okN n m
 |.loop env _ _ _ _ _ _=>WS (ltD n) env
 |.pr g _=>okN n g
 |_=>true
theorem D6.ren{w:World}{I:Nat->Prop}{mu mu':Nat->Option Value}{r:Nat->Nat}{n b:Nat}(hmu:∀ b x,okN n b=true->mu (r b)=some x->mu' b=some x){x:Blk}(hb:okN n b=true)(h:D6 w I mu (r b) (EM r x))(hl:ltB n x=true):D6 w I mu' b x:=by
 cases x with
 |rows es sz=>
  obtain⟨k,T,us,h1,h2,h3,h4,h5⟩:=h
  rw[AF] at h3 h4 h5
  have h4':∀ i,i<es.length->(nr es i).length=sz:=fun i hi=>by have:=h4 i hi;rw[Ca hi,Av] at this;exact this
  exact⟨k,T,us,hmu b _ hb h1,h2,h3,h4',fun i j hi hj=>(h5 i j hi hj).ren hmu (by rw[Ca hi,BK (by rw[h4' i hi];exact hj)]) (E0 (KO hl i) j)⟩
 |grow es sz=>
  obtain⟨A,cap,T,us,h1,h2,h3,h4⟩:=h
  rw[AF] at h1 h2 h4
  have h2':∀ i,i<es.length->(nr es i).length=sz:=fun i hi=>by have:=h2 i hi;rw[Ca hi,Av] at this;exact this
  refine⟨A,cap,T,us,hmu b _ hb h1,h2',h3,?_⟩
  rcases h4 with⟨h5,h6⟩|⟨k,g0,g1,g2,g3,g4,g5⟩
  ·refine .inl ⟨h5,?_⟩
   rw[DU] at h6
   exact List.map_eq_nil_iff.1 h6
  ·exact .inr ⟨k,g0,g1,g2,g3,g4,fun i j hi hj=>(g5 i j hi hj).ren hmu (by rw[Ca hi,BK (by rw[h2' i hi];exact hj)]) (E0 (KO hl i) j)⟩
 |map es ck=>
  obtain⟨k,l,h1,h2,h3,h4,h5⟩:=h
  refine⟨k,l,hmu b _ hb h1,h2,by rw[h3];simp[Function.comp_def],by rw[h4];simp[Function.comp_def],fun i x y hx hy=>(h5 i x (y.1,y.2.1,AT r y.2.2) hx (by simp[hy])).ren hmu rfl (A0w.1 hl y (A1E hy))⟩
 |iter m since seen last=>
  obtain⟨k,km,h1,h2,h3⟩:=h
  exact⟨k,km,hmu b _ hb h1,hmu m _ hl h2,h3⟩
 |obj o=>
  obtain⟨k,h1,h2⟩:=h
  exact⟨k,hmu b _ hb h1,h2⟩
 |loop env nt st pd ps a c=>
  obtain⟨k,fn,tmps,kd,h1,h2,h3,h4⟩:=h
  exact⟨k,fn,tmps,kd,hmu b _ hb h1,h2,h3,fun t=>(h4 t).ren hmu (H8 (F:=AT r) rfl env t) (S0 (p:=ltD n) rfl hl t)⟩
 |pr g p=>
  obtain⟨v,u,h1,h2,h3,h4,h5⟩:=h
  exact⟨v,u,hmu b _ hb h1,hmu g _ hl h2,h3,h4,h5⟩
 |junk=>trivial
def C3(r:Nat->Nat)(e:Env):Env->Prop
 |[]=>True
 |(t,d)::l=>lo (e.get t) (AT r d)/\C3 r e l
def Kj(n:Nat)(r:Nat->Nat)(h:Hp):Hp->Prop
 |[]=>True
 |(b,x)::l=>(match Ac h (r b) with
  |some y=>loB y (EM r x)
  |none=>junkB x=true/\r b%2=0/\2*n<=r b)/\Kj n r h l
where junkB:Blk->Bool
 |.junk=>true
 |_=>false
def Ho(n:Nat):Env->Bool
 |[]=>true
 |(_,d)::l=>ltD n d&&Ho n l
def MM(n:Nat):Hp->Bool
 |[]=>true
 |(b,x)::l=>okN n b&&ltB n x&&MM n l
def RD(r:Nat->Nat)(h:Hp):Bool:=(h.map (·.1)).all fun b=>(h.map (·.1)).all fun c=>!(r b==r c) ||b==c
theorem Fu{r:Nat->Nat}{e:Env}{n:Nat}:∀ {l:Env},C3 r e l->Ho n l=true->∀ t,(∃ d,l.get t=d/\lo (e.get t) (AT r d)/\ltD n d=true)∨l.get t=.any
 |[],_,_,t=>.inr rfl
 |(k,d)::l,h,ho,t=>by
  simp only[Ho,A09] at ho
  by_cases hk:k=t
  ·subst hk;exact .inl ⟨d,by simp[Env.get],h.1,ho.1⟩
  ·have:(k==t)=false:=by simp[hk]
   simp only[Env.get,this,cond_false]
   exact Fu h.2 ho.2 t
theorem DB{r:Nat->Nat}{e:Hp}{m n:Nat}:∀ {l:Hp},Kj m r e l->MM n l=true->∀ b x,Ac l b=some x->((∃ y,Ac e (r b)=some y/\loB y (EM r x))∨(x=.junk/\frN m (r b)))/\okN n b=true/\ltB n x=true/\b ∈ l.map (·.1)
 |[],_,_,b,x,hx=>by simp[Ac] at hx
 |(k,y)::l,h,ho,b,x,hx=>by
  simp only[MM,A09] at ho
  by_cases hk:k=b
  ·subst hk
   simp only[Ac,beq_self_eq_true,cond_true,A03] at hx
   subst hx
   refine⟨?_,?_⟩
   ·have h1:=h.1
    split at h1
    ·rename_i y' hy;exact .inl ⟨y',hy,h1⟩
    ·exact .inr ⟨by have:=h1.1;cases y<;>simp [Kj.junkB] at this|-,h1.2⟩
   exact⟨ho.1.1,ho.1.2,by simp⟩
  ·have:(k==b)=false:=by simp[hk]
   simp only[Ac,this,cond_false] at hx
   have:=DB h.2 ho.2 b x hx
   exact⟨this.1,this.2.1,this.2.2.1,A0n _ this.2.2.2⟩
theorem Aw.sub{s S:St}(r:Nat->Nat)(hr:∀ b,b%2=1->r b=b)(he:C3 r s.env S.env)(hh:Kj s.nx r s.hp S.hp)(hok:Ho S.nx S.env=true)(hokh:MM S.nx S.hp=true)(hinj:RD r S.hp=true):Aw s S:=by
 intro w0 M0 I0 nt I mu a w rel
 let mu':Nat->Option Value:=fun b=>if okN S.nx b=true then mu (r b) else none
 have hmu:∀ b,okN S.nx b=true->mu' b=mu (r b):=fun b hb=>by simp[mu',hb]
 have hmu':∀ b x,okN S.nx b=true->mu (r b)=some x->mu' b=some x:=fun b x hb h=>by rw[hmu b hb];exact h
 refine⟨I,mu',rel.size,rel.defers,fun t=>?_,⟨fun b x hx=>?_,fun b x v k hx hv hk=>?_,fun b c x y v u k hx hy hv hu hk hk'=>?_,fun b hb=>?_,rel.w.lt,rel.w.os,rel.w.tape,rel.w.output,rel.w.grown,rel.w.old,rel.w.iold,rel.w.inew,fun b x hb hn=>?_,fun b x hx hb=>?_⟩⟩
 ·rcases Fu he hok t with⟨d,h1,h2,h3⟩|h1
  ·have:=rel.env t
   have e1:s.fs.env t=s.env.get t:=rfl
   rw[e1] at this
   show Rep w I mu' (S.env.get t) _
   rw[h1]
   exact(this.lo h2).ren hmu' rfl h3
  ·show Rep w I mu' (S.env.get t) _
   rw[h1];exact .any _
 ·obtain⟨h0,h2,h3,_⟩:=DB hh hokh b x hx
  rcases h0 with⟨y,h1,h1'⟩|⟨rfl,_⟩
  ·exact(D6.lo (rel.w.blk (r b) _ h1) h1').ren hmu' h2 h3
  ·trivial
 ·obtain⟨h0,h2,h3,_⟩:=DB hh hokh b x hx
  rw[hmu b h2] at hv
  rcases h0 with⟨y,h1,_⟩|⟨_,h1⟩
  ·exact rel.w.loc (r b) _ v k h1 hv hk
  ·rw[rel.w.fresh _ h1] at hv;cases hv
 ·obtain⟨h0,h2,h3,m1⟩:=DB hh hokh b x hx
  obtain⟨g0,g2,g3,m2⟩:=DB hh hokh c y hy
  rw[hmu b h2] at hv
  rw[hmu c g2] at hu
  obtain⟨_,h1,_⟩:=h0.resolve_right fun h=>by rw[rel.w.fresh _ h.2] at hv;cases hv
  obtain⟨_,g1,_⟩:=g0.resolve_right fun h=>by rw[rel.w.fresh _ h.2] at hu;cases hu
  have:=rel.w.inj (r b) (r c) _ _ v u k h1 g1 hv hu hk hk'
  have:=A0w.1 (A0w.1 hinj b m1) c m2
  simp_all
 ·have:¬okN S.nx b=true:=by
   have h1:=hb.1
   have h2:=hb.2
   simp[okN];omega
  simp[mu',this]
 ·rw[hmu b (by simp[okN,hb]),hr b hb]
  exact rel.w.keep b x hb hn
 ·obtain⟨_,h2,_⟩:=DB hh hokh b x hx
  have h3:=hb.1
  have h4:=hb.2
  simp[okN] at h2
  omega
def A2(P:Program)(f:FuncId)(ds:List D)(H:Hp)(r:D)(H':Hp):Prop:=
 Bf P f=true/\∀ (w:World) (M0:Nat->Prop) (G:Gh) (I:Nat->Prop) (mu:Nat->Option Value) (vs:List Value),GA P w M0 G->G.dl=[]->Ao w M0 G (frN 4) I mu (Ac H) w->B8 w I mu ds vs->
  Calls P f vs.toArray w fun e w'=>∃ v I' mu',e=.returned v/\Rep w' I' mu' r v/\Ao w M0 G (frN 4) I' mu' (Ac H') w'
def MG(P:Program)(rs:List ResultVar)(r:D)(H':Hp):AE->St->Prop
 |.ret,s|.normal,s=>∃ d,HK P s rs=some d/\Aw ⟨[(0,d)],s.hp,s.nx⟩ ⟨[(0,r)],H',4⟩
 |_,_=>False
theorem F1{w:World}{I:Nat->Prop}{mu:Nat->Option Value}{ds:List D}{vs:List Value}(h:B8 w I mu ds vs)(n t:Nat):Rep w I mu ((Bh 0 ds).get t) ((vs.toArray++Array.replicate n undef).getD t undef):=by
 have hget:=EJ ds 0 t
 simp only[A0J,true_and,A1a,Nat.sub_zero] at hget
 rw[hget]
 by_cases ht:t<ds.length
 ·rw[if_pos ht]
  have e:(vs.toArray++Array.replicate n undef).getD t undef=nv vs t:=by
   have:=h.1
   simp only[nv,A02,A1g]
   rw[Array.getElem?_append_left (by simp;omega)]
   simp
  rw[e];exact h.2 t ht
 ·rw[if_neg ht];exact .any _
theorem A2.of_awp{P:Program}{nt:Nat}{f:FuncId}{fn:Func}{c:Code}{ds:List D}{H:Hp}{r:D}{H':Hp}(hf:P.funcs[f]? =some fn)(hb:fn.body=some c)(hn:fn.ntmps=nt)(hent:Bf P f=true)(hlen:ds.length<=nt){rs:List ResultVar}(hrs:fn.results.toList=rs)
  (h:AWp P nt c (MG P rs r H') ⟨Bh 0 ds,H,4⟩):A2 P f ds H r H':=by
 subst hrs
 refine⟨hent,fun w M0 G0 I mu vs hga hdl hw hrep=>?_⟩
 let G:Gh:=⟨G0.st,G0.nm,[],Fence.wide,0,.inl rfl⟩
 have hG:∀ k,G k->k<w.heap.size:=fun k hk=>hw.lt k (hw.iold k hk)
 refine callsIn_wide.1 (callsIn_of_wp_marks (n:=0) hf hb trivial (wpIn_mono (h w M0 G hga I mu _ w ⟨?_,BF.refl _ _ _ _,fun t=>F1 hrep _ t,⟨hw.blk,hw.loc,hw.inj,hw.fresh,hw.lt,hw.os,hw.tape,hw.output,hw.grown,hw.old,hw.iold,hw.inew,hw.keep,hw.used⟩⟩) ?_))
 ·have:=hrep.1;simp[hn];omega
 ·rintro e a' w' ⟨x,s',I',mu',hq,he,r'⟩
  have fin:∀ d,HK P s' fn.results.toList=some d->Aw ⟨[(0,d)],s'.hp,s'.nx⟩ ⟨[(0,r)],H',4⟩->LeavesInM Fence.wide 0 P fn a'.tmps (fun e w'=>∃ v I' mu',e=.returned v/\Rep w' I' mu' r v/\Ao w M0 G0 (frN 4) I' mu' (Ac H') w') a'.defers .returning w':=by
   intro d hd hwk
   refine r'.leave hG rfl hd fun v w2 I2 _ W2 h2=>?_
   obtain⟨I3,mu3,R3⟩:=hwk w M0 G 1 I2 mu' {tmps:=#[v],defers:=[]} w2 ⟨rfl,BF.refl _ _ _ _,fun t=>by
    cases t with
    |zero=>simpa [St.fs,Env.get] using h2
    |succ t=>simp [St.fs,Env.get];exact .any _,W2⟩
   have r0:=R3.env 0
   exact⟨v,I3,mu3,rfl,by simpa[St.fs,Env.get] using r0,⟨R3.w.blk,R3.w.loc,R3.w.inj,R3.w.fresh,R3.w.lt,R3.w.os,R3.w.tape,R3.w.output,R3.w.grown,R3.w.old,R3.w.iold,R3.w.inew,R3.w.keep,R3.w.used⟩⟩
  cases x<;>cases e<;>simp only[Fr] at he<;>simp only[MG] at hq
  case normal.normal=>
   obtain⟨d,hd,hfr⟩:=hq
   exact fin d hd hfr
  case ret.ret=>
   obtain⟨d,hd,hfr⟩:=hq
   exact fin d hd hfr
theorem A0.lo{P:Program}{f:FuncId}{ds ds':List D}{r:D}(h:A0 P f ds r)(hl:loL ds' ds):A0 P f ds' r:=by
 unfold A0 at h|-
 obtain⟨l1,l2⟩:=BJ hl
 exact⟨h.1,fun w I vs hga hI hl hr=>h.2 w I vs hga hI (by omega) fun i hi=>(hr i (by omega)).lo (l2 i (by omega))⟩
theorem Rep.into{w:World}{I:Nat->Prop}{mu mu':Nat->Option Value}{r:Nat->Nat}(hmu:∀ b x,x≠undef->mu b=some x->mu' (r b)=some x){d:D}{v:Value}(h:Rep w I mu d v):Rep w I mu' (AT r d) v:=by
 induction h with
 |any v=>exact .any v
 |abool n pos b h=>exact .abool _ _ b h
 |val v ok=>exact .val v ok
 |cond g d v _ h' ih=>exact .cond _ _ v ih h'
 |agg cs us hl _ ih=>
  simp only[AT]
  refine .agg _ us (by rw[Av];exact hl) fun i hi=>?_
  rw[Av] at hi
  rw[BK hi];exact ih i hi
 |tup cs us hl _ ih=>
  simp only[AT]
  refine .tup _ us (by rw[Av];exact hl) fun i hi=>?_
  rw[Av] at hi
  rw[BK hi];exact ih i hi
 |slice es tight A k o sz cap u hA hc ht hm hlen hcell _ ih=>
  simp only[AT]
  have:=Rep.slice (w:=w) (I:=I) (mu:=mu') (D9 r es) tight A k o sz cap u (by rw[AF];exact hA) (by rw[AF];exact hc) (by rw[AF];exact ht) hm
   (fun i hi=>by rw[AF] at hi;rw[Ca hi,Av];exact hlen i hi) (by rw[AF];exact hcell) (fun i j hi hj=>by
    rw[AF] at hi
    rw[Ca hi,BK (by rw[hlen i hi];exact hj)];exact ih i j hi hj)
  rw[AF] at this
  exact this
 |ptr cs off k o u hk hcell _ ih=>
  simp only[AT]
  refine .ptr _ _ k o u (by rw[Av];exact hk) (by rw[Av];exact hcell) fun j hj=>?_
  rw[Av] at hj
  rw[BK hj];exact ih j hj
 |ref b i off sz k h=>exact .ref _ _ _ _ k (hmu _ _ (by simp[undef]) h)
 |sref b i len cap sz k h=>exact .sref _ _ _ _ _ k (hmu _ _ (by simp[undef]) h)
 |gref b len A cap h=>exact .gref _ _ A cap (hmu _ _ (by simp[undef]) h)
 |mref b k h=>exact .mref _ k (hmu _ _ (by simp[undef]) h)
 |yld b k h=>exact .yld _ k (hmu _ _ (by simp[undef]) h)
 |gel b i off sz k len cap h=>exact .gel _ _ _ _ k len cap (hmu _ _ (by simp[undef]) h)
 |gsub b i len sz A B n cap h hle hB=>exact .gsub _ _ _ _ A B n cap (hmu _ _ (by simp[undef]) h) hle hB
 |func fn fs cs us vs hl hk _ _ ih ih'=>
  simp only[AT]
  refine .func _ _ _ us vs (by rw[Av];exact hl) (by rw[Av];exact hk) (fun i hi=>?_) fun i hi=>?_
  ·rw[Av] at hi;rw[BK hi];exact ih i hi
  ·rw[Av] at hi;rw[BK hi];exact ih' i hi
 |iface t d v _ ih=>exact .iface t _ v ih
theorem D6.into{w:World}{I:Nat->Prop}{mu mu':Nat->Option Value}{r:Nat->Nat}(hmu:∀ b x,x≠undef->mu b=some x->mu' (r b)=some x){b:Nat}{x:Blk}(h:D6 w I mu b x):D6 w I mu' (r b) (EM r x):=by
 cases x with
 |rows es sz=>
  obtain⟨k,T,us,h1,h2,h3,h4,h5⟩:=h
  refine⟨k,T,us,hmu _ _ (by simp[undef]) h1,h2,by rw[AF];exact h3,fun i hi=>?_,fun i j hi hj=>?_⟩
  ·rw[AF] at hi;rw[Ca hi,Av];exact h4 i hi
  ·rw[AF] at hi;rw[Ca hi,BK (by rw[h4 i hi];exact hj)];exact(h5 i j hi hj).into hmu
 |grow es sz=>
  obtain⟨A,cap,T,us,h1,h2,h3,h4⟩:=h
  refine⟨A,cap,T,us,by rw[AF];exact hmu _ _ (by simp[undef]) h1,fun i hi=>?_,h3,?_⟩
  ·rw[AF] at hi;rw[Ca hi,Av];exact h2 i hi
  ·rcases h4 with⟨h5,rfl⟩|⟨k,g0,g1,g2,g3,g4,g5⟩
   ·exact .inl ⟨h5,rfl⟩
   ·refine .inr ⟨k,g0,g1,g2,by rw[AF];exact g3,g4,fun i j hi hj=>?_⟩
    rw[AF] at hi;rw[Ca hi,BK (by rw[h2 i hi];exact hj)];exact(g5 i j hi hj).into hmu
 |map es ck=>
  obtain⟨k,l,h1,h2,h3,h4,h5⟩:=h
  refine⟨k,l,hmu _ _ (by simp[undef]) h1,h2,by rw[h3];simp[Function.comp_def],by rw[h4];simp[Function.comp_def],fun i x y hx hy=>?_⟩
  simp only[A0u,A1z] at hy
  obtain⟨z,hz,rfl⟩:=hy
  exact(h5 i x z hx hz).into hmu
 |iter m since seen last=>
  obtain⟨k,km,h1,h2,h3⟩:=h
  exact⟨k,km,hmu _ _ (by simp[undef]) h1,hmu _ _ (by simp[undef]) h2,h3⟩
 |obj o=>
  obtain⟨k,h1,h2⟩:=h
  exact⟨k,hmu _ _ (by simp[undef]) h1,h2⟩
 |loop env nt st pd ps a c=>
  obtain⟨k,fn,tmps,kd,h1,h2,h3,h4⟩:=h
  exact⟨k,fn,tmps,kd,hmu _ _ (by simp[undef]) h1,h2,h3,fun t=>by rw[H8 (F:=AT r) rfl];exact(h4 t).into hmu⟩
 |pr g p=>
  obtain⟨v,u,h1,h2,h3,h4,h5⟩:=h
  exact⟨v,u,hmu _ _ h3 h1,hmu _ _ h4 h2,h3,h4,h5⟩
 |junk=>trivial
def B3(r:Nat->Nat)(hp:Nat->Option Blk):Hp->Prop
 |[]=>True
 |(b,x)::l=>(match hp (r b) with
  |some y=>loB y (EM r x)
  |none=>False)/\B3 r hp l
theorem Ki{r:Nat->Nat}{hp:Nat->Option Blk}:∀ {l:Hp},B3 r hp l->∀ b x,Ac l b=some x->∃ y,hp (r b)=some y/\loB y (EM r x)
 |[],_,b,x,hx=>by simp[Ac] at hx
 |(k,y)::l,h,b,x,hx=>by
  by_cases hk:k=b
  ·subst hk
   simp only[Ac,beq_self_eq_true,cond_true,A03] at hx
   subst hx
   have h1:=h.1
   split at h1
   ·rename_i y hy;exact⟨y,hy,h1⟩
   ·exact h1.elim
  ·have:(k==b)=false:=by simp[hk]
   simp only[Ac,this,cond_false] at hx
   exact Ki h.2 b x hx
theorem ED:∀ {l:Hp} {b:Nat} {x:Blk},Ac l b=some x->b ∈ l.map (·.1)
 |[],b,x,h=>by simp[Ac] at h
 |(k,y)::l,b,x,h=>by
  by_cases hk:k=b
  ·simp[hk]
  ·have:(k==b)=false:=by simp[hk]
   simp only[Ac,this,cond_false] at h
   exact A0n _ (ED h)
def LC:List Nat->Bool
 |[]=>true
 |x::r=>(r.all fun y=>!(y==x))&&LC r
def Ct(id:Nat)(r:Nat->Nat)(b:Nat):Nat:=bif b%2==1 then r b else id+b
def DE(id:Nat)(r:Nat->Nat)(H H':Hp):List (Nat×Option Blk):=H.map (fun p=>(r p.1,none))++H'.map fun p=>(Ct id r p.1,some (EM (Ct id r) p.2))
def C9(id:Nat)(r:Nat->Nat)(H:Hp)(d:D)(H':Hp):Eff:=⟨AT (Ct id r) d,DE id r H H',H.map fun p=>r p.1⟩
def CP(id:Nat)(r:Nat->Nat)(H H':Hp):Bool:=MM 4 H&&RD r H&&LC (H'.map (·.1))&&(H'.all fun p=>okN 4 p.1&&(p.1%2==0 ||H.any fun q=>q.1==p.1))&&H.all fun p=>!(decide (id<=r p.1)&&decide (r p.1<id+8)&&(r p.1-id)%2==0)
theorem MU{b:Nat}(r:Nat->Nat):∀ (l:Hp) (x:Option Blk),AO b x (l.map fun p=>(r p.1,none))=if (l.any fun p=>r p.1==b) then none else x
 |[],x=>rfl
 |p::l,x=>by
  have:=MU (b:=b) r l (if r p.1=b then none else x)
  simp only[AO,A0j,A0t] at this|-
  rw[this]
  by_cases h:r p.1=b
  ·simp[h]
  ·have:(r p.1==b)=false:=by simp[h]
   rw[if_neg h,List.any_cons,this,Bool.false_or]
theorem L6{σ:Nat->Nat}{F:Blk->Blk}:∀ (l:Hp) (x0:Option Blk),(∀ p ∈ l,∀ q ∈ l,σ p.1=σ q.1->p.1=q.1)->LC (l.map (·.1))=true->∀ c y,Ac l c=some y->AO (σ c) x0 (l.map fun p=>(σ p.1,some (F p.2)))=some (F y)
 |[],_,_,_,c,y,h=>by cases h
 |(k,z)::l,x0,hinj,hn,c,y,h=>by
  simp only[LC,A0j,A09] at hn
  have hinj':∀ p ∈ l,∀ q ∈ l,σ p.1=σ q.1->p.1=q.1:=fun p hp q hq=>hinj p (A0n _ hp) q (A0n _ hq)
  by_cases hk:k=c
  ·subst hk
   simp only[Ac,beq_self_eq_true,cond_true,A03] at h
   subst h
   have hs:=Em (b:=σ k) (up:=l.map fun p=>(σ p.1,some (F p.2))) (fun p hp hb=>by
    obtain⟨q,hq,rfl⟩:=A0i.1 hp
    have:=hinj q (A0n _ hq) (k,z) A0z hb
    have h2:=A0w.1 hn.1 q.1 (A0i.2 ⟨q,hq,rfl⟩)
    simp at this
    simp[this] at h2) (some (F z))
   simp only[AO,A0j,A0t,if_true] at hs|-
   exact hs
  ·have:(k==c)=false:=by simp[hk]
   simp only[Ac,this,cond_false] at h
   exact L6 l _ hinj' hn.2 c y h
def SG(P:Program)(o:Oper)(id:Nat)(ev:Operand->D)(hp:Nat->Option Blk)(rd:List Nat)(F:Eff->Prop):Prop:=
 ∀ w0 M0 I0 fr I mu h (a:Act) w,GA P w0 M0 I0->Ao w0 M0 I0 fr I mu h w->(∀ j,j<4->fr (id+2*j))->(∀ x ∈ o.op.operands,Rep w I mu (ev x) (a.eval x))->(∀ b ∈ rd,h b=hp b)->
  ∀ K Q,(∀ e,F e->∀ v w' I' mu',Ext I mu w I' mu' w'->Ao w0 M0 I0 (fun b=>fr b/\∀ j,j<4->b≠id+2*j) I' mu' (fun b=>AO b (h b) e.up) w'->Rep w' I' mu' e.d v->K (a.put o.dst v) w')->o.wpIn I0.F I0.n P a w K Q
def Up(P:Program)(f:FuncId)(ds:List D)(H:Hp)(X:D->Hp->Prop):Prop:=
 Bf P f=true/\∀ (w:World) (M0:Nat->Prop) (G:Gh) (I:Nat->Prop) (mu:Nat->Option Value) (vs:List Value),GA P w M0 G->G.dl=[]->Ao w M0 G (frN 4) I mu (Ac H) w->B8 w I mu ds vs->
  Calls P f vs.toArray w fun e w'=>∃ r H' v I' mu',X r H'/\e=.returned v/\Rep w' I' mu' r v/\Ao w M0 G (frN 4) I' mu' (Ac H') w'
theorem A2.x{P:Program}{f:FuncId}{ds:List D}{H:Hp}{r:D}{H':Hp}(h:A2 P f ds H r H'):Up P f ds H (fun d h=>d=r/\h=H'):=
 ⟨h.1,fun w M0 G I mu vs hga hdl hw hr=>(h.2 w M0 G I mu vs hga hdl hw hr).mono fun e w' ⟨v,I',mu',he,hv,R⟩=>⟨r,H',v,I',mu',⟨rfl,rfl⟩,he,hv,R⟩⟩
theorem WK{P:Program}{id:Nat}{h hp:Nat->Option Blk}{ds:List D}{H:Hp}(r:Nat->Nat){w0:World}{M0:Nat->Prop}{I0:Gh}{fr I:Nat->Prop}{mu:Nat->Option Value}{w:World}{vs:List Value}
  (hga:GA P w0 M0 I0) (hw:Ao w0 M0 I0 fr I mu h w) (hid:∀ j,j<4->fr (id+2*j)) (hb:∀ b ∈ H.map fun p=>r p.1,h b=hp b) (hargs:B8 w I mu (BX r ds) vs)
  (hl:ltL 4 ds=true) (hh:B3 r hp H) (hok0:CP id r H []=true):∃ (M:Nat->Prop) (G:Gh) (muc:Nat->Option Value),
   (GA P w M G/\G.dl=[]/\Ao w M G (frN 4) I muc (Ac H) w/\B8 w I muc ds vs/\(∀ b x,okN 4 b=true->mu (r b)=some x->muc b=some x)/\(∀ k,I k->G k)/\(∀ k,M k->¬I k)/\(∀ b x,b%2=1->muc b=some x->G.nm b=some x))/\
   ∀(d:D) (H':Hp) (v:Value) (w':World) (I':Nat->Prop) (mu':Nat->Option Value),CP id r H H'=true->Rep w' I' mu' d v->Ao w M G (frN 4) I' mu' (Ac H') w'->∃ mu2,Ext I mu w I' mu2 w'/\
    Ao w0 M0 I0 (fun b=>fr b/\∀ j,j<4->b≠id+2*j) I' mu2 (fun b=>AO b (h b) (C9 id r H d H').up) w'/\Rep w' I' mu2 (C9 id r H d H').d v/\
    ∀ b x,Ac H' b=some x->AO (Ct id r b) (h (Ct id r b)) (C9 id r H d H').up=some (EM (Ct id r) x):=by
 simp only[CP,A09] at hok0
 obtain⟨⟨⟨⟨hok1,hok2⟩,_⟩,_⟩,hok5⟩:=hok0
 have hfree:∀ j,j<4->mu (id+2*j)=none:=fun j hj=>hw.fresh _ (hid j hj)
 have hrd:∀ b x,Ac H b=some x->h (r b)=hp (r b):=fun b x hx=>hb _ (by
  obtain⟨p,hp',rfl⟩:=A0i.1 (ED hx)
  exact A0i.2 ⟨p,hp',rfl⟩)
 have hlk:∀ b x,Ac H b=some x->∃ y,h (r b)=some y/\loB y (EM r x):=fun b x hx=>by
  obtain⟨y,h1,h2⟩:=Ki hh b x hx
  exact⟨y,(hrd b x hx).trans h1,h2⟩
 let muc:Nat->Option Value:=fun b=>if b%2=1 then some ((mu (r b)).getD undef) else if b<8 then mu (r b) else none
 have hmuc:∀ b x,okN 4 b=true->mu (r b)=some x->muc b=some x:=by
  intro b x hb hx
  simp only[muc]
  by_cases hb1:b%2=1
  ·rw[if_pos hb1,hx];rfl
  ·have:b<8:=by simp[okN,hb1] at hb;omega
   rw[if_neg hb1,if_pos this,hx]
 have hmuc':∀ b v,muc b=some v->v≠undef->mu (r b)=some v:=by
  intro b v hv hu
  simp only[muc] at hv
  split at hv
  ·cases hm:mu (r b) with
   |none=>rw [hm] at hv;simp at hv;exact absurd hv.symm hu
   |some y=>rw [hm] at hv;simpa using hv
  ·split at hv
   ·exact hv
   ·cases hv
 have hloc:∀ b v k,muc b=some v->Ae v=some k->mu (r b)=some v:=fun b v k hv hk=>hmuc' b v hv (by rintro rfl;cases hk)
 have hokn:∀ b x,Ac H b=some x->okN 4 b=true/\ltB 4 x=true:=fun b x hx=>by
  have key:∀ {l:Hp},MM 4 l=true->Ac l b=some x->okN 4 b=true/\ltB 4 x=true:=by
   intro l
   induction l with
   |nil=>intro _ h;cases h
   |cons p l ih=>
    intro ho hx
    simp only[MM,A09] at ho
    by_cases hk:p.1=b
    ·have hk':(p.1==b)=true:=by simp[hk]
     simp only[Ac,hk',cond_true,A03] at hx
     subst hx
     exact⟨hk▸ho.1.1,ho.1.2⟩
    ·have hk':(p.1==b)=false:=by simp[hk]
     simp only[Ac,hk',cond_false] at hx
     exact ih ho.2 hx
  exact key hok1 hx
 let M:Nat->Prop:=fun k=>∃ b x v,Ac H b=some x/\muc b=some v/\Ae v=some k
 let G:Gh:=⟨I,fun b=>if b%2=1 then muc b else none,[],Fence.wide,0,.inl rfl⟩
 have hMloc:∀ k,M k->∃ b x v,Ac H b=some x/\(∃ y,h (r b)=some y)/\mu (r b)=some v/\Ae v=some k:=by
  rintro k ⟨b,x,v,h1,h2,h3⟩
  obtain⟨y,hy,_⟩:=hlk b x h1
  exact⟨b,x,v,h1,⟨y,hy⟩,hloc b v k h2 h3,h3⟩
 have hMc:∀ k,M k->(M0 k∨w0.heap.size<=k)/\¬I k/\k<w.heap.size:=fun k hk=>by
  obtain⟨b,x,v,_,⟨y,hy⟩,h2,h3⟩:=hMloc k hk
  exact hw.loc _ y v k hy h2 h3
 have hW:Ao w M G (frN 4) I muc (Ac H) w:=by
  refine⟨fun b x hx=>?_,fun b x v k hx hv hk=>?_,fun b c x y v u k hx hy hv hu hk hk'=>?_,fun b hb=>?_,hw.lt,rfl,rfl,rfl,A08 _,fun _ _ _=>rfl,fun _ h=>h,fun _ h=>.inl h,fun b x hb hn=>?_,fun b x hx hb=>?_⟩
  ·obtain⟨y,h1,h2⟩:=hlk b x hx
   obtain⟨g1,g2⟩:=hokn b x hx
   exact(D6.lo (hw.blk (r b) y h1) h2).ren hmuc g1 g2
  ·have hm:M k:=⟨b,x,v,hx,hv,hk⟩
   exact⟨.inl hm,(hMc k hm).2⟩
  ·obtain⟨y1,g1,_⟩:=hlk b x hx
   obtain⟨y2,g2,_⟩:=hlk c y hy
   have h1:=hloc b v k hv hk
   have h2:=hloc c u k hu hk'
   have:=hw.inj (r b) (r c) _ _ v u k g1 g2 h1 h2 hk hk'
   have h3:=A0w.1 (A0w.1 hok2 b (ED hx)) c (ED hy)
   simp_all
  ·obtain⟨h1,h2⟩:=hb
   simp only[muc]
   rw[if_neg (by omega),if_neg (by omega)]
  ·have hn':(if b%2=1 then muc b else none)=some x:=hn
   rw[if_pos hb] at hn';exact hn'
  ·have h1:=(hokn b x hx).1
   have h3:=hb.1
   have h4:=hb.2
   simp[okN] at h1
   omega
 have hga':GA P w M G:=fun g l hgl=>by
  obtain⟨h1,T,fz,h2⟩:=hga.at hw g l hgl
  exact⟨h1,hw.lt g h1,fun hm=>(hMc g hm).2.1 h1,T,fz,h2⟩
 have hargs':B8 w I muc ds vs:=by
  refine⟨by rw[hargs.1,Av],fun i hi=>?_⟩
  have:=hargs.2 i (by rw[Av];exact hi)
  rw[BK hi] at this
  exact this.ren hmuc rfl (E0 hl i)
 refine⟨M,G,muc,⟨hga',rfl,hW,hargs',hmuc,fun _ h=>h,fun k hk=>(hMc k hk).2.1,fun b x hb hx=>(by show(if b%2=1 then muc b else none)=_;rw[if_pos hb];exact hx)⟩,fun d H' v w' I' mu' hok hv R=>?_⟩
 simp only[CP,A09] at hok
 obtain⟨⟨⟨_,hok3⟩,hok4⟩,_⟩:=hok
 let mu2:Nat->Option Value:=fun b=>if id<=b/\b<id+8/\(b-id)%2=0 then mu' (b-id) else mu b
 have hmu2:∀ b x,mu b=some x->mu2 b=some x:=by
  intro b x hx
  simp only[mu2]
  rw[if_neg]
  ·exact hx
  ·rintro⟨h1,h2,h3⟩
   have:=hfree ((b-id)/2) (by omega)
   have e:id+2*((b-id)/2)=b:=by omega
   rw[e,hx] at this
   cases this
 have hout:∀ b x,x≠undef->mu' b=some x->mu2 (Ct id r b)=some x:=by
  intro b x hu hx
  by_cases hb1:b%2=1
  ·have hb1':(b%2==1)=true:=by simp[hb1]
   simp only[Ct,hb1',cond_true]
   refine hmu2 _ _ (hmuc' b x ?_ hu)
   have hk:=R.keep b ((mu (r b)).getD undef) hb1 (by show(if b%2=1 then muc b else none)=_;simp only[muc,if_pos hb1])
   rw[hx] at hk
   simp only[muc,if_pos hb1]
   exact hk.symm▸rfl
  ·have hb1':(b%2==1)=false:=by simp[hb1]
   simp only[Ct,hb1',cond_false,mu2]
   have:b<8:=by
    apply Nat.lt_of_not_le
    intro hge
    have:=R.fresh b ⟨by omega,by omega⟩
    rw[hx] at this
    cases this
   rw[if_pos ⟨by omega,by omega,by omega⟩,A1v]
   exact hx
 have hback:∀ b v,mu2 (Ct id r b)=some v->∀ x,Ac H' b=some x->∀ k,Ae v=some k->mu' b=some v:=by
  intro b v hv x hx k hk
  have hmem:=A0w.1 hok4
  obtain⟨p,hp',rfl⟩:=A0i.1 (ED hx)
  have h4:=hmem p hp'
  simp only[A09,Bool.or_eq_true,beq_iff_eq,List.any_eq_true] at h4
  by_cases hb1:p.1%2=1
  ·have hb1':(p.1%2==1)=true:=by simp[hb1]
   simp only[Ct,hb1',cond_true] at hv
   obtain⟨q,hq,hqe⟩:=h4.2.resolve_left (by omega)
   have hmu1:mu (r p.1)=some v:=by
    simp only[mu2] at hv
    split at hv
    ·rename_i hr
     exfalso
     have h5:=A0w.1 hok5 q hq
     rw[hqe] at h5
     simp at h5
     omega
    ·exact hv
   refine R.keep p.1 v hb1 ?_
   show(if p.1%2=1 then muc p.1 else none)=_
   simp only[if_pos hb1,muc,hmu1,A0L]
  ·have hb1':(p.1%2==1)=false:=by simp[hb1]
   simp only[Ct,hb1',cond_false,mu2] at hv
   have:p.1<8:=by have:=h4.1;simp[okN,hb1] at this;omega
   rw[if_pos ⟨by omega,by omega,by omega⟩,A1v] at hv
   exact hv
 have hinj:∀ p ∈ H',∀ q ∈ H',Ct id r p.1=Ct id r q.1->p.1=q.1:=by
  intro p hp' q hq he
  have h4:=A0w.1 hok4
  have hp4:=h4 p hp'
  have hq4:=h4 q hq
  simp only[A09,Bool.or_eq_true,beq_iff_eq,List.any_eq_true] at hp4 hq4
  have h5:=A0w.1 hok5
  have odd:∀ p:Nat×Blk,p.1%2=1->(p.1%2=0∨∃ x,x ∈ H/\x.1=p.1)->∃ x,x ∈ H/\x.1=p.1:=fun p hp h=>h.resolve_left (by omega)
  have mix:∀ p q:Nat×Blk,p.1%2=1->(p.1%2=0∨∃ x,x ∈ H/\x.1=p.1)->¬q.1%2=1->okN 4 q.1=true->r p.1=id+q.1->False:=by
   intro p q h1 h2 h3 h4 h6
   obtain⟨x,hx,hxe⟩:=odd p h1 h2
   have h7:=h5 x hx
   rw[hxe,h6] at h7
   have:q.1<8:=by simp[okN,h3] at h4;omega
   simp at h7
   omega
  by_cases h1:p.1%2=1<;>by_cases h2:q.1%2=1
  ·have h1':(p.1%2==1)=true:=by simp[h1]
   have h2':(q.1%2==1)=true:=by simp[h2]
   simp only[Ct,h1',h2',cond_true] at he
   obtain⟨x,hx,hxe⟩:=odd p h1 hp4.2
   obtain⟨y,hy,hye⟩:=odd q h2 hq4.2
   have h3:=A0w.1 (A0w.1 hok2 x.1 (A0i.2 ⟨x,hx,rfl⟩)) y.1 (A0i.2 ⟨y,hy,rfl⟩)
   rw[hxe,hye] at h3
   simp_all
  ·have h1':(p.1%2==1)=true:=by simp[h1]
   have h2':(q.1%2==1)=false:=by simp[h2]
   simp only[Ct,h1',h2',cond_true,cond_false] at he
   exact(mix p q h1 hp4.2 h2 hq4.1 he).elim
  ·have h1':(p.1%2==1)=false:=by simp[h1]
   have h2':(q.1%2==1)=true:=by simp[h2]
   simp only[Ct,h1',h2',cond_true,cond_false] at he
   exact(mix q p h2 hq4.2 h1 hp4.1 he.symm).elim
  ·have h1':(p.1%2==1)=false:=by simp[h1]
   have h2':(q.1%2==1)=false:=by simp[h2]
   simp only[Ct,h1',h2',cond_false] at he
   omega
 have hat:∀ b y,AO b (h b) (DE id r H H')=some y->(∃ c x,Ac H' c=some x/\Ct id r c=b/\y=EM (Ct id r) x)∨((∀ c x,Ac H c=some x->r c≠b)/\h b=some y):=by
  intro b y hy
  have hsplit:AO b (h b) (DE id r H H')=AO b (AO b (h b) (H.map fun p=>(r p.1,none))) (H'.map fun p=>(Ct id r p.1,some (EM (Ct id r) p.2))):=by
   simp only[DE,AO,A1F]
  rw[hsplit,MU] at hy
  by_cases hex:∃ p ∈ H',Ct id r p.1=b
  ·obtain⟨p,hp',rfl⟩:=hex
   have:∃ x,Ac H' p.1=some x:=by
    have:∀ {l:Hp},p ∈ l->∃ y,Ac l p.1=some y:=by
     intro l
     induction l with
     |nil=>intro h;cases h
     |cons z l ih=>
      intro hm
      by_cases hz:z.1=p.1
      ·exact⟨z.2,by simp[Ac,hz]⟩
      ·have:(z.1==p.1)=false:=by simp[hz]
       simp only[Ac,this,cond_false]
       rcases A0q.1 hm with rfl|hm
       ·exact absurd rfl hz
       ·exact ih hm
    exact this hp'
   obtain⟨x,hx⟩:=this
   rw[L6 H' _ hinj hok3 p.1 x hx] at hy
   exact .inl ⟨p.1,x,hx,rfl,(Option.some.inj hy).symm⟩
  ·rw[Em (fun p hp' hpb=>hex (by
    obtain⟨q,hq,rfl⟩:=A0i.1 hp'
    exact⟨q,hq,hpb⟩))] at hy
   split at hy
   ·cases hy
   ·rename_i hn
    refine .inr ⟨fun c x hx hc=>hn ?_,hy⟩
    obtain⟨p,hp',rfl⟩:=A0i.1 (ED hx)
    exact List.any_eq_true.2 ⟨p,hp',by simp[hc]⟩
 have hMne:∀ b y v k,h b=some y->(∀ c x,Ac H c=some x->r c≠b)->mu b=some v->Ae v=some k->¬M k:=by
  intro b y v k hy hne hv hk hm
  obtain⟨c,x,u,g1,⟨z,g2⟩,g3,g4⟩:=hMloc k hm
  exact hne c x g1 (hw.inj (r c) b z y u v k g2 hy g3 hv g4 hk)
 have hIw:∀ k,I k->w'.heap[k]? =w.heap[k]?:=fun k hk=>R.old k (hw.lt k hk) fun hm=>(hMc k hm).2.1 hk
 have hext:Ext I mu w I' mu2 w':=⟨fun k hk=>R.iold k hk,hmu2,hIw⟩
 have hframe:∀ b y v k,h b=some y->(∀ c x,Ac H c=some x->r c≠b)->mu2 b=some v->Ae v=some k->mu b=some v:=by
  intro b y v k hy hne hv hk
  simp only[mu2] at hv
  split at hv
  ·rename_i hr
   exfalso
   have hn:=hid ((b-id)/2) (by omega)
   have e:id+2*((b-id)/2)=b:=by omega
   rw[e] at hn
   exact hw.used b y hy hn
  ·exact hv
 refine⟨mu2,hext,⟨fun b y hy=>?_,fun b y v k hy hv hk=>?_,fun b c y z v u k hy hz hv hu hk hk'=>?_,fun b hb=>?_,R.lt,R.os.trans hw.os,R.tape.trans hw.tape,R.output.trans hw.output,A0M hw.grown R.grown,fun k hk hnm=>?_,fun k hk=>R.iold k (hw.iold k hk),fun k hk=>?_,fun b x hb hn=>hmu2 b x (hw.keep b x hb hn),fun b y hy hb=>?_⟩,hv.into hout,fun b x hx=>?_⟩
 ·rcases hat b y hy with⟨c,x,h1,rfl,rfl⟩|⟨hne,h1⟩
  ·exact(R.blk c x h1).into hout
  ·exact(hw.blk b y h1).mono hIw (fun k hk=>R.iold k hk) hmu2 fun v k hv hk=>R.old k (hw.loc b y v k h1 hv hk).2.2 (hMne b y v k h1 hne hv hk)
 ·rcases hat b y hy with⟨c,x,h1,rfl,rfl⟩|⟨hne,h1⟩
  ·have:=R.loc c x v k h1 (hback c v hv x h1 k hk) hk
   refine⟨?_,this.2⟩
   rcases this.1 with h2|h2
   ·exact(hMc k h2).1
   ·exact .inr (A0M hw.grown h2)
  ·have hv':=hframe b y v k h1 hne hv hk
   have:=hw.loc b y v k h1 hv' hk
   refine⟨this.1,fun hI=>?_,A0P this.2.2 R.grown⟩
   rcases R.inew k hI with h2|h2|h2
   ·exact this.2.1 h2
   ·exact hMne b y v k h1 hne hv' hk h2
   ·omega
 ·have cross:∀ b y c x v u k,h b=some y->(∀ c x,Ac H c=some x->r c≠b)->mu b=some v->Ae v=some k->Ac H' c=some x->mu' c=some u->Ae u=some k->False:=by
   intro b y c x v u k h1 hne h2 h3 h4 h5 h6
   have g1:=hw.loc b y v k h1 h2 h3
   have g2:=(R.loc c x u k h4 h5 h6).1
   rcases g2 with g2|g2
   ·exact hMne b y v k h1 hne h2 h3 g2
   ·omega
  rcases hat b y hy with⟨b',x,h1,rfl,rfl⟩|⟨hne,h1⟩<;>rcases hat c z hz with⟨c',x',h2,rfl,rfl⟩|⟨hne',h2⟩
  ·rw[R.inj b' c' x x' v u k h1 h2 (hback b' v hv x h1 k hk) (hback c' u hu x' h2 k hk') hk hk']
  ·exact(cross c z b' x u v k h2 hne' (hframe c z u k h2 hne' hu hk') hk' h1 (hback b' v hv x h1 k hk) hk).elim
  ·exact(cross b y c' x' v u k h1 hne (hframe b y v k h1 hne hv hk) hk h2 (hback c' u hu x' h2 k hk') hk').elim
  ·exact hw.inj b c y z v u k h1 h2 (hframe b y v k h1 hne hv hk) (hframe c z u k h2 hne' hu hk') hk hk'
 ·simp only[mu2]
  rw[if_neg]
  ·exact hw.fresh b hb.1
  ·rintro⟨h1,h2,h3⟩
   exact hb.2 ((b-id)/2) (by omega) (by omega)
 ·have hnM:¬M k:=fun hm=>by
   rcases(hMc k hm).1 with h1|h1
   ·exact hnm h1
   ·omega
  rw[R.old k (by have:=hw.grown;omega) hnM]
  exact hw.old k hk hnm
 ·rcases R.inew k hk with h1|h1|h1
  ·exact hw.inew k h1
  ·exact .inr (hMc k h1).1
  ·exact .inr (.inr (A0M hw.grown h1))
 ·rcases hat b y hy with⟨c,x,h1,rfl,rfl⟩|⟨hne,h1⟩
  ·have h4:=A0w.1 hok4
   obtain⟨p,hp',rfl⟩:=A0i.1 (ED h1)
   have h4:=h4 p hp'
   simp only[A09,Bool.or_eq_true,beq_iff_eq,List.any_eq_true] at h4
   by_cases hb1:p.1%2=1
   ·have hb1':(p.1%2==1)=true:=by simp[hb1]
    simp only[Ct,hb1',cond_true] at hb
    obtain⟨q,hq,hqe⟩:=h4.2.resolve_left (by omega)
    have:∀ {l:Hp},q ∈ l->∃ y,Ac l q.1=some y:=by
     intro l
     induction l with
     |nil=>intro h;cases h
     |cons z l ih=>
      intro hm
      by_cases hz:z.1=q.1
      ·exact⟨z.2,by simp[Ac,hz]⟩
      ·have:(z.1==q.1)=false:=by simp[hz]
       simp only[Ac,this,cond_false]
       rcases A0q.1 hm with rfl|hm
       ·exact absurd rfl hz
       ·exact ih hm
    obtain⟨y,hy⟩:=this hq
    obtain⟨z,hz,_⟩:=hlk q.1 y hy
    rw[hqe] at hz
    exact hw.used _ z hz hb.1
   ·have hb1':(p.1%2==1)=false:=by simp[hb1]
    simp only[Ct,hb1',cond_false] at hb
    have:p.1<8:=by have:=h4.1;simp[okN,hb1] at this;omega
    exact hb.2 (p.1/2) (by omega) (by omega)
  ·exact hw.used b y h1 hb.1
 ·show AO _ _ (DE id r H H')=_
  have hs:∀ z,AO (Ct id r b) z (DE id r H H')=AO (Ct id r b) (AO (Ct id r b) z (H.map fun p=>(r p.1,none))) (H'.map fun p=>(Ct id r p.1,some (EM (Ct id r) p.2))):=fun z=>by
   simp only[DE,AO,A1F]
  rw[hs]
  exact L6 H' _ hinj hok3 b x hx
theorem NP{P:Program}{id:Nat}{ev:Operand->D}{hp:Nat->Option Blk}{o:Oper}{ds:List D}{H:Hp}{X:D->Hp->Prop}(r:Nat->Nat)
  (hrun:∀ w0 M0 (I0:Gh) fr I mu h (a:Act) w,Ao w0 M0 I0 fr I mu h w->(∀ x ∈ o.op.operands,Rep w I mu (ev x) (a.eval x))->∃ vs,B8 w I mu (BX r ds) vs/\
   ∀(M:Nat->Prop) (G:Gh) (muc:Nat->Option Value),GA P w M G->G.dl=[]->Ao w M G (frN 4) I muc (Ac H) w->B8 w I muc ds vs->(∀ b x,okN 4 b=true->mu (r b)=some x->muc b=some x)->
    ∀ K Q,(∀(e:Ending) (w':World),(∃ d H' v I' mu',X d H'/\e=.returned v/\Rep w' I' mu' d v/\Ao w M G (frN 4) I' mu' (Ac H') w')->∃ v,e=.returned v/\K (a.put o.dst v) w')->o.wpIn I0.F I0.n P a w K Q)
  (hl:ltL 4 ds=true) (hh:B3 r hp H) (hok0:CP id r H []=true) (hokX:∀ d H',X d H'->CP id r H H'=true):SG P o id ev hp (H.map fun p=>r p.1) (fun e=>∃ d H',X d H'/\e=C9 id r H d H'):=by
 intro w0 M0 I0 fr I mu h a w hga hw hid hxs hb K Q hK
 obtain⟨vs,hargs,hwp⟩:=hrun w0 M0 I0 fr I mu h a w hw hxs
 obtain⟨M,G,muc,⟨g1,g2,g3,g4,g5,_⟩,hback⟩:=WK r hga hw hid hb hargs hl hh hok0
 refine hwp M G muc g1 g2 g3 g4 g5 K Q fun e w' ⟨d,H',v,I',mu',hX,he,hv,R⟩=>⟨v,he,?_⟩
 obtain⟨mu2,q1,q2,q3,_⟩:=hback d H' v w' I' mu' (hokX d H' hX) hv R
 exact hK _ ⟨d,H',hX,rfl⟩ v w' I' mu2 q1 q2 q3
theorem S4{P:Program}{id:Nat}{ev:Operand->D}{hp:Nat->Option Blk}{o:Oper}{f:FuncId}{ds:List D}{H:Hp}{X:D->Hp->Prop}(r:Nat->Nat)
  (hrun:∀ w0 M0 I0 fr I mu h (a:Act) w,Ao w0 M0 I0 fr I mu h w->(∀ x ∈ o.op.operands,Rep w I mu (ev x) (a.eval x))->∃ vs,(execOp a.eval o).run P w=.ok (.enter f vs.toArray) w/\B8 w I mu (BX r ds) vs)
  (hl:ltL 4 ds=true) (hh:B3 r hp H) (hok0:CP id r H []=true) (hokX:∀ d H',X d H'->CP id r H H'=true) (hc:Up P f ds H X):SG P o id ev hp (H.map fun p=>r p.1) (fun e=>∃ d H',X d H'/\e=C9 id r H d H'):=by
 refine NP r (fun w0 M0 I0 fr I mu h a w hw hxs=>?_) hl hh hok0 hokX
 obtain⟨vs,hrun,hargs⟩:=hrun w0 M0 I0 fr I mu h a w hw hxs
 refine⟨vs,hargs,fun M G muc hga hdl hW ha _ K Q hK=>C2 hrun ((hc.2 w M G I muc vs hga hdl hW ha).mono fun e w' h=>?_)⟩
 obtain⟨v,rfl,hv⟩:=hK e w' h
 exact hv
theorem Md{P:Program}{id:Nat}{ev:Operand->D}{hp:Nat->Option Blk}{o:Oper}{f:FuncId}{ds:List D}{H:Hp}{d:D}{H':Hp}(r:Nat->Nat)
  (hrun:∀ w0 M0 I0 fr I mu h (a:Act) w,Ao w0 M0 I0 fr I mu h w->(∀ x ∈ o.op.operands,Rep w I mu (ev x) (a.eval x))->∃ vs,(execOp a.eval o).run P w=.ok (.enter f vs.toArray) w/\B8 w I mu (BX r ds) vs)
  (hl:ltL 4 ds=true) (hh:B3 r hp H) (hok:CP id r H H'=true) (hc:A2 P f ds H d H'):AB P o id ev hp (C9 id r H d H'):=by
 have h0:CP id r H []=true:=by
  simp only[CP,A09] at hok|-
  obtain⟨⟨⟨⟨hok1,hok2⟩,hok3⟩,hok4⟩,hok5⟩:=hok
  exact⟨⟨⟨⟨hok1,hok2⟩,rfl⟩,rfl⟩,hok5⟩
 intro w0 M0 I0 fr I mu h a w hga hw hid hxs hb K Q hK
 exact S4 r hrun hl hh h0 (fun d' H'' h=>by rw[h.2];exact hok) hc.x w0 M0 I0 fr I mu h a w hga hw hid hxs hb K Q fun e ⟨d',H'',h1,h2⟩=>by
  obtain⟨rfl,rfl⟩:=h1;subst h2;exact hK
section
variable{P:Program}{ops:Array Oper}{nx:Nat}{dst:Option Tmp}{T:TypeId}{ps:String}{af:Array Edge}{gd:Option (Nat×Bool)}{f:FuncId}{x:Operand}{args:Array Operand}{ts:Array TypeId}{fs cs ds:List D}{d:D}{H H':Hp}{l:List Oper}{pos:Nat}{acc:List Eff}{s:St}{K:List Eff->St->Prop}
theorem A1.scall(r:Nat->Nat)(hc:A2 P f ds H d H')(hg:gd=none∨∃ j want t,gd=some (j,want)/\AR ops j=some t/\gOf (s.env.get t) want=some true)(ha:args.toList.map (evO P s.env.get)=BX r ds)
  (hl:ltL 4 ds=true) (hh:B3 r (Ac s.hp) H) (hok:CP (2*(nx+4*pos)) r H H'=true)
  (hk:GoS P ops nx l (pos+1) (C9 (2*(nx+4*pos)) r H d H'::acc) (s.app dst (C9 (2*(nx+4*pos)) r H d H')) K):A1 P ops nx (⟨dst,.call {callee:=.value (.func f),args:=args,argTypes:=ts},T,ps,af,gd⟩::l) pos acc s K:=by
 rw[BY] at hk;rw[Ba]
 unfold Bs
 have hdo:AB P ⟨dst,.call {callee:=.value (.func f),args:=args,argTypes:=ts},T,ps,af,gd⟩ (2*(nx+4*pos)) (evO P s.env.get) (Ac s.hp) (C9 (2*(nx+4*pos)) r H d H'):=by
  refine Md r (fun w0 M0 I0 fr I mu h a w hw hx=>⟨args.toList.map a.eval,?_,?_⟩) hl hh hok hc
  ·have e1:args.map a.eval=(args.toList.map a.eval).toArray:=by apply Array.ext';simp
   simp only[execOp,resolve,Act.eval,Deferred.ofValue,A0e,A0k,Result.andThen,invoke]
   have e2:#[]++args.map a.eval++ #[]=(args.toList.map a.eval).toArray:=by rw[e1];simp
   exact(congrArg (fun z=>(callFunc f z).run P w) e2).trans (AX hc.1 _ w)
  ·rw[<-ha]
   exact B8.args fun y hy=>hx y (by simp[Op.operands,Call.operands];exact .inr (by simpa using hy))
 refine .inl ⟨_,?_,by have:=Go.run hk;unfold Bs at this;exact this⟩
 rcases hg with rfl|⟨j,want,t,rfl,ht,hg⟩
 ·exact B9.plain rfl hdo
 ·exact B9.guard_true rfl ht hg hdo
theorem A1.scallV(r:Nat->Nat)(hx:evO P s.env.get x=.func (.func f) fs cs)(hc:A2 P f ds H d H')(hg:gd=none∨∃ j want t,gd=some (j,want)/\AR ops j=some t/\gOf (s.env.get t) want=some true)(ha:fs++args.toList.map (evO P s.env.get)++cs=BX r ds)
  (hl:ltL 4 ds=true) (hh:B3 r (Ac s.hp) H) (hok:CP (2*(nx+4*pos)) r H H'=true)
  (hk:GoS P ops nx l (pos+1) (C9 (2*(nx+4*pos)) r H d H'::acc) (s.app dst (C9 (2*(nx+4*pos)) r H d H')) K):A1 P ops nx (⟨dst,.call {callee:=.value x,args:=args,argTypes:=ts},T,ps,af,gd⟩::l) pos acc s K:=by
 rw[BY] at hk;rw[Ba]
 unfold Bs
 have hdo:AB P ⟨dst,.call {callee:=.value x,args:=args,argTypes:=ts},T,ps,af,gd⟩ (2*(nx+4*pos)) (evO P s.env.get) (Ac s.hp) (C9 (2*(nx+4*pos)) r H d H'):=by
  refine Md r (fun w0 M0 I0 fr I mu h a w hw hxs=>?_) hl hh hok hc
  have hxr:=hxs x (by simp[Op.operands,Call.operands])
  rw[hx] at hxr
  have hargs:=B8.args (w:=w) (I:=I) (mu:=mu) (ev:=evO P s.env.get) (a:=a) (args:=args) fun y hy=>hxs y (by simp[Op.operands,Call.operands];exact .inr (by simpa using hy))
  generalize he:a.eval x=fv at hxr
  cases hxr with
  |func _ _ _ us vs hl hk h1 h2=>
  refine⟨us++args.toList.map a.eval++vs,?_,?_⟩
  ·have e1:us.toArray++args.map a.eval++vs.toArray=(us++args.toList.map a.eval++vs).toArray:=by apply Array.ext';simp
   simp only[execOp,resolve,he,Deferred.ofValue,A0e,A0k,Result.andThen,invoke]
   exact(congrArg (fun z=>(callFunc f z).run P w) e1).trans (AX hc.1 _ w)
  ·rw[<-ha]
   exact B8.append (B8.append ⟨hl,h1⟩ hargs) ⟨hk,h2⟩
 refine .inl ⟨_,?_,by have:=Go.run hk;unfold Bs at this;exact this⟩
 rcases hg with rfl|⟨j,want,t,rfl,ht,hg⟩
 ·exact B9.plain rfl hdo
 ·exact B9.guard_true rfl ht hg hdo
theorem Qq.plain{o:Oper}{id:Nat}{s0:FSt}{rd:List Nat}{F:Eff->Prop}(hg:o.guard=none)(h:SG P o id (evO P s0.env) s0.hp rd F):Qq P ops o id s0 F:=by
 intro w0 M0 I0 nt fr I mu a w hga r hid hd K Q hK
 rw[if_pos (by simp[Region.wanted,hg])]
 refine h w0 M0 I0 fr I mu s0.hp a w hga r.w hid (fun x hx=>Dm (hga.at r.w) r.env x) (fun _ _=>rfl) K Q fun e hF v w' I' mu' hext hw hv=>hK e hF _ _ I' mu' ⟨?_,?_,?_,hw⟩
 ·rw[Ev];exact r.size
 ·rw[DF];exact r.defers.ext hext
 ·exact Jm r.size hd (fun t=>(r.env t).ext hext) hv a rfl
theorem A1.many{op:Op}(rd:List Nat)(F:Eff->Prop)(he:∃ e,F e)(h:SG P ⟨dst,op,T,ps,af,none⟩ (2*(nx+4*pos)) (evO P s.env.get) (Ac s.hp) rd F)
  (hk:∀ e,F e->GoS P ops nx l (pos+1) (bad::acc) (s.app dst e) K):A1 P ops nx (⟨dst,op,T,ps,af,none⟩::l) pos acc s K:=by
 rw[BY] at hk;rw[Ba]
 unfold Bs
 exact .inr (.inl ⟨F,he,Qq.plain rfl h,fun e hF=>by have:=Go.run (hk e hF);unfold Bs at this;exact this⟩)
def Dx(P:Program)(y:Nat)(ds:List D)(H:Hp)(d:D)(H':Hp):Prop:=
 ∀(w:World) (M0:Nat->Prop) (G:Gh) (I:Nat->Prop) (mu:Nat->Option Value) (vs:List Value) (l:Nat),GA P w M0 G->G.dl=[]->mu y=some (.pointer (some ⟨l,0,none⟩))->Ao w M0 G (frN 4) I mu (Ac H) w->B8 w I mu ds vs->
  ∃ fn tmps assign body,(Instr.yield l vs.toArray).run P w=.ok (.round l fn tmps assign body) w/\RoundIn Fence.wide 0 P l fn tmps assign body w fun e w'=>∃ v I' mu',e=.returned v/\Rep w' I' mu' d v/\Ao w M0 G (frN 4) I' mu' (Ac H') w'
theorem Tl{G:Gh}{l fn:Nat}{tmps:Array Value}{assign body:Code}{w:World}{R:Ending->World->Prop}(h:RoundIn Fence.wide 0 P l fn tmps assign body w R):RoundIn G.F (G.n-1) P l fn tmps assign body w R:=by
 obtain⟨h1,h2⟩:=h
 have hn:∀ n m,RoundIn Fence.wide n P l fn tmps assign body w R->RoundIn Fence.wide m P l fn tmps assign body w R:=fun n m h=>⟨h.1,fun c cs _=>h.2 c cs (fun d hd=>by cases hd)⟩
 rcases G.hF with e|⟨l',e⟩<;>rw [e]
 ·exact hn 0 _ ⟨h1,h2⟩
 ·exact hn 0 _ ⟨h1,h2⟩
theorem A1.yield(y:Nat)(r:Nat->Nat)(hy:y%2=1)(hx:evO P s.env.get x=.yld (r y))(hc:Dx P y ds H d H')(ha:args.toList.map (evO P s.env.get)=BX r ds)(hg:gd=none∨∃ j want t,gd=some (j,want)/\AR ops j=some t/\gOf (s.env.get t) want=some true)
  (hl:ltL 4 ds=true) (hh:B3 r (Ac s.hp) H) (hok:CP (2*(nx+4*pos)) r H H'=true)
  (hk:GoS P ops nx l (pos+1) (C9 (2*(nx+4*pos)) r H d H'::acc) (s.app dst (C9 (2*(nx+4*pos)) r H d H')) K):A1 P ops nx (⟨dst,.call {callee:=.value x,args:=args,argTypes:=ts},T,ps,af,gd⟩::l) pos acc s K:=by
 rw[BY] at hk;rw[Ba]
 unfold Bs
 have h0:CP (2*(nx+4*pos)) r H []=true:=by
  simp only[CP,A09] at hok|-
  obtain⟨⟨⟨⟨hok1,hok2⟩,hok3⟩,hok4⟩,hok5⟩:=hok
  exact⟨⟨⟨⟨hok1,hok2⟩,rfl⟩,rfl⟩,hok5⟩
 have hdo:AB P ⟨dst,.call {callee:=.value x,args:=args,argTypes:=ts},T,ps,af,gd⟩ (2*(nx+4*pos)) (evO P s.env.get) (Ac s.hp) (C9 (2*(nx+4*pos)) r H d H'):=by
  intro w0 M0 I0 fr I mu h a w hga hw hid hxs hb K Q hK
  refine NP (X:=fun d' h'=>d'=d/\h'=H') r (fun w0 M0 I0 fr I mu h a w hw hxs=>⟨args.toList.map a.eval,?_,fun M G muc hga hdl hW hargs hmuc K Q hK=>?_⟩) hl hh h0 (fun d' H'' h=>by rw[h.2];exact hok) w0 M0 I0 fr I mu h a w hga hw hid hxs hb K Q fun e ⟨d',H'',h1,h2⟩=>by
   obtain⟨rfl,rfl⟩:=h1;subst h2;exact hK
  ·rw[<-ha]
   exact B8.args fun y hy=>hxs y (by simp[Op.operands,Call.operands];exact .inr (by simpa using hy))
  ·have hxr:=hxs x (by simp[Op.operands,Call.operands])
   rw[hx] at hxr
   generalize he:a.eval x=fv at hxr
   cases hxr with
   |yld _ l hl=>
   obtain⟨fn,tmps,assign,body,q1,q2⟩:=hc w M G I muc (args.toList.map a.eval) l hga hdl (hmuc y _ (by simp[okN,hy]) hl) hW hargs
   have hrun:(execOp a.eval ⟨dst,.call {callee:=.value x,args:=args,argTypes:=ts},T,ps,af,gd⟩).run P w=.ok (.round l fn tmps assign body) w:=by
    have e1:args.map a.eval=(args.toList.map a.eval).toArray:=by apply Array.ext';simp
    simp only[execOp,resolve,he,Deferred.ofValue,A0e,A0k,Result.andThen,invoke]
    have e2:#[]++args.map a.eval++ #[]=(args.toList.map a.eval).toArray:=by rw[e1];simp
    exact(congrArg (fun z=>(Instr.yield l z).run P w) e2).trans q1
   refine⟨fun f _=>I0.fn f,?_⟩
   rw[Oper.semAt_eq _ _ _ (GY hrun (fun _ h=>by cases h)),hrun]
   refine⟨fun h=>(by rw[I0.depth] at h;cases h),Tl (RoundIn.mono q2 fun e w' ⟨v,I',mu',he,hv,R⟩=>?_)⟩
   obtain⟨v',rfl,hK'⟩:=hK e w' ⟨d,H',v,I',mu',⟨rfl,rfl⟩,he,hv,R⟩
   exact hK'
 refine .inl ⟨_,?_,by have:=Go.run hk;unfold Bs at this;exact this⟩
 rcases hg with rfl|⟨j,want,t,rfl,ht,hg⟩
 ·exact B9.plain rfl hdo
 ·exact B9.guard_true rfl ht hg hdo
end
attribute [irreducible] A2 Up Dx
def Nn(F:D->D):Env->Env
 |[]=>[]
 |(t,d)::r=>(t,F d)::Nn F r
def Wo(F:D->D):Hp->Hp
 |[]=>[]
 |(c,y)::r=>(c,J7 F y)::Wo F r
theorem Nm{F:D->D}(hF:F .any=.any):∀ (e:Env) (t:Nat),(Nn F e).get t=F (e.get t)
 |[],t=>hF.symm
 |(k,d)::r,t=>by
  simp only[Nn,Env.get]
  cases k==t with
  |true=>rfl
  |false=>exact Nm hF r t
theorem Nl{F:D->D}:∀ (h:Hp) (c:Nat) (y:Blk),Ac (Wo F h) c=some y->∃ z,Ac h c=some z/\y=J7 F z
 |[],c,y,h=>by cases h
 |(k,z)::r,c,y,h=>by
  simp only[Wo,Ac] at h|-
  cases hk:k==c with
  |true=>simp only[hk,cond_true,A03] at h;exact⟨z,by simp,h.symm⟩
  |false=>simp only[hk,cond_false] at h|-;exact Nl r c y h
def reS(b:Nat)(F:D->D)(y:Blk)(s:St):St:=⟨Nn F s.env,(2*s.nx,y)::Wo F (del s.hp b),s.nx+1⟩
def ReOk(b c:Nat)(x:Blk)(F:D->D)(y:Blk)(w:World)(I:Nat->Prop)(mu:Nat->Option Value)(u:Value):Prop:=
 D6 w I (Ax mu c u) c y/\(∀ k,Ae u=some k->∃ v,mu b=some v/\Ae v=some k)/\∀ d v,Rep w I mu d v->Rep w I (Ax mu c u) (F d) v
theorem Rel.re{w0:World}{M0:Nat->Prop}{I0:Gh}{nt:Nat}{I:Nat->Prop}{mu:Nat->Option Value}{s:St}{a:Act}{w:World}{b:Nat}{x y:Blk}{F:D->D}(hF:F .any=.any)(r:Rel w0 M0 I0 nt (frN s.nx) I mu s.fs a w)(hb:Ac s.hp b=some x){u:Value}(k:ReOk b (2*s.nx) x F y w I mu u):
  Rel w0 M0 I0 nt (frN (reS b F y s).nx) I (Ax mu (2*s.nx) u) (reS b F y s).fs a w:=by
 obtain⟨k1,k2,k3⟩:=k
 have hfr:frN s.nx (2*s.nx):=⟨by omega,A08 _⟩
 have hnone:mu (2*s.nx)=none:=r.w.fresh _ hfr
 have hm:=Bu (v:=u) hnone
 have hb':s.fs.hp b=some x:=hb
 have hlk:∀ c z,Ac ((2*s.nx,y)::Wo F (del s.hp b)) c=some z->(c=2*s.nx/\z=y)∨(c≠2*s.nx/\c≠b/\∃ z',s.fs.hp c=some z'/\z=J7 F z'):=by
  intro c z h
  simp only[Ac] at h
  by_cases hc:2*s.nx=c
  ·have:(2*s.nx==c)=true:=by simp[hc]
   rw[this,cond_true] at h
   exact .inl ⟨hc.symm,(Option.some.inj h).symm⟩
  ·have:(2*s.nx==c)=false:=by simp[hc]
   rw[this,cond_false] at h
   obtain⟨z',hz,rfl⟩:=Nl _ c z h
   rw[Ja] at hz
   split at hz
   ·cases hz
   ·rename_i hne;exact .inr ⟨fun h=>hc h.symm,fun h=>hne h.symm,z',hz,rfl⟩
 have hmu:∀ c,c≠2*s.nx->Ax mu (2*s.nx) u c=mu c:=fun c hc=>by simp[Ax,hc]
 refine⟨r.size,r.defers,fun t=>?_,⟨fun c z h=>?_,fun c z v j h hv hj=>?_,fun c c' z z' v v' j h h' hv hv' hj hj'=>?_,fun c hc=>?_,r.w.lt,r.w.os,r.w.tape,r.w.output,r.w.grown,r.w.old,r.w.iold,r.w.inew,fun c v hc hn=>hm c v (r.w.keep c v hc hn),fun c z h hc=>?_⟩⟩
 ·show Rep w I _ ((Nn F s.env).get t) _
  rw[Nm hF]
  exact k3 _ _ (r.env t)
 ·rcases hlk c z h with⟨rfl,rfl⟩|⟨h1,h2,z',h3,rfl⟩
  ·exact k1
  ·have:=(r.w.blk c z' h3).mapB (F:=fun d=>d) (J:=I) (fun d v h=>h)
   have hbr:=r.w.blk c z' h3
   cases z' with
   |rows es sz=>
    obtain⟨kk,T,us,g1,g2,g3,g4,g5⟩:=hbr
    refine⟨kk,T,us,hm _ _ g1,g2,by simpa using g3,fun i hi=>?_,fun i j hi hj=>?_⟩
    ·simp only[A07] at hi;rw[EU hi,A07];exact g4 i hi
    ·simp only[A07] at hi;rw[EU hi,CQ (by rw[g4 i hi];exact hj)];exact k3 _ _ (g5 i j hi hj)
   |grow es sz=>
    obtain⟨A,cap,T,us,g1,g2,g3,g4⟩:=hbr
    refine⟨A,cap,T,us,by simpa using hm _ _ g1,fun i hi=>?_,g3,?_⟩
    ·simp only[A07] at hi;rw[EU hi,A07];exact g2 i hi
    ·rcases g4 with⟨g4,rfl⟩|⟨kk,g0,hA,g5,g6,g7,g8⟩
     ·exact .inl ⟨g4,rfl⟩
     ·refine .inr ⟨kk,g0,hA,g5,by simpa using g6,g7,fun i j hi hj=>?_⟩
      simp only[A07] at hi;rw[EU hi,CQ (by rw[g2 i hi];exact hj)];exact k3 _ _ (g8 i j hi hj)
   |map es ck=>
    obtain⟨kk,l,g1,g2,g3,g4,g5⟩:=hbr
    refine⟨kk,l,hm _ _ g1,g2,by rw[g3];simp[Function.comp_def],by rw[g4];simp[Function.comp_def],fun i e p he hp=>?_⟩
    simp only[A0u,A1z] at hp
    obtain⟨q,hq,rfl⟩:=hp
    exact k3 _ _ (g5 i e q he hq)
   |iter m since seen last=>
    obtain⟨kk,km,g1,g2,g3⟩:=hbr
    exact⟨kk,km,hm _ _ g1,hm _ _ g2,g3⟩
   |obj o=>
    obtain⟨kk,g1,g2⟩:=hbr
    exact⟨kk,hm _ _ g1,g2⟩
   |loop env nt st pd ps a c=>
    obtain⟨kk,fn,tmps,kd,g1,g2,g3,g4⟩:=hbr
    exact⟨kk,fn,tmps,kd,hm _ _ g1,g2,g3,fun t=>Ma (Q:=fun d=>Rep w I (Ax mu (2*s.nx) u) d (tmps.getD t undef)) (.any _) (k3 _ _ (g4 t))⟩
   |pr g p=>
    obtain⟨v,u,g1,g2,g3,g4,g5⟩:=hbr
    exact⟨v,u,hm _ _ g1,hm _ _ g2,g3,g4,g5⟩
   |junk=>trivial
 ·rcases hlk c z h with⟨rfl,rfl⟩|⟨h1,h2,z',h3,rfl⟩
  ·simp only[Ax,if_true,A03] at hv
   subst hv
   obtain⟨v',hv',hj'⟩:=k2 j hj
   exact r.w.loc b x v' j hb' hv' hj'
  ·rw[hmu c h1] at hv
   exact r.w.loc c z' v j h3 hv hj
 ·have cross:∀ c z v j,c≠b->s.fs.hp c=some z->mu c=some v->Ae v=some j->Ae u=some j->False:=by
   intro c z v j hc h1 h2 h3 h4
   obtain⟨v',hv',hj'⟩:=k2 j h4
   exact hc (r.w.inj c b z x v v' j h1 hb' h2 hv' h3 hj')
  rcases hlk c z h with⟨rfl,rfl⟩|⟨h1,h2,z1,h3,rfl⟩<;>rcases hlk c' z' h' with⟨rfl,rfl⟩|⟨h1',h2',z1',h3',rfl⟩
  ·rfl
  ·simp only[Ax,if_true,A03] at hv
   subst hv
   rw[hmu c' h1'] at hv'
   exact(cross c' z1' v' j h2' h3' hv' hj' hj).elim
  ·simp only[Ax,if_true,A03] at hv'
   subst hv'
   rw[hmu c h1] at hv
   exact(cross c z1 v j h2 h3 hv hj hj').elim
  ·rw[hmu c h1] at hv
   rw[hmu c' h1'] at hv'
   exact r.w.inj c c' z1 z1' v v' j h3 h3' hv hv' hj hj'
 ·obtain⟨h1,h2⟩:=hc
  have h2':2*(s.nx+1)<=c:=h2
  rw[hmu c (by omega)]
  exact r.w.fresh c ⟨h1,by omega⟩
 ·obtain⟨h1,h2⟩:=hc
  have h2':2*(s.nx+1)<=c:=h2
  rcases hlk c z h with⟨rfl,rfl⟩|⟨h3,h4,z',h5,rfl⟩
  ·omega
  ·exact r.w.used c z' h5 ⟨h1,by omega⟩
def unD(b c cap sz:Nat):D->D
 |.gref b' n=>bif b'==b then .sref c 0 n cap sz else .gref b' n
 |d=>d
def un0D(b:Nat):D->D
 |.gref b' n=>bif b'==b then .slice [] true else .gref b' n
 |d=>d
def unB(es:List (List D))(sz cap:Nat):Blk:=.rows (es++List.replicate (cap-es.length) (List.replicate sz .any)) sz
theorem AWp.ungrow{P:Program}{nt:Nat}{c:Code}{Q:AE->St->Prop}{s:St}{b sz:Nat}{es:List (List D)}(hb:Ac s.hp b=some (.grow es sz))
  (h0:es=[]->AWp P nt c Q (reS b (un0D b) .junk s)) (h1:∀ cap,es.length<=cap->0<cap->cap<=9223372036854775807->AWp P nt c Q (reS b (unD b (2*s.nx) cap sz) (unB es sz cap) s)):AWp P nt c Q s:=by
 intro w0 M0 I0 g I mu a w r
 have hbr:=r.w.blk b _ hb
 have hnone:mu (2*s.nx)=none:=r.w.fresh _ ⟨by omega,A08 _⟩
 obtain⟨A,cap,T,us,g1,g2,g3,g4⟩:=hbr
 rcases g4 with⟨rfl,rfl⟩|⟨k,g0,rfl,g5,g6,g7,g8⟩
 ·have hm:=Bu (v:=undef) hnone
  refine h0 rfl w0 M0 I0 g I _ a w (r.re (b:=b) (u:=undef) rfl hb ⟨trivial,fun k hk=>by simp[undef,Ae] at hk,fun d v hv=>?_⟩)
  cases hv with
  |gref b' n A' cap' hk=>
   simp only[un0D]
   by_cases hbb:b'=b
   ·subst hbb
    rw[g1] at hk
    simp only[A03,A0X] at hk
    obtain⟨rfl,rfl,rfl⟩:=hk
    simp only[beq_self_eq_true,cond_true]
    exact .slice [] true A 0 0 0 0 (fun _ _=>.nilFunc) (fun h=>absurd h (by simp)) (A08 _) (fun _=>rfl) (A0J _) (fun i h=>absurd h (by simp)) (fun i j h=>absurd h (by simp)) (fun i j h=>absurd h (by simp))
   ·have:(b'==b)=false:=by simp[hbb]
    rw[this,cond_false]
    exact .gref b' n A' cap' (hm _ _ hk)
  |any v=>exact .any v
  |val v ok=>exact .val v ok
  |cond g d v h h'=>exact (Rep.cond g d v h h').mono (fun _ _=>rfl) (fun _ h=>h) hm
  |agg cs us hl h=>exact (Rep.agg cs us hl h).mono (fun _ _=>rfl) (fun _ h=>h) hm
  |tup cs us hl h=>exact (Rep.tup cs us hl h).mono (fun _ _=>rfl) (fun _ h=>h) hm
  |slice es tight A k o sz cap u hA hc ht hm' hlen hcell h=>exact (Rep.slice es tight A k o sz cap u hA hc ht hm' hlen hcell h).mono (fun _ _=>rfl) (fun _ h=>h) hm
  |ptr cs off k o u hI hcell h=>exact (Rep.ptr cs off k o u hI hcell h).mono (fun _ _=>rfl) (fun _ h=>h) hm
  |ref b i off sz k h=>exact .ref b i off sz k (hm _ _ h)
  |sref b i len cap sz k h=>exact .sref b i len cap sz k (hm _ _ h)
  |mref b k h=>exact .mref b k (hm _ _ h)
  |yld b k h=>exact .yld b k (hm _ _ h)
  |func fn fs cs us vs hl hk h h'=>exact (Rep.func fn fs cs us vs hl hk h h').mono (fun _ _=>rfl) (fun _ h=>h) hm
  |iface t d v h=>exact (Rep.iface t d v h).mono (fun _ _=>rfl) (fun _ h=>h) hm
  |abool n pos b h=>exact .abool n pos b h
  |gel b i off sz k len cap h=>exact .gel b i off sz k len cap (hm _ _ h)
  |gsub b i len sz A B n cap h hle hB=>exact .gsub b i len sz A B n cap (hm _ _ h) hle hB
 ·have hm:=Bu (v:=.pointer (some ⟨k,0,none⟩)) hnone
  refine h1 cap g6 g0 (by simpa[maxLen] using g3) w0 M0 I0 g I _ a w (r.re (b:=b) (u:=.pointer (some ⟨k,0,none⟩)) rfl hb ⟨⟨k,T,us,by simp[Ax],g5,by rw[g7,A04,A1k];exact congrArg (· *sz) (by omega),fun i hi=>?_,fun i j hi hj=>?_⟩,fun k' hk=>?_,fun d v hv=>?_⟩)
  ·by_cases hlt:i<es.length
   ·have:nr (es++List.replicate (cap-es.length) (List.replicate sz .any)) i=nr es i:=by simp[nr,A02,A0o hlt]
    rw[this];exact g2 i hlt
   ·simp at hi
    have:nr (es++List.replicate (cap-es.length) (List.replicate sz .any)) i=List.replicate sz .any:=by
     simp[nr,A02,A0p (A1U hlt),A1w,show i-es.length<cap-es.length by omega]
    rw[this];simp
  ·by_cases hlt:i<es.length
   ·have:nr (es++List.replicate (cap-es.length) (List.replicate sz .any)) i=nr es i:=by simp[nr,A02,A0o hlt]
    rw[this];exact(g8 i j hlt hj).mono (fun _ _=>rfl) (fun _ h=>h) hm
   ·simp at hi
    have:nr (es++List.replicate (cap-es.length) (List.replicate sz .any)) i=List.replicate sz .any:=by
     simp[nr,A02,A0p (A1U hlt),A1w,show i-es.length<cap-es.length by omega]
    rw[this]
    have:nd (List.replicate sz D.any) j=.any:=by simp[nd,A02,A1w,hj]
    rw[this];exact .any _
  ·simp only[Ae,A03] at hk
   exact⟨_,g1,by simp only[Ae];rw[if_neg (by omega),hk]⟩
  ·cases hv with
   |gref b' n A' cap' hk=>
    simp only[unD]
    by_cases hbb:b'=b
    ·subst hbb
     rw[g1] at hk
     simp only[A03,A0X] at hk
     obtain⟨rfl,rfl,rfl⟩:=hk
     simp only[beq_self_eq_true,cond_true]
     have:=Rep.sref (w:=w) (I:=I) (mu:=Ax mu (2*s.nx) (.pointer (some ⟨k,0,none⟩))) (2*s.nx) 0 es.length cap sz k (by simp[Ax])
     rw[Nat.zero_mul] at this
     exact this
    ·have:(b'==b)=false:=by simp[hbb]
     rw[this,cond_false]
     exact .gref b' n A' cap' (hm _ _ hk)
   |any v=>exact .any v
   |val v ok=>exact .val v ok
   |cond g d v h h'=>exact (Rep.cond g d v h h').mono (fun _ _=>rfl) (fun _ h=>h) hm
   |agg cs us hl h=>exact (Rep.agg cs us hl h).mono (fun _ _=>rfl) (fun _ h=>h) hm
   |tup cs us hl h=>exact (Rep.tup cs us hl h).mono (fun _ _=>rfl) (fun _ h=>h) hm
   |slice es tight A k o sz cap u hA hc ht hm' hlen hcell h=>exact (Rep.slice es tight A k o sz cap u hA hc ht hm' hlen hcell h).mono (fun _ _=>rfl) (fun _ h=>h) hm
   |ptr cs off k o u hI hcell h=>exact (Rep.ptr cs off k o u hI hcell h).mono (fun _ _=>rfl) (fun _ h=>h) hm
   |ref b i off sz k h=>exact .ref b i off sz k (hm _ _ h)
   |sref b i len cap sz k h=>exact .sref b i len cap sz k (hm _ _ h)
   |mref b k h=>exact .mref b k (hm _ _ h)
   |yld b k h=>exact .yld b k (hm _ _ h)
   |func fn fs cs us vs hl hk h h'=>exact (Rep.func fn fs cs us vs hl hk h h').mono (fun _ _=>rfl) (fun _ h=>h) hm
   |iface t d v h=>exact (Rep.iface t d v h).mono (fun _ _=>rfl) (fun _ h=>h) hm
   |abool n pos b h=>exact .abool n pos b h
   |gel b i off sz k len cap h=>exact .gel b i off sz k len cap (hm _ _ h)
   |gsub b i len sz A B n cap h hle hB=>exact .gsub b i len sz A B n cap (hm _ _ h) hle hB
def grS(b c n cap:Nat):D->D
 |.sref b' i len cap' sz=>bif b'==b&&i==0&&len==n&&cap'==cap then .gref c n else .sref b' i len cap' sz
 |d=>d
def grG(b c n:Nat):D->D
 |.gsub b' i len sz=>bif b'==b&&i==0&&len==n then .gref c n else .gsub b' i len sz
 |d=>d
section
variable{w:World}{I:Nat->Prop}{mu mu':Nat->Option Value}
theorem rep_grS{b c n cap k:Nat}(hm:∀ b x,mu b=some x->mu' b=some x)(hb:mu b=some (.pointer (some ⟨k,0,none⟩)))(hc:mu' c=some (.slice (some ⟨k,0,none⟩) n cap)){d:D}{v:Value}(hv:Rep w I mu d v):Rep w I mu' (grS b c n cap d) v:=by
 have hv':=hv.mono (fun _ _=>rfl) (fun _ h=>h) hm
 cases d with
 |sref b' i len cap' sz=>
  simp only[grS]
  cases hq:(b'==b&&i==0&&len==n&&cap'==cap) with
  |true=>
   simp only[A09,beq_iff_eq] at hq
   obtain⟨⟨⟨rfl,rfl⟩,rfl⟩,rfl⟩:=hq
   cases hv with
   |sref _ _ _ _ _ k' h=>
    rw[hb] at h
    simp only[A03,A0K,A15,and_true] at h
    subst h
    rw[Nat.zero_mul]
    exact .gref c len _ cap' hc
  |false=>exact hv'
 |_=>exact hv'
theorem rep_grG{b c n m cap:Nat}{A:Option Addr}(hm:∀ b x,mu b=some x->mu' b=some x)(hb:mu b=some (.slice A m cap))(hc:mu' c=some (.slice A n cap)){d:D}{v:Value}(hv:Rep w I mu d v):Rep w I mu' (grG b c n d) v:=by
 have hv':=hv.mono (fun _ _=>rfl) (fun _ h=>h) hm
 cases d with
 |gsub b' i len sz=>
  simp only[grG]
  cases hq:(b'==b&&i==0&&len==n) with
  |true=>
   simp only[A09,beq_iff_eq] at hq
   obtain⟨⟨rfl,rfl⟩,rfl⟩:=hq
   cases hv with
   |gsub _ _ _ _ A' B' n' cap' h hle hB=>
    rw[hb] at h
    simp only[A03,A0X] at h
    obtain⟨rfl,rfl,rfl⟩:=h
    have:B'=A:=by rw[hB (.inr rfl)];cases A<;>simp [Addr.add]
    rw[this,Nat.sub_zero]
    exact .gref c len A cap hc
  |false=>exact hv'
 |_=>exact hv'
end
theorem Aw.regrow{s:St}{b sz:Nat}{es:List (List D)}(n:Nat)(hb:Ac s.hp b=some (.rows es sz))(hn:n<=es.length)(hm:es.length<=9223372036854775807):Aw s (reS b (grS b (2*s.nx) n es.length) (.grow (es.take n) sz) s):=by
 intro w0 M0 I0 nt I mu a w r
 obtain⟨k,T,us,g1,g2,g3,g4,g5⟩:=r.w.blk b _ hb
 have hnone:mu (2*s.nx)=none:=r.w.fresh _ ⟨by omega,A08 _⟩
 have hmm:=Bu (v:=.slice (some ⟨k,0,none⟩) n es.length) hnone
 have hl:(es.take n).length=n:=by simp;omega
 have hnr:∀ i,i<n->nr (es.take n) i=nr es i:=by
  intro i hi;simp only[nr,A02];rw[A0r hi]
 refine⟨I,_,r.re (b:=b) (u:=.slice (some ⟨k,0,none⟩) n es.length) rfl hb ⟨⟨some ⟨k,0,none⟩,es.length,T,us,by simp[Ax,hl],fun i hi=>by rw[hl] at hi;rw[hnr i hi];exact g4 i (by omega),by simpa[maxLen] using hm,?_⟩,fun k' hk=>?_,fun d v hv=>rep_grS hmm g1 (by simp[Ax]) hv⟩⟩
 ·rcases A16 es.length with h0|hpos
  ·exact .inl ⟨h0,by rw[A0x h0];simp⟩
  ·exact .inr ⟨k,hpos,rfl,g2,by rw[hl];exact hn,g3,fun i j hi hj=>by
    rw[hl] at hi
    rw[hnr i hi];exact(g5 i j (by omega) hj).mono (fun _ _=>rfl) (fun _ h=>h) hmm⟩
 ·simp only[Ae] at hk
  split at hk
  ·cases hk
  ·exact⟨_,g1,hk⟩
theorem Aw.cut{s:St}{b sz:Nat}{es:List (List D)}(n:Nat)(hb:Ac s.hp b=some (.grow es sz))(hn:n<=es.length):Aw s (reS b (grG b (2*s.nx) n) (.grow (es.take n) sz) s):=by
 intro w0 M0 I0 nt I mu a w r
 obtain⟨A,cap,T,us,g1,g2,g3,g4⟩:=r.w.blk b _ hb
 have hnone:mu (2*s.nx)=none:=r.w.fresh _ ⟨by omega,A08 _⟩
 have hmm:=Bu (v:=.slice A n cap) hnone
 have hl:(es.take n).length=n:=by simp;omega
 have hnr:∀ i,i<n->nr (es.take n) i=nr es i:=by
  intro i hi;simp only[nr,A02];rw[A0r hi]
 refine⟨I,_,r.re (b:=b) (u:=.slice A n cap) rfl hb ⟨⟨A,cap,T,us,by simp[Ax,hl],fun i hi=>by rw[hl] at hi;rw[hnr i hi];exact g2 i (by omega),g3,?_⟩,fun k' hk=>⟨_,g1,by cases A with
  |none=>simp [Ae] at hk
  |some a=>exact hk⟩,fun d v hv=>rep_grG hmm g1 (by simp[Ax]) hv⟩⟩
 rcases g4 with⟨g4,rfl⟩|⟨k,q0,q1,q2,q3,q4,q5⟩
 ·exact .inl ⟨g4,by simp⟩
 ·exact .inr ⟨k,q0,q1,q2,by rw[hl];omega,q4,fun i j hi hj=>by
   rw[hl] at hi
   rw[hnr i hi];exact(q5 i j (by omega) hj).mono (fun _ _=>rfl) (fun _ h=>h) hmm⟩
def Dy:D->Bool
 |.val _|.any|.abool _ _=>true
 |.agg cs=>flatL cs
 |.tup cs=>flatL cs
 |.iface _ d=>Dy d
 |_=>false
where flatL:List D->Bool
 |[]=>true
 |d::r=>Dy d&&flatL r
theorem LX:∀ {l:List D},Dy.flatL l=true->∀ i,i<l.length->Dy (nd l i)=true
 |d::r,h,0,_=>by simp only[Dy.flatL,A09] at h;exact h.1
 |d::r,h,i+1,hi=>by simp only[Dy.flatL,A09] at h;exact LX h.2 i (by simpa using hi)
theorem Rep.flat{w w':World}{I J:Nat->Prop}{mu mu':Nat->Option Value}{d:D}{v:Value}(h:Rep w I mu d v)(hf:Dy d=true):Rep w' J mu' d v:=by
 induction h with
 |any v=>exact .any v
 |val v ok=>exact .val v ok
 |agg cs us hl _ ih=>exact .agg cs us hl fun i hi=>ih i hi (LX (by simpa[Dy] using hf) i hi)
 |tup cs us hl _ ih=>exact .tup cs us hl fun i hi=>ih i hi (LX (by simpa[Dy] using hf) i hi)
 |iface t d v _ ih=>exact .iface t d v (ih (by simpa[Dy] using hf))
 |abool n pos b h=>exact .abool n pos b h
 |_=>simp [Dy] at hf
def F7(hp:Nat->Option Blk):D->D
 |.sref b i len cap sz=>match hp b with
  |some (.rows es _)=>.slice ((es.drop i).take len) false
  |_=>.sref b i len cap sz
 |.gref b len=>match hp b with
  |some (.grow es _)=>.slice es false
  |_=>.gref b len
 |.ref b i off sz=>match hp b with
  |some (.rows es _)=>.ptr (nr es i) off
  |_=>.ref b i off sz
 |d=>d
def G1(hp:Nat->Option Blk):D->Prop
 |.sref b i len cap sz=>match hp b with
  |some (.rows es sz')=>sz=sz'/\i+len<=es.length/\len<=cap/\cap<=9223372036854775807/\A3 es=true
  |_=>False
 |.gref b len=>match hp b with
  |some (.grow es _)=>len=es.length/\A3 es=true
  |_=>False
 |.ref b i _ sz=>match hp b with
  |some (.rows es sz')=>sz=sz'/\i<es.length
  |_=>False
 |_=>True
def EI(hp:Nat->Option Blk):List D->Prop
 |[]=>True
 |d::r=>G1 hp d/\EI hp r
theorem FT{hp:Nat->Option Blk}:∀ {l:List D},EI hp l->∀ d ∈ l,G1 hp d
 |d::r,h,x,hx=>by
  rcases A0q.1 hx with rfl|hx
  ·exact h.1
  ·exact FT h.2 x hx
def Ul:D->List Nat
 |.sref b _ _ _ _=>[b]
 |.gref b _=>[b]
 |.ref b _ _ _=>[b]
 |_=>[]
def Ec:List D->List Nat
 |[]=>[]
 |d::r=>Ul d++Ec r
theorem Hg:∀ {l:List D},∀ d ∈ l,∀ b ∈ Ul d,b ∈ Ec l
 |d::r,x,hx,b,hb=>by
  simp only[Ec,A1o]
  rcases A0q.1 hx with rfl|hx
  ·exact .inl hb
  ·exact .inr (Hg x hx b hb)
theorem Rep.bor{w0:World}{M0:Nat->Prop}{I0:Gh}{fr I J:Nat->Prop}{mu:Nat->Option Value}{hp:Nat->Option Blk}{w:World}(hr:Ao w0 M0 I0 fr I mu hp w)(hIJ:∀ k,I k->J k)(hJ:∀ b x v k,hp b=some x->mu b=some v->Ae v=some k->J k){d:D}{v:Value}(h:Rep w I mu d v)(ho:G1 hp d):Rep w J mu (F7 hp d) v:=by
 have hz:=Rep.frz hr hIJ hJ 1 d v h
 have mono:=h.mono (w':=w) (I':=J) (mu':=mu) (fun _ _=>rfl) hIJ (fun _ _ h=>h)
 cases d with
 |sref b i len cap sz=>
  simp only[F7,G1] at*
  cases hb:hp b with
  |none=>rw [hb] at ho;exact ho.elim
  |some x=>
   rw[hb] at ho
   cases x with
   |rows es sz'=>
    obtain⟨h1,h2,h3,h4,h5⟩:=ho
    simp only[Go.Ab.frz,hb] at hz
    rw[if_pos ⟨h1,h2,h3,h4⟩,h5] at hz
    exact hz.loose
   |_=>exact ho.elim
 |gref b len=>
  simp only[F7,G1] at*
  cases hb:hp b with
  |none=>rw [hb] at ho;exact ho.elim
  |some x=>
   rw[hb] at ho
   cases x with
   |grow es sz'=>
    obtain⟨h1,h2⟩:=ho
    simp only[Go.Ab.frz,hb] at hz
    rw[if_pos ⟨h1,h2⟩] at hz
    exact hz
   |_=>exact ho.elim
 |ref b i off sz=>
  simp only[F7,G1] at*
  cases hb:hp b with
  |none=>rw [hb] at ho;exact ho.elim
  |some x=>
   rw[hb] at ho
   cases x with
   |rows es sz'=>
    simp only[Go.Ab.frz,hb] at hz
    rw[if_pos ho] at hz
    simpa[Go.Ab.frz] using hz
   |_=>exact ho.elim
 |_=>exact mono
theorem Qh{h hp:Nat->Option Blk}{d:D}(hb:∀ b ∈ Ul d,h b=hp b):F7 h d=F7 hp d/\(G1 hp d->G1 h d):=by
 cases d with
 |sref b i len cap sz=>have:=hb b (by simp[Ul]);simp only[F7,G1,this];exact⟨trivial,fun h=>h⟩
 |gref b len=>have:=hb b (by simp[Ul]);simp only[F7,G1,this];exact⟨trivial,fun h=>h⟩
 |ref b i off sz=>have:=hb b (by simp[Ul]);simp only[F7,G1,this];exact⟨trivial,fun h=>h⟩
 |_=>exact ⟨rfl,fun h=>h⟩
theorem GIn.mono{P:Program}{w:World}{I J:Nat->Prop}(h:GIn P w I)(hIJ:∀ k,I k->J k):GIn P w J:=fun g l hg=>⟨hIJ _ (h g l hg).1,(h g l hg).2⟩
theorem KB{P:Program}{id:Nat}{ev:Operand->D}{hp:Nat->Option Blk}{dst:Option Tmp}{T:TypeId}{pos:String}{af:Array Edge}{gd:Option (Nat×Bool)}{f:FuncId}{args:Array Operand}{ts:Array TypeId}{ds:List D}{r:D}
  (ha:(args.toList.map ev).map (F7 hp)=ds) (ho:EI hp (args.toList.map ev)) (hpu:Af ds=true) (hf:Dy r=true) (hc:A0 P f ds r):
  AB P ⟨dst,.call {callee:=.value (.func f),args:=args,argTypes:=ts},T,pos,af,gd⟩ id ev hp ⟨r,[],Ec (args.toList.map ev)⟩:=by
 intro w0 M0 I0 fr I mu h a w hga hw hid hxs hb K Q hK
 subst ha
 have hargs:=B8.args (w:=w) (I:=I) (mu:=mu) (ev:=ev) (a:=a) (args:=args) fun y hy=>hxs y (by simp[Op.operands,Call.operands];exact .inr (by simpa using hy))
 let J:Nat->Prop:=fun k=>I k∨∃ b x v,h b=some x/\mu b=some v/\Ae v=some k
 have hIJ:∀ k,I k->J k:=fun k hk=>.inl hk
 have hJ:∀ b x v k,h b=some x->mu b=some v->Ae v=some k->J k:=fun b x v k h1 h2 h3=>.inr ⟨b,x,v,h1,h2,h3⟩
 have hJl:∀ k,J k->k<w.heap.size:=by
  rintro k (hk|⟨b,x,v,h1,h2,h3⟩)
  ·exact hw.lt k hk
  ·exact(hw.loc b x v k h1 h2 h3).2.2
 have hall:B8 w J mu ((args.toList.map ev).map (F7 hp)) (args.toList.map a.eval):=by
  refine⟨by simpa using hargs.1,fun i hi=>?_⟩
  simp only[A07] at hi
  have hi':i<(args.toList.map ev).length:=by simpa using hi
  rw[CQ hi']
  have hmem:nd (args.toList.map ev) i ∈ args.toList.map ev:=by
   simp only[nd,A02,A0b hi',A0L]
   exact A0W hi'
  obtain⟨e1,e2⟩:=Qh (h:=h) (hp:=hp) (d:=nd (args.toList.map ev) i) fun b hb'=>hb b (Hg _ hmem b hb')
  rw[<-e1]
  exact Rep.bor hw hIJ hJ (hargs.2 i hi') (e2 (FT ho _ hmem))
 have hall':=hall.unmu (mu':=fun _=>none) hpu
 unfold A0 at hc
 have hcall:=hc.2 w J _ ((hga.at hw).mono hIJ) hJl hall'.1 hall'.2
 have hrun:(execOp a.eval ⟨dst,.call {callee:=.value (.func f),args:=args,argTypes:=ts},T,pos,af,gd⟩).run P w=.ok (.enter f (args.toList.map a.eval).toArray) w:=by
  have e1:args.map a.eval=(args.toList.map a.eval).toArray:=by apply Array.ext';simp
  simp only[execOp,resolve,Act.eval,Deferred.ofValue,A0e,A0k,Result.andThen,invoke]
  have e2:#[]++args.map a.eval++ #[]=(args.toList.map a.eval).toArray:=by rw[e1];simp
  exact(congrArg (fun z=>(callFunc f z).run P w) e2).trans (AX hc.1 _ w)
 refine C2 hrun ?_
 refine hcall.mono fun e w' ⟨v,I',he,hv,h1,h2,h3,h4⟩=>?_
 subst he
 have hext:Ext I mu w I mu w':=⟨fun _ h=>h,fun _ _ h=>h,fun k hk=>h4.block k (hw.lt k hk)⟩
 exact hK v w' I mu hext ((hw.below (fun _ h=>h) (fun _ h=>.inl h) (fun k hk=>A0P (hw.lt k hk) h4.size) h4).less fun b hb=>hb.1) (hv.flat hf)
noncomputable section
section
variable{P:Program}{ops:Array Oper}{nx:Nat}{dst:Option Tmp}{T:TypeId}{ps:String}{af:Array Edge}{gd:Option (Nat×Bool)}{f:FuncId}{args:Array Operand}{ts:Array TypeId}{ds:List D}{r:D}{l:List Oper}{pos:Nat}{acc:List Eff}{s:St}{K:List Eff->St->Prop}
theorem A1.borrow{bs:List Nat}(hbs:Ec (args.toList.map (evO P s.env.get))=bs)(hc:A0 P f ds r)(hg:gd=none∨∃ j want t,gd=some (j,want)/\AR ops j=some t/\gOf (s.env.get t) want=some true)(ha:(args.toList.map (evO P s.env.get)).map (F7 (Ac s.hp))=ds)(ho:EI (Ac s.hp) (args.toList.map (evO P s.env.get)))(hpu:Af ds=true)(hf:Dy r=true)
  (hk:GoS P ops nx l (pos+1) (⟨r,[],bs⟩::acc) (s.app dst ⟨r,[],bs⟩) K):A1 P ops nx (⟨dst,.call {callee:=.value (.func f),args:=args,argTypes:=ts},T,ps,af,gd⟩::l) pos acc s K:=by
 subst hbs
 rw[BY] at hk;rw[Ba]
 unfold Bs
 refine .inl ⟨_,?_,by have:=Go.run hk;unfold Bs at this;exact this⟩
 rcases hg with rfl|⟨j,want,t,rfl,ht,hg⟩
 ·exact B9.plain rfl (KB ha ho hpu hf hc)
 ·exact B9.guard_true rfl ht hg (KB ha ho hpu hf hc)
end
end
theorem Ao.sub{w0 w:World}{M0:Nat->Prop}{I0:Gh}{fr I:Nat->Prop}{mu:Nat->Option Value}{h h':Nat->Option Blk}(r:Ao w0 M0 I0 fr I mu h w)(hs:∀ b x,h' b=some x->h b=some x):Ao w0 M0 I0 fr I mu h' w:=
 ⟨fun b x hx=>r.blk b x (hs b x hx),fun b x v k hx=>r.loc b x v k (hs b x hx),fun b c x y v u k hx hy=>r.inj b c x y v u k (hs b x hx) (hs c y hy),r.fresh,r.lt,r.os,r.tape,r.output,r.grown,r.old,r.iold,r.inew,r.keep,fun b x hx=>r.used b x (hs b x hx)⟩
theorem GG{b:Nat}:∀ (bs:List Nat) (x:Option Blk),AO b x (bs.map fun c=>(c,none))=if b ∈ bs then none else x
 |[],x=>by simp[AO]
 |c::bs,x=>by
  have:=GG (b:=b) bs (if c=b then none else x)
  simp only[AO,A0j,A0t] at this|-
  rw[this]
  by_cases h:c=b
  ·subst h;simp
  ·simp[h,show ¬b=c from fun e=>h e.symm]
theorem NQ{P:Program}{id:Nat}{ev:Operand->D}{hp:Nat->Option Blk}{dst:Option Tmp}{T:TypeId}{pos:String}{af:Array Edge}{gd:Option (Nat×Bool)}{f:FuncId}{args:Array Operand}{ts:Array TypeId}{ds:List D}{r:D}
  (ha:(args.toList.map ev).map (F7 hp)=ds) (ho:EI hp (args.toList.map ev)) (hpu:Af ds=true) (hc:A0 P f ds r):
  AB P ⟨dst,.call {callee:=.value (.func f),args:=args,argTypes:=ts},T,pos,af,gd⟩ id ev hp ⟨r,(Ec (args.toList.map ev)).map fun c=>(c,none),Ec (args.toList.map ev)⟩:=by
 intro w0 M0 I0 fr I mu h a w hga hw hid hxs hb K Q hK
 subst ha
 have hargs:=B8.args (w:=w) (I:=I) (mu:=mu) (ev:=ev) (a:=a) (args:=args) fun y hy=>hxs y (by simp[Op.operands,Call.operands];exact .inr (by simpa using hy))
 generalize hbs:Ec (args.toList.map ev)=bs at*
 let hR:Nat->Option Blk:=fun b=>if b ∈ bs then h b else none
 have hRs:∀ b x,hR b=some x->h b=some x/\b ∈ bs:=by
  intro b x hx
  simp only[hR] at hx
  split at hx
  ·rename_i hm;exact⟨hx,hm⟩
  ·cases hx
 have hwR:Ao w0 M0 I0 fr I mu hR w:=hw.sub fun b x hx=>(hRs b x hx).1
 let J:Nat->Prop:=fun k=>I k∨∃ b x v,hR b=some x/\mu b=some v/\Ae v=some k
 have hIJ:∀ k,I k->J k:=fun k hk=>.inl hk
 have hJ:∀ b x v k,hR b=some x->mu b=some v->Ae v=some k->J k:=fun b x v k h1 h2 h3=>.inr ⟨b,x,v,h1,h2,h3⟩
 have hJl:∀ k,J k->k<w.heap.size:=by
  rintro k (hk|⟨b,x,v,h1,h2,h3⟩)
  ·exact hw.lt k hk
  ·exact(hwR.loc b x v k h1 h2 h3).2.2
 have hall:B8 w J mu ((args.toList.map ev).map (F7 hp)) (args.toList.map a.eval):=by
  refine⟨by simpa using hargs.1,fun i hi=>?_⟩
  simp only[A07] at hi
  have hi':i<(args.toList.map ev).length:=by simpa using hi
  rw[CQ hi']
  have hmem:nd (args.toList.map ev) i ∈ args.toList.map ev:=by
   simp only[nd,A02,A0b hi',A0L]
   exact A0W hi'
  obtain⟨e1,e2⟩:=Qh (h:=hR) (hp:=hp) (d:=nd (args.toList.map ev) i) fun b hb'=>by
   have hm:b ∈ bs:=by rw[<-hbs];exact Hg _ hmem b hb'
   simp only[hR,if_pos hm]
   exact hb b hm
  rw[<-e1]
  exact Rep.bor hwR hIJ hJ (hargs.2 i hi') (e2 (FT ho _ hmem))
 have hall':=hall.unmu (mu':=fun _=>none) hpu
 unfold A0 at hc
 have hcall:=hc.2 w J _ ((hga.at hw).mono hIJ) hJl hall'.1 hall'.2
 have hrun:(execOp a.eval ⟨dst,.call {callee:=.value (.func f),args:=args,argTypes:=ts},T,pos,af,gd⟩).run P w=.ok (.enter f (args.toList.map a.eval).toArray) w:=by
  have e1:args.map a.eval=(args.toList.map a.eval).toArray:=by apply Array.ext';simp
  simp only[execOp,resolve,Act.eval,Deferred.ofValue,A0e,A0k,Result.andThen,invoke]
  have e2:#[]++args.map a.eval++ #[]=(args.toList.map a.eval).toArray:=by rw[e1];simp
  exact(congrArg (fun z=>(callFunc f z).run P w) e2).trans (AX hc.1 _ w)
 refine C2 hrun ?_
 refine hcall.mono fun e w' ⟨v,I',he,hv,h1,h2,h3,h4⟩=>?_
 subst he
 have hbl:∀ k,k<w.heap.size->w'.heap[k]? =w.heap[k]?:=fun k hk=>h4.block k hk
 have hII:∀ k,I k->I' k:=fun k hk=>h1 k (hIJ k hk)
 have hext:Ext I mu w I' mu w':=⟨hII,fun _ _ h=>h,fun k hk=>hbl k (hw.lt k hk)⟩
 have hup:∀ b x,AO b (h b) (bs.map fun c=>(c,none))=some x->h b=some x/\b ∉ bs:=by
  intro b x hx
  rw[GG] at hx
  split at hx
  ·cases hx
  ·rename_i hm;exact⟨hx,hm⟩
 refine hK v w' I' mu hext ⟨fun b x hx=>?_,fun b x u k hx hu hk=>?_,fun b c x y u u' k hx hy=>hw.inj b c x y u u' k (hup b x hx).1 (hup c y hy).1,fun b hb'=>hw.fresh b hb'.1,h3,h4.os.trans hw.os,h4.tape.trans hw.tape,h4.output.trans hw.output,A0M hw.grown h4.size,fun k hk hnm=>(hbl k (by have:=hw.grown;omega)).trans (hw.old k hk hnm),fun k hk=>hII k (hw.iold k hk),fun k hk=>?_,hw.keep,fun b x hx hb'=>hw.used b x (hup b x hx).1 hb'.1⟩ (hv.mono (fun _ _=>rfl) (fun _ h=>h) (fun _ _ h=>by cases h))
 ·obtain⟨g1,g2⟩:=hup b x hx
  exact(hw.blk b x g1).mono hext.w hext.i hext.m fun u k hu hk=>hbl k (hw.loc b x u k g1 hu hk).2.2
 ·obtain⟨g1,g2⟩:=hup b x hx
  have g3:=hw.loc b x u k g1 hu hk
  refine⟨g3.1,fun hI=>?_,A0P g3.2.2 h4.size⟩
  rcases h2 k hI with(h5|⟨c,y,v',q1,q2,q3⟩)|h5
  ·exact g3.2.1 h5
  ·have:=hw.inj b c x y u v' k g1 (hRs c y q1).1 hu q2 hk q3
   exact g2 (this▸(hRs c y q1).2)
  ·omega
 ·rcases h2 k hk with(h5|⟨c,y,v',q1,q2,q3⟩)|h5
  ·exact hw.inew k h5
  ·exact .inr (hwR.loc c y v' k q1 q2 q3).1
  ·exact .inr (.inr (A0M hw.grown h5))
noncomputable section
section
variable{P:Program}{ops:Array Oper}{nx:Nat}{dst:Option Tmp}{T:TypeId}{ps:String}{af:Array Edge}{gd:Option (Nat×Bool)}{f:FuncId}{args:Array Operand}{ts:Array TypeId}{ds:List D}{r:D}{l:List Oper}{pos:Nat}{acc:List Eff}{s:St}{K:List Eff->St->Prop}
theorem A1.give{bs:List Nat}(hbs:Ec (args.toList.map (evO P s.env.get))=bs)(hc:A0 P f ds r)(hg:gd=none∨∃ j want t,gd=some (j,want)/\AR ops j=some t/\gOf (s.env.get t) want=some true)(ha:(args.toList.map (evO P s.env.get)).map (F7 (Ac s.hp))=ds)(ho:EI (Ac s.hp) (args.toList.map (evO P s.env.get)))(hpu:Af ds=true)
  (hk:GoS P ops nx l (pos+1) (⟨r,bs.map fun c=>(c,none),bs⟩::acc) (s.app dst ⟨r,bs.map fun c=>(c,none),bs⟩) K):A1 P ops nx (⟨dst,.call {callee:=.value (.func f),args:=args,argTypes:=ts},T,ps,af,gd⟩::l) pos acc s K:=by
 subst hbs
 rw[BY] at hk;rw[Ba]
 unfold Bs
 refine .inl ⟨_,?_,by have:=Go.run hk;unfold Bs at this;exact this⟩
 rcases hg with rfl|⟨j,want,t,rfl,ht,hg⟩
 ·exact B9.plain rfl (NQ ha ho hpu hc)
 ·exact B9.guard_true rfl ht hg (NQ ha ho hpu hc)
end
end
theorem Me{P:Program}{id:Nat}{ev:Operand->D}{hp:Nat->Option Blk}{dst:Option Tmp}{T:TypeId}{pos:String}{af:Array Edge}{gd:Option (Nat×Bool)}{x:Operand}{f:FuncId}{args:Array Operand}{ts:Array TypeId}{ds:List D}{r:D}
  (hx:ev x=.func (.func f) [] []) (ha:(args.toList.map ev).map (F7 hp)=ds) (ho:EI hp (args.toList.map ev)) (hpu:Af ds=true) (hc:A0 P f ds r):
  AB P ⟨dst,.call {callee:=.value x,args:=args,argTypes:=ts},T,pos,af,gd⟩ id ev hp ⟨r,(Ec (args.toList.map ev)).map fun c=>(c,none),Ec (args.toList.map ev)⟩:=by
 intro w0 M0 I0 fr I mu h a w hga hw hid hxs hb K Q hK
 subst ha
 have he:a.eval x=.func (.func f) #[] #[]:=by
  have hxr:=hxs x (by simp[Op.operands,Call.operands])
  rw[hx] at hxr
  generalize a.eval x=fv at hxr
  cases hxr with
  |func _ _ _ us vs hl hk h1 h2=>rw [A0U.1 hl,A0U.1 hk]
 have hargs:=B8.args (w:=w) (I:=I) (mu:=mu) (ev:=ev) (a:=a) (args:=args) fun y hy=>hxs y (by simp[Op.operands,Call.operands];exact .inr (by simpa using hy))
 generalize hbs:Ec (args.toList.map ev)=bs at*
 let hR:Nat->Option Blk:=fun b=>if b ∈ bs then h b else none
 have hRs:∀ b x,hR b=some x->h b=some x/\b ∈ bs:=by
  intro b x hx
  simp only[hR] at hx
  split at hx
  ·rename_i hm;exact⟨hx,hm⟩
  ·cases hx
 have hwR:Ao w0 M0 I0 fr I mu hR w:=hw.sub fun b x hx=>(hRs b x hx).1
 let J:Nat->Prop:=fun k=>I k∨∃ b x v,hR b=some x/\mu b=some v/\Ae v=some k
 have hIJ:∀ k,I k->J k:=fun k hk=>.inl hk
 have hJ:∀ b x v k,hR b=some x->mu b=some v->Ae v=some k->J k:=fun b x v k h1 h2 h3=>.inr ⟨b,x,v,h1,h2,h3⟩
 have hJl:∀ k,J k->k<w.heap.size:=by
  rintro k (hk|⟨b,x,v,h1,h2,h3⟩)
  ·exact hw.lt k hk
  ·exact(hwR.loc b x v k h1 h2 h3).2.2
 have hall:B8 w J mu ((args.toList.map ev).map (F7 hp)) (args.toList.map a.eval):=by
  refine⟨by simpa using hargs.1,fun i hi=>?_⟩
  simp only[A07] at hi
  have hi':i<(args.toList.map ev).length:=by simpa using hi
  rw[CQ hi']
  have hmem:nd (args.toList.map ev) i ∈ args.toList.map ev:=by
   simp only[nd,A02,A0b hi',A0L]
   exact A0W hi'
  obtain⟨e1,e2⟩:=Qh (h:=hR) (hp:=hp) (d:=nd (args.toList.map ev) i) fun b hb'=>by
   have hm:b ∈ bs:=by rw[<-hbs];exact Hg _ hmem b hb'
   simp only[hR,if_pos hm]
   exact hb b hm
  rw[<-e1]
  exact Rep.bor hwR hIJ hJ (hargs.2 i hi') (e2 (FT ho _ hmem))
 have hall':=hall.unmu (mu':=fun _=>none) hpu
 unfold A0 at hc
 have hcall:=hc.2 w J _ ((hga.at hw).mono hIJ) hJl hall'.1 hall'.2
 have hrun:(execOp a.eval ⟨dst,.call {callee:=.value x,args:=args,argTypes:=ts},T,pos,af,gd⟩).run P w=.ok (.enter f (args.toList.map a.eval).toArray) w:=by
  have e1:args.map a.eval=(args.toList.map a.eval).toArray:=by apply Array.ext';simp
  simp only[execOp,resolve,he,Deferred.ofValue,A0e,A0k,Result.andThen,invoke]
  have e2:#[]++args.map a.eval++ #[]=(args.toList.map a.eval).toArray:=by rw[e1];simp
  exact(congrArg (fun z=>(callFunc f z).run P w) e2).trans (AX hc.1 _ w)
 refine C2 hrun ?_
 refine hcall.mono fun e w' ⟨v,I',he,hv,h1,h2,h3,h4⟩=>?_
 subst he
 have hbl:∀ k,k<w.heap.size->w'.heap[k]? =w.heap[k]?:=fun k hk=>h4.block k hk
 have hII:∀ k,I k->I' k:=fun k hk=>h1 k (hIJ k hk)
 have hext:Ext I mu w I' mu w':=⟨hII,fun _ _ h=>h,fun k hk=>hbl k (hw.lt k hk)⟩
 have hup:∀ b x,AO b (h b) (bs.map fun c=>(c,none))=some x->h b=some x/\b ∉ bs:=by
  intro b x hx
  rw[GG] at hx
  split at hx
  ·cases hx
  ·rename_i hm;exact⟨hx,hm⟩
 refine hK v w' I' mu hext ⟨fun b x hx=>?_,fun b x u k hx hu hk=>?_,fun b c x y u u' k hx hy=>hw.inj b c x y u u' k (hup b x hx).1 (hup c y hy).1,fun b hb'=>hw.fresh b hb'.1,h3,h4.os.trans hw.os,h4.tape.trans hw.tape,h4.output.trans hw.output,A0M hw.grown h4.size,fun k hk hnm=>(hbl k (by have:=hw.grown;omega)).trans (hw.old k hk hnm),fun k hk=>hII k (hw.iold k hk),fun k hk=>?_,hw.keep,fun b x hx hb'=>hw.used b x (hup b x hx).1 hb'.1⟩ (hv.mono (fun _ _=>rfl) (fun _ h=>h) (fun _ _ h=>by cases h))
 ·obtain⟨g1,g2⟩:=hup b x hx
  exact(hw.blk b x g1).mono hext.w hext.i hext.m fun u k hu hk=>hbl k (hw.loc b x u k g1 hu hk).2.2
 ·obtain⟨g1,g2⟩:=hup b x hx
  have g3:=hw.loc b x u k g1 hu hk
  refine⟨g3.1,fun hI=>?_,A0P g3.2.2 h4.size⟩
  rcases h2 k hI with(h5|⟨c,y,v',q1,q2,q3⟩)|h5
  ·exact g3.2.1 h5
  ·have:=hw.inj b c x y u v' k g1 (hRs c y q1).1 hu q2 hk q3
   exact g2 (this▸(hRs c y q1).2)
  ·omega
 ·rcases h2 k hk with(h5|⟨c,y,v',q1,q2,q3⟩)|h5
  ·exact hw.inew k h5
  ·exact .inr (hwR.loc c y v' k q1 q2 q3).1
  ·exact .inr (.inr (A0M hw.grown h5))
noncomputable section
section
variable{P:Program}{ops:Array Oper}{nx:Nat}{dst:Option Tmp}{T:TypeId}{ps:String}{af:Array Edge}{gd:Option (Nat×Bool)}{f:FuncId}{args:Array Operand}{ts:Array TypeId}{ds:List D}{r:D}{l:List Oper}{pos:Nat}{acc:List Eff}{s:St}{K:List Eff->St->Prop}
theorem A1.giveV{x:Operand}{bs:List Nat}(hx:evO P s.env.get x=.func (.func f) [] [])(hbs:Ec (args.toList.map (evO P s.env.get))=bs)(hc:A0 P f ds r)(hg:gd=none∨∃ j want t,gd=some (j,want)/\AR ops j=some t/\gOf (s.env.get t) want=some true)(ha:(args.toList.map (evO P s.env.get)).map (F7 (Ac s.hp))=ds)(ho:EI (Ac s.hp) (args.toList.map (evO P s.env.get)))(hpu:Af ds=true)
  (hk:GoS P ops nx l (pos+1) (⟨r,bs.map fun c=>(c,none),bs⟩::acc) (s.app dst ⟨r,bs.map fun c=>(c,none),bs⟩) K):A1 P ops nx (⟨dst,.call {callee:=.value x,args:=args,argTypes:=ts},T,ps,af,gd⟩::l) pos acc s K:=by
 subst hbs
 rw[BY] at hk;rw[Ba]
 unfold Bs
 refine .inl ⟨_,?_,by have:=Go.run hk;unfold Bs at this;exact this⟩
 rcases hg with rfl|⟨j,want,t,rfl,ht,hg⟩
 ·exact B9.plain rfl (Me hx ha ho hpu hc)
 ·exact B9.guard_true rfl ht hg (Me hx ha ho hpu hc)
end
end
def Kf(d:D)(x y:Prop):Prop:=
 match d with
 |.val (.bool b)=>E3 b x y
 |.abool n pos=>((pos=true->n=0)->x)/\((pos=false->n=0)->y)
 |_=>False
def Rr(ops:Array Oper)(E:List Eff):Prop:=Dp ops (Fb E)=true
@[congr] theorem ordB_congr{ops:Array Oper}{E:List Eff}{u:Unit}(h:G9 ()=u):Rr ops E=Rr ops E:=rfl
def QR(R:(AE->St->Prop)->St->Prop)(Q:AE->St->Prop):AE->St->Prop
 |.normal,s=>R Q s
 |e,s=>Q e s
def VC(P:Program)(nt:Nat)(fz:List Nat):Code->(AE->St->Prop)->St->Prop
 |.skip,Q,s=>Q .normal s
 |.ret,Q,s=>Q .ret s
 |.exit id,Q,s=>Q (.exit id) s
 |.label _,Q,s=>Q .normal s
 |.seq a b,Q,s=>VC P nt fz a (QR (VC P nt fz b) Q) s
 |.block id c,Q,s=>VC P nt fz c (HW id Q) s
 |.cond c a b,Q,s=>Kf (evO P s.env.get c) (VC P nt fz a Q s) (VC P nt fz b Q s)
 |.region _ ops draw,Q,s=>Go P ops s.nx ops.toList 0 [] s (fun E s'=>cond draw (Rr ops E/\Q .normal (fzL fz ⟨s'.env,s'.hp,s.nx+4*ops.size⟩)) (KI ops.toList E (Q .normal (fzL fz ⟨s'.env,s'.hp,s.nx+4*ops.size⟩)) (Rp Q (s.nx+4*ops.size) s')))
 |.loop c,Q,s=>AWp P nt (.loop c) Q s
 |.scope c,Q,s=>AWp P nt (.scope c) Q s
 |.rangeFunc f ps a b,Q,s=>AWp P nt (.rangeFunc f ps a b) Q s
 |.goto l,Q,s=>AWp P nt (.goto l) Q s
 |.refuse w,Q,s=>AWp P nt (.refuse w) Q s
noncomputable section
def VCS:Program->Nat->List Nat->Code->(AE->St->Prop)->St->Prop:=Po VC
theorem E4:VCS=VC:=JF VC
section
variable(P:Program)(nt:Nat)(fz:List Nat)(Q:AE->St->Prop)(s:St)
theorem VCS_skip:VCS P nt fz .skip Q s=Q .normal s:=by rw[E4];rfl
theorem VCS_ret:VCS P nt fz .ret Q s=Q .ret s:=by rw[E4];rfl
theorem VCS_exit(id:Nat):VCS P nt fz (.exit id) Q s=Q (.exit id) s:=by rw[E4];rfl
theorem Xx(l:Nat):VCS P nt fz (.label l) Q s=Q .normal s:=by rw[E4];rfl
theorem VCS_seq(a b:Code):VCS P nt fz (.seq a b) Q s=VCS P nt fz a (QR (VCS P nt fz b) Q) s:=by rw[E4];rfl
theorem Xy(id:Nat)(c:Code):VCS P nt fz (.block id c) Q s=VCS P nt fz c (HW id Q) s:=by rw[E4];rfl
theorem VCS_cond(c:Operand)(a b:Code):VCS P nt fz (.cond c a b) Q s=Kf (evO P s.env.get c) (VCS P nt fz a Q s) (VCS P nt fz b Q s):=by rw[E4];rfl
theorem Qn(id:Nat)(l:List Oper):VCS P nt fz (.region id l.toArray true) Q s=GoS P l.toArray s.nx l 0 [] s (fun E s'=>Rr l.toArray E/\Q .normal (fzL fz ⟨s'.env,s'.hp,s.nx+4*l.length⟩)):=by rw[E4,BY];rfl
theorem Qo(id:Nat)(l:List Oper):VCS P nt fz (.region id l.toArray false) Q s=GoS P l.toArray s.nx l 0 [] s (fun E s'=>KI l E (Q .normal (fzL fz ⟨s'.env,s'.hp,s.nx+4*l.length⟩)) (Rp Q (s.nx+4*l.length) s')):=by rw[E4,BY];rfl
theorem VCS_loop(c:Code):VCS P nt fz (.loop c) Q s=AWp P nt (.loop c) Q s:=by rw[E4];rfl
theorem Xw(c:Code):VCS P nt fz (.scope c) Q s=AWp P nt (.scope c) Q s:=by rw[E4];rfl
end
theorem QQ(R:(AE->St->Prop)->St->Prop)(Q:AE->St->Prop)(s:St):QR R Q .normal s=R Q s:=rfl
theorem VK(R:(AE->St->Prop)->St->Prop)(Q:AE->St->Prop)(s:St)(i:Nat):QR R Q (.exit i) s=Q (.exit i) s:=rfl
theorem VJ(R:(AE->St->Prop)->St->Prop)(Q:AE->St->Prop)(s:St)(i:Nat):QR R Q (.goto i) s=Q (.goto i) s:=rfl
theorem XX(R:(AE->St->Prop)->St->Prop)(Q:AE->St->Prop)(s:St):QR R Q .ret s=Q .ret s:=rfl
theorem T7(R:(AE->St->Prop)->St->Prop)(Q:AE->St->Prop)(s:St)(d:D):QR R Q (.panic d) s=Q (.panic d) s:=rfl
@[congr] theorem VCS_congr{P:Program}{nt:Nat}{fz:List Nat}{c:Code}{Q:AE->St->Prop}{s s':St}(h:G9 s=s'):VCS P nt fz c Q s=VCS P nt fz c Q s':=by rw[<-h];rfl
end
@[congr] theorem regK_congr{l:List Oper}{E:List Eff}{x y:Prop}{u:Unit}(h:G9 ()=u):KI l E x y=KI l E x y:=rfl
theorem Yh(l:List Oper)(e:Eff)(E:List Eff)(x y:Prop):KI l (List.reverse (e::E)) x y=x:=by
 unfold KI
 split
 ·rename_i h;simp at h
 ·rfl
theorem Yi(o:Oper)(l:List Oper)(x y:Prop):KI (o::l) [] x y=y:=congrArg (fun x=>x) rfl
theorem panQ_eq(Q:AE->St->Prop)(nx:Nat)(s:St):Rp Q nx s=Q (.panic (s.env.get Bg)) ⟨(Bg,.any)::s.env,s.hp,nx⟩:=congrArg (fun x=>x) rfl
@[congr] theorem panQ_congr{Q:AE->St->Prop}{nx:Nat}{s s':St}(h:G9 s=s'):Rp Q nx s=Rp Q nx s':=by rw[<-h];rfl
attribute [push_cast] Yh Yi panQ_eq
@[congr] theorem CondVC_congr{d d':D}{x y:Prop}(h:G9 d=d'):Kf d x y=Kf d' x y:=by rw[<-h];rfl
theorem AWp.same{P:Program}{nt:Nat}{c:Code}{Q:AE->St->Prop}{s:St}(h:AWp P nt c (fun e s=>∃ s',s'.fs=s.fs/\s'.nx=s.nx/\Q e s') s):AWp P nt c Q s:=fun w0 M0 I0 g I mu a w r b k cs hro hb hroom=>by
 obtain⟨e,a',w',⟨x,s',I',mu',⟨s'',h1,h2,h3⟩,he,r'⟩,harr⟩:=h w0 M0 I0 g I mu a w r b k cs hro hb hroom
 exact⟨e,a',w',⟨x,s'',I',mu',h3,he,by rw[h1,h2];exact r'⟩,harr⟩
def QW(Q:AE->St->Prop):AE->St->Prop
 |.normal,s=>∃ s',Aw s s'/\Q .normal s'
 |e,s=>Q e s
theorem AWp.postW{P:Program}{nt:Nat}{c:Code}{Q:AE->St->Prop}{s:St}(h:AWp P nt c (QW Q) s):AWp P nt c Q s:=fun w0 M0 I0 g I mu a w r b k cs hro hb hroom=>by
 obtain⟨e,a',w',⟨x,s',I',mu',hq,he,r'⟩,harr⟩:=h w0 M0 I0 g I mu a w r b k cs hro hb hroom
 cases x with
 |normal=>
  obtain⟨s'',h1,h2⟩:=hq
  obtain⟨I'',mu'',r''⟩:=h1 w0 M0 I0 nt I' mu' a' w' r'
  exact⟨e,a',w',⟨.normal,s'',I'',mu'',h2,by cases e<;>simp_all [Fr],r''⟩,harr⟩
 |_=>exact ⟨e,a',w',⟨_,s',I',mu',hq,he,r'⟩,harr⟩
theorem Run.mono{P:Program}{ops:Array Oper}{nx:Nat}{K K':List Eff->St->Prop}(hK:∀ E s,K E s->K' E s):∀ {l:List Oper} {pos:Nat} {acc:List Eff} {s:St},Run P ops nx l pos acc s K->Run P ops nx l pos acc s K'
 |[],_,_,_,h=>hK _ _ h
 |_::_,_,_,_,.inl ⟨e,h1,h2⟩=>.inl ⟨e,h1,Run.mono hK h2⟩
 |_::_,_,_,_,.inr (.inl ⟨F,he,h1,h2⟩)=>.inr (.inl ⟨F,he,h1,fun e hF=>Run.mono hK (h2 e hF)⟩)
 |_::_,_,_,_,.inr (.inr ⟨d,h1,h2⟩)=>.inr (.inr ⟨d,h1,hK _ _ h2⟩)
theorem N4{l:List Oper}{E:List Eff}{x y x' y':Prop}(h:KI l E x y)(hx:x->x')(hy:y->y'):KI l E x' y':=by
 cases E with
 |nil=>cases l with
  |nil=>exact hx h
  |cons o l=>exact hy h
 |cons e E=>cases l<;>exact hx h
def Cv(nt:Nat):Code->Bool
 |.seq a b=>Cv nt a&&Cv nt b
 |.block _ c=>Cv nt c
 |.cond _ a b=>Cv nt a&&Cv nt b
 |.region _ ops _=>J3 nt ops.toList
 |_=>true
theorem VC.sound0{P:Program}{nt:Nat}{fz:List Nat}(hm:P.follows .mixedOrders=true):∀ {c:Code} {Q:AE->St->Prop} {s:St},Cv nt c=true->VC P nt fz c Q s->AWp P nt c Q s
 |.skip,_,_,_,h=>AWp.skip h
 |.ret,_,_,_,h=>AWp.ret h
 |.exit _,_,_,_,h=>AWp.exit h
 |.label _,_,_,_,h=>AWp.label h
 |.seq a b,Q,s,hc,h=>by
  simp only[Cv,A09] at hc
  exact AWp.seq (AWp.mono (VC.sound0 hm (c:=a) hc.1 h) fun e s hq=>by
   cases e with
   |normal=>exact VC.sound0 hm (c:=b) hc.2 hq
   |_=>exact hq)
 |.block _ c,_,_,hc,h=>AWp.block (VC.sound0 hm (c:=c) hc h)
 |.cond c a b,Q,s,hc,h=>by
  simp only[Cv,A09] at hc
  simp only[VC] at h
  unfold Kf at h
  split at h
  ·rename_i x hx
   exact AWp.cond hx (fun hb=>VC.sound0 hm (c:=a) hc.1 (h.1 hb)) (fun hb=>VC.sound0 hm (c:=b) hc.2 (h.2 hb))
  ·rename_i hx
   exact AWp.condA hx (fun hn=>VC.sound0 hm (c:=a) hc.1 (h.1 hn)) (fun hn=>VC.sound0 hm (c:=b) hc.2 (h.2 hn))
  ·exact h.elim
 |.region id ops draw,Q,s,hc,h=>by
  simp only[VC] at h
  have hgo:=h
  have hin:J3 nt ops.toList=true:=hc
  obtain⟨l⟩:=ops
  have hr:=(Go.run hgo).out
  cases draw with
  |false=>
   refine AWp.postW (AWp.same (AWp.region hin (Run.mono (fun E t h=>?_) hr)))
   obtain⟨s',h1,h2⟩:=h
   refine N4 h2 (fun h2=>⟨⟨s'.env,s'.hp,s.nx+4*l.length⟩,h1,rfl,_,Aw.fzL _ _,h2⟩) fun h2=>?_
   have e1:s'.env.get Bg=t.env.get Bg:=congrFun (congrArg FSt.env h1) Bg
   refine⟨⟨(Bg,.any)::s'.env,s'.hp,s.nx+4*l.length⟩,?_,rfl,?_⟩
   ·have:=FSt.app_eq h1 (some Bg) ⟨.any,[],[]⟩
    simpa[St.app,DT,St.fs] using this
   ·rw[<-e1];exact h2
  |true=>exact AWp.postW (AWp.same (AWp.region_draw hm hin (Run.mono (fun E t h=>by obtain⟨s',h1,h2,h3⟩:=h;exact⟨h2,⟨s'.env,s'.hp,s.nx+4*l.length⟩,h1,rfl,_,Aw.fzL _ _,h3⟩) hr)))
 |.loop _,_,_,_,h=>h
 |.scope _,_,_,_,h=>h
 |.rangeFunc _ _ _ _,_,_,_,h=>h
 |.goto _,_,_,_,h=>h
 |.refuse _,_,_,_,h=>h
theorem VC.sound{P:Program}{nt:Nat}{fz:List Nat}(hm:P.follows .mixedOrders=true){c:Code}{Q:AE->St->Prop}{s:St}(hc:Cv nt c=true)(h:VCS P nt fz c Q s):AWp P nt c Q s:=by
 rw[E4] at h;exact VC.sound0 hm hc h
mutual
def szD:D->Prop
 |.val v=>okP v
 |.agg cs=>szL cs
 |.tup cs=>szL cs
 |.slice es _=>es.length<=9223372036854775807/\QI es
 |.ptr cs _=>szL cs
 |.iface _ d=>szD d
 |.func _ fs cs=>szL fs/\szL cs
 |_=>True
def szL:List D->Prop
 |[]=>True
 |d::l=>szD d/\szL l
def QI:List (List D)->Prop
 |[]=>True
 |d::l=>szL d/\QI l
end
theorem Fs:∀ {l:List D},(∀ i,i<l.length->szD (nd l i))->szL l
 |[],_=>trivial
 |d::l,h=>⟨by simpa[nd] using h 0 (by simp),Fs fun i hi=>by simpa[nd] using h (i+1) (by simpa using hi)⟩
theorem KL:∀ {l:List (List D)},(∀ i,i<l.length->szL (nr l i))->QI l
 |[],_=>trivial
 |d::l,h=>⟨by simpa[nr] using h 0 (by simp),KL fun i hi=>by simpa[nr] using h (i+1) (by simpa using hi)⟩
theorem XP{α:Type}{f:α->List D}{l:List α}:QI (l.map f)↔∀ x ∈ l,szL (f x):=by
 induction l<;>simp [QI, *]
theorem Rep.sz{w:World}{I:Nat->Prop}{mu:Nat->Option Value}{d:D}{v:Value}(h:Rep w I mu d v):szD d:=by
 induction h with
 |any v=>trivial
 |val v ok=>exact ok
 |cond g d v _ _ _=>trivial
 |agg cs us hl _ ih=>exact Fs ih
 |tup cs us hl _ ih=>exact Fs ih
 |slice es t A k o sz cap u hA hc ht hm hlen hcell _ ih=>
  exact⟨A0M hc hm,KL fun i hi=>Fs fun j hj=>ih i j hi (by rw[hlen i hi] at hj;exact hj)⟩
 |ptr cs off k o u hk hcell _ ih=>exact Fs ih
 |ref _ _ _ _ _ _=>trivial
 |sref _ _ _ _ _ _ _=>trivial
 |gref _ _ _ _ _=>trivial
 |mref _ _ _=>trivial
 |yld _ _ _=>trivial
 |func fn fs cs us vs hl hk _ _ ih ih'=>exact ⟨Fs ih,Fs ih'⟩
 |iface t d v _ ih=>exact ih
 |abool n pos b h=>trivial
 |gel _ _ _ _ _ _ _ _=>trivial
 |gsub _ _ _ _ _ _ _ _ _ _ _=>trivial
def szB:Blk->Prop
 |.rows es _=>QI es
 |.grow es _=>es.length<=9223372036854775807/\QI es
 |.map es _=>∀ p ∈ es,szD p.2.2
 |_=>True
theorem D6.sz{w:World}{I:Nat->Prop}{mu:Nat->Option Value}{b:Nat}{x:Blk}(h:D6 w I mu b x):szB x:=by
 cases x with
 |rows es sz=>
  obtain⟨k,T,us,h1,h2,h3,h4,h5⟩:=h
  exact KL fun i hi=>Fs fun j hj=>(h5 i j hi (by rw[h4 i hi] at hj;exact hj)).sz
 |grow es sz=>
  obtain⟨A,cap,T,us,h1,h2,h3,h4⟩:=h
  rcases h4 with⟨h5,h6⟩|⟨k,q0,q1,q2,q3,q4,q5⟩
  ·subst h6;exact⟨by simp,trivial⟩
  ·exact⟨A0M q3 h3,KL fun i hi=>Fs fun j hj=>(q5 i j hi (by rw[h2 i hi] at hj;exact hj)).sz⟩
 |iter m since seen last=>trivial
 |obj o=>trivial
 |loop _ _ _ _ _ _ _=>trivial
 |pr _ _=>trivial
 |junk=>trivial
 |map es ck=>
  obtain⟨k,l,h1,h2,h3,_,h4⟩:=h
  intro p hp
  obtain⟨i,hi⟩:=List.getElem?_of_mem hp
  have hl:l.length=es.length:=by have:=congrArg List.length h3;simpa using this
  have hlt:=(List.getElem?_eq_some_iff.1 hi).1
  exact(h4 i (l[i]'(by omega)) p (A0b (by omega)) hi).sz
theorem AWp.sz{P:Program}{nt:Nat}{c:Code}{Q:AE->St->Prop}{s:St}(h:(∀ t,szD (s.env.get t))->(∀ b x,Ac s.hp b=some x->szB x)->AWp P nt c Q s):AWp P nt c Q s:=fun w0 M0 I0 g I mu a w r=>
 h (fun t=>(r.env t).sz) (fun b x hx=>D6.sz (r.w.blk b x hx)) w0 M0 I0 g I mu a w r
theorem fzD_fun(b:Nat)(x:Blk):fzD b x=frz (J4 b x) 4:=rfl
theorem Pt(r:Nat->Nat)(a b:List (List D)):D9 r (a++b)=D9 r a++D9 r b:=by simp[DU]
theorem Ku(n:Nat):∀ (a b:List (List D)),Eg n (a++b)=(Eg n a&&Eg n b)
 |[],b=>by simp[Eg]
 |x::a,b=>by simp[Eg,Ku n a b,Bool.and_assoc]
theorem Rz:∀ (a b c:List (List D)),Cx (a++b) (a++c)=Cx b c
 |[],b,c=>rfl
 |x::a,b,c=>by simp only[A0d,Cx,Rz a b c,eq_true (AI x),true_and]
attribute [push_cast] Pt Ku Rz
def BG:List (Nat×Nat)->Nat->Nat
 |[],b=>b
 |(a,c)::l,b=>bif a==b then c else BG l b
theorem Rf:∀ {l:List (Nat×Nat)},(l.all fun p=>p.1%2==0)=true->∀ b,b%2=1->BG l b=b
 |[],_,b,_=>rfl
 |(a,c)::l,h,b,hb=>by
  simp only[List.all_cons,A09,beq_iff_eq] at h
  have:(a==b)=false:=by
   have:=h.1
   simp;omega
  simp only[BG,this,cond_false]
  exact Rf h.2 b hb
attribute [push_cast] Fo WS
attribute [push_cast] BG DZ J6 Gt
attribute [push_cast] szD szL QI szB XP okP
attribute [push_cast] Nn Wo reS unD un0D unB grS grG F7 G1 EI Ul Ec Dy Dy.flatL
theorem VV(r:Nat->Nat)(es:List (List D))(sz:Nat):EM r (.rows es sz)=.rows (D9 r es) sz:=rfl
theorem VZ(r:Nat->Nat)(es:List (List D))(sz:Nat):EM r (.grow es sz)=.grow (D9 r es) sz:=rfl
theorem Yg(r:Nat->Nat)(es:List (Value×Nat×D))(ck:Nat):EM r (.map es ck)=.map (es.map fun p=>(p.1,p.2.1,AT r p.2.2)) ck:=rfl
theorem VY(r:Nat->Nat)(m a:Nat)(b:List Nat)(c:Nat):EM r (.iter m a b c)=.iter (r m) a b c:=rfl
theorem Yf(r:Nat->Nat)(o:Obj):EM r (.obj o)=.obj o:=rfl
theorem renB_pr(r:Nat->Nat)(g:Nat)(p:Value->Value->Option Obj->Prop):EM r (.pr g p)=.pr (r g) p:=rfl
theorem VX(r:Nat->Nat):EM r .junk=.junk:=rfl
theorem VW(r:Nat->Nat)(env:Env)(nt:Nat)(st:LoopState)(pd:Option Code)(ps:List Nat)(a c:Code):EM r (.loop env nt st pd ps a c)=.loop (Fo (AT r) env) nt st pd ps a c:=rfl
theorem YY(n:Nat)(es:List (List D))(sz:Nat):ltB n (.rows es sz)=Eg n es:=rfl
theorem Z3(n:Nat)(es:List (List D))(sz:Nat):ltB n (.grow es sz)=Eg n es:=rfl
theorem ltB_map(n:Nat)(es:List (Value×Nat×D))(ck:Nat):ltB n (.map es ck)=es.all fun p=>ltD n p.2.2:=rfl
theorem Z2(n m a:Nat)(b:List Nat)(c:Nat):ltB n (.iter m a b c)=okN n m:=rfl
theorem ltB_obj(n:Nat)(o:Obj):ltB n (.obj o)=true:=rfl
theorem ltB_pr(n g:Nat)(p:Value->Value->Option Obj->Prop):ltB n (.pr g p)=okN n g:=rfl
theorem Z1(n:Nat):ltB n .junk=true:=rfl
theorem YZ(n:Nat)(env:Env)(nt:Nat)(st:LoopState)(pd:Option Code)(ps:List Nat)(a c:Code):ltB n (.loop env nt st pd ps a c)=WS (ltD n) env:=rfl
theorem Wp(F:D->D)(es:List (List D))(sz:Nat):J7 F (.rows es sz)=.rows (es.map fun r=>r.map F) sz:=rfl
theorem Wu(F:D->D)(es:List (List D))(sz:Nat):J7 F (.grow es sz)=.grow (es.map fun r=>r.map F) sz:=rfl
theorem YX(F:D->D)(es:List (Value×Nat×D))(ck:Nat):J7 F (.map es ck)=.map (es.map fun p=>(p.1,p.2.1,F p.2.2)) ck:=rfl
theorem Wt(F:D->D)(m a:Nat)(b:List Nat)(c:Nat):J7 F (.iter m a b c)=.iter m a b c:=rfl
theorem YW(F:D->D)(o:Obj):J7 F (.obj o)=.obj o:=rfl
theorem mapB_pr(F:D->D)(g:Nat)(p:Value->Value->Option Obj->Prop):J7 F (.pr g p)=.pr g p:=rfl
theorem Ws(F:D->D):J7 F .junk=.junk:=rfl
theorem Wq(F:D->D)(env:Env)(nt:Nat)(st:LoopState)(pd:Option Code)(ps:List Nat)(a c:Code):J7 F (.loop env nt st pd ps a c)=.loop (Fo F env) nt st pd ps a c:=rfl
attribute [push_cast] renB_pr ltB_pr mapB_pr VV VZ Yg VY Yf VX VW YY Z3 ltB_map Z2 ltB_obj Z1 YZ Wp Wu YX Wt YW Ws Wq fzL fzS fzE fzD_fun fzH J4 okN VCS_skip VCS_ret VCS_exit Xx VCS_seq Xy VCS_cond Qn Qo VCS_loop Xw QQ VK VJ XX T7 Kf C3 Kj Kj.junkB C9 DE Ct CP B3 LC MG Ho MM RD ltD ltL Eg AT BX D9
end Go.Ab
