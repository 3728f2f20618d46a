/- The layer by which the program is walked, and what its functions do: part 5 of 15. -/
import Derived.Test.YtacnknlmijkobaaGreatDoorV3
set_option maxHeartbeats 4000000
set_option maxRecDepth 20000
set_option linter.unusedVariables false
set_option linter.unusedSimpArgs false
set_option linter.unnecessarySimpa false
namespace Go.Ab
open Go.RowKit
mutual
def AV(r:Nat->Nat):D->D
 |.any=>.any
 |.val v=>.val v
 |.cond g d=>.cond g (AV r d)
 |.agg cs=>.agg (BZ r cs)
 |.tup cs=>.tup (BZ r cs)
 |.slice es t=>.slice (Db r es) t
 |.ptr cs o=>.ptr (BZ r cs) o
 |.func fn fs cs=>.func fn (BZ r fs) (BZ r cs)
 |.iface t d=>.iface t (AV r d)
 |.ref b i o s=>.ref (r b) i o s
 |.sref b i l c s=>.sref (r b) i l c s
 |.gref b l=>.gref (r b) l
 |.mref b=>.mref (r b)
 |.yld b=>.yld (r b)
 |.abool n p=>.abool n p
 |.gel b i o s=>.gel (r b) i o s
 |.gsub b i l s=>.gsub (r b) i l s
def BZ(r:Nat->Nat):List D->List D
 |[]=>[]
 |d::l=>AV r d::BZ r l
def Db(r:Nat->Nat):List (List D)->List (List D)
 |[]=>[]
 |d::l=>BZ r d::Db r l
end
def okN(n b:Nat):Bool:=b%2==1 ||decide (b<2*n)
mutual
def ltD(n:Nat):D->Bool
 |.any=>true
 |.val _=>true
 |.cond _ d=>ltD n d
 |.agg cs=>ltL n cs
 |.tup cs=>ltL n cs
 |.slice es _=>Ev n es
 |.ptr cs _=>ltL n cs
 |.func _ fs cs=>ltL n fs&&ltL n cs
 |.iface _ d=>ltD n d
 |.ref b _ _ _=>okN n b
 |.sref b _ _ _ _=>okN n b
 |.gref b _=>okN n b
 |.mref b=>okN n b
 |.yld b=>okN n b
 |.gel b _ _ _=>okN n b
 |.gsub b _ _ _=>okN n b
 |.abool _ _=>true
def ltL(n:Nat):List D->Bool
 |[]=>true
 |d::l=>ltD n d&&ltL n l
def Ev(n:Nat):List (List D)->Bool
 |[]=>true
 |d::l=>ltL n d&&Ev n l
end
mutual
theorem Fu(r:Nat->Nat):∀ (d:D),d.pure=true->AV r d=d
 |.any,_=>rfl
 |.abool _ _,_=>rfl
 |.val _,_=>rfl
 |.cond g d,h=>by simp only[AV];rw[Fu r d (by simpa[D.pure] using h)]
 |.agg cs,h=>by simp only[AV];rw[BR r cs (by simpa[D.pure] using h)]
 |.tup cs,h=>by simp only[AV];rw[BR r cs (by simpa[D.pure] using h)]
 |.slice es _,h=>by simp only[AV];rw[Ja r es (by simpa[D.pure] using h)]
 |.ptr cs _,h=>by simp only[AV];rw[BR r cs (by simpa[D.pure] using h)]
 |.func _ fs cs,h=>by
  simp only[D.pure,A07] at h
  simp only[AV];rw[BR r fs h.1,BR r cs h.2]
 |.iface _ d,h=>by simp only[AV];rw[Fu r d (by simpa[D.pure] using h)]
 |.ref _ _ _ _,h=>by simp[D.pure] at h
 |.sref _ _ _ _ _,h=>by simp[D.pure] at h
 |.gref _ _,h=>by simp[D.pure] at h
 |.yld _,h=>by simp[D.pure] at h
 |.mref _,h=>by simp[D.pure] at h
 |.gel _ _ _ _,h=>by simp[D.pure] at h
 |.gsub _ _ _ _,h=>by simp[D.pure] at h
theorem BR(r:Nat->Nat):∀ (l:List D),Ag l=true->BZ r l=l
 |[],_=>rfl
 |d::l,h=>by
  simp only[Ag,A07] at h
  simp only[BZ];rw[Fu r d h.1,BR r l h.2]
theorem Ja(r:Nat->Nat):∀ (l:List (List D)),A6 l=true->Db r l=l
 |[],_=>rfl
 |d::l,h=>by
  simp only[A6,A07] at h
  simp only[Db];rw[BR r d h.1,Ja r l h.2]
end
mutual
theorem GZ(n:Nat):∀ (d:D),d.pure=true->ltD n d=true
 |.any,_=>rfl
 |.abool _ _,_=>rfl
 |.val _,_=>rfl
 |.cond g d,h=>by simp only[ltD];exact GZ n d (by simpa[D.pure] using h)
 |.agg cs,h=>by simp only[ltD];exact Ct n cs (by simpa[D.pure] using h)
 |.tup cs,h=>by simp only[ltD];exact Ct n cs (by simpa[D.pure] using h)
 |.slice es _,h=>by simp only[ltD];exact Ki n es (by simpa[D.pure] using h)
 |.ptr cs _,h=>by simp only[ltD];exact Ct n cs (by simpa[D.pure] using h)
 |.func _ fs cs,h=>by
  simp only[D.pure,A07] at h
  simp only[ltD,A07];exact⟨Ct n fs h.1,Ct n cs h.2⟩
 |.iface _ d,h=>by simp only[ltD];exact GZ n d (by simpa[D.pure] using h)
 |.ref _ _ _ _,h=>by simp[D.pure] at h
 |.sref _ _ _ _ _,h=>by simp[D.pure] at h
 |.gref _ _,h=>by simp[D.pure] at h
 |.yld _,h=>by simp[D.pure] at h
 |.mref _,h=>by simp[D.pure] at h
 |.gel _ _ _ _,h=>by simp[D.pure] at h
 |.gsub _ _ _ _,h=>by simp[D.pure] at h
theorem Ct(n:Nat):∀ (l:List D),Ag l=true->ltL n l=true
 |[],_=>rfl
 |d::l,h=>by
  simp only[Ag,A07] at h
  simp only[ltL,A07];exact⟨GZ n d h.1,Ct n l h.2⟩
theorem Ki(n:Nat):∀ (l:List (List D)),A6 l=true->Ev n l=true
 |[],_=>rfl
 |d::l,h=>by
  simp only[A6,A07] at h
  simp only[Ev,A07];exact⟨Ct n d h.1,Ki n l h.2⟩
end
theorem PM(r:Nat->Nat):∀ l:List D,BZ r l=l.map (AV r)
 |[]=>rfl
 |d::l=>by simp[BZ,PM r l]
theorem E3(r:Nat->Nat):∀ l:List (List D),Db r l=l.map (BZ r)
 |[]=>rfl
 |d::l=>by simp[Db,E3 r l]
theorem Eb{n:Nat}:∀ {cs:List D},ltL n cs=true->∀ i,ltD n (nd cs i)=true
 |[],_,i=>by simp[nd,ltD]
 |d::r,h,0=>by simp only[ltL,A07] at h;simpa[nd] using h.1
 |d::r,h,i+1=>by simp only[ltL,A07] at h;have:=Eb h.2 i;simpa[nd] using this
theorem Lb{n:Nat}:∀ {es:List (List D)},Ev n es=true->∀ i,ltL n (nr es i)=true
 |[],_,i=>by simp[nr,ltL]
 |d::r,h,0=>by simp only[Ev,A07] at h;simpa[nr] using h.1
 |d::r,h,i+1=>by simp only[Ev,A07] at h;have:=Lb h.2 i;simpa[nr] using this
theorem BO{r:Nat->Nat}{cs:List D}{i:Nat}(hi:i<cs.length):nd (BZ r cs) i=AV r (nd cs i):=by rw[PM];exact CT hi
theorem Cg{r:Nat->Nat}{es:List (List D)}{i:Nat}(hi:i<es.length):nr (Db r es) i=BZ r (nr es i):=by rw[E3];simp[nr,A02,hi]
theorem Aw(r:Nat->Nat)(cs:List D):(BZ r cs).length=cs.length:=by rw[PM];simp
theorem AG(r:Nat->Nat)(cs:List (List D)):(Db r cs).length=cs.length:=by rw[E3];simp
theorem Rep.ren{w:World}{I:Nat->Prop}{mu mu':Nat->Option Value}{r:Nat->Nat}{n:Nat}(hmu:∀ b x,okN n b=true->mu (r b)=some x->mu' b=some x){d':D}{v:Value}(h:Rep w I mu d' v):∀ {d:D},d'=AV r d->ltD n d=true->Rep w I mu' d v:=by
 induction h with
 |any v=>intro d he hl;cases d<;>simp only[AV,reduceCtorEq] at he;exact .any v
 |abool n pos b h=>intro d he hl;cases d<;>simp only[AV,reduceCtorEq,D.abool.injEq] at he;obtain⟨rfl,rfl⟩:=he;exact .abool _ _ b h
 |val v ok=>intro d he hl;cases d<;>simp only[AV,reduceCtorEq,D.val.injEq] at he;subst he;exact .val v ok
 |cond g d v _ h' ih=>
  intro d he hl;cases d<;>simp only[AV,reduceCtorEq,D.cond.injEq] at he
  obtain⟨rfl,he⟩:=he
  exact .cond _ _ v (fun hg=>ih hg he (by simpa[ltD] using hl)) h'
 |agg cs us hl _ ih=>
  intro d he hlt;cases d<;>simp only[AV,reduceCtorEq,D.agg.injEq] at he
  subst he
  rw[Aw] at hl ih
  exact .agg _ us hl fun i hi=>ih i hi (BO hi) (Eb (by simpa[ltD] using hlt) i)
 |tup cs us hl _ ih=>
  intro d he hlt;cases d<;>simp only[AV,reduceCtorEq,D.tup.injEq] at he
  subst he
  rw[Aw] at hl ih
  exact .tup _ us hl fun i hi=>ih i hi (BO hi) (Eb (by simpa[ltD] using hlt) i)
 |slice es tight A k o sz cap u hA hc ht hm hlen hcell _ ih=>
  intro d he hlt;cases d<;>simp only[AV,reduceCtorEq,D.slice.injEq] at he
  obtain⟨rfl,rfl⟩:=he
  rw[AG] at hA hc ht hlen hcell ih
  rename_i es t
  have:=Rep.slice (w:=w) (I:=I) (mu:=mu') es tight A k o sz cap u hA hc ht hm (fun i hi=>by have:=hlen i hi;rw[Cg hi,Aw] at this;exact this) hcell (fun i j hi hj=>ih i j hi hj (by
    have h1:=hlen i hi
    rw[Cg hi,Aw] at h1
    rw[Cg hi,BO (by omega)]) (Eb (Lb (by simpa[ltD] using hlt) i) j))
  rw[AG]
  exact this
 |ptr cs off k o u hk hcell _ ih=>
  intro d he hlt;cases d<;>simp only[AV,reduceCtorEq,D.ptr.injEq] at he
  obtain⟨rfl,rfl⟩:=he
  rw[Aw] at hk hcell ih
  exact .ptr _ _ k o u hk hcell fun j hj=>ih j hj (BO hj) (Eb (by simpa[ltD] using hlt) j)
 |ref b i off sz k h=>
  intro d he hlt;cases d<;>simp only[AV,reduceCtorEq,D.ref.injEq] at he
  obtain⟨rfl,rfl,rfl,rfl⟩:=he
  exact .ref _ _ _ _ k (hmu _ _ (by simpa[ltD] using hlt) h)
 |sref b i len cap sz k h=>
  intro d he hlt;cases d<;>simp only[AV,reduceCtorEq,D.sref.injEq] at he
  obtain⟨rfl,rfl,rfl,rfl,rfl⟩:=he
  exact .sref _ _ _ _ _ k (hmu _ _ (by simpa[ltD] using hlt) h)
 |gref b len A cap h=>
  intro d he hlt;cases d<;>simp only[AV,reduceCtorEq,D.gref.injEq] at he
  obtain⟨rfl,rfl⟩:=he
  exact .gref _ _ A cap (hmu _ _ (by simpa[ltD] using hlt) h)
 |mref b k h=>
  intro d he hlt;cases d<;>simp only[AV,reduceCtorEq,D.mref.injEq] at he
  subst he
  exact .mref _ k (hmu _ _ (by simpa[ltD] using hlt) h)
 |yld b k h=>
  intro d he hlt;cases d<;>simp only[AV,reduceCtorEq,D.yld.injEq] at he
  subst he
  exact .yld _ k (hmu _ _ (by simpa[ltD] using hlt) h)
 |gel b i off sz k len cap h=>
  intro d he hlt;cases d<;>simp only[AV,reduceCtorEq,D.gel.injEq] at he
  obtain⟨rfl,rfl,rfl,rfl⟩:=he
  exact .gel _ _ _ _ k len cap (hmu _ _ (by simpa[ltD] using hlt) h)
 |gsub b i len sz A B m cap h hle hB=>
  intro d he hlt;cases d<;>simp only[AV,reduceCtorEq,D.gsub.injEq] at he
  obtain⟨rfl,rfl,rfl,rfl⟩:=he
  exact .gsub _ _ _ _ A B m cap (hmu _ _ (by simpa[ltD] using hlt) h) hle hB
 |func fn fs cs us vs hl hk _ _ ih ih'=>
  intro d he hlt;cases d<;>simp only[AV,reduceCtorEq,D.func.injEq] at he
  obtain⟨rfl,rfl,rfl⟩:=he
  rw[Aw] at hl hk ih ih'
  simp only[ltD,A07] at hlt
  exact .func _ _ _ us vs hl hk (fun i hi=>ih i hi (BO hi) (Eb hlt.1 i)) fun i hi=>ih' i hi (BO hi) (Eb hlt.2 i)
 |iface t d v _ ih=>
  intro d he hlt;cases d<;>simp only[AV,reduceCtorEq,D.iface.injEq] at he
  obtain⟨rfl,rfl⟩:=he
  exact .iface _ _ v (ih rfl (by simpa[ltD] using hlt))
def F2(r:Nat->Nat):Blk->Blk
 |.rows es sz=>.rows (Db r es) sz
 |.grow es sz=>.grow (Db r es) sz
 |.map es ck=>.map (es.map fun p=>(p.1,p.2.1,AV r p.2.2)) ck
 |.iter m since seen last=>.iter (r m) since seen last
 |.obj o=>.obj o
 |.loop env nt st pd ps a c=>.loop (FG (AV r) env) nt st pd ps a c
 |.pr g p=>.pr (r g) p
 |.junk=>.junk
def ltB(n:Nat):Blk->Bool
 |.rows es _=>Ev n es
 |.grow es _=>Ev n es
 |.map es _=>es.all fun p=>ltD n p.2.2
 |.iter m _ _ _=>okN n m
 |.loop env _ _ _ _ _ _=>Xf (ltD n) env
 |.pr g _=>okN n g
 |_=>true
theorem D7.ren{w:World}{I:Nat->Prop}{mu mu':Nat->Option Value}{r:Nat->Nat}{n b:Nat}(hmu:∀ b x,okN n b=true->mu (r b)=some x->mu' b=some x){x:Blk}(hb:okN n b=true)(h:D7 w I mu (r b) (F2 r x))(hl:ltB n x=true):D7 w I mu' b x:=by
 cases x with
 |rows es sz=>
  obtain⟨k,T,us,h1,h2,h3,h4,h5⟩:=h
  rw[AG] at h3 h4 h5
  have h4':∀ i,i<es.length->(nr es i).length=sz:=fun i hi=>by have:=h4 i hi;rw[Cg hi,Aw] at this;exact this
  exact⟨k,T,us,hmu b _ hb h1,h2,h3,h4',fun i j hi hj=>(h5 i j hi hj).ren hmu (by rw[Cg hi,BO (by rw[h4' i hi];exact hj)]) (Eb (Lb hl i) j)⟩
 |grow es sz=>
  obtain⟨A,cap,T,us,h1,h2,h3,h4⟩:=h
  rw[AG] at h1 h2 h4
  have h2':∀ i,i<es.length->(nr es i).length=sz:=fun i hi=>by have:=h2 i hi;rw[Cg hi,Aw] at this;exact this
  refine⟨A,cap,T,us,hmu b _ hb h1,h2',h3,?_⟩
  rcases h4 with⟨h5,h6⟩|⟨k,g0,g1,g2,g3,g4,g5⟩
  ·refine .inl ⟨h5,?_⟩
   rw[E3] at h6
   exact List.map_eq_nil_iff.1 h6
  ·exact .inr ⟨k,g0,g1,g2,g3,g4,fun i j hi hj=>(g5 i j hi hj).ren hmu (by rw[Cg hi,BO (by rw[h2' i hi];exact hj)]) (Eb (Lb hl i) j)⟩
 |map es ck=>
  obtain⟨k,l,h1,h2,h3,h4,h5⟩:=h
  refine⟨k,l,hmu b _ hb h1,h2,by rw[h3];simp[Function.comp_def],by rw[h4];simp[Function.comp_def],fun i x y hx hy=>(h5 i x (y.1,y.2.1,AV r y.2.2) hx (by simp[hy])).ren hmu rfl (A0u.1 hl y (A1G hy))⟩
 |iter m since seen last=>
  obtain⟨k,km,h1,h2,h3⟩:=h
  exact⟨k,km,hmu b _ hb h1,hmu m _ hl h2,h3⟩
 |obj o=>
  obtain⟨k,h1,h2⟩:=h
  exact⟨k,hmu b _ hb h1,h2⟩
 |loop env nt st pd ps a c=>
  obtain⟨k,fn,tmps,kd,h1,h2,h3,h4⟩:=h
  exact⟨k,fn,tmps,kd,hmu b _ hb h1,h2,h3,fun t=>(h4 t).ren hmu (Hy (F:=AV r) rfl env t) (Sj (p:=ltD n) rfl hl t)⟩
 |pr g p=>
  obtain⟨v,u,h1,h2,h3,h4,h5⟩:=h
  exact⟨v,u,hmu b _ hb h1,hmu g _ hl h2,h3,h4,h5⟩
 |junk=>trivial
def C7(r:Nat->Nat)(e:Env):Env->Prop
 |[]=>True
 |(t,d)::l=>lo (e.get t) (AV r d)/\C7 r e l
def KG(n:Nat)(r:Nat->Nat)(h:Hp):Hp->Prop
 |[]=>True
 |(b,x)::l=>(match Ad h (r b) with
  |some y=>loB y (F2 r x)
  |none=>junkB x=true/\r b%2=0/\2*n<=r b)/\KG n r h l
where junkB:Blk->Bool
 |.junk=>true
 |_=>false
def HR(n:Nat):Env->Bool
 |[]=>true
 |(_,d)::l=>ltD n d&&HR n l
def N4(n:Nat):Hp->Bool
 |[]=>true
 |(b,x)::l=>okN n b&&ltB n x&&N4 n l
def RW(r:Nat->Nat)(h:Hp):Bool:=(h.map (·.1)).all fun b=>(h.map (·.1)).all fun c=>!(r b==r c) ||b==c
theorem FN{r:Nat->Nat}{e:Env}{n:Nat}:∀ {l:Env},C7 r e l->HR n l=true->∀ t,(∃ d,l.get t=d/\lo (e.get t) (AV r d)/\ltD n d=true)∨l.get t=.any
 |[],_,_,t=>.inr rfl
 |(k,d)::l,h,ho,t=>by
  simp only[HR,A07] at ho
  by_cases hk:k=t
  ·subst hk;exact .inl ⟨d,by simp[Env.get],h.1,ho.1⟩
  ·have:(k==t)=false:=by simp[hk]
   simp only[Env.get,this,cond_false]
   exact FN h.2 ho.2 t
theorem DI{r:Nat->Nat}{e:Hp}{m n:Nat}:∀ {l:Hp},KG m r e l->N4 n l=true->∀ b x,Ad l b=some x->((∃ y,Ad e (r b)=some y/\loB y (F2 r x))∨(x=.junk/\frN m (r b)))/\okN n b=true/\ltB n x=true/\b ∈ l.map (·.1)
 |[],_,_,b,x,hx=>by simp[Ad] at hx
 |(k,y)::l,h,ho,b,x,hx=>by
  simp only[N4,A07] at ho
  by_cases hk:k=b
  ·subst hk
   simp only[Ad,beq_self_eq_true,cond_true,A03] at hx
   subst hx
   refine⟨?_,?_⟩
   ·have h1:=h.1
    split at h1
    ·rename_i y' hy;exact .inl ⟨y',hy,h1⟩
    ·exact .inr ⟨by have:=h1.1;cases y<;>simp [KG.junkB] at this|-,h1.2⟩
   exact⟨ho.1.1,ho.1.2,by simp⟩
  ·have:(k==b)=false:=by simp[hk]
   simp only[Ad,this,cond_false] at hx
   have:=DI h.2 ho.2 b x hx
   exact⟨this.1,this.2.1,this.2.2.1,A0p _ this.2.2.2⟩
theorem Ar.sub{s S:St}(r:Nat->Nat)(hr:∀ b,b%2=1->r b=b)(he:C7 r s.env S.env)(hh:KG s.nx r s.hp S.hp)(hok:HR S.nx S.env=true)(hokh:N4 S.nx S.hp=true)(hinj:RW r S.hp=true):Ar s S:=by
 intro w0 M0 I0 nt I mu a w rel
 let mu':Nat->Option Value:=fun b=>if okN S.nx b=true then mu (r b) else none
 have hmu:∀ b,okN S.nx b=true->mu' b=mu (r b):=fun b hb=>by simp[mu',hb]
 have hmu':∀ b x,okN S.nx b=true->mu (r b)=some x->mu' b=some x:=fun b x hb h=>by rw[hmu b hb];exact h
 refine⟨I,mu',rel.size,rel.defers,fun t=>?_,⟨fun b x hx=>?_,fun b x v k hx hv hk=>?_,fun b c x y v u k hx hy hv hu hk hk'=>?_,fun b hb=>?_,rel.w.lt,rel.w.os,rel.w.tape,rel.w.output,rel.w.grown,rel.w.old,rel.w.iold,rel.w.inew,fun b x hb hn=>?_,fun b x hx hb=>?_⟩⟩
 ·rcases FN he hok t with⟨d,h1,h2,h3⟩|h1
  ·have:=rel.env t
   have e1:s.fs.env t=s.env.get t:=rfl
   rw[e1] at this
   show Rep w I mu' (S.env.get t) _
   rw[h1]
   exact(this.lo h2).ren hmu' rfl h3
  ·show Rep w I mu' (S.env.get t) _
   rw[h1];exact .any _
 ·obtain⟨h0,h2,h3,_⟩:=DI hh hokh b x hx
  rcases h0 with⟨y,h1,h1'⟩|⟨rfl,_⟩
  ·exact(D7.lo (rel.w.blk (r b) _ h1) h1').ren hmu' h2 h3
  ·trivial
 ·obtain⟨h0,h2,h3,_⟩:=DI hh hokh b x hx
  rw[hmu b h2] at hv
  rcases h0 with⟨y,h1,_⟩|⟨_,h1⟩
  ·exact rel.w.loc (r b) _ v k h1 hv hk
  ·rw[rel.w.fresh _ h1] at hv;cases hv
 ·obtain⟨h0,h2,h3,m1⟩:=DI hh hokh b x hx
  obtain⟨g0,g2,g3,m2⟩:=DI hh hokh c y hy
  rw[hmu b h2] at hv
  rw[hmu c g2] at hu
  obtain⟨_,h1,_⟩:=h0.resolve_right fun h=>by rw[rel.w.fresh _ h.2] at hv;cases hv
  obtain⟨_,g1,_⟩:=g0.resolve_right fun h=>by rw[rel.w.fresh _ h.2] at hu;cases hu
  have:=rel.w.inj (r b) (r c) _ _ v u k h1 g1 hv hu hk hk'
  have:=A0u.1 (A0u.1 hinj b m1) c m2
  simp_all
 ·have:¬okN S.nx b=true:=by
   have h1:=hb.1
   have h2:=hb.2
   simp[okN];omega
  simp[mu',this]
 ·rw[hmu b (by simp[okN,hb]),hr b hb]
  exact rel.w.keep b x hb hn
 ·obtain⟨_,h2,_⟩:=DI hh hokh b x hx
  have h3:=hb.1
  have h4:=hb.2
  simp[okN] at h2
  omega
def A2(P:Program)(f:FuncId)(ds:List D)(H:Hp)(r:D)(H':Hp):Prop:=
 Bl P f=true/\∀ (w:World) (M0:Nat->Prop) (G:Gh) (I:Nat->Prop) (mu:Nat->Option Value) (vs:List Value),GA P w M0 G->G.dl=[]->Ap w M0 G (frN 4) I mu (Ad H) w->Bc w I mu ds vs->
  Calls P f vs.toArray w fun e w'=>∃ v I' mu',e=.returned v/\Rep w' I' mu' r v/\Ap w M0 G (frN 4) I' mu' (Ad H') w'
def MY(P:Program)(rs:List ResultVar)(r:D)(H':Hp):AE->St->Prop
 |.ret,s|.normal,s=>∃ d,J9 P s rs=some d/\Ar ⟨[(0,d)],s.hp,s.nx⟩ ⟨[(0,r)],H',4⟩
 |_,_=>False
theorem Ff{w:World}{I:Nat->Prop}{mu:Nat->Option Value}{ds:List D}{vs:List Value}(h:Bc w I mu ds vs)(n t:Nat):Rep w I mu ((Be 0 ds).get t) ((vs.toArray++Array.replicate n undef).getD t undef):=by
 have hget:=EY ds 0 t
 simp only[A0D,true_and,A1c,Nat.sub_zero] at hget
 rw[hget]
 by_cases ht:t<ds.length
 ·rw[if_pos ht]
  have e:(vs.toArray++Array.replicate n undef).getD t undef=nv vs t:=by
   have:=h.1
   simp only[nv,A02,A1g]
   rw[Array.getElem?_append_left (by simp;omega)]
   simp
  rw[e];exact h.2 t ht
 ·rw[if_neg ht];exact .any _
theorem A2.of_awp{P:Program}{nt:Nat}{f:FuncId}{fn:Func}{c:Code}{ds:List D}{H:Hp}{r:D}{H':Hp}(hf:P.funcs[f]? =some fn)(hb:fn.body=some c)(hn:fn.ntmps=nt)(hent:Bl P f=true)(hlen:ds.length<=nt){rs:List ResultVar}(hrs:fn.results.toList=rs)
  (h:AWp P nt c (MY P rs r H') ⟨Be 0 ds,H,4⟩):A2 P f ds H r H':=by
 subst hrs
 refine⟨hent,fun w M0 G0 I mu vs hga hdl hw hrep=>?_⟩
 let G:Gh:=⟨G0.st,G0.nm,[],Fence.wide,0,.inl rfl⟩
 have hG:∀ k,G k->k<w.heap.size:=fun k hk=>hw.lt k (hw.iold k hk)
 refine callsIn_wide.1 (callsIn_of_wp_marks (n:=0) hf hb trivial (wpIn_mono (h w M0 G hga I mu _ w ⟨?_,BJ.refl _ _ _ _,fun t=>Ff hrep _ t,⟨hw.blk,hw.loc,hw.inj,hw.fresh,hw.lt,hw.os,hw.tape,hw.output,hw.grown,hw.old,hw.iold,hw.inew,hw.keep,hw.used⟩⟩) ?_))
 ·have:=hrep.1;simp[hn];omega
 ·rintro e a' w' ⟨x,s',I',mu',hq,he,r'⟩
  have fin:∀ d,J9 P s' fn.results.toList=some d->Ar ⟨[(0,d)],s'.hp,s'.nx⟩ ⟨[(0,r)],H',4⟩->LeavesInM Fence.wide 0 P fn a'.tmps (fun e w'=>∃ v I' mu',e=.returned v/\Rep w' I' mu' r v/\Ap w M0 G0 (frN 4) I' mu' (Ad H') w') a'.defers .returning w':=by
   intro d hd hwk
   refine r'.leave hG rfl hd fun v w2 I2 _ W2 h2=>?_
   obtain⟨I3,mu3,R3⟩:=hwk w M0 G 1 I2 mu' {tmps:=#[v],defers:=[]} w2 ⟨rfl,BJ.refl _ _ _ _,fun t=>by
    cases t with
    |zero=>simpa [St.fs,Env.get] using h2
    |succ t=>simp [St.fs,Env.get];exact .any _,W2⟩
   have r0:=R3.env 0
   exact⟨v,I3,mu3,rfl,by simpa[St.fs,Env.get] using r0,⟨R3.w.blk,R3.w.loc,R3.w.inj,R3.w.fresh,R3.w.lt,R3.w.os,R3.w.tape,R3.w.output,R3.w.grown,R3.w.old,R3.w.iold,R3.w.inew,R3.w.keep,R3.w.used⟩⟩
  cases x<;>cases e<;>simp only[FK] at he<;>simp only[MY] at hq
  case normal.normal=>
   obtain⟨d,hd,hfr⟩:=hq
   exact fin d hd hfr
  case ret.ret=>
   obtain⟨d,hd,hfr⟩:=hq
   exact fin d hd hfr
theorem A2.lo{P:Program}{f:FuncId}{ds ds':List D}{H:Hp}{r:D}{H':Hp}(h:A2 P f ds H r H')(hl:loL ds' ds):A2 P f ds' H r H':=by
 obtain⟨h1,h2⟩:=h
 obtain⟨l1,l2⟩:=BD hl
 exact⟨h1,fun w M0 G I mu vs hga hdl hw hr=>h2 w M0 G I mu vs hga hdl hw ⟨by rw[hr.1,l1],fun i hi=>(hr.2 i (by omega)).lo (l2 i (by omega))⟩⟩
theorem A0.lo{P:Program}{f:FuncId}{ds ds':List D}{r:D}(h:A0 P f ds r)(hl:loL ds' ds):A0 P f ds' r:=by
 unfold A0 at h|-
 obtain⟨l1,l2⟩:=BD hl
 exact⟨h.1,fun w I vs hga hI hl hr=>h.2 w I vs hga hI (by omega) fun i hi=>(hr i (by omega)).lo (l2 i (by omega))⟩
theorem Rep.into{w:World}{I:Nat->Prop}{mu mu':Nat->Option Value}{r:Nat->Nat}(hmu:∀ b x,x≠undef->mu b=some x->mu' (r b)=some x){d:D}{v:Value}(h:Rep w I mu d v):Rep w I mu' (AV r d) v:=by
 induction h with
 |any v=>exact .any v
 |abool n pos b h=>exact .abool _ _ b h
 |val v ok=>exact .val v ok
 |cond g d v _ h' ih=>exact .cond _ _ v ih h'
 |agg cs us hl _ ih=>
  simp only[AV]
  refine .agg _ us (by rw[Aw];exact hl) fun i hi=>?_
  rw[Aw] at hi
  rw[BO hi];exact ih i hi
 |tup cs us hl _ ih=>
  simp only[AV]
  refine .tup _ us (by rw[Aw];exact hl) fun i hi=>?_
  rw[Aw] at hi
  rw[BO hi];exact ih i hi
 |slice es tight A k o sz cap u hA hc ht hm hlen hcell _ ih=>
  simp only[AV]
  have:=Rep.slice (w:=w) (I:=I) (mu:=mu') (Db r es) tight A k o sz cap u (by rw[AG];exact hA) (by rw[AG];exact hc) (by rw[AG];exact ht) hm
   (fun i hi=>by rw[AG] at hi;rw[Cg hi,Aw];exact hlen i hi) (by rw[AG];exact hcell) (fun i j hi hj=>by
    rw[AG] at hi
    rw[Cg hi,BO (by rw[hlen i hi];exact hj)];exact ih i j hi hj)
  rw[AG] at this
  exact this
 |ptr cs off k o u hk hcell _ ih=>
  simp only[AV]
  refine .ptr _ _ k o u (by rw[Aw];exact hk) (by rw[Aw];exact hcell) fun j hj=>?_
  rw[Aw] at hj
  rw[BO hj];exact ih j hj
 |ref b i off sz k h=>exact .ref _ _ _ _ k (hmu _ _ (by simp[undef]) h)
 |sref b i len cap sz k h=>exact .sref _ _ _ _ _ k (hmu _ _ (by simp[undef]) h)
 |gref b len A cap h=>exact .gref _ _ A cap (hmu _ _ (by simp[undef]) h)
 |mref b k h=>exact .mref _ k (hmu _ _ (by simp[undef]) h)
 |yld b k h=>exact .yld _ k (hmu _ _ (by simp[undef]) h)
 |gel b i off sz k len cap h=>exact .gel _ _ _ _ k len cap (hmu _ _ (by simp[undef]) h)
 |gsub b i len sz A B n cap h hle hB=>exact .gsub _ _ _ _ A B n cap (hmu _ _ (by simp[undef]) h) hle hB
 |func fn fs cs us vs hl hk _ _ ih ih'=>
  simp only[AV]
  refine .func _ _ _ us vs (by rw[Aw];exact hl) (by rw[Aw];exact hk) (fun i hi=>?_) fun i hi=>?_
  ·rw[Aw] at hi;rw[BO hi];exact ih i hi
  ·rw[Aw] at hi;rw[BO hi];exact ih' i hi
 |iface t d v _ ih=>exact .iface t _ v ih
theorem D7.into{w:World}{I:Nat->Prop}{mu mu':Nat->Option Value}{r:Nat->Nat}(hmu:∀ b x,x≠undef->mu b=some x->mu' (r b)=some x){b:Nat}{x:Blk}(h:D7 w I mu b x):D7 w I mu' (r b) (F2 r x):=by
 cases x with
 |rows es sz=>
  obtain⟨k,T,us,h1,h2,h3,h4,h5⟩:=h
  refine⟨k,T,us,hmu _ _ (by simp[undef]) h1,h2,by rw[AG];exact h3,fun i hi=>?_,fun i j hi hj=>?_⟩
  ·rw[AG] at hi;rw[Cg hi,Aw];exact h4 i hi
  ·rw[AG] at hi;rw[Cg hi,BO (by rw[h4 i hi];exact hj)];exact(h5 i j hi hj).into hmu
 |grow es sz=>
  obtain⟨A,cap,T,us,h1,h2,h3,h4⟩:=h
  refine⟨A,cap,T,us,by rw[AG];exact hmu _ _ (by simp[undef]) h1,fun i hi=>?_,h3,?_⟩
  ·rw[AG] at hi;rw[Cg hi,Aw];exact h2 i hi
  ·rcases h4 with⟨h5,rfl⟩|⟨k,g0,g1,g2,g3,g4,g5⟩
   ·exact .inl ⟨h5,rfl⟩
   ·refine .inr ⟨k,g0,g1,g2,by rw[AG];exact g3,g4,fun i j hi hj=>?_⟩
    rw[AG] at hi;rw[Cg hi,BO (by rw[h2 i hi];exact hj)];exact(g5 i j hi hj).into hmu
 |map es ck=>
  obtain⟨k,l,h1,h2,h3,h4,h5⟩:=h
  refine⟨k,l,hmu _ _ (by simp[undef]) h1,h2,by rw[h3];simp[Function.comp_def],by rw[h4];simp[Function.comp_def],fun i x y hx hy=>?_⟩
  simp only[A0x,A1z] at hy
  obtain⟨z,hz,rfl⟩:=hy
  exact(h5 i x z hx hz).into hmu
 |iter m since seen last=>
  obtain⟨k,km,h1,h2,h3⟩:=h
  exact⟨k,km,hmu _ _ (by simp[undef]) h1,hmu _ _ (by simp[undef]) h2,h3⟩
 |obj o=>
  obtain⟨k,h1,h2⟩:=h
  exact⟨k,hmu _ _ (by simp[undef]) h1,h2⟩
 |loop env nt st pd ps a c=>
  obtain⟨k,fn,tmps,kd,h1,h2,h3,h4⟩:=h
  exact⟨k,fn,tmps,kd,hmu _ _ (by simp[undef]) h1,h2,h3,fun t=>by rw[Hy (F:=AV r) rfl];exact(h4 t).into hmu⟩
 |pr g p=>
  obtain⟨v,u,h1,h2,h3,h4,h5⟩:=h
  exact⟨v,u,hmu _ _ h3 h1,hmu _ _ h4 h2,h3,h4,h5⟩
 |junk=>trivial
def Ba(r:Nat->Nat)(hp:Nat->Option Blk):Hp->Prop
 |[]=>True
 |(b,x)::l=>(match hp (r b) with
  |some y=>loB y (F2 r x)
  |none=>False)/\Ba r hp l
theorem KF{r:Nat->Nat}{hp:Nat->Option Blk}:∀ {l:Hp},Ba r hp l->∀ b x,Ad l b=some x->∃ y,hp (r b)=some y/\loB y (F2 r x)
 |[],_,b,x,hx=>by simp[Ad] at hx
 |(k,y)::l,h,b,x,hx=>by
  by_cases hk:k=b
  ·subst hk
   simp only[Ad,beq_self_eq_true,cond_true,A03] at hx
   subst hx
   have h1:=h.1
   split at h1
   ·rename_i y hy;exact⟨y,hy,h1⟩
   ·exact h1.elim
  ·have:(k==b)=false:=by simp[hk]
   simp only[Ad,this,cond_false] at hx
   exact KF h.2 b x hx
theorem ES:∀ {l:Hp} {b:Nat} {x:Blk},Ad l b=some x->b ∈ l.map (·.1)
 |[],b,x,h=>by simp[Ad] at h
 |(k,y)::l,b,x,h=>by
  by_cases hk:k=b
  ·simp[hk]
  ·have:(k==b)=false:=by simp[hk]
   simp only[Ad,this,cond_false] at h
   exact A0p _ (ES h)
def LY:List Nat->Bool
 |[]=>true
 |x::r=>(r.all fun y=>!(y==x))&&LY r
def CB(id:Nat)(r:Nat->Nat)(b:Nat):Nat:=bif b%2==1 then r b else id+b
def DK(id:Nat)(r:Nat->Nat)(H H':Hp):List (Nat×Option Blk):=H.map (fun p=>(r p.1,none))++H'.map fun p=>(CB id r p.1,some (F2 (CB id r) p.2))
def Ce(id:Nat)(r:Nat->Nat)(H:Hp)(d:D)(H':Hp):Eff:=⟨AV (CB id r) d,DK id r H H',H.map fun p=>r p.1⟩
def CS(id:Nat)(r:Nat->Nat)(H H':Hp):Bool:=N4 4 H&&RW r H&&LY (H'.map (·.1))&&(H'.all fun p=>okN 4 p.1&&(p.1%2==0 ||H.any fun q=>q.1==p.1))&&H.all fun p=>!(decide (id<=r p.1)&&decide (r p.1<id+8)&&(r p.1-id)%2==0)
theorem Nb{b:Nat}(r:Nat->Nat):∀ (l:Hp) (x:Option Blk),AO b x (l.map fun p=>(r p.1,none))=if (l.any fun p=>r p.1==b) then none else x
 |[],x=>rfl
 |p::l,x=>by
  have:=Nb (b:=b) r l (if r p.1=b then none else x)
  simp only[AO,A0h,A0r] at this|-
  rw[this]
  by_cases h:r p.1=b
  ·simp[h]
  ·have:(r p.1==b)=false:=by simp[h]
   rw[if_neg h,List.any_cons,this,Bool.false_or]
theorem Lu{σ:Nat->Nat}{F:Blk->Blk}:∀ (l:Hp) (x0:Option Blk),(∀ p ∈ l,∀ q ∈ l,σ p.1=σ q.1->p.1=q.1)->LY (l.map (·.1))=true->∀ c y,Ad l c=some y->AO (σ c) x0 (l.map fun p=>(σ p.1,some (F p.2)))=some (F y)
 |[],_,_,_,c,y,h=>by cases h
 |(k,z)::l,x0,hinj,hn,c,y,h=>by
  simp only[LY,A0h,A07] at hn
  have hinj':∀ p ∈ l,∀ q ∈ l,σ p.1=σ q.1->p.1=q.1:=fun p hp q hq=>hinj p (A0p _ hp) q (A0p _ hq)
  by_cases hk:k=c
  ·subst hk
   simp only[Ad,beq_self_eq_true,cond_true,A03] at h
   subst h
   have hs:=EC (b:=σ k) (up:=l.map fun p=>(σ p.1,some (F p.2))) (fun p hp hb=>by
    obtain⟨q,hq,rfl⟩:=A0l.1 hp
    have:=hinj q (A0p _ hq) (k,z) A0B hb
    have h2:=A0u.1 hn.1 q.1 (A0l.2 ⟨q,hq,rfl⟩)
    simp at this
    simp[this] at h2) (some (F z))
   simp only[AO,A0h,A0r,if_true] at hs|-
   exact hs
  ·have:(k==c)=false:=by simp[hk]
   simp only[Ad,this,cond_false] at h
   exact Lu l _ hinj' hn.2 c y h
def DoesX(P:Program)(o:Oper)(id:Nat)(ev:Operand->D)(hp:Nat->Option Blk)(rd:List Nat)(F:Eff->Prop):Prop:=
 ∀ w0 M0 I0 fr I mu h (a:Act) w,GA P w0 M0 I0->Ap w0 M0 I0 fr I mu h w->(∀ j,j<4->fr (id+2*j))->(∀ x ∈ o.op.operands,Rep w I mu (ev x) (a.eval x))->(∀ b ∈ rd,h b=hp b)->
  ∀ K Q,(∀ e,F e->∀ v w' I' mu',Ext I mu w I' mu' w'->Ap w0 M0 I0 (fun b=>fr b/\∀ j,j<4->b≠id+2*j) I' mu' (fun b=>AO b (h b) e.up) w'->Rep w' I' mu' e.d v->K (a.put o.dst v) w')->o.wpIn I0.F I0.n P a w K Q
def UL(P:Program)(f:FuncId)(ds:List D)(H:Hp)(X:D->Hp->Prop):Prop:=
 Bl P f=true/\∀ (w:World) (M0:Nat->Prop) (G:Gh) (I:Nat->Prop) (mu:Nat->Option Value) (vs:List Value),GA P w M0 G->G.dl=[]->Ap w M0 G (frN 4) I mu (Ad H) w->Bc w I mu ds vs->
  Calls P f vs.toArray w fun e w'=>∃ r H' v I' mu',X r H'/\e=.returned v/\Rep w' I' mu' r v/\Ap w M0 G (frN 4) I' mu' (Ad H') w'
theorem A2.x{P:Program}{f:FuncId}{ds:List D}{H:Hp}{r:D}{H':Hp}(h:A2 P f ds H r H'):UL P f ds H (fun d h=>d=r/\h=H'):=
 ⟨h.1,fun w M0 G I mu vs hga hdl hw hr=>(h.2 w M0 G I mu vs hga hdl hw hr).mono fun e w' ⟨v,I',mu',he,hv,R⟩=>⟨r,H',v,I',mu',⟨rfl,rfl⟩,he,hv,R⟩⟩
theorem X7{P:Program}{id:Nat}{h hp:Nat->Option Blk}{ds:List D}{H:Hp}(r:Nat->Nat){w0:World}{M0:Nat->Prop}{I0:Gh}{fr I:Nat->Prop}{mu:Nat->Option Value}{w:World}{vs:List Value}
  (hga:GA P w0 M0 I0) (hw:Ap w0 M0 I0 fr I mu h w) (hid:∀ j,j<4->fr (id+2*j)) (hb:∀ b ∈ H.map fun p=>r p.1,h b=hp b) (hargs:Bc w I mu (BZ r ds) vs)
  (hl:ltL 4 ds=true) (hh:Ba r hp H) (hok0:CS id r H []=true):∃ (M:Nat->Prop) (G:Gh) (muc:Nat->Option Value),
   (GA P w M G/\G.dl=[]/\Ap w M G (frN 4) I muc (Ad H) w/\Bc w I muc ds vs/\(∀ b x,okN 4 b=true->mu (r b)=some x->muc b=some x)/\(∀ k,I k->G k)/\(∀ k,M k->¬I k)/\(∀ b x,b%2=1->muc b=some x->G.nm b=some x))/\
   ∀(d:D) (H':Hp) (v:Value) (w':World) (I':Nat->Prop) (mu':Nat->Option Value),CS id r H H'=true->Rep w' I' mu' d v->Ap w M G (frN 4) I' mu' (Ad H') w'->∃ mu2,Ext I mu w I' mu2 w'/\
    Ap w0 M0 I0 (fun b=>fr b/\∀ j,j<4->b≠id+2*j) I' mu2 (fun b=>AO b (h b) (Ce id r H d H').up) w'/\Rep w' I' mu2 (Ce id r H d H').d v/\
    ∀ b x,Ad H' b=some x->AO (CB id r b) (h (CB id r b)) (Ce id r H d H').up=some (F2 (CB id r) x):=by
 simp only[CS,A07] at hok0
 obtain⟨⟨⟨⟨hok1,hok2⟩,_⟩,_⟩,hok5⟩:=hok0
 have hfree:∀ j,j<4->mu (id+2*j)=none:=fun j hj=>hw.fresh _ (hid j hj)
 have hrd:∀ b x,Ad H b=some x->h (r b)=hp (r b):=fun b x hx=>hb _ (by
  obtain⟨p,hp',rfl⟩:=A0l.1 (ES hx)
  exact A0l.2 ⟨p,hp',rfl⟩)
 have hlk:∀ b x,Ad H b=some x->∃ y,h (r b)=some y/\loB y (F2 r x):=fun b x hx=>by
  obtain⟨y,h1,h2⟩:=KF hh b x hx
  exact⟨y,(hrd b x hx).trans h1,h2⟩
 let muc:Nat->Option Value:=fun b=>if b%2=1 then some ((mu (r b)).getD undef) else if b<8 then mu (r b) else none
 have hmuc:∀ b x,okN 4 b=true->mu (r b)=some x->muc b=some x:=by
  intro b x hb hx
  simp only[muc]
  by_cases hb1:b%2=1
  ·rw[if_pos hb1,hx];rfl
  ·have:b<8:=by simp[okN,hb1] at hb;omega
   rw[if_neg hb1,if_pos this,hx]
 have hmuc':∀ b v,muc b=some v->v≠undef->mu (r b)=some v:=by
  intro b v hv hu
  simp only[muc] at hv
  split at hv
  ·cases hm:mu (r b) with
   |none=>rw [hm] at hv;simp at hv;exact absurd hv.symm hu
   |some y=>rw [hm] at hv;simpa using hv
  ·split at hv
   ·exact hv
   ·cases hv
 have hloc:∀ b v k,muc b=some v->Ae v=some k->mu (r b)=some v:=fun b v k hv hk=>hmuc' b v hv (by rintro rfl;cases hk)
 have hokn:∀ b x,Ad H b=some x->okN 4 b=true/\ltB 4 x=true:=fun b x hx=>by
  have key:∀ {l:Hp},N4 4 l=true->Ad l b=some x->okN 4 b=true/\ltB 4 x=true:=by
   intro l
   induction l with
   |nil=>intro _ h;cases h
   |cons p l ih=>
    intro ho hx
    simp only[N4,A07] at ho
    by_cases hk:p.1=b
    ·have hk':(p.1==b)=true:=by simp[hk]
     simp only[Ad,hk',cond_true,A03] at hx
     subst hx
     exact⟨hk▸ho.1.1,ho.1.2⟩
    ·have hk':(p.1==b)=false:=by simp[hk]
     simp only[Ad,hk',cond_false] at hx
     exact ih ho.2 hx
  exact key hok1 hx
 let M:Nat->Prop:=fun k=>∃ b x v,Ad H b=some x/\muc b=some v/\Ae v=some k
 let G:Gh:=⟨I,fun b=>if b%2=1 then muc b else none,[],Fence.wide,0,.inl rfl⟩
 have hMloc:∀ k,M k->∃ b x v,Ad H b=some x/\(∃ y,h (r b)=some y)/\mu (r b)=some v/\Ae v=some k:=by
  rintro k ⟨b,x,v,h1,h2,h3⟩
  obtain⟨y,hy,_⟩:=hlk b x h1
  exact⟨b,x,v,h1,⟨y,hy⟩,hloc b v k h2 h3,h3⟩
 have hMc:∀ k,M k->(M0 k∨w0.heap.size<=k)/\¬I k/\k<w.heap.size:=fun k hk=>by
  obtain⟨b,x,v,_,⟨y,hy⟩,h2,h3⟩:=hMloc k hk
  exact hw.loc _ y v k hy h2 h3
 have hW:Ap w M G (frN 4) I muc (Ad H) w:=by
  refine⟨fun b x hx=>?_,fun b x v k hx hv hk=>?_,fun b c x y v u k hx hy hv hu hk hk'=>?_,fun b hb=>?_,hw.lt,rfl,rfl,rfl,A0a _,fun _ _ _=>rfl,fun _ h=>h,fun _ h=>.inl h,fun b x hb hn=>?_,fun b x hx hb=>?_⟩
  ·obtain⟨y,h1,h2⟩:=hlk b x hx
   obtain⟨g1,g2⟩:=hokn b x hx
   exact(D7.lo (hw.blk (r b) y h1) h2).ren hmuc g1 g2
  ·have hm:M k:=⟨b,x,v,hx,hv,hk⟩
   exact⟨.inl hm,(hMc k hm).2⟩
  ·obtain⟨y1,g1,_⟩:=hlk b x hx
   obtain⟨y2,g2,_⟩:=hlk c y hy
   have h1:=hloc b v k hv hk
   have h2:=hloc c u k hu hk'
   have:=hw.inj (r b) (r c) _ _ v u k g1 g2 h1 h2 hk hk'
   have h3:=A0u.1 (A0u.1 hok2 b (ES hx)) c (ES hy)
   simp_all
  ·obtain⟨h1,h2⟩:=hb
   simp only[muc]
   rw[if_neg (by omega),if_neg (by omega)]
  ·have hn':(if b%2=1 then muc b else none)=some x:=hn
   rw[if_pos hb] at hn';exact hn'
  ·have h1:=(hokn b x hx).1
   have h3:=hb.1
   have h4:=hb.2
   simp[okN] at h1
   omega
 have hga':GA P w M G:=fun g l hgl=>by
  obtain⟨h1,T,fz,h2⟩:=hga.at hw g l hgl
  exact⟨h1,hw.lt g h1,fun hm=>(hMc g hm).2.1 h1,T,fz,h2⟩
 have hargs':Bc w I muc ds vs:=by
  refine⟨by rw[hargs.1,Aw],fun i hi=>?_⟩
  have:=hargs.2 i (by rw[Aw];exact hi)
  rw[BO hi] at this
  exact this.ren hmuc rfl (Eb hl i)
 refine⟨M,G,muc,⟨hga',rfl,hW,hargs',hmuc,fun _ h=>h,fun k hk=>(hMc k hk).2.1,fun b x hb hx=>(by show(if b%2=1 then muc b else none)=_;rw[if_pos hb];exact hx)⟩,fun d H' v w' I' mu' hok hv R=>?_⟩
 simp only[CS,A07] at hok
 obtain⟨⟨⟨_,hok3⟩,hok4⟩,_⟩:=hok
 let mu2:Nat->Option Value:=fun b=>if id<=b/\b<id+8/\(b-id)%2=0 then mu' (b-id) else mu b
 have hmu2:∀ b x,mu b=some x->mu2 b=some x:=by
  intro b x hx
  simp only[mu2]
  rw[if_neg]
  ·exact hx
  ·rintro⟨h1,h2,h3⟩
   have:=hfree ((b-id)/2) (by omega)
   have e:id+2*((b-id)/2)=b:=by omega
   rw[e,hx] at this
   cases this
 have hout:∀ b x,x≠undef->mu' b=some x->mu2 (CB id r b)=some x:=by
  intro b x hu hx
  by_cases hb1:b%2=1
  ·have hb1':(b%2==1)=true:=by simp[hb1]
   simp only[CB,hb1',cond_true]
   refine hmu2 _ _ (hmuc' b x ?_ hu)
   have hk:=R.keep b ((mu (r b)).getD undef) hb1 (by show(if b%2=1 then muc b else none)=_;simp only[muc,if_pos hb1])
   rw[hx] at hk
   simp only[muc,if_pos hb1]
   exact hk.symm▸rfl
  ·have hb1':(b%2==1)=false:=by simp[hb1]
   simp only[CB,hb1',cond_false,mu2]
   have:b<8:=by
    apply Nat.lt_of_not_le
    intro hge
    have:=R.fresh b ⟨by omega,by omega⟩
    rw[hx] at this
    cases this
   rw[if_pos ⟨by omega,by omega,by omega⟩,A1u]
   exact hx
 have hback:∀ b v,mu2 (CB id r b)=some v->∀ x,Ad H' b=some x->∀ k,Ae v=some k->mu' b=some v:=by
  intro b v hv x hx k hk
  have hmem:=A0u.1 hok4
  obtain⟨p,hp',rfl⟩:=A0l.1 (ES hx)
  have h4:=hmem p hp'
  simp only[A07,Bool.or_eq_true,beq_iff_eq,List.any_eq_true] at h4
  by_cases hb1:p.1%2=1
  ·have hb1':(p.1%2==1)=true:=by simp[hb1]
   simp only[CB,hb1',cond_true] at hv
   obtain⟨q,hq,hqe⟩:=h4.2.resolve_left (by omega)
   have hmu1:mu (r p.1)=some v:=by
    simp only[mu2] at hv
    split at hv
    ·rename_i hr
     exfalso
     have h5:=A0u.1 hok5 q hq
     rw[hqe] at h5
     simp at h5
     omega
    ·exact hv
   refine R.keep p.1 v hb1 ?_
   show(if p.1%2=1 then muc p.1 else none)=_
   simp only[if_pos hb1,muc,hmu1,A0J]
  ·have hb1':(p.1%2==1)=false:=by simp[hb1]
   simp only[CB,hb1',cond_false,mu2] at hv
   have:p.1<8:=by have:=h4.1;simp[okN,hb1] at this;omega
   rw[if_pos ⟨by omega,by omega,by omega⟩,A1u] at hv
   exact hv
 have hinj:∀ p ∈ H',∀ q ∈ H',CB id r p.1=CB id r q.1->p.1=q.1:=by
  intro p hp' q hq he
  have h4:=A0u.1 hok4
  have hp4:=h4 p hp'
  have hq4:=h4 q hq
  simp only[A07,Bool.or_eq_true,beq_iff_eq,List.any_eq_true] at hp4 hq4
  have h5:=A0u.1 hok5
  have odd:∀ p:Nat×Blk,p.1%2=1->(p.1%2=0∨∃ x,x ∈ H/\x.1=p.1)->∃ x,x ∈ H/\x.1=p.1:=fun p hp h=>h.resolve_left (by omega)
  have mix:∀ p q:Nat×Blk,p.1%2=1->(p.1%2=0∨∃ x,x ∈ H/\x.1=p.1)->¬q.1%2=1->okN 4 q.1=true->r p.1=id+q.1->False:=by
   intro p q h1 h2 h3 h4 h6
   obtain⟨x,hx,hxe⟩:=odd p h1 h2
   have h7:=h5 x hx
   rw[hxe,h6] at h7
   have:q.1<8:=by simp[okN,h3] at h4;omega
   simp at h7
   omega
  by_cases h1:p.1%2=1<;>by_cases h2:q.1%2=1
  ·have h1':(p.1%2==1)=true:=by simp[h1]
   have h2':(q.1%2==1)=true:=by simp[h2]
   simp only[CB,h1',h2',cond_true] at he
   obtain⟨x,hx,hxe⟩:=odd p h1 hp4.2
   obtain⟨y,hy,hye⟩:=odd q h2 hq4.2
   have h3:=A0u.1 (A0u.1 hok2 x.1 (A0l.2 ⟨x,hx,rfl⟩)) y.1 (A0l.2 ⟨y,hy,rfl⟩)
   rw[hxe,hye] at h3
   simp_all
  ·have h1':(p.1%2==1)=true:=by simp[h1]
   have h2':(q.1%2==1)=false:=by simp[h2]
   simp only[CB,h1',h2',cond_true,cond_false] at he
   exact(mix p q h1 hp4.2 h2 hq4.1 he).elim
  ·have h1':(p.1%2==1)=false:=by simp[h1]
   have h2':(q.1%2==1)=true:=by simp[h2]
   simp only[CB,h1',h2',cond_true,cond_false] at he
   exact(mix q p h2 hq4.2 h1 hp4.1 he.symm).elim
  ·have h1':(p.1%2==1)=false:=by simp[h1]
   have h2':(q.1%2==1)=false:=by simp[h2]
   simp only[CB,h1',h2',cond_false] at he
   omega
 have hat:∀ b y,AO b (h b) (DK id r H H')=some y->(∃ c x,Ad H' c=some x/\CB id r c=b/\y=F2 (CB id r) x)∨((∀ c x,Ad H c=some x->r c≠b)/\h b=some y):=by
  intro b y hy
  have hsplit:AO b (h b) (DK id r H H')=AO b (AO b (h b) (H.map fun p=>(r p.1,none))) (H'.map fun p=>(CB id r p.1,some (F2 (CB id r) p.2))):=by
   simp only[DK,AO,A1H]
  rw[hsplit,Nb] at hy
  by_cases hex:∃ p ∈ H',CB id r p.1=b
  ·obtain⟨p,hp',rfl⟩:=hex
   have:∃ x,Ad H' p.1=some x:=by
    have:∀ {l:Hp},p ∈ l->∃ y,Ad l p.1=some y:=by
     intro l
     induction l with
     |nil=>intro h;cases h
     |cons z l ih=>
      intro hm
      by_cases hz:z.1=p.1
      ·exact⟨z.2,by simp[Ad,hz]⟩
      ·have:(z.1==p.1)=false:=by simp[hz]
       simp only[Ad,this,cond_false]
       rcases A0s.1 hm with rfl|hm
       ·exact absurd rfl hz
       ·exact ih hm
    exact this hp'
   obtain⟨x,hx⟩:=this
   rw[Lu H' _ hinj hok3 p.1 x hx] at hy
   exact .inl ⟨p.1,x,hx,rfl,(Option.some.inj hy).symm⟩
  ·rw[EC (fun p hp' hpb=>hex (by
    obtain⟨q,hq,rfl⟩:=A0l.1 hp'
    exact⟨q,hq,hpb⟩))] at hy
   split at hy
   ·cases hy
   ·rename_i hn
    refine .inr ⟨fun c x hx hc=>hn ?_,hy⟩
    obtain⟨p,hp',rfl⟩:=A0l.1 (ES hx)
    exact List.any_eq_true.2 ⟨p,hp',by simp[hc]⟩
 have hMne:∀ b y v k,h b=some y->(∀ c x,Ad H c=some x->r c≠b)->mu b=some v->Ae v=some k->¬M k:=by
  intro b y v k hy hne hv hk hm
  obtain⟨c,x,u,g1,⟨z,g2⟩,g3,g4⟩:=hMloc k hm
  exact hne c x g1 (hw.inj (r c) b z y u v k g2 hy g3 hv g4 hk)
 have hIw:∀ k,I k->w'.heap[k]? =w.heap[k]?:=fun k hk=>R.old k (hw.lt k hk) fun hm=>(hMc k hm).2.1 hk
 have hext:Ext I mu w I' mu2 w':=⟨fun k hk=>R.iold k hk,hmu2,hIw⟩
 have hframe:∀ b y v k,h b=some y->(∀ c x,Ad H c=some x->r c≠b)->mu2 b=some v->Ae v=some k->mu b=some v:=by
  intro b y v k hy hne hv hk
  simp only[mu2] at hv
  split at hv
  ·rename_i hr
   exfalso
   have hn:=hid ((b-id)/2) (by omega)
   have e:id+2*((b-id)/2)=b:=by omega
   rw[e] at hn
   exact hw.used b y hy hn
  ·exact hv
 refine⟨mu2,hext,⟨fun b y hy=>?_,fun b y v k hy hv hk=>?_,fun b c y z v u k hy hz hv hu hk hk'=>?_,fun b hb=>?_,R.lt,R.os.trans hw.os,R.tape.trans hw.tape,R.output.trans hw.output,A0L hw.grown R.grown,fun k hk hnm=>?_,fun k hk=>R.iold k (hw.iold k hk),fun k hk=>?_,fun b x hb hn=>hmu2 b x (hw.keep b x hb hn),fun b y hy hb=>?_⟩,hv.into hout,fun b x hx=>?_⟩
 ·rcases hat b y hy with⟨c,x,h1,rfl,rfl⟩|⟨hne,h1⟩
  ·exact(R.blk c x h1).into hout
  ·exact(hw.blk b y h1).mono hIw (fun k hk=>R.iold k hk) hmu2 fun v k hv hk=>R.old k (hw.loc b y v k h1 hv hk).2.2 (hMne b y v k h1 hne hv hk)
 ·rcases hat b y hy with⟨c,x,h1,rfl,rfl⟩|⟨hne,h1⟩
  ·have:=R.loc c x v k h1 (hback c v hv x h1 k hk) hk
   refine⟨?_,this.2⟩
   rcases this.1 with h2|h2
   ·exact(hMc k h2).1
   ·exact .inr (A0L hw.grown h2)
  ·have hv':=hframe b y v k h1 hne hv hk
   have:=hw.loc b y v k h1 hv' hk
   refine⟨this.1,fun hI=>?_,A0R this.2.2 R.grown⟩
   rcases R.inew k hI with h2|h2|h2
   ·exact this.2.1 h2
   ·exact hMne b y v k h1 hne hv' hk h2
   ·omega
 ·have cross:∀ b y c x v u k,h b=some y->(∀ c x,Ad H c=some x->r c≠b)->mu b=some v->Ae v=some k->Ad H' c=some x->mu' c=some u->Ae u=some k->False:=by
   intro b y c x v u k h1 hne h2 h3 h4 h5 h6
   have g1:=hw.loc b y v k h1 h2 h3
   have g2:=(R.loc c x u k h4 h5 h6).1
   rcases g2 with g2|g2
   ·exact hMne b y v k h1 hne h2 h3 g2
   ·omega
  rcases hat b y hy with⟨b',x,h1,rfl,rfl⟩|⟨hne,h1⟩<;>rcases hat c z hz with⟨c',x',h2,rfl,rfl⟩|⟨hne',h2⟩
  ·rw[R.inj b' c' x x' v u k h1 h2 (hback b' v hv x h1 k hk) (hback c' u hu x' h2 k hk') hk hk']
  ·exact(cross c z b' x u v k h2 hne' (hframe c z u k h2 hne' hu hk') hk' h1 (hback b' v hv x h1 k hk) hk).elim
  ·exact(cross b y c' x' v u k h1 hne (hframe b y v k h1 hne hv hk) hk h2 (hback c' u hu x' h2 k hk') hk').elim
  ·exact hw.inj b c y z v u k h1 h2 (hframe b y v k h1 hne hv hk) (hframe c z u k h2 hne' hu hk') hk hk'
 ·simp only[mu2]
  rw[if_neg]
  ·exact hw.fresh b hb.1
  ·rintro⟨h1,h2,h3⟩
   exact hb.2 ((b-id)/2) (by omega) (by omega)
 ·have hnM:¬M k:=fun hm=>by
   rcases(hMc k hm).1 with h1|h1
   ·exact hnm h1
   ·omega
  rw[R.old k (by have:=hw.grown;omega) hnM]
  exact hw.old k hk hnm
 ·rcases R.inew k hk with h1|h1|h1
  ·exact hw.inew k h1
  ·exact .inr (hMc k h1).1
  ·exact .inr (.inr (A0L hw.grown h1))
 ·rcases hat b y hy with⟨c,x,h1,rfl,rfl⟩|⟨hne,h1⟩
  ·have h4:=A0u.1 hok4
   obtain⟨p,hp',rfl⟩:=A0l.1 (ES h1)
   have h4:=h4 p hp'
   simp only[A07,Bool.or_eq_true,beq_iff_eq,List.any_eq_true] at h4
   by_cases hb1:p.1%2=1
   ·have hb1':(p.1%2==1)=true:=by simp[hb1]
    simp only[CB,hb1',cond_true] at hb
    obtain⟨q,hq,hqe⟩:=h4.2.resolve_left (by omega)
    have:∀ {l:Hp},q ∈ l->∃ y,Ad l q.1=some y:=by
     intro l
     induction l with
     |nil=>intro h;cases h
     |cons z l ih=>
      intro hm
      by_cases hz:z.1=q.1
      ·exact⟨z.2,by simp[Ad,hz]⟩
      ·have:(z.1==q.1)=false:=by simp[hz]
       simp only[Ad,this,cond_false]
       rcases A0s.1 hm with rfl|hm
       ·exact absurd rfl hz
       ·exact ih hm
    obtain⟨y,hy⟩:=this hq
    obtain⟨z,hz,_⟩:=hlk q.1 y hy
    rw[hqe] at hz
    exact hw.used _ z hz hb.1
   ·have hb1':(p.1%2==1)=false:=by simp[hb1]
    simp only[CB,hb1',cond_false] at hb
    have:p.1<8:=by have:=h4.1;simp[okN,hb1] at this;omega
    exact hb.2 (p.1/2) (by omega) (by omega)
  ·exact hw.used b y h1 hb.1
 ·show AO _ _ (DK id r H H')=_
  have hs:∀ z,AO (CB id r b) z (DK id r H H')=AO (CB id r b) (AO (CB id r b) z (H.map fun p=>(r p.1,none))) (H'.map fun p=>(CB id r p.1,some (F2 (CB id r) p.2))):=fun z=>by
   simp only[DK,AO,A1H]
  rw[hs]
  exact Lu H' _ hinj hok3 b x hx
theorem P5{P:Program}{id:Nat}{ev:Operand->D}{hp:Nat->Option Blk}{o:Oper}{ds:List D}{H:Hp}{X:D->Hp->Prop}(r:Nat->Nat)
  (hrun:∀ w0 M0 (I0:Gh) fr I mu h (a:Act) w,Ap w0 M0 I0 fr I mu h w->(∀ x ∈ o.op.operands,Rep w I mu (ev x) (a.eval x))->∃ vs,Bc w I mu (BZ r ds) vs/\
   ∀(M:Nat->Prop) (G:Gh) (muc:Nat->Option Value),GA P w M G->G.dl=[]->Ap w M G (frN 4) I muc (Ad H) w->Bc w I muc ds vs->(∀ b x,okN 4 b=true->mu (r b)=some x->muc b=some x)->
    ∀ K Q,(∀(e:Ending) (w':World),(∃ d H' v I' mu',X d H'/\e=.returned v/\Rep w' I' mu' d v/\Ap w M G (frN 4) I' mu' (Ad H') w')->∃ v,e=.returned v/\K (a.put o.dst v) w')->o.wpIn I0.F I0.n P a w K Q)
  (hl:ltL 4 ds=true) (hh:Ba r hp H) (hok0:CS id r H []=true) (hokX:∀ d H',X d H'->CS id r H H'=true):DoesX P o id ev hp (H.map fun p=>r p.1) (fun e=>∃ d H',X d H'/\e=Ce id r H d H'):=by
 intro w0 M0 I0 fr I mu h a w hga hw hid hxs hb K Q hK
 obtain⟨vs,hargs,hwp⟩:=hrun w0 M0 I0 fr I mu h a w hw hxs
 obtain⟨M,G,muc,⟨g1,g2,g3,g4,g5,_⟩,hback⟩:=X7 r hga hw hid hb hargs hl hh hok0
 refine hwp M G muc g1 g2 g3 g4 g5 K Q fun e w' ⟨d,H',v,I',mu',hX,he,hv,R⟩=>⟨v,he,?_⟩
 obtain⟨mu2,q1,q2,q3,_⟩:=hback d H' v w' I' mu' (hokX d H' hX) hv R
 exact hK _ ⟨d,H',hX,rfl⟩ v w' I' mu2 q1 q2 q3
theorem So{P:Program}{id:Nat}{ev:Operand->D}{hp:Nat->Option Blk}{o:Oper}{f:FuncId}{ds:List D}{H:Hp}{X:D->Hp->Prop}(r:Nat->Nat)
  (hrun:∀ w0 M0 I0 fr I mu h (a:Act) w,Ap w0 M0 I0 fr I mu h w->(∀ x ∈ o.op.operands,Rep w I mu (ev x) (a.eval x))->∃ vs,(execOp a.eval o).run P w=.ok (.enter f vs.toArray) w/\Bc w I mu (BZ r ds) vs)
  (hl:ltL 4 ds=true) (hh:Ba r hp H) (hok0:CS id r H []=true) (hokX:∀ d H',X d H'->CS id r H H'=true) (hc:UL P f ds H X):DoesX P o id ev hp (H.map fun p=>r p.1) (fun e=>∃ d H',X d H'/\e=Ce id r H d H'):=by
 refine P5 r (fun w0 M0 I0 fr I mu h a w hw hxs=>?_) hl hh hok0 hokX
 obtain⟨vs,hrun,hargs⟩:=hrun w0 M0 I0 fr I mu h a w hw hxs
 refine⟨vs,hargs,fun M G muc hga hdl hW ha _ K Q hK=>C6 hrun ((hc.2 w M G I muc vs hga hdl hW ha).mono fun e w' h=>?_)⟩
 obtain⟨v,rfl,hv⟩:=hK e w' h
 exact hv
theorem Mx{P:Program}{id:Nat}{ev:Operand->D}{hp:Nat->Option Blk}{o:Oper}{f:FuncId}{ds:List D}{H:Hp}{d:D}{H':Hp}(r:Nat->Nat)
  (hrun:∀ w0 M0 I0 fr I mu h (a:Act) w,Ap w0 M0 I0 fr I mu h w->(∀ x ∈ o.op.operands,Rep w I mu (ev x) (a.eval x))->∃ vs,(execOp a.eval o).run P w=.ok (.enter f vs.toArray) w/\Bc w I mu (BZ r ds) vs)
  (hl:ltL 4 ds=true) (hh:Ba r hp H) (hok:CS id r H H'=true) (hc:A2 P f ds H d H'):AC P o id ev hp (Ce id r H d H'):=by
 have h0:CS id r H []=true:=by
  simp only[CS,A07] at hok|-
  obtain⟨⟨⟨⟨hok1,hok2⟩,hok3⟩,hok4⟩,hok5⟩:=hok
  exact⟨⟨⟨⟨hok1,hok2⟩,rfl⟩,rfl⟩,hok5⟩
 intro w0 M0 I0 fr I mu h a w hga hw hid hxs hb K Q hK
 exact So r hrun hl hh h0 (fun d' H'' h=>by rw[h.2];exact hok) hc.x w0 M0 I0 fr I mu h a w hga hw hid hxs hb K Q fun e ⟨d',H'',h1,h2⟩=>by
  obtain⟨rfl,rfl⟩:=h1;subst h2;exact hK
section
variable{P:Program}{ops:Array Oper}{nx:Nat}{dst:Option Tmp}{T:TypeId}{ps:String}{af:Array Edge}{gd:Option (Nat×Bool)}{f:FuncId}{x:Operand}{args:Array Operand}{ts:Array TypeId}{fs cs ds:List D}{d:D}{H H':Hp}{l:List Oper}{pos:Nat}{acc:List Eff}{s:St}{K:List Eff->St->Prop}
theorem A1.scall(r:Nat->Nat)(hc:A2 P f ds H d H')(hg:gd=none∨∃ j want t,gd=some (j,want)/\AT ops j=some t/\gOf (s.env.get t) want=some true)(ha:args.toList.map (evO P s.env.get)=BZ r ds)
  (hl:ltL 4 ds=true) (hh:Ba r (Ad s.hp) H) (hok:CS (2*(nx+4*pos)) r H H'=true)
  (hk:GoS P ops nx l (pos+1) (Ce (2*(nx+4*pos)) r H d H'::acc) (s.app dst (Ce (2*(nx+4*pos)) r H d H')) K):A1 P ops nx (⟨dst,.call {callee:=.value (.func f),args:=args,argTypes:=ts},T,ps,af,gd⟩::l) pos acc s K:=by
 rw[Cb] at hk;rw[Bj]
 unfold Bz
 have hdo:AC P ⟨dst,.call {callee:=.value (.func f),args:=args,argTypes:=ts},T,ps,af,gd⟩ (2*(nx+4*pos)) (evO P s.env.get) (Ad s.hp) (Ce (2*(nx+4*pos)) r H d H'):=by
  refine Mx r (fun w0 M0 I0 fr I mu h a w hw hx=>⟨args.toList.map a.eval,?_,?_⟩) hl hh hok hc
  ·have e1:args.map a.eval=(args.toList.map a.eval).toArray:=by apply Array.ext';simp
   simp only[execOp,resolve,Act.eval,Deferred.ofValue,A0e,A0j,Result.andThen,invoke]
   have e2:#[]++args.map a.eval++ #[]=(args.toList.map a.eval).toArray:=by rw[e1];simp
   exact(congrArg (fun z=>(callFunc f z).run P w) e2).trans (AZ hc.1 _ w)
  ·rw[<-ha]
   exact Bc.args fun y hy=>hx y (by simp[Op.operands,Call.operands];exact .inr (by simpa using hy))
 refine .inl ⟨_,?_,by have:=Go.run hk;unfold Bz at this;exact this⟩
 rcases hg with rfl|⟨j,want,t,rfl,ht,hg⟩
 ·exact Bd.plain rfl hdo
 ·exact Bd.guard_true rfl ht hg hdo
theorem A1.scallV(r:Nat->Nat)(hx:evO P s.env.get x=.func (.func f) fs cs)(hc:A2 P f ds H d H')(hg:gd=none∨∃ j want t,gd=some (j,want)/\AT ops j=some t/\gOf (s.env.get t) want=some true)(ha:fs++args.toList.map (evO P s.env.get)++cs=BZ r ds)
  (hl:ltL 4 ds=true) (hh:Ba r (Ad s.hp) H) (hok:CS (2*(nx+4*pos)) r H H'=true)
  (hk:GoS P ops nx l (pos+1) (Ce (2*(nx+4*pos)) r H d H'::acc) (s.app dst (Ce (2*(nx+4*pos)) r H d H')) K):A1 P ops nx (⟨dst,.call {callee:=.value x,args:=args,argTypes:=ts},T,ps,af,gd⟩::l) pos acc s K:=by
 rw[Cb] at hk;rw[Bj]
 unfold Bz
 have hdo:AC P ⟨dst,.call {callee:=.value x,args:=args,argTypes:=ts},T,ps,af,gd⟩ (2*(nx+4*pos)) (evO P s.env.get) (Ad s.hp) (Ce (2*(nx+4*pos)) r H d H'):=by
  refine Mx r (fun w0 M0 I0 fr I mu h a w hw hxs=>?_) hl hh hok hc
  have hxr:=hxs x (by simp[Op.operands,Call.operands])
  rw[hx] at hxr
  have hargs:=Bc.args (w:=w) (I:=I) (mu:=mu) (ev:=evO P s.env.get) (a:=a) (args:=args) fun y hy=>hxs y (by simp[Op.operands,Call.operands];exact .inr (by simpa using hy))
  generalize he:a.eval x=fv at hxr
  cases hxr with
  |func _ _ _ us vs hl hk h1 h2=>
  refine⟨us++args.toList.map a.eval++vs,?_,?_⟩
  ·have e1:us.toArray++args.map a.eval++vs.toArray=(us++args.toList.map a.eval++vs).toArray:=by apply Array.ext';simp
   simp only[execOp,resolve,he,Deferred.ofValue,A0e,A0j,Result.andThen,invoke]
   exact(congrArg (fun z=>(callFunc f z).run P w) e1).trans (AZ hc.1 _ w)
  ·rw[<-ha]
   exact Bc.append (Bc.append ⟨hl,h1⟩ hargs) ⟨hk,h2⟩
 refine .inl ⟨_,?_,by have:=Go.run hk;unfold Bz at this;exact this⟩
 rcases hg with rfl|⟨j,want,t,rfl,ht,hg⟩
 ·exact Bd.plain rfl hdo
 ·exact Bd.guard_true rfl ht hg hdo
def DA(P:Program)(y:Nat)(ds:List D)(H:Hp)(d:D)(H':Hp):Prop:=
 ∀(w:World) (M0:Nat->Prop) (G:Gh) (I:Nat->Prop) (mu:Nat->Option Value) (vs:List Value) (l:Nat),GA P w M0 G->G.dl=[]->mu y=some (.pointer (some ⟨l,0,none⟩))->Ap w M0 G (frN 4) I mu (Ad H) w->Bc w I mu ds vs->
  ∃ fn tmps assign body,(Instr.yield l vs.toArray).run P w=.ok (.round l fn tmps assign body) w/\RoundIn Fence.wide 0 P l fn tmps assign body w fun e w'=>∃ v I' mu',e=.returned v/\Rep w' I' mu' d v/\Ap w M0 G (frN 4) I' mu' (Ad H') w'
theorem TF{G:Gh}{l fn:Nat}{tmps:Array Value}{assign body:Code}{w:World}{R:Ending->World->Prop}(h:RoundIn Fence.wide 0 P l fn tmps assign body w R):RoundIn G.F (G.n-1) P l fn tmps assign body w R:=by
 obtain⟨h1,h2⟩:=h
 have hn:∀ n m,RoundIn Fence.wide n P l fn tmps assign body w R->RoundIn Fence.wide m P l fn tmps assign body w R:=fun n m h=>⟨h.1,fun c cs _=>h.2 c cs (fun d hd=>by cases hd)⟩
 rcases G.hF with e|⟨l',e⟩<;>rw [e]
 ·exact hn 0 _ ⟨h1,h2⟩
 ·exact hn 0 _ ⟨h1,h2⟩
theorem A1.yield(y:Nat)(r:Nat->Nat)(hy:y%2=1)(hx:evO P s.env.get x=.yld (r y))(hc:DA P y ds H d H')(ha:args.toList.map (evO P s.env.get)=BZ r ds)(hg:gd=none∨∃ j want t,gd=some (j,want)/\AT ops j=some t/\gOf (s.env.get t) want=some true)
  (hl:ltL 4 ds=true) (hh:Ba r (Ad s.hp) H) (hok:CS (2*(nx+4*pos)) r H H'=true)
  (hk:GoS P ops nx l (pos+1) (Ce (2*(nx+4*pos)) r H d H'::acc) (s.app dst (Ce (2*(nx+4*pos)) r H d H')) K):A1 P ops nx (⟨dst,.call {callee:=.value x,args:=args,argTypes:=ts},T,ps,af,gd⟩::l) pos acc s K:=by
 rw[Cb] at hk;rw[Bj]
 unfold Bz
 have h0:CS (2*(nx+4*pos)) r H []=true:=by
  simp only[CS,A07] at hok|-
  obtain⟨⟨⟨⟨hok1,hok2⟩,hok3⟩,hok4⟩,hok5⟩:=hok
  exact⟨⟨⟨⟨hok1,hok2⟩,rfl⟩,rfl⟩,hok5⟩
 have hdo:AC P ⟨dst,.call {callee:=.value x,args:=args,argTypes:=ts},T,ps,af,gd⟩ (2*(nx+4*pos)) (evO P s.env.get) (Ad s.hp) (Ce (2*(nx+4*pos)) r H d H'):=by
  intro w0 M0 I0 fr I mu h a w hga hw hid hxs hb K Q hK
  refine P5 (X:=fun d' h'=>d'=d/\h'=H') r (fun w0 M0 I0 fr I mu h a w hw hxs=>⟨args.toList.map a.eval,?_,fun M G muc hga hdl hW hargs hmuc K Q hK=>?_⟩) hl hh h0 (fun d' H'' h=>by rw[h.2];exact hok) w0 M0 I0 fr I mu h a w hga hw hid hxs hb K Q fun e ⟨d',H'',h1,h2⟩=>by
   obtain⟨rfl,rfl⟩:=h1;subst h2;exact hK
  ·rw[<-ha]
   exact Bc.args fun y hy=>hxs y (by simp[Op.operands,Call.operands];exact .inr (by simpa using hy))
  ·have hxr:=hxs x (by simp[Op.operands,Call.operands])
   rw[hx] at hxr
   generalize he:a.eval x=fv at hxr
   cases hxr with
   |yld _ l hl=>
   obtain⟨fn,tmps,assign,body,q1,q2⟩:=hc w M G I muc (args.toList.map a.eval) l hga hdl (hmuc y _ (by simp[okN,hy]) hl) hW hargs
   have hrun:(execOp a.eval ⟨dst,.call {callee:=.value x,args:=args,argTypes:=ts},T,ps,af,gd⟩).run P w=.ok (.round l fn tmps assign body) w:=by
    have e1:args.map a.eval=(args.toList.map a.eval).toArray:=by apply Array.ext';simp
    simp only[execOp,resolve,he,Deferred.ofValue,A0e,A0j,Result.andThen,invoke]
    have e2:#[]++args.map a.eval++ #[]=(args.toList.map a.eval).toArray:=by rw[e1];simp
    exact(congrArg (fun z=>(Instr.yield l z).run P w) e2).trans q1
   refine⟨fun f _=>I0.fn f,?_⟩
   rw[Oper.semAt_eq _ _ _ (Hr hrun (fun _ h=>by cases h)),hrun]
   refine⟨fun h=>(by rw[I0.depth] at h;cases h),TF (RoundIn.mono q2 fun e w' ⟨v,I',mu',he,hv,R⟩=>?_)⟩
   obtain⟨v',rfl,hK'⟩:=hK e w' ⟨d,H',v,I',mu',⟨rfl,rfl⟩,he,hv,R⟩
   exact hK'
 refine .inl ⟨_,?_,by have:=Go.run hk;unfold Bz at this;exact this⟩
 rcases hg with rfl|⟨j,want,t,rfl,ht,hg⟩
 ·exact Bd.plain rfl hdo
 ·exact Bd.guard_true rfl ht hg hdo
end
attribute [irreducible] A2 UL DA
def NF(F:D->D):Env->Env
 |[]=>[]
 |(t,d)::r=>(t,F d)::NF F r
def WL(F:D->D):Hp->Hp
 |[]=>[]
 |(c,y)::r=>(c,Jw F y)::WL F r
theorem NE{F:D->D}(hF:F .any=.any):∀ (e:Env) (t:Nat),(NF F e).get t=F (e.get t)
 |[],t=>hF.symm
 |(k,d)::r,t=>by
  simp only[NF,Env.get]
  cases k==t with
  |true=>rfl
  |false=>exact NE hF r t
theorem ND{F:D->D}:∀ (h:Hp) (c:Nat) (y:Blk),Ad (WL F h) c=some y->∃ z,Ad h c=some z/\y=Jw F z
 |[],c,y,h=>by cases h
 |(k,z)::r,c,y,h=>by
  simp only[WL,Ad] at h|-
  cases hk:k==c with
  |true=>simp only[hk,cond_true,A03] at h;exact⟨z,by simp,h.symm⟩
  |false=>simp only[hk,cond_false] at h|-;exact ND r c y h
def reS(b:Nat)(F:D->D)(y:Blk)(s:St):St:=⟨NF F s.env,(2*s.nx,y)::WL F (del s.hp b),s.nx+1⟩
def ReOk(b c:Nat)(x:Blk)(F:D->D)(y:Blk)(w:World)(I:Nat->Prop)(mu:Nat->Option Value)(u:Value):Prop:=
 D7 w I (Ax mu c u) c y/\(∀ k,Ae u=some k->∃ v,mu b=some v/\Ae v=some k)/\∀ d v,Rep w I mu d v->Rep w I (Ax mu c u) (F d) v
theorem Rel.re{w0:World}{M0:Nat->Prop}{I0:Gh}{nt:Nat}{I:Nat->Prop}{mu:Nat->Option Value}{s:St}{a:Act}{w:World}{b:Nat}{x y:Blk}{F:D->D}(hF:F .any=.any)(r:Rel w0 M0 I0 nt (frN s.nx) I mu s.fs a w)(hb:Ad s.hp b=some x){u:Value}(k:ReOk b (2*s.nx) x F y w I mu u):
  Rel w0 M0 I0 nt (frN (reS b F y s).nx) I (Ax mu (2*s.nx) u) (reS b F y s).fs a w:=by
 obtain⟨k1,k2,k3⟩:=k
 have hfr:frN s.nx (2*s.nx):=⟨by omega,A0a _⟩
 have hnone:mu (2*s.nx)=none:=r.w.fresh _ hfr
 have hm:=Bs (v:=u) hnone
 have hb':s.fs.hp b=some x:=hb
 have hlk:∀ c z,Ad ((2*s.nx,y)::WL F (del s.hp b)) c=some z->(c=2*s.nx/\z=y)∨(c≠2*s.nx/\c≠b/\∃ z',s.fs.hp c=some z'/\z=Jw F z'):=by
  intro c z h
  simp only[Ad] at h
  by_cases hc:2*s.nx=c
  ·have:(2*s.nx==c)=true:=by simp[hc]
   rw[this,cond_true] at h
   exact .inl ⟨hc.symm,(Option.some.inj h).symm⟩
  ·have:(2*s.nx==c)=false:=by simp[hc]
   rw[this,cond_false] at h
   obtain⟨z',hz,rfl⟩:=ND _ c z h
   rw[JA] at hz
   split at hz
   ·cases hz
   ·rename_i hne;exact .inr ⟨fun h=>hc h.symm,fun h=>hne h.symm,z',hz,rfl⟩
 have hmu:∀ c,c≠2*s.nx->Ax mu (2*s.nx) u c=mu c:=fun c hc=>by simp[Ax,hc]
 refine⟨r.size,r.defers,fun t=>?_,⟨fun c z h=>?_,fun c z v j h hv hj=>?_,fun c c' z z' v v' j h h' hv hv' hj hj'=>?_,fun c hc=>?_,r.w.lt,r.w.os,r.w.tape,r.w.output,r.w.grown,r.w.old,r.w.iold,r.w.inew,fun c v hc hn=>hm c v (r.w.keep c v hc hn),fun c z h hc=>?_⟩⟩
 ·show Rep w I _ ((NF F s.env).get t) _
  rw[NE hF]
  exact k3 _ _ (r.env t)
 ·rcases hlk c z h with⟨rfl,rfl⟩|⟨h1,h2,z',h3,rfl⟩
  ·exact k1
  ·have:=(r.w.blk c z' h3).mapB (F:=fun d=>d) (J:=I) (fun d v h=>h)
   have hbr:=r.w.blk c z' h3
   cases z' with
   |rows es sz=>
    obtain⟨kk,T,us,g1,g2,g3,g4,g5⟩:=hbr
    refine⟨kk,T,us,hm _ _ g1,g2,by simpa using g3,fun i hi=>?_,fun i j hi hj=>?_⟩
    ·simp only[A06] at hi;rw[F9 hi,A06];exact g4 i hi
    ·simp only[A06] at hi;rw[F9 hi,CT (by rw[g4 i hi];exact hj)];exact k3 _ _ (g5 i j hi hj)
   |grow es sz=>
    obtain⟨A,cap,T,us,g1,g2,g3,g4⟩:=hbr
    refine⟨A,cap,T,us,by simpa using hm _ _ g1,fun i hi=>?_,g3,?_⟩
    ·simp only[A06] at hi;rw[F9 hi,A06];exact g2 i hi
    ·rcases g4 with⟨g4,rfl⟩|⟨kk,g0,hA,g5,g6,g7,g8⟩
     ·exact .inl ⟨g4,rfl⟩
     ·refine .inr ⟨kk,g0,hA,g5,by simpa using g6,g7,fun i j hi hj=>?_⟩
      simp only[A06] at hi;rw[F9 hi,CT (by rw[g2 i hi];exact hj)];exact k3 _ _ (g8 i j hi hj)
   |map es ck=>
    obtain⟨kk,l,g1,g2,g3,g4,g5⟩:=hbr
    refine⟨kk,l,hm _ _ g1,g2,by rw[g3];simp[Function.comp_def],by rw[g4];simp[Function.comp_def],fun i e p he hp=>?_⟩
    simp only[A0x,A1z] at hp
    obtain⟨q,hq,rfl⟩:=hp
    exact k3 _ _ (g5 i e q he hq)
   |iter m since seen last=>
    obtain⟨kk,km,g1,g2,g3⟩:=hbr
    exact⟨kk,km,hm _ _ g1,hm _ _ g2,g3⟩
   |obj o=>
    obtain⟨kk,g1,g2⟩:=hbr
    exact⟨kk,hm _ _ g1,g2⟩
   |loop env nt st pd ps a c=>
    obtain⟨kk,fn,tmps,kd,g1,g2,g3,g4⟩:=hbr
    exact⟨kk,fn,tmps,kd,hm _ _ g1,g2,g3,fun t=>Mu (Q:=fun d=>Rep w I (Ax mu (2*s.nx) u) d (tmps.getD t undef)) (.any _) (k3 _ _ (g4 t))⟩
   |pr g p=>
    obtain⟨v,u,g1,g2,g3,g4,g5⟩:=hbr
    exact⟨v,u,hm _ _ g1,hm _ _ g2,g3,g4,g5⟩
   |junk=>trivial
 ·rcases hlk c z h with⟨rfl,rfl⟩|⟨h1,h2,z',h3,rfl⟩
  ·simp only[Ax,if_true,A03] at hv
   subst hv
   obtain⟨v',hv',hj'⟩:=k2 j hj
   exact r.w.loc b x v' j hb' hv' hj'
  ·rw[hmu c h1] at hv
   exact r.w.loc c z' v j h3 hv hj
 ·have cross:∀ c z v j,c≠b->s.fs.hp c=some z->mu c=some v->Ae v=some j->Ae u=some j->False:=by
   intro c z v j hc h1 h2 h3 h4
   obtain⟨v',hv',hj'⟩:=k2 j h4
   exact hc (r.w.inj c b z x v v' j h1 hb' h2 hv' h3 hj')
  rcases hlk c z h with⟨rfl,rfl⟩|⟨h1,h2,z1,h3,rfl⟩<;>rcases hlk c' z' h' with⟨rfl,rfl⟩|⟨h1',h2',z1',h3',rfl⟩
  ·rfl
  ·simp only[Ax,if_true,A03] at hv
   subst hv
   rw[hmu c' h1'] at hv'
   exact(cross c' z1' v' j h2' h3' hv' hj' hj).elim
  ·simp only[Ax,if_true,A03] at hv'
   subst hv'
   rw[hmu c h1] at hv
   exact(cross c z1 v j h2 h3 hv hj hj').elim
  ·rw[hmu c h1] at hv
   rw[hmu c' h1'] at hv'
   exact r.w.inj c c' z1 z1' v v' j h3 h3' hv hv' hj hj'
 ·obtain⟨h1,h2⟩:=hc
  have h2':2*(s.nx+1)<=c:=h2
  rw[hmu c (by omega)]
  exact r.w.fresh c ⟨h1,by omega⟩
 ·obtain⟨h1,h2⟩:=hc
  have h2':2*(s.nx+1)<=c:=h2
  rcases hlk c z h with⟨rfl,rfl⟩|⟨h3,h4,z',h5,rfl⟩
  ·omega
  ·exact r.w.used c z' h5 ⟨h1,by omega⟩
def unD(b c cap sz:Nat):D->D
 |.gref b' n=>bif b'==b then .sref c 0 n cap sz else .gref b' n
 |d=>d
def un0D(b:Nat):D->D
 |.gref b' n=>bif b'==b then .slice [] true else .gref b' n
 |d=>d
def unB(es:List (List D))(sz cap:Nat):Blk:=.rows (es++List.replicate (cap-es.length) (List.replicate sz .any)) sz
theorem AWp.ungrow{P:Program}{nt:Nat}{c:Code}{Q:AE->St->Prop}{s:St}{b sz:Nat}{es:List (List D)}(hb:Ad s.hp b=some (.grow es sz))
  (h0:es=[]->AWp P nt c Q (reS b (un0D b) .junk s)) (h1:∀ cap,es.length<=cap->0<cap->cap<=9223372036854775807->AWp P nt c Q (reS b (unD b (2*s.nx) cap sz) (unB es sz cap) s)):AWp P nt c Q s:=by
 intro w0 M0 I0 g I mu a w r
 have hbr:=r.w.blk b _ hb
 have hnone:mu (2*s.nx)=none:=r.w.fresh _ ⟨by omega,A0a _⟩
 obtain⟨A,cap,T,us,g1,g2,g3,g4⟩:=hbr
 rcases g4 with⟨rfl,rfl⟩|⟨k,g0,rfl,g5,g6,g7,g8⟩
 ·have hm:=Bs (v:=undef) hnone
  refine h0 rfl w0 M0 I0 g I _ a w (r.re (b:=b) (u:=undef) rfl hb ⟨trivial,fun k hk=>by simp[undef,Ae] at hk,fun d v hv=>?_⟩)
  cases hv with
  |gref b' n A' cap' hk=>
   simp only[un0D]
   by_cases hbb:b'=b
   ·subst hbb
    rw[g1] at hk
    simp only[A03,A0N] at hk
    obtain⟨rfl,rfl,rfl⟩:=hk
    simp only[beq_self_eq_true,cond_true]
    exact .slice [] true A 0 0 0 0 (fun _ _=>.nilFunc) (fun h=>absurd h (by simp)) (A0a _) (fun _=>rfl) (A0D _) (fun i h=>absurd h (by simp)) (fun i j h=>absurd h (by simp)) (fun i j h=>absurd h (by simp))
   ·have:(b'==b)=false:=by simp[hbb]
    rw[this,cond_false]
    exact .gref b' n A' cap' (hm _ _ hk)
  |any v=>exact .any v
  |val v ok=>exact .val v ok
  |cond g d v h h'=>exact (Rep.cond g d v h h').mono (fun _ _=>rfl) (fun _ h=>h) hm
  |agg cs us hl h=>exact (Rep.agg cs us hl h).mono (fun _ _=>rfl) (fun _ h=>h) hm
  |tup cs us hl h=>exact (Rep.tup cs us hl h).mono (fun _ _=>rfl) (fun _ h=>h) hm
  |slice es tight A k o sz cap u hA hc ht hm' hlen hcell h=>exact (Rep.slice es tight A k o sz cap u hA hc ht hm' hlen hcell h).mono (fun _ _=>rfl) (fun _ h=>h) hm
  |ptr cs off k o u hI hcell h=>exact (Rep.ptr cs off k o u hI hcell h).mono (fun _ _=>rfl) (fun _ h=>h) hm
  |ref b i off sz k h=>exact .ref b i off sz k (hm _ _ h)
  |sref b i len cap sz k h=>exact .sref b i len cap sz k (hm _ _ h)
  |mref b k h=>exact .mref b k (hm _ _ h)
  |yld b k h=>exact .yld b k (hm _ _ h)
  |func fn fs cs us vs hl hk h h'=>exact (Rep.func fn fs cs us vs hl hk h h').mono (fun _ _=>rfl) (fun _ h=>h) hm
  |iface t d v h=>exact (Rep.iface t d v h).mono (fun _ _=>rfl) (fun _ h=>h) hm
  |abool n pos b h=>exact .abool n pos b h
  |gel b i off sz k len cap h=>exact .gel b i off sz k len cap (hm _ _ h)
  |gsub b i len sz A B n cap h hle hB=>exact .gsub b i len sz A B n cap (hm _ _ h) hle hB
 ·have hm:=Bs (v:=.pointer (some ⟨k,0,none⟩)) hnone
  refine h1 cap g6 g0 (by simpa[maxLen] using g3) w0 M0 I0 g I _ a w (r.re (b:=b) (u:=.pointer (some ⟨k,0,none⟩)) rfl hb ⟨⟨k,T,us,by simp[Ax],g5,by rw[g7,A04,A1a];exact congrArg (· *sz) (by omega),fun i hi=>?_,fun i j hi hj=>?_⟩,fun k' hk=>?_,fun d v hv=>?_⟩)
  ·by_cases hlt:i<es.length
   ·have:nr (es++List.replicate (cap-es.length) (List.replicate sz .any)) i=nr es i:=by simp[nr,A02,A0q hlt]
    rw[this];exact g2 i hlt
   ·simp at hi
    have:nr (es++List.replicate (cap-es.length) (List.replicate sz .any)) i=List.replicate sz .any:=by
     simp[nr,A02,A0o (A1Y hlt),A1v,show i-es.length<cap-es.length by omega]
    rw[this];simp
  ·by_cases hlt:i<es.length
   ·have:nr (es++List.replicate (cap-es.length) (List.replicate sz .any)) i=nr es i:=by simp[nr,A02,A0q hlt]
    rw[this];exact(g8 i j hlt hj).mono (fun _ _=>rfl) (fun _ h=>h) hm
   ·simp at hi
    have:nr (es++List.replicate (cap-es.length) (List.replicate sz .any)) i=List.replicate sz .any:=by
     simp[nr,A02,A0o (A1Y hlt),A1v,show i-es.length<cap-es.length by omega]
    rw[this]
    have:nd (List.replicate sz D.any) j=.any:=by simp[nd,A02,A1v,hj]
    rw[this];exact .any _
  ·simp only[Ae,A03] at hk
   exact⟨_,g1,by simp only[Ae];rw[if_neg (by omega),hk]⟩
  ·cases hv with
   |gref b' n A' cap' hk=>
    simp only[unD]
    by_cases hbb:b'=b
    ·subst hbb
     rw[g1] at hk
     simp only[A03,A0N] at hk
     obtain⟨rfl,rfl,rfl⟩:=hk
     simp only[beq_self_eq_true,cond_true]
     have:=Rep.sref (w:=w) (I:=I) (mu:=Ax mu (2*s.nx) (.pointer (some ⟨k,0,none⟩))) (2*s.nx) 0 es.length cap sz k (by simp[Ax])
     rw[Nat.zero_mul] at this
     exact this
    ·have:(b'==b)=false:=by simp[hbb]
     rw[this,cond_false]
     exact .gref b' n A' cap' (hm _ _ hk)
   |any v=>exact .any v
   |val v ok=>exact .val v ok
   |cond g d v h h'=>exact (Rep.cond g d v h h').mono (fun _ _=>rfl) (fun _ h=>h) hm
   |agg cs us hl h=>exact (Rep.agg cs us hl h).mono (fun _ _=>rfl) (fun _ h=>h) hm
   |tup cs us hl h=>exact (Rep.tup cs us hl h).mono (fun _ _=>rfl) (fun _ h=>h) hm
   |slice es tight A k o sz cap u hA hc ht hm' hlen hcell h=>exact (Rep.slice es tight A k o sz cap u hA hc ht hm' hlen hcell h).mono (fun _ _=>rfl) (fun _ h=>h) hm
   |ptr cs off k o u hI hcell h=>exact (Rep.ptr cs off k o u hI hcell h).mono (fun _ _=>rfl) (fun _ h=>h) hm
   |ref b i off sz k h=>exact .ref b i off sz k (hm _ _ h)
   |sref b i len cap sz k h=>exact .sref b i len cap sz k (hm _ _ h)
   |mref b k h=>exact .mref b k (hm _ _ h)
   |yld b k h=>exact .yld b k (hm _ _ h)
   |func fn fs cs us vs hl hk h h'=>exact (Rep.func fn fs cs us vs hl hk h h').mono (fun _ _=>rfl) (fun _ h=>h) hm
   |iface t d v h=>exact (Rep.iface t d v h).mono (fun _ _=>rfl) (fun _ h=>h) hm
   |abool n pos b h=>exact .abool n pos b h
   |gel b i off sz k len cap h=>exact .gel b i off sz k len cap (hm _ _ h)
   |gsub b i len sz A B n cap h hle hB=>exact .gsub b i len sz A B n cap (hm _ _ h) hle hB
def grS(b c n cap:Nat):D->D
 |.sref b' i len cap' sz=>bif b'==b&&i==0&&len==n&&cap'==cap then .gref c n else .sref b' i len cap' sz
 |d=>d
def grG(b c n:Nat):D->D
 |.gsub b' i len sz=>bif b'==b&&i==0&&len==n then .gref c n else .gsub b' i len sz
 |d=>d
section
variable{w:World}{I:Nat->Prop}{mu mu':Nat->Option Value}
theorem rep_grS{b c n cap k:Nat}(hm:∀ b x,mu b=some x->mu' b=some x)(hb:mu b=some (.pointer (some ⟨k,0,none⟩)))(hc:mu' c=some (.slice (some ⟨k,0,none⟩) n cap)){d:D}{v:Value}(hv:Rep w I mu d v):Rep w I mu' (grS b c n cap d) v:=by
 have hv':=hv.mono (fun _ _=>rfl) (fun _ h=>h) hm
 cases d with
 |sref b' i len cap' sz=>
  simp only[grS]
  cases hq:(b'==b&&i==0&&len==n&&cap'==cap) with
  |true=>
   simp only[A07,beq_iff_eq] at hq
   obtain⟨⟨⟨rfl,rfl⟩,rfl⟩,rfl⟩:=hq
   cases hv with
   |sref _ _ _ _ _ k' h=>
    rw[hb] at h
    simp only[A03,A0O,A16,and_true] at h
    subst h
    rw[Nat.zero_mul]
    exact .gref c len _ cap' hc
  |false=>exact hv'
 |_=>exact hv'
theorem rep_grG{b c n m cap:Nat}{A:Option Addr}(hm:∀ b x,mu b=some x->mu' b=some x)(hb:mu b=some (.slice A m cap))(hc:mu' c=some (.slice A n cap)){d:D}{v:Value}(hv:Rep w I mu d v):Rep w I mu' (grG b c n d) v:=by
 have hv':=hv.mono (fun _ _=>rfl) (fun _ h=>h) hm
 cases d with
 |gsub b' i len sz=>
  simp only[grG]
  cases hq:(b'==b&&i==0&&len==n) with
  |true=>
   simp only[A07,beq_iff_eq] at hq
   obtain⟨⟨rfl,rfl⟩,rfl⟩:=hq
   cases hv with
   |gsub _ _ _ _ A' B' n' cap' h hle hB=>
    rw[hb] at h
    simp only[A03,A0N] at h
    obtain⟨rfl,rfl,rfl⟩:=h
    have:B'=A:=by rw[hB (.inr rfl)];cases A<;>simp [Addr.add]
    rw[this,Nat.sub_zero]
    exact .gref c len A cap hc
  |false=>exact hv'
 |_=>exact hv'
end
theorem Ar.regrow{s:St}{b sz:Nat}{es:List (List D)}(n:Nat)(hb:Ad s.hp b=some (.rows es sz))(hn:n<=es.length)(hm:es.length<=9223372036854775807):Ar s (reS b (grS b (2*s.nx) n es.length) (.grow (es.take n) sz) s):=by
 intro w0 M0 I0 nt I mu a w r
 obtain⟨k,T,us,g1,g2,g3,g4,g5⟩:=r.w.blk b _ hb
 have hnone:mu (2*s.nx)=none:=r.w.fresh _ ⟨by omega,A0a _⟩
 have hmm:=Bs (v:=.slice (some ⟨k,0,none⟩) n es.length) hnone
 have hl:(es.take n).length=n:=by simp;omega
 have hnr:∀ i,i<n->nr (es.take n) i=nr es i:=by
  intro i hi;simp only[nr,A02];rw[A0n hi]
 refine⟨I,_,r.re (b:=b) (u:=.slice (some ⟨k,0,none⟩) n es.length) rfl hb ⟨⟨some ⟨k,0,none⟩,es.length,T,us,by simp[Ax,hl],fun i hi=>by rw[hl] at hi;rw[hnr i hi];exact g4 i (by omega),by simpa[maxLen] using hm,?_⟩,fun k' hk=>?_,fun d v hv=>rep_grS hmm g1 (by simp[Ax]) hv⟩⟩
 ·rcases A17 es.length with h0|hpos
  ·exact .inl ⟨h0,by rw[A0w h0];simp⟩
  ·exact .inr ⟨k,hpos,rfl,g2,by rw[hl];exact hn,g3,fun i j hi hj=>by
    rw[hl] at hi
    rw[hnr i hi];exact(g5 i j (by omega) hj).mono (fun _ _=>rfl) (fun _ h=>h) hmm⟩
 ·simp only[Ae] at hk
  split at hk
  ·cases hk
  ·exact⟨_,g1,hk⟩
theorem Ar.cut{s:St}{b sz:Nat}{es:List (List D)}(n:Nat)(hb:Ad s.hp b=some (.grow es sz))(hn:n<=es.length):Ar s (reS b (grG b (2*s.nx) n) (.grow (es.take n) sz) s):=by
 intro w0 M0 I0 nt I mu a w r
 obtain⟨A,cap,T,us,g1,g2,g3,g4⟩:=r.w.blk b _ hb
 have hnone:mu (2*s.nx)=none:=r.w.fresh _ ⟨by omega,A0a _⟩
 have hmm:=Bs (v:=.slice A n cap) hnone
 have hl:(es.take n).length=n:=by simp;omega
 have hnr:∀ i,i<n->nr (es.take n) i=nr es i:=by
  intro i hi;simp only[nr,A02];rw[A0n hi]
 refine⟨I,_,r.re (b:=b) (u:=.slice A n cap) rfl hb ⟨⟨A,cap,T,us,by simp[Ax,hl],fun i hi=>by rw[hl] at hi;rw[hnr i hi];exact g2 i (by omega),g3,?_⟩,fun k' hk=>⟨_,g1,by cases A with
  |none=>simp [Ae] at hk
  |some a=>exact hk⟩,fun d v hv=>rep_grG hmm g1 (by simp[Ax]) hv⟩⟩
 rcases g4 with⟨g4,rfl⟩|⟨k,q0,q1,q2,q3,q4,q5⟩
 ·exact .inl ⟨g4,by simp⟩
 ·exact .inr ⟨k,q0,q1,q2,by rw[hl];omega,q4,fun i j hi hj=>by
   rw[hl] at hi
   rw[hnr i hi];exact(q5 i j (by omega) hj).mono (fun _ _=>rfl) (fun _ h=>h) hmm⟩
def DC:D->Bool
 |.val _|.any|.abool _ _=>true
 |.agg cs=>flatL cs
 |.tup cs=>flatL cs
 |.iface _ d=>DC d
 |_=>false
where flatL:List D->Bool
 |[]=>true
 |d::r=>DC d&&flatL r
theorem Mj:∀ {l:List D},DC.flatL l=true->∀ i,i<l.length->DC (nd l i)=true
 |d::r,h,0,_=>by simp only[DC.flatL,A07] at h;exact h.1
 |d::r,h,i+1,hi=>by simp only[DC.flatL,A07] at h;exact Mj h.2 i (by simpa using hi)
theorem Rep.flat{w w':World}{I J:Nat->Prop}{mu mu':Nat->Option Value}{d:D}{v:Value}(h:Rep w I mu d v)(hf:DC d=true):Rep w' J mu' d v:=by
 induction h with
 |any v=>exact .any v
 |val v ok=>exact .val v ok
 |agg cs us hl _ ih=>exact .agg cs us hl fun i hi=>ih i hi (Mj (by simpa[DC] using hf) i hi)
 |tup cs us hl _ ih=>exact .tup cs us hl fun i hi=>ih i hi (Mj (by simpa[DC] using hf) i hi)
 |iface t d v _ ih=>exact .iface t d v (ih (by simpa[DC] using hf))
 |abool n pos b h=>exact .abool n pos b h
 |_=>simp [DC] at hf
def Fm(hp:Nat->Option Blk):D->D
 |.sref b i len cap sz=>match hp b with
  |some (.rows es _)=>.slice ((es.drop i).take len) false
  |_=>.sref b i len cap sz
 |.gref b len=>match hp b with
  |some (.grow es _)=>.slice es false
  |_=>.gref b len
 |.ref b i off sz=>match hp b with
  |some (.rows es _)=>.ptr (nr es i) off
  |_=>.ref b i off sz
 |d=>d
def Gq(hp:Nat->Option Blk):D->Prop
 |.sref b i len cap sz=>match hp b with
  |some (.rows es sz')=>sz=sz'/\i+len<=es.length/\len<=cap/\cap<=9223372036854775807/\A6 es=true
  |_=>False
 |.gref b len=>match hp b with
  |some (.grow es _)=>len=es.length/\A6 es=true
  |_=>False
 |.ref b i _ sz=>match hp b with
  |some (.rows es sz')=>sz=sz'/\i<es.length
  |_=>False
 |_=>True
def EX(hp:Nat->Option Blk):List D->Prop
 |[]=>True
 |d::r=>Gq hp d/\EX hp r
theorem Gg{hp:Nat->Option Blk}:∀ {l:List D},EX hp l->∀ d ∈ l,Gq hp d
 |d::r,h,x,hx=>by
  rcases A0s.1 hx with rfl|hx
  ·exact h.1
  ·exact Gg h.2 x hx
def UH:D->List Nat
 |.sref b _ _ _ _=>[b]
 |.gref b _=>[b]
 |.ref b _ _ _=>[b]
 |_=>[]
def Em:List D->List Nat
 |[]=>[]
 |d::r=>UH d++Em r
theorem HH:∀ {l:List D},∀ d ∈ l,∀ b ∈ UH d,b ∈ Em l
 |d::r,x,hx,b,hb=>by
  simp only[Em,A1t]
  rcases A0s.1 hx with rfl|hx
  ·exact .inl hb
  ·exact .inr (HH x hx b hb)
theorem Rep.bor{w0:World}{M0:Nat->Prop}{I0:Gh}{fr I J:Nat->Prop}{mu:Nat->Option Value}{hp:Nat->Option Blk}{w:World}(hr:Ap w0 M0 I0 fr I mu hp w)(hIJ:∀ k,I k->J k)(hJ:∀ b x v k,hp b=some x->mu b=some v->Ae v=some k->J k){d:D}{v:Value}(h:Rep w I mu d v)(ho:Gq hp d):Rep w J mu (Fm hp d) v:=by
 have hz:=Rep.frz hr hIJ hJ 1 d v h
 have mono:=h.mono (w':=w) (I':=J) (mu':=mu) (fun _ _=>rfl) hIJ (fun _ _ h=>h)
 cases d with
 |sref b i len cap sz=>
  simp only[Fm,Gq] at*
  cases hb:hp b with
  |none=>rw [hb] at ho;exact ho.elim
  |some x=>
   rw[hb] at ho
   cases x with
   |rows es sz'=>
    obtain⟨h1,h2,h3,h4,h5⟩:=ho
    simp only[Go.Ab.frz,hb] at hz
    rw[if_pos ⟨h1,h2,h3,h4⟩,h5] at hz
    exact hz.loose
   |_=>exact ho.elim
 |gref b len=>
  simp only[Fm,Gq] at*
  cases hb:hp b with
  |none=>rw [hb] at ho;exact ho.elim
  |some x=>
   rw[hb] at ho
   cases x with
   |grow es sz'=>
    obtain⟨h1,h2⟩:=ho
    simp only[Go.Ab.frz,hb] at hz
    rw[if_pos ⟨h1,h2⟩] at hz
    exact hz
   |_=>exact ho.elim
 |ref b i off sz=>
  simp only[Fm,Gq] at*
  cases hb:hp b with
  |none=>rw [hb] at ho;exact ho.elim
  |some x=>
   rw[hb] at ho
   cases x with
   |rows es sz'=>
    simp only[Go.Ab.frz,hb] at hz
    rw[if_pos ho] at hz
    simpa[Go.Ab.frz] using hz
   |_=>exact ho.elim
 |_=>exact mono
theorem QB{h hp:Nat->Option Blk}{d:D}(hb:∀ b ∈ UH d,h b=hp b):Fm h d=Fm hp d/\(Gq hp d->Gq h d):=by
 cases d with
 |sref b i len cap sz=>have:=hb b (by simp[UH]);simp only[Fm,Gq,this];exact⟨trivial,fun h=>h⟩
 |gref b len=>have:=hb b (by simp[UH]);simp only[Fm,Gq,this];exact⟨trivial,fun h=>h⟩
 |ref b i off sz=>have:=hb b (by simp[UH]);simp only[Fm,Gq,this];exact⟨trivial,fun h=>h⟩
 |_=>exact ⟨rfl,fun h=>h⟩
theorem GIn.mono{P:Program}{w:World}{I J:Nat->Prop}(h:GIn P w I)(hIJ:∀ k,I k->J k):GIn P w J:=fun g l hg=>⟨hIJ _ (h g l hg).1,(h g l hg).2⟩
theorem KW{P:Program}{id:Nat}{ev:Operand->D}{hp:Nat->Option Blk}{dst:Option Tmp}{T:TypeId}{pos:String}{af:Array Edge}{gd:Option (Nat×Bool)}{f:FuncId}{args:Array Operand}{ts:Array TypeId}{ds:List D}{r:D}
  (ha:(args.toList.map ev).map (Fm hp)=ds) (ho:EX hp (args.toList.map ev)) (hpu:Ag ds=true) (hf:DC r=true) (hc:A0 P f ds r):
  AC P ⟨dst,.call {callee:=.value (.func f),args:=args,argTypes:=ts},T,pos,af,gd⟩ id ev hp ⟨r,[],Em (args.toList.map ev)⟩:=by
 intro w0 M0 I0 fr I mu h a w hga hw hid hxs hb K Q hK
 subst ha
 have hargs:=Bc.args (w:=w) (I:=I) (mu:=mu) (ev:=ev) (a:=a) (args:=args) fun y hy=>hxs y (by simp[Op.operands,Call.operands];exact .inr (by simpa using hy))
 let J:Nat->Prop:=fun k=>I k∨∃ b x v,h b=some x/\mu b=some v/\Ae v=some k
 have hIJ:∀ k,I k->J k:=fun k hk=>.inl hk
 have hJ:∀ b x v k,h b=some x->mu b=some v->Ae v=some k->J k:=fun b x v k h1 h2 h3=>.inr ⟨b,x,v,h1,h2,h3⟩
 have hJl:∀ k,J k->k<w.heap.size:=by
  rintro k (hk|⟨b,x,v,h1,h2,h3⟩)
  ·exact hw.lt k hk
  ·exact(hw.loc b x v k h1 h2 h3).2.2
 have hall:Bc w J mu ((args.toList.map ev).map (Fm hp)) (args.toList.map a.eval):=by
  refine⟨by simpa using hargs.1,fun i hi=>?_⟩
  simp only[A06] at hi
  have hi':i<(args.toList.map ev).length:=by simpa using hi
  rw[CT hi']
  have hmem:nd (args.toList.map ev) i ∈ args.toList.map ev:=by
   simp only[nd,A02,A09 hi',A0J]
   exact A0X hi'
  obtain⟨e1,e2⟩:=QB (h:=h) (hp:=hp) (d:=nd (args.toList.map ev) i) fun b hb'=>hb b (HH _ hmem b hb')
  rw[<-e1]
  exact Rep.bor hw hIJ hJ (hargs.2 i hi') (e2 (Gg ho _ hmem))
 have hall':=hall.unmu (mu':=fun _=>none) hpu
 unfold A0 at hc
 have hcall:=hc.2 w J _ ((hga.at hw).mono hIJ) hJl hall'.1 hall'.2
 have hrun:(execOp a.eval ⟨dst,.call {callee:=.value (.func f),args:=args,argTypes:=ts},T,pos,af,gd⟩).run P w=.ok (.enter f (args.toList.map a.eval).toArray) w:=by
  have e1:args.map a.eval=(args.toList.map a.eval).toArray:=by apply Array.ext';simp
  simp only[execOp,resolve,Act.eval,Deferred.ofValue,A0e,A0j,Result.andThen,invoke]
  have e2:#[]++args.map a.eval++ #[]=(args.toList.map a.eval).toArray:=by rw[e1];simp
  exact(congrArg (fun z=>(callFunc f z).run P w) e2).trans (AZ hc.1 _ w)
 refine C6 hrun ?_
 refine hcall.mono fun e w' ⟨v,I',he,hv,h1,h2,h3,h4⟩=>?_
 subst he
 have hext:Ext I mu w I mu w':=⟨fun _ h=>h,fun _ _ h=>h,fun k hk=>h4.block k (hw.lt k hk)⟩
 exact hK v w' I mu hext ((hw.below (fun _ h=>h) (fun _ h=>.inl h) (fun k hk=>A0R (hw.lt k hk) h4.size) h4).less fun b hb=>hb.1) (hv.flat hf)
noncomputable section
section
variable{P:Program}{ops:Array Oper}{nx:Nat}{dst:Option Tmp}{T:TypeId}{ps:String}{af:Array Edge}{gd:Option (Nat×Bool)}{f:FuncId}{args:Array Operand}{ts:Array TypeId}{ds:List D}{r:D}{l:List Oper}{pos:Nat}{acc:List Eff}{s:St}{K:List Eff->St->Prop}
theorem A1.borrow{bs:List Nat}(hbs:Em (args.toList.map (evO P s.env.get))=bs)(hc:A0 P f ds r)(hg:gd=none∨∃ j want t,gd=some (j,want)/\AT ops j=some t/\gOf (s.env.get t) want=some true)(ha:(args.toList.map (evO P s.env.get)).map (Fm (Ad s.hp))=ds)(ho:EX (Ad s.hp) (args.toList.map (evO P s.env.get)))(hpu:Ag ds=true)(hf:DC r=true)
  (hk:GoS P ops nx l (pos+1) (⟨r,[],bs⟩::acc) (s.app dst ⟨r,[],bs⟩) K):A1 P ops nx (⟨dst,.call {callee:=.value (.func f),args:=args,argTypes:=ts},T,ps,af,gd⟩::l) pos acc s K:=by
 subst hbs
 rw[Cb] at hk;rw[Bj]
 unfold Bz
 refine .inl ⟨_,?_,by have:=Go.run hk;unfold Bz at this;exact this⟩
 rcases hg with rfl|⟨j,want,t,rfl,ht,hg⟩
 ·exact Bd.plain rfl (KW ha ho hpu hf hc)
 ·exact Bd.guard_true rfl ht hg (KW ha ho hpu hf hc)
end
end
theorem Ap.sub{w0 w:World}{M0:Nat->Prop}{I0:Gh}{fr I:Nat->Prop}{mu:Nat->Option Value}{h h':Nat->Option Blk}(r:Ap w0 M0 I0 fr I mu h w)(hs:∀ b x,h' b=some x->h b=some x):Ap w0 M0 I0 fr I mu h' w:=
 ⟨fun b x hx=>r.blk b x (hs b x hx),fun b x v k hx=>r.loc b x v k (hs b x hx),fun b c x y v u k hx hy=>r.inj b c x y v u k (hs b x hx) (hs c y hy),r.fresh,r.lt,r.os,r.tape,r.output,r.grown,r.old,r.iold,r.inew,r.keep,fun b x hx=>r.used b x (hs b x hx)⟩
theorem Hh{b:Nat}:∀ (bs:List Nat) (x:Option Blk),AO b x (bs.map fun c=>(c,none))=if b ∈ bs then none else x
 |[],x=>by simp[AO]
 |c::bs,x=>by
  have:=Hh (b:=b) bs (if c=b then none else x)
  simp only[AO,A0h,A0r] at this|-
  rw[this]
  by_cases h:c=b
  ·subst h;simp
  ·simp[h,show ¬b=c from fun e=>h e.symm]
theorem P6{P:Program}{id:Nat}{ev:Operand->D}{hp:Nat->Option Blk}{dst:Option Tmp}{T:TypeId}{pos:String}{af:Array Edge}{gd:Option (Nat×Bool)}{f:FuncId}{args:Array Operand}{ts:Array TypeId}{ds:List D}{r:D}
  (ha:(args.toList.map ev).map (Fm hp)=ds) (ho:EX hp (args.toList.map ev)) (hpu:Ag ds=true) (hc:A0 P f ds r):
  AC P ⟨dst,.call {callee:=.value (.func f),args:=args,argTypes:=ts},T,pos,af,gd⟩ id ev hp ⟨r,(Em (args.toList.map ev)).map fun c=>(c,none),Em (args.toList.map ev)⟩:=by
 intro w0 M0 I0 fr I mu h a w hga hw hid hxs hb K Q hK
 subst ha
 have hargs:=Bc.args (w:=w) (I:=I) (mu:=mu) (ev:=ev) (a:=a) (args:=args) fun y hy=>hxs y (by simp[Op.operands,Call.operands];exact .inr (by simpa using hy))
 generalize hbs:Em (args.toList.map ev)=bs at*
 let hR:Nat->Option Blk:=fun b=>if b ∈ bs then h b else none
 have hRs:∀ b x,hR b=some x->h b=some x/\b ∈ bs:=by
  intro b x hx
  simp only[hR] at hx
  split at hx
  ·rename_i hm;exact⟨hx,hm⟩
  ·cases hx
 have hwR:Ap w0 M0 I0 fr I mu hR w:=hw.sub fun b x hx=>(hRs b x hx).1
 let J:Nat->Prop:=fun k=>I k∨∃ b x v,hR b=some x/\mu b=some v/\Ae v=some k
 have hIJ:∀ k,I k->J k:=fun k hk=>.inl hk
 have hJ:∀ b x v k,hR b=some x->mu b=some v->Ae v=some k->J k:=fun b x v k h1 h2 h3=>.inr ⟨b,x,v,h1,h2,h3⟩
 have hJl:∀ k,J k->k<w.heap.size:=by
  rintro k (hk|⟨b,x,v,h1,h2,h3⟩)
  ·exact hw.lt k hk
  ·exact(hwR.loc b x v k h1 h2 h3).2.2
 have hall:Bc w J mu ((args.toList.map ev).map (Fm hp)) (args.toList.map a.eval):=by
  refine⟨by simpa using hargs.1,fun i hi=>?_⟩
  simp only[A06] at hi
  have hi':i<(args.toList.map ev).length:=by simpa using hi
  rw[CT hi']
  have hmem:nd (args.toList.map ev) i ∈ args.toList.map ev:=by
   simp only[nd,A02,A09 hi',A0J]
   exact A0X hi'
  obtain⟨e1,e2⟩:=QB (h:=hR) (hp:=hp) (d:=nd (args.toList.map ev) i) fun b hb'=>by
   have hm:b ∈ bs:=by rw[<-hbs];exact HH _ hmem b hb'
   simp only[hR,if_pos hm]
   exact hb b hm
  rw[<-e1]
  exact Rep.bor hwR hIJ hJ (hargs.2 i hi') (e2 (Gg ho _ hmem))
 have hall':=hall.unmu (mu':=fun _=>none) hpu
 unfold A0 at hc
 have hcall:=hc.2 w J _ ((hga.at hw).mono hIJ) hJl hall'.1 hall'.2
 have hrun:(execOp a.eval ⟨dst,.call {callee:=.value (.func f),args:=args,argTypes:=ts},T,pos,af,gd⟩).run P w=.ok (.enter f (args.toList.map a.eval).toArray) w:=by
  have e1:args.map a.eval=(args.toList.map a.eval).toArray:=by apply Array.ext';simp
  simp only[execOp,resolve,Act.eval,Deferred.ofValue,A0e,A0j,Result.andThen,invoke]
  have e2:#[]++args.map a.eval++ #[]=(args.toList.map a.eval).toArray:=by rw[e1];simp
  exact(congrArg (fun z=>(callFunc f z).run P w) e2).trans (AZ hc.1 _ w)
 refine C6 hrun ?_
 refine hcall.mono fun e w' ⟨v,I',he,hv,h1,h2,h3,h4⟩=>?_
 subst he
 have hbl:∀ k,k<w.heap.size->w'.heap[k]? =w.heap[k]?:=fun k hk=>h4.block k hk
 have hII:∀ k,I k->I' k:=fun k hk=>h1 k (hIJ k hk)
 have hext:Ext I mu w I' mu w':=⟨hII,fun _ _ h=>h,fun k hk=>hbl k (hw.lt k hk)⟩
 have hup:∀ b x,AO b (h b) (bs.map fun c=>(c,none))=some x->h b=some x/\b ∉ bs:=by
  intro b x hx
  rw[Hh] at hx
  split at hx
  ·cases hx
  ·rename_i hm;exact⟨hx,hm⟩
 refine hK v w' I' mu hext ⟨fun b x hx=>?_,fun b x u k hx hu hk=>?_,fun b c x y u u' k hx hy=>hw.inj b c x y u u' k (hup b x hx).1 (hup c y hy).1,fun b hb'=>hw.fresh b hb'.1,h3,h4.os.trans hw.os,h4.tape.trans hw.tape,h4.output.trans hw.output,A0L hw.grown h4.size,fun k hk hnm=>(hbl k (by have:=hw.grown;omega)).trans (hw.old k hk hnm),fun k hk=>hII k (hw.iold k hk),fun k hk=>?_,hw.keep,fun b x hx hb'=>hw.used b x (hup b x hx).1 hb'.1⟩ (hv.mono (fun _ _=>rfl) (fun _ h=>h) (fun _ _ h=>by cases h))
 ·obtain⟨g1,g2⟩:=hup b x hx
  exact(hw.blk b x g1).mono hext.w hext.i hext.m fun u k hu hk=>hbl k (hw.loc b x u k g1 hu hk).2.2
 ·obtain⟨g1,g2⟩:=hup b x hx
  have g3:=hw.loc b x u k g1 hu hk
  refine⟨g3.1,fun hI=>?_,A0R g3.2.2 h4.size⟩
  rcases h2 k hI with(h5|⟨c,y,v',q1,q2,q3⟩)|h5
  ·exact g3.2.1 h5
  ·have:=hw.inj b c x y u v' k g1 (hRs c y q1).1 hu q2 hk q3
   exact g2 (this▸(hRs c y q1).2)
  ·omega
 ·rcases h2 k hk with(h5|⟨c,y,v',q1,q2,q3⟩)|h5
  ·exact hw.inew k h5
  ·exact .inr (hwR.loc c y v' k q1 q2 q3).1
  ·exact .inr (.inr (A0L hw.grown h5))
noncomputable section
section
variable{P:Program}{ops:Array Oper}{nx:Nat}{dst:Option Tmp}{T:TypeId}{ps:String}{af:Array Edge}{gd:Option (Nat×Bool)}{f:FuncId}{args:Array Operand}{ts:Array TypeId}{ds:List D}{r:D}{l:List Oper}{pos:Nat}{acc:List Eff}{s:St}{K:List Eff->St->Prop}
theorem A1.give{bs:List Nat}(hbs:Em (args.toList.map (evO P s.env.get))=bs)(hc:A0 P f ds r)(hg:gd=none∨∃ j want t,gd=some (j,want)/\AT ops j=some t/\gOf (s.env.get t) want=some true)(ha:(args.toList.map (evO P s.env.get)).map (Fm (Ad s.hp))=ds)(ho:EX (Ad s.hp) (args.toList.map (evO P s.env.get)))(hpu:Ag ds=true)
  (hk:GoS P ops nx l (pos+1) (⟨r,bs.map fun c=>(c,none),bs⟩::acc) (s.app dst ⟨r,bs.map fun c=>(c,none),bs⟩) K):A1 P ops nx (⟨dst,.call {callee:=.value (.func f),args:=args,argTypes:=ts},T,ps,af,gd⟩::l) pos acc s K:=by
 subst hbs
 rw[Cb] at hk;rw[Bj]
 unfold Bz
 refine .inl ⟨_,?_,by have:=Go.run hk;unfold Bz at this;exact this⟩
 rcases hg with rfl|⟨j,want,t,rfl,ht,hg⟩
 ·exact Bd.plain rfl (P6 ha ho hpu hc)
 ·exact Bd.guard_true rfl ht hg (P6 ha ho hpu hc)
end
end
theorem My{P:Program}{id:Nat}{ev:Operand->D}{hp:Nat->Option Blk}{dst:Option Tmp}{T:TypeId}{pos:String}{af:Array Edge}{gd:Option (Nat×Bool)}{x:Operand}{f:FuncId}{args:Array Operand}{ts:Array TypeId}{ds:List D}{r:D}
  (hx:ev x=.func (.func f) [] []) (ha:(args.toList.map ev).map (Fm hp)=ds) (ho:EX hp (args.toList.map ev)) (hpu:Ag ds=true) (hc:A0 P f ds r):
  AC P ⟨dst,.call {callee:=.value x,args:=args,argTypes:=ts},T,pos,af,gd⟩ id ev hp ⟨r,(Em (args.toList.map ev)).map fun c=>(c,none),Em (args.toList.map ev)⟩:=by
 intro w0 M0 I0 fr I mu h a w hga hw hid hxs hb K Q hK
 subst ha
 have he:a.eval x=.func (.func f) #[] #[]:=by
  have hxr:=hxs x (by simp[Op.operands,Call.operands])
  rw[hx] at hxr
  generalize a.eval x=fv at hxr
  cases hxr with
  |func _ _ _ us vs hl hk h1 h2=>rw [A0Q.1 hl,A0Q.1 hk]
 have hargs:=Bc.args (w:=w) (I:=I) (mu:=mu) (ev:=ev) (a:=a) (args:=args) fun y hy=>hxs y (by simp[Op.operands,Call.operands];exact .inr (by simpa using hy))
 generalize hbs:Em (args.toList.map ev)=bs at*
 let hR:Nat->Option Blk:=fun b=>if b ∈ bs then h b else none
 have hRs:∀ b x,hR b=some x->h b=some x/\b ∈ bs:=by
  intro b x hx
  simp only[hR] at hx
  split at hx
  ·rename_i hm;exact⟨hx,hm⟩
  ·cases hx
 have hwR:Ap w0 M0 I0 fr I mu hR w:=hw.sub fun b x hx=>(hRs b x hx).1
 let J:Nat->Prop:=fun k=>I k∨∃ b x v,hR b=some x/\mu b=some v/\Ae v=some k
 have hIJ:∀ k,I k->J k:=fun k hk=>.inl hk
 have hJ:∀ b x v k,hR b=some x->mu b=some v->Ae v=some k->J k:=fun b x v k h1 h2 h3=>.inr ⟨b,x,v,h1,h2,h3⟩
 have hJl:∀ k,J k->k<w.heap.size:=by
  rintro k (hk|⟨b,x,v,h1,h2,h3⟩)
  ·exact hw.lt k hk
  ·exact(hwR.loc b x v k h1 h2 h3).2.2
 have hall:Bc w J mu ((args.toList.map ev).map (Fm hp)) (args.toList.map a.eval):=by
  refine⟨by simpa using hargs.1,fun i hi=>?_⟩
  simp only[A06] at hi
  have hi':i<(args.toList.map ev).length:=by simpa using hi
  rw[CT hi']
  have hmem:nd (args.toList.map ev) i ∈ args.toList.map ev:=by
   simp only[nd,A02,A09 hi',A0J]
   exact A0X hi'
  obtain⟨e1,e2⟩:=QB (h:=hR) (hp:=hp) (d:=nd (args.toList.map ev) i) fun b hb'=>by
   have hm:b ∈ bs:=by rw[<-hbs];exact HH _ hmem b hb'
   simp only[hR,if_pos hm]
   exact hb b hm
  rw[<-e1]
  exact Rep.bor hwR hIJ hJ (hargs.2 i hi') (e2 (Gg ho _ hmem))
 have hall':=hall.unmu (mu':=fun _=>none) hpu
 unfold A0 at hc
 have hcall:=hc.2 w J _ ((hga.at hw).mono hIJ) hJl hall'.1 hall'.2
 have hrun:(execOp a.eval ⟨dst,.call {callee:=.value x,args:=args,argTypes:=ts},T,pos,af,gd⟩).run P w=.ok (.enter f (args.toList.map a.eval).toArray) w:=by
  have e1:args.map a.eval=(args.toList.map a.eval).toArray:=by apply Array.ext';simp
  simp only[execOp,resolve,he,Deferred.ofValue,A0e,A0j,Result.andThen,invoke]
  have e2:#[]++args.map a.eval++ #[]=(args.toList.map a.eval).toArray:=by rw[e1];simp
  exact(congrArg (fun z=>(callFunc f z).run P w) e2).trans (AZ hc.1 _ w)
 refine C6 hrun ?_
 refine hcall.mono fun e w' ⟨v,I',he,hv,h1,h2,h3,h4⟩=>?_
 subst he
 have hbl:∀ k,k<w.heap.size->w'.heap[k]? =w.heap[k]?:=fun k hk=>h4.block k hk
 have hII:∀ k,I k->I' k:=fun k hk=>h1 k (hIJ k hk)
 have hext:Ext I mu w I' mu w':=⟨hII,fun _ _ h=>h,fun k hk=>hbl k (hw.lt k hk)⟩
 have hup:∀ b x,AO b (h b) (bs.map fun c=>(c,none))=some x->h b=some x/\b ∉ bs:=by
  intro b x hx
  rw[Hh] at hx
  split at hx
  ·cases hx
  ·rename_i hm;exact⟨hx,hm⟩
 refine hK v w' I' mu hext ⟨fun b x hx=>?_,fun b x u k hx hu hk=>?_,fun b c x y u u' k hx hy=>hw.inj b c x y u u' k (hup b x hx).1 (hup c y hy).1,fun b hb'=>hw.fresh b hb'.1,h3,h4.os.trans hw.os,h4.tape.trans hw.tape,h4.output.trans hw.output,A0L hw.grown h4.size,fun k hk hnm=>(hbl k (by have:=hw.grown;omega)).trans (hw.old k hk hnm),fun k hk=>hII k (hw.iold k hk),fun k hk=>?_,hw.keep,fun b x hx hb'=>hw.used b x (hup b x hx).1 hb'.1⟩ (hv.mono (fun _ _=>rfl) (fun _ h=>h) (fun _ _ h=>by cases h))
 ·obtain⟨g1,g2⟩:=hup b x hx
  exact(hw.blk b x g1).mono hext.w hext.i hext.m fun u k hu hk=>hbl k (hw.loc b x u k g1 hu hk).2.2
 ·obtain⟨g1,g2⟩:=hup b x hx
  have g3:=hw.loc b x u k g1 hu hk
  refine⟨g3.1,fun hI=>?_,A0R g3.2.2 h4.size⟩
  rcases h2 k hI with(h5|⟨c,y,v',q1,q2,q3⟩)|h5
  ·exact g3.2.1 h5
  ·have:=hw.inj b c x y u v' k g1 (hRs c y q1).1 hu q2 hk q3
   exact g2 (this▸(hRs c y q1).2)
  ·omega
 ·rcases h2 k hk with(h5|⟨c,y,v',q1,q2,q3⟩)|h5
  ·exact hw.inew k h5
  ·exact .inr (hwR.loc c y v' k q1 q2 q3).1
  ·exact .inr (.inr (A0L hw.grown h5))
noncomputable section
section
variable{P:Program}{ops:Array Oper}{nx:Nat}{dst:Option Tmp}{T:TypeId}{ps:String}{af:Array Edge}{gd:Option (Nat×Bool)}{f:FuncId}{args:Array Operand}{ts:Array TypeId}{ds:List D}{r:D}{l:List Oper}{pos:Nat}{acc:List Eff}{s:St}{K:List Eff->St->Prop}
theorem A1.giveV{x:Operand}{bs:List Nat}(hx:evO P s.env.get x=.func (.func f) [] [])(hbs:Em (args.toList.map (evO P s.env.get))=bs)(hc:A0 P f ds r)(hg:gd=none∨∃ j want t,gd=some (j,want)/\AT ops j=some t/\gOf (s.env.get t) want=some true)(ha:(args.toList.map (evO P s.env.get)).map (Fm (Ad s.hp))=ds)(ho:EX (Ad s.hp) (args.toList.map (evO P s.env.get)))(hpu:Ag ds=true)
  (hk:GoS P ops nx l (pos+1) (⟨r,bs.map fun c=>(c,none),bs⟩::acc) (s.app dst ⟨r,bs.map fun c=>(c,none),bs⟩) K):A1 P ops nx (⟨dst,.call {callee:=.value x,args:=args,argTypes:=ts},T,ps,af,gd⟩::l) pos acc s K:=by
 subst hbs
 rw[Cb] at hk;rw[Bj]
 unfold Bz
 refine .inl ⟨_,?_,by have:=Go.run hk;unfold Bz at this;exact this⟩
 rcases hg with rfl|⟨j,want,t,rfl,ht,hg⟩
 ·exact Bd.plain rfl (My hx ha ho hpu hc)
 ·exact Bd.guard_true rfl ht hg (My hx ha ho hpu hc)
end
end
def KC(d:D)(x y:Prop):Prop:=
 match d with
 |.val (.bool b)=>Ed b x y
 |.abool n pos=>((pos=true->n=0)->x)/\((pos=false->n=0)->y)
 |_=>False
def RL(ops:Array Oper)(E:List Eff):Prop:=Dt ops (Fr E)=true
@[congr] theorem ordB_congr{ops:Array Oper}{E:List Eff}{u:Unit}(h:Gv ()=u):RL ops E=RL ops E:=rfl
def Rl(R:(AE->St->Prop)->St->Prop)(Q:AE->St->Prop):AE->St->Prop
 |.normal,s=>R Q s
 |e,s=>Q e s
def VC(P:Program)(nt:Nat)(fz:List Nat):Code->(AE->St->Prop)->St->Prop
 |.skip,Q,s=>Q .normal s
 |.ret,Q,s=>Q .ret s
 |.exit id,Q,s=>Q (.exit id) s
 |.label _,Q,s=>Q .normal s
 |.seq a b,Q,s=>VC P nt fz a (Rl (VC P nt fz b) Q) s
 |.block id c,Q,s=>VC P nt fz c (Jk id Q) s
 |.cond c a b,Q,s=>KC (evO P s.env.get c) (VC P nt fz a Q s) (VC P nt fz b Q s)
 |.region _ ops draw,Q,s=>Go P ops s.nx ops.toList 0 [] s (fun E s'=>cond draw (RL ops E/\Q .normal (fzL fz ⟨s'.env,s'.hp,s.nx+4*ops.size⟩)) (L4 ops.toList E (Q .normal (fzL fz ⟨s'.env,s'.hp,s.nx+4*ops.size⟩)) (RJ Q (s.nx+4*ops.size) s')))
 |.loop c,Q,s=>AWp P nt (.loop c) Q s
 |.scope c,Q,s=>AWp P nt (.scope c) Q s
 |.rangeFunc f ps a b,Q,s=>AWp P nt (.rangeFunc f ps a b) Q s
 |.goto l,Q,s=>AWp P nt (.goto l) Q s
 |.refuse w,Q,s=>AWp P nt (.refuse w) Q s
noncomputable section
def VCS:Program->Nat->List Nat->Code->(AE->St->Prop)->St->Prop:=PI VC
theorem Ee:VCS=VC:=K2 VC
section
variable(P:Program)(nt:Nat)(fz:List Nat)(Q:AE->St->Prop)(s:St)
theorem VCS_skip:VCS P nt fz .skip Q s=Q .normal s:=by rw[Ee];rfl
theorem VCS_ret:VCS P nt fz .ret Q s=Q .ret s:=by rw[Ee];rfl
theorem VCS_exit(id:Nat):VCS P nt fz (.exit id) Q s=Q (.exit id) s:=by rw[Ee];rfl
theorem XY(l:Nat):VCS P nt fz (.label l) Q s=Q .normal s:=by rw[Ee];rfl
theorem VCS_seq(a b:Code):VCS P nt fz (.seq a b) Q s=VCS P nt fz a (Rl (VCS P nt fz b) Q) s:=by rw[Ee];rfl
theorem XZ(id:Nat)(c:Code):VCS P nt fz (.block id c) Q s=VCS P nt fz c (Jk id Q) s:=by rw[Ee];rfl
theorem VCS_cond(c:Operand)(a b:Code):VCS P nt fz (.cond c a b) Q s=KC (evO P s.env.get c) (VCS P nt fz a Q s) (VCS P nt fz b Q s):=by rw[Ee];rfl
theorem QH(id:Nat)(l:List Oper):VCS P nt fz (.region id l.toArray true) Q s=GoS P l.toArray s.nx l 0 [] s (fun E s'=>RL l.toArray E/\Q .normal (fzL fz ⟨s'.env,s'.hp,s.nx+4*l.length⟩)):=by rw[Ee,Cb];rfl
theorem QI(id:Nat)(l:List Oper):VCS P nt fz (.region id l.toArray false) Q s=GoS P l.toArray s.nx l 0 [] s (fun E s'=>L4 l E (Q .normal (fzL fz ⟨s'.env,s'.hp,s.nx+4*l.length⟩)) (RJ Q (s.nx+4*l.length) s')):=by rw[Ee,Cb];rfl
theorem VCS_loop(c:Code):VCS P nt fz (.loop c) Q s=AWp P nt (.loop c) Q s:=by rw[Ee];rfl
theorem XX(c:Code):VCS P nt fz (.scope c) Q s=AWp P nt (.scope c) Q s:=by rw[Ee];rfl
end
theorem Rk(R:(AE->St->Prop)->St->Prop)(Q:AE->St->Prop)(s:St):Rl R Q .normal s=R Q s:=rfl
theorem Wa(R:(AE->St->Prop)->St->Prop)(Q:AE->St->Prop)(s:St)(i:Nat):Rl R Q (.exit i) s=Q (.exit i) s:=rfl
theorem W9(R:(AE->St->Prop)->St->Prop)(Q:AE->St->Prop)(s:St)(i:Nat):Rl R Q (.goto i) s=Q (.goto i) s:=rfl
theorem Yl(R:(AE->St->Prop)->St->Prop)(Q:AE->St->Prop)(s:St):Rl R Q .ret s=Q .ret s:=rfl
theorem Ts(R:(AE->St->Prop)->St->Prop)(Q:AE->St->Prop)(s:St)(d:D):Rl R Q (.panic d) s=Q (.panic d) s:=rfl
@[congr] theorem VCS_congr{P:Program}{nt:Nat}{fz:List Nat}{c:Code}{Q:AE->St->Prop}{s s':St}(h:Gv s=s'):VCS P nt fz c Q s=VCS P nt fz c Q s':=by rw[<-h];rfl
end
@[congr] theorem regK_congr{l:List Oper}{E:List Eff}{x y:Prop}{u:Unit}(h:Gv ()=u):L4 l E x y=L4 l E x y:=rfl
theorem YE(l:List Oper)(e:Eff)(E:List Eff)(x y:Prop):L4 l (List.reverse (e::E)) x y=x:=by
 unfold L4
 split
 ·rename_i h;simp at h
 ·rfl
theorem YF(o:Oper)(l:List Oper)(x y:Prop):L4 (o::l) [] x y=y:=congrArg (fun x=>x) rfl
theorem panQ_eq(Q:AE->St->Prop)(nx:Nat)(s:St):RJ Q nx s=Q (.panic (s.env.get Bn)) ⟨(Bn,.any)::s.env,s.hp,nx⟩:=congrArg (fun x=>x) rfl
@[congr] theorem panQ_congr{Q:AE->St->Prop}{nx:Nat}{s s':St}(h:Gv s=s'):RJ Q nx s=RJ Q nx s':=by rw[<-h];rfl
attribute [push_cast] YE YF panQ_eq
@[congr] theorem CondVC_congr{d d':D}{x y:Prop}(h:Gv d=d'):KC d x y=KC d' x y:=by rw[<-h];rfl
theorem AWp.same{P:Program}{nt:Nat}{c:Code}{Q:AE->St->Prop}{s:St}(h:AWp P nt c (fun e s=>∃ s',s'.fs=s.fs/\s'.nx=s.nx/\Q e s') s):AWp P nt c Q s:=fun w0 M0 I0 g I mu a w r b k cs hro hb hroom=>by
 obtain⟨e,a',w',⟨x,s',I',mu',⟨s'',h1,h2,h3⟩,he,r'⟩,harr⟩:=h w0 M0 I0 g I mu a w r b k cs hro hb hroom
 exact⟨e,a',w',⟨x,s'',I',mu',h3,he,by rw[h1,h2];exact r'⟩,harr⟩
def QW(Q:AE->St->Prop):AE->St->Prop
 |.normal,s=>∃ s',Ar s s'/\Q .normal s'
 |e,s=>Q e s
theorem AWp.postW{P:Program}{nt:Nat}{c:Code}{Q:AE->St->Prop}{s:St}(h:AWp P nt c (QW Q) s):AWp P nt c Q s:=fun w0 M0 I0 g I mu a w r b k cs hro hb hroom=>by
 obtain⟨e,a',w',⟨x,s',I',mu',hq,he,r'⟩,harr⟩:=h w0 M0 I0 g I mu a w r b k cs hro hb hroom
 cases x with
 |normal=>
  obtain⟨s'',h1,h2⟩:=hq
  obtain⟨I'',mu'',r''⟩:=h1 w0 M0 I0 nt I' mu' a' w' r'
  exact⟨e,a',w',⟨.normal,s'',I'',mu'',h2,by cases e<;>simp_all [FK],r''⟩,harr⟩
 |_=>exact ⟨e,a',w',⟨_,s',I',mu',hq,he,r'⟩,harr⟩
theorem Run.mono{P:Program}{ops:Array Oper}{nx:Nat}{K K':List Eff->St->Prop}(hK:∀ E s,K E s->K' E s):∀ {l:List Oper} {pos:Nat} {acc:List Eff} {s:St},Run P ops nx l pos acc s K->Run P ops nx l pos acc s K'
 |[],_,_,_,h=>hK _ _ h
 |_::_,_,_,_,.inl ⟨e,h1,h2⟩=>.inl ⟨e,h1,Run.mono hK h2⟩
 |_::_,_,_,_,.inr (.inl ⟨F,he,h1,h2⟩)=>.inr (.inl ⟨F,he,h1,fun e hF=>Run.mono hK (h2 e hF)⟩)
 |_::_,_,_,_,.inr (.inr ⟨d,h1,h2⟩)=>.inr (.inr ⟨d,h1,hK _ _ h2⟩)
theorem No{l:List Oper}{E:List Eff}{x y x' y':Prop}(h:L4 l E x y)(hx:x->x')(hy:y->y'):L4 l E x' y':=by
 cases E with
 |nil=>cases l with
  |nil=>exact hx h
  |cons o l=>exact hy h
 |cons e E=>cases l<;>exact hx h
def CF(nt:Nat):Code->Bool
 |.seq a b=>CF nt a&&CF nt b
 |.block _ c=>CF nt c
 |.cond _ a b=>CF nt a&&CF nt b
 |.region _ ops _=>Jr nt ops.toList
 |_=>true
theorem VC.sound0{P:Program}{nt:Nat}{fz:List Nat}(hm:P.follows .mixedOrders=true):∀ {c:Code} {Q:AE->St->Prop} {s:St},CF nt c=true->VC P nt fz c Q s->AWp P nt c Q s
 |.skip,_,_,_,h=>AWp.skip h
 |.ret,_,_,_,h=>AWp.ret h
 |.exit _,_,_,_,h=>AWp.exit h
 |.label _,_,_,_,h=>AWp.label h
 |.seq a b,Q,s,hc,h=>by
  simp only[CF,A07] at hc
  exact AWp.seq (AWp.mono (VC.sound0 hm (c:=a) hc.1 h) fun e s hq=>by
   cases e with
   |normal=>exact VC.sound0 hm (c:=b) hc.2 hq
   |_=>exact hq)
 |.block _ c,_,_,hc,h=>AWp.block (VC.sound0 hm (c:=c) hc h)
 |.cond c a b,Q,s,hc,h=>by
  simp only[CF,A07] at hc
  simp only[VC] at h
  unfold KC at h
  split at h
  ·rename_i x hx
   exact AWp.cond hx (fun hb=>VC.sound0 hm (c:=a) hc.1 (h.1 hb)) (fun hb=>VC.sound0 hm (c:=b) hc.2 (h.2 hb))
  ·rename_i hx
   exact AWp.condA hx (fun hn=>VC.sound0 hm (c:=a) hc.1 (h.1 hn)) (fun hn=>VC.sound0 hm (c:=b) hc.2 (h.2 hn))
  ·exact h.elim
 |.region id ops draw,Q,s,hc,h=>by
  simp only[VC] at h
  have hgo:=h
  have hin:Jr nt ops.toList=true:=hc
  obtain⟨l⟩:=ops
  have hr:=(Go.run hgo).out
  cases draw with
  |false=>
   refine AWp.postW (AWp.same (AWp.region hin (Run.mono (fun E t h=>?_) hr)))
   obtain⟨s',h1,h2⟩:=h
   refine No h2 (fun h2=>⟨⟨s'.env,s'.hp,s.nx+4*l.length⟩,h1,rfl,_,Ar.fzL _ _,h2⟩) fun h2=>?_
   have e1:s'.env.get Bn=t.env.get Bn:=congrFun (congrArg FSt.env h1) Bn
   refine⟨⟨(Bn,.any)::s'.env,s'.hp,s.nx+4*l.length⟩,?_,rfl,?_⟩
   ·have:=FSt.app_eq h1 (some Bn) ⟨.any,[],[]⟩
    simpa[St.app,E2,St.fs] using this
   ·rw[<-e1];exact h2
  |true=>exact AWp.postW (AWp.same (AWp.region_draw hm hin (Run.mono (fun E t h=>by obtain⟨s',h1,h2,h3⟩:=h;exact⟨h2,⟨s'.env,s'.hp,s.nx+4*l.length⟩,h1,rfl,_,Ar.fzL _ _,h3⟩) hr)))
 |.loop _,_,_,_,h=>h
 |.scope _,_,_,_,h=>h
 |.rangeFunc _ _ _ _,_,_,_,h=>h
 |.goto _,_,_,_,h=>h
 |.refuse _,_,_,_,h=>h
theorem VC.sound{P:Program}{nt:Nat}{fz:List Nat}(hm:P.follows .mixedOrders=true){c:Code}{Q:AE->St->Prop}{s:St}(hc:CF nt c=true)(h:VCS P nt fz c Q s):AWp P nt c Q s:=by
 rw[Ee] at h;exact VC.sound0 hm hc h
mutual
def szD:D->Prop
 |.val v=>okP v
 |.agg cs=>szL cs
 |.tup cs=>szL cs
 |.slice es _=>es.length<=9223372036854775807/\Rb es
 |.ptr cs _=>szL cs
 |.iface _ d=>szD d
 |.func _ fs cs=>szL fs/\szL cs
 |_=>True
def szL:List D->Prop
 |[]=>True
 |d::l=>szD d/\szL l
def Rb:List (List D)->Prop
 |[]=>True
 |d::l=>szL d/\Rb l
end
theorem FL:∀ {l:List D},(∀ i,i<l.length->szD (nd l i))->szL l
 |[],_=>trivial
 |d::l,h=>⟨by simpa[nd] using h 0 (by simp),FL fun i hi=>by simpa[nd] using h (i+1) (by simpa using hi)⟩
theorem L7:∀ {l:List (List D)},(∀ i,i<l.length->szL (nr l i))->Rb l
 |[],_=>trivial
 |d::l,h=>⟨by simpa[nr] using h 0 (by simp),L7 fun i hi=>by simpa[nr] using h (i+1) (by simpa using hi)⟩
theorem Ye{α:Type}{f:α->List D}{l:List α}:Rb (l.map f)↔∀ x ∈ l,szL (f x):=by
 induction l<;>simp [Rb, *]
theorem Rep.sz{w:World}{I:Nat->Prop}{mu:Nat->Option Value}{d:D}{v:Value}(h:Rep w I mu d v):szD d:=by
 induction h with
 |any v=>trivial
 |val v ok=>exact ok
 |cond g d v _ _ _=>trivial
 |agg cs us hl _ ih=>exact FL ih
 |tup cs us hl _ ih=>exact FL ih
 |slice es t A k o sz cap u hA hc ht hm hlen hcell _ ih=>
  exact⟨A0L hc hm,L7 fun i hi=>FL fun j hj=>ih i j hi (by rw[hlen i hi] at hj;exact hj)⟩
 |ptr cs off k o u hk hcell _ ih=>exact FL ih
 |ref _ _ _ _ _ _=>trivial
 |sref _ _ _ _ _ _ _=>trivial
 |gref _ _ _ _ _=>trivial
 |mref _ _ _=>trivial
 |yld _ _ _=>trivial
 |func fn fs cs us vs hl hk _ _ ih ih'=>exact ⟨FL ih,FL ih'⟩
 |iface t d v _ ih=>exact ih
 |abool n pos b h=>trivial
 |gel _ _ _ _ _ _ _ _=>trivial
 |gsub _ _ _ _ _ _ _ _ _ _ _=>trivial
def szB:Blk->Prop
 |.rows es _=>Rb es
 |.grow es _=>es.length<=9223372036854775807/\Rb es
 |.map es _=>∀ p ∈ es,szD p.2.2
 |_=>True
theorem D7.sz{w:World}{I:Nat->Prop}{mu:Nat->Option Value}{b:Nat}{x:Blk}(h:D7 w I mu b x):szB x:=by
 cases x with
 |rows es sz=>
  obtain⟨k,T,us,h1,h2,h3,h4,h5⟩:=h
  exact L7 fun i hi=>FL fun j hj=>(h5 i j hi (by rw[h4 i hi] at hj;exact hj)).sz
 |grow es sz=>
  obtain⟨A,cap,T,us,h1,h2,h3,h4⟩:=h
  rcases h4 with⟨h5,h6⟩|⟨k,q0,q1,q2,q3,q4,q5⟩
  ·subst h6;exact⟨by simp,trivial⟩
  ·exact⟨A0L q3 h3,L7 fun i hi=>FL fun j hj=>(q5 i j hi (by rw[h2 i hi] at hj;exact hj)).sz⟩
 |iter m since seen last=>trivial
 |obj o=>trivial
 |loop _ _ _ _ _ _ _=>trivial
 |pr _ _=>trivial
 |junk=>trivial
 |map es ck=>
  obtain⟨k,l,h1,h2,h3,_,h4⟩:=h
  intro p hp
  obtain⟨i,hi⟩:=List.getElem?_of_mem hp
  have hl:l.length=es.length:=by have:=congrArg List.length h3;simpa using this
  have hlt:=(List.getElem?_eq_some_iff.1 hi).1
  exact(h4 i (l[i]'(by omega)) p (A09 (by omega)) hi).sz
theorem AWp.sz{P:Program}{nt:Nat}{c:Code}{Q:AE->St->Prop}{s:St}(h:(∀ t,szD (s.env.get t))->(∀ b x,Ad s.hp b=some x->szB x)->AWp P nt c Q s):AWp P nt c Q s:=fun w0 M0 I0 g I mu a w r=>
 h (fun t=>(r.env t).sz) (fun b x hx=>D7.sz (r.w.blk b x hx)) w0 M0 I0 g I mu a w r
theorem fzD_fun(b:Nat)(x:Blk):fzD b x=frz (Js b x) 4:=rfl
theorem PN(r:Nat->Nat)(a b:List (List D)):Db r (a++b)=Db r a++Db r b:=by simp[E3]
theorem KQ(n:Nat):∀ (a b:List (List D)),Ev n (a++b)=(Ev n a&&Ev n b)
 |[],b=>by simp[Ev]
 |x::a,b=>by simp[Ev,KQ n a b,Bool.and_assoc]
theorem RT:∀ (a b c:List (List D)),DR (a++b) (a++c)=DR b c
 |[],b,c=>rfl
 |x::a,b,c=>by simp only[A0c,DR,RT a b c,eq_true (AJ x),true_and]
attribute [push_cast] PN KQ RT
def BK:List (Nat×Nat)->Nat->Nat
 |[],b=>b
 |(a,c)::l,b=>bif a==b then c else BK l b
theorem Rz:∀ {l:List (Nat×Nat)},(l.all fun p=>p.1%2==0)=true->∀ b,b%2=1->BK l b=b
 |[],_,b,_=>rfl
 |(a,c)::l,h,b,hb=>by
  simp only[List.all_cons,A07,beq_iff_eq] at h
  have:(a==b)=false:=by
   have:=h.1
   simp;omega
  simp only[BK,this,cond_false]
  exact Rz h.2 b hb
attribute [push_cast] FG Xf
attribute [push_cast] BK Ea Jv GY
attribute [push_cast] szD szL Rb szB Ye okP
attribute [push_cast] NF WL reS unD un0D unB grS grG Fm Gq EX UH Em DC DC.flatL
theorem Wn(r:Nat->Nat)(es:List (List D))(sz:Nat):F2 r (.rows es sz)=.rows (Db r es) sz:=rfl
theorem Ws(r:Nat->Nat)(es:List (List D))(sz:Nat):F2 r (.grow es sz)=.grow (Db r es) sz:=rfl
theorem YD(r:Nat->Nat)(es:List (Value×Nat×D))(ck:Nat):F2 r (.map es ck)=.map (es.map fun p=>(p.1,p.2.1,AV r p.2.2)) ck:=rfl
theorem Wq(r:Nat->Nat)(m a:Nat)(b:List Nat)(c:Nat):F2 r (.iter m a b c)=.iter (r m) a b c:=rfl
theorem YC(r:Nat->Nat)(o:Obj):F2 r (.obj o)=.obj o:=rfl
theorem renB_pr(r:Nat->Nat)(g:Nat)(p:Value->Value->Option Obj->Prop):F2 r (.pr g p)=.pr (r g) p:=rfl
theorem Wp(r:Nat->Nat):F2 r .junk=.junk:=rfl
theorem Wo(r:Nat->Nat)(env:Env)(nt:Nat)(st:LoopState)(pd:Option Code)(ps:List Nat)(a c:Code):F2 r (.loop env nt st pd ps a c)=.loop (FG (AV r) env) nt st pd ps a c:=rfl
theorem Zz(n:Nat)(es:List (List D))(sz:Nat):ltB n (.rows es sz)=Ev n es:=rfl
theorem ZD(n:Nat)(es:List (List D))(sz:Nat):ltB n (.grow es sz)=Ev n es:=rfl
theorem ltB_map(n:Nat)(es:List (Value×Nat×D))(ck:Nat):ltB n (.map es ck)=es.all fun p=>ltD n p.2.2:=rfl
theorem ZC(n m a:Nat)(b:List Nat)(c:Nat):ltB n (.iter m a b c)=okN n m:=rfl
theorem ltB_obj(n:Nat)(o:Obj):ltB n (.obj o)=true:=rfl
theorem ltB_pr(n g:Nat)(p:Value->Value->Option Obj->Prop):ltB n (.pr g p)=okN n g:=rfl
theorem ZB(n:Nat):ltB n .junk=true:=rfl
theorem ZA(n:Nat)(env:Env)(nt:Nat)(st:LoopState)(pd:Option Code)(ps:List Nat)(a c:Code):ltB n (.loop env nt st pd ps a c)=Xf (ltD n) env:=rfl
theorem WM(F:D->D)(es:List (List D))(sz:Nat):Jw F (.rows es sz)=.rows (es.map fun r=>r.map F) sz:=rfl
theorem WQ(F:D->D)(es:List (List D))(sz:Nat):Jw F (.grow es sz)=.grow (es.map fun r=>r.map F) sz:=rfl
theorem Zx(F:D->D)(es:List (Value×Nat×D))(ck:Nat):Jw F (.map es ck)=.map (es.map fun p=>(p.1,p.2.1,F p.2.2)) ck:=rfl
theorem WP(F:D->D)(m a:Nat)(b:List Nat)(c:Nat):Jw F (.iter m a b c)=.iter m a b c:=rfl
theorem Zu(F:D->D)(o:Obj):Jw F (.obj o)=.obj o:=rfl
theorem mapB_pr(F:D->D)(g:Nat)(p:Value->Value->Option Obj->Prop):Jw F (.pr g p)=.pr g p:=rfl
theorem WO(F:D->D):Jw F .junk=.junk:=rfl
theorem WN(F:D->D)(env:Env)(nt:Nat)(st:LoopState)(pd:Option Code)(ps:List Nat)(a c:Code):Jw F (.loop env nt st pd ps a c)=.loop (FG F env) nt st pd ps a c:=rfl
attribute [push_cast] renB_pr ltB_pr mapB_pr Wn Ws YD Wq YC Wp Wo Zz ZD ltB_map ZC ltB_obj ZB ZA WM WQ Zx WP Zu WO WN fzL fzS fzE fzD_fun fzH Js okN VCS_skip VCS_ret VCS_exit XY VCS_seq XZ VCS_cond QH QI VCS_loop XX Rk Wa W9 Yl Ts KC C7 KG KG.junkB Ce DK CB CS Ba LY MY HR N4 RW ltD ltL Ev AV BZ Db
end Go.Ab
