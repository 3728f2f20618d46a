/- The program is walked: part 4 of 18. -/
import Derived.Test.YtmobnaefbcegbaaGreatDoorV2
import Derived.Lib.Overlaps
set_option maxHeartbeats 4000000
set_option maxRecDepth 20000
set_option linter.all false
namespace Go.Ab
open Go.RowKit
variable{F:D->D}{i nt:Nat}{I J M0 fr:Nat->Prop}{mu mu':Nat->Option Value}{r:Nat->Nat}{v:Value}{ds:List D}{P:Program}{f:FuncId}{H H':Hp}{h hp:Nat->Option Blk}{w0:World}{I0:Gh}{ev:Operand->D}{dst:Option Tmp}{T:TypeId}{pos:String}{af:Array Edge}{gd:Option (Nat×Bool)}{ts:Array TypeId}{bs:List Nat}
def GZ{f:D->D}(h:∀d,d.pure=true->f d=d):∀ {l:List D},An l=true->l.map f=l
 |[],_=>rfl
 |d::l,hp=>by
  simp[An,A2i] at hp;simp[h d hp.1,GZ h hp.2]
def Fb(hp:Nat->Option Blk):∀(n:Nat) (d:D),d.pure=true->frz hp n d=d
 |0,d,_=>by cases d<;>rfl
 |n+1,d,h=>by
  cases d<;>simp only[frz]
  case agg cs=>rw [GZ (Fb hp n) (by simpa[D.pure] using h)]
  case tup cs=>rw [GZ (Fb hp n) (by simpa[D.pure] using h)]
  case iface t d=>rw [Fb hp n d (by simpa[D.pure] using h)]
  case func fn fs cs=>
   simp[D.pure,A2i] at h;rw[GZ (Fb hp n) h.1,GZ (Fb hp n) h.2]
  case ref b i o s=>simp [D.pure] at h
  case sref b i l c s=>simp [D.pure] at h
  case gref b l=>simp [D.pure] at h
  case gsub b i l s=>simp [D.pure] at h
def Lf(hp:Nat->Option Blk)(n:Nat){l:List D}(h:An l=true):l.map (frz hp n)=l:=GZ (Fb hp n) h
def Ld(b:Nat)(x:Blk)(c:Nat):Option Blk:=bif c==b then some x else none
def fzD(b:Nat)(x:Blk)(d:D):D:=frz (Ld b x) 4 d
def fzE(b:Nat)(x:Blk):Env->Env
 |[]=>[]
 |(t,d)::r=>(t,fzD b x d)::fzE b x r
def K8(F:D->D):Blk->Blk
 |.rows es sz=>.rows (es.map λr=>r.map F) sz
 |.grow es sz=>.grow (es.map λr=>r.map F) sz
 |.loop env nt st pd ps a c=>.loop (H8 F env) nt st pd ps a c
 |.map es ck=>.map (es.map λp=>(p.1,p.2.1,F p.2.2)) ck
 |x=>x
def fzH(b:Nat)(x:Blk):Hp->Hp
 |[]=>[]
 |(c,y)::r=>(c,K8 (fzD b x) y)::fzH b x r
def Ju(hp:Nat->Option Blk)(n:Nat):∀ {l:LLa},Aa l=true->l.map (λr=>r.map (frz hp n))=l
 |[],_=>rfl
 |r::l,h=>by
  simp[Aa,A2i] at h;rw[A2m,Lf hp n h.1,Ju hp n h.2]
def fzS(b:Nat)(s:St):St:=
 match Ak s.hp b with
 |some (.rows es sz)=>⟨fzE b (.rows es sz) s.env,fzH b (.rows es sz) (del s.hp b),s.nx⟩
 |some (.grow es sz)=>bif Aa es then⟨fzE b (.grow es sz) s.env,fzH b (.grow es sz) (del s.hp b),s.nx⟩ else s
 |_=>s
def fzL:List Nat->St->St
 |[],s=>s
 |b::r,s=>fzL r (fzS b s)
def Z6(b:Nat)(x:Blk):∀(e:Env) (t:Nat),(fzE b x e).get t=fzD b x (e.get t)
 |[],t=>rfl
 |(k,d)::r,t=>by
  simp[fzE,Env.get];cases k==t with
  |true=>rfl
  |false=>exact Z6 b x r t
def Vo(b:Nat)(x:Blk):∀(h:Hp) (c:Nat) (y:Blk),Ak (fzH b x h) c=some y->∃z,Ak h c=some z/\y=K8 (fzD b x) z
 |[],c,y,h=>by cases h
 |(k,z)::r,c,y,h=>by
  simp[fzH,Ak] at h|-;cases C:k==c with
  |true=>
   simp_all
  |false=>simp_all [Vo]
theorem Gg{es:LLa}(hi:i<es.length):nr (es.map λr=>r.map F) i=(nr es i).map F:=by simp[nr,A29,hi]
def DQ.mapB{w:World}(hF:∀d v,Rep w I mu d v->Rep w J mu (F d) v){b:Nat}{y:Blk}(h:DQ w I mu b y):DQ w J mu b (K8 F y):=by
 cases y with
 |rows es sz=>
  obtain⟨k,T,us,h1,h2,M,C,N⟩:=h;refine⟨k,T,us,h1,h2,by simp_all,λi hi=>?_,λi j hi O=>?_⟩
  ·simp at hi;rw[Gg hi,A2k];exact C i hi
  ·simp at hi;rw[Gg hi,Dq (by rw[C i hi];exact O)];exact hF _ _ (N i j hi O)
 |grow es sz=>
  obtain⟨A,cap,T,us,h1,h2,M,C⟩:=h;refine⟨A,cap,T,us,by simp_all,λi hi=>?_,M,?_⟩
  ·grind [Gg]
  ·rcases C with⟨C,rfl⟩|⟨k,h0,V,N,Y,Z,h8⟩
   ·simp_all
   grind [Gg,Dq]
 |map es a0=>
  obtain⟨k,l,h1,h2,M,C,N⟩:=h;refine⟨k,l,h1,h2,by simp_all,by simp_all,λi x y hx hy=>?_⟩;grind
 |iter m a1 seen last=>exact h
 |obj o=>exact h
 |loop env nt st pd ps a c=>
  obtain⟨k,fn,tmps,U,h1,h2,M,C⟩:=h;exact⟨k,fn,tmps,U,h1,h2,M,λt=>PY (Q:=λd=>Rep w J mu d (tmps.getD t undef)) (.any _) (hF _ _ (C t))⟩
 |pr g p=>exact h
 |junk=>exact h
theorem Aq.fzB{s:St}{b:Nat}{x:Blk}(hx:Ak s.hp b=some x):Aq s ⟨fzE b x s.env,fzH b x (del s.hp b),s.nx⟩:=by
 intro w0 M0 I0 nt I mu a w rel;have V:s.fs.hp b=some x:=hx;have sub:∀c y,Ld b x c=some y->s.fs.hp c=some y:=λc y h=>by
  grind [Ld]
 have hr:AA w0 M0 I0 (frN s.nx) I mu (Ld b x) w:=
  ⟨λc y h=>rel.w.blk c y (sub c y h),λc y v j h N C=>rel.w.loc c y v j (sub c y h) N C,λc O y z v u j h Y=>rel.w.inj c O y z v u j (sub c y h) (sub O z Y),rel.w.fresh,rel.w.lt,rel.w.os,rel.w.tape,rel.w.output,rel.w.grown,rel.w.old,rel.w.iold,rel.w.inew,rel.w.keep,λc y h hc=>rel.w.used c y (sub c y h) hc⟩
 let J:Nat->Prop:=λj=>I j\/∃v,mu b=some v/\Al v=some j;have fz:∀d v,Rep w I mu d v->Rep w J mu (fzD b x d) v:=λd v h=>
  Rep.frz hr (λj C=>.inl C) (λc y v j h N C=>by
   grind [Ld]) 4 d v h
 have U:∀c y,Ak (fzH b x (del s.hp b)) c=some y->c≠b/\∃z,s.fs.hp c=some z/\y=Go.Ab.K8 (fzD b x) z:=by
  intro c y h;obtain⟨z,M,Z⟩:=Vo b x _ c y h;rw[Li] at M;split at M
  ·cases M
  ·rename_i a0;exact⟨λh=>a0 h.symm,z,M,Z⟩
 refine⟨J,mu,rel.size,rel.defers.sub (λ_ h=>.inl h),λt=>?_,⟨λc y h=>?_,λc y v j h N C=>?_,λc O y z v u j h Y=>?_,rel.w.fresh,λj C=>?_,rel.w.os,rel.w.tape,rel.w.output,rel.w.grown,rel.w.old,λj C=>.inl (rel.w.iold j C),λj C=>?_,rel.w.keep,λc y h hc=>?_⟩⟩
 ·show Rep w _ mu ((fzE b x s.env).get t) _;rw[Z6];exact fz _ _ (rel.env t)
 ·obtain⟨_,z,M,Z⟩:=U c y h;subst Z;exact(rel.w.blk c z M).mapB fz
 ·obtain⟨a0,z,M,_⟩:=U c y h;have h6:=rel.w.loc c z v j M N C;refine⟨h6.1,λhI=>?_,h6.2.2⟩;rcases hI with hI|⟨u,hu,hk⟩
  ·simp_all
  ·exact a0 (rel.w.inj c b _ _ _ _ j M V N hu C hk)
 ·obtain⟨_,z',g1,_⟩:=U c y h;obtain⟨_,a1,g2,_⟩:=U O z Y;exact rel.w.inj c O _ _ v u j g1 g2
 ·rcases C with C|⟨v,N,hk⟩
  ·exact rel.w.lt j C
  ·exact(rel.w.loc b x v j V N hk).2.2
 ·rcases C with C|⟨v,N,hk⟩
  ·exact rel.w.inew j C
  ·exact .inr (rel.w.loc b x v j V N hk).1
 ·obtain⟨_,z,M,_⟩:=U c y h;exact rel.w.used c z M hc
theorem Aq.fzS(b:Nat)(s:St):Aq s (fzS b s):=by
 grind [Go.Ab.fzS,Aq.fzB,Aq.refl]
def Aq.fzL:∀(l:List Nat) (s:St),Aq s (fzL l s)
 |[],s=>Aq.refl s
 |b::r,s=>(Aq.fzS b s).trans (Aq.fzL r _)
mutual
def Bu(r:Nat->Nat):D->D
 |.any=>.any
 |.val v=>.val v
 |.cond g d=>.cond g (Bu r d)
 |.agg cs=>.agg (Co r cs)
 |.tup cs=>.tup (Co r cs)
 |.slice es t=>.slice (E5 r es) t
 |.ptr cs o=>.ptr (Co r cs) o
 |.func fn fs cs=>.func fn (Co r fs) (Co r cs)
 |.iface t d=>.iface t (Bu r d)
 |.ref b i o s=>.ref (r b) i o s
 |.sref b i l c s=>.sref (r b) i l c s
 |.gref b l=>.gref (r b) l
 |.mref b=>.mref (r b)
 |.yld b=>.yld (r b)
 |.abool n p=>.abool n p
 |.gel b i o s=>.gel (r b) i o s
 |.gsub b i l s=>.gsub (r b) i l s
def Co(r:Nat->Nat):List D->List D
 |[]=>[]
 |d::l=>Bu r d::Co r l
def E5(r:Nat->Nat):LLa->LLa
 |[]=>[]
 |d::l=>Co r d::E5 r l
end
def okN(n b:Nat):Bool:=b%2==1 ||decide (b<2*n)
mutual
def ltD(n:Nat):D->Bool
 |.any=>true
 |.val _=>true
 |.cond _ d=>ltD n d
 |.agg cs=>ltL n cs
 |.tup cs=>ltL n cs
 |.slice es _=>Fv n es
 |.ptr cs _=>ltL n cs
 |.func _ fs cs=>ltL n fs&&ltL n cs
 |.iface _ d=>ltD n d
 |.ref b _ _ _=>okN n b
 |.sref b _ _ _ _=>okN n b
 |.gref b _=>okN n b
 |.mref b=>okN n b
 |.yld b=>okN n b
 |.gel b _ _ _=>okN n b
 |.gsub b _ _ _=>okN n b
 |.abool _ _=>true
def ltL(n:Nat):List D->Bool
 |[]=>true
 |d::l=>ltD n d&&ltL n l
def Fv(n:Nat):LLa->Bool
 |[]=>true
 |d::l=>ltL n d&&Fv n l
end
mutual
def GO(r:Nat->Nat):∀(d:D),d.pure=true->Bu r d=d
 |.any,_=>rfl
 |.abool _ _,_=>rfl
 |.val _,_=>rfl
 |.cond g d,h=>by simp only[Bu];rw[GO r d (by simpa[D.pure] using h)]
 |.agg cs,h=>by simp only[Bu];rw[Ch r cs (by simpa[D.pure] using h)]
 |.tup cs,h=>by simp only[Bu];rw[Ch r cs (by simpa[D.pure] using h)]
 |.slice es _,h=>by simp only[Bu];rw[KE r es (by simpa[D.pure] using h)]
 |.ptr cs _,h=>by simp only[Bu];rw[Ch r cs (by simpa[D.pure] using h)]
 |.func _ fs cs,h=>by
  simp only[D.pure,A2i] at h;simp only[Bu];rw[Ch r fs h.1,Ch r cs h.2]
 |.iface _ d,h=>by simp only[Bu];rw[GO r d (by simpa[D.pure] using h)]
 |.ref _ _ _ _,h=>by simp[D.pure] at h
 |.sref _ _ _ _ _,h=>by simp[D.pure] at h
 |.gref _ _,h=>by simp[D.pure] at h
 |.yld _,h=>by simp[D.pure] at h
 |.mref _,h=>by simp[D.pure] at h
 |.gel _ _ _ _,h=>by simp[D.pure] at h
 |.gsub _ _ _ _,h=>by simp[D.pure] at h
def Ch(r:Nat->Nat):∀(l:List D),An l=true->Co r l=l
 |[],_=>rfl
 |d::l,h=>by
  simp only[An,A2i] at h;simp only[Co];rw[GO r d h.1,Ch r l h.2]
def KE(r:Nat->Nat):∀(l:LLa),Aa l=true->E5 r l=l
 |[],_=>rfl
 |d::l,h=>by
  simp only[Aa,A2i] at h;simp only[E5];rw[Ch r d h.1,KE r l h.2]
end
mutual
def Jv(n:Nat):∀(d:D),d.pure=true->ltD n d=true
 |.any,_=>rfl
 |.abool _ _,_=>rfl
 |.val _,_=>rfl
 |.cond g d,h=>by simp only[ltD];exact Jv n d (by simpa[D.pure] using h)
 |.agg cs,h=>by simp only[ltD];exact D8 n cs (by simpa[D.pure] using h)
 |.tup cs,h=>by simp only[ltD];exact D8 n cs (by simpa[D.pure] using h)
 |.slice es _,h=>by simp only[ltD];exact Mh n es (by simpa[D.pure] using h)
 |.ptr cs _,h=>by simp only[ltD];exact D8 n cs (by simpa[D.pure] using h)
 |.func _ fs cs,h=>by
  simp only[D.pure,A2i] at h;simp only[ltD,A2i];exact⟨D8 n fs h.1,D8 n cs h.2⟩
 |.iface _ d,h=>by simp only[ltD];exact Jv n d (by simpa[D.pure] using h)
 |.ref _ _ _ _,h=>by simp[D.pure] at h
 |.sref _ _ _ _ _,h=>by simp[D.pure] at h
 |.gref _ _,h=>by simp[D.pure] at h
 |.yld _,h=>by simp[D.pure] at h
 |.mref _,h=>by simp[D.pure] at h
 |.gel _ _ _ _,h=>by simp[D.pure] at h
 |.gsub _ _ _ _,h=>by simp[D.pure] at h
def D8(n:Nat):∀(l:List D),An l=true->ltL n l=true
 |[],_=>rfl
 |d::l,h=>by
  simp only[An,A2i] at h;simp only[ltL,A2i];exact⟨Jv n d h.1,D8 n l h.2⟩
def Mh(n:Nat):∀(l:LLa),Aa l=true->Fv n l=true
 |[],_=>rfl
 |d::l,h=>by
  simp only[Aa,A2i] at h;simp only[Fv,A2i];exact⟨D8 n d h.1,Mh n l h.2⟩
end
def Sk(r:Nat->Nat):∀l:List D,Co r l=l.map (Bu r)
 |[]=>rfl
 |d::l=>by simp[Co,Sk r l]
def F2(r:Nat->Nat):∀l:LLa,E5 r l=l.map (Co r)
 |[]=>rfl
 |d::l=>by simp[E5,F2 r l]
def Fg{n:Nat}:∀ {cs:List D},ltL n cs=true->∀i,ltD n (nd cs i)=true
 |[],_,i=>by simp[nd,ltD]
 |d::r,h,0=>by simp[ltL,A2i] at h;simpa[nd] using h.1
 |d::r,h,i+1=>by simp[ltL,A2i] at h;have:=Fg h.2 i;simpa[nd] using this
def Nt{n:Nat}:∀ {es:LLa},Fv n es=true->∀i,ltL n (nr es i)=true
 |[],_,i=>by simp[nr,ltL]
 |d::r,h,0=>by grind [Fv,nr]
 |d::r,h,i+1=>by simp[Fv,A2i] at h;have:=Nt h.2 i;simpa[nr] using this
theorem Cd{cs:List D}(hi:i<cs.length):nd (Co r cs) i=Bu r (nd cs i):=by rw[Sk];exact Dq hi
theorem D6{es:LLa}(hi:i<es.length):nr (E5 r es) i=Co r (nr es i):=by rw[F2];simp[nr,A29,hi]
theorem AJ(r:Nat->Nat)(cs:List D):(Co r cs).length=cs.length:=by rw[Sk];simp
theorem AU(r:Nat->Nat)(cs:LLa):(E5 r cs).length=cs.length:=by rw[F2];simp
def Rep.ren{w:World}{n:Nat}(N:∀b x,okN n b=true->mu (r b)=some x->mu' b=some x){Y:D}(h:Rep w I mu Y v):∀ {d:D},Y=Bu r d->ltD n d=true->Rep w I mu' d v:=by
 induction h with
 |any v=>intro d C hl;cases d<;>simp [Bu,reduceCtorEq] at C;exact .any v
 |abool n pos b h=>intro d C hl;cases d<;>simp [Bu,reduceCtorEq,D.abool.injEq] at C;obtain⟨rfl,rfl⟩:=C;exact .abool _ _ b h
 |val v ok=>intro d C hl;cases d<;>simp [Bu,reduceCtorEq,D.val.injEq] at C;subst C;exact .val v ok
 |cond g d v _ h' M=>
  intro d C hl;cases d<;>simp [Bu,reduceCtorEq,D.cond.injEq] at C;obtain⟨rfl,C⟩:=C;exact .cond _ _ v (λhg=>M hg C (by simpa[ltD] using hl)) h'
 |agg cs us hl _ M=>
  intro d C hlt;cases d<;>simp [Bu,reduceCtorEq,D.agg.injEq] at C;subst C;rw[AJ] at hl M;exact .agg _ us hl λi hi=>M i hi (Cd hi) (Fg (by simpa[ltD] using hlt) i)
 |tup cs us hl _ M=>
  intro d C hlt;cases d<;>simp [Bu,reduceCtorEq,D.tup.injEq] at C;subst C;rw[AJ] at hl M;exact .tup _ us hl λi hi=>M i hi (Cd hi) (Fg (by simpa[ltD] using hlt) i)
 |slice es tight A k o sz cap u Z hc ht hm a1 O _ M=>
  intro d C hlt;cases d<;>simp [Bu,reduceCtorEq,D.slice.injEq] at C;obtain⟨rfl,rfl⟩:=C;rw[AU] at Z hc ht a1 O M;rename_i es t;have:=Rep.slice es tight A k o sz cap u Z hc ht hm (λi hi=>by grind [D6,AJ]) O (λi j hi V=>M i j hi V (by
    grind [D6,AJ,Cd]) (Fg (Nt (by simpa[ltD] using hlt) i) j))
  rw[AU];exact this
 |ptr cs off k o u U O _ M=>
  intro d C hlt;cases d<;>simp [Bu,reduceCtorEq,D.ptr.injEq] at C;obtain⟨rfl,rfl⟩:=C;rw[AJ] at U O M;exact .ptr _ _ k o u U O λj V=>M j V (Cd V) (Fg (by simpa[ltD] using hlt) j)
 |ref b i off sz k h=>
  intro d C hlt;cases d<;>simp [Bu,reduceCtorEq,D.ref.injEq] at C;obtain⟨rfl,rfl,rfl,rfl⟩:=C;exact .ref _ _ _ _ k (N _ _ (by simpa[ltD] using hlt) h)
 |sref b i len cap sz k h=>
  intro d C hlt;cases d<;>simp [Bu,reduceCtorEq,D.sref.injEq] at C;obtain⟨rfl,rfl,rfl,rfl,rfl⟩:=C;exact .sref _ _ _ _ _ k (N _ _ (by simpa[ltD] using hlt) h)
 |gref b len A cap h=>
  intro d C hlt;cases d<;>simp [Bu,reduceCtorEq,D.gref.injEq] at C;obtain⟨rfl,rfl⟩:=C;exact .gref _ _ A cap (N _ _ (by simpa[ltD] using hlt) h)
 |mref b k h=>
  intro d C hlt;cases d<;>simp [Bu,reduceCtorEq,D.mref.injEq] at C;subst C;exact .mref _ k (N _ _ (by simpa[ltD] using hlt) h)
 |yld b k h=>
  intro d C hlt;cases d<;>simp [Bu,reduceCtorEq,D.yld.injEq] at C;subst C;exact .yld _ k (N _ _ (by simpa[ltD] using hlt) h)
 |gel b i off sz k len cap h=>
  intro d C hlt;cases d<;>simp [Bu,reduceCtorEq,D.gel.injEq] at C;obtain⟨rfl,rfl,rfl,rfl⟩:=C;exact .gel _ _ _ _ k len cap (N _ _ (by simpa[ltD] using hlt) h)
 |gsub b i len sz A B m cap h a2 hB=>
  intro d C hlt;cases d<;>simp [Bu,reduceCtorEq,D.gsub.injEq] at C;obtain⟨rfl,rfl,rfl,rfl⟩:=C;exact .gsub _ _ _ _ A B m cap (N _ _ (by simpa[ltD] using hlt) h) a2 hB
 |func fn fs cs us vs hl U _ _ M a0=>
  intro d C hlt;cases d<;>simp [Bu,reduceCtorEq,D.func.injEq] at C;obtain⟨rfl,rfl,rfl⟩:=C;rw[AJ] at hl U M a0;simp[ltD,A2i] at hlt;exact .func _ _ _ us vs hl U (λi hi=>M i hi (Cd hi) (Fg hlt.1 i)) λi hi=>a0 i hi (Cd hi) (Fg hlt.2 i)
 |iface t d v _ M=>
  intro d C hlt;cases d<;>simp only[Bu,reduceCtorEq,D.iface.injEq] at C;obtain⟨rfl,rfl⟩:=C;exact .iface _ _ v (M rfl (by simpa[ltD] using hlt))
def Gb(r:Nat->Nat):Blk->Blk
 |.rows es sz=>.rows (E5 r es) sz
 |.grow es sz=>.grow (E5 r es) sz
 |.map es ck=>.map (es.map λp=>(p.1,p.2.1,Bu r p.2.2)) ck
 |.iter m since seen last=>.iter (r m) since seen last
 |.obj o=>.obj o
 |.loop env nt st pd ps a c=>.loop (H8 (Bu r) env) nt st pd ps a c
 |.pr g p=>.pr (r g) p
 |.junk=>.junk
def ltB(n:Nat):Blk->Bool
 |.rows es _=>Fv n es
 |.grow es _=>Fv n es
 |.map es _=>es.all λp=>ltD n p.2.2
 |.iter m _ _ _=>okN n m
 |.loop env _ _ _ _ _ _=>eAll (ltD n) env
 |.pr g _=>okN n g
 |_=>true
def DQ.ren{w:World}{I:Nat->Prop}{mu mu':Nat->Option Value}{r:Nat->Nat}{n b:Nat}(C:∀b x,okN n b=true->mu (r b)=some x->mu' b=some x){x:Blk}(hb:okN n b=true)(h:DQ w I mu (r b) (Gb r x))(hl:ltB n x=true):DQ w I mu' b x:=by
 cases x with
 |rows es sz=>
  obtain⟨k,T,us,h1,h2,M,N,O⟩:=h;rw[AU] at M N O;have Y:∀i,i<es.length->(nr es i).length=sz:=λi hi=>by grind [D6,AJ]
  exact⟨k,T,us,C b _ hb h1,h2,M,Y,λi j hi U=>(O i j hi U).ren C (by rw[D6 hi,Cd (by simp_all)]) (Fg (Nt hl i) j)⟩
 |grow es sz=>
  obtain⟨A,cap,T,us,h1,h2,M,N⟩:=h;rw[AU] at h1 h2 N;have Z:∀i,i<es.length->(nr es i).length=sz:=λi hi=>by grind [D6,AJ]
  refine⟨A,cap,T,us,C b _ hb h1,Z,M,?_⟩;rcases N with⟨O,h6⟩|⟨k,g0,g1,g2,g3,g4,g5⟩
  ·simp_all [F2]
  ·exact .inr ⟨k,g0,g1,g2,g3,g4,λi j hi U=>(g5 i j hi U).ren C (by rw[D6 hi,Cd (by simp_all)]) (Fg (Nt hl i) j)⟩
 |map es ck=>
  obtain⟨k,l,h1,h2,M,N,O⟩:=h;refine⟨k,l,C b _ hb h1,h2,by simp_all,by simp_all,λi x y hx V=>(O i x (y.1,y.2.1,Bu r y.2.2) hx (by simp[V])).ren C rfl (A2q.1 hl y (List.mem_of_getElem? V))⟩
 |iter m a0 seen last=>
  obtain⟨k,km,h1,h2,M⟩:=h;exact⟨k,km,C b _ hb h1,C m _ hl h2,M⟩
 |obj o=>
  obtain⟨k,h1,h2⟩:=h;exact⟨k,C b _ hb h1,h2⟩
 |loop env nt st pd ps a c=>
  obtain⟨k,fn,tmps,kd,h1,h2,M,N⟩:=h;exact⟨k,fn,tmps,kd,C b _ hb h1,h2,M,λt=>(N t).ren C (K1 rfl env t) (Vy rfl hl t)⟩
 |pr g p=>
  obtain⟨v,u,h1,h2,M,N,O⟩:=h;exact⟨v,u,C b _ hb h1,C g _ hl h2,M,N,O⟩
 |junk=>trivial
def Cs(r:Nat->Nat)(e:Env):Env->Prop
 |[]=>True
 |(t,d)::l=>lo (e.get t) (Bu r d)/\Cs r e l
def MO(n:Nat)(r:Nat->Nat)(h:Hp):Hp->Prop
 |[]=>True
 |(b,x)::l=>(match Ak h (r b) with
  |some y=>loB y (Gb r x)
  |none=>junkB x=true/\r b%2=0/\2*n<=r b)/\MO n r h l
where junkB:Blk->Bool
 |.junk=>true
 |_=>false
def Ki(n:Nat):Env->Bool
 |[]=>true
 |(_,d)::l=>ltD n d&&Ki n l
def Qx(n:Nat):Hp->Bool
 |[]=>true
 |(b,x)::l=>okN n b&&ltB n x&&Qx n l
def Va(r:Nat->Nat)(h:Hp):Bool:=(h.map (·.1)).all λb=>(h.map (·.1)).all λc=>!(r b==r c) ||b==c
def Hi{r:Nat->Nat}{e:Env}{n:Nat}:∀ {l:Env},Cs r e l->Ki n l=true->∀t,(∃d,l.get t=d/\lo (e.get t) (Bu r d)/\ltD n d=true)\/l.get t=.any
 |[],_,_,t=>.inr rfl
 |(k,d)::l,h,ho,t=>by
  simp[Ki,A2i] at ho;by_cases C:k=t
  ·subst C;exact .inl ⟨d,by simp[Env.get],h.1,ho.1⟩
  ·have:(k==t)=false:=by simp[C]
   simp only[Env.get,this,cond_false];exact Hi h.2 ho.2 t
def EC{r:Nat->Nat}{e:Hp}{m n:Nat}:∀ {l:Hp},MO m r e l->Qx n l=true->∀b x,Ak l b=some x->((∃y,Ak e (r b)=some y/\loB y (Gb r x))\/(x=.junk/\frN m (r b)))/\okN n b=true/\ltB n x=true/\b ∈ l.map (·.1)
 |[],_,_,b,x,hx=>by simp[Ak] at hx
 |(k,y)::l,h,ho,b,x,hx=>by
  simp only[Qx,A2i] at ho;by_cases C:k=b
  ·subst C;simp only[Ak,beq_self_eq_true,cond_true,A2j] at hx;subst hx;refine⟨?_,?_⟩
   ·have h1:=h.1;split at h1
    ·rename_i M N;exact .inl ⟨M,N,h1⟩
    ·exact .inr ⟨by have:=h1.1;cases y<;>simp [MO.junkB] at this|-,h1.2⟩
   exact⟨ho.1.1,ho.1.2,by simp⟩
  ·have:(k==b)=false:=by simp[C]
   simp only[Ak,this,cond_false] at hx;have:=EC h.2 ho.2 b x hx;exact⟨this.1,this.2.1,this.2.2.1,A2V _ this.2.2.2⟩
def Aq.sub{s S:St}(r:Nat->Nat)(hr:∀b,b%2=1->r b=b)(he:Cs r s.env S.env)(hh:MO s.nx r s.hp S.hp)(a0:Ki S.nx S.env=true)(O:Qx S.nx S.hp=true)(a1:Va r S.hp=true):Aq s S:=by
 intro w0 M0 I0 nt I mu a w rel;let mu':Nat->Option Value:=λb=>if okN S.nx b=true then mu (r b) else none
 have U:∀b,okN S.nx b=true->mu' b=mu (r b):=λb hb=>by grind
 have Z:∀b x,okN S.nx b=true->mu (r b)=some x->mu' b=some x:=by simp_all
 refine⟨I,mu',rel.size,rel.defers,λt=>?_,⟨λb x M=>?_,λb x v k M C Y=>?_,λb c x y v u k M hy C V Y a2=>?_,λb hb=>?_,rel.w.lt,rel.w.os,rel.w.tape,rel.w.output,rel.w.grown,rel.w.old,rel.w.iold,rel.w.inew,λb x hb hn=>?_,λb x M hb=>?_⟩⟩
 ·rcases Hi he a0 t with⟨d,h1,h2,N⟩|h1
  ·have:=rel.env t;have e1:s.fs.env t=s.env.get t:=rfl;show Rep w I mu' (S.env.get t) _;rw[h1];exact(this.lo h2).ren Z rfl N
  ·show Rep w I mu' (S.env.get t) _;rw[h1];exact .any _
 ·obtain⟨h0,h2,N,_⟩:=EC hh O b x M;rcases h0 with⟨y,h1,a3⟩|⟨rfl,_⟩
  ·exact(DQ.lo (rel.w.blk (r b) _ h1) a3).ren Z h2 N
  ·trivial
 ·obtain⟨h0,h2,N,_⟩:=EC hh O b x M;rw[U b h2] at C;rcases h0 with⟨y,h1,_⟩|⟨_,h1⟩
  ·exact rel.w.loc (r b) _ v k h1 C Y
  ·rw[rel.w.fresh _ h1] at C;cases C
 ·obtain⟨h0,h2,N,m1⟩:=EC hh O b x M;obtain⟨g0,g2,g3,m2⟩:=EC hh O c y hy;rw[U b h2] at C;rw[U c g2] at V;obtain⟨_,h1,_⟩:=h0.resolve_right λh=>by rw[rel.w.fresh _ h.2] at C;cases C
  obtain⟨_,g1,_⟩:=g0.resolve_right λh=>by rw[rel.w.fresh _ h.2] at V;cases V
  have:=rel.w.inj (r b) (r c) _ _ v u k h1 g1 C V Y a2;have:=A2q.1 (A2q.1 a1 b m1) c m2;simp_all
 ·have:¬okN S.nx b=true:=by
   have h1:=hb.1;have h2:=hb.2;simp[okN];omega
  grind
 ·rw[U b (by simp[okN,hb]),hr b hb];exact rel.w.keep b x hb hn
 ·obtain⟨_,h2,_⟩:=EC hh O b x M;have N:=hb.1;have h4:=hb.2;simp[okN] at h2;omega
def A4(P:Program)(f:FuncId)(ds:List D)(H:Hp)(r:D)(H':Hp):Prop:=
 By P f=true/\∀(w:World) (M0:Nat->Prop) (G:Gh) (I:Nat->Prop) (mu:Nat->Option Value) (vs:List Value),GA P w M0 G->G.dl=[]->AA w M0 G (frN 4) I mu (Ak H) w->Bo w I mu ds vs->
  Calls P f vs.toArray w λe w'=>∃v I' mu',e=.returned v/\Rep w' I' mu' r v/\AA w M0 G (frN 4) I' mu' (Ak H') w'
def Qt(P:Program)(rs:List ResultVar)(r:D)(H':Hp):AE->St->Prop
 |.ret,s|.normal,s=>∃d,KD P s rs=some d/\Aq ⟨[(0,d)],s.hp,s.nx⟩ ⟨[(0,r)],H',4⟩
 |_,_=>False
def Gq{w:World}{vs:List Value}(h:Bo w I mu ds vs)(n t:Nat):Rep w I mu ((BB 0 ds).get t) ((vs.toArray++Array.replicate n undef).getD t undef):=by
 have C:=G7 ds 0 t;simp at C;rw[C];by_cases ht:t<ds.length
 ·rw[if_pos ht];have e:(vs.toArray++Array.replicate n undef).getD t undef=nv vs t:=by
   have:=h.1;simp_all [nv,A3z,Array.getElem?_append_left]
  rw[e];exact h.2 t ht
 ·rw[if_neg ht];exact .any _
def A4.of_awp{fn:Func}{c:Code}{r:D}(hf:P.funcs[f]? =some fn)(hb:fn.body=some c)(hn:fn.ntmps=nt)(a0:By P f=true)(a5:ds.length<=nt){rs:List ResultVar}(a1:fn.results.toList=rs)
  (h:AWp P nt c (Qt P rs r H') ⟨BB 0 ds,H,4⟩):A4 P f ds H r H':=by
 subst a1;refine⟨a0,λw M0 O I mu vs a2 a6 C Y=>?_⟩;let G:Gh:=⟨O.st,O.nm,[],Fence.wide,0,.inl rfl⟩
 have hG:∀k,G k->k<w.heap.size:=λk hk=>C.lt k (C.iold k hk);refine callsIn_wide.1 (callsIn_of_wp_marks hf hb trivial (wpIn_mono (h w M0 G a2 I mu _ w ⟨?_,C8.refl _ _ _ _,λt=>Gq Y _ t,⟨C.blk,C.loc,C.inj,C.fresh,C.lt,C.os,C.tape,C.output,C.grown,C.old,C.iold,C.inew,C.keep,C.used⟩⟩) ?_))
 ·have:=Y.1;simp_all
 ·rintro e Z w' ⟨x,s',I',mu',U,he,r'⟩;have fin:∀d,KD P s' fn.results.toList=some d->Aq ⟨[(0,d)],s'.hp,s'.nx⟩ ⟨[(0,r)],H',4⟩->LeavesInM Fence.wide 0 P fn Z.tmps (λe w'=>∃v I' mu',e=.returned v/\Rep w' I' mu' r v/\AA w M0 O (frN 4) I' mu' (Ak H') w') Z.defers .returning w':=by
   intro d N a3;refine r'.leave hG rfl N λv w2 I2 _ W2 h2=>?_;obtain⟨I3,a4,M⟩:=a3 w M0 G 1 I2 mu' {tmps:=#[v],defers:=[]} w2 ⟨rfl,C8.refl _ _ _ _,λt=>by
    cases t with
    |zero=>simpa [St.fs,Env.get] using h2
    |succ t=>simp;exact .any _,W2⟩
   have r0:=M.env 0;exact⟨v,I3,a4,rfl,by simpa[St.fs,Env.get] using r0,⟨M.w.blk,M.w.loc,M.w.inj,M.w.fresh,M.w.lt,M.w.os,M.w.tape,M.w.output,M.w.grown,M.w.old,M.w.iold,M.w.inew,M.w.keep,M.w.used⟩⟩
  cases x<;>cases e<;>simp [He] at he<;>simp [Qt] at U
  case normal.normal=>
   obtain⟨d,N,V⟩:=U;exact fin d N V
  case ret.ret=>
   obtain⟨d,N,V⟩:=U;exact fin d N V
def A4.lo{P:Program}{f:FuncId}{ds ds':List D}{H:Hp}{r:D}{H':Hp}(h:A4 P f ds H r H')(hl:loL ds' ds):A4 P f ds' H r H':=by
 obtain⟨h1,h2⟩:=h;obtain⟨l1,l2⟩:=C3 hl;exact⟨h1,λw M0 G I mu vs C M N hr=>h2 w M0 G I mu vs C M N ⟨by rw[hr.1,l1],λi hi=>(hr.2 i (by omega)).lo (l2 i (by omega))⟩⟩
def A0.lo{P:Program}{f:FuncId}{ds ds':List D}{r:D}(h:A0 P f ds r)(hl:loL ds' ds):A0 P f ds' r:=by
 unfold A0 at h|-;obtain⟨l1,l2⟩:=C3 hl;exact⟨h.1,λw I vs C M hl hr=>h.2 w I vs C M (by omega) λi hi=>(hr i (by omega)).lo (l2 i (by omega))⟩
def Rep.into{w:World}(M:∀b x,x≠undef->mu b=some x->mu' (r b)=some x){d:D}(h:Rep w I mu d v):Rep w I mu' (Bu r d) v:=by
 induction h with
 |any v=>exact .any v
 |abool n pos b h=>exact .abool _ _ b h
 |val v ok=>exact .val v ok
 |cond g d v _ V C=>exact .cond _ _ v C V
 |agg cs us hl _ C=>
  refine .agg _ us (by rw[AJ];exact hl) λi hi=>?_;rw[AJ] at hi;rw[Cd hi];simp_all
 |tup cs us hl _ C=>
  refine .tup _ us (by rw[AJ];exact hl) λi hi=>?_;rw[AJ] at hi;rw[Cd hi];simp_all
 |slice es tight A k o sz cap u Y hc ht hm a1 N _ C=>
  have:=Rep.slice (mu:=mu') (E5 r es) tight A k o sz cap u (by rw[AU];exact Y) (by rw[AU];exact hc) (by rw[AU];exact ht) hm
   (λi hi=>by grind [AU,D6,AJ]) (by rw[AU];exact N) (λi j hi O=>by
    grind [AU,D6,Cd])
  rw[AU] at this;exact this
 |ptr cs off k o u U N _ C=>
  refine .ptr _ _ k o u (by rw[AJ];exact U) (by rw[AJ];exact N) λj O=>?_;rw[AJ] at O;rw[Cd O];simp_all
 |ref b i off sz k h=>exact .ref _ _ _ _ k (M _ _ (by simp[undef]) h)
 |sref b i len cap sz k h=>exact .sref _ _ _ _ _ k (M _ _ (by simp[undef]) h)
 |gref b len A cap h=>exact .gref _ _ A cap (M _ _ (by simp[undef]) h)
 |mref b k h=>exact .mref _ k (M _ _ (by simp[undef]) h)
 |yld b k h=>exact .yld _ k (M _ _ (by simp[undef]) h)
 |gel b i off sz k len cap h=>exact .gel _ _ _ _ k len cap (M _ _ (by simp[undef]) h)
 |gsub b i len sz A B n cap h Z hB=>exact .gsub _ _ _ _ A B n cap (M _ _ (by simp[undef]) h) Z hB
 |func fn fs cs us vs hl U _ _ C a0=>
  refine .func _ _ _ us vs (by rw[AJ];exact hl) (by rw[AJ];exact U) (λi hi=>?_) λi hi=>?_
  ·rw[AJ] at hi;rw[Cd hi];exact C i hi
  ·rw[AJ] at hi;rw[Cd hi];exact a0 i hi
 |iface t d v _ C=>exact .iface t _ v C
def DQ.into{w:World}{I:Nat->Prop}{mu mu':Nat->Option Value}{r:Nat->Nat}(C:∀b x,x≠undef->mu b=some x->mu' (r b)=some x){b:Nat}{x:Blk}(h:DQ w I mu b x):DQ w I mu' (r b) (Gb r x):=by
 cases x with
 |rows es sz=>
  obtain⟨k,T,us,h1,h2,M,N,O⟩:=h;refine⟨k,T,us,C _ _ (by simp[undef]) h1,h2,by rw[AU];exact M,λi hi=>?_,λi j hi U=>?_⟩
  ·grind [AU,D6,AJ]
  ·rw[AU] at hi;rw[D6 hi,Cd (by simp_all)];exact(O i j hi U).into C
 |grow es sz=>
  obtain⟨A,cap,T,us,h1,h2,M,N⟩:=h;refine⟨A,cap,T,us,by rw[AU];exact C _ _ (by simp[undef]) h1,λi hi=>?_,M,?_⟩
  ·grind [AU,D6,AJ]
  ·rcases N with⟨O,rfl⟩|⟨k,Y,Z,g2,g3,g4,g5⟩
   ·exact .inl ⟨O,rfl⟩
   ·refine .inr ⟨k,Y,Z,g2,by rw[AU];exact g3,g4,λi j hi U=>?_⟩;rw[AU] at hi;rw[D6 hi,Cd (by simp_all)];exact(g5 i j hi U).into C
 |map es ck=>
  obtain⟨k,l,h1,h2,M,N,O⟩:=h;refine⟨k,l,C _ _ (by simp[undef]) h1,h2,by simp_all,by simp_all,λi x y hx V=>?_⟩;simp only[A2X,Option.map_eq_some_iff] at V;obtain⟨z,hz,rfl⟩:=V;exact(O i x z hx hz).into C
 |iter m a0 seen last=>
  obtain⟨k,km,h1,h2,M⟩:=h;exact⟨k,km,C _ _ (by simp[undef]) h1,C _ _ (by simp[undef]) h2,M⟩
 |obj o=>
  obtain⟨k,h1,h2⟩:=h;exact⟨k,C _ _ (by simp[undef]) h1,h2⟩
 |loop env nt st pd ps a c=>
  obtain⟨k,fn,tmps,kd,h1,h2,M,N⟩:=h;exact⟨k,fn,tmps,kd,C _ _ (by simp[undef]) h1,h2,M,λt=>by rw[K1 rfl];exact(N t).into C⟩
 |pr g p=>
  obtain⟨v,u,h1,h2,M,N,O⟩:=h;exact⟨v,u,C _ _ M h1,C _ _ N h2,M,N,O⟩
 |junk=>trivial
def Bq(r:Nat->Nat)(hp:Nat->Option Blk):Hp->Prop
 |[]=>True
 |(b,x)::l=>(match hp (r b) with
  |some y=>loB y (Gb r x)
  |none=>False)/\Bq r hp l
theorem MN{r:Nat->Nat}{hp:Nat->Option Blk}:∀ {l:Hp},Bq r hp l->∀b x,Ak l b=some x->∃y,hp (r b)=some y/\loB y (Gb r x)
 |[],_,b,x,hx=>by simp[Ak] at hx
 |(k,y)::l,h,b,x,hx=>by
  by_cases C:k=b
  ·subst C;simp[Ak,beq_self_eq_true,A2j] at hx;have h1:=h.1;grind
  ·have:(k==b)=false:=by simp[C]
   simp[Ak,this,cond_false] at hx;exact MN h.2 b x hx
def FT:∀ {l:Hp} {b:Nat} {x:Blk},Ak l b=some x->b ∈ l.map (·.1)
 |[],b,x,h=>by simp[Ak] at h
 |(k,y)::l,b,x,h=>by
  by_cases C:k=b
  ·simp[C]
  ·have:(k==b)=false:=by simp[C]
   simp_all [Ak,cond_false,FT]
def Ph:List Nat->Bool
 |[]=>true
 |x::r=>(r.all λy=>!(y==x))&&Ph r
def Df(id:Nat)(r:Nat->Nat)(b:Nat):Nat:=bif b%2==1 then r b else id+b
def EE(id:Nat)(r:Nat->Nat)(H H':Hp):List (Nat×Option Blk):=H.map (λp=>(r p.1,none))++H'.map λp=>(Df id r p.1,some (Gb (Df id r) p.2))
def CJ(id:Nat)(r:Nat->Nat)(H:Hp)(d:D)(H':Hp):Eff:=⟨Bu (Df id r) d,EE id r H H',H.map λp=>r p.1⟩
def DH(id:Nat)(r:Nat->Nat)(H H':Hp):Bool:=Qx 4 H&&Va r H&&Ph (H'.map (·.1))&&(H'.all λp=>okN 4 p.1&&(p.1%2==0 ||H.any λq=>q.1==p.1))&&H.all λp=>!(decide (id<=r p.1)&&decide (r p.1<id+8)&&(r p.1-id)%2==0)
def QD{b:Nat}(r:Nat->Nat):∀(l:Hp) (x:Option Blk),AZ b x (l.map λp=>(r p.1,none))=if (l.any λp=>r p.1==b) then none else x
 |[],x=>rfl
 |p::l,x=>by
  have:=QD (b:=b) r l (if r p.1=b then none else x);simp only[AZ,A2m,A2Q] at this|-;rw[this];by_cases h:r p.1=b
  ·simp[h]
  ·have:(r p.1==b)=false:=by simp[h]
   rw[if_neg h,List.any_cons,this,A42]
def NN{σ:Nat->Nat}{F:Blk->Blk}:∀(l:Hp) (C:Option Blk),(∀p ∈ l,∀q ∈ l,σ p.1=σ q.1->p.1=q.1)->Ph (l.map (·.1))=true->∀c y,Ak l c=some y->AZ (σ c) C (l.map λp=>(σ p.1,some (F p.2)))=some (F y)
 |[],_,_,_,c,y,h=>by cases h
 |(k,z)::l,C,hinj,hn,c,y,h=>by
  simp[Ph,A2m,A2i] at hn;have N:∀p ∈ l,∀q ∈ l,σ p.1=σ q.1->p.1=q.1:=by grind
  by_cases M:k=c
  ·subst M;simp[Ak,beq_self_eq_true,A2j] at h;subst h;have hs:=FB (up:=l.map λp=>(σ p.1,some (F p.2))) (λp hp hb=>by
    obtain⟨q,O,rfl⟩:=A2p.1 hp;have:=hinj q (by grind) (k,z) A36 hb;grind) (some (F z))
   simp[AZ,A2m,if_true] at hs|-;exact hs
  ·have:(k==c)=false:=by simp[M]
   simp[Ak,this,cond_false] at h;exact NN l _ N hn.2 c y h
def S2(P:Program)(o:Oper)(id:Nat)(ev:Operand->D)(hp:Nat->Option Blk)(rd:List Nat)(F:Eff->Prop):Prop:=
 ∀w0 M0 I0 fr I mu h (a:Act) w,GA P w0 M0 I0->AA w0 M0 I0 fr I mu h w->(∀j,j<4->fr (id+2*j))->(∀x ∈ o.op.operands,Rep w I mu (ev x) (a.eval x))->(∀b ∈ rd,h b=hp b)->
  ∀K Q,(∀e,F e->∀v w' I' mu',Ext I mu w I' mu' w'->AA w0 M0 I0 (λb=>fr b/\∀j,j<4->b≠id+2*j) I' mu' (λb=>AZ b (h b) e.up) w'->Rep w' I' mu' e.d v->K (a.put o.dst v) w')->o.wpIn I0.F I0.n P a w K Q
def Ym(P:Program)(f:FuncId)(ds:List D)(H:Hp)(X:D->Hp->Prop):Prop:=
 By P f=true/\∀(w:World) (M0:Nat->Prop) (G:Gh) (I:Nat->Prop) (mu:Nat->Option Value) (vs:List Value),GA P w M0 G->G.dl=[]->AA w M0 G (frN 4) I mu (Ak H) w->Bo w I mu ds vs->
  Calls P f vs.toArray w λe w'=>∃r H' v I' mu',X r H'/\e=.returned v/\Rep w' I' mu' r v/\AA w M0 G (frN 4) I' mu' (Ak H') w'
def A4.x{r:D}(h:A4 P f ds H r H'):Ym P f ds H (λd h=>d=r/\h=H'):=
 ⟨h.1,λw M0 G I mu vs C M N hr=>(h.2 w M0 G I mu vs C M N hr).mono (by grind)⟩
def hand{id:Nat}(r:Nat->Nat){w:World}{vs:List Value}
  (bc:GA P w0 M0 I0) (U:AA w0 M0 I0 fr I mu h w) (ao:∀j,j<4->fr (id+2*j)) (hb:∀b ∈ H.map λp=>r p.1,h b=hp b) (ap:Bo w I mu (Co r ds) vs)
  (hl:ltL 4 ds=true) (hh:Bq r hp H) (aq:DH id r H []=true):∃(M:Nat->Prop) (G:Gh) (Y:Nat->Option Value),
   (GA P w M G/\G.dl=[]/\AA w M G (frN 4) I Y (Ak H) w/\Bo w I Y ds vs/\(∀b x,okN 4 b=true->mu (r b)=some x->Y b=some x)/\(∀k,I k->G k)/\(∀k,M k->¬I k)/\(∀b x,b%2=1->Y b=some x->G.nm b=some x))/\
   ∀(d:D) (H':Hp) (v:Value) (w':World) (I':Nat->Prop) (mu':Nat->Option Value),DH id r H H'=true->Rep w' I' mu' d v->AA w M G (frN 4) I' mu' (Ak H') w'->∃a0,Ext I mu w I' a0 w'/\
    AA w0 M0 I0 (λb=>fr b/\∀j,j<4->b≠id+2*j) I' a0 (λb=>AZ b (h b) (CJ id r H d H').up) w'/\Rep w' I' a0 (CJ id r H d H').d v/\
    ∀b x,Ak H' b=some x->AZ (Df id r b) (h (Df id r b)) (CJ id r H d H').up=some (Gb (Df id r) x):=by
 simp only[DH,A2i] at aq;obtain⟨⟨⟨⟨bp,ar⟩,_⟩,_⟩,au⟩:=aq;have bd:∀j,j<4->mu (id+2*j)=none:=λj hj=>U.fresh _ (ao j hj);have bq:∀b x,Ak H b=some x->h (r b)=hp (r b):=λb x O=>hb _ (by
  obtain⟨p,a5,rfl⟩:=A2p.1 (FT O);grind)
 have ab:∀b x,Ak H b=some x->∃y,h (r b)=some y/\loB y (Gb r x):=λb x O=>by
  grind [MN]
 let Y:Nat->Option Value:=λb=>if b%2=1 then some ((mu (r b)).getD undef) else if b<8 then mu (r b) else none
 have av:∀b x,okN 4 b=true->mu (r b)=some x->Y b=some x:=by
  intro b x hb O;simp[Y];by_cases a1:b%2=1
  ·simp_all
  simp_all [okN,if_neg,if_pos]
 have aw:∀b v,Y b=some v->v≠undef->mu (r b)=some v:=by
  intro b v N hu;simp[Y] at N;split at N
  ·cases hm:mu (r b) with
   |none=>simp_all
   |some y=>simp_all
  simp_all
 have ax:∀b v k,Y b=some v->Al v=some k->mu (r b)=some v:=λb v k N C=>aw b v N (by rintro rfl;cases C);have ay:∀b x,Ak H b=some x->okN 4 b=true/\ltB 4 x=true:=λb x O=>by
  have key:∀ {l:Hp},Qx 4 l=true->Ak l b=some x->okN 4 b=true/\ltB 4 x=true:=by
   intro l
   induction l with
   |nil=>intro _ h;cases h
   |cons p l ih=>
    intro ho O;simp[Qx,A2i] at ho;by_cases C:p.1=b
    ·simp_all [Ak,cond_true]
    ·have a3:(p.1==b)=false:=by simp[C]
     simp_all [Ak,cond_false]
  grind
 let M:Nat->Prop:=λk=>∃b x v,Ak H b=some x/\Y b=some v/\Al v=some k;let G:Gh:=⟨I,λb=>if b%2=1 then Y b else none,[],Fence.wide,0,.inl rfl⟩
 have az:∀k,M k->∃b x v,Ak H b=some x/\(∃y,h (r b)=some y)/\mu (r b)=some v/\Al v=some k:=by
  grind
 have ac:∀k,M k->(M0 k\/w0.heap.size<=k)/\¬I k/\k<w.heap.size:=λk C=>by
  obtain⟨b,x,v,_,⟨y,V⟩,h2,h3⟩:=az k C;exact U.loc _ y v k V h2 h3
 have hW:AA w M G (frN 4) I Y (Ak H) w:=by
  refine⟨λb x O=>?_,λb x v k O N C=>?_,λb c x y v u k O V N hu C a3=>?_,λb hb=>?_,U.lt,rfl,rfl,rfl,A2e _,λ_ _ _=>rfl,λ_ h=>h,λ_ h=>.inl h,λb x hb hn=>?_,λb x O hb=>?_⟩
  ·obtain⟨y,h1,h2⟩:=ab b x O;obtain⟨g1,g2⟩:=ay b x O;exact(DQ.lo (U.blk (r b) y h1) h2).ren av g1 g2
  ·grind
  ·obtain⟨y1,g1,_⟩:=ab b x O;obtain⟨y2,g2,_⟩:=ab c y V;have h1:=ax b v k N C;have h2:=ax c u k hu a3;have:=U.inj (r b) (r c) _ _ v u k g1 g2 h1 h2 C a3;have h3:=A2q.1 (A2q.1 ar b (FT O)) c (FT V);simp_all
  ·obtain⟨h1,h2⟩:=hb;simp[Y];rw[if_neg (by omega),if_neg (by omega)]
  ·have b3:(if b%2=1 then Y b else none)=some x:=hn;rw[if_pos hb] at b3;exact b3
  ·have h1:=(ay b x O).1;have h3:=hb.1;have Z:=hb.2;simp[okN] at h1;omega
 have br:GA P w M G:=λg l be=>by
  obtain⟨h1,T,fz,h2⟩:=bc.at U g l be;exact(by grind)
 have bt:Bo w I Y ds vs:=by
  refine⟨by rw[ap.1,AJ],λi hi=>?_⟩;have:=ap.2 i (by rw[AJ];exact hi);rw[Cd hi] at this;exact this.ren av rfl (Fg hl i)
 refine⟨M,G,Y,(by grind),λd H' v w' I' mu' b4 N R=>?_⟩;simp only[DH,A2i] at b4;obtain⟨⟨⟨_,b5⟩,ae⟩,_⟩:=b4;let a0:Nat->Option Value:=λb=>if id<=b/\b<id+8/\(b-id)%2=0 then mu' (b-id) else mu b
 have ad:∀b x,mu b=some x->a0 b=some x:=by
  intro b x O;simp only[a0];rw[if_neg]
  ·exact O
  ·rintro⟨h1,h2,h3⟩;have:=bd ((b-id)/2) (by omega);have e:id+2*((b-id)/2)=b:=by omega
   rw[e,O] at this;cases this
 have b6:∀b x,x≠undef->mu' b=some x->a0 (Df id r b)=some x:=by
  intro b x hu O;by_cases a1:b%2=1
  ·have a4:(b%2==1)=true:=by simp[a1]
   simp only[Df,a4,cond_true];refine ad _ _ (aw b x ?_ hu);have C:=R.keep b ((mu (r b)).getD undef) a1 (by show(if b%2=1 then Y b else none)=_;simp only[Y,if_pos a1]);rw[O] at C;simp only[Y,if_pos a1];exact C.symm▸rfl
  ·have a4:(b%2==1)=false:=by simp[a1]
   simp only[Df,a4,cond_false,a0];have:b<8:=by
    apply Nat.lt_of_not_le;intro bu;have:=R.fresh b ⟨by omega,by omega⟩;rw[O] at this;cases this
   rw[if_pos ⟨by omega,by omega,by omega⟩,A3C];exact O
 have a8:∀b v,a0 (Df id r b)=some v->∀x,Ak H' b=some x->∀k,Al v=some k->mu' b=some v:=by
  intro b v N x O k C;have bf:=A2q.1 ae;obtain⟨p,a5,rfl⟩:=A2p.1 (FT O);have Z:=bf p a5;simp only[A2i,A40,beq_iff_eq,List.any_eq_true] at Z;by_cases a1:p.1%2=1
  ·have a4:(p.1%2==1)=true:=by simp[a1]
   simp only[Df,a4,cond_true] at N;obtain⟨q,hq,ah⟩:=Z.2.resolve_left (by omega);have bg:mu (r p.1)=some v:=by
    simp only[a0] at N;split at N
    ·rename_i hr;exfalso;have h5:=A2q.1 au q hq;rw[ah] at h5;simp at h5;omega
    ·exact N
   refine R.keep p.1 v a1 ?_;show(if p.1%2=1 then Y p.1 else none)=_;simp only[if_pos a1,Y,bg,A2P]
  ·have a4:(p.1%2==1)=false:=by simp[a1]
   simp only[Df,a4,cond_false,a0] at N;have:p.1<8:=by have:=Z.1;simp[okN,a1] at this;omega
   rw[if_pos (by omega),A3C] at N;exact N
 have b7:∀p ∈ H',∀q ∈ H',Df id r p.1=Df id r q.1->p.1=q.1:=by
  intro p a5 q hq he;have Z:=A2q.1 ae;have ai:=Z p a5;have aj:=Z q hq;simp only[A2i,A40,beq_iff_eq,List.any_eq_true] at ai aj;have h5:=A2q.1 au;have ak:∀p:Nat×Blk,p.1%2=1->(p.1%2=0\/∃x,x ∈ H/\x.1=p.1)->∃x,x ∈ H/\x.1=p.1:=λp hp h=>h.resolve_left (by omega);have bh:∀p q:Nat×Blk,p.1%2=1->(p.1%2=0\/∃x,x ∈ H/\x.1=p.1)->¬q.1%2=1->okN 4 q.1=true->r p.1=id+q.1->False:=by
   intro p q h1 h2 h3 Z h6;obtain⟨x,O,al⟩:=ak p h1 h2;have h7:=h5 x O;rw[al,h6] at h7;have:q.1<8:=by simp[okN,h3] at Z;omega
   simp at h7;omega
  by_cases h1:p.1%2=1<;>by_cases h2:q.1%2=1
  ·have a6:(p.1%2==1)=true:=by simp[h1]
   have a7:(q.1%2==1)=true:=by simp[h2]
   simp only[Df,a6,a7,cond_true] at he;obtain⟨x,O,al⟩:=ak p h1 ai.2;obtain⟨y,V,bi⟩:=ak q h2 aj.2;have h3:=A2q.1 (A2q.1 ar x.1 (A2p.2 ⟨x,O,rfl⟩)) y.1 (A2p.2 ⟨y,V,rfl⟩);rw[al,bi] at h3;simp_all
  ·have a6:(p.1%2==1)=true:=by simp[h1]
   have a7:(q.1%2==1)=false:=by simp[h2]
   simp only[Df,a6,a7,cond_true,cond_false] at he;exact(bh p q h1 ai.2 h2 aj.1 he).elim
  ·have a6:(p.1%2==1)=false:=by simp[h1]
   have a7:(q.1%2==1)=true:=by simp[h2]
   simp only[Df,a6,a7,cond_true,cond_false] at he;exact(by grind)
  ·have a6:(p.1%2==1)=false:=by simp[h1]
   have a7:(q.1%2==1)=false:=by simp[h2]
   simp only[Df,a6,a7,cond_false] at he;omega
 have a9:∀b y,AZ b (h b) (EE id r H H')=some y->(∃c x,Ak H' c=some x/\Df id r c=b/\y=Gb (Df id r) x)\/((∀c x,Ak H c=some x->r c≠b)/\h b=some y):=by
  intro b y V;have bj:AZ b (h b) (EE id r H H')=AZ b (AZ b (h b) (H.map λp=>(r p.1,none))) (H'.map λp=>(Df id r p.1,some (Gb (Df id r) p.2))):=by
   simp only[EE,AZ,A41]
  rw[bj,QD] at V;by_cases bm:∃p ∈ H',Df id r p.1=b
  ·obtain⟨p,a5,rfl⟩:=bm;have:∃x,Ak H' p.1=some x:=by
    have:∀ {l:Hp},p ∈ l->∃y,Ak l p.1=some y:=by
     intro l
     induction l with
     |nil=>intro h;cases h
     |cons z l ih=>
      intro hm;by_cases hz:z.1=p.1
      ·exact⟨z.2,by simp[Ak,hz]⟩
      ·have:(z.1==p.1)=false:=by simp[hz]
       simp only[Ak,this,cond_false];rcases A2s.1 hm with rfl|hm
       ·exact absurd rfl hz
       ·exact ih hm
    exact this a5
   obtain⟨x,O⟩:=this;rw[NN H' _ b7 b5 p.1 x O] at V;exact(by grind)
  ·rw[FB (by grind)] at V;split at V
   ·cases V
   ·rename_i hn;refine .inr ⟨λc x O hc=>hn ?_,V⟩;obtain⟨p,a5,rfl⟩:=A2p.1 (FT O);exact(by grind)
 have am:∀b y v k,h b=some y->(∀c x,Ak H c=some x->r c≠b)->mu b=some v->Al v=some k->¬M k:=by
  intro b y v k V a2 N C hm;obtain⟨c,x,u,g1,⟨z,g2⟩,g3,g4⟩:=az k hm;exact a2 c x g1 (U.inj (r c) b z y u v k g2 V g3 N g4 C)
 have b8:∀k,I k->w'.heap[k]? =w.heap[k]?:=λk C=>R.old k (U.lt k C) λhm=>(ac k hm).2.1 C;have bn:Ext I mu w I' a0 w':=⟨λk C=>R.iold k C,ad,b8⟩
 have aa:∀b y v k,h b=some y->(∀c x,Ak H c=some x->r c≠b)->a0 b=some v->Al v=some k->mu b=some v:=by
  intro b y v k V a2 N C;simp only[a0] at N;split at N
  ·rename_i hr;exfalso;have hn:=ao ((b-id)/2) (by omega);have e:id+2*((b-id)/2)=b:=by omega
   rw[e] at hn;exact U.used b y V hn
  ·exact N
 refine⟨a0,bn,⟨λb y V=>?_,λb y v k V N C=>?_,λb c y z v u k V hz N hu C a3=>?_,λb hb=>?_,R.lt,R.os.trans U.os,R.tape.trans U.tape,R.output.trans U.output,A2N U.grown R.grown,λk C b9=>?_,λk C=>R.iold k (U.iold k C),λk C=>?_,λb x hb hn=>ad b x (U.keep b x hb hn),λb y V hb=>?_⟩,N.into b6,λb x O=>?_⟩
 ·rcases a9 b y V with⟨c,x,h1,rfl,rfl⟩|⟨a2,h1⟩
  ·exact(R.blk c x h1).into b6
  ·exact(U.blk b y h1).mono b8 (λk C=>R.iold k C) ad λv k N C=>R.old k (U.loc b y v k h1 N C).2.2 (am b y v k h1 a2 N C)
 ·rcases a9 b y V with⟨c,x,h1,rfl,rfl⟩|⟨a2,h1⟩
  ·have:=R.loc c x v k h1 (a8 c v N x h1 k C) C;refine⟨?_,this.2⟩;rcases this.1 with h2|h2
   ·exact(ac k h2).1
   ·exact .inr (A2N U.grown h2)
  ·have ba:=aa b y v k h1 a2 N C;have:=U.loc b y v k h1 ba C;refine⟨this.1,λhI=>?_,A3K this.2.2 R.grown⟩;rcases R.inew k hI with h2|h2|h2
   ·exact this.2.1 h2
   ·exact am b y v k h1 a2 ba C h2
   ·omega
 ·have bb:∀b y c x v u k,h b=some y->(∀c x,Ak H c=some x->r c≠b)->mu b=some v->Al v=some k->Ak H' c=some x->mu' c=some u->Al u=some k->False:=by
   intro b y c x v u k h1 a2 h2 h3 Z h5 h6;have g1:=U.loc b y v k h1 h2 h3;have g2:=(R.loc c x u k Z h5 h6).1;rcases g2 with g2|g2
   ·exact am b y v k h1 a2 h2 h3 g2
   ·omega
  rcases a9 b y V with⟨b',x,h1,rfl,rfl⟩|⟨a2,h1⟩<;>rcases a9 c z hz with⟨c',x',h2,rfl,rfl⟩|⟨an,h2⟩
  ·rw[R.inj b' c' x x' v u k h1 h2 (a8 b' v N x h1 k C) (a8 c' u hu x' h2 k a3) C a3]
  ·exact(bb c z b' x u v k h2 an (aa c z u k h2 an hu a3) a3 h1 (a8 b' v N x h1 k C) C).elim
  ·exact(bb b y c' x' v u k h1 a2 (aa b y v k h1 a2 N C) C h2 (a8 c' u hu x' h2 k a3) a3).elim
  ·exact U.inj b c y z v u k h1 h2 (aa b y v k h1 a2 N C) (aa c z u k h2 an hu a3) C a3
 ·simp only[a0];rw[if_neg]
  ·exact U.fresh b hb.1
  ·rintro⟨h1,h2,h3⟩;exact hb.2 ((b-id)/2) (by omega) (by omega)
 ·have bo:¬M k:=λhm=>by
   rcases(ac k hm).1 with h1|h1
   ·exact b9 h1
   ·omega
  rw[R.old k (by have:=U.grown;omega) bo];exact U.old k C b9
 ·rcases R.inew k C with h1|h1|h1
  ·exact U.inew k h1
  ·exact .inr (ac k h1).1
  ·exact .inr (.inr (A2N U.grown h1))
 ·rcases a9 b y V with⟨c,x,h1,rfl,rfl⟩|⟨a2,h1⟩
  ·have Z:=A2q.1 ae;obtain⟨p,a5,rfl⟩:=A2p.1 (FT h1);have Z:=Z p a5;simp only[A2i,A40,beq_iff_eq,List.any_eq_true] at Z;by_cases a1:p.1%2=1
   ·have a4:(p.1%2==1)=true:=by simp[a1]
    simp only[Df,a4,cond_true] at hb;obtain⟨q,hq,ah⟩:=Z.2.resolve_left (by omega);have:∀ {l:Hp},q ∈ l->∃y,Ak l q.1=some y:=by
     intro l
     induction l with
     |nil=>intro h;cases h
     |cons z l ih=>
      intro hm;by_cases hz:z.1=q.1
      ·exact⟨z.2,by simp[Ak,hz]⟩
      ·have:(z.1==q.1)=false:=by simp[hz]
       simp only[Ak,this,cond_false];rcases A2s.1 hm with rfl|hm
       ·exact absurd rfl hz
       ·exact ih hm
    obtain⟨y,V⟩:=this hq;obtain⟨z,hz,_⟩:=ab q.1 y V;rw[ah] at hz;exact U.used _ z hz hb.1
   ·have a4:(p.1%2==1)=false:=by simp[a1]
    simp only[Df,a4,cond_false] at hb;have:p.1<8:=by have:=Z.1;simp[okN,a1] at this;omega
    exact hb.2 (p.1/2) (by omega) (by omega)
  ·exact U.used b y h1 hb.1
 ·show AZ _ _ (EE id r H H')=_;have hs:∀z,AZ (Df id r b) z (EE id r H H')=AZ (Df id r b) (AZ (Df id r b) z (H.map λp=>(r p.1,none))) (H'.map λp=>(Df id r p.1,some (Gb (Df id r) p.2))):=λz=>by
   simp only[EE,AZ,A41]
  rw[hs];exact NN H' _ b7 b5 b x O
def RE{id:Nat}{o:Oper}{X:D->Hp->Prop}(r:Nat->Nat)
  (O:∀w0 M0 (I0:Gh) fr I mu h (a:Act) w,AA w0 M0 I0 fr I mu h w->(∀x ∈ o.op.operands,Rep w I mu (ev x) (a.eval x))->∃vs,Bo w I mu (Co r ds) vs/\
   ∀(M:Nat->Prop) (G:Gh) (C:Nat->Option Value),GA P w M G->G.dl=[]->AA w M G (frN 4) I C (Ak H) w->Bo w I C ds vs->(∀b x,okN 4 b=true->mu (r b)=some x->C b=some x)->
    ∀K Q,(∀(e:Ending) (w':World),(∃d H' v I' mu',X d H'/\e=.returned v/\Rep w' I' mu' d v/\AA w M G (frN 4) I' mu' (Ak H') w')->∃v,e=.returned v/\K (a.put o.dst v) w')->o.wpIn I0.F I0.n P a w K Q)
  (hl:ltL 4 ds=true) (hh:Bq r hp H) (U:DH id r H []=true) (a1:∀d H',X d H'->DH id r H H'=true):S2 P o id ev hp (H.map λp=>r p.1) (λe=>∃d H',X d H'/\e=CJ id r H d H'):=by
 intro w0 M0 I0 fr I mu h a w V N Y Z hb K Q hK;obtain⟨vs,a0,a2⟩:=O w0 M0 I0 fr I mu h a w N Z;obtain⟨M,G,C,⟨g1,g2,g3,g4,g5,_⟩,a3⟩:=hand r V N Y hb a0 hl hh U;grind
def VD{id:Nat}{o:Oper}{X:D->Hp->Prop}(r:Nat->Nat)
  (C:∀w0 M0 I0 fr I mu h (a:Act) w,AA w0 M0 I0 fr I mu h w->(∀x ∈ o.op.operands,Rep w I mu (ev x) (a.eval x))->∃vs,(execOp a.eval o).run P w=.ok (.enter f vs.toArray) w/\Bo w I mu (Co r ds) vs)
  (hl:ltL 4 ds=true) (hh:Bq r hp H) (N:DH id r H []=true) (O:∀d H',X d H'->DH id r H H'=true) (hc:Ym P f ds H X):S2 P o id ev hp (H.map λp=>r p.1) (λe=>∃d H',X d H'/\e=CJ id r H d H'):=by
 refine RE r (λw0 M0 I0 fr I mu h a w U V=>?_) hl hh N O;obtain⟨vs,C,Y⟩:=C w0 M0 I0 fr I mu h a w U V;refine⟨vs,Y,λM G Z a0 a1 hW ha _ K Q hK=>Ci C ((hc.2 w M G I Z vs a0 a1 hW ha).mono λe w' h=>?_)⟩;obtain⟨v,rfl,hv⟩:=hK e w' h;exact hv
def Q0{id:Nat}{o:Oper}{d:D}(r:Nat->Nat)
  (M:∀w0 M0 I0 fr I mu h (a:Act) w,AA w0 M0 I0 fr I mu h w->(∀x ∈ o.op.operands,Rep w I mu (ev x) (a.eval x))->∃vs,(execOp a.eval o).run P w=.ok (.enter f vs.toArray) w/\Bo w I mu (Co r ds) vs)
  (hl:ltL 4 ds=true) (hh:Bq r hp H) (C:DH id r H H'=true) (hc:A4 P f ds H d H'):AQ P o id ev hp (CJ id r H d H'):=by
 have h0:DH id r H []=true:=by
  simp only[DH,A2i] at C|-;obtain⟨⟨⟨⟨N,O⟩,a1⟩,a2⟩,U⟩:=C;exact⟨⟨⟨⟨N,O⟩,rfl⟩,rfl⟩,U⟩
 intro w0 M0 I0 fr I mu h a w V Y Z a0 hb K Q hK;exact VD r M hl hh h0 (by simp_all) hc.x w0 M0 I0 fr I mu h a w V Y Z a0 hb K Q (by grind)
section
variable{P:Program}{ops:Array Oper}{nx:Nat}{dst:Option Tmp}{T:TypeId}{ps:String}{af:Array Edge}{gd:Option (Nat×Bool)}{f:FuncId}{x:Operand}{args:Array Operand}{ts:Array TypeId}{fs cs ds:List D}{d:D}{H H':Hp}{l:List Oper}{pos:Nat}{acc:List Eff}{s:St}{K:List Eff->St->Prop}
def A5.scall(r:Nat->Nat)(hc:A4 P f ds H d H')(C:DO ops s gd)(V:args.toList.map (evO P s.env.get)=Co r ds)
  (hl:ltL 4 ds=true) (hh:Bq r (Ak s.hp) H) (O:DH (2*(nx+4*pos)) r H H'=true)
  (M:GoS P ops nx l (pos+1) (CJ (2*(nx+4*pos)) r H d H'::acc) (s.app dst (CJ (2*(nx+4*pos)) r H d H')) K):A5 P ops nx (⟨dst,.call {callee:=.value (.func f),args:=args,argTypes:=ts},T,ps,af,gd⟩::l) pos acc s K:=by
 rw[Cu] at M;rw[BA];unfold BT;have N:AQ P ⟨dst,.call {callee:=.value (.func f),args:=args,argTypes:=ts},T,ps,af,gd⟩ (2*(nx+4*pos)) (evO P s.env.get) (Ak s.hp) (CJ (2*(nx+4*pos)) r H d H'):=by
  refine Q0 r (λw0 M0 I0 fr I mu h a w Y Z=>⟨args.toList.map a.eval,?_,?_⟩) hl hh O hc
  ·have e1:args.map a.eval=(args.toList.map a.eval).toArray:=by grind
   have U:#[]++args.map a.eval++ #[]=(args.toList.map a.eval).toArray:=by simp_all
   exact(congrArg (λz=>(callFunc f z).run P w) U).trans (Bj hc.1 _ w)
  grind [Bo.args,Op.operands,Call.operands]
 refine .inl ⟨_,?_,by have:=Go.run M;unfold BT at this;exact this⟩;rcases C with rfl|⟨j,want,t,rfl,ht,C⟩
 ·exact Bz.plain rfl N
 ·exact Bz.guard_true rfl ht C N
def A5.scallV(r:Nat->Nat)(V:evO P s.env.get x=.func (.func f) fs cs)(hc:A4 P f ds H d H')(M:DO ops s gd)(Y:fs++args.toList.map (evO P s.env.get)++cs=Co r ds)
  (hl:ltL 4 ds=true) (hh:Bq r (Ak s.hp) H) (Z:DH (2*(nx+4*pos)) r H H'=true)
  (C:GoS P ops nx l (pos+1) (CJ (2*(nx+4*pos)) r H d H'::acc) (s.app dst (CJ (2*(nx+4*pos)) r H d H')) K):A5 P ops nx (⟨dst,.call {callee:=.value x,args:=args,argTypes:=ts},T,ps,af,gd⟩::l) pos acc s K:=by
 rw[Cu] at C;rw[BA];unfold BT;have O:AQ P ⟨dst,.call {callee:=.value x,args:=args,argTypes:=ts},T,ps,af,gd⟩ (2*(nx+4*pos)) (evO P s.env.get) (Ak s.hp) (CJ (2*(nx+4*pos)) r H d H'):=by
  refine Q0 r (λw0 M0 I0 fr I mu h a w hw U=>?_) hl hh Z hc;have N:=U x (by simp[Op.operands,Call.operands]);rw[V] at N;have a0:=Bo.args (args:=args) λy hy=>U y (by grind [Op.operands,Call.operands]);generalize he:a.eval x=fv at N;cases N with
  |func _ _ _ us vs hl C h1 h2=>
  refine⟨us++args.toList.map a.eval++vs,?_,?_⟩
  ·have e1:us.toArray++args.map a.eval++vs.toArray=(us++args.toList.map a.eval++vs).toArray:=by simp_all
   simp only[execOp,resolve,he,Deferred.ofValue,A2o,A2u,Result.andThen,invoke];exact(congrArg (λz=>(callFunc f z).run P w) e1).trans (Bj hc.1 _ w)
  ·rw[<-Y];exact Bo.append (Bo.append ⟨hl,h1⟩ a0) ⟨C,h2⟩
 refine .inl ⟨_,?_,by have:=Go.run C;unfold BT at this;exact this⟩;rcases M with rfl|⟨j,want,t,rfl,ht,M⟩
 ·exact Bz.plain rfl O
 ·exact Bz.guard_true rfl ht M O
def TL.plain{o:Oper}{id:Nat}{s0:FSt}{rd:List Nat}{F:Eff->Prop}(N:o.guard=none)(h:S2 P o id (evO P s0.env) s0.hp rd F):TL P ops o id s0 F:=by
 intro w0 M0 I0 nt fr I mu a w C r O U K Q V;rw[if_pos (by simp[Region.wanted,N])];refine h w0 M0 I0 fr I mu s0.hp a w C r.w O (λx hx=>Ei (C.at r.w) r.env x) (λ_ _=>rfl) K Q λe hF v w' I' mu' M Y Z=>V e hF _ _ I' mu' ⟨?_,?_,?_,Y⟩
 ·rw[FM];exact r.size
 ·rw[EF];exact r.defers.ext M
 ·exact Lu r.size U (λt=>(r.env t).ext M) Z a rfl
def A5.many{op:Op}(rd:List Nat)(F:Eff->Prop)(M:∃e,F e)(h:S2 P ⟨dst,op,T,ps,af,none⟩ (2*(nx+4*pos)) (evO P s.env.get) (Ak s.hp) rd F)
  (C:∀e,F e->GoS P ops nx l (pos+1) (bad::acc) (s.app dst e) K):A5 P ops nx (⟨dst,op,T,ps,af,none⟩::l) pos acc s K:=by
 rw[Cu] at C;rw[BA];unfold BT;exact .inr (.inl ⟨F,M,TL.plain rfl h,λe hF=>by have:=Go.run (C e hF);unfold BT at this;exact this⟩)
def DG(P:Program)(y:Nat)(ds:List D)(H:Hp)(d:D)(H':Hp):Prop:=
 ∀(w:World) (M0:Nat->Prop) (G:Gh) (I:Nat->Prop) (mu:Nat->Option Value) (vs:List Value) (l:Nat),GA P w M0 G->G.dl=[]->mu y=some (.pointer (some ⟨l,0,none⟩))->AA w M0 G (frN 4) I mu (Ak H) w->Bo w I mu ds vs->
  ∃fn tmps assign body,(Instr.yield l vs.toArray).run P w=.ok (.round l fn tmps assign body) w/\RoundIn Fence.wide 0 P l fn tmps assign body w λe w'=>∃v I' mu',e=.returned v/\Rep w' I' mu' d v/\AA w M0 G (frN 4) I' mu' (Ak H') w'
def X8{G:Gh}{l fn:Nat}{tmps:Array Value}{assign body:Code}{w:World}{R:Ending->World->Prop}(h:RoundIn Fence.wide 0 P l fn tmps assign body w R):RoundIn G.F (G.n-1) P l fn tmps assign body w R:=by
 obtain⟨h1,h2⟩:=h;have hn:∀n m,RoundIn Fence.wide n P l fn tmps assign body w R->RoundIn Fence.wide m P l fn tmps assign body w R:=λn m h=>⟨h.1,λc cs _=>h.2 c cs (λd C=>by cases C)⟩
 rcases G.hF with e|⟨l',e⟩<;>rw [e]
 ·exact hn 0 _ ⟨h1,h2⟩
 ·exact hn 0 _ ⟨h1,h2⟩
def A5.yield(y:Nat)(r:Nat->Nat)(hy:y%2=1)(hx:evO P s.env.get x=.yld (r y))(hc:DG P y ds H d H')(ha:args.toList.map (evO P s.env.get)=Co r ds)(C:DO ops s gd)
  (hl:ltL 4 ds=true) (hh:Bq r (Ak s.hp) H) (V:DH (2*(nx+4*pos)) r H H'=true)
  (Y:GoS P ops nx l (pos+1) (CJ (2*(nx+4*pos)) r H d H'::acc) (s.app dst (CJ (2*(nx+4*pos)) r H d H')) K):A5 P ops nx (⟨dst,.call {callee:=.value x,args:=args,argTypes:=ts},T,ps,af,gd⟩::l) pos acc s K:=by
 rw[Cu] at Y;rw[BA];unfold BT;have h0:DH (2*(nx+4*pos)) r H []=true:=by
  simp only[DH,A2i] at V|-;obtain⟨⟨⟨⟨a0,a1⟩,aa⟩,ab⟩,a2⟩:=V;exact⟨⟨⟨⟨a0,a1⟩,rfl⟩,rfl⟩,a2⟩
 have Z:AQ P ⟨dst,.call {callee:=.value x,args:=args,argTypes:=ts},T,ps,af,gd⟩ (2*(nx+4*pos)) (evO P s.env.get) (Ak s.hp) (CJ (2*(nx+4*pos)) r H d H'):=by
  intro w0 M0 I0 fr I mu h a w N hw a3 O hb K Q hK;refine RE (X:=λd' h'=>d'=d/\h'=H') r (λw0 M0 I0 fr I mu h a w hw O=>⟨args.toList.map a.eval,?_,λM G a4 N a5 hW a6 a7 K Q hK=>?_⟩) hl hh h0 (by simp_all) w0 M0 I0 fr I mu h a w N hw a3 O hb K Q (by grind)
  ·grind [Bo.args,Op.operands,Call.operands]
  ·have U:=O x (by simp[Op.operands,Call.operands]);rw[hx] at U;generalize he:a.eval x=fv at U;cases U with
   |yld _ l hl=>
   obtain⟨fn,tmps,assign,body,q1,q2⟩:=hc w M G I a4 (args.toList.map a.eval) l N a5 (a7 y _ (by simp[okN,hy]) hl) hW a6;have a8:(execOp a.eval ⟨dst,.call {callee:=.value x,args:=args,argTypes:=ts},T,ps,af,gd⟩).run P w=.ok (.round l fn tmps assign body) w:=by
    have e1:args.map a.eval=(args.toList.map a.eval).toArray:=by grind
    simp[execOp,resolve,he,Deferred.ofValue,A2o,A2u,Result.andThen,invoke];grind
   refine⟨λf _=>I0.fn f,?_⟩;rw[Oper.semAt_eq _ _ _ (by grind),a8];refine⟨λh=>(by rw[I0.depth] at h;cases h),X8 (RoundIn.mono q2 λe w' ⟨v,I',mu',he,hv,R⟩=>?_)⟩;obtain⟨v',rfl,a9⟩:=hK e w' (by grind);exact a9
 refine .inl ⟨_,?_,by have:=Go.run Y;unfold BT at this;exact this⟩;rcases C with rfl|⟨j,want,t,rfl,ht,C⟩
 ·exact Bz.plain rfl Z
 ·exact Bz.guard_true rfl ht C Z
end
attribute [irreducible] A4 Ym DG
def Rb(F:D->D):Env->Env
 |[]=>[]
 |(t,d)::r=>(t,F d)::Rb F r
def mapH(F:D->D):Hp->Hp
 |[]=>[]
 |(c,y)::r=>(c,K8 F y)::mapH F r
def Ra{F:D->D}(hF:F .any=.any):∀(e:Env) (t:Nat),(Rb F e).get t=F (e.get t)
 |[],t=>hF.symm
 |(k,d)::r,t=>by
  simp[Rb,Env.get];cases k==t with
  |true=>rfl
  |false=>exact Ra hF r t
def R9{F:D->D}:∀(h:Hp) (c:Nat) (y:Blk),Ak (mapH F h) c=some y->∃z,Ak h c=some z/\y=K8 F z
 |[],c,y,h=>by cases h
 |(k,z)::r,c,y,h=>by
  simp[mapH,Ak] at h|-;cases C:k==c with
  |true=>simp_all
  |false=>simp [C,cond_false] at h|-;exact R9 r c y h
def reS(b:Nat)(F:D->D)(y:Blk)(s:St):St:=⟨Rb F s.env,(2*s.nx,y)::mapH F (del s.hp b),s.nx+1⟩
def ReOk(b c:Nat)(x:Blk)(F:D->D)(y:Blk)(w:World)(I:Nat->Prop)(mu:Nat->Option Value)(u:Value):Prop:=
 DQ w I (AM mu c u) c y/\(∀k,Al u=some k->∃v,mu b=some v/\Al v=some k)/\∀d v,Rep w I mu d v->Rep w I (AM mu c u) (F d) v
def Rel.re{s:St}{a:Act}{w:World}{b:Nat}{x y:Blk}(hF:F .any=.any)(r:Rel w0 M0 I0 nt (frN s.nx) I mu s.fs a w)(hb:Ak s.hp b=some x){u:Value}(k:ReOk b (2*s.nx) x F y w I mu u):
  Rel w0 M0 I0 nt (frN (reS b F y s).nx) I (AM mu (2*s.nx) u) (reS b F y s).fs a w:=by
 obtain⟨k1,k2,k3⟩:=k;have a7:frN s.nx (2*s.nx):=⟨by omega,A2e _⟩
 have a8:mu (2*s.nx)=none:=r.w.fresh _ a7;have hm:=BN (v:=u) a8;have a5:s.fs.hp b=some x:=hb;have a2:∀c z,Ak ((2*s.nx,y)::mapH F (del s.hp b)) c=some z->(c=2*s.nx/\z=y)\/(c≠2*s.nx/\c≠b/\∃C,s.fs.hp c=some C/\z=K8 F C):=by
  intro c z h;simp[Ak] at h;by_cases hc:2*s.nx=c
  ·simp_all
  ·have:(2*s.nx==c)=false:=by simp[hc]
   rw[this,cond_false] at h;obtain⟨C,hz,rfl⟩:=R9 _ c z h;rw[Li] at hz;split at hz
   ·cases hz
   ·rename_i a9;exact .inr ⟨λh=>hc h.symm,λh=>a9 h.symm,C,hz,rfl⟩
 have a4:∀c,c≠2*s.nx->AM mu (2*s.nx) u c=mu c:=λc hc=>by simp[AM,hc]
 refine⟨r.size,r.defers,λt=>?_,⟨λc z h=>?_,λc z v j h Z hj=>?_,λc c' z C v v' j h h' Z a0 hj a3=>?_,λc hc=>?_,r.w.lt,r.w.os,r.w.tape,r.w.output,r.w.grown,r.w.old,r.w.iold,r.w.inew,λc v hc hn=>hm c v (r.w.keep c v hc hn),λc z h hc=>?_⟩⟩
 ·show Rep w I _ ((Rb F s.env).get t) _;rw[Ra hF];exact k3 _ _ (r.env t)
 ·rcases a2 c z h with⟨rfl,rfl⟩|⟨h1,h2,C,V,rfl⟩
  ·exact k1
  ·have:=(r.w.blk c C V).mapB (λd v h=>h);have a1:=r.w.blk c C V;cases C with
   |rows es sz=>
    obtain⟨O,T,us,M,N,Y,U,g5⟩:=a1;refine⟨O,T,us,hm _ _ M,N,by simp_all,λi hi=>?_,λi j hi hj=>?_⟩
    ·simp at hi;rw[Gg hi,A2k];exact U i hi
    ·simp at hi;rw[Gg hi,Dq (by rw[U i hi];exact hj)];exact k3 _ _ (g5 i j hi hj)
   |grow es sz=>
    obtain⟨A,cap,T,us,M,N,Y,U⟩:=a1;refine⟨A,cap,T,us,by simp_all,λi hi=>?_,Y,?_⟩
    ·grind [Gg]
    ·rcases U with⟨U,rfl⟩|⟨O,g0,hA,g5,g6,g7,g8⟩
     ·simp_all
     grind [Gg,Dq]
   |map es ck=>
    obtain⟨O,l,M,N,Y,U,g5⟩:=a1;refine⟨O,l,hm _ _ M,N,by simp_all,by simp_all,λi e p he hp=>?_⟩;grind
   |iter m ad seen last=>
    obtain⟨O,km,M,N,Y⟩:=a1;exact⟨O,km,hm _ _ M,hm _ _ N,Y⟩
   |obj o=>
    obtain⟨O,M,N⟩:=a1;exact⟨O,hm _ _ M,N⟩
   |loop env nt st pd ps a c=>
    obtain⟨O,fn,tmps,kd,M,N,Y,U⟩:=a1;exact⟨O,fn,tmps,kd,hm _ _ M,N,Y,λt=>PY (Q:=λd=>Rep w I (AM mu (2*s.nx) u) d (tmps.getD t undef)) (.any _) (k3 _ _ (U t))⟩
   |pr g p=>
    obtain⟨v,u,M,N,Y,U,g5⟩:=a1;exact⟨v,u,hm _ _ M,hm _ _ N,Y,U,g5⟩
   |junk=>trivial
 ·rcases a2 c z h with⟨rfl,rfl⟩|⟨h1,h2,C,V,rfl⟩
  ·simp[AM,if_true,A2j] at Z;subst Z;obtain⟨v',a0,a3⟩:=k2 j hj;exact r.w.loc b x v' j a5 a0 a3
  ·rw[a4 c h1] at Z;exact r.w.loc c C v j V Z hj
 ·have ae:∀c z v j,c≠b->s.fs.hp c=some z->mu c=some v->Al v=some j->Al u=some j->False:=by
   intro c z v j hc h1 h2 V h4;obtain⟨v',a0,a3⟩:=k2 j h4;exact hc (r.w.inj c b z x v v' j h1 a5 h2 a0 V a3)
  rcases a2 c z h with⟨rfl,rfl⟩|⟨h1,h2,z1,V,rfl⟩<;>rcases a2 c' C h' with⟨rfl,rfl⟩|⟨aa,a6,ab,ac,rfl⟩
  ·rfl
  ·simp[AM,if_true,A2j] at Z;grind
  ·simp[AM,if_true,A2j] at a0;grind
  ·rw[a4 c h1] at Z;rw[a4 c' aa] at a0;exact r.w.inj c c' z1 ab v v' j V ac Z a0 hj a3
 ·obtain⟨h1,h2⟩:=hc;have a6:2*(s.nx+1)<=c:=h2;rw[a4 c (by omega)];exact r.w.fresh c ⟨h1,by omega⟩
 ·obtain⟨h1,h2⟩:=hc;have a6:2*(s.nx+1)<=c:=h2;rcases a2 c z h with⟨rfl,rfl⟩|⟨V,h4,C,h5,rfl⟩
  ·omega
  ·exact r.w.used c C h5 ⟨h1,by omega⟩
def unD(b c cap sz:Nat):D->D
 |.gref b' n=>bif b'==b then .sref c 0 n cap sz else .gref b' n
 |d=>d
def un0D(b:Nat):D->D
 |.gref b' n=>bif b'==b then .slice [] true else .gref b' n
 |d=>d
def unB(es:LLa)(sz cap:Nat):Blk:=.rows (es++List.replicate (cap-es.length) (List.replicate sz .any)) sz
def AWp.ungrow{c:Code}{Q:AE->St->Prop}{s:St}{b sz:Nat}{es:LLa}(hb:Ak s.hp b=some (.grow es sz))
  (h0:es=[]->AWp P nt c Q (reS b (un0D b) .junk s)) (h1:∀cap,es.length<=cap->0<cap->cap<=9223372036854775807->AWp P nt c Q (reS b (unD b (2*s.nx) cap sz) (unB es sz cap) s)):AWp P nt c Q s:=by
 intro w0 M0 I0 g I mu a w r;have a4:=r.w.blk b _ hb;have a3:mu (2*s.nx)=none:=r.w.fresh _ ⟨by omega,A2e _⟩;obtain⟨A,cap,T,us,V,g2,g3,g4⟩:=a4;rcases g4 with⟨rfl,rfl⟩|⟨k,g0,rfl,g5,g6,g7,g8⟩
 ·have hm:=BN (v:=undef) a3;refine h0 rfl w0 M0 I0 g I _ a w (r.re (u:=undef) rfl hb ⟨trivial,λk C=>by simp[undef,Al] at C,λd v Y=>?_⟩);cases Y with
  |gref M n Z cap' C=>
   simp[un0D];by_cases U:M=b
   ·subst U;rw[V] at C;obtain⟨rfl,rfl,rfl⟩:=C;simp;exact .slice [] true A 0 0 0 0 (λ_ _=>.nilFunc) (by simp_all) (A2e _) (λ_=>rfl) (A2w _) (by simp_all) (by omega) (by omega)
   ·have:(M==b)=false:=by simp[U]
    rw[this,cond_false];exact .gref M n Z cap' (hm _ _ C)
  |any v=>exact .any v
  |val v ok=>exact .val v ok
  |cond g d v h N=>exact (Rep.cond g d v h N).mono (λ_ _=>rfl) (λ_ h=>h) hm
  |agg cs us hl h=>exact (Rep.agg cs us hl h).mono (λ_ _=>rfl) (λ_ h=>h) hm
  |tup cs us hl h=>exact (Rep.tup cs us hl h).mono (λ_ _=>rfl) (λ_ h=>h) hm
  |slice es tight A k o sz cap u hA hc ht a0 a1 O h=>exact (Rep.slice es tight A k o sz cap u hA hc ht a0 a1 O h).mono (λ_ _=>rfl) (λ_ h=>h) hm
  |ptr cs off k o u hI O h=>exact (Rep.ptr cs off k o u hI O h).mono (λ_ _=>rfl) (λ_ h=>h) hm
  |ref b i off sz k h=>exact .ref b i off sz k (hm _ _ h)
  |sref b i len cap sz k h=>exact .sref b i len cap sz k (hm _ _ h)
  |mref b k h=>exact .mref b k (hm _ _ h)
  |yld b k h=>exact .yld b k (hm _ _ h)
  |func fn fs cs us vs hl C h N=>exact (Rep.func fn fs cs us vs hl C h N).mono (λ_ _=>rfl) (λ_ h=>h) hm
  |iface t d v h=>exact (Rep.iface t d v h).mono (λ_ _=>rfl) (λ_ h=>h) hm
  |abool n pos b h=>exact .abool n pos b h
  |gel b i off sz k len cap h=>exact .gel b i off sz k len cap (hm _ _ h)
  |gsub b i len sz A B n cap h a2 hB=>exact .gsub b i len sz A B n cap (hm _ _ h) a2 hB
 ·have hm:=BN (v:=.pointer (some ⟨k,0,none⟩)) a3;refine h1 cap g6 g0 (by simpa[maxLen] using g3) w0 M0 I0 g I _ a w (r.re (u:=.pointer (some ⟨k,0,none⟩)) rfl hb ⟨⟨k,T,us,by simp[AM],g5,by simp_all,λi hi=>?_,λi j hi hj=>?_⟩,λk' C=>?_,λd v Y=>?_⟩)
  ·grind [nr]
  ·by_cases hlt:i<es.length
   ·have:nr (es++List.replicate (cap-es.length) (List.replicate sz .any)) i=nr es i:=by grind [nr]
    rw[this];exact(g8 i j hlt hj).mono (λ_ _=>rfl) (λ_ h=>h) hm
   ·simp at hi;have:nr (es++List.replicate (cap-es.length) (List.replicate sz .any)) i=List.replicate sz .any:=by
     grind [nr]
    rw[this];have:nd (List.replicate sz D.any) j=.any:=by grind [nd]
    rw[this];exact .any _
  ·simp[Al,A2j] at C;exact⟨_,V,by simp[Al];grind⟩
  ·cases Y with
   |gref M n Z cap' C=>
    simp[unD];by_cases U:M=b
    ·subst U;rw[V] at C;have:=Rep.sref (w:=w) (I:=I) (mu:=AM mu (2*s.nx) (.pointer (some ⟨k,0,none⟩))) (2*s.nx) 0 es.length cap sz k (by simp[AM]);simp_all
    ·have:(M==b)=false:=by simp[U]
     rw[this,cond_false];exact .gref M n Z cap' (hm _ _ C)
   |any v=>exact .any v
   |val v ok=>exact .val v ok
   |cond g d v h N=>exact (Rep.cond g d v h N).mono (λ_ _=>rfl) (λ_ h=>h) hm
   |agg cs us hl h=>exact (Rep.agg cs us hl h).mono (λ_ _=>rfl) (λ_ h=>h) hm
   |tup cs us hl h=>exact (Rep.tup cs us hl h).mono (λ_ _=>rfl) (λ_ h=>h) hm
   |slice es tight A k o sz cap u hA hc ht a0 a1 O h=>exact (Rep.slice es tight A k o sz cap u hA hc ht a0 a1 O h).mono (λ_ _=>rfl) (λ_ h=>h) hm
   |ptr cs off k o u hI O h=>exact (Rep.ptr cs off k o u hI O h).mono (λ_ _=>rfl) (λ_ h=>h) hm
   |ref b i off sz k h=>exact .ref b i off sz k (hm _ _ h)
   |sref b i len cap sz k h=>exact .sref b i len cap sz k (hm _ _ h)
   |mref b k h=>exact .mref b k (hm _ _ h)
   |yld b k h=>exact .yld b k (hm _ _ h)
   |func fn fs cs us vs hl C h N=>exact (Rep.func fn fs cs us vs hl C h N).mono (λ_ _=>rfl) (λ_ h=>h) hm
   |iface t d v h=>exact (Rep.iface t d v h).mono (λ_ _=>rfl) (λ_ h=>h) hm
   |abool n pos b h=>exact .abool n pos b h
   |gel b i off sz k len cap h=>exact .gel b i off sz k len cap (hm _ _ h)
   |gsub b i len sz A B n cap h a2 hB=>exact .gsub b i len sz A B n cap (hm _ _ h) a2 hB
def grS(b c n cap:Nat):D->D
 |.sref b' i len cap' sz=>bif b'==b&&i==0&&len==n&&cap'==cap then .gref c n else .sref b' i len cap' sz
 |d=>d
def grG(b c n:Nat):D->D
 |.gsub b' i len sz=>bif b'==b&&i==0&&len==n then .gref c n else .gsub b' i len sz
 |d=>d
section
variable{w:World}{I:Nat->Prop}{mu mu':Nat->Option Value}
def rep_grS{b c n cap k:Nat}(hm:∀b x,mu b=some x->mu' b=some x)(hb:mu b=some (.pointer (some ⟨k,0,none⟩)))(hc:mu' c=some (.slice (some ⟨k,0,none⟩) n cap)){d:D}(C:Rep w I mu d v):Rep w I mu' (grS b c n cap d) v:=by
 have M:=C.mono (λ_ _=>rfl) (λ_ h=>h) hm;cases d with
 |sref O i len cap' sz=>
  simp[grS];cases N:(O==b&&i==0&&len==n&&cap'==cap) with
  |true=>
   simp at N;obtain⟨⟨⟨rfl,rfl⟩,rfl⟩,rfl⟩:=N;cases C with
   |sref _ _ _ _ _ U h=>
    rw[hb] at h;simp at h;subst h;rw[Nat.zero_mul];exact .gref c len _ cap' hc
  |false=>exact M
 |_=>exact M
def rep_grG{b c n m cap:Nat}{A:Option Addr}(hm:∀b x,mu b=some x->mu' b=some x)(hb:mu b=some (.slice A m cap))(hc:mu' c=some (.slice A n cap)){d:D}(C:Rep w I mu d v):Rep w I mu' (grG b c n d) v:=by
 have M:=C.mono (λ_ _=>rfl) (λ_ h=>h) hm;cases d with
 |gsub O i len sz=>
  simp[grG];cases N:(O==b&&i==0&&len==n) with
  |true=>
   simp at N;obtain⟨⟨rfl,rfl⟩,rfl⟩:=N;cases C with
   |gsub _ _ _ _ Y U Z cap' h a0 V=>
    rw[hb] at h;obtain⟨rfl,rfl,rfl⟩:=h;have:U=A:=by rw[V (.inr rfl)];cases A<;>simp [Addr.add]
    rw[this,Nat.sub_zero];exact .gref c len A cap hc
  |false=>exact M
 |_=>exact M
end
def Aq.regrow{s:St}{b sz:Nat}{es:LLa}(n:Nat)(hb:Ak s.hp b=some (.rows es sz))(hn:n<=es.length)(hm:es.length<=9223372036854775807):Aq s (reS b (grS b (2*s.nx) n es.length) (.grow (es.take n) sz) s):=by
 intro w0 M0 I0 nt I mu a w r;obtain⟨k,T,us,M,N,O,g4,U⟩:=r.w.blk b _ hb;have V:mu (2*s.nx)=none:=r.w.fresh _ ⟨by omega,A2e _⟩;have C:=BN (v:=.slice (some ⟨k,0,none⟩) n es.length) V;have hl:(es.take n).length=n:=by simp;omega
 have Y:∀i,i<n->nr (es.take n) i=nr es i:=by
  grind [nr]
 refine⟨I,_,r.re (u:=.slice (some ⟨k,0,none⟩) n es.length) rfl hb ⟨⟨some ⟨k,0,none⟩,es.length,T,us,by simp[AM,hl],λi hi=>by grind,by simpa[maxLen] using hm,?_⟩,λk' hk=>?_,λd v Z=>rep_grS C M (by simp[AM]) Z⟩⟩
 ·rcases A2K es.length with h0|hpos
  ·simp_all
  ·exact .inr ⟨k,hpos,rfl,N,by omega,O,λi j hi hj=>by
    rw[hl] at hi;rw[Y i hi];exact(U i j (by omega) hj).mono (λ_ _=>rfl) (λ_ h=>h) C⟩
 grind [Al]
def Aq.cut{s:St}{b sz:Nat}{es:LLa}(n:Nat)(hb:Ak s.hp b=some (.grow es sz))(hn:n<=es.length):Aq s (reS b (grG b (2*s.nx) n) (.grow (es.take n) sz) s):=by
 intro w0 M0 I0 nt I mu a w r;obtain⟨A,cap,T,us,C,g2,O,M⟩:=r.w.blk b _ hb;have U:mu (2*s.nx)=none:=r.w.fresh _ ⟨by omega,A2e _⟩;have N:=BN (v:=.slice A n cap) U;have hl:(es.take n).length=n:=by simp;omega
 have V:∀i,i<n->nr (es.take n) i=nr es i:=by
  grind [nr]
 refine⟨I,_,r.re rfl hb ⟨⟨A,cap,T,us,by simp[AM,hl],λi hi=>by grind,O,?_⟩,λk' hk=>⟨_,C,by grind [Al]⟩,λd v Y=>rep_grG N C (by simp[AM]) Y⟩⟩;rcases M with⟨M,rfl⟩|⟨k,Z,q1,q2,q3,q4,q5⟩
 ·simp_all
 ·exact .inr ⟨k,Z,q1,q2,by omega,q4,λi j hi hj=>by
   rw[hl] at hi;rw[V i hi];exact(q5 i j (by omega) hj).mono (λ_ _=>rfl) (λ_ h=>h) N⟩
def Et:D->Bool
 |.val _|.any|.abool _ _=>true
 |.agg cs=>flatL cs
 |.tup cs=>flatL cs
 |.iface _ d=>Et d
 |_=>false
where flatL:List D->Bool
 |[]=>true
 |d::r=>Et d&&flatL r
def PK:∀ {l:List D},Et.flatL l=true->∀i,i<l.length->Et (nd l i)=true
 |d::r,h,0,_=>by simp only[Et.flatL,A2i] at h;exact h.1
 |d::r,h,i+1,hi=>by simp only[Et.flatL,A2i] at h;exact PK h.2 i (by simpa using hi)
def Rep.flat{w w':World}{d:D}(h:Rep w I mu d v)(hf:Et d=true):Rep w' J mu' d v:=by
 induction h with
 |any v=>exact .any v
 |val v ok=>exact .val v ok
 |agg cs us hl _ C=>exact .agg cs us hl λi hi=>C i hi (PK (by simpa[Et] using hf) i hi)
 |tup cs us hl _ C=>exact .tup cs us hl λi hi=>C i hi (PK (by simpa[Et] using hf) i hi)
 |iface t d v _ C=>exact .iface t d v (C (by simpa[Et] using hf))
 |abool n pos b h=>exact .abool n pos b h
 |_=>simp [Et] at hf
def G6(hp:Nat->Option Blk):D->D
 |.sref b i len cap sz=>match hp b with
  |some (.rows es _)=>.slice ((es.drop i).take len) false
  |_=>.sref b i len cap sz
 |.gref b len=>match hp b with
  |some (.grow es _)=>.slice es false
  |_=>.gref b len
 |.ref b i off sz=>match hp b with
  |some (.rows es _)=>.ptr (nr es i) off
  |_=>.ref b i off sz
 |d=>d
def HY(hp:Nat->Option Blk):D->Prop
 |.sref b i len cap sz=>match hp b with
  |some (.rows es sz')=>sz=sz'/\i+len<=es.length/\len<=cap/\cap<=9223372036854775807/\Aa es=true
  |_=>False
 |.gref b len=>match hp b with
  |some (.grow es _)=>len=es.length/\Aa es=true
  |_=>False
 |.ref b i _ sz=>match hp b with
  |some (.rows es sz')=>sz=sz'/\i<es.length
  |_=>False
 |_=>True
def Fk(hp:Nat->Option Blk):List D->Prop
 |[]=>True
 |d::r=>HY hp d/\Fk hp r
def G5{hp:Nat->Option Blk}:∀ {l:List D},Fk hp l->∀d ∈ l,HY hp d
 |d::r,h,x,hx=>by
  rcases A2s.1 hx with rfl|hx
  ·exact h.1
  ·exact G5 h.2 x hx
def Yd:D->List Nat
 |.sref b _ _ _ _=>[b]
 |.gref b _=>[b]
 |.ref b _ _ _=>[b]
 |_=>[]
def Fd:List D->List Nat
 |[]=>[]
 |d::r=>Yd d++Fd r
def Hd:∀ {l:List D},∀d ∈ l,∀b ∈ Yd d,b ∈ Fd l
 |d::r,x,hx,b,hb=>by
  simp[Fd,A2Y];rcases A2s.1 hx with rfl|hx
  ·simp_all
  ·exact .inr (Hd x hx b hb)
def Rep.bor{w:World}(hr:AA w0 M0 I0 fr I mu hp w)(M:∀k,I k->J k)(U:∀b x v k,hp b=some x->mu b=some v->Al v=some k->J k){d:D}(h:Rep w I mu d v)(N:HY hp d):Rep w J mu (G6 hp d) v:=by
 have C:=Rep.frz hr M U 1 d v h;have mono:=h.mono (w':=w) (I':=J) (mu':=mu) (λ_ _=>rfl) M (λ_ _ h=>h);cases d with
 |sref b i len cap sz=>
  simp[G6,HY] at*;cases hb:hp b with
  |none=>omega
  |some x=>
   rw[hb] at N;cases x with
   |rows es O=>
    obtain⟨h1,h2,V,Y,Z⟩:=N;simp only[Go.Ab.frz,hb] at C;rw[if_pos ⟨h1,h2,V,Y⟩,Z] at C;exact C.loose
   |_=>omega
 |gref b len=>
  simp[G6,HY] at*;cases hb:hp b with
  |none=>omega
  |some x=>
   cases x with
   |grow es O=>
    simp_all [Go.Ab.frz,if_pos]
   |_=>omega
 |ref b i off sz=>
  simp[G6,HY] at*;cases hb:hp b with
  |none=>omega
  |some x=>
   cases x with
   |rows es O=>
    simp_all [Go.Ab.frz,if_pos]
   |_=>omega
 |_=>exact mono
def NG{d:D}(hb:∀b ∈ Yd d,h b=hp b):G6 h d=G6 hp d/\(HY hp d->HY h d):=by
 cases d with
 |sref b i len cap sz=>simp_all [Yd,G6,HY,trivial]
 |gref b len=>simp_all [Yd,G6,HY,trivial]
 |ref b i off sz=>simp_all [Yd,G6,HY,trivial]
 |_=>exact ⟨rfl,λh=>h⟩
def GIn.mono{w:World}(h:GIn P w I)(M:∀k,I k->J k):GIn P w J:=λg l C=>⟨M _ (h g l C).1,(h g l C).2⟩
def N9{id:Nat}{T:TypeId}{pos:String}{af:Array Edge}{gd:Option (Nat×Bool)}{args:Array Operand}{ts:Array TypeId}{r:D}
  (ha:(args.toList.map ev).map (G6 hp)=ds) (ho:Fk hp (args.toList.map ev)) (a0:An ds=true) (hf:Et r=true) (hc:A0 P f ds r):
  AQ P ⟨dst,.call {callee:=.value (.func f),args:=args,argTypes:=ts},T,pos,af,gd⟩ id ev hp ⟨r,[],Fd (args.toList.map ev)⟩:=by
 intro w0 M0 I0 fr I mu h a w a1 C aa a2 hb K Q hK;subst ha;have a3:=Bo.args (args:=args) λy hy=>a2 y (by grind [Op.operands,Call.operands]);let J:Nat->Prop:=λk=>I k\/∃b x v,h b=some x/\mu b=some v/\Al v=some k;have O:∀k,I k->J k:=λk M=>.inl M;have hJ:∀b x v k,h b=some x->mu b=some v->Al v=some k->J k:=by grind
 have a4:∀k,J k->k<w.heap.size:=by
  rintro k (M|⟨b,x,v,h1,h2,U⟩)
  ·exact C.lt k M
  ·exact(C.loc b x v k h1 h2 U).2.2
 have a5:Bo w J mu ((args.toList.map ev).map (G6 hp)) (args.toList.map a.eval):=by
  refine⟨by simp_all,λi hi=>?_⟩;have V:i<(args.toList.map ev).length:=by simp_all
  rw[Dq V];have Y:nd (args.toList.map ev) i ∈ args.toList.map ev:=by
   grind [nd]
  obtain⟨e1,N⟩:=NG (d:=nd (args.toList.map ev) i) λb a6=>hb b (Hd _ Y b a6);rw[<-e1];exact Rep.bor C O hJ (a3.2 i V) (N (G5 ho _ Y))
 have Z:=a5.unmu (mu':=λ_=>none) a0;unfold A0 at hc;have a7:=hc.2 w J _ ((a1.at C).mono O) a4 Z.1 Z.2;have a8:(execOp a.eval ⟨dst,.call {callee:=.value (.func f),args:=args,argTypes:=ts},T,pos,af,gd⟩).run P w=.ok (.enter f (args.toList.map a.eval).toArray) w:=by
  have N:#[]++args.map a.eval++ #[]=(args.toList.map a.eval).toArray:=by grind
  exact(congrArg (λz=>(callFunc f z).run P w) N).trans (Bj hc.1 _ w)
 refine Ci a8 ?_;refine a7.mono λe w' ⟨v,I',he,hv,h1,h2,U,h4⟩=>?_;subst he;have a9:Ext I mu w I mu w':=⟨λ_ h=>h,λ_ _ h=>h,λk M=>h4.block k (C.lt k M)⟩
 exact hK v w' I mu a9 ((C.below (λ_ h=>h) (λ_ h=>.inl h) (by grind) h4).less λb hb=>hb.1) (hv.flat hf)
noncomputable section
section
variable{P:Program}{ops:Array Oper}{nx:Nat}{dst:Option Tmp}{T:TypeId}{ps:String}{af:Array Edge}{gd:Option (Nat×Bool)}{f:FuncId}{args:Array Operand}{ts:Array TypeId}{ds:List D}{r:D}{l:List Oper}{pos:Nat}{acc:List Eff}{s:St}{K:List Eff->St->Prop}
def A5.borrow(V:Fd (args.toList.map (evO P s.env.get))=bs)(hc:A0 P f ds r)(C:DO ops s gd)(M:(args.toList.map (evO P s.env.get)).map (G6 (Ak s.hp))=ds)(N:Fk (Ak s.hp) (args.toList.map (evO P s.env.get)))(O:An ds=true)(hf:Et r=true)
  (U:GoS P ops nx l (pos+1) (⟨r,[],bs⟩::acc) (s.app dst ⟨r,[],bs⟩) K):A5 P ops nx (⟨dst,.call {callee:=.value (.func f),args:=args,argTypes:=ts},T,ps,af,gd⟩::l) pos acc s K:=by
 subst V;rw[Cu] at U;rw[BA];unfold BT;refine .inl ⟨_,?_,by have:=Go.run U;unfold BT at this;exact this⟩;rcases C with rfl|⟨j,want,t,rfl,ht,C⟩
 ·exact Bz.plain rfl (N9 M N O hf hc)
 ·exact Bz.guard_true rfl ht C (N9 M N O hf hc)
end
end
def AA.sub{w:World}{M:Nat->Option Blk}(r:AA w0 M0 I0 fr I mu h w)(hs:∀b x,M b=some x->h b=some x):AA w0 M0 I0 fr I mu M w:=
 ⟨λb x C=>r.blk b x (hs b x C),λb x v k C=>r.loc b x v k (hs b x C),λb c x y v u k C N=>r.inj b c x y v u k (hs b x C) (hs c y N),r.fresh,r.lt,r.os,r.tape,r.output,r.grown,r.old,r.iold,r.inew,r.keep,λb x C=>r.used b x (hs b x C)⟩
theorem JO{b:Nat}:∀(bs:List Nat) (x:Option Blk),AZ b x (bs.map λc=>(c,none))=if b ∈ bs then none else x
 |[],x=>by simp[AZ]
 |c::bs,x=>by
  have:=JO (b:=b) bs (if c=b then none else x);simp[AZ,A2m,A2Q] at this|-;rw[this];by_cases h:c=b
  ·subst h;simp
  ·simp[h,show ¬b=c from λe=>h e.symm]
def RF{id:Nat}{T:TypeId}{pos:String}{af:Array Edge}{gd:Option (Nat×Bool)}{args:Array Operand}{ts:Array TypeId}{r:D}
  (ha:(args.toList.map ev).map (G6 hp)=ds) (ho:Fk hp (args.toList.map ev)) (a9:An ds=true) (hc:A0 P f ds r):
  AQ P ⟨dst,.call {callee:=.value (.func f),args:=args,argTypes:=ts},T,pos,af,gd⟩ id ev hp ⟨r,(Fd (args.toList.map ev)).map λc=>(c,none),Fd (args.toList.map ev)⟩:=by
 intro w0 M0 I0 fr I mu h a w aa C al ab hb K Q hK;subst ha;have ac:=Bo.args (args:=args) λy hy=>ab y (by grind [Op.operands,Call.operands]);generalize ad:Fd (args.toList.map ev)=bs at*;let O:Nat->Option Blk:=λb=>if b ∈ bs then h b else none
 have a2:∀b x,O b=some x->h b=some x/\b ∈ bs:=by
  grind
 have a1:AA w0 M0 I0 fr I mu O w:=C.sub λb x N=>(a2 b x N).1;let J:Nat->Prop:=λk=>I k\/∃b x v,O b=some x/\mu b=some v/\Al v=some k;have a3:∀k,I k->J k:=λk M=>.inl M;have hJ:∀b x v k,O b=some x->mu b=some v->Al v=some k->J k:=λb x v k h1 h2 U=>.inr ⟨b,x,v,h1,h2,U⟩;have ae:∀k,J k->k<w.heap.size:=by
  rintro k (M|⟨b,x,v,h1,h2,U⟩)
  ·exact C.lt k M
  ·exact(a1.loc b x v k h1 h2 U).2.2
 have ah:Bo w J mu ((args.toList.map ev).map (G6 hp)) (args.toList.map a.eval):=by
  refine⟨by simp_all,λi hi=>?_⟩;have a4:i<(args.toList.map ev).length:=by simp_all
  rw[Dq a4];have a5:nd (args.toList.map ev) i ∈ args.toList.map ev:=by
   grind [nd]
  obtain⟨e1,e2⟩:=NG (h:=O) (hp:=hp) (d:=nd (args.toList.map ev) i) λb V=>by
   have hm:b ∈ bs:=by rw[<-ad];exact Hd _ a5 b V
   grind
  rw[<-e1];exact Rep.bor a1 a3 hJ (ac.2 i a4) (e2 (G5 ho _ a5))
 have a6:=ah.unmu (mu':=λ_=>none) a9;unfold A0 at hc;have ai:=hc.2 w J _ ((aa.at C).mono a3) ae a6.1 a6.2;have aj:(execOp a.eval ⟨dst,.call {callee:=.value (.func f),args:=args,argTypes:=ts},T,pos,af,gd⟩).run P w=.ok (.enter f (args.toList.map a.eval).toArray) w:=by
  have e1:args.map a.eval=(args.toList.map a.eval).toArray:=by grind
  simp only[execOp,resolve,Act.eval,Deferred.ofValue,A2o,A2u,Result.andThen,invoke];have e2:#[]++args.map a.eval++ #[]=(args.toList.map a.eval).toArray:=by grind
  exact(congrArg (λz=>(callFunc f z).run P w) e2).trans (Bj hc.1 _ w)
 refine Ci aj ?_;refine ai.mono λe w' ⟨v,I',he,hv,h1,h2,U,Y⟩=>?_;subst he;have a7:∀k,k<w.heap.size->w'.heap[k]? =w.heap[k]?:=λk M=>Y.block k M;have a8:∀k,I k->I' k:=by grind
 have a0:Ext I mu w I' mu w':=⟨a8,λ_ _ h=>h,(by grind)⟩
 have Z:∀b x,AZ b (h b) (bs.map λc=>(c,none))=some x->h b=some x/\b ∉ bs:=by
  grind [JO]
 refine hK v w' I' mu a0 ⟨λb x N=>?_,λb x u k N hu M=>?_,λb c x y u u' k N hy=>C.inj b c x y u u' k (Z b x N).1 (Z c y hy).1,λb V=>C.fresh b V.1,U,Y.os.trans C.os,Y.tape.trans C.tape,Y.output.trans C.output,A2N C.grown Y.size,λk M ak=>(a7 k (by have:=C.grown;omega)).trans (C.old k M ak),λk M=>a8 k (C.iold k M),λk M=>?_,C.keep,λb x N V=>C.used b x (Z b x N).1 V.1⟩ (hv.mono (λ_ _=>rfl) (λ_ h=>h) (λ_ _ h=>by cases h))
 ·obtain⟨g1,g2⟩:=Z b x N;exact(C.blk b x g1).mono a0.w a0.i a0.m λu k hu M=>a7 k (C.loc b x u k g1 hu M).2.2
 ·obtain⟨g1,g2⟩:=Z b x N;have g3:=C.loc b x u k g1 hu M;refine⟨g3.1,λhI=>?_,(by grind)⟩;rcases h2 k hI with(h5|⟨c,y,v',q1,q2,q3⟩)|h5
  ·grind
  ·have:=C.inj b c x y u v' k g1 (a2 c y q1).1 hu q2 M q3;grind
  ·omega
 ·rcases h2 k M with(h5|⟨c,y,v',q1,q2,q3⟩)|h5
  ·exact C.inew k h5
  ·exact .inr (a1.loc c y v' k q1 q2 q3).1
  ·exact .inr (.inr (A2N C.grown h5))
noncomputable section
section
variable{P:Program}{ops:Array Oper}{nx:Nat}{dst:Option Tmp}{T:TypeId}{ps:String}{af:Array Edge}{gd:Option (Nat×Bool)}{f:FuncId}{args:Array Operand}{ts:Array TypeId}{ds:List D}{r:D}{l:List Oper}{pos:Nat}{acc:List Eff}{s:St}{K:List Eff->St->Prop}
def A5.give(V:Fd (args.toList.map (evO P s.env.get))=bs)(hc:A0 P f ds r)(C:DO ops s gd)(M:(args.toList.map (evO P s.env.get)).map (G6 (Ak s.hp))=ds)(N:Fk (Ak s.hp) (args.toList.map (evO P s.env.get)))(O:An ds=true)
  (U:GoS P ops nx l (pos+1) (⟨r,bs.map λc=>(c,none),bs⟩::acc) (s.app dst ⟨r,bs.map λc=>(c,none),bs⟩) K):A5 P ops nx (⟨dst,.call {callee:=.value (.func f),args:=args,argTypes:=ts},T,ps,af,gd⟩::l) pos acc s K:=by
 subst V;rw[Cu] at U;rw[BA];unfold BT;refine .inl ⟨_,?_,by have:=Go.run U;unfold BT at this;exact this⟩;rcases C with rfl|⟨j,want,t,rfl,ht,C⟩
 ·exact Bz.plain rfl (RF M N O hc)
 ·exact Bz.guard_true rfl ht C (RF M N O hc)
end
end
def does_borrowV{id:Nat}{T:TypeId}{pos:String}{af:Array Edge}{gd:Option (Nat×Bool)}{x:Operand}{args:Array Operand}{ts:Array TypeId}{r:D}
  (hx:ev x=.func (.func f) [] []) (ha:(args.toList.map ev).map (G6 hp)=ds) (ho:Fk hp (args.toList.map ev)) (a3:An ds=true) (hf:Et r=true) (hc:A0 P f ds r):
  AQ P ⟨dst,.call {callee:=.value x,args:=args,argTypes:=ts},T,pos,af,gd⟩ id ev hp ⟨r,[],Fd (args.toList.map ev)⟩:=by
 intro w0 M0 I0 fr I mu h a w a4 C ac V hb K Q hK;subst ha;have N:a.eval x=.func (.func f) #[] #[]:=by
  have O:=V x (by simp[Op.operands,Call.operands]);rw[hx] at O;generalize a.eval x=fv at O;cases O with
  |func _ _ _ us vs hl M h1 h2=>simp_all
 have a5:=Bo.args (args:=args) λy hy=>V y (by grind [Op.operands,Call.operands]);let J:Nat->Prop:=λk=>I k\/∃b x v,h b=some x/\mu b=some v/\Al v=some k;have Y:∀k,I k->J k:=λk M=>.inl M;have hJ:∀b x v k,h b=some x->mu b=some v->Al v=some k->J k:=by grind
 have a6:∀k,J k->k<w.heap.size:=by
  rintro k (M|⟨b,x,v,h1,h2,Z⟩)
  ·exact C.lt k M
  ·exact(C.loc b x v k h1 h2 Z).2.2
 have a7:Bo w J mu ((args.toList.map ev).map (G6 hp)) (args.toList.map a.eval):=by
  refine⟨by simp_all,λi hi=>?_⟩;have a0:i<(args.toList.map ev).length:=by simp_all
  rw[Dq a0];have a1:nd (args.toList.map ev) i ∈ args.toList.map ev:=by
   grind [nd]
  obtain⟨e1,U⟩:=NG (d:=nd (args.toList.map ev) i) λb a8=>hb b (Hd _ a1 b a8);rw[<-e1];exact Rep.bor C Y hJ (a5.2 i a0) (U (G5 ho _ a1))
 have a2:=a7.unmu (mu':=λ_=>none) a3;unfold A0 at hc;have a9:=hc.2 w J _ ((a4.at C).mono Y) a6 a2.1 a2.2;have aa:(execOp a.eval ⟨dst,.call {callee:=.value x,args:=args,argTypes:=ts},T,pos,af,gd⟩).run P w=.ok (.enter f (args.toList.map a.eval).toArray) w:=by
  simp only[execOp,resolve,N,Deferred.ofValue,A2o,A2u,Result.andThen,invoke];have U:#[]++args.map a.eval++ #[]=(args.toList.map a.eval).toArray:=by grind
  exact(congrArg (λz=>(callFunc f z).run P w) U).trans (Bj hc.1 _ w)
 refine Ci aa ?_;refine a9.mono λe w' ⟨v,I',N,hv,h1,h2,Z,h4⟩=>?_;subst N;have ab:Ext I mu w I mu w':=⟨λ_ h=>h,λ_ _ h=>h,λk M=>h4.block k (C.lt k M)⟩
 exact hK v w' I mu ab ((C.below (λ_ h=>h) (λ_ h=>.inl h) (by grind) h4).less λb hb=>hb.1) (hv.flat hf)
def Q1{id:Nat}{T:TypeId}{pos:String}{af:Array Edge}{gd:Option (Nat×Bool)}{x:Operand}{args:Array Operand}{ts:Array TypeId}{r:D}
  (N:ev x=.func (.func f) [] []) (ha:(args.toList.map ev).map (G6 hp)=ds) (ho:Fk hp (args.toList.map ev)) (aa:An ds=true) (hc:A0 P f ds r):
  AQ P ⟨dst,.call {callee:=.value x,args:=args,argTypes:=ts},T,pos,af,gd⟩ id ev hp ⟨r,(Fd (args.toList.map ev)).map λc=>(c,none),Fd (args.toList.map ev)⟩:=by
 intro w0 M0 I0 fr I mu h a w ab C am a4 hb K Q hK;subst ha;have he:a.eval x=.func (.func f) #[] #[]:=by
  have a1:=a4 x (by simp[Op.operands,Call.operands]);rw[N] at a1;generalize a.eval x=fv at a1;cases a1 with
  |func _ _ _ us vs hl M h1 h2=>simp_all
 have ac:=Bo.args (args:=args) λy hy=>a4 y (by grind [Op.operands,Call.operands]);generalize ad:Fd (args.toList.map ev)=bs at*;let O:Nat->Option Blk:=λb=>if b ∈ bs then h b else none
 have ae:∀b x,O b=some x->h b=some x/\b ∈ bs:=by
  grind
 have a2:AA w0 M0 I0 fr I mu O w:=C.sub (by simp_all);let J:Nat->Prop:=λk=>I k\/∃b x v,O b=some x/\mu b=some v/\Al v=some k;have a3:∀k,I k->J k:=λk M=>.inl M;have hJ:∀b x v k,O b=some x->mu b=some v->Al v=some k->J k:=by grind
 have ah:∀k,J k->k<w.heap.size:=by
  rintro k (M|⟨b,x,v,h1,h2,h3⟩)
  ·exact C.lt k M
  ·exact(a2.loc b x v k h1 h2 h3).2.2
 have ai:Bo w J mu ((args.toList.map ev).map (G6 hp)) (args.toList.map a.eval):=by
  refine⟨by simp_all,λi hi=>?_⟩;have a5:i<(args.toList.map ev).length:=by simp_all
  rw[Dq a5];have a6:nd (args.toList.map ev) i ∈ args.toList.map ev:=by
   grind [nd]
  obtain⟨e1,e2⟩:=NG (h:=O) (hp:=hp) (d:=nd (args.toList.map ev) i) λb U=>by
   have hm:b ∈ bs:=by rw[<-ad];exact Hd _ a6 b U
   grind
  rw[<-e1];exact Rep.bor a2 a3 hJ (ac.2 i a5) (e2 (G5 ho _ a6))
 have a7:=ai.unmu (mu':=λ_=>none) aa;unfold A0 at hc;have aj:=hc.2 w J _ ((ab.at C).mono a3) ah a7.1 a7.2;have ak:(execOp a.eval ⟨dst,.call {callee:=.value x,args:=args,argTypes:=ts},T,pos,af,gd⟩).run P w=.ok (.enter f (args.toList.map a.eval).toArray) w:=by
  have e1:args.map a.eval=(args.toList.map a.eval).toArray:=by grind
  simp only[execOp,resolve,he,Deferred.ofValue,A2o,A2u,Result.andThen,invoke];have e2:#[]++args.map a.eval++ #[]=(args.toList.map a.eval).toArray:=by grind
  exact(congrArg (λz=>(callFunc f z).run P w) e2).trans (Bj hc.1 _ w)
 refine Ci ak ?_;refine aj.mono λe w' ⟨v,I',he,hv,h1,h2,h3,V⟩=>?_;subst he;have a8:∀k,k<w.heap.size->w'.heap[k]? =w.heap[k]?:=λk M=>V.block k M;have a9:∀k,I k->I' k:=λk M=>h1 k (a3 k M);have a0:Ext I mu w I' mu w':=⟨a9,λ_ _ h=>h,(by grind)⟩
 have Y:∀b x,AZ b (h b) (bs.map λc=>(c,none))=some x->h b=some x/\b ∉ bs:=by
  grind [JO]
 refine hK v w' I' mu a0 ⟨λb x N=>?_,λb x u k N hu M=>?_,λb c x y u u' k N hy=>C.inj b c x y u u' k (Y b x N).1 (Y c y hy).1,λb U=>C.fresh b U.1,h3,V.os.trans C.os,V.tape.trans C.tape,V.output.trans C.output,A2N C.grown V.size,λk M al=>(a8 k (by have:=C.grown;omega)).trans (C.old k M al),λk M=>a9 k (C.iold k M),λk M=>?_,C.keep,λb x N U=>C.used b x (Y b x N).1 U.1⟩ (hv.mono (λ_ _=>rfl) (λ_ h=>h) (λ_ _ h=>by cases h))
 ·obtain⟨Z,g2⟩:=Y b x N;exact(C.blk b x Z).mono a0.w a0.i a0.m λu k hu M=>a8 k (C.loc b x u k Z hu M).2.2
 ·obtain⟨Z,g2⟩:=Y b x N;have g3:=C.loc b x u k Z hu M;refine⟨g3.1,λhI=>?_,(by grind)⟩;rcases h2 k hI with(h5|⟨c,y,v',q1,q2,q3⟩)|h5
  ·grind
  ·have:=C.inj b c x y u v' k Z (ae c y q1).1 hu q2 M q3;grind
  ·omega
 ·rcases h2 k M with(h5|⟨c,y,v',q1,q2,q3⟩)|h5
  ·exact C.inew k h5
  ·exact .inr (a2.loc c y v' k q1 q2 q3).1
  ·exact .inr (.inr (A2N C.grown h5))
noncomputable section
section
variable{P:Program}{ops:Array Oper}{nx:Nat}{dst:Option Tmp}{T:TypeId}{ps:String}{af:Array Edge}{gd:Option (Nat×Bool)}{f:FuncId}{args:Array Operand}{ts:Array TypeId}{ds:List D}{r:D}{l:List Oper}{pos:Nat}{acc:List Eff}{s:St}{K:List Eff->St->Prop}
def A5.giveV{x:Operand}(M:evO P s.env.get x=.func (.func f) [] [])(Y:Fd (args.toList.map (evO P s.env.get))=bs)(hc:A0 P f ds r)(C:DO ops s gd)(N:(args.toList.map (evO P s.env.get)).map (G6 (Ak s.hp))=ds)(O:Fk (Ak s.hp) (args.toList.map (evO P s.env.get)))(U:An ds=true)
  (V:GoS P ops nx l (pos+1) (⟨r,bs.map λc=>(c,none),bs⟩::acc) (s.app dst ⟨r,bs.map λc=>(c,none),bs⟩) K):A5 P ops nx (⟨dst,.call {callee:=.value x,args:=args,argTypes:=ts},T,ps,af,gd⟩::l) pos acc s K:=by
 subst Y;rw[Cu] at V;rw[BA];unfold BT;refine .inl ⟨_,?_,by have:=Go.run V;unfold BT at this;exact this⟩;rcases C with rfl|⟨j,want,t,rfl,ht,C⟩
 ·exact Bz.plain rfl (Q1 M N O U hc)
 ·exact Bz.guard_true rfl ht C (Q1 M N O U hc)
end
end
def Povl(P:Program)(f:FuncId):Prop:=
 ∀(w:World) (a b:Addr) (la ca lb cb:Nat) (tA tB:TypeId) (kA kB:Nat),a.block≠b.block->w.shape? a.block=some (tA,kA)->w.frozen? a=false->w.frozen? {block:=a.block,off:=kA}=false->w.shape? b.block=some (tB,kB)->kB≠0->
  (callFunc f #[.slice (some a) la ca,.slice (some b) lb cb]).run P w=.ok (.value (.bool false)) w
def Povl.of{k:FuncId}{fn:Func}{tS tR e:TypeId}{size:Nat}(hf:P.funcs[k]? =some fn)(hn:(fn.name== "runtime.NumGoroutine")=false)(hb:fn.body.isNone=true)(h1:Extern.findNext fn=none)
  (h2:Extern.find fn=some (Extern.SlicesOverlaps.overlaps #[tS,tS] #[tR])) (ht:P.underlying tS=some (.slice e)) (C:∀w,(Go.sizeOf e).run P w=.ok size w):Povl P k:=by
 intro w a b M N lb O U V Y kB Z h3 h4 h5 h6 h7;have g1:=Lib.run_overlaps_apart w tS tR e ht size C a b M N lb O Z U V Y kB h3 h6 h7 h4 h5;have a0:fn.name≠ "runtime.NumGoroutine":=by simp_all
 have a1:fn.body=none:=by simp_all
 simp[callFunc,hf,a0,a1,h1,h2,g1,Result.andThen]
def VE{id:Nat}{T:TypeId}{pos:String}{af:Array Edge}{gd:Option (Nat×Bool)}{x y:Operand}{ts:Array TypeId}{b1 i1 l1 c1 s1 b2 i2 l2 c2 s2 z1 z2:Nat}{es1 es2:LLa}
  (hc:Povl P f) (hx:ev x=.sref b1 i1 l1 c1 s1) (hy:ev y=.sref b2 i2 l2 c2 s2) (h1:hp b1=some (.rows es1 z1)) (h2:hp b2=some (.rows es2 z2)) (a0:b1≠b2) (h0:0<es2.length*z2):
  AQ P ⟨dst,.call {callee:=.value (.func f),args:=#[x,y],argTypes:=ts},T,pos,af,gd⟩ id ev hp ⟨.val (.bool false),[],[b1,b2]⟩:=by
 refine AQ.quiet λw0 M0 I0 fr I mu hh a w C V hb=>⟨.bool false,?_,.val _ trivial⟩
 have M:=V x (by simp[Op.operands,Call.operands]);have N:=V y (by simp[Op.operands,Call.operands]);rw[hx] at M;rw[hy] at N;have Y:=(hb b1 (by simp)).trans h1;have Z:=(hb b2 (by simp)).trans h2;obtain⟨O,T1,a1,m1,U,q1,_,_⟩:=C.blk b1 _ Y;obtain⟨k2,T2,a2,m2,g2,q2,_,_⟩:=C.blk b2 _ Z;have hk:O≠k2:=λe=>a0 (C.inj b1 b2 _ _ _ _ O Y Z m1 m2 rfl (by rw[e];rfl));generalize a3:a.eval x=vx at M;generalize a4:a.eval y=vy at N;cases M with
 |sref _ _ _ _ _ j1 n1=>
 cases N with
 |sref _ _ _ _ _ j2 n2=>
 rw[m1] at n1;rw[m2] at n2;simp at n1 n2;have hr:=hc w ⟨O,i1*s1,none⟩ ⟨k2,i2*s2,none⟩ l1 c1 l2 c2 T1 T2 a1.length a2.length hk (by simp[World.shape?,U]) (by simp[World.frozen?,U]) (by simp[World.frozen?,U]) (by simp[World.shape?,g2]) (by omega);simp only[execOp,resolve,Act.eval,Deferred.ofValue,A2o,A2u,Result.andThen,invoke];simp_all
noncomputable section
section
variable{P:Program}{ops:Array Oper}{nx:Nat}{dst:Option Tmp}{T:TypeId}{ps:String}{af:Array Edge}{gd:Option (Nat×Bool)}{f:FuncId}{x y:Operand}{ts:Array TypeId}{l:List Oper}{pos:Nat}{acc:List Eff}{s:St}{K:List Eff->St->Prop}{b1 i1 l1 c1 s1 b2 i2 l2 c2 s2 z1 z2:Nat}{es1 es2:LLa}
def A5.ovl(hc:Povl P f)(C:DO ops s gd)(M:evO P s.env.get x=.sref b1 i1 l1 c1 s1)(N:evO P s.env.get y=.sref b2 i2 l2 c2 s2)(h1:Ak s.hp b1=some (.rows es1 z1))(h2:Ak s.hp b2=some (.rows es2 z2))(O:b1≠b2)(h0:0<es2.length*z2)
  (U:GoS P ops nx l (pos+1) (⟨.val (.bool false),[],[b1,b2]⟩::acc) (s.app dst ⟨.val (.bool false),[],[b1,b2]⟩) K):A5 P ops nx (⟨dst,.call {callee:=.value (.func f),args:=#[x,y],argTypes:=ts},T,ps,af,gd⟩::l) pos acc s K:=by
 rw[Cu] at U;rw[BA];unfold BT;refine .inl ⟨_,?_,by have:=Go.run U;unfold BT at this;exact this⟩;rcases C with rfl|⟨j,want,t,rfl,ht,C⟩
 ·exact Bz.plain rfl (VE hc M N h1 h2 O h0)
 ·exact Bz.guard_true rfl ht C (VE hc M N h1 h2 O h0)
end
end
end Go.Ab
namespace Go.Ab
open Go.RowKit
open Go.ChangeMaps (setBlock)
section
variable{w0:World}{M0:Nat->Prop}{I0:Gh}{fr I:Nat->Prop}{mu:Nat->Option Value}{hp:Nat->Option Blk}{w:World}
def AA.drew(h:AA w0 M0 I0 fr I mu hp w):AA w0 M0 I0 fr I mu hp w.drew:=
 ⟨λb x hb=>(h.blk b x hb).mono (λ_ _=>rfl) (λ_ h=>h) (λ_ _ h=>h) (λ_ _ _ _=>rfl),h.loc,h.inj,h.fresh,h.lt,h.os,h.tape,h.output,h.grown,h.old,h.iold,h.inew,h.keep,h.used⟩
def AA.setObj(h:AA w0 M0 I0 fr I mu hp w){b k:Nat}{O x:Blk}(hb:hp b=some O)(hm:mu b=some (.pointer (some ⟨k,0,none⟩)))(o:Obj)(hx:(setBlock w k o).heap[k]? =some o->(∀j,j≠k->(setBlock w k o).heap[j]? =w.heap[j]?)->DQ (setBlock w k o) I mu b x):
  AA w0 M0 I0 fr I mu (λc=>AZ c (hp c) [(b,some x)]) (setBlock w k o)/\Ext I mu w I mu (setBlock w k o):=by
 obtain⟨a4,a5,a0⟩:=h.loc b O _ k hb hm rfl;have Z:∀j,j≠k->(setBlock w k o).heap[j]? =w.heap[j]?:=λj M=>by
  simp[setBlock,Array.getElem?_setIfInBounds,Ne.symm M]
 have a6:(setBlock w k o).heap[k]? =some o:=by simp[setBlock,a0]
 have V:(setBlock w k o).heap.size=w.heap.size:=by simp[setBlock]
 have hI:∀j,I j->(setBlock w k o).heap[j]? =w.heap[j]?:=by grind
 have U:∀c,AZ c (hp c) [(b,some x)]=if c=b then some x else hp c:=by
  grind [AZ]
 refine⟨⟨λc y C=>?_,λc y v j C N M=>?_,λc d y z v u j C hz N hu M a1=>?_,h.fresh,λj M=>by rw[V];exact h.lt j M,h.os,h.tape,h.output,by rw[V];exact h.grown,λj M hn=>?_,h.iold,h.inew,h.keep,λc y C hf=>?_⟩,λ_ h=>h,λ_ _ h=>h,hI⟩
 ·rw[U] at C;by_cases hc:c=b
  ·simp_all
  ·rw[if_neg hc] at C;refine(h.blk c y C).mono hI (λ_ h=>h) (λ_ _ h=>h) λv j N M=>Z j ?_;rintro rfl;exact hc (h.inj c b y O v _ j C hb N hm M rfl)
 ·rw[U] at C;rw[V];by_cases hc:c=b
  ·subst hc;exact h.loc c O v j hb N M
  ·rw[if_neg hc] at C;exact h.loc c y v j C N M
 ·rw[U] at C hz;have g:∀c y,(if c=b then some x else hp c)=some y->∃Y,hp c=some Y:=by grind
  obtain⟨Y,a2⟩:=g c y C;obtain⟨z',a3⟩:=g d z hz;exact h.inj c d Y z' v u j a2 a3 N hu M a1
 ·rw[Z j ?_]
  ·exact h.old j M hn
  grind
 ·rw[U] at C;by_cases hc:c=b
  ·subst hc;exact h.used c O hb hf
  ·rw[if_neg hc] at C;exact h.used c y C hf
end
section
variable{P:Program}{ops:Array Oper}{nx:Nat}{dst:Option Tmp}{T:TypeId}{ps:String}{af:Array Edge}{x:Operand}{l:List Oper}{pos:Nat}{acc:List Eff}{s:St}{K:List Eff->St->Prop}
def nextF(b m:Nat)(es:List (Value×Nat×D))(ck:Nat)(seen:List Nat)(e:Eff):Prop:=
 ((∀y ∈ es,y.2.1 ∈ seen)/\e=⟨.tup [.val (.bool false)],[],[]⟩)\/∃y ∈ es,y.2.1 ∉ seen/\e=⟨.tup [.val (.bool true),.any,.any],[(b,some (.iter m ck (seen++[y.2.1]) ck))],[]⟩
def nextF_ex(b m:Nat)(es:List (Value×Nat×D))(ck:Nat)(seen:List Nat):∃e,nextF b m es ck seen e:=by
 by_cases h:∀y ∈ es,y.2.1 ∈ seen
 ·exact⟨_,.inl ⟨h,rfl⟩⟩
 ·have:∃y ∈ es,y.2.1 ∉ seen:=by simp_all
  obtain⟨y,h1,h2⟩:=this;exact⟨_,.inr ⟨y,h1,h2,rfl⟩⟩
def A1h{id b m:Nat}{ev:Operand->D}{hp:Nat->Option Blk}{es:List (Value×Nat×D)}{ck:Nat}{seen:List Nat}(hx:ev x=.ref b 0 0 1)(hb:hp b=some (.iter m ck seen ck))(hm:hp m=some (.map es ck))(hlt:∀y ∈ es,y.2.1<ck):
  S2 P ⟨dst,.next x false,T,ps,af,none⟩ id ev hp [b,m] (nextF b m es ck seen):=by
 intro w0 M0 I0 fr I mu h a w a9 C aa a2 N K Q hK;have O:=a2 x (by simp[Op.operands]);rw[hx] at O;obtain⟨k,U,h1,h2,h3⟩:=C.blk b _ ((N b (by simp)).trans hb);obtain⟨ab,l,V,g2,g3,g4,g5⟩:=C.blk m _ ((N m (by simp)).trans hm);rw[h2] at V;simp at V;subst V;generalize he:a.eval x=v at O;cases O with
 |ref _ _ _ _ k' hk=>
 rw[h1] at hk;simp at hk;have a3:∀e ∈ l,∃y ∈ es,y.2.1=e.born:=λe M=>by
  have:e.born ∈ es.map (·.2.1):=by grind
  simp_all
 have a4:∀e ∈ l.toArray.toList,e.born<ck:=λe M=>by
  grind
 have a0:∀r w',(Instr.next (.pointer (some ⟨k,0*1+0,none⟩)) false T).run P w=.ok r w'->(execOp a.eval ⟨dst,.next x false,T,ps,af,none⟩).run P w=.ok (.value r) w':=by
  grind [execOp,Sem.run_bind,Sem.run_map,Sem.run_pure,Result.andThen]
 rcases run_next_at w T k U ck ck seen.toArray l.toArray ck h3 g2 a4 (A2e _) with⟨h0,Y⟩|⟨e,M,w1,a1,Y⟩
 ·have a5:∀y ∈ es,y.2.1 ∈ seen:=λy hy=>by
   have:y.2.1 ∈ l.map (·.born):=by grind
   obtain⟨e,M,h⟩:=A2p.1 this;have:=all_seen l.toArray seen.toArray h0 e (by omega);grind
  refine CT (a0 _ _ Y) (hK _ (.inl ⟨a5,rfl⟩) _ w I mu (Ext.refl _ _ _) (C.less λb hb=>hb.1) ?_);refine .tup _ [.bool false] rfl λi hi=>?_
  match i,hi with
  |0,_=>exact .val _ trivial
 ·have a6:=mem_left M;obtain⟨ac,ad⟩:=a6;obtain⟨y,hy,ae⟩:=a3 e (by omega);have a7:AA w0 M0 I0 fr I mu h w1:=by rcases a1 with rfl|rfl;exact C;exact C.drew
  have a8:Ext I mu w I mu w1:=by rcases a1 with rfl|rfl<;>exact ⟨λ_ h=>h,λ_ _ h=>h,λ_ _=>rfl⟩
  obtain⟨q1,Z⟩:=a7.setObj (x:=.iter m ck (seen++[y.2.1]) ck) ((N b (by simp)).trans hb) h1 (.mapIter (some U) ck (seen.toArray.push e.born) ck) λhs _=>⟨k,U,h1,h2,by grind⟩
  refine CT (a0 _ _ Y) (hK _ (.inr ⟨y,hy,by simp_all,rfl⟩) _ _ I mu ⟨Z.i,Z.m,λj hj=>(Z.w j hj).trans (a8.w j hj)⟩ (q1.less λb hb=>hb.1) ?_);refine .tup _ [.bool true,e.key,e.val] rfl λi hi=>?_
  match i,hi with
  |0,_=>exact .val _ trivial
  |1,_=>exact .any _
  |2,_=>exact .any _
def A5.next(b m:Nat){es:List (Value×Nat×D)}{ck:Nat}{seen:List Nat}(C:evO P s.env.get x=.ref b 0 0 1)(hb:Ak s.hp b=some (.iter m ck seen ck))(hm:Ak s.hp m=some (.map es ck))(hlt:∀y ∈ es,y.2.1<ck)
  (h0:(∀y ∈ es,y.2.1 ∈ seen)->GoS P ops nx l (pos+1) (bad::acc) (s.app dst ⟨.tup [.val (.bool false)],[],[]⟩) K)
  (h1:∀y ∈ es,y.2.1 ∉ seen->GoS P ops nx l (pos+1) (bad::acc) (s.app dst ⟨.tup [.val (.bool true),.any,.any],[(b,some (.iter m ck (seen++[y.2.1]) ck))],[]⟩) K):A5 P ops nx (⟨dst,.next x false,T,ps,af,none⟩::l) pos acc s K:=
 A5.many _ _ (nextF_ex b m es ck seen) (A1h C hb hm hlt) λe M=>by
  rcases M with⟨h,rfl⟩|⟨y,N,hn,rfl⟩
  ·exact h0 h
  ·exact h1 y N hn
def XM{id b:Nat}{ev:Operand->D}{hp:Nat->Option Blk}(O:ev x=.ref b 0 0 1)(hb:hp b=some (.obj (.mapIter none 0 #[] 0))):
  S2 P ⟨dst,.next x false,T,ps,af,none⟩ id ev hp [b] (λe=>e=⟨.tup [.val (.bool false)],[],[]⟩):=by
 intro w0 M0 I0 fr I mu h a w a1 N a2 U V K Q Y;have C:=U x (by simp[Op.operands]);rw[O] at C;obtain⟨k,h1,h2⟩:=N.blk b _ ((V b (by simp)).trans hb);generalize Z:a.eval x=v at C;cases C with
 |ref _ _ _ _ k' M=>
 rw[h1] at M;simp at M;subst M;have a0:(execOp a.eval ⟨dst,.next x false,T,ps,af,none⟩).run P w=.ok (.value (.tuple #[.bool false])) w:=by
  simp[execOp,Z,A2o,Nat.zero_mul,Nat.add_zero];simp[Instr.next,getObj,Sem.run,h2,Result.andThen]
 refine CT a0 (Y _ rfl _ w I mu (Ext.refl _ _ _) (N.less λb hb=>hb.1) ?_);refine .tup _ [.bool false] rfl λi hi=>?_
 match i,hi with
 |0,_=>exact .val _ trivial
def A5.nextN(b:Nat)(C:evO P s.env.get x=.ref b 0 0 1)(hb:Ak s.hp b=some (.obj (.mapIter none 0 #[] 0)))
  (h0:GoS P ops nx l (pos+1) (bad::acc) (s.app dst ⟨.tup [.val (.bool false)],[],[]⟩) K):A5 P ops nx (⟨dst,.next x false,T,ps,af,none⟩::l) pos acc s K:=
 A5.many [b] (λe=>e=⟨.tup [.val (.bool false)],[],[]⟩) ⟨_,rfl⟩ (XM C hb) λe M=>by simp_all
end
end Go.Ab
