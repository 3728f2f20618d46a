/- The layer by which the program is walked, and what its functions do: part 7 of 15. -/
import Derived.Test.YtacnknlmijkobaaGreatDoorV5
import Derived.RecoverIn
set_option maxHeartbeats 4000000
set_option maxRecDepth 20000
set_option linter.unusedVariables false
set_option linter.unusedSimpArgs false
set_option linter.unnecessarySimpa false
namespace Go.Ab
open Go.RowKit
open Go.ChangeMaps (setBlock)
theorem K8(w:World)(k:Nat)(o:Obj):w.putObj k o=setBlock w k o:=rfl
theorem LB{w:World}{I:Nat->Prop}{mu:Nat->Option Value}{nt:Nat}:∀ {ps:List Nat} {ds:List D} {us:List Value} {env:Env} {tmps:Array Value},ds.length=ps.length->us.length=ps.length->(∀ t ∈ ps,t<nt)->tmps.size=nt->(∀ i,i<ds.length->Rep w I mu (nd ds i) (nv us i))->(∀ t,Rep w I mu (env.get t) (tmps.getD t undef))->
  ((ps.zip us).foldl (fun t p=>t.setIfInBounds p.1 p.2) tmps).size=nt/\∀ t,Rep w I mu (Env.get ((ps.zip ds).reverse++env) t) (((ps.zip us).foldl (fun t p=>t.setIfInBounds p.1 p.2) tmps).getD t undef)
 |[],[],[],env,tmps,_,_,_,hs,_,he=>⟨hs,fun t=>by simpa using he t⟩
 |p::ps,d::ds,u::us,env,tmps,h1,h2,h3,hs,hd,he=>by
  simp only[A0g,Nat.add_right_cancel_iff] at h1 h2
  have:=LB (env:=(p,d)::env) (tmps:=tmps.setIfInBounds p u) h1 h2 (fun t ht=>h3 t (A0p _ ht)) (by simpa using hs) (fun i hi=>by simpa[nd,nv] using hd (i+1) (by simpa using hi)) (fun t=>?_)
  ·simpa[A1E,A1i,A0b] using this
  ·simp only[Env.get]
   by_cases ht:p=t
   ·subst ht
    have hlt:p<tmps.size:=by rw[hs];exact h3 p A0B
    simp only[beq_self_eq_true,cond_true,Array.getD,Array.size_setIfInBounds,hlt,dite_true]
    simpa[nd,nv] using hd 0 (by simp)
   ·have:(p==t)=false:=by simpa using ht
    simp only[this,cond_false]
    have:=he t
    simp only[A1g,A1k ht] at this|-
    exact this
 |[],_::_,_,_,_,h,_,_,_,_,_=>by simp at h
 |[],[],_::_,_,_,_,h,_,_,_,_=>by simp at h
 |_::_,[],_,_,_,h,_,_,_,_,_=>by simp at h
 |_::_,_::_,[],_,_,_,h,_,_,_,_=>by simp at h
theorem QT(hp:Hp)(b:Nat)(x:Blk):(fun c=>AO c (Ad hp c) [(b,some x)])=Ad (upd hp b (some x)):=by
 funext c
 rw[Jz]
 simp only[AO,A0r,A0Z]
def Ep(y:Nat)(env:Env)(nt:Nat)(ps:List Nat)(a c:Code)(HS':Hp):AE->St->Prop
 |.normal,s=>Ar ⟨[],s.hp,s.nx⟩ ⟨[],(y,.loop env nt .busy none ps a c)::HS',4⟩
 |_,_=>False
def Er(P:Program)(y:Nat)(env:Env)(nt:Nat)(ps:List Nat)(a c:Code)(HS':Hp):AE->St->Prop
 |.normal,s=>Ad s.hp y=some (.loop env nt .ready none ps a c)/\AWp P nt c (Ep y env nt ps a c HS') ⟨s.env,upd s.hp y (some (.loop env nt .busy none ps a c)),s.nx⟩
 |_,_=>False
theorem DA.of_awp{P:Program}{nt y:Nat}{ds:List D}{HS HS':Hp}{env:Env}{ps:List Nat}{a c:Code}(hy:y%2=1)(hlen:ds.length=ps.length)(hps:∀ t ∈ ps,t<nt)
  (h:AWp P nt a (Er P y env nt ps a c HS') ⟨(ps.zip ds).reverse++env,(y,.loop env nt .ready none ps a c)::HS,4⟩):
  DA P y ds ((y,.loop env nt .ready none ps a c)::HS) (.val (.bool true)) ((y,.loop env nt .ready none ps a c)::HS'):=by
 unfold DA
 intro w M0 G0 I mu vs l hga hdl hmy hw hrep
 have hb0:Ad ((y,Blk.loop env nt .ready none ps a c)::HS) y=some (.loop env nt .ready none ps a c):=by simp[Ad]
 obtain⟨k,fn,tmps,kd,h1,h2,h3,h4⟩:=hw.blk y _ hb0
 rw[hmy] at h1
 simp only[A03,A0O,A16,and_true] at h1
 subst h1
 have hvl:vs.length=ps.length:=hrep.1.trans hlen
 refine⟨fn,_,a,c,run_yield h2 (by simp[hvl]),?_⟩
 have hfold:(ps.toArray.zip vs.toArray).foldl (fun tmps (t,a)=>tmps.setIfInBounds t a) tmps=(ps.zip vs).foldl (fun t p=>t.setIfInBounds p.1 p.2) tmps:=by
  rw[<-Array.foldl_toList];simp
 rw[hfold]
 obtain⟨f1,f2⟩:=LB (env:=env) (tmps:=tmps) hlen hvl hps h3 hrep.2 h4
 let G:Gh:=⟨G0.st,fun b=>if b=y then mu y else G0.nm b,[],Fence.wide.inRound l,0,.inr ⟨l,rfl⟩⟩
 have toG:∀ {fr I':Nat->Prop} {mu':Nat->Option Value} {h:Nat->Option Blk} {w':World},Ap w M0 G fr I' mu' h w'->mu' y=mu y/\Ap w M0 G0 fr I' mu' h w':=@fun fr I' mu' h w' R=>by
  have hk:mu' y=some (.pointer (some ⟨l,0,none⟩)):=R.keep y _ hy (by show(if y=y then mu y else _)=_;rw[if_pos rfl,hmy])
  refine⟨hk.trans hmy.symm,⟨R.blk,R.loc,R.inj,R.fresh,R.lt,R.os,R.tape,R.output,R.grown,R.old,R.iold,R.inew,fun b x hb hx=>?_,R.used⟩⟩
  by_cases hby:b=y
  ·subst hby;rw[hk];have:=hw.keep b x hb hx;rw[hmy] at this;exact this
  ·exact R.keep b x hb (by show(if b=y then mu y else G0.nm b)=_;rw[if_neg hby];exact hx)
 refine roundIn_of_wpIn (F:=Fence.wide) trivial (wpIn_mono (h w M0 G hga I mu _ w ⟨f1,BJ.refl _ _ _ _,f2,⟨hw.blk,hw.loc,hw.inj,hw.fresh,hw.lt,hw.os,hw.tape,hw.output,hw.grown,hw.old,hw.iold,hw.inew,fun b x hb hx=>?_,hw.used⟩⟩) ?_)
 ·have hx':(if b=y then mu y else G0.nm b)=some x:=hx
  split at hx'
  ·rename_i e;rw[e];exact hx'
  ·exact hw.keep b x hb hx'
 ·rintro e a1 w1 ⟨x,s1,I1,mu1,hq,he,r1⟩
  cases x<;>cases e<;>simp only[FK] at he<;>simp only[Er] at hq
  obtain⟨hl1,hbody⟩:=hq
  obtain⟨k1,fn1,tmps1,kd1,q1,q2,q3,q4⟩:=r1.w.blk y _ hl1
  have hm1:mu1 y=some (.pointer (some ⟨l,0,none⟩)):=(toG r1.w).1.trans hmy
  rw[hm1] at q1
  simp only[A03,A0O,A16,and_true] at q1
  subst q1
  refine⟨_,run_beginRound q2 rfl,?_⟩
  rw[K8]
  obtain⟨g1,g2⟩:=r1.w.setObj (x:=.loop env nt .busy none ps a c) hl1 hm1 (.loop {state:=.busy,pending:=none,fn:=fn1,tmps:=tmps1,params:=ps.toArray,assign:=a,body:=c,defers:=kd1})
   (fun hs ho=>⟨l,fn1,tmps1,kd1,hm1,hs,q3,fun t=>(q4 t).mono (fun k hk=>ho k (by rintro rfl;exact(r1.w.loc y _ _ k hl1 hm1 rfl).2.1 hk)) (fun _ h=>h) (fun _ _ h=>h)⟩)
  rw[show s1.fs.hp=Ad s1.hp from rfl,QT] at g1
  refine wpIn_mono (hbody w M0 G hga I1 mu1 a1 _ ⟨r1.size,r1.defers.ext g2,fun t=>(r1.env t).ext g2,g1⟩) ?_
  ·rintro e a2 w2 ⟨x,s2,I2,mu2,hq2,he2,r2⟩
   cases x<;>cases e<;>simp only[FK] at he2<;>simp only[Ep] at hq2
   obtain⟨I3,mu3,r3⟩:=hq2 w M0 G nt I2 mu2 a2 w2 ⟨r2.size,r2.defers,fun t=>by simp[St.fs,Env.get];exact .any _,r2.w⟩
   have hl3:Ad ((y,Blk.loop env nt .busy none ps a c)::HS') y=some (.loop env nt .busy none ps a c):=by simp[Ad]
   obtain⟨k3,fn3,tmps3,kd3,p1,p2,p3,p4⟩:=r3.w.blk y _ hl3
   have hm3:mu3 y=some (.pointer (some ⟨l,0,none⟩)):=(toG r3.w).1.trans hmy
   rw[hm3] at p1
   simp only[A03,A0O,A16,and_true] at p1
   subst p1
   refine⟨_,_,run_endRound none p2,?_⟩
   rw[K8]
   obtain⟨g3,g4⟩:=r3.w.setObj (x:=.loop env nt .ready none ps a c) hl3 hm3 (.loop {state:=.ready,pending:=none,fn:=fn3,tmps:=tmps3,params:=ps.toArray,assign:=a,body:=c,defers:=kd3})
    (fun hs ho=>⟨l,fn3,tmps3,kd3,hm3,hs,p3,fun t=>(p4 t).mono (fun k hk=>ho k (by rintro rfl;exact(r3.w.loc y _ _ k hl3 hm3 rfl).2.1 hk)) (fun _ h=>h) (fun _ _ h=>h)⟩)
   refine⟨_,I3,mu3,rfl,.val _ trivial,?_⟩
   have g5:=(toG g3).2
   rw[show(St.fs ⟨[],(y,Blk.loop env nt .busy none ps a c)::HS',4⟩).hp=Ad ((y,Blk.loop env nt .busy none ps a c)::HS') from rfl,QT] at g5
   refine g5.sub fun b x hx=>?_
   rw[Jz]
   simp only[Ad] at hx|-
   by_cases hb:y=b
   ·subst hb;simpa using hx
   ·have:(y==b)=false:=by simpa using hb
    simpa[this,hb] using hx
def BF(P:Program)(nt:Nat)(c:Code)(Q:AE->St->Prop)(s:St):Prop:=
 ∀ w0 M0 I0,GA P w0 M0 I0->(I0.F=Fence.wide/\I0.n=0)->∀ I mu a w,Rel w0 M0 I0 nt (frN s.nx) I mu s.fs a w->c.wpIn I0.F I0.n P (VJ w0 M0 I0 nt Q) a w
section
variable{P:Program}{nt:Nat}{Q:AE->St->Prop}{s:St}
theorem AWp.w{c:Code}(h:AWp P nt c Q s):BF P nt c Q s:=fun w0 M0 I0 g _ I mu a w r=>h w0 M0 I0 g I mu a w r
theorem BF.seq{x y:Code}(h:BF P nt x (Ym (fun s=>BF P nt y Q s) Q) s):BF P nt (.seq x y) Q s:=fun w0 M0 I0 g hF I mu a w r=>
 wpIn_seq (wpIn_mono (h w0 M0 I0 g hF I mu a w r) fun e a' w' hx=>by
  obtain⟨x,s',I',mu',q,he,r'⟩:=hx
  cases x<;>cases e<;>simp only[FK] at he
  case normal.normal=>exact q w0 M0 I0 g hF I' mu' a' w' r'
  all_goals exact⟨_,s',I',mu',q,he,r'⟩)
theorem BF.block{id:Nat}{c:Code}(h:BF P nt c (Jk id Q) s):BF P nt (.block id c) Q s:=fun w0 M0 I0 g hF I mu a w r=>
 wpIn_block (wpIn_mono (h w0 M0 I0 g hF I mu a w r) fun e a' w' hx=>by
  obtain⟨x,s',I',mu',q,he,r'⟩:=hx
  cases x<;>cases e<;>simp only[FK] at he
  case exit.exit=>
   rename_i i j
   subst he
   simp only[Jk] at q
   simp only[Exit.inBlock]
   by_cases hi:i=id
   ·rw[if_pos hi] at q|-;exact⟨.normal,s',I',mu',q,trivial,r'⟩
   ·rw[if_neg hi] at q|-;exact⟨.exit i,s',I',mu',q,rfl,r'⟩
  all_goals exact⟨_,s',I',mu',q,he,r'⟩)
theorem BF.seqV(fz:List Nat){x y:Code}(hm:P.follows .mixedOrders=true)(hc:CF nt x=true)(h:VCS P nt fz x (Rl (BF P nt y) Q) s):BF P nt (.seq x y) Q s:=
 BF.seq (AWp.w (AWp.mono (VC.sound hm hc h) fun e s hq=>by cases e<;>exact hq))
theorem BF.vc(fz:List Nat){c:Code}(hm:P.follows .mixedOrders=true)(hc:CF nt c=true)(h:VCS P nt fz c Q s):BF P nt c Q s:=AWp.w (VC.sound hm hc h)
end
@[congr] theorem AWpW_congr{P:Program}{nt:Nat}{c:Code}{Q:AE->St->Prop}{s s':St}(h:Gv s=s'):BF P nt c Q s=BF P nt c Q s':=by rw[<-h];rfl
theorem Ap.keepI{w0:World}{M0:Nat->Prop}{I0:Gh}{fr I:Nat->Prop}{mu:Nat->Option Value}{hp:Nat->Option Blk}{w:World}(h:Ap w0 M0 I0 fr I mu hp w){b k:Nat}{x:Blk}(hb:hp b=some x)(hm:mu b=some (.pointer (some ⟨k,0,none⟩))):
  Ap w0 M0 I0 fr (fun j=>I j∨j=k) mu (fun c=>if c=b then none else hp c) w:=by
 have hg:∀ c y,(if c=b then none else hp c)=some y->c≠b/\hp c=some y:=fun c y hy=>by
  by_cases hc:c=b
  ·rw[if_pos hc] at hy;cases hy
  ·rw[if_neg hc] at hy;exact⟨hc,hy⟩
 have hk:=h.loc b x _ k hb hm rfl
 refine⟨fun c y hy=>(h.blk c y (hg c y hy).2).mono (fun _ _=>rfl) (fun _ h=>.inl h) (fun _ _ h=>h) (fun _ _ _ _=>rfl),fun c y v j hy hv hj=>?_,fun c d y z v u j hy hz=>h.inj c d y z v u j (hg c y hy).2 (hg d z hz).2,h.fresh,fun j hj=>?_,h.os,h.tape,h.output,h.grown,h.old,fun j hj=>.inl (h.iold j hj),fun j hj=>?_,h.keep,fun c y hy=>h.used c y (hg c y hy).2⟩
 ·obtain⟨g1,g2⟩:=hg c y hy
  have:=h.loc c y v j g2 hv hj
  exact⟨this.1,fun hI=>by rcases hI with hI|rfl;exact this.2.1 hI;exact g1 (h.inj c b y x v _ j g2 hb hv hm hj rfl),this.2.2⟩
 ·rcases hj with hj|rfl
  ·exact h.lt j hj
  ·exact hk.2.2
 ·rcases hj with hj|rfl
  ·exact h.inew j hj
  ·exact .inr hk.1
theorem Ng{r:Nat->Nat}{e:Env}:∀ {l:Env},C7 r e l->∀ t,lo (e.get t) (AV r (l.get t))
 |[],_,t=>by simp only[Env.get,AV];cases e.get t<;>simp [lo]
 |(k,d)::l,h,t=>by
  simp only[Env.get]
  by_cases hk:k=t
  ·subst hk;simp only[beq_self_eq_true,cond_true];exact h.1
  ·have:(k==t)=false:=by simpa using hk
   simp only[this,cond_false];exact Ng h.2 t
theorem BF.range{P:Program}{nt:Nat}{Q:AE->St->Prop}{s:St}{f:Operand}{ps:Array Tmp}{a c:Code}{g:Nat}{fs cs ds:List D}{H H':Hp}{d:D}{env:Env}(y:Nat)(r:Nat->Nat)
  (hf:evO P s.env.get f=.func (.func g) fs cs)
  (hc:A2 P g ds ((y,.loop env nt .ready none ps.toList a c)::H) d ((y,.loop env nt .ready none ps.toList a c)::H'))
  (hy:y%2=1) (hry:r y=2*s.nx) (hargs:fs++[.yld (2*s.nx)]++cs=BZ r ds) (hl:ltL 4 ds=true) (henv:C7 r s.env env)
  (hh:Ba r (Ad ((2*s.nx,.loop (FG (AV r) env) nt .ready none ps.toList a c)::s.hp)) ((y,.loop env nt .ready none ps.toList a c)::H))
  (hok0:CS (2*(s.nx+4)) r ((y,.loop env nt .ready none ps.toList a c)::H) []=true) (hok:CS (2*(s.nx+4)) r ((y,.loop env nt .ready none ps.toList a c)::H) ((y,.loop env nt .ready none ps.toList a c)::H')=true)
  (hk:Q .normal ⟨s.env,upd (E2 ((2*s.nx,.loop (FG (AV r) env) nt .ready none ps.toList a c)::s.hp) (DK (2*(s.nx+4)) r ((y,.loop env nt .ready none ps.toList a c)::H) ((y,.loop env nt .ready none ps.toList a c)::H'))) (2*s.nx) none,s.nx+8⟩):BF P nt (.rangeFunc f ps a c) Q s:=by
 intro w0 M0 G hga hF I mu act w R
 have hFn:∀ f',G.F.fn f':=fun f'=>G.fn f'
 refine wpIn_rangeFunc fun fn _=>?_
 have fr1:frN s.nx (2*s.nx+2):=⟨by omega,by omega⟩
 obtain⟨r1,e1⟩:=R.w.new fr1 (.deferred (some [])) (.pointer (some ⟨w.heap.size,0,none⟩)) rfl (.obj (.deferred (some []))) ⟨w.heap.size,by simp[Ax],World.alloc_heap_new w _⟩
 have fr2:(fun b=>frN s.nx b/\b≠2*s.nx+2) (2*s.nx):=⟨⟨by omega,by omega⟩,by omega⟩
 have hsz:(w.alloc (.deferred (some []))).heap.size=w.heap.size+1:=by simp
 have hle2:∀ v,Ext I (Ax mu (2*s.nx+2) (.pointer (some ⟨w.heap.size,0,none⟩))) (w.alloc (.deferred (some []))) I (Ax (Ax mu (2*s.nx+2) (.pointer (some ⟨w.heap.size,0,none⟩))) (2*s.nx) v) ((w.alloc (.deferred (some []))).alloc (.loop {state:=.ready,pending:=none,fn:=fn,tmps:=act.tmps,params:=ps,assign:=a,body:=c,defers:=w.heap.size})):=fun v=>
  ⟨fun _ h=>h,Bs (r1.fresh _ fr2),fun k hk=>B8 _ _ (r1.lt k hk)⟩
 obtain⟨r2,e2⟩:=r1.new (id:=2*s.nx) fr2 (.loop {state:=.ready,pending:=none,fn:=fn,tmps:=act.tmps,params:=ps,assign:=a,body:=c,defers:=w.heap.size}) (.pointer (some ⟨w.heap.size+1,0,none⟩)) (by simp[Ae]) (.loop (FG (AV r) env) nt .ready none ps.toList a c)
  ⟨w.heap.size+1,fn,act.tmps,w.heap.size,by simp[Ax],by have:=World.alloc_heap_new (w.alloc (.deferred (some []))) (.loop {state:=.ready,pending:=none,fn:=fn,tmps:=act.tmps,params:=ps,assign:=a,body:=c,defers:=w.heap.size});rw[hsz] at this;simpa using this,R.size,fun t=>by
   rw[Hy (F:=AV r) rfl]
   exact(((R.env t).ext e1).ext (hle2 _)).lo (Ng henv t)⟩
 generalize hw2:(w.alloc (.deferred (some []))).alloc (.loop {state:=.ready,pending:=none,fn:=fn,tmps:=act.tmps,params:=ps,assign:=a,body:=c,defers:=w.heap.size})=w2 at r2 e2
 generalize hmu2:Ax (Ax mu (2*s.nx+2) (.pointer (some ⟨w.heap.size,0,none⟩))) (2*s.nx) (.pointer (some ⟨w.heap.size+1,0,none⟩))=mu2 at r2 e2
 have hmD:mu2 (2*s.nx+2)=some (.pointer (some ⟨w.heap.size,0,none⟩)):=by rw[<-hmu2];simp[Ax]
 have hmL:mu2 (2*s.nx)=some (.pointer (some ⟨w.heap.size+1,0,none⟩)):=by rw[<-hmu2];simp[Ax]
 have hDw:w2.heap[w.heap.size]? =some (.deferred (some [])):=by
  rw[<-hw2]
  exact(B8 _ _ (by simp)).trans (World.alloc_heap_new w _)
 have hn1:s.fs.hp (2*s.nx)=none:=by
  cases hx:s.fs.hp (2*s.nx) with
  |none=>rfl
  |some x=>exact absurd ⟨by omega,by omega⟩ (R.w.used _ x hx)
 have hn2:s.fs.hp (2*s.nx+2)=none:=by
  cases hx:s.fs.hp (2*s.nx+2) with
  |none=>rfl
  |some x=>exact absurd ⟨by omega,by omega⟩ (R.w.used _ x hx)
 have r3:=r2.keepI (b:=2*s.nx+2) (k:=w.heap.size) (x:=.obj (.deferred (some []))) (by simp[AO]) hmD
 have hhp:∀ b x,Ad ((2*s.nx,Blk.loop (FG (AV r) env) nt .ready none ps.toList a c)::s.hp) b=some x->(if b=2*s.nx+2 then none else AO b (AO b (s.fs.hp b) [(2*s.nx+2,some (Blk.obj (.deferred (some []))))]) [(2*s.nx,some (Blk.loop (FG (AV r) env) nt .ready none ps.toList a c))])=some x:=fun b x hx=>by
  simp only[Ad] at hx
  by_cases h1:2*s.nx=b
  ·subst h1;simp at hx;simp[AO,hx]
  ·have h1':(2*s.nx==b)=false:=by simpa using h1
   simp only[h1',cond_false] at hx
   by_cases h2:b=2*s.nx+2
   ·subst h2;exact absurd (show s.fs.hp _=some x from hx) (by rw[hn2];simp)
   ·have h2':¬2*s.nx+2=b:=fun h=>h2 h.symm
    simp only[AO,A0r,A0Z,if_neg h1,if_neg h2,if_neg h2']
    exact hx
 have r4:=r3.sub hhp
 have hext:Ext I mu w (fun j=>I j∨j=w.heap.size) mu2 w2:=by
  refine⟨fun _ h=>.inl h,fun b x hx=>e2.m b x (e1.m b x hx),fun k hk=>?_⟩
  rw[e2.w k hk,e1.w k hk]
 have hxr:Rep w I mu (evO P s.env.get f) (act.eval f):=DY (P:=P) (hga.at R.w) R.env f
 rw[hf] at hxr
 generalize hev:act.eval f=fv at hxr
 cases hxr with
 |func _ _ _ us vs hlu hlv hu hv=>
 have hga4:GA P w0 M0 G:=hga
 have hargs':Bc w2 (fun j=>I j∨j=w.heap.size) mu2 (BZ r ds) (us++[Value.func (.yield (w.heap.size+1)) #[] #[]]++vs):=by
  rw[<-hargs]
  refine Bc.append (Bc.append ⟨hlu,fun i hi=>(hu i hi).ext hext⟩ ⟨rfl,fun i hi=>?_⟩) ⟨hlv,fun i hi=>(hv i hi).ext hext⟩
  simp only[A18,Nat.lt_one_iff] at hi
  subst hi
  exact .yld _ _ hmL
 obtain⟨M,G',muc,⟨g1,g2,g3,g4,g5,_⟩,hback⟩:=X7 (id:=2*(s.nx+4)) r hga4 r4 (fun j hj=>⟨⟨⟨by omega,by omega⟩,by omega⟩,by omega⟩) (fun _ _=>rfl) hargs' hl hh hok0
 unfold A2 at hc
 obtain⟨hent,hcall⟩:=hc
 have hres:∀ W,(resolve act.eval (rangeCall f (w.heap.size+1)) 0).run P W=.ok {target:=.fn (.func g) vs.toArray,args:=us.toArray++ #[.func (.yield (w.heap.size+1)) #[] #[]]} W:=by
  intro W
  simp only[resolve,rangeCall,Deferred.ofValue,hev,A0j]
  congr 2
  apply Array.toList_inj.1
  simp[Act.eval]
 have hrun:(invoke (.fn (.func g) vs.toArray) (us.toArray++ #[Value.func (.yield (w.heap.size+1)) #[] #[]])).run P w2=.ok (.enter g (us++[Value.func (.yield (w.heap.size+1)) #[] #[]]++vs).toArray) w2:=by
  have e1:us.toArray++ #[Value.func (.yield (w.heap.size+1)) #[] #[]]++vs.toArray=(us++[Value.func (.yield (w.heap.size+1)) #[] #[]]++vs).toArray:=by apply Array.ext';simp
  simp only[invoke]
  exact(congrArg (fun z=>(callFunc g z).run P w2) e1).trans (AZ hent _ w2)
 have hcall':=hcall w2 M G' _ muc _ g1 g2 g3 g4
 refine⟨w.heap.size+1,[{target:=.collected w.heap.size,args:=#[]}],w2,_,w2,g,_,w2,?_,hres w2,fun f' _=>hFn f',hrun,fun h=>(by rw[G.depth] at h;cases h),CallsIn.mono (MK hcall') ?_⟩
 ·rw[hF.1,<-hw2];exact run_enterLoop_outer fn act.tmps ps a c
 rintro e w3 ⟨v,I3,mu3,rfl,hv3,R3⟩
 obtain⟨mu4,e4,R4,_,hlast⟩:=hback d _ v w3 I3 mu3 hok hv3 R3
 have hmL4:mu4 (2*s.nx)=some (.pointer (some ⟨w.heap.size+1,0,none⟩)):=e4.m _ _ hmL
 have hyl:Ad ((y,Blk.loop env nt .ready none ps.toList a c)::H') y=some (.loop env nt .ready none ps.toList a c):=by simp[Ad]
 have hout:(fun b=>AO b (Ad ((2*s.nx,Blk.loop (FG (AV r) env) nt .ready none ps.toList a c)::s.hp) b) (Ce (2*(s.nx+4)) r ((y,.loop env nt .ready none ps.toList a c)::H) d ((y,.loop env nt .ready none ps.toList a c)::H')).up)=Ad (E2 ((2*s.nx,Blk.loop (FG (AV r) env) nt .ready none ps.toList a c)::s.hp) (DK (2*(s.nx+4)) r ((y,.loop env nt .ready none ps.toList a c)::H) ((y,.loop env nt .ready none ps.toList a c)::H'))):=by
  funext b
  rw[EE];rfl
 rw[hout] at R4
 have hin:∃ x,Ad (E2 ((2*s.nx,Blk.loop (FG (AV r) env) nt .ready none ps.toList a c)::s.hp) (DK (2*(s.nx+4)) r ((y,.loop env nt .ready none ps.toList a c)::H) ((y,.loop env nt .ready none ps.toList a c)::H'))) (2*s.nx)=some x/\x=.loop (FG (AV (CB (2*(s.nx+4)) r)) env) nt .ready none ps.toList a c:=by
  refine⟨_,?_,rfl⟩
  have h1:=hlast y _ hyl
  have h2:CB (2*(s.nx+4)) r y=2*s.nx:=by simp[CB,hy,hry]
  rw[h2] at h1
  rw[<-hout]
  exact h1
 obtain⟨x,hin,hx⟩:=hin
 subst hx
 obtain⟨k5,fn5,tmps5,kd5,p1,p2,p3,p4⟩:=R4.blk _ _ hin
 rw[hmL4] at p1
 simp only[A03,A0O,A16,and_true] at p1
 subst p1
 refine⟨none,_,run_endLoop p2 (by simp),?_⟩
 rw[K8]
 obtain⟨R5,e5⟩:=R4.setObj (x:=.junk) hin hmL4 (.loop {state:=.exhausted,pending:=none,fn:=fn5,tmps:=tmps5,params:=ps.toList.toArray,assign:=a,body:=c,defers:=kd5}) (fun _ _=>trivial)
 have eall:Ext I mu w I3 mu4 (setBlock w3 (w.heap.size+1) (.loop {state:=.exhausted,pending:=none,fn:=fn5,tmps:=tmps5,params:=ps.toList.toArray,assign:=a,body:=c,defers:=kd5})):=
  ⟨fun k hk=>e4.i k (.inl hk),fun b x hx=>e4.m b x (hext.m b x hx),fun k hk=>(e5.w k (e4.i k (.inl hk))).trans ((e4.w k (.inl hk)).trans (hext.w k hk))⟩
 refine⟨.normal,_,I3,mu4,hk,trivial,⟨R.size,?_,fun t=>(R.env t).ext eall,?_⟩⟩
 ·obtain⟨rs,_,d1,d2,d3⟩:=R.defers
  refine⟨w.heap.size::rs,fun h=>absurd (h.symm.trans hF.2) (by simp),by rw[d1];rfl,A1J.2 ⟨fun hm=>?_,d2⟩,fun q hq=>?_⟩
  ·have:=R.w.lt _ (d3 _ hm).1
   omega
  ·rcases A0s.1 hq with rfl|hq
   ·have hI3:I3 w.heap.size:=e4.i _ (.inr rfl)
    exact⟨hI3,R.w.grown,by rw[e5.w _ hI3,e4.w _ (.inr rfl)];exact hDw⟩
   ·obtain⟨g1,g2,g3⟩:=d3 q hq
    exact⟨eall.i q g1,g2,by rw[eall.w q g1];exact g3⟩
 ·refine(R5.sub fun b x hx=>?_).less fun b hb=>?_
  ·have hx':Ad (upd (E2 ((2*s.nx,Blk.loop (FG (AV r) env) nt .ready none ps.toList a c)::s.hp) (DK (2*(s.nx+4)) r ((y,.loop env nt .ready none ps.toList a c)::H) ((y,.loop env nt .ready none ps.toList a c)::H'))) (2*s.nx) none) b=some x:=hx
   rw[Jz] at hx'
   by_cases hb:2*s.nx=b
   ·rw[if_pos hb] at hx';cases hx'
   ·rw[if_neg hb] at hx'
    simp only[AO,A0r,A0Z,if_neg hb]
    exact hx'
  ·obtain⟨h1,h2⟩:=hb
   have h2':2*(s.nx+8)<=b:=h2
   exact⟨⟨⟨⟨h1,by omega⟩,by omega⟩,by omega⟩,fun j hj=>by omega⟩
theorem A2.of_awpW{P:Program}{nt:Nat}{f:FuncId}{fn:Func}{c:Code}{ds:List D}{H:Hp}{r:D}{H':Hp}(hf:P.funcs[f]? =some fn)(hb:fn.body=some c)(hn:fn.ntmps=nt)(hent:Bl P f=true)(hlen:ds.length<=nt){rs:List ResultVar}(hrs:fn.results.toList=rs)
  (h:BF P nt c (MY P rs r H') ⟨Be 0 ds,H,4⟩):A2 P f ds H r H':=by
 subst hrs
 unfold A2
 refine⟨hent,fun w M0 G0 I mu vs hga hdl hw hrep=>?_⟩
 let G:Gh:=⟨G0.st,G0.nm,[],Fence.wide,0,.inl rfl⟩
 have hG:∀ k,G k->k<w.heap.size:=fun k hk=>hw.lt k (hw.iold k hk)
 refine callsIn_wide.1 (callsIn_of_wp_marks (n:=0) hf hb trivial (wpIn_mono (h w M0 G hga ⟨rfl,rfl⟩ I mu _ w ⟨?_,BJ.refl _ _ _ _,fun t=>Ff hrep _ t,⟨hw.blk,hw.loc,hw.inj,hw.fresh,hw.lt,hw.os,hw.tape,hw.output,hw.grown,hw.old,hw.iold,hw.inew,hw.keep,hw.used⟩⟩) ?_))
 ·have:=hrep.1;simp[hn];omega
 ·rintro e a' w' ⟨x,s',I',mu',hq,he,r'⟩
  have fin:∀ d,J9 P s' fn.results.toList=some d->Ar ⟨[(0,d)],s'.hp,s'.nx⟩ ⟨[(0,r)],H',4⟩->LeavesInM Fence.wide 0 P fn a'.tmps (fun e w'=>∃ v I' mu',e=.returned v/\Rep w' I' mu' r v/\Ap w M0 G0 (frN 4) I' mu' (Ad H') w') a'.defers .returning w':=by
   intro d hd hwk
   refine r'.leave hG rfl hd fun v w2 I2 _ W2 h2=>?_
   obtain⟨I3,mu3,R3⟩:=hwk w M0 G 1 I2 mu' {tmps:=#[v],defers:=[]} w2 ⟨rfl,BJ.refl _ _ _ _,fun t=>by
    cases t with
    |zero=>simpa [St.fs,Env.get] using h2
    |succ t=>simp [St.fs,Env.get];exact .any _,W2⟩
   have r0:=R3.env 0
   exact⟨v,I3,mu3,rfl,by simpa[St.fs,Env.get] using r0,⟨R3.w.blk,R3.w.loc,R3.w.inj,R3.w.fresh,R3.w.lt,R3.w.os,R3.w.tape,R3.w.output,R3.w.grown,R3.w.old,R3.w.iold,R3.w.inew,R3.w.keep,R3.w.used⟩⟩
  cases x<;>cases e<;>simp only[FK] at he<;>simp only[MY] at hq
  case normal.normal=>
   obtain⟨d,hd,hfr⟩:=hq
   exact fin d hd hfr
  case ret.ret=>
   obtain⟨d,hd,hfr⟩:=hq
   exact fin d hd hfr
theorem A0.of_awpW{P:Program}{nt:Nat}{f:FuncId}{fn:Func}{c:Code}{ds:List D}{r:D}(hf:P.funcs[f]? =some fn)(hb:fn.body=some c)(hn:fn.ntmps=nt)(hent:Bl P f=true)(hlen:ds.length<=nt){rs:List ResultVar}(hrs:fn.results.toList=rs)
  (h:BF P nt c (UM P rs r) ⟨Be 0 ds,[],0⟩):A0 P f ds r:=by
 subst hrs
 unfold A0
 refine⟨hent,fun w I vs hgi hI hl hrep=>?_⟩
 let G:Gh:=⟨I,fun _=>none,[],Fence.wide,0,.inl rfl⟩
 refine callsIn_wide.1 (callsIn_of_wp_marks (n:=0) hf hb trivial (wpIn_mono (h w (fun _=>False) G (fun g l hl=>⟨(hgi g l hl).1,hI g (hgi g l hl).1,fun h=>h,(hgi g l hl).2⟩) ⟨rfl,rfl⟩ I (fun _=>none) _ w ⟨?_,BJ.refl _ _ _ _,fun t=>?_,⟨fun b x hx=>by simp[St.fs,Ad] at hx,fun b x v k hx=>by simp[St.fs,Ad] at hx,fun b c x y v u k hx=>by simp[St.fs,Ad] at hx,fun _ _=>rfl,hI,rfl,rfl,rfl,A0a _,fun _ _ _=>rfl,fun _ h=>h,fun _ h=>.inl h,fun b x _ h=>(by cases h),fun b x hx=>by simp[St.fs,Ad] at hx⟩⟩) ?_))
 ·simp[hl,hn];omega
 ·have hget:=EY ds 0 t
  simp only[A0D,true_and,A1c,Nat.sub_zero] at hget
  show Rep w I (fun _=>none) ((Be 0 ds).get t) _
  rw[hget]
  by_cases ht:t<ds.length
  ·rw[if_pos ht]
   have e:(vs.toArray++Array.replicate (fn.ntmps-vs.toArray.size) undef).getD t undef=nv vs t:=by
    simp only[nv,A02,A1g]
    rw[Array.getElem?_append_left (by simp;omega)]
    simp
   rw[e];exact hrep t ht
  ·rw[if_neg ht];exact .any _
 ·rintro e a' w' ⟨x,s',I',mu',hq,he,r'⟩
  have fin:∀ d,J9 P s' fn.results.toList=some d->Go.Ab.lo (Go.Ab.frz (Ad s'.hp) 6 d) r->r.pure=true->LeavesInM Fence.wide 0 P fn a'.tmps (fun e w'=>∃ v I',e=.returned v/\Rep w' I' (fun _=>none) r v/\(∀ k,I k->I' k)/\(∀ k,I' k->I k∨w.heap.size<=k)/\(∀ k,I' k->k<w'.heap.size)/\Below w.heap.size w w') a'.defers .returning w':=by
   intro d hd hfr hpu
   refine r'.leave hI rfl hd fun v w2 I2 _ W2 h2=>?_
   have hfz:=Rep.frz (J:=fun k=>I2 k∨(w.heap.size<=k/\k<w2.heap.size)) W2 (fun k hk=>.inl hk) (fun b x v k hx hv hk=>.inr (by
     have:=W2.loc b x v k hx hv hk
     rcases this.1 with h3|h3
     ·exact h3.elim
     ·exact⟨h3,this.2.2⟩)) 6 d v h2
   have hfr':Go.Ab.lo (Go.Ab.frz s'.fs.hp 6 d) r:=hfr
   have hfz:=hfz.lo hfr'
   refine⟨v,_,rfl,hfz.unmu hpu,fun k hk=>.inl (W2.iold k hk),fun k hk=>?_,fun k hk=>?_,⟨W2.os,W2.tape,W2.output,W2.grown,fun k hk=>W2.old k hk (fun h=>h)⟩⟩
   ·rcases hk with hk|hk
    ·rcases W2.inew k hk with h3|h3|h3
     ·exact .inl h3
     ·exact h3.elim
     ·exact .inr h3
    ·exact .inr hk.1
   ·rcases hk with hk|hk
    ·exact W2.lt k hk
    ·exact hk.2
  cases x<;>cases e<;>simp only[FK] at he<;>simp only[UM] at hq
  case normal.normal=>
   obtain⟨d,hd,hfr,hpu⟩:=hq
   exact fin d hd hfr hpu
  case ret.ret=>
   obtain⟨d,hd,hfr,hpu⟩:=hq
   exact fin d hd hfr hpu
end Go.Ab
namespace Go.Ab
open Go.RowKit
section
variable{P:Program}{F:Fence}{n:Nat}
theorem GC{u:FrameMode}(hu:u≠ .run){dl:List Deferred}:∀ (rs:List Nat) (w:World) (fr:Frame) (cs:List Frame),rs.Nodup->(∀ r ∈ rs,w.heap[r]? =some (.deferred (some [])))->F.fn fr.fn->F.room (cs.length+1+n)->fr.mode=u->fr.defers=rs.map (fun r=> {target:=.collected r,args:=#[]})++dl->
  StepsIn (Machine.fenced P F) P (lone fr cs w) (lone {fr with defers:=dl} cs (CV rs w))
 |[],w,fr,cs,_,_,_,_,_,hd=>by
  have:({fr with defers:=dl}:Frame)=fr:=by simp at hd;rw[<-hd]
  rw[this];exact StepsIn.refl _
 |r::rs,w,fr,cs,hn,hr,hb,hroom,hm,hd=>by
  simp only[A1J] at hn
  have h1:=step_collected (P:=P) (fr:=fr) (cs:=cs) (w:=w) (hm▸hu) hd rfl (run_takeDeferred (hr r A0B))
  have i1:(lone fr cs w).fenced P F:=fenced_out hb hroom (hm▸hu) hd (fun g hg=>by simp[Target.leads] at hg)
  have ih:=GC hu (dl:=dl) rs (w.putObj r (.deferred none)) {fr with defers:=[]++(rs.map (fun r=> {target:=.collected r,args:=#[]})++dl)} cs hn.2 (fun k hk=>by
   rw[World.putObj_heap_other (by rintro rfl;exact hn.1 hk)]
   exact hr k (A0p _ hk)) hb hroom hm rfl
  exact .head i1 h1 ih
theorem Hc{f:FuncId}{fn:Func}{c:Code}{args:Array Value}{u:FrameMode}{w:World}{R:Ending->World->Prop}
  (hf:P.funcs[f]? =some fn) (hb:fn.body=some c) (hF:F.fn f)
  (h:c.wpIn F n P (fun e a w=>match e with
   |.normal|.ret=>∃ (rs:List Nat) (v:Value),a.defers=rs.map (fun r=> {target:=.collected r,args:=#[]})++[]/\rs.Nodup/\(∀ r ∈ rs,w.heap[r]? =some (.deferred (some [])))/\(results fn a.tmps).run P (CV rs w)=.ok v (CV rs w)/\R (.returned v) (CV rs w)
   |_=>False) {tmps:=args++Array.replicate (fn.ntmps-args.size) undef,defers:=[]} w) (hro:F.round=none:=by rfl):
  CallsDIn F n P f args u w fun e u' w'=>u'=u/\R e w':=by
 refine⟨hF,fun c₀ cs hu hr=>?_⟩
 let b:Frame:= {(default:Frame) with fn:=f,kind:=.deferred,roundOf:=none}
 have henter:Frame.enter P f args .deferred=
   b.atR {tmps:=args++Array.replicate (fn.ntmps-args.size) undef,defers:=[]} [.code c]:=by
  simp[Frame.enter,Frame.atR,hf,hb,b]
 have hc:({c₀ with mode:=u}:Frame)=c₀:=by subst hu;rfl
 obtain⟨e,a',w',hq,harr⟩:=h b [] (c₀::cs) hro.symm hF hr
 rw[<-henter] at harr
 cases e with
 |normal=>
  obtain⟨rs,v,d1,d2,d3,hr',hR⟩:=hq
  have hs:=StepsIn.trans harr (.one (fenced_calm (fr:=b.atR a' []) hF hr rfl) (stepR_end rfl))
  have hm:=GC (P:=P) (F:=F) (n:=n) (u:=.returning) (by simp) (dl:=[]) rs w' {b.atR a' [] with mode:=.returning} (c₀::cs) d2 d3 hF hr rfl d1
  exact⟨.returned v,u,CV rs w',_,⟨rfl,hR⟩,(by rw[hc];exact StepsIn.trans hs hm),rfl,rfl,rfl,rfl,fn,hf,hr'⟩
 |ret=>
  obtain⟨rs,v,d1,d2,d3,hr',hR⟩:=hq
  obtain⟨todo,hs⟩:=harr.1 rfl
  have hm:=GC (P:=P) (F:=F) (n:=n) (u:=.returning) (by simp) (dl:=[]) rs w' {b.atR a' todo with mode:=.returning} (c₀::cs) d2 d3 hF hr rfl d1
  exact⟨.returned v,u,CV rs w',_,⟨rfl,hR⟩,(by rw[hc];exact StepsIn.trans hs hm),rfl,rfl,rfl,rfl,fn,hf,hr'⟩
 |panic chain=>exact hq.elim
 |exit id=>exact hq.elim
 |goto l=>exact hq.elim
 |outgrown=>exact hq.elim
end
def QM(P:Program)(f:FuncId)(cs:List D)(H H':Hp):Prop:=
 Bl P f=true/\∀ (w:World) (M0:Nat->Prop) (G:Gh) (I:Nat->Prop) (mu:Nat->Option Value) (vs:List Value) (u:FrameMode),GA P w M0 G->G.dl=[]->Ap w M0 G (frN 4) I mu (Ad H) w->Bc w I mu cs vs->
  CallsDIn Fence.wide 0 P f vs.toArray u w fun e u' w'=>u'=u/\∃ v I' mu',e=.returned v/\Ap w M0 G (frN 4) I' mu' (Ad H') w'
theorem QM.of_awp{P:Program}{nt:Nat}{f:FuncId}{fn:Func}{c:Code}{ds:List D}{H H':Hp}(hf:P.funcs[f]? =some fn)(hb:fn.body=some c)(hn:fn.ntmps=nt)(hent:Bl P f=true)(hlen:ds.length<=nt){rs:List ResultVar}(hrs:fn.results.toList=rs)
  (h:AWp P nt c (MY P rs (.tup []) H') ⟨Be 0 ds,H,4⟩):QM P f ds H H':=by
 subst hrs
 refine⟨hent,fun w M0 G0 I mu vs u hga hdl hw hrep=>?_⟩
 let G:Gh:=⟨G0.st,G0.nm,[],Fence.wide,0,.inl rfl⟩
 have hG:∀ k,G k->k<w.heap.size:=fun k hk=>hw.lt k (hw.iold k hk)
 refine Hc (n:=0) hf hb trivial (wpIn_mono (h w M0 G hga I mu _ w ⟨?_,BJ.refl _ _ _ _,fun t=>Ff hrep _ t,⟨hw.blk,hw.loc,hw.inj,hw.fresh,hw.lt,hw.os,hw.tape,hw.output,hw.grown,hw.old,hw.iold,hw.inew,hw.keep,hw.used⟩⟩) ?_)
 ·have:=hrep.1;simp[hn];omega
 ·rintro e a' w' ⟨x,s',I',mu',hq,he,r'⟩
  have fin:∀ d,J9 P s' fn.results.toList=some d->Ar ⟨[(0,d)],s'.hp,s'.nx⟩ ⟨[(0,.tup [])],H',4⟩->∃ (rs:List Nat) (v:Value),a'.defers=rs.map (fun r=> {target:=.collected r,args:=#[]})++[]/\rs.Nodup/\(∀ r ∈ rs,w'.heap[r]? =some (.deferred (some [])))/\(results fn a'.tmps).run P (CV rs w')=.ok v (CV rs w')/\
    ∃ v' I' mu',Ending.returned v=.returned v'/\Ap w M0 G0 (frN 4) I' mu' (Ad H') (CV rs w'):=by
   intro d hd hwk
   obtain⟨rs,_,d1,d2,d3⟩:=r'.defers
   obtain⟨w1,w2⟩:=r'.w.shut hG d3
   obtain⟨v,q1,q2⟩:=GJ (P:=P) (a:=a') (w:=CV rs w') (I:=fun k=>I' k/\k ∉ rs) (mu:=mu') (w0:=w) (M0:=M0) (I0:=⟨G.st,G.nm,a'.defers,G.F,G.n,G.hF⟩) (fr:=frN s'.nx) (nt:=nt) (s:=s')
    ⟨r'.size,BJ.refl _ _ _ _,fun t=>w2 _ _ (r'.env t),⟨w1.blk,w1.loc,w1.inj,w1.fresh,w1.lt,w1.os,w1.tape,w1.output,w1.grown,w1.old,w1.iold,w1.inew,w1.keep,w1.used⟩⟩ fn hd
   obtain⟨I3,mu3,R3⟩:=hwk w M0 G 1 (fun k=>I' k/\k ∉ rs) mu' {tmps:=#[v],defers:=[]} (CV rs w') ⟨rfl,BJ.refl _ _ _ _,fun t=>by
    cases t with
    |zero=>simpa [St.fs,Env.get] using q2
    |succ t=>simp [St.fs,Env.get];exact .any _,w1⟩
   exact⟨rs,v,d1,d2,fun r hr=>(d3 r hr).2.2,q1,v,I3,mu3,rfl,⟨R3.w.blk,R3.w.loc,R3.w.inj,R3.w.fresh,R3.w.lt,R3.w.os,R3.w.tape,R3.w.output,R3.w.grown,R3.w.old,R3.w.iold,R3.w.inew,R3.w.keep,R3.w.used⟩⟩
  cases x<;>cases e<;>simp only[FK] at he<;>simp only[MY] at hq
  case normal.normal=>
   obtain⟨d,hd,hfr⟩:=hq
   exact fin d hd hfr
  case ret.ret=>
   obtain⟨d,hd,hfr⟩:=hq
   exact fin d hd hfr
def SZ(P:Program)(rs:List ResultVar)(g:FuncId)(cs:List D)(rB:D)(HB':Hp):AE->St->Prop
 |.ret,s|.normal,s=>∃ (rD:Nat->Nat) (csD:List D) (HD HD':Hp),QM P g csD HD HD'/\cs=BZ rD csD/\ltL 4 csD=true/\Ba rD (Ad s.hp) HD/\CS (2*s.nx) rD HD []=true/\CS (2*s.nx) rD HD HD'=true/\
   ∃ d,J9 P ⟨s.env,E2 s.hp (DK (2*s.nx) rD HD HD'),s.nx+4⟩ rs=some d/\Ar ⟨[(0,d)],E2 s.hp (DK (2*s.nx) rD HD HD'),s.nx+4⟩ ⟨[(0,rB)],HB',4⟩
 |_,_=>False
def DefQ1(P:Program)(nt:Nat)(rs:List ResultVar)(g:FuncId)(t:Nat)(caps:Array Operand)(B:Code)(r:D)(H':Hp)(r1:Nat->Nat)(cs:List D)(env':Env)(HB:Hp)(rB:D)(HB':Hp):AE->St->Prop
 |.normal,s=>caps.toList.map (evO P s.env.get)=BZ r1 cs/\ltL 0 cs=true/\BZ (fun b=>b) cs=cs/\C7 r1 ((t,.any)::s.env) env'/\HR 4 env'=true/\Ba r1 (Ad s.hp) HB/\CS (2*s.nx) r1 HB []=true/\CS (2*s.nx) r1 HB HB'=true/\
   AWp P nt B (SZ P rs g cs rB HB') ⟨env',HB,4⟩/\Ar ⟨[(0,AV (CB (2*s.nx) r1) rB)],E2 s.hp (DK (2*s.nx) r1 HB HB'),s.nx+4⟩ ⟨[(0,r)],H',4⟩
 |_,_=>False
theorem EN{m n b:Nat}(hmn:m<=n)(h:okN m b=true):okN n b=true:=by
 simp[okN] at h|-;omega
mutual
theorem M8{m n:Nat}(hmn:m<=n):∀ {d:D},ltD m d=true->ltD n d=true
 |.any,_=>rfl
 |.val _,_=>rfl
 |.abool _ _,_=>rfl
 |.cond _ d,h=>by simp only[ltD] at h|-;exact M8 hmn h
 |.agg cs,h=>by simp only[ltD] at h|-;exact Dw hmn h
 |.tup cs,h=>by simp only[ltD] at h|-;exact Dw hmn h
 |.slice es _,h=>by simp only[ltD] at h|-;exact NJ hmn h
 |.ptr cs _,h=>by simp only[ltD] at h|-;exact Dw hmn h
 |.func _ fs cs,h=>by simp only[ltD,A07] at h|-;exact⟨Dw hmn h.1,Dw hmn h.2⟩
 |.iface _ d,h=>by simp only[ltD] at h|-;exact M8 hmn h
 |.ref b _ _ _,h=>EN hmn h
 |.sref b _ _ _ _,h=>EN hmn h
 |.gref b _,h=>EN hmn h
 |.mref b,h=>EN hmn h
 |.yld b,h=>EN hmn h
 |.gel b _ _ _,h=>EN hmn h
 |.gsub b _ _ _,h=>EN hmn h
theorem Dw{m n:Nat}(hmn:m<=n):∀ {l:List D},ltL m l=true->ltL n l=true
 |[],_=>rfl
 |d::l,h=>by simp only[ltL,A07] at h|-;exact⟨M8 hmn h.1,Dw hmn h.2⟩
theorem NJ{m n:Nat}(hmn:m<=n):∀ {l:List (List D)},Ev m l=true->Ev n l=true
 |[],_=>rfl
 |d::l,h=>by simp only[Ev,A07] at h|-;exact⟨Dw hmn h.1,NJ hmn h.2⟩
end
def AWpL(P:Program)(nt:Nat):List Code->(St->Prop)->St->Prop
 |[],Q,s=>Q s
 |A::As,Q,s=>AWp P nt A (Ym (fun s=>AWpL P nt As Q s) (fun _ _=>False)) s
theorem Gu{P:Program}{nt:Nat}{X:Code}{R:Exit->Act->World->Prop}{Q:St->Prop}{w0:World}{M0:Nat->Prop}{I0:Gh}(hga:GA P w0 M0 I0)(hk:∀ s1 I1 mu1 a1 w1,Q s1->Rel w0 M0 I0 nt (frN s1.nx) I1 mu1 s1.fs a1 w1->X.wpIn I0.F I0.n P R a1 w1):
  ∀(As:List Code) (s:St),AWpL P nt As Q s->∀ (I:Nat->Prop) (mu:Nat->Option Value) (a:Act) (w:World),Rel w0 M0 I0 nt (frN s.nx) I mu s.fs a w->(As.foldr .seq X).wpIn I0.F I0.n P R a w
 |[],s,h,I,mu,a,w,r=>hk s I mu a w h r
 |A::As,s,h,I,mu,a,w,r=>wpIn_seq (wpIn_mono (h w0 M0 I0 hga I mu a w r) fun e a' w' hx=>by
   obtain⟨x,s',I',mu',q,he,r'⟩:=hx
   cases x<;>cases e<;>simp only[FK] at he<;>simp only[Ym] at q
   exact Gu hga hk As s' q I' mu' a' w' r')
theorem A2.of_awp_defer{P:Program}{nt:Nat}{f:FuncId}{fn:Func}(As:List Code){B:Code}{ds:List D}{H:Hp}{r:D}{H':Hp}{id t g:Nat}{caps:Array Operand}{T1 T2:TypeId}{ps1 ps2:String}{af1 af2:Array Edge}{ts:Array TypeId}(hf:P.funcs[f]? =some fn)
  (hb:fn.body=some (As.foldr .seq (.seq (.region id #[⟨some t,.makeFunc (.func g) #[] caps,T1,ps1,af1,none⟩,⟨none,.defer {callee:=.value (.tmp t),args:=#[],argTypes:=ts},T2,ps2,af2,none⟩] false) B)))
  (hn:fn.ntmps=nt) (hent:Bl P f=true) (hlen:ds.length<=nt) (ht:t<nt) {rs:List ResultVar} (hrs:fn.results.toList=rs) (r1:Nat->Nat) (cs:List D) (env':Env) (HB:Hp) (rB:D) (HB':Hp)
  (h:AWpL P nt As (DefQ1 P nt rs g t caps B r H' r1 cs env' HB rB HB' .normal) ⟨Be 0 ds,H,4⟩):A2 P f ds H r H':=by
 subst hrs
 unfold A2
 refine⟨hent,fun w M0 G0 I mu vs hga hdl hw hrep=>?_⟩
 let G:Gh:=⟨G0.st,G0.nm,[],Fence.wide,1,.inl rfl⟩
 have hG:∀ k,G k->k<w.heap.size:=fun k hk=>hw.lt k (hw.iold k hk)
 refine callsIn_wide.1 (callsIn_of_wp_marks (n:=1) hf hb trivial (Gu (I0:=G) hga ?_ As _ h I mu _ w ⟨?_,BJ.refl _ _ _ _,fun t=>Ff hrep _ t,⟨hw.blk,hw.loc,hw.inj,hw.fresh,hw.lt,hw.os,hw.tape,hw.output,hw.grown,hw.old,hw.iold,hw.inew,hw.keep,hw.used⟩⟩))
 case refine_2=>have:=hrep.1;simp[hn];omega
 rintro s1 I1 mu1 a1 w1 hq R1
 simp only[DefQ1] at hq
 obtain⟨c1,c2,c3,c4,c5,c6,c7,c8,hB,hW⟩:=hq
 show Code.wpIn _ _ _ _ _ _ _
 refine wpIn_seq (wpIn_region ?_)
 have hcap:Bc w1 I1 mu1 (BZ r1 cs) (caps.toList.map a1.eval):=by
  rw[<-c1]
  exact Bc.args (args:=caps) fun y _=>DY (GA.at (I0:=G) hga R1.w) R1.env y
 have hcsl:(caps.toList.map a1.eval).toArray=caps.map a1.eval:=by apply Array.ext';simp
 have o1:(execOp a1.eval ⟨some t,.makeFunc (.func g) #[] caps,T1,ps1,af1,none⟩).run P w1=.ok (.value (.func (.func g) #[] (caps.map a1.eval))) w1:=by simp[execOp,Instr.makeFunc]
 have hev:(a1.put (some t) (.func (.func g) #[] (caps.map a1.eval))).eval (.tmp t)=.func (.func g) #[] (caps.map a1.eval):=by
  have:t<a1.tmps.size:=by rw[R1.size];exact ht
  simp[Act.put,Act.eval,this]
 have o2:(execOp (a1.put (some t) (.func (.func g) #[] (caps.map a1.eval))).eval ⟨none,.defer {callee:=.value (.tmp t),args:=#[],argTypes:=ts},T2,ps2,af2,none⟩).run P w1=.ok (.defer {target:=.fn (.func g) (caps.map a1.eval),args:=#[]}) w1:=by
  simp only[execOp,resolve,hev,Deferred.ofValue,A0e,A0j,Result.andThen]
  simp
 have hd1:a1.defers=[]:=by
  obtain⟨rs,d0,d1,_⟩:=R1.defers
  rw[d0 rfl] at d1;exact d1
 have hvs:(caps.toList.map a1.eval).toArray=caps.map a1.eval:=hcsl
 obtain⟨M,G2,muc,⟨g1,g2,g3,g4,g5,g6,g7,g8⟩,hback⟩:=X7 (id:=2*s1.nx) r1 (show GA P w M0 G from hga) R1.w (fun j hj=>⟨by omega,by show 2*s1.nx<=2*s1.nx+2*j;omega⟩) (fun _ _=>rfl) hcap (Dw (A0D 4) c2) c6 c7
 generalize hclo:Value.func (.func g) #[] (caps.map a1.eval)=clo at o1 o2 hev
 let d:Deferred:= {target:=.fn (.func g) (caps.map a1.eval),args:=#[]}
 let G3:Gh:=⟨G2.st,G2.nm,[d],Fence.wide,1,.inl rfl⟩
 have hG3:∀ k,G3 k->k<w1.heap.size:=fun k hk=>g3.lt k (g3.iold k hk)
 have henv:∀ t',Rep w1 I1 muc (env'.get t') ((a1.put (some t) clo).tmps.getD t' undef):=by
  intro t'
  have h1:Rep w1 I1 mu1 (Env.get ((t,.any)::s1.env) t') ((a1.put (some t) clo).tmps.getD t' undef):=by
   simp only[Env.get]
   by_cases hh:t=t'
   ·subst hh;simp only[beq_self_eq_true,cond_true];exact .any _
   ·have:(t==t')=false:=by simpa using hh
    simp only[this,cond_false]
    have:=R1.env t'
    simp only[Act.put,A1g,A1k hh] at this|-
    exact this
  rcases FN c4 c5 t' with⟨d',h2,h3,h4⟩|h2
  ·rw[h2]
   exact(h1.lo h3).ren g5 rfl h4
  ·rw[h2];exact .any _
 have hsz:(a1.put (some t) clo).tmps.size=nt:=by rw[Fv];exact R1.size
 show wpOpsIn Fence.wide 1 P _ _ [0,1] a1 w1
 simp only[wpOpsIn,A1b,A0U,A0V,Region.wanted]
 simp only[if_true]
 refine DG (G:=G) o1 ?_
 refine⟨fun f' _=>G.fn f',?_⟩
 rw[show Fence.wide.round=none from rfl,Oper.semAt_none,o2]
 show Code.wpIn Fence.wide 1 P B _ ({tmps:=(a1.put (some t) clo).tmps,defers:=d::(a1.put (some t) clo).defers}:Act) w1
 rw[EL,hd1]
 refine wpIn_mono (hB w1 M G3 g1 I1 muc {tmps:=(a1.put (some t) clo).tmps,defers:=[d]} w1 ⟨hsz,BJ.refl _ _ _ _,henv,⟨g3.blk,g3.loc,g3.inj,g3.fresh,g3.lt,g3.os,g3.tape,g3.output,g3.grown,g3.old,g3.iold,g3.inew,g3.keep,g3.used⟩⟩) ?_
 rintro e a2 w2 ⟨x,s2,I2,mu2,hq2,he2,R2⟩
 have hd2:a2.defers=[d]:=by
  obtain⟨rs,d0,d1,_⟩:=R2.defers
  rw[d0 rfl] at d1;exact d1
 have hold:∀ k,I1 k->w2.heap[k]? =w1.heap[k]?:=fun k hk=>R2.w.old k (R1.w.lt k hk) (fun hM=>g7 k hM hk)
 have fin:SZ P fn.results.toList g cs rB HB' .ret s2->LeavesInM Fence.wide 1 P fn a2.tmps (fun e w'=>∃ v I' mu',e=.returned v/\Rep w' I' mu' r v/\Ap w M0 G0 (frN 4) I' mu' (Ad H') w') a2.defers .returning w2:=by
  rintro⟨rD,csD,HD,HD',hD,q1,q2,q3,q4,q5,dd,q6,q7⟩
  rw[hd2]
  have hcs2:Bc w2 I2 mu2 (BZ rD csD) (caps.toList.map a1.eval):=by
   rw[<-q1]
   refine⟨g4.1,fun i hi=>?_⟩
   have h1:=g4.2 i hi
   have hnd:nd cs i=AV (fun b=>b) (nd cs i):=by
    have:=BO (r:=fun b=>b) hi
    rw[c3] at this;exact this
   have h2:Rep w1 I1 mu2 (nd cs i) (nv (caps.toList.map a1.eval) i):=Rep.ren (r:=fun b=>b) (n:=0) (fun b x hb hx=>by
    have hb':b%2=1:=by simpa[okN] using hb
    exact R2.w.keep b x hb' (g8 b x hb' hx)) h1 hnd (Eb c2 i)
   exact h2.mono hold (fun k hk=>R2.w.iold k (g6 k hk)) (fun _ _ h=>h)
  obtain⟨M4,G4,muc4,⟨f1,f2,f3,f4,f5,_⟩,hback4⟩:=X7 (id:=2*s2.nx) rD (show GA P w1 M G3 from g1) R2.w (fun j hj=>⟨by omega,by show 2*s2.nx<=2*s2.nx+2*j;omega⟩) (fun _ _=>rfl) hcs2 q2 q3 q4
  have hinv:(invoke (.fn (.func g) (caps.map a1.eval)) #[]).run P w2=.ok (.enter g (caps.toList.map a1.eval).toArray) w2:=by
   have e1:#[]++caps.map a1.eval=(caps.toList.map a1.eval).toArray:=by apply Array.ext';simp
   simp only[invoke]
   exact(congrArg (fun z=>(callFunc g z).run P w2) e1).trans (AZ hD.1 _ w2)
  refine⟨by simp,.inr ⟨fun h=>(by cases h),Fn.func g,caps.map a1.eval,g,_,rfl,hinv,fun f' _=>G3.fn f',(hD.2 w2 M4 G4 I2 muc4 _ .returning f1 f2 f3 f4).mono ?_⟩⟩
  rintro e u' w3 ⟨rfl,v,I3,mu3,rfl,R3⟩
  obtain⟨mu4,e4,R4,_⟩:=hback4 .any HD' v w3 I3 mu3 q5 (.any _) R3
  have hout:(fun b=>AO b (s2.fs.hp b) (Ce (2*s2.nx) rD HD .any HD').up)=Ad (E2 s2.hp (DK (2*s2.nx) rD HD HD')):=by
   funext b;rw[EE];rfl
  rw[hout] at R4
  have R4':=R4.less (fr':=frN (s2.nx+4)) fun b hb=>⟨⟨hb.1,by have:=hb.2;omega⟩,fun j hj=>by have:=hb.2;omega⟩
  obtain⟨v5,h5,h6⟩:=GJ (P:=P) (a:=a2) (w:=w3) (I:=I3) (mu:=mu4) (w0:=w1) (M0:=M) (I0:=⟨G3.st,G3.nm,a2.defers,Fence.wide,1,.inl rfl⟩) (fr:=frN (s2.nx+4)) (nt:=nt) (s:=⟨s2.env,E2 s2.hp (DK (2*s2.nx) rD HD HD'),s2.nx+4⟩)
   ⟨R2.size,BJ.refl _ _ _ _,fun t'=>(R2.env t').ext e4,⟨R4'.blk,R4'.loc,R4'.inj,R4'.fresh,R4'.lt,R4'.os,R4'.tape,R4'.output,R4'.grown,R4'.old,R4'.iold,R4'.inew,R4'.keep,R4'.used⟩⟩ fn q6
  obtain⟨I6,mu6,R6⟩:=q7 w1 M G2 1 I3 mu4 {tmps:=#[v5],defers:=G2.dl} w3 ⟨rfl,BJ.refl _ _ _ _,fun t'=>by
   cases t' with
   |zero=>simpa [St.fs,Env.get] using h6
   |succ t'=>simp [St.fs,Env.get];exact .any _,⟨R4'.blk,R4'.loc,R4'.inj,R4'.fresh,R4'.lt,R4'.os,R4'.tape,R4'.output,R4'.grown,R4'.old,R4'.iold,R4'.inew,R4'.keep,R4'.used⟩⟩
  have r0:Rep w3 I6 mu6 rB v5:=by simpa[St.fs,Env.get] using R6.env 0
  obtain⟨mu7,e7,R7,h7,_⟩:=hback rB HB' v5 w3 I6 mu6 c8 r0 R6.w
  have hout7:(fun b=>AO b (s1.fs.hp b) (Ce (2*s1.nx) r1 HB rB HB').up)=Ad (E2 s1.hp (DK (2*s1.nx) r1 HB HB')):=by
   funext b;rw[EE];rfl
  rw[hout7] at R7
  have R7':=R7.less (fr':=frN (s1.nx+4)) fun b hb=>⟨⟨hb.1,by have:=hb.2;omega⟩,fun j hj=>by have:=hb.2;omega⟩
  obtain⟨I8,mu8,R8⟩:=hW w M0 G 1 I6 mu7 {tmps:=#[v5],defers:=[]} w3 ⟨rfl,BJ.refl _ _ _ _,fun t'=>by
   cases t' with
   |zero=>simpa [St.fs,Env.get,Ce] using h7
   |succ t'=>simp [St.fs,Env.get];exact .any _,R7'⟩
  have r8:Rep w3 I8 mu8 r v5:=by simpa[St.fs,Env.get] using R8.env 0
  exact⟨v5,h5,v5,I8,mu8,rfl,r8,⟨R8.w.blk,R8.w.loc,R8.w.inj,R8.w.fresh,R8.w.lt,R8.w.os,R8.w.tape,R8.w.output,R8.w.grown,R8.w.old,R8.w.iold,R8.w.inew,R8.w.keep,R8.w.used⟩⟩
 cases x<;>cases e<;>simp only[FK] at he2<;>simp only[SZ] at hq2
 ·exact fin hq2
 ·exact fin hq2
attribute [irreducible] QM
section
variable{P:Program}{ops:Array Oper}{nx:Nat}{l:List Oper}{pos:Nat}{acc:List Eff}{s:St}{K:List Eff->St->Prop}
theorem A1.does{dst:Option Tmp}{op:Op}{T:TypeId}{ps:String}{af:Array Edge}{e:Eff}(h:AC P ⟨dst,op,T,ps,af,none⟩ (2*(nx+4*pos)) (evO P s.env.get) (Ad s.hp) e)(hk:GoS P ops nx l (pos+1) (e::acc) (s.app dst e) K):A1 P ops nx (⟨dst,op,T,ps,af,none⟩::l) pos acc s K:=by
 rw[Cb] at hk;rw[Bj]
 unfold Bz
 exact .inl ⟨e,Bd.plain rfl h,by have:=Go.run hk;unfold Bz at this;exact this⟩
theorem A1.assert{dst:Option Tmp}{x:Operand}{T xt t:TypeId}{ps:String}{af:Array Edge}{d:D}(hx:evO P s.env.get x=.iface t d)(hr:∀ v w,(Instr.typeAssert (.iface t v) xt t true).run P w=.ok (.tuple #[v,.bool true]) w)
  (hk:GoS P ops nx l (pos+1) (⟨.tup [d,.val (.bool true)],[],[]⟩::acc) (s.app dst ⟨.tup [d,.val (.bool true)],[],[]⟩) K):A1 P ops nx (⟨dst,.typeAssert x xt t true,T,ps,af,none⟩::l) pos acc s K:=by
 refine A1.does (AC.quiet fun _ _ _ _ I mu _ a w _ hxs _=>?_) hk
 have hxr:=hxs x (by simp[Op.operands])
 rw[hx] at hxr
 generalize he:a.eval x=v at hxr
 cases hxr with
 |iface _ _ u h=>
 refine⟨.tuple #[u,.bool true],by simp only[execOp,he,A0e,hr,Result.andThen,Sem.run_map,A0j],.tup _ [u,.bool true] rfl fun i hi=>?_⟩
 match i,hi with
 |0,_=>exact h
 |1,_=>exact .val _ trivial
theorem A1.ifNil{dst:Option Tmp}{x y:Operand}{T t1 t2 t:TypeId}{ps:String}{af:Array Edge}{d:D}(hx:evO P s.env.get x=.iface t d)(hy:evO P s.env.get y=.val .nilIface)(hr:∀ (a:Act) v w,a.eval x=.iface t v->a.eval y=.nilIface->(execOp a.eval ⟨dst,.binOp .eql t1 x y t2,T,ps,af,none⟩).run P w=.ok (.value (.bool false)) w)
  (hk:GoS P ops nx l (pos+1) (⟨.val (.bool false),[],[]⟩::acc) (s.app dst ⟨.val (.bool false),[],[]⟩) K):A1 P ops nx (⟨dst,.binOp .eql t1 x y t2,T,ps,af,none⟩::l) pos acc s K:=by
 refine A1.does (AC.quiet fun _ _ _ _ I mu _ a w _ hxs _=>?_) hk
 have hxr:=hxs x (by simp[Op.operands])
 have hyr:=hxs y (by simp[Op.operands])
 rw[hx] at hxr
 rw[hy] at hyr
 have hyv:=hyr.val_inv
 generalize he:a.eval x=v at hxr
 cases hxr with
 |iface _ _ u h=>exact ⟨.bool false,hr a u w he hyv,.val _ trivial⟩
theorem A1.nilNil{dst:Option Tmp}{x y:Operand}{T t1 t2:TypeId}{ps:String}{af:Array Edge}(hx:evO P s.env.get x=.val .nilIface)(hy:evO P s.env.get y=.val .nilIface)(hr:∀ (a:Act) w,a.eval x=.nilIface->a.eval y=.nilIface->(execOp a.eval ⟨dst,.binOp .eql t1 x y t2,T,ps,af,none⟩).run P w=.ok (.value (.bool true)) w)
  (hk:GoS P ops nx l (pos+1) (⟨.val (.bool true),[],[]⟩::acc) (s.app dst ⟨.val (.bool true),[],[]⟩) K):A1 P ops nx (⟨dst,.binOp .eql t1 x y t2,T,ps,af,none⟩::l) pos acc s K:=by
 refine A1.does (AC.quiet fun _ _ _ _ I mu _ a w _ hxs _=>?_) hk
 have hxr:=hxs x (by simp[Op.operands])
 have hyr:=hxs y (by simp[Op.operands])
 rw[hx] at hxr
 rw[hy] at hyr
 exact⟨.bool true,hr a w hxr.val_inv hyr.val_inv,.val _ trivial⟩
end
def RecU(w:World)(I:Nat->Prop)(mu:Nat->Option Value):Option D->FrameMode->FrameMode->Prop
 |none,u,u'=>u=.returning/\u'=.returning
 |some d,u,u'=>∃ v,Rep w I mu d v/\u=.panicking [{v,recovered:=false}]/\u'=.panicking [{v,recovered:=true}]
theorem wpIn_n{n m:Nat}{P:Program}{c:Code}{Q:Exit->Act->World->Prop}{a:Act}{w:World}(h:c.wpIn Fence.wide n P Q a w):c.wpIn Fence.wide m P Q a w:=
 fun b k cs h1 h2 _=>h b k cs h1 h2 (fun d hd=>by cases hd)
def QL(P:Program)(f:FuncId)(cs:List D)(o:Option D)(H H':Hp):Prop:=
 Bl P f=true/\∀ (w:World) (M0:Nat->Prop) (G:Gh) (I:Nat->Prop) (mu:Nat->Option Value) (vs:List Value) (u u':FrameMode),GA P w M0 G->G.dl=[]->Ap w M0 G (frN 4) I mu (Ad H) w->Bc w I mu cs vs->RecU w I mu o u u'->
  CallsDIn Fence.wide 0 P f vs.toArray u w fun e u'' w'=>u''=u'/\∃ v I' mu',e=.returned v/\Ap w M0 G (frN 4) I' mu' (Ad H') w'
def recD:Option D->D
 |none=>.val .nilIface
 |some d=>d
theorem QL.of_awp{P:Program}{nt:Nat}{f:FuncId}{fn:Func}{B:Code}{ds:List D}{o:Option D}{H H':Hp}{id t:Nat}{ts:Array TypeId}{T:TypeId}{ps:String}{af:Array Edge}(hf:P.funcs[f]? =some fn)
  (hb:fn.body=some (.seq (.region id #[⟨some t,.call {callee:=.builtin .recover,args:=#[],argTypes:=ts},T,ps,af,none⟩] false) B)) (hn:fn.ntmps=nt) (hent:Bl P f=true) (hlen:ds.length<=nt) (ht:t<nt) {rs:List ResultVar} (hrs:fn.results.toList=rs)
  (h:AWp P nt B (MY P rs (.tup []) H') ⟨(t,recD o)::Be 0 ds,H,4⟩):QL P f ds o H H':=by
 subst hrs
 refine⟨hent,fun w M0 G0 I mu vs u u' hga hdl hw hrep hu=>?_⟩
 let G:Gh:=⟨G0.st,G0.nm,[],Fence.wide,1,.inl rfl⟩
 refine callsDIn_of_wpSIn (n:=0) hf hb trivial fun c₀ cs hc₀=>?_
 obtain⟨v,c₁,hv,hrec,hc₁⟩:∃ (v:Value) (c₁:Frame),Rep w I mu (recD o) v/\(match recoverD (c₀::cs) with|some (x,cs')=>x=v/\cs'=c₁::cs|none=>v=.nilIface/\c₁=c₀)/\c₁= {c₀ with mode:=u'}:=by
  cases o with
  |none=>
   obtain⟨rfl,rfl⟩:=hu
   refine⟨.nilIface,c₀,.val _ trivial,?_,?_⟩
   ·simp[recoverD,hc₀]
   ·rw[<-hc₀]
  |some d=>
   obtain⟨v,hv,rfl,rfl⟩:=hu
   refine⟨v,{c₀ with mode:=.panicking [{v,recovered:=true}]},hv,?_,rfl⟩
   simp[recoverD,hc₀]
 have hrun:(execOp ({tmps:=vs.toArray++Array.replicate (fn.ntmps-vs.toArray.size) undef,defers:=[]}:Act).eval ⟨some t,.call {callee:=.builtin .recover,args:=#[],argTypes:=ts},T,ps,af,none⟩).run P w=.ok .recover w:=by
  simp only[execOp,resolve,A0e,A0j,Result.andThen,invoke]
  rfl
 have hsize:(vs.toArray++Array.replicate (fn.ntmps-vs.toArray.size) undef).size=nt:=by
  have:=hrep.1;simp[hn];omega
 have hbody:Code.wpSIn Fence.wide 0 P B (bodyPostS P fn c₀ cs fun e u'' w'=>u''=u'/\∃ v I' mu',e=.returned v/\Ap w M0 G0 (frN 4) I' mu' (Ad H') w') (({tmps:=vs.toArray++Array.replicate (fn.ntmps-vs.toArray.size) undef,defers:=[]}:Act).put (some t) v) (c₁::cs) w:=by
  refine wpSIn_of_wpIn rfl (wpIn_n (n:=1) (wpIn_mono (h w M0 G hga I mu _ w ⟨by rw[Fv];exact hsize,BJ.refl _ _ _ _,fun t'=>?_,⟨hw.blk,hw.loc,hw.inj,hw.fresh,hw.lt,hw.os,hw.tape,hw.output,hw.grown,hw.old,hw.iold,hw.inew,hw.keep,hw.used⟩⟩) ?_))
  ·have:=Le (env:=(Be 0 ds).get) (dst:=some t) (d:=recD o) (v:=v) hsize (fun t'' h=>by cases h;exact ht) (fun t''=>Ff hrep _ t'') hv {tmps:=vs.toArray++Array.replicate (fn.ntmps-vs.toArray.size) undef,defers:=[]} rfl t'
   show Rep w I mu (Env.get ((t,recD o)::Be 0 ds) t') _
   simp only[Env.get]
   by_cases hh:t=t'
   ·subst hh;simp only[beq_self_eq_true,cond_true];simpa using this
   ·have h2:(t==t')=false:=by simpa using hh
    simp only[h2,cond_false]
    rw[if_neg (by simpa using hh)] at this;exact this
  ·rintro e a' w' ⟨x,s',I',mu',hq,he,r'⟩
   have hd':a'.defers=[]:=by
    obtain⟨rs,d0,d1,_⟩:=r'.defers
    rw[d0 rfl] at d1;exact d1
   have fin:∀ d,J9 P s' fn.results.toList=some d->Ar ⟨[(0,d)],s'.hp,s'.nx⟩ ⟨[(0,.tup [])],H',4⟩->a'.defers=[]/\∃ u'',c₁::cs= {c₀ with mode:=u''}::cs/\∃ v,(results fn a'.tmps).run P w'=.ok v w'/\(u''=u'/\∃ v' I' mu',Ending.returned v=.returned v'/\Ap w M0 G0 (frN 4) I' mu' (Ad H') w'):=by
    intro d hd hwk
    obtain⟨v',q1,q2⟩:=GJ (P:=P) (a:=a') (w:=w') (I:=I') (mu:=mu') (w0:=w) (M0:=M0) (I0:=G) (fr:=frN s'.nx) (nt:=nt) (s:=s') r' fn hd
    obtain⟨I3,mu3,R3⟩:=hwk w M0 G 1 I' mu' {tmps:=#[v'],defers:=[]} w' ⟨rfl,BJ.refl _ _ _ _,fun t=>by
     cases t with
     |zero=>simpa [St.fs,Env.get] using q2
     |succ t=>simp [St.fs,Env.get];exact .any _,r'.w⟩
    exact⟨hd',u',by rw[hc₁],v',q1,rfl,v',I3,mu3,rfl,⟨R3.w.blk,R3.w.loc,R3.w.inj,R3.w.fresh,R3.w.lt,R3.w.os,R3.w.tape,R3.w.output,R3.w.grown,R3.w.old,R3.w.iold,R3.w.inew,R3.w.keep,R3.w.used⟩⟩
   cases x<;>cases e<;>simp only[FK] at he<;>simp only[MY] at hq
   case normal.normal=>
    obtain⟨d,hd,hfr⟩:=hq
    exact fin d hd hfr
   case ret.ret=>
    obtain⟨d,hd,hfr⟩:=hq
    exact fin d hd hfr
 refine wpSIn_seq (wpSIn_region ?_)
 show wpOpsSIn Fence.wide 0 P _ _ [0] _ _ _
 simp only[wpOpsSIn,A1b,A0U,Region.wanted,if_true,hrun]
 refine⟨fun _ _=>trivial,?_⟩
 cases hr:recoverD (c₀::cs) with
 |none=>
  rw[hr] at hrec
  obtain⟨h1,h2⟩:=hrec
  rw[h1,h2] at hbody
  exact hbody
 |some p=>
  obtain⟨x,cs'⟩:=p
  rw[hr] at hrec
  obtain⟨h1,h2⟩:=hrec
  subst h1 h2
  exact hbody
end Go.Ab
namespace Go.Ab
open Go.Proofs Go.Proofs.Tryz
abbrev wD(c:Int):D:=.iface 124 (.agg [.val (.int .i64 c)])
theorem DX(c:Int):A0 prog 62 [.val (.bool true),.val (.int .i64 c)] (.tup []):=by
 refine Zf [] func62 rfl ntmps62 results62 ?_
 ((try push_cast)<;>repeat' (first|apply Zi<;>intro _|exact Zp|with_reducible apply Za)<;>try push_cast)
theorem PU(c:Int):EZ prog 62 [.val (.bool false),.val (.int .i64 c)] (wD c):=by
 refine EZ.of_awp func62 rfl ntmps62 (by kernel_rfl) (by simp) (AWp.sz fun H Hb=>Zy ?_)
 (have z:=trivial;(try push_cast)<;>repeat' (first|apply Zi<;>intro _|exact Zp|with_reducible apply Za|(with_reducible show A1 _ _ _ _ _ _ _ _;refine A1.panicOp (by(try push_cast);rfl) ?_)|fail)<;>try push_cast)
 ·kernel_rfl
 ·exact⟨Am _,rfl⟩
theorem Qr:A0 prog 65 [.val (.int .i64 0)] (.tup []):=by
 refine Zf [] func65 rfl ntmps65 results65 ?_
 (have z:=trivial;(try push_cast)<;>repeat' (first|apply Zi<;>intro _|refine Zc (DX ..) ?_|exact Zp|with_reducible apply Za)<;>try push_cast)
theorem YM(c:Int)(hc:c≠0):EZ prog 65 [.val (.int .i64 c)] (wD c):=by
 have b1:(c==0)=false:=by simpa using hc
 refine EZ.of_awp func65 rfl ntmps65 (by kernel_rfl) (by simp) (AWp.sz fun H Hb=>Zy ?_)
 (have z:=b1;(try push_cast[z])<;>repeat' (first|apply Zi<;>intro _|exact Zo|with_reducible apply Za|(with_reducible show A1 _ _ _ _ _ _ _ _;refine A1.pan (by(try push_cast[z]);exact PU ..) rfl (by first|rfl|push_cast [z]) rfl ?_)<;>try push_cast[z]|fail)<;>try push_cast[z])
 exact⟨Am _,rfl⟩
mutual
def Dn:GM->Nat
 |.mk _ _ _ _ _ _ _ _ l=>1+C8 l
def C8:List GM->Nat
 |[]=>0
 |m::l=>Dn m+C8 l
end
theorem Fs(m:GM):Dn m=1+C8 m.list:=by cases m;simp[Dn,GM.list]
theorem Fg:∀ (a b:List GM),C8 (a++b)=C8 a+C8 b
 |[],b=>by simp[C8]
 |x::a,b=>by simp only[A0c,C8,Fg a b];omega
theorem Ri{l:List GM}{i:Nat}(h:i<l.length):C8 (l.take (i+1))=C8 (l.take i)+Dn (l.getD i zU)/\C8 (l.take (i+1))<=C8 l:=by
 have e:l.getD i zU=l[i]:=by rw[A02,A09 h];rfl
 have h1:C8 (l.take (i+1))=C8 (l.take i)+Dn (l.getD i zU):=by
  rw[A1s,A09 h,Fg,e];simp[C8]
 refine⟨h1,?_⟩
 conv=>rhs;rw[<-A12 (i+1) l,Fg]
 omega
theorem Ly:∀ l:List GM,l.length<=C8 l
 |[]=>by simp
 |m::l=>by have:=Ly l;have:=Fs m;simp only[C8,A0g];omega
theorem Vy(m:GM)(hz:Dn m<=1099511627776):A0 prog 35 [.agg (Ao m)] (.val (.int .i64 (Dn m:Nat))):=by
 have hrec:∀ x,SizeOf.sizeOf x<SizeOf.sizeOf m->Dn x<=1099511627776->A0 prog 35 [.agg (Ao x)] (.val (.int .i64 (Dn x:Nat))):=fun x hx h=>Vy x h
 have hln:=Ly m.list
 rw[Fs] at hz|-
 rw[Bt,A4 m.was,A4 m.value]
 simp only[A0c,A0m,A0b]
 refine Zf [0] func35 rfl ntmps35 results35 ?_
 ((try push_cast)<;>repeat' (first|apply Zi<;>intro _|exact Zp|with_reducible apply Za)<;>try push_cast)
 refine Zl (fun i=>i<=m.list.length) (fun i=>⟨[(9,.val (.int .i64 i)),(8,.val (.int .i64 m.list.length)),(7,.slice (m.list.map Ao) false),(3,.val (.int .i64 ((1+C8 (m.list.take i):Nat):Int)))],[],200⟩) (fun i=>m.list.length-i) 0 (by simp) ?_ fun i hi=>?_
 ·apply Zw<;>push_cast
  simp[C8]
 ·push_cast
  refine Af (fun ha=>?_) (fun ha=>?_)
  ·have hi':i<m.list.length:=by simpa using ha
   have e1:=Q3 hi'
   obtain⟨t1,t2⟩:=Ri hi'
   have hr:=hrec (m.list.getD i zU) (GM.list_lt (Aj hi')) (by omega)
   (have z:=e1;(try push_cast[z])<;>repeat' (first|apply Zi<;>intro _|refine Zc (hr ..) ?_|exact Zo|with_reducible apply Za)<;>try push_cast[z])
   all_goals first|omega|skip
   refine⟨i+1,hi',by omega,?_⟩
   apply Zw<;>push_cast
   refine⟨A9 (by omega) (by omega),?_⟩
   rw[t1,A1U,<-Int.add_assoc]
   exact A9 (by omega) (by omega)
  ·have hi':i=m.list.length:=by simp at ha;omega
   subst hi'
   ((try push_cast)<;>repeat' (first|apply Zi<;>intro _|exact Zp|with_reducible apply Za)<;>try push_cast)
   all_goals first|omega|skip
   rw[A1h]
termination_by SizeOf.sizeOf m
abbrev C5:=Bool×GV
def CP(s:C5):List D:=.val (.bool s.1)::A5 s.2
theorem Cr(b:Bool)(v:GV):CP (b,v)=.val (.bool b)::A5 v:=rfl
theorem CY(s:C5):Ag (CP s)=true:=by simp only[CP,Ag,D.pure,BS,A0M]
theorem VZ(s:C5):(CP s).all AN=true:=by simp only[CP,List.all_cons,JL,A1N];rfl
theorem Jn(s:C5):(CP s).length=7:=by simp[CP,AY]
abbrev CE:=ByteArray×Nat×C5
def CI(e:CE):Value×Nat×D:=(.string e.1,e.2.1,.agg (CP e.2.2))
theorem encC_mk(k:ByteArray)(n:Nat)(s:C5):CI (k,n,s)=(.string k,n,.agg (CP s)):=rfl
def BI(k:ByteArray):List CE->Nat->Option (Nat×C5)
 |[],_=>none
 |e::es,i=>if k=e.1 then some (i,e.2.2) else BI k es (i+1)
theorem AU(k:ByteArray):∀ (es:List CE) (i:Nat),DE .str (.string k) (es.map CI) i=some ((BI k es i).map fun p=>(p.1,.agg (CP p.2)))
 |[],i=>rfl
 |e::es,i=>by
  simp only[A0h,DE,CI,keq,BI]
  by_cases h:k=e.1
  ·simp[h]
  ·simp only[h,decide_false,if_false]
   exact AU k es (i+1)
def Jg(es:List CE)(ck:Nat)(k:ByteArray)(s:C5):List CE×Nat:=
 match BI k es 0 with
 |some (i,_)=>(es.modify i fun e=>(e.1,e.2.1,s),ck)
 |none=>(es++[(k,ck,s)],ck+1)
def Ut(es:List CE)(k:ByteArray):List CE:=
 match BI k es 0 with
 |some (i,_)=>es.eraseIdx i
 |none=>es
theorem J7(es:List CE)(i:Nat)(s:C5):LC (es.map CI) i (.agg (CP s))=(es.modify i fun e=>(e.1,e.2.1,s)).map CI:=by
 apply A1B
 intro j
 simp only[LC,A1T,A0x]
 by_cases h:i=j
 ·subst h;cases es[i]? <;>simp [CI]
 ·simp[h]
theorem Ui(es:List CE)(i:Nat):(es.map CI).eraseIdx i=(es.eraseIdx i).map CI:=(Cw CI es i).symm
theorem K9(es:List CE)(ck:Nat)(k:ByteArray)(s:C5):es.map CI++[(.string k,ck,.agg (CP s))]=(es++[(k,ck,s)]).map CI:=by simp[CI]
structure Bw where
 k:ByteArray
 was:Bool
 old:C5
def Cc(u:Bw):D:=.func (.func 240) [] [.ptr [.val (.bool u.was)] 0,.ptr (CP u.old) 0,.ptr [.ref 1 0 0 3] 0,.ptr [.val (.string u.k)] 0]
structure OV where
 below:GT
 chg:Option (List CE×Nat)
 und:Option (List Bw)
namespace OV
def chgD(o:OV):D:=match o.chg with
 |none=>.val (.map none)
 |some _=>.mref 2
def chgB(o:OV):Blk:=match o.chg with
 |none=>.junk
 |some (es,ck)=>.map (es.map CI) ck
def undD(o:OV):D:=match o.und with
 |none=>.slice [] true
 |some l=>.gref 4 l.length
def undB(o:OV):Blk:=match o.und with
 |none=>.junk
 |some l=>.grow (l.map fun u=>[Cc u]) 1
end OV
namespace OV
def step(o:OV)(k:ByteArray)(s:C5):OV:=
 let m:=o.chg.getD ([],0)
 let old:=BI k m.1 0
 ⟨o.below,some (Jg m.1 m.2 k s),some (o.und.getD []++[⟨k,old.isSome,(old.map (·.2)).getD (false,zV)⟩])⟩
end OV
def ovH(o:OV):Hp:=[(1,.rows [[Ac o.below,o.chgD,o.undD]] 3),(2,o.chgB),(4,o.undB)]
theorem PW(b:GT):ovH ⟨b,none,none⟩=[(1,.rows [[Ac b,.val (.map none),.slice [] true]] 3),(2,.junk),(4,.junk)]:=rfl
theorem Ka(b:GT)(es:List CE)(ck:Nat):ovH ⟨b,some (es,ck),none⟩=[(1,.rows [[Ac b,.mref 2,.slice [] true]] 3),(2,.map (es.map CI) ck),(4,.junk)]:=rfl
theorem LT(b:GT)(l:List Bw):ovH ⟨b,none,some l⟩=[(1,.rows [[Ac b,.val (.map none),.gref 4 l.length]] 3),(2,.junk),(4,.grow (l.map fun u=>[Cc u]) 1)]:=rfl
theorem DL(b:GT)(es:List CE)(ck:Nat)(l:List Bw):ovH ⟨b,some (es,ck),some l⟩=[(1,.rows [[Ac b,.mref 2,.gref 4 l.length]] 3),(2,.map (es.map CI) ck),(4,.grow (l.map fun u=>[Cc u]) 1)]:=rfl
theorem Tj(s:C5):(CP s).take 7=CP s:=A08 (by rw[Jn];exact A0a _)
theorem Rx(r:Nat->Nat)(es:List CE):(es.map CI).map (fun p=>(p.1,p.2.1,AV r p.2.2))=es.map CI:=by
 rw[A10]
 refine A13 fun e _=>?_
 simp only[Function.comp,CI]
 rw[Fu r _ (by simp only[D.pure,CY])]
theorem Va(n:Nat)(es:List CE):((es.map CI).all fun p=>ltD n p.2.2)=true:=by
 rw[A0u]
 intro p hp
 obtain⟨e,_,rfl⟩:=A0l.1 hp
 exact GZ n _ (by simp only[CI,D.pure,CY])
theorem K6(r:Nat->Nat)(h:r 1=1)(u:Bw):AV r (Cc u)=Cc u:=by
 simp only[Cc,AV,BZ,h,BR r _ (CY _)]
theorem M7(n:Nat)(u:Bw):ltD n (Cc u)=true:=by
 simp only[Cc,ltD,ltL,okN,Ct n _ (CY _)];rfl
theorem TG(r:Nat->Nat)(h:r 1=1)(l:List Bw):Db r (l.map fun u=>[Cc u])=l.map fun u=>[Cc u]:=by
 rw[E3,A10]
 refine A13 fun u _=>?_
 simp only[Function.comp,BZ,K6 r h]
theorem NI(n:Nat):∀ l:List Bw,Ev n (l.map fun u=>[Cc u])=true
 |[]=>rfl
 |u::l=>by simp only[A0h,Ev,ltL,M7,NI n l,A0M]
theorem S9(hp:Nat->Option Blk)(n:Nat)(u:Bw):frz hp n (Cc u)=Cc u:=by
 match n with
 |0=>rfl
 |1=>rfl
 |n+2=>rfl
theorem Xc(hp:Nat->Option Blk)(n:Nat)(l:List Bw):(l.map fun u=>[Cc u]).map (fun r=>r.map (frz hp n))=l.map fun u=>[Cc u]:=by
 rw[A10]
 refine A13 fun u _=>?_
 simp only[Function.comp,A0h,A0G,S9]
theorem frz_encC(hp:Nat->Option Blk)(n:Nat)(es:List CE):(es.map CI).map (fun p=>(p.1,p.2.1,frz hp n p.2.2))=es.map CI:=by
 rw[A10]
 refine A13 fun e _=>?_
 simp only[Function.comp,CI]
 rw[Ea hp n _ (by simp only[D.pure,CY])]
attribute [push_cast] encC_mk S9 Xc frz_encC
attribute [push_cast] CY VZ Jn Tj Rx Va TG NI K6 M7
theorem c_Mark(o:OV):A2 prog 109 [.ref 1 0 0 3] (ovH o) (.val (.int .i64 ((o.und.getD []).length:Nat))) (ovH o):=by
 obtain⟨b,c,u⟩:=o
 rcases c with _|⟨es,ck⟩<;>rcases u with _|u<;>simp only[PW,Ka,LT,DL,Option.getD_none,A0J,A0t]
 all_goals
  refine Zb [] func109 rfl ntmps109 results109 fun H Hb=>?_
  ((try push_cast)<;>repeat' (first|apply Zi<;>intro _|exact Zp|with_reducible apply Za)<;>try push_cast)
  all_goals first|(apply Zw<;>push_cast)|(have hb4:=Hb 4 _ rfl;push_cast at hb4;exact hb4.1)
theorem step_nn(b:GT)(k:ByteArray)(s:C5):OV.step ⟨b,none,none⟩ k s=⟨b,some ([(k,0,s)],1),some [⟨k,false,(false,zV)⟩]⟩:=rfl
theorem step_ns(b:GT)(k:ByteArray)(s:C5)(u:List Bw):OV.step ⟨b,none,some u⟩ k s=⟨b,some ([(k,0,s)],1),some (u++[⟨k,false,(false,zV)⟩])⟩:=rfl
theorem Rg{b:GT}{k:ByteArray}{s:C5}{es:List CE}{ck:Nat}(h:BI k es 0=none)(u:Option (List Bw)):OV.step ⟨b,some (es,ck),u⟩ k s=⟨b,some (es++[(k,ck,s)],ck+1),some (u.getD []++[⟨k,false,(false,zV)⟩])⟩:=by simp[OV.step,Jg,h]
theorem Rf{b:GT}{k:ByteArray}{s old:C5}{es:List CE}{ck i:Nat}(h:BI k es 0=some (i,old))(u:Option (List Bw)):OV.step ⟨b,some (es,ck),u⟩ k s=⟨b,some (es.modify i fun e=>(e.1,e.2.1,s),ck),some (u.getD []++[⟨k,true,old⟩])⟩:=by simp[OV.step,Jg,h]
theorem Dg(k:ByteArray):lo (D.func (.func 240) [] [.ptr [.val (.bool false)] 0,.ptr [.val (.bool false),.val (.int .i64 0),.val (.bool false),.val (.int .i64 0),.val (.string ByteArray.empty),.slice [] true,.slice [] true] 0,.ptr [.ref 1 0 0 3] 0,.ptr [.val (.string k)] 0]) (Cc ⟨k,false,(false,zV)⟩)=True:=by
 simp[Cc,CP,zV,A5,H5,H8,lo,loL,DR]
theorem E8(k:ByteArray)(old:C5):lo (D.func (.func 240) [] [.ptr [.val (.bool true)] 0,.ptr (CP old) 0,.ptr [.ref 1 0 0 3] 0,.ptr [.val (.string k)] 0]) (Cc ⟨k,true,old⟩)=True:=eq_true (Am _)
theorem c_step(o:OV)(k:ByteArray)(s:C5)(hn:(o.und.getD []).length<1073741824):A2 prog 169 [.ref 1 0 0 3,.val (.string k),.agg (CP s)] (ovH o) (.tup []) (ovH (o.step k s)):=by
 obtain⟨b,c,u⟩:=o
 cases c with
 |none=>
  cases u with
  |none=>
   rw[PW,step_nn,DL]
   refine Zd [8,16,24,32,184,192] func169 rfl ntmps169 results169 ?_
   ((try push_cast)<;>repeat' (first|apply Zi<;>intro _|exact Zp|with_reducible apply Za)<;>try push_cast)
   all_goals first|(simp;done)|skip
   apply Zr [(2,80),(4,272)] rfl<;>push_cast [Dg]
  |some u=>
   simp only[A0J] at hn
   rw[LT,step_ns,DL]
   refine Zd [8,16,24,32,184,192] func169 rfl ntmps169 results169 ?_
   ((try push_cast)<;>repeat' (first|apply Zi<;>intro _|exact Zp|with_reducible apply Za)<;>try push_cast)
   all_goals first|omega|(simp[AN];done)|skip
   apply Zr [(2,80),(4,272)] rfl<;>push_cast [Dg,E8,A0K,A04,List.all_append]
 |some c=>
  obtain⟨es,ck⟩:=c
  cases hf:BI k es 0 with
  |none=>
   rw[Rg hf]
   cases u with
   |none=>
    rw[Ka,DL]
    refine Zd [8,16,24,144,152] func169 rfl ntmps169 results169 ?_
    (have z:=Za @AU<|Za hf @K9;(try push_cast[z])<;>repeat' (first|apply Zi<;>intro _|exact Zo|with_reducible apply Za)<;>try push_cast[z])
    all_goals first|(simp;done)|skip
    apply Zr [(4,232)] rfl<;>push_cast [Dg,E8,Option.getD_none]
   |some u=>
    simp only[A0J] at hn|-
    rw[DL,DL]
    refine Zd [8,16,24,144,152] func169 rfl ntmps169 results169 ?_
    (have z:=Za @AU<|Za hf @K9;(try push_cast[z])<;>repeat' (first|apply Zi<;>intro _|exact Zo|with_reducible apply Za)<;>try push_cast[z])
    all_goals first|omega|(simp[AN];done)|skip
    apply Zr [(4,232)] rfl<;>push_cast [Dg,E8,A0K,A04,List.all_append]
  |some p=>
   obtain⟨i,old⟩:=p
   rw[Rf hf]
   cases u with
   |none=>
    rw[Ka,DL]
    refine Zd [8,16,24,144,152] func169 rfl ntmps169 results169 ?_
    (have z:=Za @AU<|Za hf @J7;(try push_cast[z])<;>repeat' (first|apply Zi<;>intro _|exact Zo|with_reducible apply Za)<;>try push_cast[z])
    all_goals first|(simp;done)|skip
    apply Zr [(4,232)] rfl<;>push_cast [Dg,E8,Option.getD_none]
   |some u=>
    simp only[A0J] at hn|-
    rw[DL,DL]
    refine Zd [8,16,24,144,152] func169 rfl ntmps169 results169 ?_
    (have z:=Za @AU<|Za hf @J7;(try push_cast[z])<;>repeat' (first|apply Zi<;>intro _|exact Zo|with_reducible apply Za)<;>try push_cast[z])
    all_goals first|omega|(simp[AN];done)|skip
    apply Zr [(4,232)] rfl<;>push_cast [Dg,E8,A0K,A04,List.all_append]
theorem MN(l:List GE)(t:Bool)(hl:l.length<=1048576)(hs:∀ e ∈ l,Sm e.2):A2 prog 166 [.slice (l.map A7) t] [] (.sref 0 0 l.length l.length 7) [(0,.rows (l.map A7) 7)]:=by
 refine Zd [] func166 rfl ntmps166 results166 ?_
 ((try push_cast)<;>repeat' (first|apply Zi<;>intro _|exact Zp|with_reducible apply Za)<;>try push_cast)
 all_goals first|omega|skip
 refine Zl (fun i=>i<=l.length) (fun i=>⟨[(11,.val (.int .i64 i)),(10,.val (.int .i64 l.length)),(9,.slice (l.map A7) t),(3,.sref 32 0 l.length l.length 7)],[(32,.rows (G6 A7 z7 l i) 7)],36⟩) (fun i=>l.length-i) 0 (by simp) ?_ fun i hi=>?_
 ·rw[FE A7 z7 l]
  apply Zw<;>push_cast [Bg]
 ·push_cast
  refine Af (fun ha=>?_) (fun ha=>?_)
  ·have hi':i<l.length:=by simpa using ha
   have e1:=Bk hi'
   have e2:=Jt A7 z7 l hi'
   have hr:=Hd (l.getD i zM).2 (hs _ (Aj hi'))
   have e3:=H2 A7 z7 l zM hi'
   (have z:=Za e1<|Za e2 @Ah;(try push_cast[z])<;>repeat' (first|apply Zi<;>intro _|refine Zc (hr ..) ?_|exact Zo|with_reducible apply Za)<;>try push_cast[z])
   all_goals first|omega|skip
   refine⟨i+1,hi',by omega,?_⟩
   apply Zw<;>push_cast [e3,e2,<-Ah]
   all_goals first|exact A9 (by omega) (by omega)|skip
  ·have hi':i=l.length:=by simp at ha;omega
   subst hi'
   (have z:=(H3 A7 z7 l (A0a _));(try push_cast[z])<;>repeat' (first|apply Zi<;>intro _|exact Zo|with_reducible apply Za)<;>try push_cast[z])
   apply Zr [(0,32)] rfl<;>push_cast
def GT.size(t:GT):Nat:=t.es.length+t.kids.length
theorem Qv(t:GT)(h:t.size<=4611686018427387904):A0 prog 159 [Ac t] (.val (.int .i64 t.size)):=by
 cases t with
 |nil=>
  rw[B4]
  refine Zf [] func159 rfl ntmps159 results159 ?_
  ((try push_cast)<;>repeat' (first|apply Zi<;>intro _|exact Zp|with_reducible apply Za)<;>try push_cast)
  all_goals simp[GT.size,GT.es,GT.kids]
 |node e k hh c f l th=>
  rw[AW]
  simp only[GT.size,GT.es,GT.kids] at h
  refine Zf [] func159 rfl ntmps159 results159 ?_
  ((try push_cast)<;>repeat' (first|apply Zi<;>intro _|exact Zp|with_reducible apply Za)<;>try push_cast)
  simp only[GT.size,GT.es,GT.kids]
  rw[A9 (by omega) (by omega)];simp
def GT.sound(t:GT)(root:Bool):Bool:=match t with
 |.nil=>root
 |t=>!t.thin&&(root ||decide (4<=t.size))
theorem c_Sound(t:GT)(root:Bool)(h:t.size<=4611686018427387904):A0 prog 236 [Ac t,.val (.bool root)] (.val (.bool (t.sound root))):=by
 cases t with
 |nil=>
  rw[B4]
  refine Zf [] func236 rfl ntmps236 results236 ?_
  ((try push_cast)<;>repeat' (first|apply Zi<;>intro _|exact Zp|with_reducible apply Za)<;>try push_cast)
  all_goals first|rfl|simp [GT.sound]
 |node e k hh c f l th=>
  have hz:=Qv (.node e k hh c f l th) h
  simp only[GT.size,GT.es,GT.kids] at hz
  rw[AW] at hz|-
  refine Zf [] func236 rfl ntmps236 results236 ?_
  (have z:=trivial;(try push_cast)<;>repeat' (first|apply Zi<;>intro _|refine Zc (hz ..) ?_|exact Zp|with_reducible apply Za)<;>try push_cast)
  all_goals simp_all [GT.sound,GT.thin,GT.size,GT.es,GT.kids]
  exact decide_eq_decide.2 (by omega)
theorem Gf(t:GT)(h:t.es=[]):A0 prog 99 [Ac t] (.slice [] true):=by
 cases t with
 |nil=>
  rw[B4]
  refine Zf [] func99 rfl ntmps99 results99 ?_
  ((try push_cast)<;>repeat' (first|apply Zi<;>intro _|exact Zp|with_reducible apply Za)<;>try push_cast)
 |node e k hh c f l th=>
  simp only[GT.es] at h
  subst h
  rw[AW]
  refine Zf [] func99 rfl ntmps99 results99 ?_
  ((try push_cast)<;>repeat' (first|apply Zi<;>intro _|exact Zp|with_reducible apply Za)<;>try push_cast)
theorem Dk(t:GT)(h:t.es≠[])(hl:t.es.length<=1048576)(hs:∀ e ∈ t.es,Sm e.2):A2 prog 99 [Ac t] [] (.sref 0 0 t.es.length t.es.length 7) [(0,.rows (t.es.map A7) 7)]:=by
 cases t with
 |nil=>exact absurd rfl h
 |node e k hh c f l th=>
  simp only[GT.es] at h hl hs|-
  have hn:¬(e.length=0):=fun h'=>h (A0w h')
  rw[AW]
  refine Zd [] func99 rfl ntmps99 results99 ?_
  have he:((e.length:Int)==0)=false:=by simp;omega
  (have z:=he;(try push_cast[z])<;>repeat' (first|apply Zi<;>intro _|refine Zs [] (MN e false hl hs) ?_|exact Zo|with_reducible apply Za)<;>try push_cast[z])
  apply Zr [(0,128)] rfl<;>push_cast
theorem Xs(l:List GE)(t:Bool)(f:Nat)(hl:l.length<=4611686018427387904)(h:∀ i,1<=i->i<l.length->A0 prog f [.agg (A7 (l.getD (i-1) zM)),.agg (A7 (l.getD i zM))] (.val (.bool true))):
  A0 prog 304 [.slice (l.map A7) t,.func (.func f) [] []] (.val (.bool true)):=by
 refine Zf [] func304 rfl ntmps304 results304 ?_
 ((try push_cast)<;>repeat' (first|apply Zi<;>intro _|exact Zp|with_reducible apply Za)<;>try push_cast)
 refine Zl (fun i=>1<=i/\i<=l.length+1) (fun i=>⟨[(5,.val (.int .i64 i)),(1,.func (.func f) [] []),(0,.slice (l.map A7) t)],[],10⟩) (fun i=>l.length+1-i) 1 (by simp) ?_ fun i hi=>?_
 ·apply Zw<;>push_cast
 ·push_cast
  refine Af (fun ha=>?_) (fun ha=>?_)
  ·have hi':i<l.length:=by simpa using ha
   have e0:IntKind.i64.wrap (↑i-1)=((i-1:Nat):Int):=by rw[A9 (by omega) (by omega)];omega
   have e1:=Bk hi'
   have e2:=Bk (show i-1<l.length by omega)
   have hr:=h i hi.1 hi'
   (have z:=Za e0<|Za e1 e2;(try push_cast[z])<;>repeat' (first|apply Zi<;>intro _|refine Zv (hr ..) ?_|exact Zo|with_reducible apply Za)<;>try push_cast[z])
   all_goals first|omega|skip
   refine⟨i+1,by omega,by omega,?_⟩
   apply Zw<;>push_cast
   exact A9 (by omega) (by omega)
  ·((try push_cast)<;>repeat' (first|apply Zi<;>intro _|exact Zp|with_reducible apply Za)<;>try push_cast)
theorem c_Entry(t:GT)(i:Nat)(hi:i<t.es.length)(hs:∀ e ∈ t.es,Sm e.2):A0 prog 179 [Ac t,.val (.int .i64 i)] (.tup [.agg (A7 (t.es.getD i zM)),.val (.bool true)]):=by
 cases t with
 |nil=>exact absurd hi (by simp[GT.es])
 |node e k hh c f l th=>
  simp only[GT.es] at hi hs|-
  have e1:=Bk hi
  have hr:=Hd (e.getD i zM).2 (hs _ (Aj hi))
  have h0:decide ((i:Int)<0)=false:=by simp
  have h1:decide ((e.length:Int)<=i)=false:=by simp;omega
  rw[AW]
  refine Zf [] func179 rfl ntmps179 results179 ?_
  (have z:=Za e1<|Za @Ah<|Za h0 h1;(try push_cast[z])<;>repeat' (first|apply Zi<;>intro _|refine Zc (hr ..) ?_|exact Zo|with_reducible apply Za)<;>try push_cast[z])
  all_goals first|omega|skip
theorem ZL:loL z7 (A7 zM):=by simp[zM,A7,A5,H5,H8,loL,DR,lo]
theorem c_Entry0(t:GT)(i:Nat)(hi:t.es.length<=i)(hm:i<=4611686018427387904):A0 prog 179 [Ac t,.val (.int .i64 i)] (.tup [.agg (A7 zM),.val (.bool false)]):=by
 cases t with
 |nil=>
  rw[B4]
  refine Zf [] func179 rfl ntmps179 results179 ?_
  ((try push_cast)<;>repeat' (first|apply Zi<;>intro _|exact Zp|with_reducible apply Za)<;>try push_cast)
  exact ZL
 |node e k hh c f l th=>
  simp only[GT.es] at hi|-
  have h0:decide ((i:Int)<0)=false:=by simp
  have h1:decide ((e.length:Int)<=i)=true:=by simp;omega
  rw[AW]
  refine Zf [] func179 rfl ntmps179 results179 ?_
  (have z:=Za h0 h1;(try push_cast[z])<;>repeat' (first|apply Zi<;>intro _|exact Zo|with_reducible apply Za)<;>try push_cast[z])
  exact ZL
theorem c_Leaf1(x y:GE):A0 prog 305 [.agg (A7 x),.agg (A7 y)] (.val (.bool (ltS x.1 y.1))):=by
 refine Zf [] func305 rfl ntmps305 results305 ?_
 (have z:=@Ah;(try push_cast[z])<;>repeat' (first|apply Zi<;>intro _|exact Zo|with_reducible apply Za)<;>try push_cast[z])
def AB(l:List GE):GT:=.node l [] 0 l.length (l.getD 0 zM).1 (l.getD (l.length-1) zM).1 false
theorem c_Leaf(l:List GE)(t:Bool)(hl:l.length<=8)(hs:∀ e ∈ l,Sm e.2)(hr:∀ i,1<=i->i<l.length->ltS (l.getD (i-1) zM).1 (l.getD i zM).1=true):
  A0 prog 226 [.slice (l.map A7) t] (.tup [Ac (AB l),.val (.int .i64 0)]):=by
 have h1:=Xs l t 305 (by omega) fun i h h'=>by
  have:=c_Leaf1 (l.getD (i-1) zM) (l.getD i zM)
  rw[hr i h h'] at this
  exact this
 have h0:decide ((8:Int)<l.length)=false:=decide_eq_false (by omega)
 unfold AB
 rw[AW]
 rcases A17 l.length with hz|hz
 ·have h2:decide ((0:Int)<l.length)=false:=decide_eq_false (by omega)
  refine Zf [] func226 rfl ntmps226 results226 ?_
  (have z:=Za h0 h2;(try push_cast[z])<;>repeat' (first|apply Zi<;>intro _|refine Zc h1 ?_|refine Zs [] (MN l t (by omega) hs) ?_|exact Zo|with_reducible apply Za)<;>try push_cast[z])
  all_goals first|omega|exact fun h=>h.elim|exact ZJ (by omega) (by simp) rfl|skip
  all_goals rw[A0w hz];rfl
 have h2:decide ((0:Int)<l.length)=true:=decide_eq_true (by omega)
 have e0:IntKind.i64.wrap (↑l.length-1)=((l.length-1:Nat):Int):=by rw[A9 (by omega) (by omega)];omega
 have e1:=Bk hz
 have e2:=Bk (show l.length-1<l.length by omega)
 refine Zf [] func226 rfl ntmps226 results226 ?_
 (have z:=Za h0<|Za h2<|Za e0<|Za e1<|Za e2 @Ah;(try push_cast[z])<;>repeat' (first|apply Zi<;>intro _|refine Zc h1 ?_|refine Zs [] (MN l t (by omega) hs) ?_|exact Zo|with_reducible apply Za)<;>try push_cast[z])
 all_goals first|omega|exact fun h=>h.elim|exact ZJ (by omega) (by simp) rfl|skip
theorem c_CloneK(l:List GT)(hl:0<l.length)(hm:l.length<=1048576):A2 prog 167 [.slice (l.map Ai) false] [] (.gref 0 l.length) [(0,.grow (l.map Ai) 1)]:=by
 have h0:decide (l.length<=0)=false:=decide_eq_false (by omega)
 refine Zd [] func167 rfl ntmps167 results167 ?_
 (have z:=h0;(try push_cast[z])<;>repeat' (first|apply Zi<;>intro _|exact Zo|with_reducible apply Za)<;>try push_cast[z])
 all_goals first|omega|skip
 intro _
 (have z:=h0;(try push_cast[z])<;>repeat' (first|apply Zi<;>intro _|exact Zo|with_reducible apply Za)<;>try push_cast[z])
 all_goals first|omega|(simp[Ai];done)|skip
 apply Zr [(0,48)] rfl<;>push_cast
theorem EW(t:GT)(hl:0<t.kids.length)(hm:t.kids.length<=1048576):A2 prog 100 [Ac t] [] (.gref 0 t.kids.length) [(0,.grow (t.kids.map Ai) 1)]:=by
 cases t with
 |nil=>exact absurd hl (by simp[GT.kids])
 |node e k hh c f l th=>
  simp only[GT.kids] at hl hm|-
  rw[AW]
  refine Zd [] func100 rfl ntmps100 results100 ?_
  (have z:=trivial;(try push_cast)<;>repeat' (first|apply Zi<;>intro _|refine Zs [] (c_CloneK k hl hm) ?_|exact Zp|with_reducible apply Za)<;>try push_cast)
  apply Zr [(0,64)] rfl<;>push_cast
theorem Xr(l:List GT)(t:Bool)(f:Nat)(hl:l.length<=4611686018427387904)(h:∀ i,1<=i->i<l.length->A0 prog f [Ac (l.getD (i-1) .nil),Ac (l.getD i .nil)] (.val (.bool true))):
  A0 prog 237 [.slice (l.map Ai) t,.func (.func f) [] []] (.val (.bool true)):=by
 refine Zf [] func237 rfl ntmps237 results237 ?_
 ((try push_cast)<;>repeat' (first|apply Zi<;>intro _|exact Zp|with_reducible apply Za)<;>try push_cast)
 refine Zl (fun i=>1<=i/\i<=l.length+1) (fun i=>⟨[(5,.val (.int .i64 i)),(1,.func (.func f) [] []),(0,.slice (l.map Ai) t)],[],10⟩) (fun i=>l.length+1-i) 1 (by simp) ?_ fun i hi=>?_
 ·apply Zw<;>push_cast
 ·push_cast
  refine Af (fun ha=>?_) (fun ha=>?_)
  ·have hi':i<l.length:=by simpa using ha
   have e0:IntKind.i64.wrap (↑i-1)=((i-1:Nat):Int):=by rw[A9 (by omega) (by omega)];omega
   have e1:=Bf hi'
   have e2:=Bf (show i-1<l.length by omega)
   have hr:=h i hi.1 hi'
   (have z:=Za e0<|Za e1<|Za e2 @Ai.eq_1;(try push_cast[z])<;>repeat' (first|apply Zi<;>intro _|refine Zv (hr ..) ?_|exact Zo|with_reducible apply Za)<;>try push_cast[z])
   all_goals first|omega|skip
   refine⟨i+1,by omega,by omega,?_⟩
   apply Zw<;>push_cast
   exact A9 (by omega) (by omega)
  ·((try push_cast)<;>repeat' (first|apply Zi<;>intro _|exact Zp|with_reducible apply Za)<;>try push_cast)
theorem c_Inner1(x y:GT)(hx:x≠ .nil)(hy:y≠ .nil):A0 prog 238 [Ac x,Ac y] (.val (.bool (ltS x.last y.first))):=by
 cases x with
 |nil=>exact absurd rfl hx
 |node=>
  cases y with
  |nil=>exact absurd rfl hy
  |node=>
   rw[AW,AW]
   refine Zf [] func238 rfl ntmps238 results238 ?_
   ((try push_cast)<;>repeat' (first|apply Zi<;>intro _|exact Zp|with_reducible apply Za)<;>try push_cast)
   all_goals rfl
def HJ(l:List GT)(i:Nat):Int:=((l.take i).map GT.count).sum
def Fp(l:List GT)(i:Nat):Bool:=(l.take i).any fun k=>!k.sound false
theorem J3{α:Type}{l:List α}{i:Nat}(d:α)(h:i<l.length):l.take (i+1)=l.take i++[l.getD i d]:=by
 rw[A1s,A09 h,A02,A09 h];rfl
theorem Xl{l:List GT}{i:Nat}(h:i<l.length):HJ l (i+1)=HJ l i+(l.getD i .nil).count:=by
 rw[HJ,J3 .nil h,A0K,List.sum_append];simp[HJ]
theorem Tg{l:List GT}{i:Nat}(h:i<l.length):Fp l (i+1)=(Fp l i ||!(l.getD i .nil).sound false):=by
 rw[Fp,J3 .nil h,List.any_append];simp only[List.any_cons,List.any_nil,A1V,Fp]
def AH(l:List GT):GT:=.node [] l ((l.getD 0 .nil).height+1) (HJ l l.length) (l.getD 0 .nil).first (l.getD (l.length-1) .nil).last (Fp l l.length)
theorem Ti{l:List GT}{i:Nat}(h:i<l.length):(l.take i).map Ai++[[Ac (l.getD i .nil)]]=(l.take (i+1)).map Ai:=by
 rw[J3 .nil h,A0K];rfl
theorem GT.ne_nil{t:GT}(h:t≠ .nil):∃ e k hh c f l th,t=.node e k hh c f l th:=by
 cases t with
 |nil=>exact absurd rfl h
 |node e k hh c f l th=>exact ⟨e,k,hh,c,f,l,th,rfl⟩
def inK(l:List GT):Nat->D
 |0=>.slice [] true
 |i+1=>.gref 4 (i+1)
def inH(l:List GT):Nat->Hp
 |0=>[]
 |i+1=>[(4,.grow ((l.take (i+1)).map Ai) 1)]
theorem Qd(l:List GT){i:Nat}(h:0<i):inK l i=.gref 4 i/\inH l i=[(4,.grow ((l.take i).map Ai) 1)]:=by
 cases i with
 |zero=>exact absurd h (by simp)
 |succ i=>exact ⟨rfl,rfl⟩
theorem inK_zero(l:List GT){i:Nat}(h:i=0):inK l i=.slice [] true/\inH l i=[]:=by subst h;exact⟨rfl,rfl⟩
def inS(l:List GT)(H:Int)(i:Nat):St:=⟨[(24,.val (.int .i64 i)),(23,.val (.int .i64 l.length)),(22,.slice (l.map Ai) false),(4,.ref 128 0 0 7),(0,.slice (l.map Ai) false)],(128,.rows [[.slice [] true,inK l i,.val (.int .i64 H),.val (.int .i64 (HJ l i)),.val (.string ByteArray.empty),.val (.string ByteArray.empty),.val (.bool (Fp l i))]] 7)::inH l i,100⟩
theorem c_Inner(l:List GT)(h2:2<=l.length)(h8:l.length<=8)(hn:∀ i,i<l.length->l.getD i .nil≠ .nil/\(l.getD i .nil).count≠0/\(l.getD i .nil).height=(l.getD 0 .nil).height/\(l.getD i .nil).size<=8)
  (hh:0<=(l.getD 0 .nil).height/\(l.getD 0 .nil).height<=4611686018427387904) (hc:∀ i,i<=l.length->0<=HJ l i/\HJ l i<=4611686018427387904) (hr:∀ i,1<=i->i<l.length->ltS (l.getD (i-1) .nil).last (l.getD i .nil).first=true):
  A0 prog 165 [.slice (l.map Ai) false] (.tup [Ac (AH l),.val (.int .i64 0)]):=by
 have h1:=Xr l false 238 (by omega) fun i h h'=>by
  have:=c_Inner1 (l.getD (i-1) .nil) (l.getD i .nil) (hn _ (by omega)).1 (hn _ h').1
  rw[hr i h h'] at this
  exact this
 have b1:decide ((l.length:Int)<2)=false:=decide_eq_false (by omega)
 have b2:decide ((8:Int)<l.length)=false:=decide_eq_false (by omega)
 have e1:=Bf (show 0<l.length by omega)
 have hH:=BE (l.getD 0 .nil)
 have w1:IntKind.i64.wrap ((l.getD 0 .nil).height+1)=(l.getD 0 .nil).height+1:=A9 (by omega) (by omega)
 unfold AH
 rw[AW]
 refine Zf [] func165 rfl ntmps165 results165 ?_
 (have z:=Za b1<|Za b2<|Za e1<|Za @Ai.eq_1 w1;(try push_cast[z])<;>repeat' (first|apply Zi<;>intro _|refine Zc hH ?_|exact Zo|with_reducible apply Za)<;>try push_cast[z])
 all_goals first|omega|skip
 refine Zl (fun i=>i<=l.length) (fun i=>inS l ((l.getD 0 .nil).height+1) i) (fun i=>l.length-i) 0 (by simp) ?_ fun i hi=>?_
 ·unfold inS inK inH
  have:HJ l 0=0:=rfl
  have:Fp l 0=false:=rfl
  apply Zw<;>push_cast
  exact⟨rfl,rfl⟩
 ·unfold inS
  push_cast
  refine Af (fun ha=>?_) (fun ha=>?_)
  ·have hi':i<l.length:=by simpa using ha
   obtain⟨n1,n2,n3,n4⟩:=hn i hi'
   have e2:=Bf hi'
   have hC:=Lk (l.getD i .nil)
   have hS:=c_Sound (l.getD i .nil) false (by omega)
   have k1:=Xl hi'
   have k2:=Tg hi'
   have k3:=Ti hi'
   have k4:=hc (i+1) hi'
   generalize l.getD i .nil=x at n1 n2 n3 n4 e2 hC hS k1 k2 k3
   obtain⟨e,k,hh',c,f,la,th,rfl⟩:=GT.ne_nil n1
   simp only[GT.count,GT.height] at n2 n3 k1 hC
   rw[AW] at hC hS k3
   simp only[Ai,AW] at e2
   have b3:((c:Int)==0)=false:=by simpa using n2
   have b4:IntKind.i64.wrap (hh'+1)=(l.getD 0 .nil).height+1:=by rw[n3];exact w1
   have b5:IntKind.i64.wrap (HJ l i+c)=HJ l (i+1):=by rw[<-k1];exact A9 (by omega) (by omega)
   have k5:(l.take i).length=i:=by rw[A0z];omega
   obtain⟨g3,g4⟩:=Qd l (Nat.succ_pos i)
   rcases A17 i with hz|hz
   ·obtain⟨g1,g2⟩:=inK_zero l hz
    rw[g1,g2]
    (have z:=Za e2<|Za b3<|Za b4<|Za b5 k5;(try push_cast[z])<;>repeat' (first|apply Zi<;>intro _|refine Zc hC ?_|refine Zc hS ?_|exact Zo|with_reducible apply Za)<;>try push_cast[z])
    all_goals first|omega|(intro y hy;cases hy;done)|(intro y hy;cases A0d.1 hy;rfl)|(intro y hy d hd;cases A0d.1 hy;cases A0d.1 hd;rfl)|(simp[Ai];done)|skip
    all_goals
     refine⟨i+1,hi',by omega,?_⟩
     rw[g3,g4,<-k3,k2]
     apply Zr [(4,408)] rfl<;>push_cast
    all_goals first|exact A9 (by omega) (by omega)|(rw[show Fp l i=true by assumption];rfl)|(rw[show Fp l i=false by assumption];rfl)|skip
    all_goals
     subst hz
     refine⟨⟨Am _,?_⟩,Bh _⟩
     first|(rw[show Fp l 0=true by assumption];rfl)|(rw[show Fp l 0=false by assumption];rfl)
   ·obtain⟨g1,g2⟩:=Qd l hz
    rw[g1,g2]
    (have z:=Za e2<|Za b3<|Za b4<|Za b5 k5;(try push_cast[z])<;>repeat' (first|apply Zi<;>intro _|refine Zc hC ?_|refine Zc hS ?_|exact Zo|with_reducible apply Za)<;>try push_cast[z])
    all_goals first|omega|(intro y hy;cases hy;done)|(intro y hy;cases A0d.1 hy;rfl)|(intro y hy d hd;cases A0d.1 hy;cases A0d.1 hd;rfl)|(simp[Ai];done)|skip
    all_goals
     refine⟨i+1,hi',by omega,?_⟩
     rw[g3,g4,<-k3,k2]
     apply Zr [(4,408)] rfl<;>push_cast
    all_goals first|exact A9 (by omega) (by omega)|(rw[show Fp l i=true by assumption];rfl)|(rw[show Fp l i=false by assumption];rfl)
  ·have hi':i=l.length:=by simp at ha;omega
   subst hi'
   obtain⟨g1,g2⟩:=Qd l (show 0<l.length by omega)
   have k5:(l.take l.length).length=l.length:=by rw[A0z];omega
   have e0:IntKind.i64.wrap (↑l.length-1)=((l.length-1:Nat):Int):=by rw[A9 (by omega) (by omega)];omega
   have e3:=Bf (show l.length-1<l.length by omega)
   have m0:=(hn 0 (by omega)).1
   have m1:=(hn (l.length-1) (by omega)).1
   generalize l.getD (l.length-1) .nil=y at m1 e3
   generalize l.getD 0 .nil=x at m0 e1 w1
   obtain⟨e,k,hh',c,f,la,th,rfl⟩:=GT.ne_nil m0
   obtain⟨e',k',hh2,c',f',la',th',rfl⟩:=GT.ne_nil m1
   simp only[Ai,AW] at e1 e3
   rw[g1,g2]
   (have z:=Za e0<|Za e1<|Za e3 k5;(try push_cast[z])<;>repeat' (first|apply Zi<;>intro _|refine Zc h1 ?_|exact Zo|with_reducible apply Za)<;>try push_cast[z])
   all_goals first|omega|exact fun h=>h.elim|rfl|(rw[A1h];exact Bh _)|skip
def BV(p:Nat->Bool):Nat->Nat->Nat
 |i,0=>i
 |i,n+1=>if p i then i else BV p (i+1) n
theorem NU{p:Nat->Bool}{n k:Nat}:∀ (m i:Nat),i+m=n->i<=k->k<=n->(∀ x,i<=x->x<k->p x=false)->(∀ x,k<=x->x<n->p x=true)->BV p i m=k
 |0,i,h1,h2,h3,h4,h5=>by simp only[BV];omega
 |m+1,i,h1,h2,h3,h4,h5=>by
  simp only[BV]
  by_cases hk:i=k
  ·subst hk;rw[if_pos (h5 i (A0a _) (by omega))]
  ·rw[if_neg (by rw[h4 i (A0a _) (by omega)];simp)]
   exact NU m (i+1) (by omega) (by omega) h3 (fun x hx hk=>h4 x (by omega) hk) h5
theorem EH(p:Nat->Bool):∀ (m i:Nat),BV p i m<=i+m
 |0,i=>by simp[BV]
 |m+1,i=>by
  simp only[BV]
  split
  ·omega
  ·have:=EH p m (i+1);omega
theorem mid_eq{i j:Nat}(h:i+j<9223372036854775808):IntKind.i64.wrap ((IntKind.u64.wrap (IntKind.i64.wrap (↑i+↑j))).fdiv (2^min 1 IntKind.u64.bits))=(((i+j)/2:Nat):Int):=by
 have e1:IntKind.i64.wrap (↑i+↑j)=(↑i+↑j:Int):=A9 (by omega) (by omega)
 have e2:IntKind.u64.wrap (↑i+↑j:Int)=(↑i+↑j:Int):=by simp only[IntKind.wrap,IntKind.bits,IntKind.signed];simp;omega
 have e3:((2:Int)^min 1 IntKind.u64.bits)=2:=by rfl
 rw[e1,e2,e3]
 have e4:(↑i+↑j:Int).fdiv 2=(((i+j)/2:Nat):Int):=by
  rw[Int.fdiv_eq_ediv_of_nonneg _ (by decide)];omega
 rw[e4]
 exact A9 (by omega) (by omega)
theorem MT(n:Nat)(g:Nat)(cs:List D)(p:Nat->Bool)(hpu:Ag cs=true)(hn:n<=4611686018427387904)(h:∀ i,i<n->A0 prog g (.val (.int .i64 i)::cs) (.val (.bool (p i))))(hm:∀ i j,i<=j->j<n->p i=true->p j=true):
  A0 prog 177 [.val (.int .i64 n),.func (.func g) [] cs] (.val (.int .i64 (BV p 0 n))):=by
 refine Zf [] func177 rfl ntmps177 results177 ?_
 ((try push_cast)<;>repeat' (first|apply Zi<;>intro _|exact Zp|with_reducible apply Za)<;>try push_cast)
 refine AWp.loopI mixed (by kernel_rfl) (ι:=Nat×Nat) (fun q=>q.1<=q.2/\q.2<=n/\(∀ x,x<q.1->p x=false)/\(∀ x,q.2<=x->x<n->p x=true)) (fun q=>⟨[(5,.val (.int .i64 q.1)),(6,.val (.int .i64 q.2)),(1,.func (.func g) [] cs)],[],0⟩) (fun q=>q.2-q.1) (0,n) (by simp;intro x h1 h2;omega) ?_ fun q hq=>?_
 ·apply Zw<;>push_cast<;>simp [hpu,BR,Ct,JC,lo]
 ·obtain⟨i,j⟩:=q
  obtain⟨h1,h2,h3,h4⟩:=hq
  simp only at h1 h2 h3 h4
  push_cast
  refine Af (fun ha=>?_) (fun ha=>?_)
  ·have ha':i<j:=by simpa using ha
   have em:=mid_eq (i:=i) (j:=j) (by omega)
   have hmn:(i+j)/2<n:=by omega
   have hij:i<=(i+j)/2/\(i+j)/2<j:=by omega
   generalize(i+j)/2=m at em hmn hij
   (have z:=Za em @hpu;(try push_cast[z])<;>repeat' (first|apply Zi<;>intro _|refine Zv (h m hmn) ?_|exact Zo|with_reducible apply Za)<;>try push_cast[z])
   ·rename_i k
    simp only[Bool.not_eq_true'] at k
    refine⟨(m+1,j),⟨by simp only;omega,h2,fun x hx=>?_,h4⟩,by simp only;omega,?_⟩
    ·cases hp:p x with
     |false=>rfl
     |true=>have:=hm x m (by simp only at hx;omega) hmn hp;rw[this] at k;cases k
    ·apply Zw<;>push_cast<;>simp [hpu,BR,Ct,JC,lo]
     exact A9 (by omega) (by omega)
   ·rename_i k
    simp only[Bool.not_eq_false'] at k
    refine⟨(i,m),⟨by simp only;omega,by simp only;omega,h3,fun x hx hxn=>hm m x (by simp only at hx;omega) hxn k⟩,by simp only;omega,?_⟩
    apply Zw<;>push_cast<;>simp [hpu,BR,Ct,JC,lo]
  ·((try push_cast)<;>repeat' (first|apply Zi<;>intro _|exact Zp|with_reducible apply Za)<;>try push_cast)
   have:i=j:=by simp at ha;omega
   subst this
   rw[NU n 0 (by omega) (A0D _) h2 (fun x _ hx=>h3 x hx) h4]
theorem ba_empty(k:ByteArray):(k=⟨#[]⟩)↔k.size=0:=by
 constructor
 ·intro h;subst h;rfl
 ·intro h
  apply MV
  have:(bl k).length=0:=h
  rw[A0Q.1 this];rfl
def FZ(valid:Bool)(k:ByteArray):Int:=if k.size=0 then 8 else if 64<k.size then 6 else if valid then 0 else 3
abbrev QA(k:ByteArray):D:=.ptr [.val (.string k)] 0
theorem Uz(k:ByteArray):A0 prog 222 [QA k] (.val (.bool (decide (k.size=0)))):=by
 refine Zf [] func222 rfl ntmps222 results222 ?_
 ((try push_cast)<;>repeat' (first|apply Zi<;>intro _|exact Zp|with_reducible apply Za)<;>try push_cast)
 simp[ba_empty]
theorem Uy(k:ByteArray):A0 prog 223 [QA k] (.val (.bool (decide (64<k.size)))):=by
 refine Zf [] func223 rfl ntmps223 results223 ?_
 ((try push_cast)<;>repeat' (first|apply Zi<;>intro _|exact Zp|with_reducible apply Za)<;>try push_cast)
 congr 1;exact propext (by omega)
theorem Ux(k:ByteArray)(v:Bool)(hv:A0 prog 168 [.val (.string k)] (.val (.bool v))):A0 prog 224 [QA k] (.val (.bool (!v))):=by
 refine Zf [] func224 rfl ntmps224 results224 ?_
 (have z:=trivial;(try push_cast)<;>repeat' (first|apply Zi<;>intro _|refine Zc (hv ..) ?_|exact Zp|with_reducible apply Za)<;>try push_cast)
theorem Xt(k:ByteArray):A0 prog 153 [.val (.string k)] (.slice [[.val (.int .i64 8),.func (.func 222) [] [QA k]],[.val (.int .i64 6),.func (.func 223) [] [QA k]],[.val (.int .i64 3),.func (.func 224) [] [QA k]]] false):=by
 refine Zf [0] func153 rfl ntmps153 results153 ?_
 ((try push_cast)<;>repeat' (first|apply Zi<;>intro _|exact Zp|with_reducible apply Za)<;>try push_cast)
 all_goals simp
theorem XD(k:ByteArray)(v:Bool)(hv:A0 prog 168 [.val (.string k)] (.val (.bool v))):A0 prog 94 [.val (.string k)] (.val (.int .i64 (FZ v k))):=by
 refine Zf [] func94 rfl ntmps94 results94 ?_
 (have z:=trivial;(try push_cast)<;>repeat' (first|apply Zi<;>intro _|refine Zc (Xt ..) ?_|exact Zp|with_reducible apply Za)<;>try push_cast)
 refine Zl (fun i=>i<=3/\(0<i->k.size≠0)/\(1<i->k.size<=64)/\(2<i->v=true)) (fun i=>⟨[(8,.val (.int .i64 i)),(7,.val (.int .i64 3)),(6,.slice [[.val (.int .i64 8),.func (.func 222) [] [QA k]],[.val (.int .i64 6),.func (.func 223) [] [QA k]],[.val (.int .i64 3),.func (.func 224) [] [QA k]]] false)],[],0⟩) (fun i=>3-i) 0 (by simp) ?_ fun i hi=>?_
 ·apply Zw<;>push_cast<;>simp
 ·obtain⟨h1,h2,h3,h4⟩:=hi
  have hc:i=0∨i=1∨i=2∨i=3:=by omega
  rcases hc with rfl|rfl|rfl|rfl
  ·(have z:=trivial;(try push_cast)<;>repeat' (first|apply Zi<;>intro _|refine Zv (Uz ..) ?_|exact Zp|with_reducible apply Za)<;>try push_cast)
   ·rename_i h;simp only[decide_eq_true_eq] at h;simp[FZ,h]
   ·rename_i h;simp only[decide_eq_false_iff_not] at h
    refine⟨1,⟨by omega,fun _=>h,by omega,by omega⟩,by omega,?_⟩
    apply Zw<;>push_cast<;>simp [A9]
  ·(have z:=trivial;(try push_cast)<;>repeat' (first|apply Zi<;>intro _|refine Zv (Uy ..) ?_|exact Zp|with_reducible apply Za)<;>try push_cast)
   ·rename_i h;simp only[decide_eq_true_eq] at h
    have:=h2 (by omega)
    simp[FZ,h,this]
   ·rename_i h;simp only[decide_eq_false_iff_not] at h
    refine⟨2,⟨by omega,fun _=>h2 (by omega),fun _=>by omega,by omega⟩,by omega,?_⟩
    apply Zw<;>push_cast<;>simp [A9]
  ·(have z:=trivial;(try push_cast)<;>repeat' (first|apply Zi<;>intro _|exact Zp|with_reducible apply Za|(with_reducible show A1 _ _ _ _ _ _ _ _;refine A1.callV rfl (by(try push_cast);exact Ux _ _ hv) (by first|exact .inl rfl|exact .inr ⟨_,_,_,rfl,rfl,rfl⟩) rfl (by first|rfl|push_cast) ?_)<;>try push_cast|fail)<;>try push_cast)
   ·rename_i h
    have g1:=h2 (by omega)
    have g2:=h3 (by omega)
    have g3:¬64<k.size:=by omega
    simp only[Bool.not_eq_true'] at h
    simp[FZ,g1,g3,h]
   ·rename_i h
    simp only[Bool.not_eq_false'] at h
    refine⟨3,⟨by omega,fun _=>h2 (by omega),fun _=>h3 (by omega),fun _=>h⟩,by omega,?_⟩
    apply Zw<;>push_cast<;>simp [A9]
  ·((try push_cast)<;>repeat' (first|apply Zi<;>intro _|exact Zp|with_reducible apply Za)<;>try push_cast)
   have g1:=h2 (by omega)
   have g2:=h3 (by omega)
   have g3:¬64<k.size:=by omega
   simp[FZ,g1,g3,h4]
theorem SC(l:List GT)(k:ByteArray)(i:Nat)(hi:i<l.length):A0 prog 227 [.val (.int .i64 i),.ptr [.slice (l.map Ai) false] 0,.ptr [.val (.string k)] 0] (.val (.bool (ltS k (l.getD i .nil).first))):=by
 have ea:=Bf hi
 refine Zf [] func227 rfl ntmps227 results227 ?_
 (have z:=Za ea @Ai.eq_1;(try push_cast[z])<;>repeat' (first|apply Zi<;>intro _|refine Zc (c_First ..) ?_|exact Zo|with_reducible apply Za)<;>try push_cast[z])
 all_goals omega
def AD(l:List GT)(k:ByteArray):Nat:=BV (fun i=>ltS k (l.getD i .nil).first) 0 l.length-1
theorem DV(l:List GT)(k:ByteArray)(hm:∀ i j,i<=j->j<l.length->ltS k (l.getD i .nil).first=true->ltS k (l.getD j .nil).first=true)(hn:l.length<=4611686018427387904):
  A0 prog 158 [.slice (l.map Ai) false,.val (.string k)] (.val (.int .i64 (AD l k))):=by
 have hs:=MT l.length 227 [.ptr [.slice (l.map Ai) false] 0,.ptr [.val (.string k)] 0] (fun i=>ltS k (l.getD i .nil).first) (by simp only[Ag,D.pure,Ca,A0M]) hn (fun i hi=>SC l k i hi) hm
 refine Zf [0,8] func158 rfl ntmps158 results158 ?_
 (have z:=trivial;(try push_cast)<;>repeat' (first|apply Zi<;>intro _|refine Zc (hs ..) ?_|exact Zp|with_reducible apply Za)<;>try push_cast)
 have hle:=EH (fun i=>ltS k (l.getD i .nil).first) l.length 0
 unfold AD
 generalize BV (fun i=>ltS k (l.getD i .nil).first) 0 l.length=m at hle
 rw[A9 (by omega) (by omega)]
 split<;>omega
theorem c_place1(l:List GE)(t:Bool)(k:ByteArray)(i:Nat)(hi:i<l.length):A0 prog 225 [.val (.int .i64 i),.ptr [.slice (l.map A7) t] 0,.ptr [.val (.string k)] 0] (.val (.bool (!ltS (l.getD i zM).1 k))):=by
 have ea:=Bk hi
 refine Zf [] func225 rfl ntmps225 results225 ?_
 (have z:=Za ea @Ah;(try push_cast[z])<;>repeat' (first|apply Zi<;>intro _|exact Zo|with_reducible apply Za)<;>try push_cast[z])
 all_goals first|omega|skip
def BC(l:List GE)(k:ByteArray):Nat:=BV (fun i=>!ltS (l.getD i zM).1 k) 0 l.length
def DT(l:List GE)(k:ByteArray):Bool:=decide (BC l k<l.length)&&decide ((l.getD (BC l k) zM).1=k)
theorem JR(l:List GE)(t:Bool)(k:ByteArray)(hm:∀ i j,i<=j->j<l.length->ltS (l.getD i zM).1 k=false->ltS (l.getD j zM).1 k=false)(hn:l.length<=4611686018427387904):
  A0 prog 155 [.slice (l.map A7) t,.val (.string k)] (.tup [.val (.int .i64 (BC l k)),.val (.bool (DT l k))]):=by
 have hs:=MT l.length 225 [.ptr [.slice (l.map A7) t] 0,.ptr [.val (.string k)] 0] (fun i=>!ltS (l.getD i zM).1 k) (by simp only[Ag,D.pure,Bu,A0M]) hn (fun i hi=>c_place1 l t k i hi) (fun i j h h' h2=>by have:=hm i j h h';revert this h2;cases ltS (l.getD i zM).1 k<;>simp)
 refine Zf [0,8] func155 rfl ntmps155 results155 ?_
 rcases A14 (BC l k) l.length with hp|hp
 ·have h0:decide ((BC l k:Int)<l.length)=true:=decide_eq_true (by omega)
  have ea:=Bk hp
  unfold DT
  rw[decide_eq_true hp]
  unfold BC at h0 ea hp|-
  (have z:=Za h0<|Za ea @Ah;(try push_cast[z])<;>repeat' (first|apply Zi<;>intro _|refine Zc (hs ..) ?_|exact Zo|with_reducible apply Za)<;>try push_cast[z])
  all_goals first|omega|skip
 ·have h0:decide ((BC l k:Int)<l.length)=false:=decide_eq_false (by omega)
  unfold DT
  rw[decide_eq_false (by omega)]
  unfold BC at h0 hp|-
  (have z:=h0;(try push_cast[z])<;>repeat' (first|apply Zi<;>intro _|refine Zc (hs ..) ?_|exact Zo|with_reducible apply Za)<;>try push_cast[z])
  all_goals first|omega|skip
theorem Ge(l:List GE)(t:Bool)(hl:l.length<=8)(hs:∀ e ∈ l,Sm e.2)(hr:∀ i,1<=i->i<l.length->ltS (l.getD (i-1) zM).1 (l.getD i zM).1=true):
  A0 prog 156 [.slice (l.map A7) t] (Ac (AB l)):=by
 have h:=c_Leaf l t hl hs hr
 refine Zf [] func156 rfl ntmps156 results156 ?_
 (have z:=trivial;(try push_cast)<;>repeat' (first|apply Zi<;>intro _|refine Zc h ?_|exact Zp|with_reducible apply Za)<;>try push_cast)
def Dv(l:List GT):GT:=if l.length=1 then l.getD 0 .nil else AH l
structure OkK(l:List GT):Prop where
 h8:l.length<=8
 hn:∀ i,i<l.length->l.getD i .nil≠ .nil/\(l.getD i .nil).count≠0/\(l.getD i .nil).height=(l.getD 0 .nil).height/\(l.getD i .nil).size<=8
 hh:0<=(l.getD 0 .nil).height/\(l.getD 0 .nil).height<=4611686018427387904
 hc:∀ i,i<=l.length->0<=HJ l i/\HJ l i<=4611686018427387904
 hr:∀ i,1<=i->i<l.length->ltS (l.getD (i-1) .nil).last (l.getD i .nil).first=true
structure OkE(l:List GE):Prop where
 hl:l.length<=8
 hs:∀ e ∈ l,Sm e.2
 hr:∀ i,1<=i->i<l.length->ltS (l.getD (i-1) zM).1 (l.getD i zM).1=true
theorem Dy(l:List GT)(h1:1<=l.length)(h:OkK l):A0 prog 98 [.slice (l.map Ai) false] (Ac (Dv l)):=by
 have e1:=Bf (show 0<l.length by omega)
 unfold Dv
 rcases Nat.eq_or_lt_of_le h1 with hz|hz
 ·have h0:((l.length:Int)==1)=true:=by simp;omega
  rw[if_pos hz.symm]
  refine Zf [] func98 rfl ntmps98 results98 ?_
  (have z:=Za h0<|Za e1 @Ai.eq_1;(try push_cast[z])<;>repeat' (first|apply Zi<;>intro _|exact Zo|with_reducible apply Za)<;>try push_cast[z])
  all_goals first|omega|exact Am _|exact C4 _|exact CJ _|skip
 ·have h0:((l.length:Int)==1)=false:=by simp;omega
  have hc:=c_Inner l hz h.h8 h.hn h.hh h.hc h.hr
  rw[if_neg (by omega)]
  refine Zf [] func98 rfl ntmps98 results98 ?_
  (have z:=Za h0<|Za e1 @Ai.eq_1;(try push_cast[z])<;>repeat' (first|apply Zi<;>intro _|refine Zc (hc ..) ?_|exact Zo|with_reducible apply Za)<;>try push_cast[z])
  all_goals first|omega|exact Am _|exact C4 _|exact CJ _|skip
theorem C4(l:List GE):∀ x ∈ l.map A7,x.length=7:=by
 intro x hx
 obtain⟨y,_,rfl⟩:=A0l.1 hx
 exact Bg y
theorem CJ(l:List GT):∀ x ∈ l.map Ai,x.length=1:=by
 intro x hx
 obtain⟨y,_,rfl⟩:=A0l.1 hx
 rfl
theorem C1{l:List (List D)}(h:A6 l=true):∀ n,A6 (l.take n)=true:=by
 induction l with
 |nil=>intro n;simp[A6]
 |cons x l ih=>
  simp only[A6,A07] at h
  intro n
  cases n with
  |zero=>rfl
  |succ n=>simp only[A1j,A6,h.1,ih h.2 n,A0M]
theorem C2{l:List (List D)}(h:A6 l=true):∀ n,A6 (l.drop n)=true:=by
 induction l with
 |nil=>intro n;simp[A6]
 |cons x l ih=>
  simp only[A6,A07] at h
  intro n
  cases n with
  |zero=>simp only[List.drop_zero,A6,h.1,h.2,A0M]
  |succ n=>exact ih h.2 n
def J6(l:List GE):GT×GT:=if l.length<=8 then(AB l,.nil) else(AB (l.take 4),AB (l.drop 4))
def GD(l:List GT):GT×GT:=if l.length<=8 then(Dv l,.nil) else(Dv (l.take 4),Dv (l.drop 4))
theorem SG(l:List GE)(h:if l.length<=8 then OkE l else OkE (l.take 4)/\OkE (l.drop 4)):
  A0 prog 162 [.slice (l.map A7) false,.func (.func 156) [] []] (.tup [Ac (J6 l).1,Ac (J6 l).2]):=by
 unfold J6
 by_cases hz:l.length<=8
 ·have h0:decide ((l.length:Int)<=8)=true:=decide_eq_true (by omega)
  rw[if_pos hz] at h|-
  have hc:=Ge l false h.hl h.hs h.hr
  rw[B4]
  refine Zf [] func162 rfl ntmps162 results162 ?_
  (have z:=h0;(try push_cast[z])<;>repeat' (first|apply Zi<;>intro _|refine Zv (hc ..) ?_|exact Zo|with_reducible apply Za)<;>try push_cast[z])
  all_goals first|omega|exact Am _|exact C4 _|exact CJ _|skip
 ·have h0:decide ((l.length:Int)<=8)=false:=decide_eq_false (by omega)
  rw[if_neg hz] at h|-
  have hc:=Ge (l.take 4) false h.1.hl h.1.hs h.1.hr
  have hd:=Ge (l.drop 4) false h.2.hl h.2.hs h.2.hr
  rw[List.map_take] at hc
  rw[List.map_drop] at hd
  have p1:=C1 (Bu l) 4
  have p2:=C2 (Bu l) 4
  have tk:List.take (l.length-4) (List.drop 4 (List.map A7 l))=List.drop 4 (List.map A7 l):=A08 (by simp)
  refine Zf [] func162 rfl ntmps162 results162 ?_
  (have z:=Za h0<|Za p1<|Za p2 tk;(try push_cast[z])<;>repeat' (first|apply Zi<;>intro _|refine Zv (hc ..) ?_|refine Zv (hd ..) ?_|exact Zo|with_reducible apply Za)<;>try push_cast[z])
  all_goals first|omega|exact Am _|exact C4 _|exact CJ _|skip
theorem SF(l:List GT)(h1:1<=l.length)(h:if l.length<=8 then OkK l else OkK (l.take 4)/\OkK (l.drop 4)):
  A0 prog 164 [.slice (l.map Ai) false,.func (.func 98) [] []] (.tup [Ac (GD l).1,Ac (GD l).2]):=by
 unfold GD
 by_cases hz:l.length<=8
 ·have h0:decide ((l.length:Int)<=8)=true:=decide_eq_true (by omega)
  rw[if_pos hz] at h|-
  have hc:=Dy l h1 h
  rw[B4]
  refine Zf [] func164 rfl ntmps164 results164 ?_
  (have z:=h0;(try push_cast[z])<;>repeat' (first|apply Zi<;>intro _|refine Zv (hc ..) ?_|exact Zo|with_reducible apply Za)<;>try push_cast[z])
  all_goals first|omega|exact Am _|exact C4 _|exact CJ _|skip
 ·have h0:decide ((l.length:Int)<=8)=false:=decide_eq_false (by omega)
  rw[if_neg hz] at h|-
  have hc:=Dy (l.take 4) (by simp;omega) h.1
  have hd:=Dy (l.drop 4) (by simp;omega) h.2
  rw[List.map_take] at hc
  rw[List.map_drop] at hd
  have p1:=C1 (Ca l) 4
  have p2:=C2 (Ca l) 4
  have tk:List.take (l.length-4) (List.drop 4 (List.map Ai l))=List.drop 4 (List.map Ai l):=A08 (by simp)
  refine Zf [] func164 rfl ntmps164 results164 ?_
  (have z:=Za h0<|Za p1<|Za p2 tk;(try push_cast[z])<;>repeat' (first|apply Zi<;>intro _|refine Zv (hc ..) ?_|refine Zv (hd ..) ?_|exact Zo|with_reducible apply Za)<;>try push_cast[z])
  all_goals first|omega|exact Am _|exact C4 _|exact CJ _|skip
end Go.Ab
