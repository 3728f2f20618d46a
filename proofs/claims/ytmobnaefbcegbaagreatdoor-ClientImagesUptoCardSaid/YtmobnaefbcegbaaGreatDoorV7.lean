/- The program is walked: part 8 of 18. -/
import Derived.Test.YtmobnaefbcegbaaGreatDoorV6
import Derived.RecoverIn
import Derived.Sort.KeysCollected
import Derived.Shelf.SlIter.Nil
import Derived.Shelf.SortM.Plain
import Derived.Shelf.SortM.SortNone
import Derived.Ground.GgzProg
import Derived.Ground.SlgmProg
set_option maxHeartbeats 4000000
set_option maxRecDepth 20000
set_option linter.all false
namespace Go.Ab
open Go.RowKit
variable{f:FuncId}{c:Code}{P:Program}{nt:Nat}{ds:List D}{H H':Hp}{rs:List ResultVar}{r:D}{dst:Option Tmp}{T M:TypeId}{ps:String}{af:Array Edge}
section
variable{P:Program}{F:Fence}{n:Nat}
def Je{u:FrameMode}(C:u≠ .run){dl:List Deferred}:∀(rs:List Nat) (w:World) (fr:Frame) (cs:List Frame),rs.Nodup->(∀r ∈ rs,w.heap[r]? =some (.deferred (some [])))->F.fn fr.fn->F.room (cs.length+1+n)->fr.mode=u->fr.defers=rs.map (λr=> {target:=.collected r,args:=#[]})++dl->
  StepsIn (Machine.fenced P F) P (lone fr cs w) (lone {fr with defers:=dl} cs (Ee rs w))
 |[],w,fr,cs,_,_,_,_,_,hd=>by
  have:({fr with defers:=dl}:Frame)=fr:=by simp at hd;rw[<-hd]
  rw[this];exact StepsIn.refl _
 |r::rs,w,fr,cs,hn,hr,hb,hroom,hm,hd=>by
  simp at hn;have h1:=step_collected (P:=P) (cs:=cs) (hm▸C) hd rfl (run_takeDeferred (hr r A36));have i1:(lone fr cs w).fenced P F:=fenced_out hb hroom (hm▸C) hd (λg M=>by simp[Target.leads] at M);have N:=Je C rs (w.putObj r (.deferred none)) {fr with defers:=[]++(rs.map (λr=> {target:=.collected r,args:=#[]})++dl)} cs hn.2 (λk O=>by
   rw[World.putObj_heap_other (by grind)];simp_all) hb hroom hm rfl
  exact .head i1 h1 N
def JG{fn:Func}{args:Array Value}{u:FrameMode}{w:World}{R:Ending->World->Prop}
  (hf:P.funcs[f]? =some fn) (hb:fn.body=some c) (hF:F.fn f)
  (h:c.wpIn F n P (λe a w=>match e with
   |.normal|.ret=>∃(rs:List Nat) (v:Value),a.defers=rs.map (λr=> {target:=.collected r,args:=#[]})++[]/\rs.Nodup/\(∀r ∈ rs,w.heap[r]? =some (.deferred (some [])))/\(results fn a.tmps).run P (Ee rs w)=.ok v (Ee rs w)/\R (.returned v) (Ee rs w)
   |_=>False) {tmps:=args++Array.replicate (fn.ntmps-args.size) undef,defers:=[]} w) (a0:F.round=none:=by rfl):
  CallsDIn F n P f args u w λe u' w'=>u'=u/\R e w':=by
 refine⟨hF,λC cs hu hr=>?_⟩;let b:Frame:= {(default:Frame) with fn:=f,kind:=.deferred,roundOf:=none}
 have a1:Frame.enter P f args .deferred=
   b.atR {tmps:=args++Array.replicate (fn.ntmps-args.size) undef,defers:=[]} [.code c]:=by
  simp[Frame.enter,Frame.atR,hf,hb,b]
 have hc:({C with mode:=u}:Frame)=C:=by subst hu;rfl
 obtain⟨e,M,w',hq,N⟩:=h b [] (C::cs) a0.symm hF hr;rw[<-a1] at N;cases e with
 |normal=>
  obtain⟨rs,v,O,U,V,Y,Z⟩:=hq;have hs:=StepsIn.trans N (.one (fenced_calm (fr:=b.atR M []) hF hr rfl) (stepR_end rfl));have hm:=Je (P:=P) (F:=F) (n:=n) (u:=.returning) Sq' (dl:=[]) rs w' {b.atR M [] with mode:=.returning} (C::cs) U V hF hr rfl O;exact⟨.returned v,u,Ee rs w',_,⟨rfl,Z⟩,(by rw[hc];exact StepsIn.trans hs hm),rfl,rfl,rfl,rfl,fn,hf,Y⟩
 |ret=>
  obtain⟨rs,v,O,U,V,Y,Z⟩:=hq;obtain⟨a2,hs⟩:=N.1 rfl;have hm:=Je (P:=P) (F:=F) (n:=n) (u:=.returning) Sq' (dl:=[]) rs w' {b.atR M a2 with mode:=.returning} (C::cs) U V hF hr rfl O;exact⟨.returned v,u,Ee rs w',_,⟨rfl,Z⟩,(by rw[hc];exact StepsIn.trans hs hm),rfl,rfl,rfl,rfl,fn,hf,Y⟩
 |panic a3=>simp_all
 |exit id=>simp_all
 |goto l=>simp_all
 |outgrown=>simp_all
end
def ME(P:Program)(f:FuncId)(cs:List D)(H H':Hp):Prop:=
 By P f=true/\∀(w:World) (M0:Nat->Prop) (G:Gh) (I:Nat->Prop) (mu:Nat->Option Value) (vs:List Value) (u:FrameMode),GA P w M0 G->G.dl=[]->AA w M0 G (frN 4) I mu (Ak H) w->Bo w I mu cs vs->
  CallsDIn Fence.wide 0 P f vs.toArray u w λe u' w'=>u'=u/\∃v I' mu',e=.returned v/\AA w M0 G (frN 4) I' mu' (Ak H') w'
def ME.of_awp{fn:Func}(hf:P.funcs[f]? =some fn)(hb:fn.body=some c)(hn:fn.ntmps=nt)(a2:By P f=true)(a7:ds.length<=nt)(a3:fn.results.toList=rs)
  (h:AWp P nt c (Qt P rs (.tup []) H') ⟨BB 0 ds,H,4⟩):ME P f ds H H':=by
 subst a3;refine⟨a2,λw M0 V I mu vs u a4 a8 C a1=>?_⟩;let G:Gh:=⟨V.st,V.nm,[],Fence.wide,0,.inl rfl⟩
 have hG:∀k,G k->k<w.heap.size:=λk hk=>C.lt k (C.iold k hk);refine JG hf hb trivial (wpIn_mono (h w M0 G a4 I mu _ w ⟨?_,C8.refl _ _ _ _,λt=>Gq a1 _ t,⟨C.blk,C.loc,C.inj,C.fresh,C.lt,C.os,C.tape,C.output,C.grown,C.old,C.iold,C.inew,C.keep,C.used⟩⟩) ?_)
 ·have:=a1.1;simp_all
 ·rintro e Y w' ⟨x,s',I',mu',Z,he,U⟩;have fin:∀d,KD P s' fn.results.toList=some d->Aq ⟨[(0,d)],s'.hp,s'.nx⟩ ⟨[(0,.tup [])],H',4⟩->∃(rs:List Nat) (v:Value),Y.defers=rs.map (λr=> {target:=.collected r,args:=#[]})++[]/\rs.Nodup/\(∀r ∈ rs,w'.heap[r]? =some (.deferred (some [])))/\(results fn Y.tmps).run P (Ee rs w')=.ok v (Ee rs w')/\
    ∃v' I' mu',Ending.returned v=.returned v'/\AA w M0 V (frN 4) I' mu' (Ak H') (Ee rs w'):=by
   intro d O a5;obtain⟨rs,_,d1,d2,d3⟩:=U.defers;obtain⟨M,w2⟩:=U.w.shut hG d3;obtain⟨v,q1,q2⟩:=Jl (I0:=⟨G.st,G.nm,Y.defers,G.F,G.n,G.hF⟩)
    ⟨U.size,C8.refl _ _ _ _,λt=>w2 _ _ (U.env t),⟨M.blk,M.loc,M.inj,M.fresh,M.lt,M.os,M.tape,M.output,M.grown,M.old,M.iold,M.inew,M.keep,M.used⟩⟩ fn O
   obtain⟨I3,a6,N⟩:=a5 w M0 G 1 (λk=>I' k/\k ∉ rs) mu' {tmps:=#[v],defers:=[]} (Ee rs w') ⟨rfl,C8.refl _ _ _ _,λt=>by
    cases t with
    |zero=>simpa [St.fs,Env.get] using q2
    |succ t=>simp;exact .any _,M⟩
   exact⟨rs,v,d1,d2,λr hr=>(d3 r hr).2.2,q1,v,I3,a6,rfl,⟨N.w.blk,N.w.loc,N.w.inj,N.w.fresh,N.w.lt,N.w.os,N.w.tape,N.w.output,N.w.grown,N.w.old,N.w.iold,N.w.inew,N.w.keep,N.w.used⟩⟩
  cases x<;>cases e<;>simp [He] at he<;>simp [Qt] at Z
  case normal.normal=>
   obtain⟨d,O,a0⟩:=Z;exact fin d O a0
  case ret.ret=>
   obtain⟨d,O,a0⟩:=Z;exact fin d O a0
def Wt(P:Program)(rs:List ResultVar)(g:FuncId)(cs:List D)(rB:D)(HB':Hp):AE->St->Prop
 |.ret,s|.normal,s=>∃(rD:Nat->Nat) (csD:List D) (HD HD':Hp),ME P g csD HD HD'/\cs=Co rD csD/\ltL 4 csD=true/\Bq rD (Ak s.hp) HD/\DH (2*s.nx) rD HD []=true/\DH (2*s.nx) rD HD HD'=true/\
   ∃d,KD P ⟨s.env,F0 s.hp (EE (2*s.nx) rD HD HD'),s.nx+4⟩ rs=some d/\Aq ⟨[(0,d)],F0 s.hp (EE (2*s.nx) rD HD HD'),s.nx+4⟩ ⟨[(0,rB)],HB',4⟩
 |_,_=>False
def DefQ1(P:Program)(nt:Nat)(rs:List ResultVar)(g:FuncId)(t:Nat)(caps:Array Operand)(B:Code)(r:D)(H':Hp)(r1:Nat->Nat)(cs:List D)(env':Env)(HB:Hp)(rB:D)(HB':Hp):AE->St->Prop
 |.normal,s=>caps.toList.map (evO P s.env.get)=Co r1 cs/\ltL 0 cs=true/\Co (λb=>b) cs=cs/\Cs r1 ((t,.any)::s.env) env'/\Ki 4 env'=true/\Bq r1 (Ak s.hp) HB/\DH (2*s.nx) r1 HB []=true/\DH (2*s.nx) r1 HB HB'=true/\
   AWp P nt B (Wt P rs g cs rB HB') ⟨env',HB,4⟩/\Aq ⟨[(0,Bu (Df (2*s.nx) r1) rB)],F0 s.hp (EE (2*s.nx) r1 HB HB'),s.nx+4⟩ ⟨[(0,r)],H',4⟩
 |_,_=>False
def FO{m n b:Nat}(C:m<=n)(h:okN m b=true):okN n b=true:=by
 simp[okN] at h|-;omega
mutual
def Pv{m n:Nat}(C:m<=n):∀ {d:D},ltD m d=true->ltD n d=true
 |.any,_=>rfl
 |.val _,_=>rfl
 |.abool _ _,_=>rfl
 |.cond _ d,h=>by simp only[ltD] at h|-;exact Pv C h
 |.agg cs,h=>by simp only[ltD] at h|-;exact Eo C h
 |.tup cs,h=>by simp only[ltD] at h|-;exact Eo C h
 |.slice es _,h=>by simp only[ltD] at h|-;exact Rf C h
 |.ptr cs _,h=>by simp only[ltD] at h|-;exact Eo C h
 |.func _ fs cs,h=>by simp only[ltD,A2i] at h|-;exact⟨Eo C h.1,Eo C h.2⟩
 |.iface _ d,h=>by simp only[ltD] at h|-;exact Pv C h
 |.ref b _ _ _,h=>FO C h
 |.sref b _ _ _ _,h=>FO C h
 |.gref b _,h=>FO C h
 |.mref b,h=>FO C h
 |.yld b,h=>FO C h
 |.gel b _ _ _,h=>FO C h
 |.gsub b _ _ _,h=>FO C h
def Eo{m n:Nat}(C:m<=n):∀ {l:List D},ltL m l=true->ltL n l=true
 |[],_=>rfl
 |d::l,h=>by simp only[ltL,A2i] at h|-;exact⟨Pv C h.1,Eo C h.2⟩
def Rf{m n:Nat}(C:m<=n):∀ {l:LLa},Fv m l=true->Fv n l=true
 |[],_=>rfl
 |d::l,h=>by simp only[Fv,A2i] at h|-;exact⟨Eo C h.1,Rf C h.2⟩
end
def AWpL(P:Program)(nt:Nat):List Code->(St->Prop)->St->Prop
 |[],Q,s=>Q s
 |A::As,Q,s=>AWp P nt A (seqQ (λs=>AWpL P nt As Q s) (λ_ _=>False)) s
def J5{P:Program}{nt:Nat}{X:Code}{R:Exit->Act->World->Prop}{Q:St->Prop}{w0:World}{M0:Nat->Prop}{I0:Gh}(M:GA P w0 M0 I0)(N:∀s1 V Y O U,Q s1->Rel w0 M0 I0 nt (frN s1.nx) V Y s1.fs O U->X.wpIn I0.F I0.n P R O U):
  ∀(C:List Code) (s:St),AWpL P nt C Q s->∀(I:Nat->Prop) (mu:Nat->Option Value) (a:Act) (w:World),Rel w0 M0 I0 nt (frN s.nx) I mu s.fs a w->(C.foldr .seq X).wpIn I0.F I0.n P R a w
 |[],s,h,I,mu,a,w,r=>N s I mu a w h r
 |A::C,s,h,I,mu,a,w,r=>wpIn_seq (wpIn_mono (h w0 M0 I0 M I mu a w r) λe Z w' hx=>by
   obtain⟨x,s',I',mu',q,he,r'⟩:=hx;cases x<;>cases e<;>simp [He] at he<;>simp [seqQ] at q;exact J5 M N C s' q I' mu' Z w' r')
def A4.of_awp_defer{fn:Func}(As:List Code){B:Code}{id t g:Nat}{caps:Array Operand}{T1 T2:TypeId}{a6 a7:String}{a8 a9:Array Edge}{ts:Array TypeId}(hf:P.funcs[f]? =some fn)
  (hb:fn.body=some (As.foldr .seq (.seq (.region id #[⟨some t,.makeFunc (.func g) #[] caps,T1,a6,a8,none⟩,⟨none,.defer {callee:=.value (.tmp t),args:=#[],argTypes:=ts},T2,a7,a9,none⟩] false) B)))
  (hn:fn.ntmps=nt) (aj:By P f=true) (bb:ds.length<=nt) (ht:t<nt)  (ak:fn.results.toList=rs) (r1:Nat->Nat) (cs:List D) (env':Env) (HB:Hp) (rB:D) (HB':Hp)
  (h:AWpL P nt As (DefQ1 P nt rs g t caps B r H' r1 cs env' HB rB HB' .normal) ⟨BB 0 ds,H,4⟩):A4 P f ds H r H':=by
 subst ak;unfold A4;refine⟨aj,λw M0 G0 I mu vs a4 bc Y aa=>?_⟩;let G:Gh:=⟨G0.st,G0.nm,[],Fence.wide,1,.inl rfl⟩
 refine callsIn_wide.1 (callsIn_of_wp_marks hf hb trivial (J5 (I0:=G) a4 ?_ As _ h I mu _ w ⟨?_,C8.refl _ _ _ _,λt=>Gq aa _ t,⟨Y.blk,Y.loc,Y.inj,Y.fresh,Y.lt,Y.os,Y.tape,Y.output,Y.grown,Y.old,Y.iold,Y.inew,Y.keep,Y.used⟩⟩))
 case refine_2=>have:=aa.1;simp_all
 rintro s1 I1 ab C U hq R1;obtain⟨c1,c2,c3,c4,c5,c6,c7,c8,hB,hW⟩:=hq;refine wpIn_seq (wpIn_region ?_);have al:Bo U I1 ab (Co r1 cs) (caps.toList.map C.eval):=by
  rw[<-c1];exact Bo.args λy _=>Ei (GA.at (I0:=G) a4 R1.w) R1.env y
 have bd:(caps.toList.map C.eval).toArray=caps.map C.eval:=by grind
 have o1:(execOp C.eval ⟨some t,.makeFunc (.func g) #[] caps,T1,a6,a8,none⟩).run P U=.ok (.value (.func (.func g) #[] (caps.map C.eval))) U:=by simp[execOp,Instr.makeFunc]
 have am:(C.put (some t) (.func (.func g) #[] (caps.map C.eval))).eval (.tmp t)=.func (.func g) #[] (caps.map C.eval):=by
  have:t<C.tmps.size:=by rw[R1.size];exact ht
  simp[Act.put,Act.eval,this]
 have o2:(execOp (C.put (some t) (.func (.func g) #[] (caps.map C.eval))).eval ⟨none,.defer {callee:=.value (.tmp t),args:=#[],argTypes:=ts},T2,a7,a9,none⟩).run P U=.ok (.defer {target:=.fn (.func g) (caps.map C.eval),args:=#[]}) U:=by
  grind [execOp,resolve,Deferred.ofValue,Sem.run_bind,Sem.run_pure,Result.andThen]
 have an:C.defers=[]:=by
  obtain⟨rs,d0,d1,_⟩:=R1.defers;grind
 obtain⟨M,G2,ac,⟨g1,g2,Z,g4,g5,g6,g7,g8⟩,ao⟩:=hand r1 (show GA P w M0 G from a4) R1.w (λj hj=>⟨Om,Om⟩) (λ_ _=>rfl) al (Eo (A2w 4) c2) c6 c7;generalize be:Value.func (.func g) #[] (caps.map C.eval)=a0 at o1 o2 am;let d:Deferred:= {target:=.fn (.func g) (caps.map C.eval),args:=#[]}
 let G3:Gh:=⟨G2.st,G2.nm,[d],Fence.wide,1,.inl rfl⟩
 have ap:∀O,Rep U I1 ac (env'.get O) ((C.put (some t) a0).tmps.getD O undef):=by
  intro O;have h1:Rep U I1 ab (Env.get ((t,.any)::s1.env) O) ((C.put (some t) a0).tmps.getD O undef):=by
   simp[Env.get];by_cases hh:t=O
   ·subst hh;simp;exact .any _
   ·have:(t==O)=false:=by simp_all
    simp[this,cond_false];have:=R1.env O;simp[Act.put,A3z,Array.getElem?_setIfInBounds_ne hh] at this|-;exact this
  rcases Hi c4 c5 O with⟨d',h2,h3,h4⟩|h2
  ·rw[h2];exact(h1.lo h3).ren g5 rfl h4
  ·rw[h2];exact .any _
 have aq:(C.put (some t) a0).tmps.size=nt:=by rw[FM];exact R1.size
 show wpOpsIn Fence.wide 1 P _ _ [0,1] C U;simp only[wpOpsIn,A37,A2Z,A3B,Region.wanted];simp only[if_true];refine CT (G:=G) o1 ?_;refine⟨λf' _=>G.fn f',?_⟩;rw[show Fence.wide.round=none from rfl,Oper.semAt_none,o2];show Code.wpIn Fence.wide 1 P B _ ({tmps:=(C.put (some t) a0).tmps,defers:=d::(C.put (some t) a0).defers}:Act) U;rw[EF,an];refine wpIn_mono (hB U M G3 g1 I1 ac {tmps:=(C.put (some t) a0).tmps,defers:=[d]} U ⟨aq,C8.refl _ _ _ _,ap,⟨Z.blk,Z.loc,Z.inj,Z.fresh,Z.lt,Z.os,Z.tape,Z.output,Z.grown,Z.old,Z.iold,Z.inew,Z.keep,Z.used⟩⟩) ?_;rintro e a2 w2 ⟨x,s2,I2,ad,a5,ar,R2⟩;have au:a2.defers=[d]:=by
  obtain⟨rs,d0,d1,_⟩:=R2.defers;grind
 have av:∀k,I1 k->w2.heap[k]? =U.heap[k]?:=λk hk=>R2.w.old k (R1.w.lt k hk) (λhM=>g7 k hM hk);have fin:Wt P fn.results.toList g cs rB HB' .ret s2->LeavesInM Fence.wide 1 P fn a2.tmps (λe w'=>∃v I' mu',e=.returned v/\Rep w' I' mu' r v/\AA w M0 G0 (frN 4) I' mu' (Ak H') w') a2.defers .returning w2:=by
  rintro⟨rD,aw,HD,a3,hD,q1,q2,q3,q4,q5,dd,q6,q7⟩;rw[au];have ax:Bo w2 I2 ad (Co rD aw) (caps.toList.map C.eval):=by
   rw[<-q1];refine⟨g4.1,λi hi=>?_⟩;have h1:=g4.2 i hi;have ay:nd cs i=Bu (λb=>b) (nd cs i):=by
    have:=Cd (r:=λb=>b) hi;rw[c3] at this;exact this
   have h2:Rep U I1 ad (nd cs i) (nv (caps.toList.map C.eval) i):=Rep.ren (λb x hb hx=>by
    have ae:b%2=1:=by simpa[okN] using hb
    exact R2.w.keep b x ae (g8 b x ae hx)) h1 ay (Fg c2 i)
   exact h2.mono av (λk hk=>R2.w.iold k (g6 k hk)) (λ_ _ h=>h)
  obtain⟨M4,G4,az,⟨f1,f2,f3,f4,f5,_⟩,b3⟩:=hand rD (show GA P U M G3 from g1) R2.w (λj hj=>⟨Om,by show 2*s2.nx<=2*s2.nx+2*j;omega⟩) (λ_ _=>rfl) ax q2 q3 q4;have b4:(invoke (.fn (.func g) (caps.map C.eval)) #[]).run P w2=.ok (.enter g (caps.toList.map C.eval).toArray) w2:=by
   have e1:#[]++caps.map C.eval=(caps.toList.map C.eval).toArray:=by apply Array.ext';simp
   simp only[invoke];exact(congrArg (λz=>(callFunc g z).run P w2) e1).trans (Bj hD.1 _ w2)
  refine⟨Sq',.inr ⟨λh=>(by cases h),Fn.func g,caps.map C.eval,g,_,rfl,b4,λf' _=>G3.fn f',(hD.2 w2 M4 G4 I2 az _ .returning f1 f2 f3 f4).mono ?_⟩⟩;rintro e u' w3 ⟨rfl,v,I3,b5,rfl,R3⟩;obtain⟨b6,e4,R4,_⟩:=b3 .any a3 v w3 I3 b5 q5 (.any _) R3;have b7:(λb=>AZ b (s2.fs.hp b) (CJ (2*s2.nx) rD HD .any a3).up)=Ak (F0 s2.hp (EE (2*s2.nx) rD HD a3)):=by
   funext b;rw[FF];rfl
  rw[b7] at R4;have N:=R4.less (fr':=frN (s2.nx+4)) λb hb=>⟨⟨hb.1,by have:=hb.2;omega⟩,λj hj=>by have:=hb.2;omega⟩
  obtain⟨v5,h5,h6⟩:=Jl (M0:=M) (I0:=⟨G3.st,G3.nm,a2.defers,Fence.wide,1,.inl rfl⟩) (fr:=frN (s2.nx+4)) (nt:=nt) (s:=⟨s2.env,F0 s2.hp (EE (2*s2.nx) rD HD a3),s2.nx+4⟩)
   ⟨R2.size,C8.refl _ _ _ _,λO=>(R2.env O).ext e4,⟨N.blk,N.loc,N.inj,N.fresh,N.lt,N.os,N.tape,N.output,N.grown,N.old,N.iold,N.inew,N.keep,N.used⟩⟩ fn q6
  obtain⟨I6,ah,R6⟩:=q7 U M G2 1 I3 b6 {tmps:=#[v5],defers:=G2.dl} w3 ⟨rfl,C8.refl _ _ _ _,λO=>by
   cases O with
   |zero=>simpa [St.fs,Env.get] using h6
   |succ O=>simp;exact .any _,⟨N.blk,N.loc,N.inj,N.fresh,N.lt,N.os,N.tape,N.output,N.grown,N.old,N.iold,N.inew,N.keep,N.used⟩⟩
  have r0:Rep w3 I6 ah rB v5:=by simpa[St.fs,Env.get] using R6.env 0
  obtain⟨b8,e7,R7,h7,_⟩:=ao rB HB' v5 w3 I6 ah c8 r0 R6.w;have b9:(λb=>AZ b (s1.fs.hp b) (CJ (2*s1.nx) r1 HB rB HB').up)=Ak (F0 s1.hp (EE (2*s1.nx) r1 HB HB')):=by
   funext b;rw[FF];rfl
  rw[b9] at R7;have ba:=R7.less (fr':=frN (s1.nx+4)) λb hb=>⟨⟨hb.1,by have:=hb.2;omega⟩,λj hj=>by have:=hb.2;omega⟩
  obtain⟨I8,ai,V⟩:=hW w M0 G 1 I6 b8 {tmps:=#[v5],defers:=[]} w3 ⟨rfl,C8.refl _ _ _ _,λO=>by
   cases O with
   |zero=>simpa [St.fs,Env.get,CJ] using h7
   |succ O=>simp;exact .any _,ba⟩
  have r8:Rep w3 I8 ai r v5:=by simpa[St.fs,Env.get] using V.env 0
  exact⟨v5,h5,v5,I8,ai,rfl,r8,⟨V.w.blk,V.w.loc,V.w.inj,V.w.fresh,V.w.lt,V.w.os,V.w.tape,V.w.output,V.w.grown,V.w.old,V.w.iold,V.w.inew,V.w.keep,V.w.used⟩⟩
 cases x<;>cases e<;>simp [He] at ar<;>simp [Wt] at a5
 ·exact fin a5
 ·exact fin a5
attribute [irreducible] ME
section
variable{P:Program}{ops:Array Oper}{nx:Nat}{l:List Oper}{pos:Nat}{acc:List Eff}{s:St}{K:List Eff->St->Prop}
def A5.does{op:Op}{e:Eff}(h:AQ P ⟨dst,op,T,ps,af,none⟩ (2*(nx+4*pos)) (evO P s.env.get) (Ak s.hp) e)(C:GoS P ops nx l (pos+1) (e::acc) (s.app dst e) K):A5 P ops nx (⟨dst,op,T,ps,af,none⟩::l) pos acc s K:=by
 rw[Cu] at C;rw[BA];unfold BT;exact .inl ⟨e,Bz.plain rfl h,by have:=Go.run C;unfold BT at this;exact this⟩
def A5.assert{x:Operand}{t:TypeId}{d:D}(N:evO P s.env.get x=.iface t d)(hr:∀v w,(Instr.typeAssert (.iface t v) M t true).run P w=.ok (.tuple #[v,.bool true]) w)
  (O:GoS P ops nx l (pos+1) (⟨.tup [d,bD true],[],[]⟩::acc) (s.app dst ⟨.tup [d,bD true],[],[]⟩) K):A5 P ops nx (⟨dst,.typeAssert x M t true,T,ps,af,none⟩::l) pos acc s K:=by
 refine A5.does (AQ.quiet λ_ _ _ _ I mu _ a w _ U _=>?_) O;have C:=U x (by simp[Op.operands]);rw[N] at C;generalize V:a.eval x=v at C;cases C with
 |iface _ _ u h=>
 refine⟨.tuple #[u,.bool true],by grind [execOp,Sem.run_bind,Result.andThen,Sem.run_map,Sem.run_pure],.tup _ [u,.bool true] rfl λi hi=>?_⟩
 match i,hi with
 |0,_=>exact h
 |1,_=>exact .val _ trivial
def A5.ifNil{x y:Operand}{N t:TypeId}{d:D}(V:evO P s.env.get x=.iface t d)(Y:evO P s.env.get y=.val .nilIface)(hr:∀(a:Act) v w,a.eval x=.iface t v->a.eval y=.nilIface->(execOp a.eval ⟨dst,.binOp .eql M x y N,T,ps,af,none⟩).run P w=.ok (.value (.bool false)) w)
  (Z:GoS P ops nx l (pos+1) (⟨bD false,[],[]⟩::acc) (s.app dst ⟨bD false,[],[]⟩) K):A5 P ops nx (⟨dst,.binOp .eql M x y N,T,ps,af,none⟩::l) pos acc s K:=by
 refine A5.does (AQ.quiet λ_ _ _ _ I mu _ a w _ O _=>?_) Z;have C:=O x (by simp[Op.operands]);have U:=O y (by simp[Op.operands]);rw[V] at C;rw[Y] at U;have a0:=U.val_inv;generalize he:a.eval x=v at C;cases C with
 |iface _ _ u h=>exact ⟨.bool false,hr a u w he a0,.val _ trivial⟩
def A5.nilNil{x y:Operand}{C:TypeId}(V:evO P s.env.get x=.val .nilIface)(Y:evO P s.env.get y=.val .nilIface)(hr:∀(a:Act) w,a.eval x=.nilIface->a.eval y=.nilIface->(execOp a.eval ⟨dst,.binOp .eql C x y M,T,ps,af,none⟩).run P w=.ok (.value (.bool true)) w)
  (Z:GoS P ops nx l (pos+1) (⟨bD true,[],[]⟩::acc) (s.app dst ⟨bD true,[],[]⟩) K):A5 P ops nx (⟨dst,.binOp .eql C x y M,T,ps,af,none⟩::l) pos acc s K:=by
 refine A5.does (AQ.quiet λ_ _ _ _ I mu _ a w _ N _=>?_) Z;have O:=N x (by simp[Op.operands]);have U:=N y (by simp[Op.operands]);rw[V] at O;rw[Y] at U;exact⟨.bool true,hr a w O.val_inv U.val_inv,.val _ trivial⟩
end
def RecU(w:World)(I:Nat->Prop)(mu:Nat->Option Value):Option D->FrameMode->FrameMode->Prop
 |none,u,u'=>u=.returning/\u'=.returning
 |some d,u,u'=>∃v,Rep w I mu d v/\u=.panicking [{v,recovered:=false}]/\u'=.panicking [{v,recovered:=true}]
def wpIn_n{n m:Nat}{Q:Exit->Act->World->Prop}{a:Act}{w:World}(h:c.wpIn Fence.wide n P Q a w):c.wpIn Fence.wide m P Q a w:=
 λb k cs h1 C _=>h b k cs h1 C (λd M=>by cases M)
def TN(P:Program)(f:FuncId)(cs:List D)(o:Option D)(H H':Hp):Prop:=
 By P f=true/\∀(w:World) (M0:Nat->Prop) (G:Gh) (I:Nat->Prop) (mu:Nat->Option Value) (vs:List Value) (u u':FrameMode),GA P w M0 G->G.dl=[]->AA w M0 G (frN 4) I mu (Ak H) w->Bo w I mu cs vs->RecU w I mu o u u'->
  CallsDIn Fence.wide 0 P f vs.toArray u w λe u'' w'=>u''=u'/\∃v I' mu',e=.returned v/\AA w M0 G (frN 4) I' mu' (Ak H') w'
def recD:Option D->D
 |none=>.val .nilIface
 |some d=>d
def TN.of_awp{fn:Func}{B:Code}{o:Option D}{id t:Nat}{ts:Array TypeId}(hf:P.funcs[f]? =some fn)
  (hb:fn.body=some (.seq (.region id #[⟨some t,.call {callee:=.builtin .recover,args:=#[],argTypes:=ts},T,ps,af,none⟩] false) B)) (hn:fn.ntmps=nt) (a7:By P f=true) (ae:ds.length<=nt) (ht:t<nt)  (a8:fn.results.toList=rs)
  (h:AWp P nt B (Qt P rs (.tup []) H') ⟨(t,recD o)::BB 0 ds,H,4⟩):TN P f ds o H H':=by
 subst a8;refine⟨a7,λw M0 Y I mu vs u Z a9 ah C a4 hu=>?_⟩;let G:Gh:=⟨Y.st,Y.nm,[],Fence.wide,1,.inl rfl⟩
 refine callsDIn_of_wpSIn hf hb trivial λN cs a1=>?_;obtain⟨v,O,hv,hrec,hc₁⟩:∃(v:Value) (O:Frame),Rep w I mu (recD o) v/\(match recoverD (N::cs) with|some (x,a5)=>x=v/\a5=O::cs|none=>v=.nilIface/\O=N)/\O= {N with mode:=Z}:=by
  cases o with
  |none=>
   obtain⟨rfl,rfl⟩:=hu;refine⟨.nilIface,N,.val _ trivial,?_,?_⟩
   ·simp[recoverD,a1]
   ·rw[<-a1]
  |some d=>
   obtain⟨v,hv,rfl,rfl⟩:=hu;refine⟨v,{N with mode:=.panicking [{v,recovered:=true}]},hv,?_,rfl⟩;simp[recoverD,a1]
 have ai:(execOp ({tmps:=vs.toArray++Array.replicate (fn.ntmps-vs.toArray.size) undef,defers:=[]}:Act).eval ⟨some t,.call {callee:=.builtin .recover,args:=#[],argTypes:=ts},T,ps,af,none⟩).run P w=.ok .recover w:=by
  rfl
 have a6:(vs.toArray++Array.replicate (fn.ntmps-vs.toArray.size) undef).size=nt:=by
  have:=a4.1;simp_all
 have a2:Code.wpSIn Fence.wide 0 P B (bodyPostS P fn N cs λe a0 w'=>a0=Z/\∃v I' mu',e=.returned v/\AA w M0 Y (frN 4) I' mu' (Ak H') w') (({tmps:=vs.toArray++Array.replicate (fn.ntmps-vs.toArray.size) undef,defers:=[]}:Act).put (some t) v) (O::cs) w:=by
  refine wpSIn_of_wpIn rfl (wpIn_n (wpIn_mono (h w M0 G a9 I mu _ w ⟨by rw[FM];exact a6,C8.refl _ _ _ _,λt'=>?_,⟨C.blk,C.loc,C.inj,C.fresh,C.lt,C.os,C.tape,C.output,C.grown,C.old,C.iold,C.inew,C.keep,C.used⟩⟩) ?_))
  ·have:=Lu (env:=(BB 0 ds).get) (dst:=some t) a6 (by simp_all) (λaa=>Gq a4 _ aa) hv {tmps:=vs.toArray++Array.replicate (fn.ntmps-vs.toArray.size) undef,defers:=[]} rfl t';show Rep w I mu (Env.get ((t,recD o)::BB 0 ds) t') _;simp only[Env.get];grind
  ·rintro e a' w' ⟨x,s',I',mu',hq,he,r'⟩;have ab:a'.defers=[]:=by
    obtain⟨rs,d0,d1,_⟩:=r'.defers;grind
   have fin:∀d,KD P s' fn.results.toList=some d->Aq ⟨[(0,d)],s'.hp,s'.nx⟩ ⟨[(0,.tup [])],H',4⟩->a'.defers=[]/\∃a0,O::cs= {N with mode:=a0}::cs/\∃v,(results fn a'.tmps).run P w'=.ok v w'/\(a0=Z/\∃U I' mu',Ending.returned v=.returned U/\AA w M0 Y (frN 4) I' mu' (Ak H') w'):=by
    intro d V ac;obtain⟨U,q1,q2⟩:=Jl r' fn V;obtain⟨I3,ad,M⟩:=ac w M0 G 1 I' mu' {tmps:=#[U],defers:=[]} w' ⟨rfl,C8.refl _ _ _ _,λt=>by
     cases t with
     |zero=>simpa [St.fs,Env.get] using q2
     |succ t=>simp;exact .any _,r'.w⟩
    exact⟨ab,Z,by rw[hc₁],U,q1,rfl,U,I3,ad,rfl,⟨M.w.blk,M.w.loc,M.w.inj,M.w.fresh,M.w.lt,M.w.os,M.w.tape,M.w.output,M.w.grown,M.w.old,M.w.iold,M.w.inew,M.w.keep,M.w.used⟩⟩
   cases x<;>cases e<;>simp [He] at he<;>simp [Qt] at hq
   case normal.normal=>
    obtain⟨d,V,a3⟩:=hq;exact fin d V a3
   case ret.ret=>
    obtain⟨d,V,a3⟩:=hq;exact fin d V a3
 refine wpSIn_seq (wpSIn_region ?_);show wpOpsSIn Fence.wide 0 P _ _ [0] _ _ _;refine⟨λ_ _=>trivial,?_⟩;cases hr:recoverD (N::cs) with
 |none=>
  rw[hr] at hrec;obtain⟨h1,h2⟩:=hrec;rw[h1,h2] at a2;exact a2
 |some p=>
  obtain⟨x,a5⟩:=p;rw[hr] at hrec;obtain⟨h1,h2⟩:=hrec;subst h1 h2;exact a2
def A4.sref_grow{n sz m:Nat}{es es':LLa}(h:A4 P f (.gref 1 n::ds) [(1,.grow (es.take n) sz)] (.gref 0 m) [(0,.grow es' sz)])(a3:An ds=true)(a4:Aa es=true)(a5:Aa es'=true)(hn:n<=es.length)(hm:es.length<=9223372036854775807):
  A4 P f (.sref 1 0 n es.length sz::ds) [(1,.rows es sz)] (.gref 0 m) [(0,.grow es' sz)]:=by
 unfold A4 at h|-;obtain⟨a6,h⟩:=h;refine⟨a6,λw M0 G I mu vs a7 ac M hr=>?_⟩;have V:Ak [(1,Blk.rows es sz)] 1=some (.rows es sz):=rfl;obtain⟨k,T,us,h1,h2,h3,h4,h5⟩:=M.blk 1 _ V;have ad:=M.loc 1 _ _ k V h1 rfl;let N:Nat->Option Value:=λb=>if b=1 then some (.slice (some ⟨k,0,none⟩) n es.length) else mu b
 let G2:Gh:=⟨G.st,λb=>if b=1 then none else G.nm b,[],Fence.wide,0,.inl rfl⟩
 have ae:(es.take n).length=n:=So';have a2:∀b x,Ak [(1,Blk.grow (es.take n) sz)] b=some x->b=1/\x=.grow (es.take n) sz:=λb x C=>by
  simp[Ak] at C;grind
 have ah:∀v j,N 1=some v->Al v=some j->j=k:=λv j hv O=>by
  grind [Al]
 have hW:AA w M0 G2 (frN 4) I N (Ak [(1,Blk.grow (es.take n) sz)]) w:=by
  refine⟨λb x C=>?_,λb x v j C hv O=>?_,λb c x y v u j C hy _ _ _ _=>?_,λb hb=>?_,M.lt,M.os,M.tape,M.output,M.grown,M.old,M.iold,M.inew,λb x hb C=>?_,λb x C hb=>?_⟩
  ·obtain⟨rfl,rfl⟩:=a2 b x C;refine⟨some ⟨k,0,none⟩,es.length,T,us,by grind,λi hi=>?_,by simpa[maxLen] using hm,?_⟩
   ·have ai:i<n:=Om;have:nr (es.take n) i=nr es i:=by grind [nr]
    grind
   ·rcases A2K es.length with h0|h0
    ·grind
    ·refine .inr ⟨k,h0,rfl,h2,Om,h3,λi j hi O=>?_⟩;have:nr (es.take n) i=nr es i:=by grind [nr]
     rw[this];have Y:=h5 i j Om O;exact Y.unmu (CK (JS a4 i) j)
  ·grind
  ·grind
  ·have:=M.fresh b hb;grind
  ·have a0:(if b=1 then none else G.nm b)=some x:=C;split at a0
   ·cases a0
   ·rename_i a8;simp[N,if_neg a8];exact M.keep b x hb a0
  ·obtain⟨rfl,rfl⟩:=a2 b x C;have:=hb.1;omega
 have a9:Bo w I N (.gref 1 n::ds) vs:=by
  obtain⟨g1,Z⟩:=hr;refine⟨g1,λi hi=>?_⟩;cases i with
  |zero=>
   have:=Z 0 Sq';simp[nd,A39] at this|-;generalize nv vs 0=v at this;cases this with
   |sref _ _ _ _ _ k' hk=>
    rw[h1] at hk;simp at hk;subst hk;have:=Rep.gref (w:=w) (I:=I) (mu:=N) 1 n (some ⟨k,0,none⟩) es.length (by simp[N]);grind
  |succ i=>
   have Y:=Z (i+1) hi;have h7:=CK a3 i;simp[nd,A3t] at Y|-;exact Y.unmu h7
 refine(h w M0 G2 I N vs a7 rfl hW a9).mono λe w' ⟨v,I',mu',he,hv,R⟩=>?_;let U:Nat->Option Value:=λb=>if b=1 then mu 1 else mu' b
 have a1:∀b x,Ak [(0,Blk.grow es' sz)] b=some x->b=0/\x=.grow es' sz:=λb x C=>by
  simp[Ak] at C;grind
 have aa:U 0=mu' 0:=by simp[U]
 refine⟨v,I',U,he,?_,⟨λb x C=>?_,λb x u j C hu O=>?_,λb c x y u u' j C hy _ _ _ _=>?_,λb hb=>?_,R.lt,R.os,R.tape,R.output,R.grown,R.old,R.iold,R.inew,λb x hb C=>?_,λb x C hb=>?_⟩⟩
 ·cases hv with
  |gref _ _ A cap hk=>exact .gref 0 m A cap (by grind)
 ·obtain⟨rfl,rfl⟩:=a1 b x C;obtain⟨A,cap,T',ab,g1,Z,g3,g4⟩:=R.blk 0 _ C;refine⟨A,cap,T',ab,by grind,Z,g3,?_⟩;rcases g4 with g4|⟨k',q0,q1,q2,q3,q4,q5⟩
  ·grind
  ·exact .inr ⟨k',q0,q1,q2,q3,q4,λi j hi O=>(q5 i j hi O).unmu (CK (JS a5 i) j)⟩
 ·obtain⟨rfl,rfl⟩:=a1 b x C;rw[aa] at hu;exact R.loc 0 _ u j C hu O
 ·grind
 ·have h2:=hb.1;simp[U];rw[if_neg Om];exact R.fresh b hb
 ·by_cases V:b=1
  ·subst V;simp[U,if_true];exact M.keep 1 x hb C
  ·simp[U,if_neg V];exact R.keep b x hb (by grind)
 ·obtain⟨rfl,rfl⟩:=a1 b x C;exact R.used 0 _ C hb
def AD(ks:List Baa):List Baa:=((ks.map (·.data.toList)).mergeSort (λx y=>decide (x<=y))).map λl=>⟨l.toArray⟩
def Pn{a b:List (Lua)}(h:a.Perm b):a.mergeSort (λx y=>decide (x<=y))=b.mergeSort (λx y=>decide (x<=y)):=by
 have tr:∀x y z:Lua,decide (x<=y)=true->decide (y<=z)=true->decide (x<=z)=true:=by grind
 have C:∀x y:Lua,(decide (x<=y) ||decide (y<=x))=true:=λx y=>by
  grind
 refine List.Perm.eq_of_pairwise (le:=λx y:Lua=>decide (x<=y)) (by grind) (List.pairwise_mergeSort tr C a) (List.pairwise_mergeSort tr C b) ((List.mergeSort_perm a _).trans (h.trans (List.mergeSort_perm b _).symm))
def Qr(P:Program)(f g:FuncId)(K:TypeId):Prop:=∀(Bm b nn:Nat) (D0:DataW Unit) (R:Value->Option (DataW Unit×List MemPlace)) (w:World),Bm<w.heap.size->w.cell? ⟨Bm,0,none⟩=some (.map (some b))->w.ownsMap P K R b nn D0->Maps.size D0<=maxLen->Maps.size D0*16<=140737488355328->
 Calls P f #[.func (.func g) #[] #[.pointer (some ⟨Bm,0,none⟩)]] w λe w'=>∃(v:Value) (ss:List (Lua)),e=.returned v/\ss.Perm (strKeys D0)/\w'.ownsRow w.heap.size K 1 v ss.length ((ss.mergeSort (λx y=>decide (x<=y))).map Proofs.encStr)/\(v=.slice none 0 0↔ss=[])/\Below w.heap.size w w'
def A4.of_sorted{g:FuncId}{K:TypeId}(he:By P f=true)(hu:P.underlying K=some .string)(hc:Qr P f g K)(es:List (Value×Nat×D))(ck:Nat)(C:List Baa)(a4:es.map (·.1)=C.map Value.string)
  (hb:∀y ∈ es,y.2.1<ck) (ay:(es.map (·.2.1)).Nodup) (a9:C.Nodup) (a5:∀k ∈ C,k.size<=9223372036854775807) (az:C.length<=1048576):
  A4 P f [.func (.func g) [] [.ref 3 0 0 1]] [(1,.map es ck),(3,.rows [[.mref 1]] 1)] (.slice ((AD C).map λk=>[sD k]) false) [(1,.map es ck),(3,.rows [[.mref 1]] 1)]:=by
 unfold A4;refine⟨he,λw M0 G I mu vs b6 b7 O hr=>?_⟩;obtain⟨km,l,m1,m2,m3,m4,m5⟩:=O.blk 1 _ rfl;obtain⟨kb,T,us,b1,b2,b3,b4,b5⟩:=O.blk 3 (.rows [[.mref 1]] 1) rfl;have aa:=(O.loc 3 _ _ kb rfl b1 rfl).2.2;obtain⟨u,rfl⟩:∃u,us=[u]:=by
  match us,b3 with
  |[u],_=>simp_all
 have ab:=b5 0 0 Sq' Sq';cases ab with
 |mref _ k' M=>
 rw[m1] at M;simp only[A2j,Value.map.injEq] at M;subst M;obtain⟨g1,g2⟩:=hr;obtain⟨v0,rfl⟩:∃v,vs=[v]:=by
  match vs,g1 with
  |[v],_=>simp_all
 have ac:=g2 0 Sq';cases ac with
 |func _ _ _ us vs b8 Z h h'=>
 obtain rfl:us=[]:=by simp_all
 obtain⟨v1,rfl⟩:∃v,vs=[v]:=by
  match vs,Z with
  |[v],_=>simp_all
 have ad:=h' 0 Sq';cases ad with
 |ref _ _ _ _ k' M=>
 rw[b1] at M;simp at M;subst M;let R:Value->Option (DataW Unit×List MemPlace):=λ_=>some (.nil,[]);have ae:∀x ∈ l,∃k ∈ C,x.key=.string k:=λx U=>by
  have:x.key ∈ es.map (·.1):=by grind
  grind
 have ah:∀x ∈ l,∀k,k ∈ C->x.key=.string k->WideElems.rd P K R x=some (.string k.data.toList,.nil):=λx U k N h=>by
  have hm:k.size<=maxLen:=a5 k N;simp[WideElems.rd,keyOf,hu,mapKey,h,if_pos hm,Option.bind_some,R,A3g]
 have ai:WideElems.Fit P K R l.toArray ck:=by
  refine⟨?_,⟨?_,?_,?_⟩,?_⟩
  ·have:=congrArg List.length m3;have V:=congrArg List.length a4;grind [maxLen]
  ·intro x U;have:x.born ∈ es.map (·.2.1):=by grind
   grind
  ·simp_all
  ·show(l.map (·.key)).Nodup;rw[m3,a4];exact List.Pairwise.map Value.string (λa b h=>by simpa using h) a9
  ·intro x U;obtain⟨k,N,h⟩:=ae x U;exact⟨_,ah x U k N h⟩
 have aj:l.length=C.length:=by
  have:=congrArg List.length m3;grind
 have ak:w.ownsMap P K R km l.length (.map ((l.map (WideElems.rg P K R)).foldr DataW.insert [])):=⟨l.toArray,ck,m2,ai,Sq',rfl⟩
 have al:l.map (λx=>strOf (WideElems.rg P K R x).1)=C.map (·.data.toList):=by
  have:∀(l:List MapEntry) (C:List Baa),(∀x ∈ l,∀k,k ∈ C->x.key=.string k->WideElems.rd P K R x=some (.string k.data.toList,.nil))->l.map (·.key)=C.map Value.string->l.map (λx=>strOf (WideElems.rg P K R x).1)=C.map (·.data.toList):=by
   intro l
   induction l with
   |nil=>simp_all
   |cons x l ih=>
    intro C hr h;cases C with
    |nil=>simp at h
    |cons k C=>
     grind [WideElems.rg,strOf]
  grind
 have a6:(strKeys (DataW.map ((l.map (WideElems.rg P K R)).foldr DataW.insert []))).Perm (C.map (·.data.toList)):=by
  rw[<-al];have h1:=WideShapes.sorted_perm (l.map (WideElems.rg P K R));have V:=h1.map (λp=>strOf p.1);rw[A30] at V;exact V
 have am:Maps.size (DataW.map ((l.map (WideElems.rg P K R)).foldr DataW.insert []))=C.length:=by
  rw[Maps.size_eq,(WideShapes.sorted_perm _).length_eq,A2k,aj]
 have an:w.cell? ⟨kb,0,none⟩=some (.map (some km)):=by
  simp[World.cell?,b2]
 refine(hc kb km l.length _ R w aa an ak (by rw[am];simp[maxLen];omega) Om).mono λe w' ⟨v,Y,ao,a7,⟨b9,ho⟩,ba,a0⟩=>?_;have ap:Y.mergeSort (λx y=>decide (x<=y))=(C.map (·.data.toList)).mergeSort (λx y=>decide (x<=y)):=Pn (a7.trans a6);have aq:Y.length=C.length:=by rw[(a7.trans a6).length_eq,A2k]
 have ar:(AD C).length=C.length:=by simp[AD]
 have au:∀i,i<(AD C).length->((Y.mergeSort (λx y=>decide (x<=y))).map Proofs.encStr)[i]? =some (.string ((AD C).getD i default)):=λi hi=>by
  rw[ap];simp[AD,A2X,A29];grind
 have av:∀i,i<(AD C).length->okP (.string ((AD C).getD i default)):=λi hi=>by
  have hm:(AD C).getD i default ∈ AD C:=by
   grind
  obtain⟨a,ha,aw⟩:=A2p.1 hm;have ax:=(List.mergeSort_perm _ _).mem_iff.1 ha;obtain⟨k,N,rfl⟩:=A2p.1 ax;have:(⟨(k.data.toList).toArray⟩:Baa)=k:=Sq';rw[<-aw,this];exact a5 k N
 have key:∀I':Nat->Prop,(∀k,I k->I' k)->(∀k,I' k->I k\/w.heap.size<=k)->(∀k,I' k->k<w'.heap.size)->Rep w' I' mu (.slice ((AD C).map λk=>[sD k]) false) v->∃v I' mu',e=.returned v/\Rep w' I' mu' (.slice ((AD C).map λk=>[sD k]) false) v/\AA w M0 G (frN 4) I' mu' (Ak [(1,.map es ck),(3,.rows [[.mref 1]] 1)]) w':=
  λI' a1 a2 a3 hv=>⟨v,I',mu,ao,hv,O.below a1 a2 a3 a0⟩
 rcases ho with⟨rfl,h0⟩|⟨gb,cap,bb,rfl,h1,V,h3,h4,h5,h6⟩
 ·have hz:AD C=[]:=A2D Om;refine key I (λ_ h=>h) (λ_ h=>.inl h) (λk N=>A3K (O.lt k N) a0.size) ?_;rw[hz];exact .slice [] false none 0 0 1 0 (λ_ _=>undef) (λh=>absurd h Sq') (A2e _) (λh=>by cases h) Dq' (λi hi=>absurd hi Sq') (λi j hi=>absurd hi Sq') (λi j hi=>absurd hi Sq')
 ·refine key (λk=>I k\/k=gb) (λ_ h=>.inl h) (λk h=>h.elim .inl λh=>.inr Om) (λk h=>?_) ?_
  ·rcases h with h|rfl
   ·exact A3K (O.lt k h) a0.size
   grind
  ·have Z:Y.length=((AD C).map λk=>[D.val (.string k)]).length:=by rw[A2k,ar,aq]
   rw[Z];have hL:((AD C).map λk=>[D.val (.string k)]).length=(AD C).length:=A2k ..;have a8:∀i,i<(AD C).length->nr ((AD C).map λk=>[D.val (.string k)]) i=[sD ((AD C).getD i default)]:=λi hi=>by
    simp[nr,A29,A2X,A2f hi,A3g,A2P]
   have:=Rep.slice (w:=w') (I:=λk=>I k\/k=gb) (mu:=mu) ((AD C).map λk=>[D.val (.string k)]) false (some ⟨gb,0,none⟩) gb 0 1 cap (λi j=>.string ((AD C).getD i default)) (λ_=>⟨rfl,λ_=>.inr rfl⟩) (by rw[<-Z];exact h3) (λh=>by cases h) h4
    (λi hi=>by rw[hL] at hi;rw[a8 i hi];rfl)
    (λi j hi hj=>by
     rw[hL] at hi;obtain rfl:j=0:=Om;have h7:=au i hi;rw[<-h6,List.getElem?_take] at h7;have hlt:i<Y.length*1:=Om;rw[if_pos hlt] at h7;simp[World.cell?,V,A3T,Nat.mul_one,Nat.add_zero];rw[<-Array.getElem?_toList];simpa using h7)
    (λi j hi hj=>by
     rw[hL] at hi;obtain rfl:j=0:=Om;rw[a8 i hi];exact .val _ (av i hi))
   exact this
def A0.of_calls(C:By P f=true)(hr:r.pure=true)
  (h:∀(w:World) (I:Nat->Prop) (vs:List Value),GIn P w I->(∀k,I k->k<w.heap.size)->Bo w I (λ_=>none) ds vs->∃v,(∀w':World,Rep w' (λ_=>False) (λ_=>none) r v)/\Calls P f vs.toArray w λe w'=>e=.returned v/\Below w.heap.size w w'):A0 P f ds r:=by
 unfold A0;refine⟨C,λw I vs N M hl O=>?_⟩;obtain⟨v,U,hc⟩:=h w I vs N M ⟨hl,O⟩;refine hc.mono λe w' ⟨C,hb⟩=>⟨v,I,C,?_,λ_ h=>h,λ_ h=>.inl h,λk V=>A3K (M k V) hb.size,hb⟩
 exact(U w').mono (λ_ h=>h.elim) (λ_ h=>h.elim) (λ_ _ h=>h)
def Bo.vals{w:World}{I:Nat->Prop}{mu:Nat->Option Value}:∀ {us vs:List Value},Bo w I mu (us.map .val) vs->vs=us
 |[],vs,h=>A3c.1 h.1
 |u::us,[],h=>by have:=h.1;simp_all
 |u::us,v::vs,h=>by
  have h0:=h.2 0 Sq';simp[nv,A2m,A39] at h0;cases h0 with
  |val _ _=>
   rw[Bo.vals (vs:=vs) ⟨by have:=h.1;simpa using this,λi hi=>by
    have:=h.2 (i+1) (by simpa using hi);simpa[nd,nv] using this⟩]
def Bo.oks{w:World}{I:Nat->Prop}{mu:Nat->Option Value}{us vs:List Value}(h:Bo w I mu (us.map .val) vs):∀u ∈ us,okP u:=by
 intro u C;obtain⟨i,hi,rfl⟩:=A2W.1 C;have:=h.2 i (by simp_all);simp[nd,A29,A2f hi,A3g,A2P] at this;generalize nv vs i=x at this;cases this with
 |val _ ok=>exact ok
def Hs{w:World}{v:Value}(h:okP v):Rep w (λ_=>False) (λ_=>none) (.val v) v:=.val v h
def L5{w:World}{u v:Value}(h:okP u)(C:okP v):Rep w (λ_=>False) (λ_=>none) (.tup [.val u,.val v]) (.tuple #[u,v]):=
 .tup [.val u,.val v] [u,v] rfl λi hi=>by
  match i,hi with
  |0,_=>exact Rep.val u h
  |1,_=>exact Rep.val v C
def A0.of_vals{us:List Value}(M:By P f=true)(hr:r.pure=true)
  (h:∀(w:World) (I:Nat->Prop),GIn P w I->(∀u ∈ us,okP u)->∃v,(∀w':World,Rep w' (λ_=>False) (λ_=>none) r v)/\Calls P f us.toArray w λe w'=>e=.returned v/\Below w.heap.size w w'):A0 P f (us.map .val) r:=
 A0.of_calls M hr λw I vs N U C=>by
  obtain⟨v,h1,O⟩:=h w I N C.oks;rw[C.vals];exact⟨v,h1,O⟩
theorem A4.args{ds':List D}(h:A4 P f ds H r H')(hl:loL ds' ds):A4 P f ds' H r H':=by
 unfold A4 at h|-;exact⟨h.1,λw M0 G I mu vs C M N hr=>h.2 w M0 G I mu vs C M N (by
  obtain⟨h1,O⟩:=C3 hl;exact⟨hr.1.trans h1,λi hi=>(hr.2 i Om).lo (O i Om)⟩)⟩
def Ni(P:Program)(f g:FuncId):Prop:=∀(Bm:Nat) (w:World),Bm<w.heap.size->w.cell? ⟨Bm,0,none⟩=some (.map none)->
 Calls P f #[.func (.func g) #[] #[.pointer (some ⟨Bm,0,none⟩)]] w λe w'=>e=.returned (.slice none 0 0)/\Below w.heap.size w w'
def A4.of_sortedN{g:FuncId}(U:By P f=true)(hc:Ni P f g):
  A4 P f [.func (.func g) [] [.ref 3 0 0 1]] [(3,.rows [[.val (.map none)]] 1)] (.slice [] true) [(3,.rows [[.val (.map none)]] 1)]:=by
 unfold A4;refine⟨U,λw M0 G I mu vs a6 a7 C hr=>?_⟩;obtain⟨M,T,us,b1,b2,V,b4,Y⟩:=C.blk 3 (.rows [[.val (.map none)]] 1) rfl;have Z:=(C.loc 3 _ _ M rfl b1 rfl).2.2;obtain⟨u,rfl⟩:∃u,us=[u]:=by
  match us,V with
  |[u],_=>simp_all
 have a0:=Y 0 0 Sq' Sq';cases a0 with
 |val _ _=>
 obtain⟨g1,g2⟩:=hr;obtain⟨v0,rfl⟩:∃v,vs=[v]:=by
  match vs,g1 with
  |[v],_=>simp_all
 have a1:=g2 0 Sq';cases a1 with
 |func _ _ _ us vs a8 a2 h h'=>
 obtain rfl:us=[]:=by simp_all
 obtain⟨v1,rfl⟩:∃v,vs=[v]:=by
  match vs,a2 with
  |[v],_=>simp_all
 have a3:=h' 0 Sq';cases a3 with
 |ref _ _ _ _ k' N=>
 rw[b1] at N;simp at N;subst N;have a4:w.cell? ⟨M,0,none⟩=some (.map none):=by simp[World.cell?,b2]
 refine(hc M w Z a4).mono λe w' ⟨a5,O⟩=>⟨_,I,mu,a5,?_,C.below (λ_ h=>h) (λ_ h=>.inl h) (λk hk=>A3K (C.lt k hk) O.size) O⟩
 exact .slice [] true none 0 0 1 0 (λ_ _=>undef) (by simp_all) (A2e _) (λ_=>rfl) Dq' (by simp_all) (by simp_all) (by simp_all)
end Go.Ab
namespace Go.Ab
open Go.Proofs Go.Proofs.Tryz
def OV.es(o:OV):List CE:=(o.chg.getD ([],0)).1
def OV.ck(o:OV):Nat:=(o.chg.getD ([],0)).2
def OV.view(o:OV)(l:Lga):Lga:=GD o.es l
structure OvOk(o:OV)(l:List GE):Prop where
 tr:Dw o.below l
 ch:DP o.es o.ck
def ZH(o:OV)(l:Lga)(h:OvOk o l)(hb:l.length<=1099511627776)(k:Baa):
  A4 prog 232 [.ref 1 0 0 3,sD k] (ovH o) (.tup [.agg (Di (AR (Am k (o.view l)))),.val (.bool (Am k (o.view l)).isSome)]) (ovH o):=by
 have M:=QF h.tr hb k;have C:=CY k o.es l h.ch.keys;simp only[AF] at M;have O:=h.ch;unfold OV.view;obtain⟨b,c,u⟩:=o;have N:=A6 b;cases c with
 |none=>
  simp only[OV.es,Option.getD_none] at C|-;rw[C];simp only[lk,List.find?_nil,Option.map_none];generalize AR (Am k l)=v at*;generalize(Am k l).isSome=x at*;rcases u with _|u<;>simp only[M5,KG];all_goals
   refine Zd [] ?_
   (have z:=N;push_cast[z]<;>repeat' (first|refine Zc M ?_|apply Za)<;>push_cast[z])
   all_goals first|exact B0 _|exact Av _|skip
   all_goals(apply Zw<;>push_cast)
 |some c=>
  obtain⟨es,ck⟩:=c;simp only[OV.es,OV.ck,A2P] at C O|-;cases hf:C5 k es 0 with
  |none=>
   rw[HK hf] at C;rw[C];simp only;generalize AR (Am k l)=v at*;generalize(Am k l).isSome=x at*;rcases u with _|u<;>simp only[Jq,DY];all_goals
    refine Zd [] ?_
    (have z:=Za N<|Za @B8 hf;push_cast[z]<;>repeat' (first|refine Zc M ?_|apply Za)<;>push_cast[z])
    all_goals first|exact B0 _|exact Av _|skip
    all_goals(apply Zw<;>push_cast)
  |some p=>
   obtain⟨i,s⟩:=p;obtain⟨h1,n,Y⟩:=KQ hf;have U:=O.sm _ (List.mem_of_getElem? Y);rw[h1] at C;rw[C];have V:=NE s.2 U.1;have Z:AR (Nm s)=s.2:=by
    unfold Nm;cases hs:s.1 with
    |true=>rfl
    |false=>exact (U.2.1 hs).symm
   have a0:(Nm s).isSome=s.1:=by unfold Nm;cases s.1<;>rfl
   simp only[Z,a0];obtain⟨sb,sv⟩:=s;simp only at V;rcases u with _|u<;>simp only[Jq,DY];all_goals
    refine Zd [] ?_
    (have z:=Za N<|Za @B8<|Za hf @D3;push_cast[z]<;>repeat' (first|refine Zc V ?_|exact Zo|apply Za)<;>push_cast[z])
    all_goals first|exact B0 _|exact Av _|skip
    all_goals(apply Zw<;>push_cast)
def Yb(o:OV)(l:Lga)(h:OvOk o l)(hb:l.length<=1099511627776)(k:Baa):
  A4 prog 232 [.ref 1 0 0 3,sD k] (ovH o) (.tup [.agg (A7 (AR (Am k (o.view l)))),.val (.bool (Am k (o.view l)).isSome)]) (ovH o):=(ZH o l h hb k).res (lo_T _ _)
def OV.us(o:OV):List BL:=o.und.getD []
def Sm_zV:Sm zV:=.mk _ _ _ _ [] [] Sq' Sq' Sq' Sq' Dq' Dq' Sq'
def c_ODel0(o:OV)(l:Lga)(h:OvOk o l)(hb:l.length<=1099511627776)(k:Baa)(hh:D9 k (o.view l)=false):
  A4 prog 165 [.ref 1 0 0 3,sD k] (ovH o) (bD false) (ovH o):=by
 have C:=Yb o l h hb k;rw[<-FW,hh] at C;generalize AR (Am k (o.view l))=v at*;obtain⟨b,c,u⟩:=o;have M:=A6 b;rcases c with _|⟨es,ck⟩<;>rcases u with _|u<;>simp only[M5,Jq,KG,DY] at C|-;all_goals
  refine Zd [] ?_
  (have z:=M;push_cast[z]<;>repeat' (first|refine Zs [(1,1),(2,2),(4,4)] C ?_|apply Za)<;>push_cast[z])
  apply Zr [(2,34),(4,36)] rfl<;>push_cast
def A05(o:OV)(k:Baa)(s:Ct):∃es ck u,o.step k s=⟨o.below,some (es,ck),some u⟩:=⟨_,_,_,rfl⟩
def c_ODel1(o:OV)(l:Lga)(h:OvOk o l)(hb:l.length<=1099511627776)(k:Baa)(hh:D9 k (o.view l)=true)(hn:o.us.length<1073741824):
  A4 prog 165 [.ref 1 0 0 3,sD k] (ovH o) (bD true) (ovH (o.step k (false,zV))):=by
 have M:=Yb o l h hb k;have C:=(c_step o k (false,zV) hn).args (ds':=[.ref 1 0 0 3,sD k,.agg (bD false::z6)]) ⟨Av _,Av _,⟨Av _,loL_z6⟩,trivial⟩;rw[<-FW,hh] at M;generalize AR (Am k (o.view l))=v at*;obtain⟨es',U,V,N⟩:=A05 o k (false,zV);rw[N] at C|-;obtain⟨b,c,u⟩:=o;have O:=A6 b;simp only[z6] at C;rcases c with _|⟨es,ck⟩<;>rcases u with _|u<;>simp only[M5,Jq,KG,DY] at M C|-;all_goals
  refine Zd [] ?_
  (have z:=O;push_cast[z]<;>repeat' (first|refine Zs [(1,1),(2,2),(4,4)] M ?_|refine Zs [(1,1),(2,34),(4,36)] C ?_|apply Za)<;>push_cast[z])
  apply Zr [(2,130),(4,132)] rfl<;>push_cast
end Go.Ab
namespace Go.Proofs
open Go.Maps Go.Proofs Go.Proofs.Tryz Go.RowKit Go.Shelf Go.Sort
def Tryz.keysA_ren:Go.Shelf.Ren:=⟨fun|7=>107|10=>173|n=>n,fun|23=>172|26=>9|3=>182|28=>179|0=>0|27=>178|33=>123|4=>4|n=>n,fun|n=>n⟩
def Tryz.keysA:Go.Proofs.SlLaysZ.n7 prog Tryz.keysA_ren:= {
 mixed:=Kq'
 f7:=⟨f107.name,Dq',func107.trans (congrArg some Kq')⟩
 f10:=⟨f173.name,Dq',func173.trans (congrArg some Kq')⟩
 t0:=underlying0
 a0:=isAgg0
 z0:=sizeOf0
 v0:=zeroValue0
 t4:=underlying4
 a4:=isAgg4
 z4:=sizeOf4
 v4:=zeroValue4
 t23:=underlying172
 a23:=isAgg172
 z23:=sizeOf172
 v23:=zeroValue172
 t26:=underlying9
 a26:=isAgg9
 z26:=sizeOf9
 v26:=zeroValue9
 t27:=underlying178
 a27:=isAgg178
 z27:=sizeOf178
 v27:=zeroValue178
 t28:=underlying179
 a28:=isAgg179
 z28:=sizeOf179
 v28:=zeroValue179
 t33:=underlying123
 a33:=isAgg123
 z33:=sizeOf123
 v33:=zeroValue123}
def Tryz.sortedA_ren:Go.Shelf.Ren:=⟨fun|6=>106|8=>171|9=>172|11=>236|13=>238|12=>237|23=>309|24=>310|14=>300|15=>301|16=>302|17=>303|18=>304|19=>305|20=>306|21=>307|22=>308|25=>366|26=>367|27=>368|28=>369|29=>370|30=>371|31=>397|n=>n,fun|26=>9|28=>179|24=>176|0=>0|3=>3|37=>305|48=>265|50=>22|4=>4|40=>380|39=>379|45=>227|5=>5|9=>9|51=>432|55=>435|57=>462|58=>158|33=>123|n=>n,fun|n=>n⟩
def Tryz.sortedA:Go.Proofs.SlLaysZ.n6 prog Tryz.sortedA_ren:= {
 mixed:=Kq'
 f6:=⟨f106.name,Dq',func106.trans (congrArg some Kq')⟩
 f8:=⟨f171.name,Dq',func171.trans (congrArg some Kq')⟩
 f11:=⟨f236.name,Dq',func236.trans (congrArg some Kq')⟩
 t0:=underlying0
 a0:=isAgg0
 z0:=sizeOf0
 v0:=zeroValue0
 t24:=underlying176
 a24:=isAgg176
 z24:=sizeOf176
 v24:=zeroValue176
 t26:=underlying9
 a26:=isAgg9
 z26:=sizeOf9
 v26:=zeroValue9
 t28:=underlying179
 a28:=isAgg179
 z28:=sizeOf179
 v28:=zeroValue179
 i26:=by kernel_rfl}
def Tryz.sortA_ren:Go.Shelf.Ren:=⟨fun|6=>172|8=>238|9=>237|19=>309|20=>310|21=>300|22=>301|23=>302|24=>303|25=>304|26=>305|27=>306|28=>307|29=>308|36=>366|31=>367|32=>368|37=>369|38=>370|39=>371|41=>397|n=>n,fun|27=>176|29=>9|3=>3|32=>305|26=>176|0=>0|44=>265|46=>22|4=>4|36=>380|35=>379|41=>227|5=>5|9=>9|53=>432|57=>435|63=>462|64=>158|n=>n,fun|n=>n⟩
def Tryz.sortA:Go.Proofs.SlLaysM.n6 prog Tryz.sortA_ren:= {
 mixed:=Kq'
 f6:=⟨f172.name,Dq',func172.trans (congrArg some Kq')⟩
 f8:=func238.trans (congrArg some Kq')
 f9:=⟨f237.name,Dq',func237.trans (congrArg some Kq')⟩
 f19:=func309.trans (congrArg some Kq')
 f20:=func310.trans (congrArg some Kq')
 f21:=⟨f300.name,Dq',func300.trans (congrArg some Kq')⟩
 f22:=⟨f301.name,Dq',func301.trans (congrArg some Kq')⟩
 f23:=⟨f302.name,Dq',func302.trans (congrArg some Kq')⟩
 f24:=⟨f303.name,Dq',func303.trans (congrArg some Kq')⟩
 f25:=⟨f304.name,Dq',func304.trans (congrArg some Kq')⟩
 f26:=⟨f305.name,Dq',func305.trans (congrArg some Kq')⟩
 f27:=⟨f306.name,Dq',func306.trans (congrArg some Kq')⟩
 f28:=⟨f307.name,Dq',func307.trans (congrArg some Kq')⟩
 f29:=⟨f308.name,Dq',func308.trans (congrArg some Kq')⟩
 f31:=func367.trans (congrArg some Kq')
 f32:=func368.trans (congrArg some Kq')
 f36:=⟨f366.name,Dq',func366.trans (congrArg some Kq')⟩
 f37:=⟨f369.name,Dq',func369.trans (congrArg some Kq')⟩
 f38:=⟨f370.name,Dq',func370.trans (congrArg some Kq')⟩
 f39:=⟨f371.name,Dq',func371.trans (congrArg some Kq')⟩
 f41:=⟨f397.name,Dq',func397.trans (congrArg some Kq')⟩
 t0:=underlying0
 a0:=isAgg0
 z0:=sizeOf0
 v0:=zeroValue0
 t3:=underlying3
 a3:=isAgg3
 z3:=sizeOf3
 v3:=zeroValue3
 t4:=underlying4
 a4:=isAgg4
 z4:=sizeOf4
 v4:=zeroValue4
 t5:=underlying5
 a5:=isAgg5
 z5:=sizeOf5
 v5:=zeroValue5
 t9:=underlying9
 a9:=isAgg9
 z9:=sizeOf9
 v9:=zeroValue9
 t26:=underlying176
 a26:=isAgg176
 z26:=sizeOf176
 v26:=zeroValue176
 t27:=underlying176
 a27:=isAgg176
 z27:=sizeOf176
 v27:=zeroValue176
 t29:=underlying9
 a29:=isAgg9
 z29:=sizeOf9
 v29:=zeroValue9
 t32:=underlying305
 a32:=isAgg305
 z32:=sizeOf305
 v32:=zeroValue305
 t35:=underlying379
 a35:=isAgg379
 z35:=sizeOf379
 v35:=zeroValue379
 t36:=underlying380
 a36:=isAgg380
 z36:=sizeOf380
 v36:=zeroValue380
 t41:=underlying227
 a41:=isAgg227
 z41:=sizeOf227
 v41:=zeroValue227
 t44:=underlying265
 a44:=isAgg265
 z44:=sizeOf265
 v44:=zeroValue265
 t46:=underlying22
 a46:=isAgg22
 z46:=sizeOf22
 v46:=zeroValue22
 t53:=underlying432
 a53:=isAgg432
 z53:=sizeOf432
 v53:=zeroValue432
 t57:=underlying435
 a57:=isAgg435
 z57:=sizeOf435
 v57:=zeroValue435
 t63:=underlying462
 a63:=isAgg462
 z63:=sizeOf462
 v63:=zeroValue462
 t64:=underlying158
 a64:=isAgg158
 z64:=sizeOf158
 v64:=zeroValue158}
def Tryz.sortsA(m:Nat):AnyZ.SortsIn prog Tryz.sortedA_ren Fence.wide m:=
 ⟨λblk off cap C W M N O=>callsIn_wide.2 (AnyM.slices_Sort_string Tryz.sortA blk off cap C W M N O),
  λp cap W=>callsIn_wide.2 (AnyM.slices_Sort_string_none Tryz.sortA p cap W)⟩
end Go.Proofs
namespace Go.Ab
open Go.Maps Go.Proofs Go.Proofs.Tryz Go.RowKit Go.Shelf Go.Sort
variable{i nx:Nat}{env:Env}{hp:Hp}
set_option maxHeartbeats 1000000 in
def WQ:Qr prog 106 173 9:=λC b nn M R w N O U V Y=>by
 refine(callsIn_wide (n:=5)).1 ?_;have Z:SeqGives Fence.wide 2 prog 173 #[.pointer (some ⟨C,0,none⟩)] encStr (λss=>ss.Perm (strKeys M)) (Maps.size M) w:=
  AnyZ.keys_gives (ρ:=Tryz.keysA_ren) {Tryz.keysA with} Fence.wide _ trivial rfl Om C b nn M w N O U
 exact AnyZ.sorted_in Tryz.sortedA Fence.wide 5 trivial trivial trivial trivial rfl Om (Tryz.sortsA _) (enters_of func172 Kq' rfl) 173 #[.pointer (some ⟨C,0,none⟩)] trivial (enters_of func173 Kq' rfl) _ _ V Y _ Z
set_option maxHeartbeats 1000000 in
def Uh:Ni prog 106 173:=λC w O U=>by
 refine(callsIn_wide (n:=5)).1 ?_;have V:SeqGives Fence.wide 2 prog 173 #[.pointer (some ⟨C,0,none⟩)] encStr (λM:List (Lua)=>M=[]) 0 w:=
  AnyZ.keys_gives_nil (ρ:=Tryz.keysA_ren) {Tryz.keysA with} Fence.wide _ trivial rfl C w O U
 refine CallsIn.mono (AnyZ.sorted_in Tryz.sortedA Fence.wide 5 trivial trivial trivial trivial rfl Om (Tryz.sortsA _) (enters_of func172 Kq' rfl) 173 #[.pointer (some ⟨C,0,none⟩)] trivial (enters_of func173 Kq' rfl) _ 0 (A2w _) Om w V) ?_;rintro e w' ⟨v,M,N,Y,_,Z,hb⟩;rw[Z.2 Y] at N;exact⟨N,hb⟩
def c_Keys(es:List CE)(ck:Nat):A4 prog 107 [.mref 1] [(1,.map (es.map CH) ck)] (.func (.func 173) [] [.ref 0 0 0 1]) [(1,.map (es.map CH) ck),(0,.rows [[.mref 1]] 1)]:=by
 refine Zd [] ?_
 (push_cast<;>repeat' apply Za)
 apply Zr [(0,8)] rfl<;>push_cast
def c_KeysN:A4 prog 107 [.val (.map none)] [] (.func (.func 173) [] [.ref 0 0 0 1]) [(0,.rows [[.val (.map none)]] 1)]:=by
 refine Zd [] ?_
 (push_cast<;>repeat' apply Za)
 apply Zr [(0,8)] rfl<;>push_cast
def c_Sorted(es:List CE)(ck:Nat)(h:DP es ck)(hl:es.length<=1048576):A4 prog 106 [.func (.func 173) [] [.ref 3 0 0 1]] [(1,.map (es.map CH) ck),(3,.rows [[.mref 1]] 1)] (.slice ((AD (es.map (·.1))).map λk=>[sD k]) false) [(1,.map (es.map CH) ck),(3,.rows [[.mref 1]] 1)]:=
 A4.of_sorted Kq' Kq' WQ (es.map CH) ck (es.map (·.1)) (by rw[A30,A30];rfl)
  (λy M=>by obtain⟨e,C,rfl⟩:=A2p.1 M;exact h.lt e C) (by rw[A30];exact h.births) h.keys
  (λk N=>by obtain⟨e,C,rfl⟩:=A2p.1 N;exact A2N (h.sm e C).2.2 Dq') (by simpa using hl)
def A1U:A4 prog 106 [.func (.func 173) [] [.ref 3 0 0 1]] [(3,.rows [[.val (.map none)]] 1)] (.slice [] true) [(3,.rows [[.val (.map none)]] 1)]:=A4.of_sortedN Kq' Uh
def A1Z(b:GT)(u:Option (List BL)):A4 prog 70 [.ref 1 0 0 3] (ovH ⟨b,none,u⟩) (AF b) (ovH ⟨b,none,u⟩):=by
 have C:=A6 b;have M:=c_KeysN;have N:=A1U;rcases u with _|u<;>simp only[M5,KG]
 ·refine Zd [] ?_
  (have z:=C;push_cast[z]<;>repeat' (first|refine Zs [] M ?_|refine Zs [(3,112)] N ?_|apply Za)<;>push_cast[z])
  refine AWp.loopI mixed Kq' (ι:=Unit) (λ_=>True) (λ_=>⟨[(23,iD 0),(22,iD 0),(21,.slice [] true),(3,.ref 64 0 0 1),(2,.ref 8 0 0 1),(0,.ref 1 0 0 3)],[(64,.rows [[Ah b]] 1),(8,.rows [[.val (.pointer none)]] 1),(1,.rows [[Ah b,.val (.map none),.slice [] true]] 3),(2,.junk),(4,.junk)],72⟩) (λ_=>0) () trivial ?_ λi hi=>?_
  ·apply Zw<;>push_cast [C]
  ·(have z:=C;push_cast[z]<;>repeat' apply Za)
   apply Zw<;>push_cast
 ·refine Zd [] ?_
  (have z:=C;push_cast[z]<;>repeat' (first|refine Zs [] M ?_|refine Zs [(3,112)] N ?_|apply Za)<;>push_cast[z])
  refine AWp.loopI mixed Kq' (ι:=Unit) (λ_=>True) (λ_=>⟨[(23,iD 0),(22,iD 0),(21,.slice [] true),(3,.ref 64 0 0 1),(2,.ref 8 0 0 1),(0,.ref 1 0 0 3)],[(64,.rows [[Ah b]] 1),(8,.rows [[.val (.pointer none)]] 1),(1,.rows [[Ah b,.val (.map none),.gref 4 u.length]] 3),(2,.junk),(4,.grow (u.map λu=>[BJ u]) 1)],72⟩) (λ_=>0) () trivial ?_ λi hi=>?_
  ·apply Zw<;>push_cast [C]
  ·(have z:=C;push_cast[z]<;>repeat' apply Za)
   apply Zw<;>push_cast
inductive K7(es:List CE)(l:List GE)(k:ByteArray):GT->GT->Prop
 |put (s:Ct) (t t':GT) (i:Nat) (h:C5 k es 0=some (i,s)) (hs:s.1=true) (hn:¬((Am k l).isSome=true/\(J2 (AR (Am k l)) s.2==0)=true)) (hc:A0 prog 54 [AF t,.val (.string k),.agg (A7 s.2)] (AF t')):K7 es l k t t'
 |keep (s:Ct) (t:GT) (i:Nat) (h:C5 k es 0=some (i,s)) (hs:s.1=true) (hn:(Am k l).isSome=true/\(J2 (AR (Am k l)) s.2==0)=true):K7 es l k t t
 |del (s:Ct) (t t':GT) (i:Nat) (x:Bool) (h:C5 k es 0=some (i,s)) (hs:s.1=false) (hn:(Am k l).isSome=true) (hc:A0 prog 82 [AF t,.val (.string k)] (.tup [AF t',.val (.bool x)])):K7 es l k t t'
 |none (s:Ct) (t:GT) (i:Nat) (h:C5 k es 0=some (i,s)) (hs:s.1=false) (hn:(Am k l).isSome=false):K7 es l k t t
def FC:∀C:List Baa,Aa (C.map λk=>[sD k])=true
 |[]=>rfl
 |k::C=>by simp only[A2m,Aa,An,D.pure,FC C,A2L]
def YN{C:List Baa}(h:i<C.length):nr (C.map λk=>[D.val (.string k)]) i=[sD (C.getD i default)]:=by
 simp only[nr,A29,A2X,A2f h,A3g,A2P]
def Uc(C:List Baa):(C.map λk=>[D.val (.string k)]).length=C.length:=A2k ..
def uD:Option (List BL)->D
 |none=>.slice [] true
 |some l=>.gref 4 l.length
def uB:Option (List BL)->Blk
 |none=>.junk
 |some l=>.grow (l.map λu=>[BJ u]) 1
def WD:uD none=.slice [] true:=rfl
def WC(l:List BL):uD (some l)=.gref 4 l.length:=rfl
def WF:uB none=.junk:=rfl
def WE(l:List BL):uB (some l)=.grow (l.map λu=>[BJ u]) 1:=rfl
abbrev cmS(b:GT)(es:List CE)(ck:Nat)(u:Option (List BL))(ks:List Baa)(T:Nat->GT)(i:Nat):St:=⟨[(23,iD i),(22,iD ks.length),(21,.slice (ks.map λk=>[sD k]) false),(3,.ref 64 0 0 1),(2,.ref 8 0 0 1),(0,.ref 1 0 0 3)],[(64,.rows [[Ah (T i)]] 1),(8,.rows [[.val (.pointer none)]] 1),(1,.rows [[Ah b,.mref 2,uD u]] 3),(2,.map (es.map CH) ck),(4,uB u)],72⟩
def A1Y(u:Option (List BL))(b:GT)(es:List CE)(ck:Nat)(l:Lga)(hl:l.length<=1048576)(hb:Dw b l)(h:DP es ck)(he:es.length<=1048576)(T:Nat->GT)(h0:T 0=b)(hT:∀i,i<es.length->K7 es l ((AD (es.map (·.1))).getD i default) (T i) (T (i+1))):
  A4 prog 70 [.ref 1 0 0 3] (ovH ⟨b,some (es,ck),u⟩) (AF (T es.length)) (ovH ⟨b,some (es,ck),u⟩):=by
 have M:=A6 b;have hK:=c_Keys es ck;have hS:=c_Sorted es ck h he;have a2:(AD (es.map (·.1))).length=es.length:=by simp[AD]
 rw[<-a2] at hT|-;generalize AD (es.map (·.1))=C at*;have a4:C.length<=1048576:=Om;rcases u with _|u<;>simp only[Jq,DY]
 ·skip
  refine Zd [] ?_
  (have z:=M;push_cast[z]<;>repeat' (first|refine Zs [(1,2)] hK ?_|refine Zs [(1,2),(3,112)] hS ?_|apply Za)<;>push_cast[z])
  have Y:=FC C;have Z:=Uc C;refine Zl (λi=>i<=C.length) (λi=>cmS b es ck none C T i) (λi=>C.length-i) 0 (A2w _) ?_ λi hi=>?_
  ·unfold cmS;simp only[WD,WF];rw[h0];apply Zw<;>push_cast [M,A2y,A2k,Y,Z]
  ·unfold cmS;simp only[WD,WF];have N:=A6 (T i);have O:=A6 (T (i+1));push_cast[M,N];refine Ad (λhx=>?_) (λhx=>?_)
   ·have a1:i<C.length:=by simpa using hx
    have U:=U3 hb Om (C.getD i default);have ea:=YN a1;have hr:=hT i a1;have V:=λv=>JH (AR (Am (C.getD i default) l)) v;have w1:IntKind.i64.wrap ((i:Int)+1)=((i+1:Nat):Int):=by rw[A9 Om Om];omega
    generalize C.getD i default=k at*;clear hT;generalize a3:T i=t at*;generalize a0:T (i+1)=t' at*;have fin:∀s':St,Aq s' (cmS b es ck none C T (i+1))->∃j,j<=C.length/\C.length-j<C.length-i/\Aq s' (cmS b es ck none C T j):=λs' h=>⟨i+1,Om,Om,h⟩
    cases hr with
    |put s _ _ j hf hs hn hc=>
     obtain⟨sb,sv⟩:=s;simp only at hs hn hc;subst hs;have V:=V sv;generalize hv:AR (Am k l)=v at*;cases hh:(Am k l).isSome with
     |false=>
      rw[hh] at U
      (have z:=Za M<|Za N<|Za O<|Za ea<|Za @B8<|Za hf @D3;push_cast[z]<;>repeat' (first|refine Zc U ?_|refine Zc (hc ..) ?_|apply Za)<;>push_cast[z])<;>try omega
      refine fin _ ?_;unfold cmS;simp only[WD,WF];rw[a0,w1];apply Zw<;>push_cast [M,N,O,Y,Z]
     |true=>
      rw[hh] at U;cases hm:(J2 v sv==0) with
      |true=>exact absurd ⟨hh,hm⟩ hn
      |false=>
       rw[hm] at V
       (have z:=Za M<|Za N<|Za O<|Za ea<|Za @B8<|Za hf @D3;push_cast[z]<;>repeat' (first|refine Zc U ?_|refine Zc V ?_|refine Zc (hc ..) ?_|apply Za)<;>push_cast[z])<;>try omega
       refine fin _ ?_;unfold cmS;simp only[WD,WF];rw[a0,w1];apply Zw<;>push_cast [M,N,O,Y,Z]
    |keep s _ j hf hs hn=>
     obtain⟨sb,sv⟩:=s;simp only at hs hn;subst hs;obtain⟨hh,hm⟩:=hn;have V:=V sv;generalize hv:AR (Am k l)=v at*;rw[hh] at U;rw[hm] at V
     (have z:=Za M<|Za N<|Za O<|Za ea<|Za @B8<|Za hf @D3;push_cast[z]<;>repeat' (first|refine Zc U ?_|refine Zc V ?_|apply Za)<;>push_cast[z])<;>try omega
     refine fin _ ?_;unfold cmS;simp only[WD,WF];rw[a0,w1];apply Zw<;>push_cast [M,N,O,Y,Z]
    |del s _ _ j x hf hs hn hc=>
     obtain⟨sb,sv⟩:=s;simp only at hs hn;subst hs;generalize hv:AR (Am k l)=v at*;rw[hn] at U
     (have z:=Za M<|Za N<|Za O<|Za ea<|Za @B8<|Za hf @D3;push_cast[z]<;>repeat' (first|refine Zc U ?_|refine Zc (hc ..) ?_|apply Za)<;>push_cast[z])<;>try omega
     refine fin _ ?_;unfold cmS;simp only[WD,WF];rw[a0,w1];apply Zw<;>push_cast [M,N,O,Y,Z]
    |none s _ j hf hs hn=>
     obtain⟨sb,sv⟩:=s;simp only at hs hn;subst hs;generalize hv:AR (Am k l)=v at*;rw[hn] at U
     (have z:=Za M<|Za N<|Za O<|Za ea<|Za @B8<|Za hf @D3;push_cast[z]<;>repeat' (first|refine Zc U ?_|apply Za)<;>push_cast[z])<;>try omega
     refine fin _ ?_;unfold cmS;simp only[WD,WF];rw[a0,w1];apply Zw<;>push_cast [M,N,O,Y,Z]
   ·have a1:i=C.length:=by
     have:¬(i:Int)<C.length:=by simpa using hx
     omega
    subst a1
    (have z:=Za M N;push_cast[z]<;>repeat' apply Za<;>push_cast[z])
    apply Zw<;>push_cast [M,N]
 ·skip
  refine Zd [] ?_
  (have z:=M;push_cast[z]<;>repeat' (first|refine Zs [(1,2)] hK ?_|refine Zs [(1,2),(3,112)] hS ?_|apply Za)<;>push_cast[z])
  have Y:=FC C;have Z:=Uc C;refine Zl (λi=>i<=C.length) (λi=>cmS b es ck (some u) C T i) (λi=>C.length-i) 0 (A2w _) ?_ λi hi=>?_
  ·unfold cmS;simp only[WC,WE];rw[h0];apply Zw<;>push_cast [M,A2y,A2k,Y,Z]
  ·unfold cmS;simp only[WC,WE];have N:=A6 (T i);have O:=A6 (T (i+1));push_cast[M,N];refine Ad (λhx=>?_) (λhx=>?_)
   ·have a1:i<C.length:=by simpa using hx
    have U:=U3 hb Om (C.getD i default);have ea:=YN a1;have hr:=hT i a1;have V:=λv=>JH (AR (Am (C.getD i default) l)) v;have w1:IntKind.i64.wrap ((i:Int)+1)=((i+1:Nat):Int):=by rw[A9 Om Om];omega
    generalize C.getD i default=k at*;clear hT;generalize a3:T i=t at*;generalize a0:T (i+1)=t' at*;have fin:∀s':St,Aq s' (cmS b es ck (some u) C T (i+1))->∃j,j<=C.length/\C.length-j<C.length-i/\Aq s' (cmS b es ck (some u) C T j):=λs' h=>⟨i+1,Om,Om,h⟩
    cases hr with
    |put s _ _ j hf hs hn hc=>
     obtain⟨sb,sv⟩:=s;simp only at hs hn hc;subst hs;have V:=V sv;generalize hv:AR (Am k l)=v at*;cases hh:(Am k l).isSome with
     |false=>
      rw[hh] at U
      (have z:=Za M<|Za N<|Za O<|Za ea<|Za @B8<|Za hf @D3;push_cast[z]<;>repeat' (first|refine Zc U ?_|refine Zc (hc ..) ?_|apply Za)<;>push_cast[z])<;>try omega
      refine fin _ ?_;unfold cmS;simp only[WC,WE];rw[a0,w1];apply Zw<;>push_cast [M,N,O,Y,Z]
     |true=>
      rw[hh] at U;cases hm:(J2 v sv==0) with
      |true=>exact absurd ⟨hh,hm⟩ hn
      |false=>
       rw[hm] at V
       (have z:=Za M<|Za N<|Za O<|Za ea<|Za @B8<|Za hf @D3;push_cast[z]<;>repeat' (first|refine Zc U ?_|refine Zc V ?_|refine Zc (hc ..) ?_|apply Za)<;>push_cast[z])<;>try omega
       refine fin _ ?_;unfold cmS;simp only[WC,WE];rw[a0,w1];apply Zw<;>push_cast [M,N,O,Y,Z]
    |keep s _ j hf hs hn=>
     obtain⟨sb,sv⟩:=s;simp only at hs hn;subst hs;obtain⟨hh,hm⟩:=hn;have V:=V sv;generalize hv:AR (Am k l)=v at*;rw[hh] at U;rw[hm] at V
     (have z:=Za M<|Za N<|Za O<|Za ea<|Za @B8<|Za hf @D3;push_cast[z]<;>repeat' (first|refine Zc U ?_|refine Zc V ?_|apply Za)<;>push_cast[z])<;>try omega
     refine fin _ ?_;unfold cmS;simp only[WC,WE];rw[a0,w1];apply Zw<;>push_cast [M,N,O,Y,Z]
    |del s _ _ j x hf hs hn hc=>
     obtain⟨sb,sv⟩:=s;simp only at hs hn;subst hs;generalize hv:AR (Am k l)=v at*;rw[hn] at U
     (have z:=Za M<|Za N<|Za O<|Za ea<|Za @B8<|Za hf @D3;push_cast[z]<;>repeat' (first|refine Zc U ?_|refine Zc (hc ..) ?_|apply Za)<;>push_cast[z])<;>try omega
     refine fin _ ?_;unfold cmS;simp only[WC,WE];rw[a0,w1];apply Zw<;>push_cast [M,N,O,Y,Z]
    |none s _ j hf hs hn=>
     obtain⟨sb,sv⟩:=s;simp only at hs hn;subst hs;generalize hv:AR (Am k l)=v at*;rw[hn] at U
     (have z:=Za M<|Za N<|Za O<|Za ea<|Za @B8<|Za hf @D3;push_cast[z]<;>repeat' (first|refine Zc U ?_|apply Za)<;>push_cast[z])<;>try omega
     refine fin _ ?_;unfold cmS;simp only[WC,WE];rw[a0,w1];apply Zw<;>push_cast [M,N,O,Y,Z]
   ·have a1:i=C.length:=by
     have:¬(i:Int)<C.length:=by simpa using hx
     omega
    subst a1
    (have z:=Za M N;push_cast[z]<;>repeat' apply Za<;>push_cast[z])
    apply Zw<;>push_cast [M,N]
def HJ{α:Type}(Q:Nat->α->Prop)(R:Nat->α->α->Prop)(C:α)(h0:Q 0 C)(hs:∀i a,Q i a->∃b,Q (i+1) b/\R i a b):∃f:Nat->α,f 0=C/\∀i,Q i (f i)/\R i (f i) (f (i+1)):=by
 let g:(i:Nat)-> {a//Q i a}:=λi=>Nat.rec ⟨C,h0⟩ (λi p=>⟨Classical.choose (hs i p.1 p.2),(Classical.choose_spec (hs i p.1 p.2)).1⟩) i;exact⟨λi=>(g i).1,rfl,λi=>⟨(g i).2,(Classical.choose_spec (hs i (g i).1 (g i).2)).2⟩⟩
noncomputable def Fq(es:List CE)(l a:Lga)(k:Baa):Lga:=
 match lk es k with
 |some s=>if s.1 then(if(Am k l).isSome&&(J2 (AR (Am k l)) s.2==0) then a else B4 (k,s.2) a) else BX k a
 |none=>a
def A06{es:List CE}{l a:Lga}{k:Baa}(h:Srt a):Srt (Fq es l a k):=by
 unfold Fq;split
 ·split
  ·split
   ·exact h
   ·exact F6 h
  ·exact Jm h
 ·exact h
def A07(es:List CE)(l a:Lga)(k:Baa):(Fq es l a k).length<=a.length+1:=by
 unfold Fq;split
 ·split
  ·split
   ·omega
   ·exact(Dp _ _).1
  ·have:(BX k a).length<=a.length:=A2S ..;omega
 ·omega
def TM(es:List CE)(l:Lga):Prop:=∀k v w,lk es k=some (true,v)->Am k l=some w->J2 w v=0->w=v
def XD{es:List CE}{l a:Lga}{k:Baa}(U:TM es l)(N:Am k a=Am k l)(C:Baa):Am C (Fq es l a k)=if k=C then(match lk es k with|some s=>Nm s|none=>Am k l) else Am C a:=by
 unfold Fq;cases V:lk es k with
 |none=>
  simp only;by_cases h:k=C
  ·subst h;rw[if_pos rfl,N]
  ·rw[if_neg h]
 |some s=>
  obtain⟨Y,Z⟩:=s;cases Y with
  |false=>
   simp only[A2G,if_false];rw[FG];by_cases h:k=C
   ·subst h;simp[Nm]
   ·simp[h]
  |true=>
   simp only[if_true];split
   ·rename_i hc;simp only[A2i] at hc;by_cases h:k=C
    ·subst h;rw[if_pos rfl,N];obtain⟨w,M⟩:=Option.isSome_iff_exists.1 hc.1;rw[M];have O:=hc.2;rw[M] at O;have:=U k Z w V M (by simpa[AR] using O);rw[this];rfl
    ·rw[if_neg h]
   ·rw[FH];by_cases h:k=C
    ·subst h;simp[Nm]
    ·simp[h]
def Nv{es:List CE}{l:Lga}(U:TM es l):∀(M:List Baa) (a:Lga),M.Nodup->(∀k ∈ M,Am k a=Am k l)->∀C,(C ∈ M->Am C (M.foldl (Fq es l) a)=match lk es C with|some s=>Nm s|none=>Am C l)/\(C ∉ M->Am C (M.foldl (Fq es l) a)=Am C a)
 |[],a,_,_,C=>⟨λh=>absurd h A3b,λ_=>rfl⟩
 |k::M,a,hn,ha,C=>by
  rw[A3h] at hn;have h1:=XD U (ha k (A36 ..));have O:=Nv U M (Fq es l a k) hn.2 (λx V=>by rw[h1 x,if_neg (λe:k=x=>hn.1 (by rw[e];exact V)),ha x (A2V _ V)]) C;rw[A2Q];refine⟨λh=>?_,λh=>?_⟩
  ·by_cases N:C ∈ M
   ·exact O.1 N
   ·rw[O.2 N,h1 C];rcases A2s.1 h with rfl|h
    ·rw[if_pos rfl]
    ·exact absurd h N
  ·rw[O.2 (λN=>h (A2V _ N)),h1 C,if_neg (λe:k=C=>h (by rw[e];exact A36 ..))]
def Vr{es:List CE}{l:Lga}:∀(C:List Baa) {a:Lga},Srt a->Srt (C.foldl (Fq es l) a)
 |[],_,h=>h
 |k::C,_,h=>Vr C (A06 h)
def Vt(es:List CE)(l:Lga):∀(C:List Baa) (a:Lga),(C.foldl (Fq es l) a).length<=a.length+C.length
 |[],_=>Sq'
 |k::C,a=>by
  have h1:=Vt es l C (Fq es l a k);have M:=A07 es l a k;simp only[A2Q,A2l];omega
def Kz(C:List Baa):(AD C).Perm C:=by
 have h1:=(List.mergeSort_perm (C.map (·.data.toList)) (λx y=>decide (x<=y))).map (λl:Lua=>(⟨l.toArray⟩:Baa));rw[A30] at h1;have M:(C.map ((λl:Lua=>(⟨l.toArray⟩:Baa)) ∘ λk=>k.data.toList))=C:=by
  rw[A3s (g:=id) (λk _=>Sq'),List.map_id]
 rw[M] at h1;exact h1
def A1m(o:OV)(l:Lga)(h:OvOk o l)(hl:l.length+o.es.length<=1048576)(Y:TM o.es l):∃C,Dw C (o.view l)/\A4 prog 70 [.ref 1 0 0 3] (ovH o) (AF C) (ovH o):=by
 obtain⟨b,c,u⟩:=o;obtain⟨hb,O⟩:=h;cases c with
 |none=>exact ⟨b,hb,A1Z b u⟩
 |some c=>
  obtain⟨es,ck⟩:=c;simp only[OV.es,OV.ck,A2P,OV.view] at*;have hp:=Kz (es.map (·.1));have ab:(AD (es.map (·.1))).length=es.length:=by rw[hp.length_eq,A2k]
  have U:(AD (es.map (·.1))).Nodup:=hp.nodup_iff.2 O.keys;have a3:∀k,k ∈ AD (es.map (·.1))↔k ∈ es.map (·.1):=λk=>hp.mem_iff;obtain⟨T,a5,hT⟩:=HJ (λi t=>Dw t (((AD (es.map (·.1))).take i).foldl (Fq es l) l)) (λi t C=>i<es.length->K7 es l ((AD (es.map (·.1))).getD i default) t C) b (by simpa using hb) (λi t ht=>by
   rcases A2z i es.length with hi|hi
   ·have M:i<(AD (es.map (·.1))).length:=Om;have N:(AD (es.map (·.1))).getD i default=(AD (es.map (·.1)))[i]:=by rw[A29,A2f M];rfl
    have a4:(AD (es.map (·.1))).take (i+1)=(AD (es.map (·.1))).take i++[(AD (es.map (·.1)))[i]]:=by rw[A3j,A2f M];rfl
    have a6:(AD (es.map (·.1)))[i] ∈ es.map (·.1):=(a3 _).1 (A3H M);have a7:(AD (es.map (·.1)))[i] ∉ (AD (es.map (·.1))).take i:=λhm=>by
     have h2:=U;rw[<-A2O (i+1) (AD (es.map (·.1))),a4,List.nodup_append] at h2;have h3:=h2.1;rw[List.nodup_append] at h3;exact h3.2.2 _ hm _ (A2b.2 rfl) rfl
    have Z:=Nv Y ((AD (es.map (·.1))).take i) l (List.Sublist.nodup (List.take_sublist ..) U) (λ_ _=>rfl) (AD (es.map (·.1)))[i];have Z:=Z.2 a7;have a8:=Vt es l ((AD (es.map (·.1))).take i) l;rw[A2x] at a8;rw[N,a4,A41,A2Q,A3k];generalize((AD (es.map (·.1))).take i).foldl (Fq es l) l=a at*;generalize(AD (es.map (·.1)))[i]=k at*;obtain⟨s,hs⟩:∃s,lk es k=some s:=by
     cases a9:lk es k with
     |none=>exact absurd a6 (lk_key a9)
     |some s=>exact ⟨s,rfl⟩
    obtain⟨j,hf⟩:∃j,C5 k es 0=some (j,s):=by
     have:=Ha k es 0;rw[hs] at this;cases hc:C5 k es 0 with
     |none=>rw [hc] at this;cases this
     |some p=>rw [hc] at this;obtain⟨j,s'⟩:=p;simp only[A3g,A2j] at this;exact⟨j,by rw[this]⟩
    have a0:=O.sm;obtain⟨n,aa⟩:=Xv hs;have a0:=a0 _ aa;unfold Fq;rw[hs];simp only;cases V:s.1 with
    |true=>
     simp only[if_true];split
     ·rename_i hc;simp only[A2i] at hc;exact⟨t,ht,λ_=>.keep s t j hf V hc⟩
     ·rename_i hc;obtain⟨C,hp,a1⟩:=TZ ht Om k s.2 a0.1;exact⟨C,a1,λ_=>.put s t C j hf V (λhn=>hc (by simp only[A2i];exact hn)) hp⟩
    |false=>
     simp only[A2G,if_false];cases hg:(Am k l).isSome with
     |true=>
      obtain⟨C,hp,a1⟩:=tree_del ht Om k;exact⟨C,a1,λ_=>.del s t C j _ hf V hg hp⟩
     |false=>
      rw[LZ (by rw[FW,Z,hg])];exact⟨t,ht,λ_=>.none s t j hf V hg⟩
   ·rw[A2g Om];rw[A2g Om] at ht;exact⟨t,ht,λM=>absurd M Om⟩)
  refine⟨T es.length,?_,A1Y u b es ck l Om hb O Om T a5 λi hi=>(hT i).2 hi⟩;have a2:=(hT es.length).1;rw[A2g Om] at a2;have:(AD (es.map (·.1))).foldl (Fq es l) l=GD es l:=Ns (Vr _ hb.srt) (Dy es hb.srt) λk=>by
   rw[CY k es l O.keys];by_cases N:k ∈ AD (es.map (·.1))
   ·exact(Nv Y _ l U (λ_ _=>rfl) k).1 N
   ·rw[(Nv Y _ l U (λ_ _=>rfl) k).2 N,SP (λhm=>N ((a3 k).2 hm))]
  rw[this] at a2;exact a2
def rw1(p:List CE×Nat)(u:BL):List CE×Nat:=if u.was then KO p.1 p.2 u.k u.old else(XV p.1 u.k,p.2)
def rwd(p:List CE×Nat)(us:List BL):List CE×Nat:=us.reverse.foldl rw1 p
def QE:Option BL->D
 |some u=>BJ u
 |none=>.val .nilFunc
abbrev Fm(l:List (Option BL)):LLa:=l.map λo=>[QE o]
def P6(r:Nat->Nat)(h:r 1=1)(o:Option BL):Bu r (QE o)=QE o:=by
 cases o with
 |none=>rfl
 |some u=>exact LY r h u
def Rg(n:Nat)(o:Option BL):ltD n (QE o)=true:=by
 cases o with
 |none=>rfl
 |some u=>exact Pu n u
def Uz(r:Nat->Nat)(h:r 1=1)(l:List (Option BL)):E5 r (Fm l)=Fm l:=by
 rw[F2,A30];refine A3s λu _=>?_;simp only[Function.comp,Co,P6 r h]
def Pt(n:Nat):∀l:List (Option BL),Fv n (Fm l)=true
 |[]=>rfl
 |u::l=>by
  have:=Pt n l;simp only[Fm,A2m,Fv,ltL,Rg,Bool.true_and,A3M] at this|-;exact this
attribute [push_cast] P6 Rg Uz Pt
def Fs(us:List BL)(j:Nat):List (Option BL):=(us.take j).map some++List.replicate (us.length-j) none
def Fx(us:List BL)(j:Nat):(Fs us j).length=us.length:=by
 simp only[Fs,A2a,A2k,A2x,List.length_replicate];omega
def A0Z(us:List BL):Fm (Fs us us.length)=us.map λu=>[BJ u]:=by
 simp only[Fs,A2I,Nat.sub_self,List.replicate_zero,A2y,Fm,A30];rfl
def A0Y(us:List BL){j:Nat}(h:j<us.length):(Fs us (j+1))[j]? =some (some us[j]):=by
 unfold Fs;rw[A3d So',A2X,A3w Om,A2f h];rfl
def A0X(us:List BL){j:Nat}(h:j<us.length):(Fs us (j+1)).set j none=Fs us j:=by
 apply A3F;intro i;rw[List.getElem?_set];by_cases hi:j=i
 ·subst hi;rw[if_pos rfl,if_pos (by rw[Fx];exact h)];unfold Fs;rw[A3a (by simp only[A2k,A2x];omega),List.getElem?_replicate,if_pos (by simp only[A2k,A2x];omega)]
 ·rw[if_neg hi];unfold Fs;by_cases h1:i<j
  ·rw[A3d So',A3d So',A2X,A2X,A3w Om,A3w h1]
  ·rw[A3a So',A3a So',List.getElem?_replicate,List.getElem?_replicate];simp only[A2k,A2x];by_cases C:i<us.length
   ·rw[if_pos Om,if_pos Om]
   ·rw[if_neg Om,if_neg Om]
def rwd_drop(p:List CE×Nat)(us:List BL)(h:i<us.length):rwd p (us.drop i)=rw1 (rwd p (us.drop (i+1))) us[i]:=by
 unfold rwd;rw[List.drop_eq_getElem_cons h,A33,A41];rfl
def A09(l:List (Option BL))(i:Nat):(Fm l).set i [.val .nilFunc]=Fm (l.set i none):=by
 simp only[Fm,A3L];rfl
def Vj(b c n:Nat)(t:GT):grG b c n (Ah t)=Ah t:=by
 rcases DA t with h|⟨cs,h⟩<;>rw [h]<;>rfl
def grG_encC(b c n:Nat)(es:List CE):(es.map CH).map (λp=>(p.1,p.2.1,grG b c n p.2.2))=es.map CH:=by
 rw[A30];exact A3s λe _=>rfl
def WJ(us:List BL){m:Nat}(h:m<=us.length):(Fm (Fs us m)).take m=(us.take m).map λu=>[BJ u]:=by
 simp only[Fm,Fs];rw[<-A3U,A3r (by simp only[A2k,A2x];omega),A2g (by simp only[A2k,A2x];omega),A30];rfl
def c_undo'(b:GT)(p:List CE×Nat)(l:List (Option BL))(u:BL):A4 prog 296
  [.ptr [bD u.was] 0,.ptr (D4 u.old) 0,.ptr [.ref 1 0 0 3] 0,.ptr [sD u.k] 0] [(1,.rows [[Ah b,.mref 2,.gref 4 l.length]] 3),(2,.map (p.1.map CH) p.2),(4,.grow (Fm l) 1)] (.tup [])
  [(1,.rows [[Ah b,.mref 2,.gref 4 l.length]] 3),(2,.map ((rw1 p u).1.map CH) (rw1 p u).2),(4,.grow (Fm l) 1)]:=by
 obtain⟨k,was,old⟩:=u;obtain⟨es,ck⟩:=p;unfold rw1 KO XV;simp only;cases hf:C5 k es 0 with
 |none=>
  refine Zd [] ?_
  (have z:=Za @B8<|Za hf @M3;push_cast[z]<;>repeat' (first|apply Zi<;>intro _|exact Zo|apply Za)<;>push_cast[z])
  all_goals(rename_i h;subst h;simp only[if_true,if_false,A2G])
  ·apply Zw<;>push_cast
  ·apply Zw<;>push_cast
 |some p=>
  obtain⟨i,s⟩:=p;refine Zd [] ?_
  (have z:=Za @B8<|Za hf<|Za @KA @XJ;push_cast[z]<;>repeat' (first|apply Zi<;>intro _|exact Zo|apply Za)<;>push_cast[z])
  all_goals(rename_i h;subst h;simp only[if_true,if_false,A2G])
  ·apply Zw<;>push_cast
  ·apply Zw<;>push_cast
def nr_undoO{l:List (Option BL)}{o:Option BL}(h:l[i]? =some o):nr (Fm l) i=[QE o]:=by
 simp only[nr,A29,A2X,h,A3g,A2P]
def WB(u:BL):QE (some u)=.func (.func 296) [] [.ptr [bD u.was] 0,.ptr (D4 u.old) 0,.ptr [.ref 1 0 0 3] 0,.ptr [sD u.k] 0]:=rfl
abbrev bkS(b:GT)(p:List CE×Nat)(us:List BL)(m j:Nat):St:=⟨[(5,iD ((j:Int)-1)),(1,iD m),(0,.ref 1 0 0 3)],[(1,.rows [[Ah b,.mref 2,.gref 4 (Fs us j).length]] 3),(2,.map ((rwd p (us.drop j)).1.map CH) (rwd p (us.drop j)).2),(4,.grow (Fm (Fs us j)) 1)],88⟩
def c_Back(b:GT)(p:List CE×Nat)(us:List BL)(m:Nat)(hm:m<=us.length)(hn:us.length<=1073741824):A4 prog 163 [.ref 1 0 0 3,iD m] (ovH ⟨b,some p,some us⟩) (iD 0) (ovH ⟨b,some (rwd p (us.drop m)),some (us.take m)⟩):=by
 have C:=A6 b;have Y:IntKind.i64.wrap ((us.length:Int)-1)=(us.length:Int)-1:=by rw[A9 Om Om]
 have b1:decide ((m:Int)<0)=false:=Df';have b2:decide ((us.length:Int)<(m:Int))=false:=Df';obtain⟨es,ck⟩:=p;have hE:rwd (es,ck) (us.drop m)=((rwd (es,ck) (us.drop m)).1,(rwd (es,ck) (us.drop m)).2):=rfl;rw[hE];simp only[DY];refine Zd [] ?_
 (have z:=Za C<|Za b1<|Za b2 Y;push_cast[z]<;>repeat' apply Za)<;>try omega
 refine Zl (λj=>m<=j/\j<=us.length) (λj=>bkS b (es,ck) us m j) (λj=>j) us.length ⟨hm,A2e _⟩ ?_ λj hj=>?_
 ·unfold bkS;rw[Fx,A0Z,List.drop_length,show rwd (es,ck) []=(es,ck) from rfl];apply Zw<;>push_cast [C]
 ·have M:=Fx us j;unfold bkS;push_cast[C];refine Ad (λN=>?_) (λN=>?_)
  ·have O:m<j:=by
    have:(m:Int)<=(j:Int)-1:=by simpa using N
    omega
   obtain⟨i,rfl⟩:∃i,j=i+1:=⟨j-1,Om⟩
   have Z:((i+1:Nat):Int)-1=(i:Int):=Om;rw[Z];have hi:i<us.length:=Om;have hu:=A0Y us hi;have ea:=nr_undoO hu;have hc:=c_undo' b (rwd (es,ck) (us.drop (i+1))) (Fs us (i+1)) us[i];have hr:=rwd_drop (es,ck) us hi;have hs:=A09 (Fs us (i+1)) i;rw[A0X us hi] at hs;have a0:=Fx us i;have w2:IntKind.i64.wrap ((i:Int)-1)=(i:Int)-1:=by rw[A9 Om Om]
   (have z:=Za C<|Za ea<|Za @WB M;push_cast[z]<;>repeat' (first|refine Zt [(1,1),(2,2),(4,4)] (hc ..) ?_|apply Za)<;>push_cast[z])<;>try omega
   refine⟨i,⟨Om,Om⟩,Om,?_⟩;rw[hr,w2];apply Zr [(2,258),(4,260)] rfl<;>push_cast [hs,M,a0,C]
  ·have O:j=m:=by
    have:¬(m:Int)<=(j:Int)-1:=by simpa using N
    omega
   subst O
   (have z:=C;push_cast[z]<;>repeat' apply Za)<;>try omega
   refine Aq.trans (Aq.cut (b:=4) j rfl ?_) ?_
   ·simp only[Fm,A2k,M];omega
   ·have ht:=WJ us (m:=j) Om;rw[ht];have U:=Vj 4 288 j b;have V:=grG_encC 4 288 j (rwd (es,ck) (us.drop j)).1;generalize(rwd (es,ck) (us.drop j)).2=a2 at*;generalize(rwd (es,ck) (us.drop j)).1=es' at*;generalize a1:es'.map CH=E' at*;simp only[grG] at U V;push_cast[U,V];rw[<-a1];apply Zr [(4,288)] rfl<;>push_cast [A2x,Nat.min_eq_left (show j<=us.length by omega),A2k]
def A20:A0 prog 208 [.slice [] false] (.slice [] false):=by
 refine Zf [] ?_
 (push_cast<;>repeat' apply Za)
 all_goals simp
def ZK(t:GT)(C:t.kids=[]):A0 prog 135 [Ah t] (.slice [] false):=by
 cases t with
 |nil=>
  rw[Bl];refine Zf [] ?_
  (push_cast<;>repeat' apply Za)
  all_goals simp
 |node e k hh c f l M=>
  simp only[GT.kids] at C;subst C;rw[Bi];refine Zf [] ?_
  (have z:=trivial;push_cast<;>repeat' (first|refine Zc (A20 ..) ?_|apply Za)<;>push_cast)
def SI{n:Nat}:∀y:List D,y ∈ []->y.length=n:=λ_ h=>absurd h A3b
def SH:∀y:List D,y ∈ []->∀d:D,d ∈ y->AV d=true:=λ_ h=>absurd h A3b
abbrev EX(A l:Lga)(t:GT):Prop:=
  A4 prog 83 [.gref 1 A.length,Ah t] [(1,.grow (A.map A8) 7)] (.gref 0 (A++l).length) [(0,.grow ((A++l).map A8) 7)]
def A1J(A:Lga)(t:GT)(M:t.kids=[])(hl:t.es≠[])(h8:t.es.length<=8)(hs:∀e ∈ t.es,Sm e.2)(Y:A.length<=1048576):EX A t.es t:=by
 have hE:=Ea t hl Om hs;have C:=A6 t;have N:List.take t.es.length (List.map A8 t.es)=List.map A8 t.es:=A2g Sq';have O:=ZK t M;have U:(A.map A8++t.es.map A8)=(A++t.es).map A8:=Sq';have V:A.length+t.es.length=(A++t.es).length:=Sq';have Z:(A++t.es).length<=1048584:=So';unfold EX;refine Zd [] ?_
 (have z:=Za N C;push_cast[z]<;>repeat' (first|refine Zs [] hE ?_|refine Zc O ?_|apply Za)<;>push_cast[z])
 all_goals first|omega|exact Bs _|exact CL _|exact SI|exact SH|skip
 rw[U];try rw[V]
 generalize A++t.es=B at*;refine AWp.loopI mixed Kq' (ι:=Unit) (λ_=>True) (λ_=>⟨[(14,iD 0),(13,iD 0),(12,.slice [] false),(1,Ah t),(0,.gref 40 B.length)],[(40,.grow (B.map A8) 7)],44⟩) (λ_=>0) () trivial ?_ λi hi=>?_
 ·apply Zw<;>push_cast [C,Nat.add_zero,A3V,A46,A2y,Bp]
 ·(have z:=C;push_cast[z]<;>repeat' apply Za)
  apply Zr [(0,40)] rfl<;>push_cast
def A1H(A:Lga)(t:GT)(M:t.kids=[])(hl:t.es=[])(O:A.length<=1048576):EX A [] t:=by
 have hE:=HR t hl;have C:=A6 t;have N:=ZK t M;unfold EX;rw[A2y];refine Zd [] ?_
 (have z:=C;push_cast[z]<;>repeat' (first|refine Zc hE ?_|refine Zc N ?_|apply Za)<;>push_cast[z])
 all_goals first|omega|exact Bs _|exact CL _|exact SI|exact SH|skip
 refine AWp.loopI mixed Kq' (ι:=Unit) (λ_=>True) (λ_=>⟨[(14,iD 0),(13,iD 0),(12,.slice [] false),(1,Ah t),(0,.gref 40 A.length)],[(40,.grow (A.map A8) 7)],44⟩) (λ_=>0) () trivial ?_ λi hi=>?_
 ·apply Zw<;>push_cast [C,Nat.add_zero,A3V,A46,A2y,Bp]
 ·(have z:=C;push_cast[z]<;>repeat' apply Za)
  apply Zr [(0,40)] rfl<;>push_cast
def A1I(A:Lga)(t:GT)(F:GT->Lga)(hl:t.es=[])(h0:0<t.kids.length)(h8:t.kids.length<=8)(O:(A++t.kids.flatMap F).length<=1048576)
  (N:∀i,i<t.kids.length->EX (A++(t.kids.take i).flatMap F) (F (t.kids.getD i .nil)) (t.kids.getD i .nil)):EX A (t.kids.flatMap F) t:=by
 have hE:=HR t hl;have C:=A6 t;have U:=Fi t h0 Om;have a0:A.length<=1048576:=by simp at O;omega
 unfold EX at N|-;refine Zd [] ?_
 (have z:=C;push_cast[z]<;>repeat' (first|refine Zc hE ?_|refine Zs [] U ?_|apply Za)<;>push_cast[z])
 all_goals first|omega|exact Bs _|exact CL _|exact SI|exact SH|skip
 refine Zl (λi=>i<=t.kids.length) (λi=>⟨[(14,iD i),(13,iD t.kids.length),(12,.gref 64 t.kids.length),(1,Ah t),(0,.gref 40 (A++(t.kids.take i).flatMap F).length)],[(40,.grow ((A++(t.kids.take i).flatMap F).map A8) 7),(64,.grow (t.kids.map Ar) 1)],44⟩) (λi=>t.kids.length-i) 0 Sq' ?_ λi hi=>?_
 ·apply Zw<;>push_cast [C,Nat.add_zero,A3V,A46,A2y,Bp]
 ·push_cast[C];refine Ad (λhb=>?_) (λhb=>?_)
  ·have M:i<t.kids.length:=by simpa using hb
   have hr:=N i M;have V:=Bx (l:=t.kids) (i:=i) M;have Y:A++(t.kids.take i).flatMap F++F (t.kids.getD i .nil)=A++(t.kids.take (i+1)).flatMap F:=by
    rw[A3j,A2C,A2c,A29,A2f M];simp
   rw[Y] at hr
   (have z:=Za C<|Za V @Ar.eq_1;push_cast[z]<;>repeat' (first|refine Zs [(1,40)] (hr ..) ?_|apply Za)<;>push_cast[z])<;>try omega
   refine⟨i+1,Om,Om,?_⟩;have Z:IntKind.i64.wrap ((i:Int)+1)=((i+1:Nat):Int):=by rw[A9 Om Om];omega
   rw[Z];apply Zr [(40,136)] rfl<;>push_cast
  ·have M:i=t.kids.length:=by
    have:¬(i:Int)<t.kids.length:=by simpa using hb
    omega
   subst M;rw[A2I]
   (have z:=C;push_cast[z]<;>repeat' apply Za)
   apply Zr [(0,40)] rfl<;>push_cast
def Rq:∀(h:Nat) (t:GT) (A:Lga),Wf h t->(A++Af h t).length<=1048576->EX A (Af h t) t
 |0,t,A,hw,hb=>by
  obtain⟨l,rfl,C,hn⟩:=hw;have N:A.length<=1048576:=by simp at hb;omega
  exact A1J A (AO l) rfl hn C.hl C.hs N
 |h+1,t,A,hw,hb=>by
  obtain⟨l,rfl,Z,h8,O,hs⟩:=hw;have M:(AP l).kids=l:=rfl;have U:Af (h+1) (AP l)=l.flatMap (Af h):=rfl;rw[U] at hb|-;refine A1I A (AP l) (Af h) rfl (by rw[M];omega) h8 hb λi hi=>?_;rw[M] at hi|-;have hm:=Ae (d:=GT.nil) hi;refine Rq h _ _ (O _ hm).1 ?_;have V:A++(l.take i).flatMap (Af h)++Af h (l.getD i .nil)=A++(l.take (i+1)).flatMap (Af h):=by
   rw[A3j,A2C,A2c,A29,A2f hi];simp
  have Y:l.flatMap (Af h)=(l.take (i+1)).flatMap (Af h)++(l.drop (i+1)).flatMap (Af h):=by rw[<-A2C,A2O]
  rw[V];rw[Y] at hb;simp only[A2a] at hb|-;omega
def c_TLen(t:GT):A0 prog 84 [AF t] (iD t.count):=by
 have C:=ND t;have M:=A6 t;refine Zf [] ?_
 (have z:=M;push_cast[z]<;>repeat' (first|refine Zc C ?_|apply Za)<;>push_cast[z])
def z7_pure(n:Nat):Aa (List.replicate n [sD bea,iD 0,bD false,iD 0,sD bea,.slice [] true,.slice [] true])=true:=by
 induction n with
 |zero=>rfl
 |succ n C=>simp only[A3R,Aa,C];rfl
def KS(t:GT)(l:Lga)(ht:Dw t l)(hb:l.length<=1048576):A4 prog 47 [AF t] [] (.gref 0 l.length) [(0,.grow (l.map A8) 7)]:=by
 have M:=c_TLen t;rw[ht.count] at M;have N:=A6 t;have C:EX [] l t:=by
  rcases ht with⟨rfl,rfl⟩|⟨h,V,rfl⟩
  ·exact A1H [] .nil rfl rfl Sq'
  ·exact Rq h t [] V (by simpa using hb)
 unfold EX at C;rw[A2h,A2r,A2E] at C;have Y:Aa (l.map A8)=true:=Ac l;have O:=z7_pure l.length;have U:(List.replicate l.length [D.val (.string bea),D.val (.int .i64 0),D.val (.bool false),D.val (.int .i64 0),D.val (.string bea),D.slice [] true,D.slice [] true]).length=l.length:=List.length_replicate;have hs:=A4.sref_grow (es:=List.replicate l.length [D.val (.string bea),D.val (.int .i64 0),D.val (.bool false),D.val (.int .i64 0),D.val (.string bea),D.slice [] true,D.slice [] true]) C (by simp[An,N]) O Y (A2w _) (by rw[U];omega);rw[U] at hs;refine Zd [] ?_
 (have z:=Za N<|Za O @Bp;push_cast[z]<;>repeat' (first|refine Zc M ?_|refine Zs [(1,40)] (hs ..) ?_|exact Zo|apply Za)<;>push_cast[z])<;>try omega
 apply Zr [(0,64)] rfl<;>push_cast
def Aq.nilgrowE{t:Nat}(sz:Nat):Aq ⟨(t,.slice [] true)::env,hp,nx⟩ ⟨(t,.gref (2*nx) 0)::env,(2*nx,.grow [] sz)::hp,nx+1⟩:=by
 intro w0 M0 I0 nt I mu a w r;have a3:mu (2*nx)=none:=r.w.fresh _ ⟨Om,A2e _⟩;have C:=r.env t;have e1:(⟨(t,.slice [] true)::env,hp,nx⟩:St).fs.env t=.slice [] true:=by simp[St.fs,Env.get]
 rw[e1] at C;obtain⟨A,hA0⟩:∃A,a.tmps.getD t undef=.slice A 0 0:=by
  generalize a.tmps.getD t undef=v at C;cases C with
  |slice _ _ A k o a6 cap u hA hc ht hm a7 a8 h=>simp_all
 have V:=BN (v:=.slice A 0 0) a3;have N:∀c z,Ak ((2*nx,Blk.grow [] sz)::hp) c=some z->(c=2*nx/\z=.grow [] sz)\/(c≠2*nx/\Ak hp c=some z):=by
  intro c z h;simp[Ak] at h;grind
 have a9:∀j,Al (.slice A 0 0)≠some j:=by intro j;cases A<;>simp [Al]
 have U:∀c,c≠2*nx->AM mu (2*nx) (.slice A 0 0) c=mu c:=λc hc=>by simp[AM,hc]
 refine⟨I,AM mu (2*nx) (.slice A 0 0),r.size,r.defers,λO=>?_,⟨λc z h=>?_,λc z v j h C Y=>?_,λc Z z z' v v' j h h' C a1 Y a4=>?_,λc hc=>?_,r.w.lt,r.w.os,r.w.tape,r.w.output,r.w.grown,r.w.old,r.w.iold,r.w.inew,λc v hc hn=>V c v (r.w.keep c v hc hn),λc z h hc=>?_⟩⟩
 ·by_cases a2:t=O
  ·subst a2;have e2:(⟨(t,.gref (2*nx) 0)::env,(2*nx,Blk.grow [] sz)::hp,nx+1⟩:St).fs.env t=.gref (2*nx) 0:=by simp[St.fs,Env.get]
   rw[e2];rw[hA0];exact .gref _ 0 A 0 (by simp[AM])
  ·have e2:(⟨(t,.gref (2*nx) 0)::env,(2*nx,Blk.grow [] sz)::hp,nx+1⟩:St).fs.env O=(⟨(t,.slice [] true)::env,hp,nx⟩:St).fs.env O:=by
    have:(t==O)=false:=by simp[a2]
    simp[St.fs,Env.get,this]
   rw[e2];exact(r.env O).mono (λ_ _=>rfl) (λ_ h=>h) V
 ·rcases N c z h with⟨rfl,rfl⟩|⟨h1,M⟩
  ·exact⟨A,0,0,[],by simp[AM],λi hi=>by simp at hi,A2w _,.inl ⟨rfl,rfl⟩⟩
  ·exact(r.w.blk c z M).mono (λ_ _=>rfl) (λ_ h=>h) V (λ_ _ _ _=>rfl)
 ·rcases N c z h with⟨rfl,rfl⟩|⟨h1,M⟩
  ·simp_all [AM,if_true]
  ·rw[U c h1] at C;exact r.w.loc c z v j M C Y
 ·rcases N c z h with⟨rfl,rfl⟩|⟨h1,M⟩
  ·simp_all [AM,if_true]
  ·rcases N Z z' h' with⟨rfl,rfl⟩|⟨a5,a0⟩
   ·simp_all [AM,if_true]
   ·rw[U c h1] at C;rw[U Z a5] at a1;exact r.w.inj c Z z z' v v' j M a0 C a1 Y a4
 ·obtain⟨h1,M⟩:=hc;have a0:2*(nx+1)<=c:=M;rw[U c Om];exact r.w.fresh c ⟨h1,by grind⟩
 ·obtain⟨h1,M⟩:=hc;have a0:2*(nx+1)<=c:=M;rcases N c z h with⟨rfl,rfl⟩|⟨h3,h5⟩
  ·omega
  ·exact r.w.used c z h5 ⟨h1,by grind⟩
def Aq.nilgrowN{b sz:Nat}(C:List D):Aq ⟨env,(b,.rows [C++[.slice [] true]] (C.length+1))::hp,nx⟩ ⟨env,(2*nx,.grow [] sz)::(b,.rows [C++[.gref (2*nx) 0]] (C.length+1))::hp,nx+1⟩:=by
 intro w0 M0 I0 nt I mu a w r;have a5:mu (2*nx)=none:=r.w.fresh _ ⟨Om,A2e _⟩;have a6:(⟨env,(b,.rows [C++[.slice [] true]] (C.length+1))::hp,nx⟩:St).fs.hp b=some (.rows [C++[.slice [] true]] (C.length+1)):=by simp[St.fs,Ak]
 obtain⟨kb,Tb,a0,b1,b2,b3,b4,b5⟩:=r.w.blk b _ a6;have M:=b5 0 C.length Sq' Om;have a3:∀d:D,nd (C++[d]) C.length=d:=λd=>by simp[nd]
 simp only[nr,A39,a3] at M;obtain⟨A,hA0⟩:∃A,nv a0 (0*(C.length+1)+C.length)=.slice A 0 0:=by
  generalize nv a0 (0*(C.length+1)+C.length)=v at M;cases M with
  |slice _ _ A k o aa cap u hA hc ht hm ab ac h=>simp_all
 have U:=BN (v:=.slice A 0 0) a5;have V:∀c z,Ak ((2*nx,Blk.grow [] sz)::(b,.rows [C++[.gref (2*nx) 0]] (C.length+1))::hp) c=some z->(c=2*nx/\z=.grow [] sz)\/(c≠2*nx/\∃N,(⟨env,(b,.rows [C++[.slice [] true]] (C.length+1))::hp,nx⟩:St).fs.hp c=some N/\((c=b/\z=.rows [C++[.gref (2*nx) 0]] (C.length+1))\/z=N)):=by
  intro c z h;simp[Ak] at h;by_cases hc:2*nx=c
  ·simp_all
  ·have:(2*nx==c)=false:=by simp[hc]
   rw[this,cond_false] at h;refine .inr ⟨λh=>hc h.symm,?_⟩;by_cases a7:b=c
   ·simp_all
   ·have:(b==c)=false:=by simp[a7]
    rw[this,cond_false] at h;exact⟨z,by simp[St.fs,Ak,this,h],.inr rfl⟩
 have ad:∀j,Al (.slice A 0 0)≠some j:=by intro j;cases A<;>simp [Al]
 have Z:∀c,c≠2*nx->AM mu (2*nx) (.slice A 0 0) c=mu c:=λc hc=>by simp[AM,hc]
 refine⟨I,AM mu (2*nx) (.slice A 0 0),r.size,r.defers,λt'=>(r.env t').mono (λ_ _=>rfl) (λ_ h=>h) U,⟨λc z h=>?_,λc z v j h M Y=>?_,λc c' z N v v' j h h' M a4 Y a8=>?_,λc hc=>?_,r.w.lt,r.w.os,r.w.tape,r.w.output,r.w.grown,r.w.old,r.w.iold,r.w.inew,λc v hc hn=>U c v (r.w.keep c v hc hn),λc z h hc=>?_⟩⟩
 ·rcases V c z h with⟨rfl,rfl⟩|⟨h1,N,O,h3⟩
  ·exact⟨A,0,0,[],by simp[AM],λi hi=>by simp at hi,A2w _,.inl ⟨rfl,rfl⟩⟩
  ·rcases h3 with⟨rfl,rfl⟩|rfl
   ·refine⟨kb,Tb,a0,U _ _ b1,b2,b3,λi hi=>?_,λi j hi Y=>?_⟩
    ·obtain rfl:i=0:=by simp_all
     simp[nr]
    ·obtain rfl:i=0:=by simp_all
     have a1:=b5 0 j Sq' Y;simp only[nr,A39] at a1|-;rcases A2z j C.length with hlt|hge
     ·have hl:∀d:D,nd (C++[d]) j=nd C j:=λd=>by grind [nd]
      rw[hl] at a1|-;exact a1.mono (λ_ _=>rfl) (λ_ h=>h) U
     ·obtain rfl:j=C.length:=Om;rw[a3,hA0];exact .gref _ 0 A 0 (by simp[AM])
   ·exact(r.w.blk c z O).mono (λ_ _=>rfl) (λ_ h=>h) U (λ_ _ _ _=>rfl)
 ·rcases V c z h with⟨rfl,rfl⟩|⟨h1,N,O,_⟩
  ·simp_all [AM,if_true]
  ·rw[Z c h1] at M;exact r.w.loc c N v j O M Y
 ·rcases V c z h with⟨rfl,rfl⟩|⟨h1,z1,O,_⟩
  ·simp_all [AM,if_true]
  ·rcases V c' N h' with⟨rfl,rfl⟩|⟨a9,z2,a2,_⟩
   ·simp_all [AM,if_true]
   ·rw[Z c h1] at M;rw[Z c' a9] at a4;exact r.w.inj c c' z1 z2 v v' j O a2 M a4 Y a8
 ·obtain⟨h1,O⟩:=hc;have a2:2*(nx+1)<=c:=O;rw[Z c Om];exact r.w.fresh c ⟨h1,by grind⟩
 ·obtain⟨h1,O⟩:=hc;have a2:2*(nx+1)<=c:=O;rcases V c z h with⟨rfl,rfl⟩|⟨h3,N,h5,_⟩
  ·omega
  ·exact r.w.used c N h5 ⟨h1,by grind⟩
def Aq.nilgrow3{b sz:Nat}{x y:D}:Aq ⟨env,(b,.rows [[x,y,.slice [] true]] 3)::hp,nx⟩ ⟨env,(2*nx,.grow [] sz)::(b,.rows [[x,y,.gref (2*nx) 0]] 3)::hp,nx+1⟩:=Aq.nilgrowN [x,y]
def Aq.nilgrow1{b sz:Nat}:Aq ⟨env,(b,.rows [[.slice [] true]] 1)::hp,nx⟩ ⟨env,(2*nx,.grow [] sz)::(b,.rows [[.gref (2*nx) 0]] 1)::hp,nx+1⟩:=Aq.nilgrowN []
def A4.weakIn{P:Program}{f:FuncId}{ds ds':List D}{H C H':Hp}{r:D}(hl:ds'.length=ds.length)(M:Aq ⟨BB 0 ds',C,4⟩ ⟨BB 0 ds,H,4⟩)(h:A4 P f ds H r H'):A4 P f ds' C r H':=by
 unfold A4 at h|-;refine⟨h.1,λw M0 G I mu vs N O U hr=>?_⟩;have V:Rel w M0 G vs.length (frN 4) I mu (⟨BB 0 ds',C,4⟩:St).fs {tmps:=vs.toArray,defers:=G.dl} w:=
  ⟨Sq',C8.refl _ _ _ _,λt=>by
   have:=Gq hr 0 t;simpa[St.fs] using this,U⟩
 obtain⟨I',mu',R⟩:=M w M0 G vs.length I mu _ w V;refine h.2 w M0 G I' mu' vs N O R.w ⟨by rw[hr.1,hl],λi hi=>?_⟩;have:=R.env i;simp_all [G7,true_and,St.fs,nv,A3z]
end Go.Ab
