/- The layer by which the program is walked, and what its functions do: part 9 of 15. -/
import Derived.Test.YtiobcncfjaoniaaGreatDoorV7
import Derived.RecoverIn
import Derived.Sort.KeysCollected
import Derived.Shelf.SlIter.Nil
import Derived.Shelf.SortM.Plain
import Derived.Shelf.SortM.SortNone
import Derived.Ground.GgzProg
import Derived.Ground.SlgmProg
set_option maxHeartbeats 4000000
set_option maxRecDepth 20000
set_option linter.unusedVariables false
set_option linter.unusedSimpArgs false
set_option linter.unnecessarySimpa false
namespace Go.Ab
open Go.RowKit
section
variable{P:Program}{F:Fence}{n:Nat}
theorem Gf{u:FrameMode}(hu:u≠ .run){dl:List Deferred}:∀ (rs:List Nat) (w:World) (fr:Frame) (cs:List Frame),rs.Nodup->(∀ r ∈ rs,w.heap[r]? =some (.deferred (some [])))->F.fn fr.fn->F.room (cs.length+1+n)->fr.mode=u->fr.defers=rs.map (fun r=> {target:=.collected r,args:=#[]})++dl->
  StepsIn (Machine.fenced P F) P (lone fr cs w) (lone {fr with defers:=dl} cs (CS rs w))
 |[],w,fr,cs,_,_,_,_,_,hd=>by
  have:({fr with defers:=dl}:Frame)=fr:=by simp at hd;rw[<-hd]
  rw[this];exact StepsIn.refl _
 |r::rs,w,fr,cs,hn,hr,hb,hroom,hm,hd=>by
  simp only[A1G] at hn
  have h1:=step_collected (P:=P) (fr:=fr) (cs:=cs) (w:=w) (hm▸hu) hd rfl (run_takeDeferred (hr r A0z))
  have i1:(lone fr cs w).fenced P F:=fenced_out hb hroom (hm▸hu) hd (fun g hg=>by simp[Target.leads] at hg)
  have ih:=Gf hu (dl:=dl) rs (w.putObj r (.deferred none)) {fr with defers:=[]++(rs.map (fun r=> {target:=.collected r,args:=#[]})++dl)} cs hn.2 (fun k hk=>by
   rw[World.putObj_heap_other (by rintro rfl;exact hn.1 hk)]
   exact hr k (A0n _ hk)) hb hroom hm rfl
  exact .head i1 h1 ih
theorem GC{f:FuncId}{fn:Func}{c:Code}{args:Array Value}{u:FrameMode}{w:World}{R:Ending->World->Prop}
  (hf:P.funcs[f]? =some fn) (hb:fn.body=some c) (hF:F.fn f)
  (h:c.wpIn F n P (fun e a w=>match e with
   |.normal|.ret=>∃ (rs:List Nat) (v:Value),a.defers=rs.map (fun r=> {target:=.collected r,args:=#[]})++[]/\rs.Nodup/\(∀ r ∈ rs,w.heap[r]? =some (.deferred (some [])))/\(results fn a.tmps).run P (CS rs w)=.ok v (CS rs w)/\R (.returned v) (CS rs w)
   |_=>False) {tmps:=args++Array.replicate (fn.ntmps-args.size) undef,defers:=[]} w) (hro:F.round=none:=by rfl):
  CallsDIn F n P f args u w fun e u' w'=>u'=u/\R e w':=by
 refine⟨hF,fun c₀ cs hu hr=>?_⟩
 let b:Frame:= {(default:Frame) with fn:=f,kind:=.deferred,roundOf:=none}
 have henter:Frame.enter P f args .deferred=
   b.atR {tmps:=args++Array.replicate (fn.ntmps-args.size) undef,defers:=[]} [.code c]:=by
  simp[Frame.enter,Frame.atR,hf,hb,b]
 have hc:({c₀ with mode:=u}:Frame)=c₀:=by subst hu;rfl
 obtain⟨e,a',w',hq,harr⟩:=h b [] (c₀::cs) hro.symm hF hr
 rw[<-henter] at harr
 cases e with
 |normal=>
  obtain⟨rs,v,d1,d2,d3,hr',hR⟩:=hq
  have hs:=StepsIn.trans harr (.one (fenced_calm (fr:=b.atR a' []) hF hr rfl) (stepR_end rfl))
  have hm:=Gf (P:=P) (F:=F) (n:=n) (u:=.returning) (by simp) (dl:=[]) rs w' {b.atR a' [] with mode:=.returning} (c₀::cs) d2 d3 hF hr rfl d1
  exact⟨.returned v,u,CS rs w',_,⟨rfl,hR⟩,(by rw[hc];exact StepsIn.trans hs hm),rfl,rfl,rfl,rfl,fn,hf,hr'⟩
 |ret=>
  obtain⟨rs,v,d1,d2,d3,hr',hR⟩:=hq
  obtain⟨todo,hs⟩:=harr.1 rfl
  have hm:=Gf (P:=P) (F:=F) (n:=n) (u:=.returning) (by simp) (dl:=[]) rs w' {b.atR a' todo with mode:=.returning} (c₀::cs) d2 d3 hF hr rfl d1
  exact⟨.returned v,u,CS rs w',_,⟨rfl,hR⟩,(by rw[hc];exact StepsIn.trans hs hm),rfl,rfl,rfl,rfl,fn,hf,hr'⟩
 |panic chain=>exact hq.elim
 |exit id=>exact hq.elim
 |goto l=>exact hq.elim
 |outgrown=>exact hq.elim
end
def Qt(P:Program)(f:FuncId)(cs:List D)(H H':Hp):Prop:=
 Bf P f=true/\∀ (w:World) (M0:Nat->Prop) (G:Gh) (I:Nat->Prop) (mu:Nat->Option Value) (vs:List Value) (u:FrameMode),GA P w M0 G->G.dl=[]->Ao w M0 G (frN 4) I mu (Ac H) w->B8 w I mu cs vs->
  CallsDIn Fence.wide 0 P f vs.toArray u w fun e u' w'=>u'=u/\∃ v I' mu',e=.returned v/\Ao w M0 G (frN 4) I' mu' (Ac H') w'
theorem Qt.of_awp{P:Program}{nt:Nat}{f:FuncId}{fn:Func}{c:Code}{ds:List D}{H H':Hp}(hf:P.funcs[f]? =some fn)(hb:fn.body=some c)(hn:fn.ntmps=nt)(hent:Bf P f=true)(hlen:ds.length<=nt){rs:List ResultVar}(hrs:fn.results.toList=rs)
  (h:AWp P nt c (MG P rs (.tup []) H') ⟨Bh 0 ds,H,4⟩):Qt P f ds H H':=by
 subst hrs
 refine⟨hent,fun w M0 G0 I mu vs u hga hdl hw hrep=>?_⟩
 let G:Gh:=⟨G0.st,G0.nm,[],Fence.wide,0,.inl rfl⟩
 have hG:∀ k,G k->k<w.heap.size:=fun k hk=>hw.lt k (hw.iold k hk)
 refine GC (n:=0) hf hb trivial (wpIn_mono (h w M0 G hga I mu _ w ⟨?_,BF.refl _ _ _ _,fun t=>F1 hrep _ t,⟨hw.blk,hw.loc,hw.inj,hw.fresh,hw.lt,hw.os,hw.tape,hw.output,hw.grown,hw.old,hw.iold,hw.inew,hw.keep,hw.used⟩⟩) ?_)
 ·have:=hrep.1;simp[hn];omega
 ·rintro e a' w' ⟨x,s',I',mu',hq,he,r'⟩
  have fin:∀ d,HK P s' fn.results.toList=some d->Aw ⟨[(0,d)],s'.hp,s'.nx⟩ ⟨[(0,.tup [])],H',4⟩->∃ (rs:List Nat) (v:Value),a'.defers=rs.map (fun r=> {target:=.collected r,args:=#[]})++[]/\rs.Nodup/\(∀ r ∈ rs,w'.heap[r]? =some (.deferred (some [])))/\(results fn a'.tmps).run P (CS rs w')=.ok v (CS rs w')/\
    ∃ v' I' mu',Ending.returned v=.returned v'/\Ao w M0 G0 (frN 4) I' mu' (Ac H') (CS rs w'):=by
   intro d hd hwk
   obtain⟨rs,_,d1,d2,d3⟩:=r'.defers
   obtain⟨w1,w2⟩:=r'.w.shut hG d3
   obtain⟨v,q1,q2⟩:=Gk (P:=P) (a:=a') (w:=CS rs w') (I:=fun k=>I' k/\k ∉ rs) (mu:=mu') (w0:=w) (M0:=M0) (I0:=⟨G.st,G.nm,a'.defers,G.F,G.n,G.hF⟩) (fr:=frN s'.nx) (nt:=nt) (s:=s')
    ⟨r'.size,BF.refl _ _ _ _,fun t=>w2 _ _ (r'.env t),⟨w1.blk,w1.loc,w1.inj,w1.fresh,w1.lt,w1.os,w1.tape,w1.output,w1.grown,w1.old,w1.iold,w1.inew,w1.keep,w1.used⟩⟩ fn hd
   obtain⟨I3,mu3,R3⟩:=hwk w M0 G 1 (fun k=>I' k/\k ∉ rs) mu' {tmps:=#[v],defers:=[]} (CS rs w') ⟨rfl,BF.refl _ _ _ _,fun t=>by
    cases t with
    |zero=>simpa [St.fs,Env.get] using q2
    |succ t=>simp [St.fs,Env.get];exact .any _,w1⟩
   exact⟨rs,v,d1,d2,fun r hr=>(d3 r hr).2.2,q1,v,I3,mu3,rfl,⟨R3.w.blk,R3.w.loc,R3.w.inj,R3.w.fresh,R3.w.lt,R3.w.os,R3.w.tape,R3.w.output,R3.w.grown,R3.w.old,R3.w.iold,R3.w.inew,R3.w.keep,R3.w.used⟩⟩
  cases x<;>cases e<;>simp only[Fr] at he<;>simp only[MG] at hq
  case normal.normal=>
   obtain⟨d,hd,hfr⟩:=hq
   exact fin d hd hfr
  case ret.ret=>
   obtain⟨d,hd,hfr⟩:=hq
   exact fin d hd hfr
def SH(P:Program)(rs:List ResultVar)(g:FuncId)(cs:List D)(rB:D)(HB':Hp):AE->St->Prop
 |.ret,s|.normal,s=>∃ (rD:Nat->Nat) (csD:List D) (HD HD':Hp),Qt P g csD HD HD'/\cs=BX rD csD/\ltL 4 csD=true/\B3 rD (Ac s.hp) HD/\CP (2*s.nx) rD HD []=true/\CP (2*s.nx) rD HD HD'=true/\
   ∃ d,HK P ⟨s.env,DT s.hp (DE (2*s.nx) rD HD HD'),s.nx+4⟩ rs=some d/\Aw ⟨[(0,d)],DT s.hp (DE (2*s.nx) rD HD HD'),s.nx+4⟩ ⟨[(0,rB)],HB',4⟩
 |_,_=>False
def DefQ1(P:Program)(nt:Nat)(rs:List ResultVar)(g:FuncId)(t:Nat)(caps:Array Operand)(B:Code)(r:D)(H':Hp)(r1:Nat->Nat)(cs:List D)(env':Env)(HB:Hp)(rB:D)(HB':Hp):AE->St->Prop
 |.normal,s=>caps.toList.map (evO P s.env.get)=BX r1 cs/\ltL 0 cs=true/\BX (fun b=>b) cs=cs/\C3 r1 ((t,.any)::s.env) env'/\Ho 4 env'=true/\B3 r1 (Ac s.hp) HB/\CP (2*s.nx) r1 HB []=true/\CP (2*s.nx) r1 HB HB'=true/\
   AWp P nt B (SH P rs g cs rB HB') ⟨env',HB,4⟩/\Aw ⟨[(0,AT (Ct (2*s.nx) r1) rB)],DT s.hp (DE (2*s.nx) r1 HB HB'),s.nx+4⟩ ⟨[(0,r)],H',4⟩
 |_,_=>False
theorem Ex{m n b:Nat}(hmn:m<=n)(h:okN m b=true):okN n b=true:=by
 simp[okN] at h|-;omega
mutual
theorem LL{m n:Nat}(hmn:m<=n):∀ {d:D},ltD m d=true->ltD n d=true
 |.any,_=>rfl
 |.val _,_=>rfl
 |.abool _ _,_=>rfl
 |.cond _ d,h=>by simp only[ltD] at h|-;exact LL hmn h
 |.agg cs,h=>by simp only[ltD] at h|-;exact Ds hmn h
 |.tup cs,h=>by simp only[ltD] at h|-;exact Ds hmn h
 |.slice es _,h=>by simp only[ltD] at h|-;exact Nr hmn h
 |.ptr cs _,h=>by simp only[ltD] at h|-;exact Ds hmn h
 |.func _ fs cs,h=>by simp only[ltD,A09] at h|-;exact⟨Ds hmn h.1,Ds hmn h.2⟩
 |.iface _ d,h=>by simp only[ltD] at h|-;exact LL hmn h
 |.ref b _ _ _,h=>Ex hmn h
 |.sref b _ _ _ _,h=>Ex hmn h
 |.gref b _,h=>Ex hmn h
 |.mref b,h=>Ex hmn h
 |.yld b,h=>Ex hmn h
 |.gel b _ _ _,h=>Ex hmn h
 |.gsub b _ _ _,h=>Ex hmn h
theorem Ds{m n:Nat}(hmn:m<=n):∀ {l:List D},ltL m l=true->ltL n l=true
 |[],_=>rfl
 |d::l,h=>by simp only[ltL,A09] at h|-;exact⟨LL hmn h.1,Ds hmn h.2⟩
theorem Nr{m n:Nat}(hmn:m<=n):∀ {l:List (List D)},Eg m l=true->Eg n l=true
 |[],_=>rfl
 |d::l,h=>by simp only[Eg,A09] at h|-;exact⟨Ds hmn h.1,Nr hmn h.2⟩
end
def AWpL(P:Program)(nt:Nat):List Code->(St->Prop)->St->Prop
 |[],Q,s=>Q s
 |A::As,Q,s=>AWp P nt A (XY (fun s=>AWpL P nt As Q s) (fun _ _=>False)) s
theorem G8{P:Program}{nt:Nat}{X:Code}{R:Exit->Act->World->Prop}{Q:St->Prop}{w0:World}{M0:Nat->Prop}{I0:Gh}(hga:GA P w0 M0 I0)(hk:∀ s1 I1 mu1 a1 w1,Q s1->Rel w0 M0 I0 nt (frN s1.nx) I1 mu1 s1.fs a1 w1->X.wpIn I0.F I0.n P R a1 w1):
  ∀(As:List Code) (s:St),AWpL P nt As Q s->∀ (I:Nat->Prop) (mu:Nat->Option Value) (a:Act) (w:World),Rel w0 M0 I0 nt (frN s.nx) I mu s.fs a w->(As.foldr .seq X).wpIn I0.F I0.n P R a w
 |[],s,h,I,mu,a,w,r=>hk s I mu a w h r
 |A::As,s,h,I,mu,a,w,r=>wpIn_seq (wpIn_mono (h w0 M0 I0 hga I mu a w r) fun e a' w' hx=>by
   obtain⟨x,s',I',mu',q,he,r'⟩:=hx
   cases x<;>cases e<;>simp only[Fr] at he<;>simp only[XY] at q
   exact G8 hga hk As s' q I' mu' a' w' r')
theorem A2.of_awp_defer{P:Program}{nt:Nat}{f:FuncId}{fn:Func}(As:List Code){B:Code}{ds:List D}{H:Hp}{r:D}{H':Hp}{id t g:Nat}{caps:Array Operand}{T1 T2:TypeId}{ps1 ps2:String}{af1 af2:Array Edge}{ts:Array TypeId}(hf:P.funcs[f]? =some fn)
  (hb:fn.body=some (As.foldr .seq (.seq (.region id #[⟨some t,.makeFunc (.func g) #[] caps,T1,ps1,af1,none⟩,⟨none,.defer {callee:=.value (.tmp t),args:=#[],argTypes:=ts},T2,ps2,af2,none⟩] false) B)))
  (hn:fn.ntmps=nt) (hent:Bf P f=true) (hlen:ds.length<=nt) (ht:t<nt) {rs:List ResultVar} (hrs:fn.results.toList=rs) (r1:Nat->Nat) (cs:List D) (env':Env) (HB:Hp) (rB:D) (HB':Hp)
  (h:AWpL P nt As (DefQ1 P nt rs g t caps B r H' r1 cs env' HB rB HB' .normal) ⟨Bh 0 ds,H,4⟩):A2 P f ds H r H':=by
 subst hrs
 unfold A2
 refine⟨hent,fun w M0 G0 I mu vs hga hdl hw hrep=>?_⟩
 let G:Gh:=⟨G0.st,G0.nm,[],Fence.wide,1,.inl rfl⟩
 have hG:∀ k,G k->k<w.heap.size:=fun k hk=>hw.lt k (hw.iold k hk)
 refine callsIn_wide.1 (callsIn_of_wp_marks (n:=1) hf hb trivial (G8 (I0:=G) hga ?_ As _ h I mu _ w ⟨?_,BF.refl _ _ _ _,fun t=>F1 hrep _ t,⟨hw.blk,hw.loc,hw.inj,hw.fresh,hw.lt,hw.os,hw.tape,hw.output,hw.grown,hw.old,hw.iold,hw.inew,hw.keep,hw.used⟩⟩))
 case refine_2=>have:=hrep.1;simp[hn];omega
 rintro s1 I1 mu1 a1 w1 hq R1
 simp only[DefQ1] at hq
 obtain⟨c1,c2,c3,c4,c5,c6,c7,c8,hB,hW⟩:=hq
 show Code.wpIn _ _ _ _ _ _ _
 refine wpIn_seq (wpIn_region ?_)
 have hcap:B8 w1 I1 mu1 (BX r1 cs) (caps.toList.map a1.eval):=by
  rw[<-c1]
  exact B8.args (args:=caps) fun y _=>Dm (GA.at (I0:=G) hga R1.w) R1.env y
 have hcsl:(caps.toList.map a1.eval).toArray=caps.map a1.eval:=by apply Array.ext';simp
 have o1:(execOp a1.eval ⟨some t,.makeFunc (.func g) #[] caps,T1,ps1,af1,none⟩).run P w1=.ok (.value (.func (.func g) #[] (caps.map a1.eval))) w1:=by simp[execOp,Instr.makeFunc]
 have hev:(a1.put (some t) (.func (.func g) #[] (caps.map a1.eval))).eval (.tmp t)=.func (.func g) #[] (caps.map a1.eval):=by
  have:t<a1.tmps.size:=by rw[R1.size];exact ht
  simp[Act.put,Act.eval,this]
 have o2:(execOp (a1.put (some t) (.func (.func g) #[] (caps.map a1.eval))).eval ⟨none,.defer {callee:=.value (.tmp t),args:=#[],argTypes:=ts},T2,ps2,af2,none⟩).run P w1=.ok (.defer {target:=.fn (.func g) (caps.map a1.eval),args:=#[]}) w1:=by
  simp only[execOp,resolve,hev,Deferred.ofValue,A0e,A0k,Result.andThen]
  simp
 have hd1:a1.defers=[]:=by
  obtain⟨rs,d0,d1,_⟩:=R1.defers
  rw[d0 rfl] at d1;exact d1
 have hvs:(caps.toList.map a1.eval).toArray=caps.map a1.eval:=hcsl
 obtain⟨M,G2,muc,⟨g1,g2,g3,g4,g5,g6,g7,g8⟩,hback⟩:=WK (id:=2*s1.nx) r1 (show GA P w M0 G from hga) R1.w (fun j hj=>⟨by omega,by show 2*s1.nx<=2*s1.nx+2*j;omega⟩) (fun _ _=>rfl) hcap (Ds (A0J 4) c2) c6 c7
 generalize hclo:Value.func (.func g) #[] (caps.map a1.eval)=clo at o1 o2 hev
 let d:Deferred:= {target:=.fn (.func g) (caps.map a1.eval),args:=#[]}
 let G3:Gh:=⟨G2.st,G2.nm,[d],Fence.wide,1,.inl rfl⟩
 have hG3:∀ k,G3 k->k<w1.heap.size:=fun k hk=>g3.lt k (g3.iold k hk)
 have henv:∀ t',Rep w1 I1 muc (env'.get t') ((a1.put (some t) clo).tmps.getD t' undef):=by
  intro t'
  have h1:Rep w1 I1 mu1 (Env.get ((t,.any)::s1.env) t') ((a1.put (some t) clo).tmps.getD t' undef):=by
   simp only[Env.get]
   by_cases hh:t=t'
   ·subst hh;simp only[beq_self_eq_true,cond_true];exact .any _
   ·have:(t==t')=false:=by simpa using hh
    simp only[this,cond_false]
    have:=R1.env t'
    simp only[Act.put,A1g,A1l hh] at this|-
    exact this
  rcases Fu c4 c5 t' with⟨d',h2,h3,h4⟩|h2
  ·rw[h2]
   exact(h1.lo h3).ren g5 rfl h4
  ·rw[h2];exact .any _
 have hsz:(a1.put (some t) clo).tmps.size=nt:=by rw[Ev];exact R1.size
 show wpOpsIn Fence.wide 1 P _ _ [0,1] a1 w1
 simp only[wpOpsIn,A18,A0S,A0T,Region.wanted]
 simp only[if_true]
 refine Cz (G:=G) o1 ?_
 refine⟨fun f' _=>G.fn f',?_⟩
 rw[show Fence.wide.round=none from rfl,Oper.semAt_none,o2]
 show Code.wpIn Fence.wide 1 P B _ ({tmps:=(a1.put (some t) clo).tmps,defers:=d::(a1.put (some t) clo).defers}:Act) w1
 rw[DF,hd1]
 refine wpIn_mono (hB w1 M G3 g1 I1 muc {tmps:=(a1.put (some t) clo).tmps,defers:=[d]} w1 ⟨hsz,BF.refl _ _ _ _,henv,⟨g3.blk,g3.loc,g3.inj,g3.fresh,g3.lt,g3.os,g3.tape,g3.output,g3.grown,g3.old,g3.iold,g3.inew,g3.keep,g3.used⟩⟩) ?_
 rintro e a2 w2 ⟨x,s2,I2,mu2,hq2,he2,R2⟩
 have hd2:a2.defers=[d]:=by
  obtain⟨rs,d0,d1,_⟩:=R2.defers
  rw[d0 rfl] at d1;exact d1
 have hold:∀ k,I1 k->w2.heap[k]? =w1.heap[k]?:=fun k hk=>R2.w.old k (R1.w.lt k hk) (fun hM=>g7 k hM hk)
 have fin:SH P fn.results.toList g cs rB HB' .ret s2->LeavesInM Fence.wide 1 P fn a2.tmps (fun e w'=>∃ v I' mu',e=.returned v/\Rep w' I' mu' r v/\Ao w M0 G0 (frN 4) I' mu' (Ac H') w') a2.defers .returning w2:=by
  rintro⟨rD,csD,HD,HD',hD,q1,q2,q3,q4,q5,dd,q6,q7⟩
  rw[hd2]
  have hcs2:B8 w2 I2 mu2 (BX rD csD) (caps.toList.map a1.eval):=by
   rw[<-q1]
   refine⟨g4.1,fun i hi=>?_⟩
   have h1:=g4.2 i hi
   have hnd:nd cs i=AT (fun b=>b) (nd cs i):=by
    have:=BK (r:=fun b=>b) hi
    rw[c3] at this;exact this
   have h2:Rep w1 I1 mu2 (nd cs i) (nv (caps.toList.map a1.eval) i):=Rep.ren (r:=fun b=>b) (n:=0) (fun b x hb hx=>by
    have hb':b%2=1:=by simpa[okN] using hb
    exact R2.w.keep b x hb' (g8 b x hb' hx)) h1 hnd (E0 c2 i)
   exact h2.mono hold (fun k hk=>R2.w.iold k (g6 k hk)) (fun _ _ h=>h)
  obtain⟨M4,G4,muc4,⟨f1,f2,f3,f4,f5,_⟩,hback4⟩:=WK (id:=2*s2.nx) rD (show GA P w1 M G3 from g1) R2.w (fun j hj=>⟨by omega,by show 2*s2.nx<=2*s2.nx+2*j;omega⟩) (fun _ _=>rfl) hcs2 q2 q3 q4
  have hinv:(invoke (.fn (.func g) (caps.map a1.eval)) #[]).run P w2=.ok (.enter g (caps.toList.map a1.eval).toArray) w2:=by
   have e1:#[]++caps.map a1.eval=(caps.toList.map a1.eval).toArray:=by apply Array.ext';simp
   simp only[invoke]
   exact(congrArg (fun z=>(callFunc g z).run P w2) e1).trans (AX hD.1 _ w2)
  refine⟨by simp,.inr ⟨fun h=>(by cases h),Fn.func g,caps.map a1.eval,g,_,rfl,hinv,fun f' _=>G3.fn f',(hD.2 w2 M4 G4 I2 muc4 _ .returning f1 f2 f3 f4).mono ?_⟩⟩
  rintro e u' w3 ⟨rfl,v,I3,mu3,rfl,R3⟩
  obtain⟨mu4,e4,R4,_⟩:=hback4 .any HD' v w3 I3 mu3 q5 (.any _) R3
  have hout:(fun b=>AO b (s2.fs.hp b) (C9 (2*s2.nx) rD HD .any HD').up)=Ac (DT s2.hp (DE (2*s2.nx) rD HD HD')):=by
   funext b;rw[Eo];rfl
  rw[hout] at R4
  have R4':=R4.less (fr':=frN (s2.nx+4)) fun b hb=>⟨⟨hb.1,by have:=hb.2;omega⟩,fun j hj=>by have:=hb.2;omega⟩
  obtain⟨v5,h5,h6⟩:=Gk (P:=P) (a:=a2) (w:=w3) (I:=I3) (mu:=mu4) (w0:=w1) (M0:=M) (I0:=⟨G3.st,G3.nm,a2.defers,Fence.wide,1,.inl rfl⟩) (fr:=frN (s2.nx+4)) (nt:=nt) (s:=⟨s2.env,DT s2.hp (DE (2*s2.nx) rD HD HD'),s2.nx+4⟩)
   ⟨R2.size,BF.refl _ _ _ _,fun t'=>(R2.env t').ext e4,⟨R4'.blk,R4'.loc,R4'.inj,R4'.fresh,R4'.lt,R4'.os,R4'.tape,R4'.output,R4'.grown,R4'.old,R4'.iold,R4'.inew,R4'.keep,R4'.used⟩⟩ fn q6
  obtain⟨I6,mu6,R6⟩:=q7 w1 M G2 1 I3 mu4 {tmps:=#[v5],defers:=G2.dl} w3 ⟨rfl,BF.refl _ _ _ _,fun t'=>by
   cases t' with
   |zero=>simpa [St.fs,Env.get] using h6
   |succ t'=>simp [St.fs,Env.get];exact .any _,⟨R4'.blk,R4'.loc,R4'.inj,R4'.fresh,R4'.lt,R4'.os,R4'.tape,R4'.output,R4'.grown,R4'.old,R4'.iold,R4'.inew,R4'.keep,R4'.used⟩⟩
  have r0:Rep w3 I6 mu6 rB v5:=by simpa[St.fs,Env.get] using R6.env 0
  obtain⟨mu7,e7,R7,h7,_⟩:=hback rB HB' v5 w3 I6 mu6 c8 r0 R6.w
  have hout7:(fun b=>AO b (s1.fs.hp b) (C9 (2*s1.nx) r1 HB rB HB').up)=Ac (DT s1.hp (DE (2*s1.nx) r1 HB HB')):=by
   funext b;rw[Eo];rfl
  rw[hout7] at R7
  have R7':=R7.less (fr':=frN (s1.nx+4)) fun b hb=>⟨⟨hb.1,by have:=hb.2;omega⟩,fun j hj=>by have:=hb.2;omega⟩
  obtain⟨I8,mu8,R8⟩:=hW w M0 G 1 I6 mu7 {tmps:=#[v5],defers:=[]} w3 ⟨rfl,BF.refl _ _ _ _,fun t'=>by
   cases t' with
   |zero=>simpa [St.fs,Env.get,C9] using h7
   |succ t'=>simp [St.fs,Env.get];exact .any _,R7'⟩
  have r8:Rep w3 I8 mu8 r v5:=by simpa[St.fs,Env.get] using R8.env 0
  exact⟨v5,h5,v5,I8,mu8,rfl,r8,⟨R8.w.blk,R8.w.loc,R8.w.inj,R8.w.fresh,R8.w.lt,R8.w.os,R8.w.tape,R8.w.output,R8.w.grown,R8.w.old,R8.w.iold,R8.w.inew,R8.w.keep,R8.w.used⟩⟩
 cases x<;>cases e<;>simp only[Fr] at he2<;>simp only[SH] at hq2
 ·exact fin hq2
 ·exact fin hq2
attribute [irreducible] Qt
section
variable{P:Program}{ops:Array Oper}{nx:Nat}{l:List Oper}{pos:Nat}{acc:List Eff}{s:St}{K:List Eff->St->Prop}
theorem A1.does{dst:Option Tmp}{op:Op}{T:TypeId}{ps:String}{af:Array Edge}{e:Eff}(h:AB P ⟨dst,op,T,ps,af,none⟩ (2*(nx+4*pos)) (evO P s.env.get) (Ac s.hp) e)(hk:GoS P ops nx l (pos+1) (e::acc) (s.app dst e) K):A1 P ops nx (⟨dst,op,T,ps,af,none⟩::l) pos acc s K:=by
 rw[BY] at hk;rw[Ba]
 unfold Bs
 exact .inl ⟨e,B9.plain rfl h,by have:=Go.run hk;unfold Bs at this;exact this⟩
theorem A1.assert{dst:Option Tmp}{x:Operand}{T xt t:TypeId}{ps:String}{af:Array Edge}{d:D}(hx:evO P s.env.get x=.iface t d)(hr:∀ v w,(Instr.typeAssert (.iface t v) xt t true).run P w=.ok (.tuple #[v,.bool true]) w)
  (hk:GoS P ops nx l (pos+1) (⟨.tup [d,.val (.bool true)],[],[]⟩::acc) (s.app dst ⟨.tup [d,.val (.bool true)],[],[]⟩) K):A1 P ops nx (⟨dst,.typeAssert x xt t true,T,ps,af,none⟩::l) pos acc s K:=by
 refine A1.does (AB.quiet fun _ _ _ _ I mu _ a w _ hxs _=>?_) hk
 have hxr:=hxs x (by simp[Op.operands])
 rw[hx] at hxr
 generalize he:a.eval x=v at hxr
 cases hxr with
 |iface _ _ u h=>
 refine⟨.tuple #[u,.bool true],by simp only[execOp,he,A0e,hr,Result.andThen,Sem.run_map,A0k],.tup _ [u,.bool true] rfl fun i hi=>?_⟩
 match i,hi with
 |0,_=>exact h
 |1,_=>exact .val _ trivial
theorem A1.ifNil{dst:Option Tmp}{x y:Operand}{T t1 t2 t:TypeId}{ps:String}{af:Array Edge}{d:D}(hx:evO P s.env.get x=.iface t d)(hy:evO P s.env.get y=.val .nilIface)(hr:∀ (a:Act) v w,a.eval x=.iface t v->a.eval y=.nilIface->(execOp a.eval ⟨dst,.binOp .eql t1 x y t2,T,ps,af,none⟩).run P w=.ok (.value (.bool false)) w)
  (hk:GoS P ops nx l (pos+1) (⟨.val (.bool false),[],[]⟩::acc) (s.app dst ⟨.val (.bool false),[],[]⟩) K):A1 P ops nx (⟨dst,.binOp .eql t1 x y t2,T,ps,af,none⟩::l) pos acc s K:=by
 refine A1.does (AB.quiet fun _ _ _ _ I mu _ a w _ hxs _=>?_) hk
 have hxr:=hxs x (by simp[Op.operands])
 have hyr:=hxs y (by simp[Op.operands])
 rw[hx] at hxr
 rw[hy] at hyr
 have hyv:=hyr.val_inv
 generalize he:a.eval x=v at hxr
 cases hxr with
 |iface _ _ u h=>exact ⟨.bool false,hr a u w he hyv,.val _ trivial⟩
theorem A1.nilNil{dst:Option Tmp}{x y:Operand}{T t1 t2:TypeId}{ps:String}{af:Array Edge}(hx:evO P s.env.get x=.val .nilIface)(hy:evO P s.env.get y=.val .nilIface)(hr:∀ (a:Act) w,a.eval x=.nilIface->a.eval y=.nilIface->(execOp a.eval ⟨dst,.binOp .eql t1 x y t2,T,ps,af,none⟩).run P w=.ok (.value (.bool true)) w)
  (hk:GoS P ops nx l (pos+1) (⟨.val (.bool true),[],[]⟩::acc) (s.app dst ⟨.val (.bool true),[],[]⟩) K):A1 P ops nx (⟨dst,.binOp .eql t1 x y t2,T,ps,af,none⟩::l) pos acc s K:=by
 refine A1.does (AB.quiet fun _ _ _ _ I mu _ a w _ hxs _=>?_) hk
 have hxr:=hxs x (by simp[Op.operands])
 have hyr:=hxs y (by simp[Op.operands])
 rw[hx] at hxr
 rw[hy] at hyr
 exact⟨.bool true,hr a w hxr.val_inv hyr.val_inv,.val _ trivial⟩
end
def RecU(w:World)(I:Nat->Prop)(mu:Nat->Option Value):Option D->FrameMode->FrameMode->Prop
 |none,u,u'=>u=.returning/\u'=.returning
 |some d,u,u'=>∃ v,Rep w I mu d v/\u=.panicking [{v,recovered:=false}]/\u'=.panicking [{v,recovered:=true}]
theorem wpIn_n{n m:Nat}{P:Program}{c:Code}{Q:Exit->Act->World->Prop}{a:Act}{w:World}(h:c.wpIn Fence.wide n P Q a w):c.wpIn Fence.wide m P Q a w:=
 fun b k cs h1 h2 _=>h b k cs h1 h2 (fun d hd=>by cases hd)
def Qs(P:Program)(f:FuncId)(cs:List D)(o:Option D)(H H':Hp):Prop:=
 Bf P f=true/\∀ (w:World) (M0:Nat->Prop) (G:Gh) (I:Nat->Prop) (mu:Nat->Option Value) (vs:List Value) (u u':FrameMode),GA P w M0 G->G.dl=[]->Ao w M0 G (frN 4) I mu (Ac H) w->B8 w I mu cs vs->RecU w I mu o u u'->
  CallsDIn Fence.wide 0 P f vs.toArray u w fun e u'' w'=>u''=u'/\∃ v I' mu',e=.returned v/\Ao w M0 G (frN 4) I' mu' (Ac H') w'
def recD:Option D->D
 |none=>.val .nilIface
 |some d=>d
theorem Qs.of_awp{P:Program}{nt:Nat}{f:FuncId}{fn:Func}{B:Code}{ds:List D}{o:Option D}{H H':Hp}{id t:Nat}{ts:Array TypeId}{T:TypeId}{ps:String}{af:Array Edge}(hf:P.funcs[f]? =some fn)
  (hb:fn.body=some (.seq (.region id #[⟨some t,.call {callee:=.builtin .recover,args:=#[],argTypes:=ts},T,ps,af,none⟩] false) B)) (hn:fn.ntmps=nt) (hent:Bf P f=true) (hlen:ds.length<=nt) (ht:t<nt) {rs:List ResultVar} (hrs:fn.results.toList=rs)
  (h:AWp P nt B (MG P rs (.tup []) H') ⟨(t,recD o)::Bh 0 ds,H,4⟩):Qs P f ds o H H':=by
 subst hrs
 refine⟨hent,fun w M0 G0 I mu vs u u' hga hdl hw hrep hu=>?_⟩
 let G:Gh:=⟨G0.st,G0.nm,[],Fence.wide,1,.inl rfl⟩
 refine callsDIn_of_wpSIn (n:=0) hf hb trivial fun c₀ cs hc₀=>?_
 obtain⟨v,c₁,hv,hrec,hc₁⟩:∃ (v:Value) (c₁:Frame),Rep w I mu (recD o) v/\(match recoverD (c₀::cs) with|some (x,cs')=>x=v/\cs'=c₁::cs|none=>v=.nilIface/\c₁=c₀)/\c₁= {c₀ with mode:=u'}:=by
  cases o with
  |none=>
   obtain⟨rfl,rfl⟩:=hu
   refine⟨.nilIface,c₀,.val _ trivial,?_,?_⟩
   ·simp[recoverD,hc₀]
   ·rw[<-hc₀]
  |some d=>
   obtain⟨v,hv,rfl,rfl⟩:=hu
   refine⟨v,{c₀ with mode:=.panicking [{v,recovered:=true}]},hv,?_,rfl⟩
   simp[recoverD,hc₀]
 have hrun:(execOp ({tmps:=vs.toArray++Array.replicate (fn.ntmps-vs.toArray.size) undef,defers:=[]}:Act).eval ⟨some t,.call {callee:=.builtin .recover,args:=#[],argTypes:=ts},T,ps,af,none⟩).run P w=.ok .recover w:=by
  simp only[execOp,resolve,A0e,A0k,Result.andThen,invoke]
  rfl
 have hsize:(vs.toArray++Array.replicate (fn.ntmps-vs.toArray.size) undef).size=nt:=by
  have:=hrep.1;simp[hn];omega
 have hbody:Code.wpSIn Fence.wide 0 P B (bodyPostS P fn c₀ cs fun e u'' w'=>u''=u'/\∃ v I' mu',e=.returned v/\Ao w M0 G0 (frN 4) I' mu' (Ac H') w') (({tmps:=vs.toArray++Array.replicate (fn.ntmps-vs.toArray.size) undef,defers:=[]}:Act).put (some t) v) (c₁::cs) w:=by
  refine wpSIn_of_wpIn rfl (wpIn_n (n:=1) (wpIn_mono (h w M0 G hga I mu _ w ⟨by rw[Ev];exact hsize,BF.refl _ _ _ _,fun t'=>?_,⟨hw.blk,hw.loc,hw.inj,hw.fresh,hw.lt,hw.os,hw.tape,hw.output,hw.grown,hw.old,hw.iold,hw.inew,hw.keep,hw.used⟩⟩) ?_))
  ·have:=Jm (env:=(Bh 0 ds).get) (dst:=some t) (d:=recD o) (v:=v) hsize (fun t'' h=>by cases h;exact ht) (fun t''=>F1 hrep _ t'') hv {tmps:=vs.toArray++Array.replicate (fn.ntmps-vs.toArray.size) undef,defers:=[]} rfl t'
   show Rep w I mu (Env.get ((t,recD o)::Bh 0 ds) t') _
   simp only[Env.get]
   by_cases hh:t=t'
   ·subst hh;simp only[beq_self_eq_true,cond_true];simpa using this
   ·have h2:(t==t')=false:=by simpa using hh
    simp only[h2,cond_false]
    rw[if_neg (by simpa using hh)] at this;exact this
  ·rintro e a' w' ⟨x,s',I',mu',hq,he,r'⟩
   have hd':a'.defers=[]:=by
    obtain⟨rs,d0,d1,_⟩:=r'.defers
    rw[d0 rfl] at d1;exact d1
   have fin:∀ d,HK P s' fn.results.toList=some d->Aw ⟨[(0,d)],s'.hp,s'.nx⟩ ⟨[(0,.tup [])],H',4⟩->a'.defers=[]/\∃ u'',c₁::cs= {c₀ with mode:=u''}::cs/\∃ v,(results fn a'.tmps).run P w'=.ok v w'/\(u''=u'/\∃ v' I' mu',Ending.returned v=.returned v'/\Ao w M0 G0 (frN 4) I' mu' (Ac H') w'):=by
    intro d hd hwk
    obtain⟨v',q1,q2⟩:=Gk (P:=P) (a:=a') (w:=w') (I:=I') (mu:=mu') (w0:=w) (M0:=M0) (I0:=G) (fr:=frN s'.nx) (nt:=nt) (s:=s') r' fn hd
    obtain⟨I3,mu3,R3⟩:=hwk w M0 G 1 I' mu' {tmps:=#[v'],defers:=[]} w' ⟨rfl,BF.refl _ _ _ _,fun t=>by
     cases t with
     |zero=>simpa [St.fs,Env.get] using q2
     |succ t=>simp [St.fs,Env.get];exact .any _,r'.w⟩
    exact⟨hd',u',by rw[hc₁],v',q1,rfl,v',I3,mu3,rfl,⟨R3.w.blk,R3.w.loc,R3.w.inj,R3.w.fresh,R3.w.lt,R3.w.os,R3.w.tape,R3.w.output,R3.w.grown,R3.w.old,R3.w.iold,R3.w.inew,R3.w.keep,R3.w.used⟩⟩
   cases x<;>cases e<;>simp only[Fr] at he<;>simp only[MG] at hq
   case normal.normal=>
    obtain⟨d,hd,hfr⟩:=hq
    exact fin d hd hfr
   case ret.ret=>
    obtain⟨d,hd,hfr⟩:=hq
    exact fin d hd hfr
 refine wpSIn_seq (wpSIn_region ?_)
 show wpOpsSIn Fence.wide 0 P _ _ [0] _ _ _
 simp only[wpOpsSIn,A18,A0S,Region.wanted,if_true,hrun]
 refine⟨fun _ _=>trivial,?_⟩
 cases hr:recoverD (c₀::cs) with
 |none=>
  rw[hr] at hrec
  obtain⟨h1,h2⟩:=hrec
  rw[h1,h2] at hbody
  exact hbody
 |some p=>
  obtain⟨x,cs'⟩:=p
  rw[hr] at hrec
  obtain⟨h1,h2⟩:=hrec
  subst h1 h2
  exact hbody
end Go.Ab
namespace Go.Ab
open Go.Proofs Go.Proofs.Tryz
abbrev wD(c:Int):D:=.iface 166 (.agg [.val (.int .i64 c)])
theorem DP(c:Int):A0 prog 81 [.val (.bool true),.val (.int .i64 c)] (.tup []):=by
 refine Zf [] func81 rfl ntmps81 results81 ?_
 ((try push_cast)<;>repeat' (first|apply Zi<;>intro _|exact Zp|with_reducible apply Za)<;>try push_cast)
theorem Py(c:Int):EK prog 81 [.val (.bool false),.val (.int .i64 c)] (wD c):=by
 refine EK.of_awp func81 rfl ntmps81 (by kernel_rfl) (by simp) (AWp.sz fun H Hb=>Zy ?_)
 (have z:=trivial;(try push_cast)<;>repeat' (first|apply Zi<;>intro _|exact Zp|with_reducible apply Za|(with_reducible show A1 _ _ _ _ _ _ _ _;refine A1.panicOp (by(try push_cast);rfl) ?_)|fail)<;>try push_cast)
 ·kernel_rfl
 ·exact⟨Am _,rfl⟩
theorem Q6:A0 prog 84 [.val (.int .i64 0)] (.tup []):=by
 refine Zf [] func84 rfl ntmps84 results84 ?_
 (have z:=trivial;(try push_cast)<;>repeat' (first|apply Zi<;>intro _|refine Zc (DP ..) ?_|exact Zp|with_reducible apply Za)<;>try push_cast)
theorem Yp(c:Int)(hc:c≠0):EK prog 84 [.val (.int .i64 c)] (wD c):=by
 have b1:(c==0)=false:=by simpa using hc
 refine EK.of_awp func84 rfl ntmps84 (by kernel_rfl) (by simp) (AWp.sz fun H Hb=>Zy ?_)
 (have z:=b1;(try push_cast[z])<;>repeat' (first|apply Zi<;>intro _|exact Zo|with_reducible apply Za|(with_reducible show A1 _ _ _ _ _ _ _ _;refine A1.pan (by(try push_cast[z]);exact Py ..) rfl (by first|rfl|push_cast [z]) rfl ?_)<;>try push_cast[z]|fail)<;>try push_cast[z])
 exact⟨Am _,rfl⟩
mutual
def Di:GM->Nat
 |.mk _ _ _ _ _ _ _ _ l=>1+C4 l
def C4:List GM->Nat
 |[]=>0
 |m::l=>Di m+C4 l
end
theorem Fc(m:GM):Di m=1+C4 m.list:=by cases m;simp[Di,GM.list]
theorem F2:∀ (a b:List GM),C4 (a++b)=C4 a+C4 b
 |[],b=>by simp[C4]
 |x::a,b=>by simp only[A0d,C4,F2 a b];omega
theorem QO{l:List GM}{i:Nat}(h:i<l.length):C4 (l.take (i+1))=C4 (l.take i)+Di (l.getD i zU)/\C4 (l.take (i+1))<=C4 l:=by
 have e:l.getD i zU=l[i]:=by rw[A02,A0b h];rfl
 have h1:C4 (l.take (i+1))=C4 (l.take i)+Di (l.getD i zU):=by
  rw[List.take_add_one,A0b h,F2,e];simp[C4]
 refine⟨h1,?_⟩
 conv=>rhs;rw[<-A12 (i+1) l,F2]
 omega
theorem La:∀ l:List GM,l.length<=C4 l
 |[]=>by simp
 |m::l=>by have:=La l;have:=Fc m;simp only[C4,A0g];omega
theorem Vf(m:GM)(hz:Di m<=1099511627776):A0 prog 42 [.agg (Ap m)] (.val (.int .i64 (Di m:Nat))):=by
 have hrec:∀ x,SizeOf.sizeOf x<SizeOf.sizeOf m->Di x<=1099511627776->A0 prog 42 [.agg (Ap x)] (.val (.int .i64 (Di x:Nat))):=fun x hx h=>Vf x h
 have hln:=La m.list
 rw[Fc] at hz|-
 rw[AY,A7 m.was,A7 m.value]
 simp only[A0d,A0h,A0c]
 refine Zf [0] func42 rfl ntmps42 results42 ?_
 ((try push_cast)<;>repeat' (first|apply Zi<;>intro _|exact Zp|with_reducible apply Za)<;>try push_cast)
 refine Zl (fun i=>i<=m.list.length) (fun i=>⟨[(9,.val (.int .i64 i)),(8,.val (.int .i64 m.list.length)),(7,.slice (m.list.map Ap) false),(3,.val (.int .i64 ((1+C4 (m.list.take i):Nat):Int)))],[],200⟩) (fun i=>m.list.length-i) 0 (by simp) ?_ fun i hi=>?_
 ·apply Zw<;>push_cast
  simp[C4]
 ·push_cast
  refine Al (fun ha=>?_) (fun ha=>?_)
  ·have hi':i<m.list.length:=by simpa using ha
   have e1:=PH hi'
   obtain⟨t1,t2⟩:=QO hi'
   have hr:=hrec (m.list.getD i zU) (GM.list_lt (Ak hi')) (by omega)
   (have z:=e1;(try push_cast[z])<;>repeat' (first|apply Zi<;>intro _|refine Zc (hr ..) ?_|exact Zo|with_reducible apply Za)<;>try push_cast[z])
   all_goals first|omega|skip
   refine⟨i+1,hi',by omega,?_⟩
   apply Zw<;>push_cast
   refine⟨Aa (by omega) (by omega),?_⟩
   rw[t1,A1P,<-Int.add_assoc]
   exact Aa (by omega) (by omega)
  ·have hi':i=m.list.length:=by simp at ha;omega
   subst hi'
   ((try push_cast)<;>repeat' (first|apply Zi<;>intro _|exact Zp|with_reducible apply Za)<;>try push_cast)
   all_goals first|omega|skip
   rw[A1j]
termination_by SizeOf.sizeOf m
abbrev C1:=Bool×GV
def CM(s:C1):List D:=.val (.bool s.1)::A4 s.2
theorem Ci(b:Bool)(v:GV):CM (b,v)=.val (.bool b)::A4 v:=rfl
theorem CY(s:C1):Af (CM s)=true:=by simp only[CM,Af,D.pure,BO,A0E]
theorem VF(s:C1):(CM s).all Bc=true:=by simp only[CM,List.all_cons,Jn,Bool.and_true];rfl
theorem HZ(s:C1):(CM s).length=7:=by simp[CM,AW]
abbrev CE:=ByteArray×Nat×C1
def Cy(e:CE):Value×Nat×D:=(.string e.1,e.2.1,.agg (CM e.2.2))
theorem encC_mk(k:ByteArray)(n:Nat)(s:C1):Cy (k,n,s)=(.string k,n,.agg (CM s)):=rfl
def BE(k:ByteArray):List CE->Nat->Option (Nat×C1)
 |[],_=>none
 |e::es,i=>if k=e.1 then some (i,e.2.2) else BE k es (i+1)
theorem AS(k:ByteArray):∀ (es:List CE) (i:Nat),CV .str (.string k) (es.map Cy) i=some ((BE k es i).map fun p=>(p.1,.agg (CM p.2)))
 |[],i=>rfl
 |e::es,i=>by
  simp only[A0j,CV,Cy,keq,BE]
  by_cases h:k=e.1
  ·simp[h]
  ·simp only[h,decide_false,if_false]
   exact AS k es (i+1)
def HT(es:List CE)(ck:Nat)(k:ByteArray)(s:C1):List CE×Nat:=
 match BE k es 0 with
 |some (i,_)=>(es.modify i fun e=>(e.1,e.2.1,s),ck)
 |none=>(es++[(k,ck,s)],ck+1)
def U8(es:List CE)(k:ByteArray):List CE:=
 match BE k es 0 with
 |some (i,_)=>es.eraseIdx i
 |none=>es
theorem HI(es:List CE)(i:Nat)(s:C1):Kk (es.map Cy) i (.agg (CM s))=(es.modify i fun e=>(e.1,e.2.1,s)).map Cy:=by
 apply A1A
 intro j
 simp only[Kk,A1O,A0u]
 by_cases h:i=j
 ·subst h;cases es[i]? <;>simp [Cy]
 ·simp[h]
theorem TU(es:List CE)(i:Nat):(es.map Cy).eraseIdx i=(es.eraseIdx i).map Cy:=(Cp Cy es i).symm
theorem JM(es:List CE)(ck:Nat)(k:ByteArray)(s:C1):es.map Cy++[(.string k,ck,.agg (CM s))]=(es++[(k,ck,s)]).map Cy:=by simp[Cy]
structure Br where
 k:ByteArray
 was:Bool
 old:C1
def C7(u:Br):D:=.func (.func 279) [] [.ptr [.val (.bool u.was)] 0,.ptr (CM u.old) 0,.ptr [.ref 1 0 0 3] 0,.ptr [.val (.string u.k)] 0]
structure OV where
 below:GT
 chg:Option (List CE×Nat)
 und:Option (List Br)
namespace OV
def chgD(o:OV):D:=match o.chg with
 |none=>.val (.map none)
 |some _=>.mref 2
def chgB(o:OV):Blk:=match o.chg with
 |none=>.junk
 |some (es,ck)=>.map (es.map Cy) ck
def undD(o:OV):D:=match o.und with
 |none=>.slice [] true
 |some l=>.gref 4 l.length
def undB(o:OV):Blk:=match o.und with
 |none=>.junk
 |some l=>.grow (l.map fun u=>[C7 u]) 1
end OV
namespace OV
def step(o:OV)(k:ByteArray)(s:C1):OV:=
 let m:=o.chg.getD ([],0)
 let old:=BE k m.1 0
 ⟨o.below,some (HT m.1 m.2 k s),some (o.und.getD []++[⟨k,old.isSome,(old.map (·.2)).getD (false,zV)⟩])⟩
end OV
def ovH(o:OV):Hp:=[(1,.rows [[A8 o.below,o.chgD,o.undD]] 3),(2,o.chgB),(4,o.undB)]
theorem PA(b:GT):ovH ⟨b,none,none⟩=[(1,.rows [[A8 b,.val (.map none),.slice [] true]] 3),(2,.junk),(4,.junk)]:=rfl
theorem JN(b:GT)(es:List CE)(ck:Nat):ovH ⟨b,some (es,ck),none⟩=[(1,.rows [[A8 b,.mref 2,.slice [] true]] 3),(2,.map (es.map Cy) ck),(4,.junk)]:=rfl
theorem Lw(b:GT)(l:List Br):ovH ⟨b,none,some l⟩=[(1,.rows [[A8 b,.val (.map none),.gref 4 l.length]] 3),(2,.junk),(4,.grow (l.map fun u=>[C7 u]) 1)]:=rfl
theorem DG(b:GT)(es:List CE)(ck:Nat)(l:List Br):ovH ⟨b,some (es,ck),some l⟩=[(1,.rows [[A8 b,.mref 2,.gref 4 l.length]] 3),(2,.map (es.map Cy) ck),(4,.grow (l.map fun u=>[C7 u]) 1)]:=rfl
theorem SV(s:C1):(CM s).take 7=CM s:=A05 (by rw[HZ];exact A08 _)
theorem Rd(r:Nat->Nat)(es:List CE):(es.map Cy).map (fun p=>(p.1,p.2.1,AT r p.2.2))=es.map Cy:=by
 rw[A13]
 refine A14 fun e _=>?_
 simp only[Function.comp,Cy]
 rw[Fe r _ (by simp only[D.pure,CY])]
theorem UQ(n:Nat)(es:List CE):((es.map Cy).all fun p=>ltD n p.2.2)=true:=by
 rw[A0w]
 intro p hp
 obtain⟨e,_,rfl⟩:=A0i.1 hp
 exact Gu n _ (by simp only[Cy,D.pure,CY])
theorem JJ(r:Nat->Nat)(h:r 1=1)(u:Br):AT r (C7 u)=C7 u:=by
 simp only[C7,AT,BX,h,BN r _ (CY _)]
theorem LK(n:Nat)(u:Br):ltD n (C7 u)=true:=by
 simp only[C7,ltD,ltL,okN,Ck n _ (CY _)];rfl
theorem Tm(r:Nat->Nat)(h:r 1=1)(l:List Br):D9 r (l.map fun u=>[C7 u])=l.map fun u=>[C7 u]:=by
 rw[DU,A13]
 refine A14 fun u _=>?_
 simp only[Function.comp,BX,JJ r h]
theorem Nq(n:Nat):∀ l:List Br,Eg n (l.map fun u=>[C7 u])=true
 |[]=>rfl
 |u::l=>by simp only[A0j,Eg,ltL,LK,Nq n l,A0E]
theorem RQ(hp:Nat->Option Blk)(n:Nat)(u:Br):frz hp n (C7 u)=C7 u:=by
 match n with
 |0=>rfl
 |1=>rfl
 |n+2=>rfl
theorem WP(hp:Nat->Option Blk)(n:Nat)(l:List Br):(l.map fun u=>[C7 u]).map (fun r=>r.map (frz hp n))=l.map fun u=>[C7 u]:=by
 rw[A13]
 refine A14 fun u _=>?_
 simp only[Function.comp,A0j,A0G,RQ]
theorem ZS(hp:Nat->Option Blk)(n:Nat)(es:List CE):(es.map Cy).map (fun p=>(p.1,p.2.1,frz hp n p.2.2))=es.map Cy:=by
 rw[A13]
 refine A14 fun e _=>?_
 simp only[Function.comp,Cy]
 rw[DZ hp n _ (by simp only[D.pure,CY])]
attribute [push_cast] encC_mk RQ WP ZS
attribute [push_cast] CY VF HZ SV Rd UQ Tm Nq JJ LK
theorem c_Mark(o:OV):A2 prog 189 [.ref 1 0 0 3] (ovH o) (.val (.int .i64 ((o.und.getD []).length:Nat))) (ovH o):=by
 obtain⟨b,c,u⟩:=o
 rcases c with _|⟨es,ck⟩<;>rcases u with _|u<;>simp only[PA,JN,Lw,DG,Option.getD_none,A0L,A0v]
 all_goals
  refine Zb [] func189 rfl ntmps189 results189 fun H Hb=>?_
  ((try push_cast)<;>repeat' (first|apply Zi<;>intro _|exact Zp|with_reducible apply Za)<;>try push_cast)
  all_goals first|(apply Zw<;>push_cast)|(have hb4:=Hb 4 _ rfl;push_cast at hb4;exact hb4.1)
theorem step_nn(b:GT)(k:ByteArray)(s:C1):OV.step ⟨b,none,none⟩ k s=⟨b,some ([(k,0,s)],1),some [⟨k,false,(false,zV)⟩]⟩:=rfl
theorem step_ns(b:GT)(k:ByteArray)(s:C1)(u:List Br):OV.step ⟨b,none,some u⟩ k s=⟨b,some ([(k,0,s)],1),some (u++[⟨k,false,(false,zV)⟩])⟩:=rfl
theorem QM{b:GT}{k:ByteArray}{s:C1}{es:List CE}{ck:Nat}(h:BE k es 0=none)(u:Option (List Br)):OV.step ⟨b,some (es,ck),u⟩ k s=⟨b,some (es++[(k,ck,s)],ck+1),some (u.getD []++[⟨k,false,(false,zV)⟩])⟩:=by simp[OV.step,HT,h]
theorem QL{b:GT}{k:ByteArray}{s old:C1}{es:List CE}{ck i:Nat}(h:BE k es 0=some (i,old))(u:Option (List Br)):OV.step ⟨b,some (es,ck),u⟩ k s=⟨b,some (es.modify i fun e=>(e.1,e.2.1,s),ck),some (u.getD []++[⟨k,true,old⟩])⟩:=by simp[OV.step,HT,h]
theorem Dd(k:ByteArray):lo (D.func (.func 279) [] [.ptr [.val (.bool false)] 0,.ptr [.val (.bool false),.val (.int .i64 0),.val (.bool false),.val (.int .i64 0),.val (.string ByteArray.empty),.slice [] true,.slice [] true] 0,.ptr [.ref 1 0 0 3] 0,.ptr [.val (.string k)] 0]) (C7 ⟨k,false,(false,zV)⟩)=True:=by
 simp[C7,CM,zV,A4,Hw,Hx,lo,loL,Cx]
theorem DY(k:ByteArray)(old:C1):lo (D.func (.func 279) [] [.ptr [.val (.bool true)] 0,.ptr (CM old) 0,.ptr [.ref 1 0 0 3] 0,.ptr [.val (.string k)] 0]) (C7 ⟨k,true,old⟩)=True:=eq_true (Am _)
theorem c_step(o:OV)(k:ByteArray)(s:C1)(hn:(o.und.getD []).length<1073741824):A2 prog 234 [.ref 1 0 0 3,.val (.string k),.agg (CM s)] (ovH o) (.tup []) (ovH (o.step k s)):=by
 obtain⟨b,c,u⟩:=o
 cases c with
 |none=>
  cases u with
  |none=>
   rw[PA,step_nn,DG]
   refine Zd [8,16,24,32,184,192] func234 rfl ntmps234 results234 ?_
   ((try push_cast)<;>repeat' (first|apply Zi<;>intro _|exact Zp|with_reducible apply Za)<;>try push_cast)
   all_goals first|(simp;done)|skip
   apply Zr [(2,80),(4,272)] rfl<;>push_cast [Dd]
  |some u=>
   simp only[A0L] at hn
   rw[Lw,step_ns,DG]
   refine Zd [8,16,24,32,184,192] func234 rfl ntmps234 results234 ?_
   ((try push_cast)<;>repeat' (first|apply Zi<;>intro _|exact Zp|with_reducible apply Za)<;>try push_cast)
   all_goals first|omega|(simp[Bc];done)|skip
   apply Zr [(2,80),(4,272)] rfl<;>push_cast [Dd,DY,A0F,A04,List.all_append]
 |some c=>
  obtain⟨es,ck⟩:=c
  cases hf:BE k es 0 with
  |none=>
   rw[QM hf]
   cases u with
   |none=>
    rw[JN,DG]
    refine Zd [8,16,24,144,152] func234 rfl ntmps234 results234 ?_
    (have z:=Za @AS<|Za hf @JM;(try push_cast[z])<;>repeat' (first|apply Zi<;>intro _|exact Zo|with_reducible apply Za)<;>try push_cast[z])
    all_goals first|(simp;done)|skip
    apply Zr [(4,232)] rfl<;>push_cast [Dd,DY,Option.getD_none]
   |some u=>
    simp only[A0L] at hn|-
    rw[DG,DG]
    refine Zd [8,16,24,144,152] func234 rfl ntmps234 results234 ?_
    (have z:=Za @AS<|Za hf @JM;(try push_cast[z])<;>repeat' (first|apply Zi<;>intro _|exact Zo|with_reducible apply Za)<;>try push_cast[z])
    all_goals first|omega|(simp[Bc];done)|skip
    apply Zr [(4,232)] rfl<;>push_cast [Dd,DY,A0F,A04,List.all_append]
  |some p=>
   obtain⟨i,old⟩:=p
   rw[QL hf]
   cases u with
   |none=>
    rw[JN,DG]
    refine Zd [8,16,24,144,152] func234 rfl ntmps234 results234 ?_
    (have z:=Za @AS<|Za hf @HI;(try push_cast[z])<;>repeat' (first|apply Zi<;>intro _|exact Zo|with_reducible apply Za)<;>try push_cast[z])
    all_goals first|(simp;done)|skip
    apply Zr [(4,232)] rfl<;>push_cast [Dd,DY,Option.getD_none]
   |some u=>
    simp only[A0L] at hn|-
    rw[DG,DG]
    refine Zd [8,16,24,144,152] func234 rfl ntmps234 results234 ?_
    (have z:=Za @AS<|Za hf @HI;(try push_cast[z])<;>repeat' (first|apply Zi<;>intro _|exact Zo|with_reducible apply Za)<;>try push_cast[z])
    all_goals first|omega|(simp[Bc];done)|skip
    apply Zr [(4,232)] rfl<;>push_cast [Dd,DY,A0F,A04,List.all_append]
theorem B4(k:ByteArray)(x:GE)(l:List GE):AA k (x::l)=if x.1=k then some x.2 else AA k l:=by
 unfold AA
 rw[List.find?_cons]
 by_cases h:x.1=k<;>simp [h]
theorem Cl{k:ByteArray}:∀ {l:List GE},(∀ y ∈ l,ltS k y.1=true)->AA k l=none
 |[],_=>rfl
 |x::l,h=>by
  rw[B4,if_neg (fun e=>F3 (h x (A0z ..)) e.symm)]
  exact Cl fun y hy=>h y (A0n _ hy)
theorem Er(e:GE)(k:ByteArray):∀ l:List GE,AA k (Bt e l)=if e.1=k then some e.2 else AA k l
 |[]=>by rw[Bt,B4]
 |x::l=>by
  rw[Bt]
  split
  ·rename_i h
   rw[B4,B4,Er e k l]
   by_cases h1:x.1=k
   ·rw[if_pos h1,if_neg (fun e2=>by rw[h1,e2,EC] at h;cases h),if_pos h1]
   ·rw[if_neg h1,if_neg h1]
  ·split
   ·rename_i h h2
    rw[B4,B4,h2]
    by_cases h1:e.1=k<;>simp [h1]
   ·rw[B4]
theorem Ep(a k:ByteArray):∀ l:List GE,AA k (Cf a l)=if a=k then none else AA k l
 |[]=>by by_cases h:a=k<;>simp [Cf,AA,h]
 |x::l=>by
  have ih:=Ep a k l
  unfold Cf at ih|-
  rw[List.filter_cons]
  by_cases h:x.1=a
  ·subst h
   simp only[ne_eq,not_true_eq_false,decide_false,A0A,if_false]
   rw[ih,B4]
   by_cases h1:x.1=k<;>simp [h1]
  ·simp only[ne_eq,h,not_false_eq_true,decide_true,if_true]
   rw[B4,B4,ih]
   by_cases h1:x.1=k
   ·rw[if_pos h1,if_pos h1,if_neg (fun e=>h (by rw[h1,e]))]
   ·rw[if_neg h1,if_neg h1]
theorem RE(k:ByteArray):∀ l:List GE,Fk k l=(AA k l).isSome
 |[]=>rfl
 |x::l=>by
  have ih:=RE k l
  unfold Fk at ih|-
  rw[B4,List.any_cons,ih]
  by_cases h:x.1=k<;>simp [h]
theorem KM:∀ {a b:List GE},Srt a->Srt b->(∀ k,AA k a=AA k b)->a=b
 |[],[],_,_,_=>rfl
 |[],y::b,_,_,h=>by have:=h y.1;rw[B4,if_pos rfl] at this;cases this
 |x::a,[],_,_,h=>by have:=h x.1;rw[B4,if_pos rfl] at this;cases this
 |x::a,y::b,ha,hb,h=>by
  have hx:=h x.1
  have hy:=h y.1
  rw[B4,if_pos rfl,B4] at hx
  rw[B4,B4,if_pos rfl] at hy
  have hxy:x.1=y.1:=by
   by_cases h1:y.1=x.1
   ·exact h1.symm
   ·rw[if_neg h1] at hx
    rw[if_neg (fun e=>h1 e.symm)] at hy
    have m1:ltS y.1 x.1=true:=by
     by_cases h2:ltS y.1 x.1=true
     ·exact h2
     ·have h3:=JU (by simpa using h2) h1
      rw[Cl fun z hz=>Dc h3 (hb.head z hz)] at hx
      cases hx
    rw[Cl fun z hz=>Dc m1 (ha.head z hz)] at hy
    cases hy
  have hv:x.2=y.2:=by rw[if_pos hxy.symm] at hx;simpa using hx
  have hxe:x=y:=Prod.ext hxy hv
  subst hxe
  refine congrArg _ (KM ha.tail hb.tail fun k=>?_)
  by_cases hk:x.1=k
  ·subst hk
   rw[Cl fun z hz=>ha.head z hz,Cl fun z hz=>hb.head z hz]
  ·have:=h k
   rwa[B4,B4,if_neg hk,if_neg hk] at this
def lk(es:List CE)(k:ByteArray):Option C1:=(es.find? fun e=>decide (e.1=k)).map (·.2.2)
theorem DR(k:ByteArray)(x:CE)(l:List CE):lk (x::l) k=if x.1=k then some x.2.2 else lk l k:=by
 unfold lk
 rw[List.find?_cons]
 by_cases h:x.1=k<;>simp [h]
theorem GB(k:ByteArray):∀ (es:List CE) (i:Nat),(BE k es i).map (·.2)=lk es k
 |[],_=>rfl
 |e::es,i=>by
  rw[BE,DR]
  by_cases h:k=e.1
  ·rw[if_pos h,if_pos h.symm];rfl
  ·rw[if_neg h,if_neg (fun e=>h e.symm),GB k es (i+1)]
theorem Sf(k:ByteArray):∀ (es:List CE) (i j:Nat) (s:C1),BE k es i=some (j,s)->∃ n,es[j-i]? =some (k,n,s)/\i<=j
 |[],_,_,_,h=>by cases h
 |e::es,i,j,s,h=>by
  rw[BE] at h
  split at h
  ·rename_i hk
   simp only[A03,A06] at h
   obtain⟨rfl,rfl⟩:=h
   exact⟨e.2.1,by rw[Nat.sub_self,hk];rfl,A08 _⟩
  ·obtain⟨n,h1,h2⟩:=Sf k es (i+1) j s h
   refine⟨n,?_,by omega⟩
   have:j-i=(j-(i+1))+1:=by omega
   rw[this,A0T];exact h1
structure Ek(es:List CE)(ck:Nat):Prop where
 keys:(es.map (·.1)).Nodup
 births:(es.map (·.2.1)).Nodup
 lt:∀ e ∈ es,e.2.1<ck
 sm:∀ e ∈ es,Sm e.2.2.2/\(e.2.2.1=false->e.2.2.2=zV)/\e.1.size<=64
theorem PM{es:List CE}{k:ByteArray}(h:k ∉ es.map (·.1)):lk es k=none:=by
 unfold lk
 rw[Option.map_eq_none_iff,List.find?_eq_none]
 intro e he
 have:e.1≠k:=fun h1=>h (A0i.2 ⟨e,he,h1⟩)
 simpa using this
theorem Zx{es:List CE}{k:ByteArray}{s:C1}(h:lk es k=some s):∃ n,(k,n,s) ∈ es:=by
 unfold lk at h
 rw[A1z] at h
 obtain⟨e,he,rfl⟩:=h
 have h1:=List.find?_some he
 have h2:=List.mem_of_find?_eq_some he
 simp only[decide_eq_true_eq] at h1
 exact⟨e.2.1,by rw[<-h1];exact h2⟩
theorem Nu:∀ {es:List CE} {k:ByteArray} {n:Nat} {s:C1},(es.map (·.1)).Nodup->(k,n,s) ∈ es->lk es k=some s
 |x::es,k,n,s,hn,h=>by
  rw[DR]
  rcases A0q.1 h with h|h
  ·subst h;rw[if_pos rfl]
  ·rw[A0j,A1G] at hn
   rw[if_neg (fun e=>hn.1 (A0i.2 ⟨_,h,e.symm⟩)),Nu hn.2 h]
theorem FP{es:List CE}{k:ByteArray}(h:BE k es 0=none):lk es k=none:=by rw[<-GB k es 0,h];rfl
theorem FO{es:List CE}{k:ByteArray}{i:Nat}{s:C1}(h:BE k es 0=some (i,s)):lk es k=some s/\∃ n,es[i]? =some (k,n,s):=by
 refine⟨by rw[<-GB k es 0,h];rfl,?_⟩
 obtain⟨n,h1,_⟩:=Sf k es 0 i s h
 exact⟨n,h1⟩
theorem Zz{es:List CE}{k:ByteArray}(h:lk es k=none):k ∉ es.map (·.1):=fun hm=>by
 obtain⟨e,he,h1⟩:=A0i.1 hm
 unfold lk at h
 rw[Option.map_eq_none_iff,List.find?_eq_none] at h
 exact h e he (by simpa using h1)
theorem Ww(a b:List CE)(k:ByteArray):lk (a++b) k=(lk a k).or (lk b k):=by
 unfold lk
 rw[List.find?_append]
 cases List.find? (fun e=>decide (e.1=k)) a<;>rfl
theorem Nv{k:ByteArray}{s s0:C1}:∀ {es:List CE} {i n:Nat},(es.map (·.1)).Nodup->es[i]? =some (k,n,s0)->∀ k',lk (es.modify i fun e=>(e.1,e.2.1,s)) k'=if k=k' then some s else lk es k'
 |x::es,0,n,hn,h,k'=>by
  simp only[A0S,A03] at h
  subst h
  rw[List.modify_zero_cons,DR,DR]
  by_cases h1:k=k'<;>simp [h1]
 |x::es,i+1,n,hn,h,k'=>by
  rw[A0T] at h
  rw[A0j,A1G] at hn
  rw[List.modify_succ_cons,DR,DR,Nv hn.2 h k']
  by_cases h1:x.1=k'
  ·rw[if_pos h1,if_pos h1,if_neg (fun e=>hn.1 (A0i.2 ⟨_,A1E h,by rw[h1];exact e⟩))]
  ·rw[if_neg h1,if_neg h1]
theorem RB{k:ByteArray}{s0:C1}:∀ {es:List CE} {i n:Nat},(es.map (·.1)).Nodup->es[i]? =some (k,n,s0)->∀ k',lk (es.eraseIdx i) k'=if k=k' then none else lk es k'
 |x::es,0,n,hn,h,k'=>by
  simp only[A0S,A03] at h
  subst h
  rw[List.eraseIdx_cons_zero,DR]
  rw[A0j,A1G] at hn
  by_cases h1:k=k'
  ·subst h1;rw[if_pos rfl,PM hn.1]
  ·simp[h1]
 |x::es,i+1,n,hn,h,k'=>by
  rw[A0T] at h
  rw[A0j,A1G] at hn
  rw[List.eraseIdx_cons_succ,DR,DR,RB hn.2 h k']
  by_cases h1:x.1=k'
  ·rw[if_pos h1,if_pos h1,if_neg (fun e=>hn.1 (A0i.2 ⟨_,A1E h,by rw[h1];exact e⟩))]
  ·rw[if_neg h1,if_neg h1]
theorem PN{es:List CE}{ck:Nat}(h:Ek es ck)(k:ByteArray)(s:C1)(k':ByteArray):lk (HT es ck k s).1 k'=if k=k' then some s else lk es k':=by
 unfold HT
 cases hf:BE k es 0 with
 |none=>
  rw[Ww]
  by_cases h1:k=k'
  ·subst h1;rw[FP hf,if_pos rfl];simp[lk]
  ·rw[if_neg h1];simp[lk,h1]
 |some p=>
  obtain⟨i,s0⟩:=p
  obtain⟨_,n,h1⟩:=FO hf
  exact Nv h.keys h1 k'
theorem lk_cdel{es:List CE}{ck:Nat}(h:Ek es ck)(k:ByteArray)(k':ByteArray):lk (U8 es k) k'=if k=k' then none else lk es k':=by
 unfold U8
 cases hf:BE k es 0 with
 |none=>
  by_cases h1:k=k'
  ·subst h1;rw[if_pos rfl];exact FP hf
  ·rw[if_neg h1]
 |some p=>
  obtain⟨i,s0⟩:=p
  obtain⟨_,n,h1⟩:=FO hf
  exact RB h.keys h1 k'
theorem Gs(es:List CE)(i:Nat)(s:C1):(es.modify i fun e=>(e.1,e.2.1,s)).map (·.1)=es.map (·.1)/\(es.modify i fun e=>(e.1,e.2.1,s)).map (·.2.1)=es.map (·.2.1):=by
 constructor<;>
 ·apply A1A
  intro j
  simp only[A0u,A1O]
  by_cases h:i=j
  ·subst h;cases es[i]? <;>simp
  ·simp[h]
theorem LF{es:List CE}{i:Nat}{s:C1}{e:CE}(h:e ∈ es.modify i fun e=>(e.1,e.2.1,s)):∃ x ∈ es,e.1=x.1/\e.2.1=x.2.1/\(e=x∨e.2.2=s):=by
 obtain⟨j,hj,rfl⟩:=A1n.1 h
 rw[List.length_modify] at hj
 refine⟨es[j],A0W hj,?_⟩
 rw[List.getElem_modify]
 split<;>simp
theorem Ek.set{es:List CE}{ck:Nat}(h:Ek es ck){k:ByteArray}{s:C1}(hs:Sm s.2/\(s.1=false->s.2=zV)/\k.size<=64):Ek (HT es ck k s).1 (HT es ck k s).2:=by
 unfold HT
 cases hf:BE k es 0 with
 |none=>
  have hk:=Zz (FP hf)
  refine⟨?_,?_,fun e he=>?_,fun e he=>?_⟩
  ·simp only[A0F,A0j,A0G]
   rw[List.nodup_append]
   refine⟨h.keys,by simp,fun a ha b hb e=>?_⟩
   rw[A0a] at hb
   subst hb;subst e;exact hk ha
  ·simp only[A0F,A0j,A0G]
   rw[List.nodup_append]
   refine⟨h.births,by simp,fun a ha b hb e=>?_⟩
   rw[A0a] at hb
   subst hb;subst e
   obtain⟨x,hx,h1⟩:=A0i.1 ha
   have:=h.lt x hx
   omega
  ·rcases A1o.1 he with he|he
   ·exact Nat.lt_succ_of_lt (h.lt e he)
   ·rw[A0a.1 he];exact Nat.lt_succ_self _
  ·rcases A1o.1 he with he|he
   ·exact h.sm e he
   ·rw[A0a.1 he];exact hs
 |some p=>
  obtain⟨i,s0⟩:=p
  obtain⟨_,n,h1⟩:=FO hf
  have hk:k.size<=64:=hs.2.2
  refine⟨by rw[(Gs es i s).1];exact h.keys,by rw[(Gs es i s).2];exact h.births,fun e he=>?_,fun e he=>?_⟩
  ·obtain⟨x,hx,_,h3,_⟩:=LF he
   rw[h3];exact h.lt x hx
  ·obtain⟨x,hx,h2,_,h4⟩:=LF he
   rcases h4 with rfl|h4
   ·exact h.sm _ hx
   ·rw[h4,h2];exact⟨hs.1,hs.2.1,(h.sm x hx).2.2⟩
theorem Ek.del{es:List CE}{ck:Nat}(h:Ek es ck)(k:ByteArray):Ek (U8 es k) ck:=by
 unfold U8
 cases hf:BE k es 0 with
 |none=>exact h
 |some p=>
  obtain⟨i,s0⟩:=p
  have hsub:(es.eraseIdx i).Sublist es:=List.eraseIdx_sublist ..
  exact⟨List.Sublist.nodup (hsub.map _) h.keys,List.Sublist.nodup (hsub.map _) h.births,fun e he=>h.lt e (hsub.subset he),fun e he=>h.sm e (hsub.subset he)⟩
def FV(es:List CE)(l:List GE):List GE:=es.foldl (fun a e=>if e.2.2.1 then Bt (e.1,e.2.2.2) a else Cf e.1 a) l
theorem El:∀ (es:List CE) {l:List GE},Srt l->Srt (FV es l)
 |[],_,h=>h
 |e::es,l,h=>El es (l:=if e.2.2.1 then Bt (e.1,e.2.2.2) l else Cf e.1 l) (by split;exact DX h;exact Gl h)
def Lx(s:C1):Option GV:=if s.1 then some s.2 else none
theorem CF(k:ByteArray):∀ (es:List CE) (l:List GE),(es.map (·.1)).Nodup->AA k (FV es l)=match lk es k with|some s=>Lx s|none=>AA k l
 |[],l,_=>rfl
 |e::es,l,h=>by
  rw[A0j,A1G] at h
  show AA k (FV es (if e.2.2.1 then Bt (e.1,e.2.2.2) l else Cf e.1 l))=_
  rw[CF k es _ h.2,DR]
  by_cases h1:e.1=k
  ·subst h1
   rw[PM h.1,if_pos rfl]
   simp only[Lx]
   cases e.2.2.1
   ·simp only[A0A,if_false];rw[Ep,if_pos rfl]
   ·simp only[if_true];rw[Er,if_pos rfl]
  ·rw[if_neg h1]
   cases lk es k with
   |some s=>rfl
   |none=>
    simp only
    cases e.2.2.1
    ·simp only[A0A,if_false];rw[Ep,if_neg h1]
    ·simp only[if_true];rw[Er,if_neg h1]
theorem Kg{a b:List CE}{l:List GE}(hl:Srt l)(ha:(a.map (·.1)).Nodup)(hb:(b.map (·.1)).Nodup)(h:∀ k,lk a k=lk b k):FV a l=FV b l:=
 KM (El a hl) (El b hl) fun k=>by rw[CF k a l ha,CF k b l hb,h k]
theorem Vt{es:List CE}{ck:Nat}(h:Ek es ck){l:List GE}(hl:Srt l){k:ByteArray}{s:C1}(hs:Sm s.2/\(s.1=false->s.2=zV)/\k.size<=64):FV (HT es ck k s).1 l=if s.1 then Bt (k,s.2) (FV es l) else Cf k (FV es l):=by
 have hv:=El es hl
 refine KM (El _ hl) (by split;exact DX hv;exact Gl hv) fun k'=>?_
 rw[CF k' _ l (h.set hs).keys,PN h]
 by_cases h1:k=k'
 ·subst h1
  rw[if_pos rfl]
  simp only[Lx]
  cases s.1
  ·simp only[A0A,if_false];rw[Ep,if_pos rfl]
  ·simp only[if_true];rw[Er,if_pos rfl]
 ·rw[if_neg h1]
  rw[<-CF k' es l h.keys]
  cases s.1
  ·simp only[A0A,if_false];rw[Ep,if_neg h1]
  ·simp only[if_true];rw[Er,if_neg h1]
end Go.Ab
namespace Go.Ab
open Go.RowKit
def AU(ks:List ByteArray):List ByteArray:=((ks.map (·.data.toList)).mergeSort (fun x y=>decide (x<=y))).map fun l=>⟨l.toArray⟩
theorem Tz{a b:List (List UInt8)}(h:a.Perm b):a.mergeSort (fun x y=>decide (x<=y))=b.mergeSort (fun x y=>decide (x<=y)):=by
 have tr:∀ x y z:List UInt8,decide (x<=y)=true->decide (y<=z)=true->decide (x<=z)=true:=fun x y z h1 h2=>decide_eq_true (List.le_trans (of_decide_eq_true h1) (of_decide_eq_true h2))
 have tl:∀ x y:List UInt8,(decide (x<=y) ||decide (y<=x))=true:=fun x y=>by
  rcases List.le_total x y with h|h<;>simp [h]
 refine List.Perm.eq_of_pairwise (le:=fun x y:List UInt8=>decide (x<=y)) (fun x y _ _ h1 h2=>List.le_antisymm (of_decide_eq_true h1) (of_decide_eq_true h2)) (List.pairwise_mergeSort tr tl a) (List.pairwise_mergeSort tr tl b) ((List.mergeSort_perm a _).trans (h.trans (List.mergeSort_perm b _).symm))
def MF(P:Program)(f g:FuncId)(K:TypeId):Prop:=∀ (Bm b nn:Nat) (D0:DataW Unit) (R:Value->Option (DataW Unit×List MemPlace)) (w:World),Bm<w.heap.size->w.cell? ⟨Bm,0,none⟩=some (.map (some b))->w.ownsMap P K R b nn D0->Maps.size D0<=maxLen->Maps.size D0*16<=140737488355328->
 Calls P f #[.func (.func g) #[] #[.pointer (some ⟨Bm,0,none⟩)]] w fun e w'=>∃ (v:Value) (ss:List (List UInt8)),e=.returned v/\ss.Perm (strKeys D0)/\w'.ownsRow w.heap.size K 1 v ss.length ((ss.mergeSort (fun x y=>decide (x<=y))).map Proofs.encStr)/\(v=.slice none 0 0↔ss=[])/\Below w.heap.size w w'
theorem A2.of_sorted{P:Program}{f g:FuncId}{K:TypeId}(he:Bf P f=true)(hu:P.underlying K=some .string)(hc:MF P f g K)(es:List (Value×Nat×D))(ck:Nat)(ks:List ByteArray)(hks:es.map (·.1)=ks.map Value.string)
  (hb:∀ y ∈ es,y.2.1<ck) (hbn:(es.map (·.2.1)).Nodup) (hkn:ks.Nodup) (hsz:∀ k ∈ ks,k.size<=9223372036854775807) (hlen:ks.length<=1048576):
  A2 P f [.func (.func g) [] [.ref 3 0 0 1]] [(1,.map es ck),(3,.rows [[.mref 1]] 1)] (.slice ((AU ks).map fun k=>[.val (.string k)]) false) [(1,.map es ck),(3,.rows [[.mref 1]] 1)]:=by
 unfold A2
 refine⟨he,fun w M0 G I mu vs hga hdl hw hr=>?_⟩
 obtain⟨km,l,m1,m2,m3,m4,m5⟩:=hw.blk 1 _ rfl
 obtain⟨kb,T,us,b1,b2,b3,b4,b5⟩:=hw.blk 3 (.rows [[.mref 1]] 1) rfl
 have hlkb:=(hw.loc 3 _ _ kb rfl b1 rfl).2.2
 obtain⟨u,rfl⟩:∃ u,us=[u]:=by
  match us,b3 with
  |[u],_=>exact ⟨u,rfl⟩
 have hu0:=b5 0 0 (by simp) (by simp)
 simp only[nr,nd,nv,A0H,Nat.zero_mul,A1a] at hu0
 cases hu0 with
 |mref _ k' hk'=>
 rw[m1] at hk'
 simp only[A03,A1N] at hk'
 subst hk'
 obtain⟨g1,g2⟩:=hr
 obtain⟨v0,rfl⟩:∃ v,vs=[v]:=by
  match vs,g1 with
  |[v],_=>exact ⟨v,rfl⟩
 have hv0:=g2 0 (by simp)
 simp only[nd,nv,A0H] at hv0
 cases hv0 with
 |func _ _ _ us vs hl1 hl2 h h'=>
 obtain rfl:us=[]:=A0U.1 hl1
 obtain⟨v1,rfl⟩:∃ v,vs=[v]:=by
  match vs,hl2 with
  |[v],_=>exact ⟨v,rfl⟩
 have hv1:=h' 0 (by simp)
 simp only[nd,nv,A0H] at hv1
 cases hv1 with
 |ref _ _ _ _ k' hk'=>
 rw[b1] at hk'
 simp only[A03,A0K,A15,and_true] at hk'
 subst hk'
 simp only[Nat.zero_mul,A1a,A19]
 let R:Value->Option (DataW Unit×List MemPlace):=fun _=>some (.nil,[])
 have hkey:∀ x ∈ l,∃ k ∈ ks,x.key=.string k:=fun x hx=>by
  have:x.key ∈ es.map (·.1):=by rw[<-m3];exact A0i.2 ⟨x,hx,rfl⟩
  rw[hks] at this
  obtain⟨k,hk,h⟩:=A0i.1 this
  exact⟨k,hk,h.symm⟩
 have hrd:∀ x ∈ l,∀ k,k ∈ ks->x.key=.string k->WideElems.rd P K R x=some (.string k.data.toList,.nil):=fun x hx k hk h=>by
  have hm:k.size<=maxLen:=hsz k hk
  simp only[WideElems.rd,keyOf,hu,mapKey,h,if_pos hm,A1x,R,A1c]
 have hfit:WideElems.Fit P K R l.toArray ck:=by
  refine⟨?_,⟨?_,?_,?_⟩,?_⟩
  ·have:=congrArg List.length m3
   have h2:=congrArg List.length hks
   simp only[A07] at this h2
   simp only[A0y,maxLen];omega
  ·intro x hx
   have:x.born ∈ es.map (·.2.1):=by rw[<-m4];exact A0i.2 ⟨x,hx,rfl⟩
   obtain⟨y,hy,h⟩:=A0i.1 this
   rw[<-h];exact hb y hy
  ·show(l.map (·.born)).Nodup
   rw[m4];exact hbn
  ·show(l.map (·.key)).Nodup
   rw[m3,hks]
   exact List.Pairwise.map Value.string (fun a b h=>by simpa using h) hkn
  ·intro x hx
   obtain⟨k,hk,h⟩:=hkey x hx
   exact⟨_,hrd x hx k hk h⟩
 have hlk:l.length=ks.length:=by
  have:=congrArg List.length m3
  have h2:=congrArg List.length hks
  simp only[A07] at this h2
  omega
 have hown:w.ownsMap P K R km l.length (.map ((l.map (WideElems.rg P K R)).foldr DataW.insert [])):=⟨l.toArray,ck,m2,hfit,by simp,rfl⟩
 have hmap:l.map (fun x=>strOf (WideElems.rg P K R x).1)=ks.map (·.data.toList):=by
  have:∀ (l:List MapEntry) (ks:List ByteArray),(∀ x ∈ l,∀ k,k ∈ ks->x.key=.string k->WideElems.rd P K R x=some (.string k.data.toList,.nil))->l.map (·.key)=ks.map Value.string->l.map (fun x=>strOf (WideElems.rg P K R x).1)=ks.map (·.data.toList):=by
   intro l
   induction l with
   |nil=>intro ks _ h;cases ks with
    |nil=>rfl
    |cons k ks=>simp at h
   |cons x l ih=>
    intro ks hr h
    cases ks with
    |nil=>simp at h
    |cons k ks=>
     simp only[A0j,List.cons.injEq] at h|-
     refine⟨?_,ih ks (fun y hy k' hk'=>hr y (A0n _ hy) k' (A0n _ hk')) h.2⟩
     simp only[WideElems.rg,hr x (A0z ..) k (A0z ..) h.1,A0L,strOf]
  exact this l ks hrd (by rw[m3,hks])
 have hperm:(strKeys (DataW.map ((l.map (WideElems.rg P K R)).foldr DataW.insert []))).Perm (ks.map (·.data.toList)):=by
  rw[<-hmap]
  have h1:=WideShapes.sorted_perm (l.map (WideElems.rg P K R))
  have h2:=h1.map (fun p=>strOf p.1)
  rw[A13] at h2
  exact h2
 have hsize:Maps.size (DataW.map ((l.map (WideElems.rg P K R)).foldr DataW.insert []))=ks.length:=by
  rw[Maps.size_eq,(WideShapes.sorted_perm _).length_eq,A07,hlk]
 have hcell:w.cell? ⟨kb,0,none⟩=some (.map (some km)):=by
  simp[World.cell?,b2]
 refine(hc kb km l.length _ R w hlkb hcell hown (by rw[hsize];simp only[maxLen];omega) (by rw[hsize];omega)).mono fun e w' ⟨v,ss,hev,hss,⟨ho1,ho⟩,hnil,hbel⟩=>?_
 have hmerge:ss.mergeSort (fun x y=>decide (x<=y))=(ks.map (·.data.toList)).mergeSort (fun x y=>decide (x<=y)):=Tz (hss.trans hperm)
 have hsl:ss.length=ks.length:=by rw[(hss.trans hperm).length_eq,A07]
 have hSl:(AU ks).length=ks.length:=by simp[AU]
 have hcells:∀ i,i<(AU ks).length->((ss.mergeSort (fun x y=>decide (x<=y))).map Proofs.encStr)[i]? =some (.string ((AU ks).getD i default)):=fun i hi=>by
  rw[hmerge]
  simp only[AU,A0u,A02]
  have hi':i<((ks.map (·.data.toList)).mergeSort (fun x y=>decide (x<=y))).length:=by simpa[AU] using hi
  rw[A0b hi']
  rfl
 have hstr:∀ i,i<(AU ks).length->okP (.string ((AU ks).getD i default)):=fun i hi=>by
  have hm:(AU ks).getD i default ∈ AU ks:=by
   rw[A02,A0b hi];exact A0W hi
  obtain⟨a,ha,hae⟩:=A0i.1 hm
  have ha':=(List.mergeSort_perm _ _).mem_iff.1 ha
  obtain⟨k,hk,rfl⟩:=A0i.1 ha'
  have:(⟨(k.data.toList).toArray⟩:ByteArray)=k:=by simp
  rw[<-hae,this]
  exact hsz k hk
 have key:∀ I':Nat->Prop,(∀ k,I k->I' k)->(∀ k,I' k->I k∨w.heap.size<=k)->(∀ k,I' k->k<w'.heap.size)->Rep w' I' mu (.slice ((AU ks).map fun k=>[.val (.string k)]) false) v->∃ v I' mu',e=.returned v/\Rep w' I' mu' (.slice ((AU ks).map fun k=>[.val (.string k)]) false) v/\Ao w M0 G (frN 4) I' mu' (Ac [(1,.map es ck),(3,.rows [[.mref 1]] 1)]) w':=
  fun I' a1 a2 a3 hv=>⟨v,I',mu,hev,hv,hw.below a1 a2 a3 hbel⟩
 rcases ho with⟨rfl,h0⟩|⟨gb,cap,cur,rfl,h1,h2,h3,h4,h5,h6⟩
 ·have hz:AU ks=[]:=A0x (by omega)
  refine key I (fun _ h=>h) (fun _ h=>.inl h) (fun k hk=>A0P (hw.lt k hk) hbel.size) ?_
  rw[hz]
  exact .slice [] false none 0 0 1 0 (fun _ _=>undef) (fun h=>absurd h (by simp)) (A08 _) (fun h=>by cases h) (by decide) (fun i hi=>absurd hi (by simp)) (fun i j hi=>absurd hi (by simp)) (fun i j hi=>absurd hi (by simp))
 ·refine key (fun k=>I k∨k=gb) (fun _ h=>.inl h) (fun k h=>h.elim .inl fun h=>.inr (by omega)) (fun k h=>?_) ?_
  ·rcases h with h|rfl
   ·exact A0P (hw.lt k h) hbel.size
   ·exact(A0l.1 h2).1
  ·have hl2:ss.length=((AU ks).map fun k=>[D.val (.string k)]).length:=by rw[A07,hSl,hsl]
   rw[hl2]
   have hL:((AU ks).map fun k=>[D.val (.string k)]).length=(AU ks).length:=A07 ..
   have hnr:∀ i,i<(AU ks).length->nr ((AU ks).map fun k=>[D.val (.string k)]) i=[.val (.string ((AU ks).getD i default))]:=fun i hi=>by
    simp only[nr,A02,A0u,A0b hi,A1c,A0L]
   have:=Rep.slice (w:=w') (I:=fun k=>I k∨k=gb) (mu:=mu) ((AU ks).map fun k=>[D.val (.string k)]) false (some ⟨gb,0,none⟩) gb 0 1 cap (fun i j=>.string ((AU ks).getD i default)) (fun _=>⟨rfl,fun _=>.inr rfl⟩) (by rw[<-hl2];exact h3) (fun h=>by cases h) h4
    (fun i hi=>by rw[hL] at hi;rw[hnr i hi];rfl)
    (fun i j hi hj=>by
     rw[hL] at hi
     obtain rfl:j=0:=by omega
     have h7:=hcells i hi
     rw[<-h6,List.getElem?_take] at h7
     have hlt:i<ss.length*1:=by omega
     rw[if_pos hlt] at h7
     simp only[World.cell?,h2,A1a,Nat.mul_one,A19]
     rw[<-Array.getElem?_toList]
     simpa using h7)
    (fun i j hi hj=>by
     rw[hL] at hi
     obtain rfl:j=0:=by omega
     rw[hnr i hi]
     exact .val _ (hstr i hi))
   exact this
theorem A0.of_calls{P:Program}{f:FuncId}{ds:List D}{r:D}(he:Bf P f=true)(hr:r.pure=true)
  (h:∀ (w:World) (I:Nat->Prop) (vs:List Value),GIn P w I->(∀ k,I k->k<w.heap.size)->B8 w I (fun _=>none) ds vs->∃ v,(∀ w':World,Rep w' (fun _=>False) (fun _=>none) r v)/\Calls P f vs.toArray w fun e w'=>e=.returned v/\Below w.heap.size w w'):A0 P f ds r:=by
 unfold A0
 refine⟨he,fun w I vs hg hI hl hv=>?_⟩
 obtain⟨v,hrv,hc⟩:=h w I vs hg hI ⟨hl,hv⟩
 refine hc.mono fun e w' ⟨he,hb⟩=>⟨v,I,he,?_,fun _ h=>h,fun _ h=>.inl h,fun k hk=>A0P (hI k hk) hb.size,hb⟩
 exact(hrv w').mono (fun _ h=>h.elim) (fun _ h=>h.elim) (fun _ _ h=>h)
theorem B8.vals{w:World}{I:Nat->Prop}{mu:Nat->Option Value}:∀ {us vs:List Value},B8 w I mu (us.map .val) vs->vs=us
 |[],vs,h=>A0U.1 h.1
 |u::us,[],h=>by have:=h.1;simp at this
 |u::us,v::vs,h=>by
  have h0:=h.2 0 (by simp)
  simp only[nd,nv,A0j,A0H] at h0
  cases h0 with
  |val _ _=>
   rw[B8.vals (us:=us) (vs:=vs) ⟨by have:=h.1;simpa using this,fun i hi=>by
    have:=h.2 (i+1) (by simpa using hi)
    simpa[nd,nv] using this⟩]
theorem B8.oks{w:World}{I:Nat->Prop}{mu:Nat->Option Value}{us vs:List Value}(h:B8 w I mu (us.map .val) vs):∀ u ∈ us,okP u:=by
 intro u hu
 obtain⟨i,hi,rfl⟩:=A1n.1 hu
 have:=h.2 i (by simpa using hi)
 simp only[nd,A02,A0u,A0b hi,A1c,A0L] at this
 generalize us[i]=u at this
 generalize nv vs i=x at this
 cases this with
 |val _ ok=>exact ok
theorem GK{w:World}{v:Value}(h:okP v):Rep w (fun _=>False) (fun _=>none) (.val v) v:=.val v h
theorem Rc{w:World}{u v:Value}(h:okP u)(h':okP v):Rep w (fun _=>False) (fun _=>none) (.tup [.val u,.val v]) (.tuple #[u,v]):=
 .tup [.val u,.val v] [u,v] rfl fun i hi=>by
  match i,hi with
  |0,_=>exact Rep.val (w:=w) u h
  |1,_=>exact Rep.val (w:=w) v h'
theorem A0.of_vals{P:Program}{f:FuncId}{us:List Value}{r:D}(he:Bf P f=true)(hr:r.pure=true)
  (h:∀ (w:World) (I:Nat->Prop),GIn P w I->(∀ u ∈ us,okP u)->∃ v,(∀ w':World,Rep w' (fun _=>False) (fun _=>none) r v)/\Calls P f us.toArray w fun e w'=>e=.returned v/\Below w.heap.size w w'):A0 P f (us.map .val) r:=
 A0.of_calls he hr fun w I vs hg hI hv=>by
  obtain⟨v,h1,h2⟩:=h w I hg hv.oks
  rw[hv.vals]
  exact⟨v,h1,h2⟩
theorem A2.args{P:Program}{f:FuncId}{ds ds':List D}{H H':Hp}{r:D}(h:A2 P f ds H r H')(hl:loL ds' ds):A2 P f ds' H r H':=by
 unfold A2 at h|-
 exact⟨h.1,fun w M0 G I mu vs hga hdl hw hr=>h.2 w M0 G I mu vs hga hdl hw (by
  obtain⟨h1,h2⟩:=BJ hl
  exact⟨hr.1.trans h1,fun i hi=>(hr.2 i (by omega)).lo (h2 i (by omega))⟩)⟩
def KG(P:Program)(f g:FuncId):Prop:=∀ (Bm:Nat) (w:World),Bm<w.heap.size->w.cell? ⟨Bm,0,none⟩=some (.map none)->
 Calls P f #[.func (.func g) #[] #[.pointer (some ⟨Bm,0,none⟩)]] w fun e w'=>e=.returned (.slice none 0 0)/\Below w.heap.size w w'
theorem A2.of_sortedN{P:Program}{f g:FuncId}(he:Bf P f=true)(hc:KG P f g):
  A2 P f [.func (.func g) [] [.ref 3 0 0 1]] [(3,.rows [[.val (.map none)]] 1)] (.slice [] true) [(3,.rows [[.val (.map none)]] 1)]:=by
 unfold A2
 refine⟨he,fun w M0 G I mu vs hga hdl hw hr=>?_⟩
 obtain⟨kb,T,us,b1,b2,b3,b4,b5⟩:=hw.blk 3 (.rows [[.val (.map none)]] 1) rfl
 have hlkb:=(hw.loc 3 _ _ kb rfl b1 rfl).2.2
 obtain⟨u,rfl⟩:∃ u,us=[u]:=by
  match us,b3 with
  |[u],_=>exact ⟨u,rfl⟩
 have hu0:=b5 0 0 (by simp) (by simp)
 simp only[nr,nd,nv,A0H,Nat.zero_mul,A1a] at hu0
 cases hu0 with
 |val _ _=>
 obtain⟨g1,g2⟩:=hr
 obtain⟨v0,rfl⟩:∃ v,vs=[v]:=by
  match vs,g1 with
  |[v],_=>exact ⟨v,rfl⟩
 have hv0:=g2 0 (by simp)
 simp only[nd,nv,A0H] at hv0
 cases hv0 with
 |func _ _ _ us vs hl1 hl2 h h'=>
 obtain rfl:us=[]:=A0U.1 hl1
 obtain⟨v1,rfl⟩:∃ v,vs=[v]:=by
  match vs,hl2 with
  |[v],_=>exact ⟨v,rfl⟩
 have hv1:=h' 0 (by simp)
 simp only[nd,nv,A0H] at hv1
 cases hv1 with
 |ref _ _ _ _ k' hk'=>
 rw[b1] at hk'
 simp only[A03,A0K,A15,and_true] at hk'
 subst hk'
 simp only[Nat.zero_mul,A1a,A19]
 have hcell:w.cell? ⟨kb,0,none⟩=some (.map none):=by simp[World.cell?,b2]
 refine(hc kb w hlkb hcell).mono fun e w' ⟨hev,hbel⟩=>⟨_,I,mu,hev,?_,hw.below (fun _ h=>h) (fun _ h=>.inl h) (fun k hk=>A0P (hw.lt k hk) hbel.size) hbel⟩
 exact .slice [] true none 0 0 1 0 (fun _ _=>undef) (fun h=>absurd h (by simp)) (A08 _) (fun _=>rfl) (by decide) (fun i hi=>absurd hi (by simp)) (fun i j hi=>absurd hi (by simp)) (fun i j hi=>absurd hi (by simp))
end Go.Ab
namespace Go.Ab
open Go.Proofs Go.Proofs.Tryz
def OV.es(o:OV):List CE:=(o.chg.getD ([],0)).1
def OV.ck(o:OV):Nat:=(o.chg.getD ([],0)).2
def OV.view(o:OV)(l:List GE):List GE:=FV o.es l
structure OvOk(o:OV)(l:List GE):Prop where
 tr:FU o.below l
 ch:Ek o.es o.ck
theorem c_OGetT(o:OV)(l:List GE)(h:OvOk o l)(hb:l.length<=1099511627776)(k:ByteArray):
  A2 prog 235 [.ref 1 0 0 3,.val (.string k)] (ovH o) (.tup [.agg (CN (Cc (AA k (o.view l)))),.val (.bool (AA k (o.view l)).isSome)]) (ovH o):=by
 have hT:=MW h.tr hb k
 have hv:=CF k o.es l h.ch.keys
 simp only[AL] at hT
 have hch:=h.ch
 unfold OV.view
 obtain⟨b,c,u⟩:=o
 have oB:=A5 b
 cases c with
 |none=>
  simp only[OV.es,Option.getD_none] at hv|-
  rw[hv]
  simp only[lk,List.find?_nil,Option.map_none]
  generalize Cc (AA k l)=v at*
  generalize(AA k l).isSome=x at*
  rcases u with _|u<;>simp only[PA,Lw]
  all_goals
   refine Zd [] func235 rfl ntmps235 results235 ?_
   (have z:=oB;(try push_cast[z])<;>repeat' (first|apply Zi<;>intro _|refine Zc hT ?_|exact Zo|with_reducible apply Za)<;>try push_cast[z])
   all_goals first|exact AI _|exact Am _|skip
   all_goals(apply Zw<;>push_cast)
 |some c=>
  obtain⟨es,ck⟩:=c
  simp only[OV.es,OV.ck,A0L] at hv hch|-
  cases hf:BE k es 0 with
  |none=>
   rw[FP hf] at hv
   rw[hv]
   simp only
   generalize Cc (AA k l)=v at*
   generalize(AA k l).isSome=x at*
   rcases u with _|u<;>simp only[JN,DG]
   all_goals
    refine Zd [] func235 rfl ntmps235 results235 ?_
    (have z:=Za oB<|Za @AS hf;(try push_cast[z])<;>repeat' (first|apply Zi<;>intro _|refine Zc hT ?_|exact Zo|with_reducible apply Za)<;>try push_cast[z])
    all_goals first|exact AI _|exact Am _|skip
    all_goals(apply Zw<;>push_cast)
  |some p=>
   obtain⟨i,s⟩:=p
   obtain⟨h1,n,h2⟩:=FO hf
   have hsm:=hch.sm _ (A1E h2)
   rw[h1] at hv
   rw[hv]
   have hC:=KX s.2 hsm.1
   have ho:Cc (Lx s)=s.2:=by
    unfold Lx
    cases hs:s.1 with
    |true=>rfl
    |false=>exact (hsm.2.1 hs).symm
   have ho2:(Lx s).isSome=s.1:=by unfold Lx;cases s.1<;>rfl
   simp only[ho,ho2]
   obtain⟨sb,sv⟩:=s
   simp only at hC
   rcases u with _|u<;>simp only[JN,DG]
   all_goals
    refine Zd [] func235 rfl ntmps235 results235 ?_
    (have z:=Za oB<|Za @AS<|Za hf @Ci;(try push_cast[z])<;>repeat' (first|apply Zi<;>intro _|refine Zc hC ?_|exact Zo|with_reducible apply Za)<;>try push_cast[z])
    all_goals first|exact AI _|exact Am _|skip
    all_goals(apply Zw<;>push_cast)
theorem c_OGet(o:OV)(l:List GE)(h:OvOk o l)(hb:l.length<=1099511627776)(k:ByteArray):
  A2 prog 235 [.ref 1 0 0 3,.val (.string k)] (ovH o) (.tup [.agg (A4 (Cc (AA k (o.view l)))),.val (.bool (AA k (o.view l)).isSome)]) (ovH o):=(c_OGetT o l h hb k).res (lo_T _ _)
def OV.us(o:OV):List Br:=o.und.getD []
theorem Sm_zV:Sm zV:=.mk _ _ _ _ [] [] (by simp) (by simp) (by simp) (by simp) (by decide) (by decide) (by simp)
end Go.Ab
namespace Go.Proofs
open Go.Maps Go.Proofs Go.Proofs.Tryz Go.RowKit Go.Shelf Go.Sort
def Tryz.keysA_ren:Go.Shelf.Ren:=⟨fun|7=>126|10=>201|n=>n,fun|23=>228|26=>9|3=>237|28=>234|0=>0|27=>233|33=>208|4=>4|n=>n,fun|n=>n⟩
theorem Tryz.keysA:Go.Proofs.SlLaysZ.n7 prog Tryz.keysA_ren:= {
 mixed:=by kernel_rfl
 f7:=⟨f126.name,by decide,func126.trans (congrArg some (by kernel_rfl))⟩
 f10:=⟨f201.name,by decide,func201.trans (congrArg some (by kernel_rfl))⟩
 t0:=underlying0
 a0:=isAgg0
 z0:=sizeOf0
 v0:=zeroValue0
 t4:=underlying4
 a4:=isAgg4
 z4:=sizeOf4
 v4:=zeroValue4
 t23:=underlying228
 a23:=isAgg228
 z23:=sizeOf228
 v23:=zeroValue228
 t26:=underlying9
 a26:=isAgg9
 z26:=sizeOf9
 v26:=zeroValue9
 t27:=underlying233
 a27:=isAgg233
 z27:=sizeOf233
 v27:=zeroValue233
 t28:=underlying234
 a28:=isAgg234
 z28:=sizeOf234
 v28:=zeroValue234
 t33:=underlying208
 a33:=isAgg208
 z33:=sizeOf208
 v33:=zeroValue208}
def Tryz.sortedA_ren:Go.Shelf.Ren:=⟨fun|6=>125|8=>199|9=>200|11=>239|13=>105|12=>240|23=>158|24=>159|14=>283|15=>284|16=>285|17=>286|18=>287|19=>288|20=>289|21=>290|22=>291|25=>320|26=>321|27=>322|28=>323|29=>324|30=>325|31=>352|n=>n,fun|26=>9|28=>234|24=>209|0=>0|3=>3|37=>203|48=>151|50=>33|4=>4|40=>383|39=>382|45=>258|5=>5|9=>9|51=>414|55=>316|57=>439|58=>367|33=>208|n=>n,fun|n=>n⟩
theorem Tryz.sortedA:Go.Proofs.SlLaysZ.n6 prog Tryz.sortedA_ren:= {
 mixed:=by kernel_rfl
 f6:=⟨f125.name,by decide,func125.trans (congrArg some (by kernel_rfl))⟩
 f8:=⟨f199.name,by decide,func199.trans (congrArg some (by kernel_rfl))⟩
 f11:=⟨f239.name,by decide,func239.trans (congrArg some (by kernel_rfl))⟩
 t0:=underlying0
 a0:=isAgg0
 z0:=sizeOf0
 v0:=zeroValue0
 t24:=underlying209
 a24:=isAgg209
 z24:=sizeOf209
 v24:=zeroValue209
 t26:=underlying9
 a26:=isAgg9
 z26:=sizeOf9
 v26:=zeroValue9
 t28:=underlying234
 a28:=isAgg234
 z28:=sizeOf234
 v28:=zeroValue234
 i26:=by kernel_rfl}
def Tryz.sortA_ren:Go.Shelf.Ren:=⟨fun|6=>200|8=>105|9=>240|19=>158|20=>159|21=>283|22=>284|23=>285|24=>286|25=>287|26=>288|27=>289|28=>290|29=>291|36=>320|31=>321|32=>322|37=>323|38=>324|39=>325|41=>352|n=>n,fun|27=>209|29=>9|3=>3|32=>203|26=>209|0=>0|44=>151|46=>33|4=>4|36=>383|35=>382|41=>258|5=>5|9=>9|53=>414|57=>316|63=>439|64=>367|n=>n,fun|n=>n⟩
theorem Tryz.sortA:Go.Proofs.SlLaysM.n6 prog Tryz.sortA_ren:= {
 mixed:=by kernel_rfl
 f6:=⟨f200.name,by decide,func200.trans (congrArg some (by kernel_rfl))⟩
 f8:=func105.trans (congrArg some (by kernel_rfl))
 f9:=⟨f240.name,by decide,func240.trans (congrArg some (by kernel_rfl))⟩
 f19:=func158.trans (congrArg some (by kernel_rfl))
 f20:=func159.trans (congrArg some (by kernel_rfl))
 f21:=⟨f283.name,by decide,func283.trans (congrArg some (by kernel_rfl))⟩
 f22:=⟨f284.name,by decide,func284.trans (congrArg some (by kernel_rfl))⟩
 f23:=⟨f285.name,by decide,func285.trans (congrArg some (by kernel_rfl))⟩
 f24:=⟨f286.name,by decide,func286.trans (congrArg some (by kernel_rfl))⟩
 f25:=⟨f287.name,by decide,func287.trans (congrArg some (by kernel_rfl))⟩
 f26:=⟨f288.name,by decide,func288.trans (congrArg some (by kernel_rfl))⟩
 f27:=⟨f289.name,by decide,func289.trans (congrArg some (by kernel_rfl))⟩
 f28:=⟨f290.name,by decide,func290.trans (congrArg some (by kernel_rfl))⟩
 f29:=⟨f291.name,by decide,func291.trans (congrArg some (by kernel_rfl))⟩
 f31:=func321.trans (congrArg some (by kernel_rfl))
 f32:=func322.trans (congrArg some (by kernel_rfl))
 f36:=⟨f320.name,by decide,func320.trans (congrArg some (by kernel_rfl))⟩
 f37:=⟨f323.name,by decide,func323.trans (congrArg some (by kernel_rfl))⟩
 f38:=⟨f324.name,by decide,func324.trans (congrArg some (by kernel_rfl))⟩
 f39:=⟨f325.name,by decide,func325.trans (congrArg some (by kernel_rfl))⟩
 f41:=⟨f352.name,by decide,func352.trans (congrArg some (by kernel_rfl))⟩
 t0:=underlying0
 a0:=isAgg0
 z0:=sizeOf0
 v0:=zeroValue0
 t3:=underlying3
 a3:=isAgg3
 z3:=sizeOf3
 v3:=zeroValue3
 t4:=underlying4
 a4:=isAgg4
 z4:=sizeOf4
 v4:=zeroValue4
 t5:=underlying5
 a5:=isAgg5
 z5:=sizeOf5
 v5:=zeroValue5
 t9:=underlying9
 a9:=isAgg9
 z9:=sizeOf9
 v9:=zeroValue9
 t26:=underlying209
 a26:=isAgg209
 z26:=sizeOf209
 v26:=zeroValue209
 t27:=underlying209
 a27:=isAgg209
 z27:=sizeOf209
 v27:=zeroValue209
 t29:=underlying9
 a29:=isAgg9
 z29:=sizeOf9
 v29:=zeroValue9
 t32:=underlying203
 a32:=isAgg203
 z32:=sizeOf203
 v32:=zeroValue203
 t35:=underlying382
 a35:=isAgg382
 z35:=sizeOf382
 v35:=zeroValue382
 t36:=underlying383
 a36:=isAgg383
 z36:=sizeOf383
 v36:=zeroValue383
 t41:=underlying258
 a41:=isAgg258
 z41:=sizeOf258
 v41:=zeroValue258
 t44:=underlying151
 a44:=isAgg151
 z44:=sizeOf151
 v44:=zeroValue151
 t46:=underlying33
 a46:=isAgg33
 z46:=sizeOf33
 v46:=zeroValue33
 t53:=underlying414
 a53:=isAgg414
 z53:=sizeOf414
 v53:=zeroValue414
 t57:=underlying316
 a57:=isAgg316
 z57:=sizeOf316
 v57:=zeroValue316
 t63:=underlying439
 a63:=isAgg439
 z63:=sizeOf439
 v63:=zeroValue439
 t64:=underlying367
 a64:=isAgg367
 z64:=sizeOf367
 v64:=zeroValue367}
theorem Tryz.sortsA(m:Nat):AnyZ.SortsIn prog Tryz.sortedA_ren Fence.wide m:=
 ⟨fun blk off cap ss W hH hblk hsz=>callsIn_wide.2 (AnyM.slices_Sort_string Tryz.sortA blk off cap ss W hH hblk hsz),
  fun p cap W=>callsIn_wide.2 (AnyM.slices_Sort_string_none Tryz.sortA p cap W)⟩
end Go.Proofs
namespace Go.Ab
open Go.Maps Go.Proofs Go.Proofs.Tryz Go.RowKit Go.Shelf Go.Sort
set_option maxHeartbeats 1000000 in
theorem T4:MF prog 125 201 9:=fun Bm b nn D0 R w hBm hcell hown hmax hbytes=>by
 refine(callsIn_wide (n:=5)).1 ?_
 have hseq:SeqGives Fence.wide 2 prog 201 #[.pointer (some ⟨Bm,0,none⟩)] encStr (fun ss=>ss.Perm (strKeys D0)) (Maps.size D0) w:=
  AnyZ.keys_gives (ρ:=Tryz.keysA_ren) {Tryz.keysA with} Fence.wide _ trivial rfl (by omega) Bm b nn D0 w hBm hcell hown
 exact AnyZ.sorted_in Tryz.sortedA Fence.wide 5 trivial trivial trivial trivial rfl (by omega) (Tryz.sortsA _) (enters_of func200 (by kernel_rfl) rfl) 201 #[.pointer (some ⟨Bm,0,none⟩)] trivial (enters_of func201 (by kernel_rfl) rfl) _ _ hmax hbytes _ hseq
set_option maxHeartbeats 1000000 in
theorem QN:KG prog 125 201:=fun Bm w hBm hcell=>by
 refine(callsIn_wide (n:=5)).1 ?_
 have hseq:SeqGives Fence.wide 2 prog 201 #[.pointer (some ⟨Bm,0,none⟩)] encStr (fun ss:List (List UInt8)=>ss=[]) 0 w:=
  AnyZ.keys_gives_nil (ρ:=Tryz.keysA_ren) {Tryz.keysA with} Fence.wide _ trivial rfl Bm w hBm hcell
 refine CallsIn.mono (AnyZ.sorted_in Tryz.sortedA Fence.wide 5 trivial trivial trivial trivial rfl (by omega) (Tryz.sortsA _) (enters_of func200 (by kernel_rfl) rfl) 201 #[.pointer (some ⟨Bm,0,none⟩)] trivial (enters_of func201 (by kernel_rfl) rfl) _ 0 (A0J _) (by omega) w hseq) ?_
 rintro e w' ⟨v,ss,he,hS,_,hnil,hb⟩
 rw[hnil.2 hS] at he
 exact⟨he,hb⟩
theorem c_Keys(es:List CE)(ck:Nat):A2 prog 126 [.mref 1] [(1,.map (es.map Cy) ck)] (.func (.func 201) [] [.ref 0 0 0 1]) [(1,.map (es.map Cy) ck),(0,.rows [[.mref 1]] 1)]:=by
 refine Zd [] func126 rfl ntmps126 results126 ?_
 ((try push_cast)<;>repeat' (first|apply Zi<;>intro _|exact Zp|with_reducible apply Za)<;>try push_cast)
 apply Zr [(0,8)] rfl<;>push_cast
theorem c_KeysN:A2 prog 126 [.val (.map none)] [] (.func (.func 201) [] [.ref 0 0 0 1]) [(0,.rows [[.val (.map none)]] 1)]:=by
 refine Zd [] func126 rfl ntmps126 results126 ?_
 ((try push_cast)<;>repeat' (first|apply Zi<;>intro _|exact Zp|with_reducible apply Za)<;>try push_cast)
 apply Zr [(0,8)] rfl<;>push_cast
theorem c_Sorted(es:List CE)(ck:Nat)(h:Ek es ck)(hl:es.length<=1048576):A2 prog 125 [.func (.func 201) [] [.ref 3 0 0 1]] [(1,.map (es.map Cy) ck),(3,.rows [[.mref 1]] 1)] (.slice ((AU (es.map (·.1))).map fun k=>[.val (.string k)]) false) [(1,.map (es.map Cy) ck),(3,.rows [[.mref 1]] 1)]:=
 A2.of_sorted (by kernel_rfl) (by kernel_rfl) T4 (es.map Cy) ck (es.map (·.1)) (by rw[A13,A13];rfl)
  (fun y hy=>by obtain⟨e,he,rfl⟩:=A0i.1 hy;exact h.lt e he) (by rw[A13];exact h.births) h.keys
  (fun k hk=>by obtain⟨e,he,rfl⟩:=A0i.1 hk;exact A0M (h.sm e he).2.2 (by decide)) (by simpa using hl)
theorem Xn:A2 prog 125 [.func (.func 201) [] [.ref 3 0 0 1]] [(3,.rows [[.val (.map none)]] 1)] (.slice [] true) [(3,.rows [[.val (.map none)]] 1)]:=A2.of_sortedN (by kernel_rfl) QN
theorem Xq(b:GT)(u:Option (List Br)):A2 prog 74 [.ref 1 0 0 3] (ovH ⟨b,none,u⟩) (AL b) (ovH ⟨b,none,u⟩):=by
 have oB:=A5 b
 have hK:=c_KeysN
 have hS:=Xn
 rcases u with _|u<;>simp only[PA,Lw]
 ·refine Zd [] func74 rfl ntmps74 results74 ?_
  (have z:=oB;(try push_cast[z])<;>repeat' (first|apply Zi<;>intro _|refine Zs [] hK ?_|refine Zs [(3,112)] hS ?_|exact Zo|with_reducible apply Za)<;>try push_cast[z])
  refine AWp.loopI mixed (by kernel_rfl) (ι:=Unit) (fun _=>True) (fun _=>⟨[(23,.val (.int .i64 0)),(22,.val (.int .i64 0)),(21,.slice [] true),(3,.ref 64 0 0 1),(2,.ref 8 0 0 1),(0,.ref 1 0 0 3)],[(64,.rows [[A8 b]] 1),(8,.rows [[.val (.pointer none)]] 1),(1,.rows [[A8 b,.val (.map none),.slice [] true]] 3),(2,.junk),(4,.junk)],72⟩) (fun _=>0) () trivial ?_ fun i hi=>?_
  ·apply Zw<;>push_cast [oB]
  ·(have z:=oB;(try push_cast[z])<;>repeat' (first|apply Zi<;>intro _|exact Zo|with_reducible apply Za)<;>try push_cast[z])
   apply Zw<;>push_cast
 ·refine Zd [] func74 rfl ntmps74 results74 ?_
  (have z:=oB;(try push_cast[z])<;>repeat' (first|apply Zi<;>intro _|refine Zs [] hK ?_|refine Zs [(3,112)] hS ?_|exact Zo|with_reducible apply Za)<;>try push_cast[z])
  refine AWp.loopI mixed (by kernel_rfl) (ι:=Unit) (fun _=>True) (fun _=>⟨[(23,.val (.int .i64 0)),(22,.val (.int .i64 0)),(21,.slice [] true),(3,.ref 64 0 0 1),(2,.ref 8 0 0 1),(0,.ref 1 0 0 3)],[(64,.rows [[A8 b]] 1),(8,.rows [[.val (.pointer none)]] 1),(1,.rows [[A8 b,.val (.map none),.gref 4 u.length]] 3),(2,.junk),(4,.grow (u.map fun u=>[C7 u]) 1)],72⟩) (fun _=>0) () trivial ?_ fun i hi=>?_
  ·apply Zw<;>push_cast [oB]
  ·(have z:=oB;(try push_cast[z])<;>repeat' (first|apply Zi<;>intro _|exact Zo|with_reducible apply Za)<;>try push_cast[z])
   apply Zw<;>push_cast
inductive Hh(es:List CE)(l:List GE)(k:ByteArray):GT->GT->Prop
 |put (s:C1) (t t':GT) (i:Nat) (h:BE k es 0=some (i,s)) (hs:s.1=true) (hn:¬((AA k l).isSome=true/\(MQ (Cc (AA k l)) s.2==0)=true)) (hc:A0 prog 129 [AL t,.val (.string k),.agg (A4 s.2)] (AL t')):Hh es l k t t'
 |keep (s:C1) (t:GT) (i:Nat) (h:BE k es 0=some (i,s)) (hs:s.1=true) (hn:(AA k l).isSome=true/\(MQ (Cc (AA k l)) s.2==0)=true):Hh es l k t t
 |del (s:C1) (t t':GT) (i:Nat) (x:Bool) (h:BE k es 0=some (i,s)) (hs:s.1=false) (hn:(AA k l).isSome=true) (hc:A0 prog 130 [AL t,.val (.string k)] (.tup [AL t',.val (.bool x)])):Hh es l k t t'
 |none (s:C1) (t:GT) (i:Nat) (h:BE k es 0=some (i,s)) (hs:s.1=false) (hn:(AA k l).isSome=false):Hh es l k t t
theorem GJ:∀ ks:List ByteArray,A3 (ks.map fun k=>[.val (.string k)])=true
 |[]=>rfl
 |k::ks=>by simp only[A0j,A3,Af,D.pure,GJ ks,A0E]
theorem UJ{ks:List ByteArray}{i:Nat}(h:i<ks.length):nr (ks.map fun k=>[D.val (.string k)]) i=[.val (.string (ks.getD i default))]:=by
 simp only[nr,A02,A0u,A0b h,A1c,A0L]
theorem QK(ks:List ByteArray):(ks.map fun k=>[D.val (.string k)]).length=ks.length:=A07 ..
def uD:Option (List Br)->D
 |none=>.slice [] true
 |some l=>.gref 4 l.length
def uB:Option (List Br)->Blk
 |none=>.junk
 |some l=>.grow (l.map fun u=>[C7 u]) 1
theorem SO:uD none=.slice [] true:=rfl
theorem SM(l:List Br):uD (some l)=.gref 4 l.length:=rfl
theorem SQ:uB none=.junk:=rfl
theorem SP(l:List Br):uB (some l)=.grow (l.map fun u=>[C7 u]) 1:=rfl
abbrev cmS(b:GT)(es:List CE)(ck:Nat)(u:Option (List Br))(ks:List ByteArray)(T:Nat->GT)(i:Nat):St:=⟨[(23,.val (.int .i64 i)),(22,.val (.int .i64 ks.length)),(21,.slice (ks.map fun k=>[.val (.string k)]) false),(3,.ref 64 0 0 1),(2,.ref 8 0 0 1),(0,.ref 1 0 0 3)],[(64,.rows [[A8 (T i)]] 1),(8,.rows [[.val (.pointer none)]] 1),(1,.rows [[A8 b,.mref 2,uD u]] 3),(2,.map (es.map Cy) ck),(4,uB u)],72⟩
theorem Xp(u:Option (List Br))(b:GT)(es:List CE)(ck:Nat)(l:List GE)(hl:l.length<=1048576)(hb:FU b l)(h:Ek es ck)(he:es.length<=1048576)(T:Nat->GT)(h0:T 0=b)(hT:∀ i,i<es.length->Hh es l ((AU (es.map (·.1))).getD i default) (T i) (T (i+1))):
  A2 prog 74 [.ref 1 0 0 3] (ovH ⟨b,some (es,ck),u⟩) (AL (T es.length)) (ovH ⟨b,some (es,ck),u⟩):=by
 have oB:=A5 b
 have hK:=c_Keys es ck
 have hS:=c_Sorted es ck h he
 have hlen:(AU (es.map (·.1))).length=es.length:=by simp[AU]
 rw[<-hlen] at hT|-
 generalize AU (es.map (·.1))=ks at*
 have hks:ks.length<=1048576:=by omega
 rcases u with _|u<;>simp only[JN,DG]
 ·skip
  refine Zd [] func74 rfl ntmps74 results74 ?_
  (have z:=oB;(try push_cast[z])<;>repeat' (first|apply Zi<;>intro _|refine Zs [(1,2)] hK ?_|refine Zs [(1,2),(3,112)] hS ?_|exact Zo|with_reducible apply Za)<;>try push_cast[z])
  have sP:=GJ ks
  have sL:=QK ks
  refine Zl (fun i=>i<=ks.length) (fun i=>cmS b es ck none ks T i) (fun i=>ks.length-i) 0 (A0J _) ?_ fun i hi=>?_
  ·unfold cmS;simp only[SO,SQ]
   rw[h0]
   apply Zw<;>push_cast [oB,A0R,A07,sP,sL]
  ·unfold cmS;simp only[SO,SQ]
   have oT:=A5 (T i)
   have oT':=A5 (T (i+1))
   push_cast[oB,oT]
   refine Al (fun hx=>?_) (fun hx=>?_)
   ·have hx':i<ks.length:=by simpa using hx
    have hG:=QB hb (by omega) (ks.getD i default)
    have ea:=UJ hx'
    have hr:=hT i hx'
    have hC:=fun v=>KE (Cc (AA (ks.getD i default) l)) v
    have w1:IntKind.i64.wrap ((i:Int)+1)=((i+1:Nat):Int):=by rw[Aa (by omega) (by omega)];omega
    generalize ks.getD i default=k at*
    clear hT
    generalize hT1:T i=t at*
    generalize hT2:T (i+1)=t' at*
    have fin:∀ s':St,Aw s' (cmS b es ck none ks T (i+1))->∃ j,j<=ks.length/\ks.length-j<ks.length-i/\Aw s' (cmS b es ck none ks T j):=fun s' h=>⟨i+1,by omega,by omega,h⟩
    cases hr with
    |put s _ _ j hf hs hn hc=>
     obtain⟨sb,sv⟩:=s
     simp only at hs hn hc
     subst hs
     have hC:=hC sv
     generalize hv:Cc (AA k l)=v at*
     cases hh:(AA k l).isSome with
     |false=>
      rw[hh] at hG
      (have z:=Za oB<|Za oT<|Za oT'<|Za ea<|Za @AS<|Za hf @Ci;(try push_cast[z])<;>repeat' (first|apply Zi<;>intro _|refine Zc hG ?_|refine Zc (hc ..) ?_|exact Zo|with_reducible apply Za)<;>try push_cast[z])
      all_goals first|omega|skip
      refine fin _ ?_
      unfold cmS;simp only[SO,SQ]
      rw[hT2,w1]
      apply Zw<;>push_cast [oB,oT,oT',sP,sL]
     |true=>
      rw[hh] at hG
      cases hm:(MQ v sv==0) with
      |true=>exact absurd ⟨hh,hm⟩ hn
      |false=>
       rw[hm] at hC
       (have z:=Za oB<|Za oT<|Za oT'<|Za ea<|Za @AS<|Za hf @Ci;(try push_cast[z])<;>repeat' (first|apply Zi<;>intro _|refine Zc hG ?_|refine Zc hC ?_|refine Zc (hc ..) ?_|exact Zo|with_reducible apply Za)<;>try push_cast[z])
       all_goals first|omega|skip
       refine fin _ ?_
       unfold cmS;simp only[SO,SQ]
       rw[hT2,w1]
       apply Zw<;>push_cast [oB,oT,oT',sP,sL]
    |keep s _ j hf hs hn=>
     obtain⟨sb,sv⟩:=s
     simp only at hs hn
     subst hs
     obtain⟨hh,hm⟩:=hn
     have hC:=hC sv
     generalize hv:Cc (AA k l)=v at*
     rw[hh] at hG
     rw[hm] at hC
     (have z:=Za oB<|Za oT<|Za oT'<|Za ea<|Za @AS<|Za hf @Ci;(try push_cast[z])<;>repeat' (first|apply Zi<;>intro _|refine Zc hG ?_|refine Zc hC ?_|exact Zo|with_reducible apply Za)<;>try push_cast[z])
     all_goals first|omega|skip
     refine fin _ ?_
     unfold cmS;simp only[SO,SQ]
     rw[hT2,w1]
     apply Zw<;>push_cast [oB,oT,oT',sP,sL]
    |del s _ _ j x hf hs hn hc=>
     obtain⟨sb,sv⟩:=s
     simp only at hs hn
     subst hs
     generalize hv:Cc (AA k l)=v at*
     rw[hn] at hG
     (have z:=Za oB<|Za oT<|Za oT'<|Za ea<|Za @AS<|Za hf @Ci;(try push_cast[z])<;>repeat' (first|apply Zi<;>intro _|refine Zc hG ?_|refine Zc (hc ..) ?_|exact Zo|with_reducible apply Za)<;>try push_cast[z])
     all_goals first|omega|skip
     refine fin _ ?_
     unfold cmS;simp only[SO,SQ]
     rw[hT2,w1]
     apply Zw<;>push_cast [oB,oT,oT',sP,sL]
    |none s _ j hf hs hn=>
     obtain⟨sb,sv⟩:=s
     simp only at hs hn
     subst hs
     generalize hv:Cc (AA k l)=v at*
     rw[hn] at hG
     (have z:=Za oB<|Za oT<|Za oT'<|Za ea<|Za @AS<|Za hf @Ci;(try push_cast[z])<;>repeat' (first|apply Zi<;>intro _|refine Zc hG ?_|exact Zo|with_reducible apply Za)<;>try push_cast[z])
     all_goals first|omega|skip
     refine fin _ ?_
     unfold cmS;simp only[SO,SQ]
     rw[hT2,w1]
     apply Zw<;>push_cast [oB,oT,oT',sP,sL]
   ·have hx':i=ks.length:=by
     have:¬(i:Int)<ks.length:=by simpa using hx
     omega
    subst hx'
    (have z:=Za oB oT;(try push_cast[z])<;>repeat' (first|apply Zi<;>intro _|exact Zo|with_reducible apply Za)<;>try push_cast[z])
    apply Zw<;>push_cast [oB,oT]
 ·skip
  refine Zd [] func74 rfl ntmps74 results74 ?_
  (have z:=oB;(try push_cast[z])<;>repeat' (first|apply Zi<;>intro _|refine Zs [(1,2)] hK ?_|refine Zs [(1,2),(3,112)] hS ?_|exact Zo|with_reducible apply Za)<;>try push_cast[z])
  have sP:=GJ ks
  have sL:=QK ks
  refine Zl (fun i=>i<=ks.length) (fun i=>cmS b es ck (some u) ks T i) (fun i=>ks.length-i) 0 (A0J _) ?_ fun i hi=>?_
  ·unfold cmS;simp only[SM,SP]
   rw[h0]
   apply Zw<;>push_cast [oB,A0R,A07,sP,sL]
  ·unfold cmS;simp only[SM,SP]
   have oT:=A5 (T i)
   have oT':=A5 (T (i+1))
   push_cast[oB,oT]
   refine Al (fun hx=>?_) (fun hx=>?_)
   ·have hx':i<ks.length:=by simpa using hx
    have hG:=QB hb (by omega) (ks.getD i default)
    have ea:=UJ hx'
    have hr:=hT i hx'
    have hC:=fun v=>KE (Cc (AA (ks.getD i default) l)) v
    have w1:IntKind.i64.wrap ((i:Int)+1)=((i+1:Nat):Int):=by rw[Aa (by omega) (by omega)];omega
    generalize ks.getD i default=k at*
    clear hT
    generalize hT1:T i=t at*
    generalize hT2:T (i+1)=t' at*
    have fin:∀ s':St,Aw s' (cmS b es ck (some u) ks T (i+1))->∃ j,j<=ks.length/\ks.length-j<ks.length-i/\Aw s' (cmS b es ck (some u) ks T j):=fun s' h=>⟨i+1,by omega,by omega,h⟩
    cases hr with
    |put s _ _ j hf hs hn hc=>
     obtain⟨sb,sv⟩:=s
     simp only at hs hn hc
     subst hs
     have hC:=hC sv
     generalize hv:Cc (AA k l)=v at*
     cases hh:(AA k l).isSome with
     |false=>
      rw[hh] at hG
      (have z:=Za oB<|Za oT<|Za oT'<|Za ea<|Za @AS<|Za hf @Ci;(try push_cast[z])<;>repeat' (first|apply Zi<;>intro _|refine Zc hG ?_|refine Zc (hc ..) ?_|exact Zo|with_reducible apply Za)<;>try push_cast[z])
      all_goals first|omega|skip
      refine fin _ ?_
      unfold cmS;simp only[SM,SP]
      rw[hT2,w1]
      apply Zw<;>push_cast [oB,oT,oT',sP,sL]
     |true=>
      rw[hh] at hG
      cases hm:(MQ v sv==0) with
      |true=>exact absurd ⟨hh,hm⟩ hn
      |false=>
       rw[hm] at hC
       (have z:=Za oB<|Za oT<|Za oT'<|Za ea<|Za @AS<|Za hf @Ci;(try push_cast[z])<;>repeat' (first|apply Zi<;>intro _|refine Zc hG ?_|refine Zc hC ?_|refine Zc (hc ..) ?_|exact Zo|with_reducible apply Za)<;>try push_cast[z])
       all_goals first|omega|skip
       refine fin _ ?_
       unfold cmS;simp only[SM,SP]
       rw[hT2,w1]
       apply Zw<;>push_cast [oB,oT,oT',sP,sL]
    |keep s _ j hf hs hn=>
     obtain⟨sb,sv⟩:=s
     simp only at hs hn
     subst hs
     obtain⟨hh,hm⟩:=hn
     have hC:=hC sv
     generalize hv:Cc (AA k l)=v at*
     rw[hh] at hG
     rw[hm] at hC
     (have z:=Za oB<|Za oT<|Za oT'<|Za ea<|Za @AS<|Za hf @Ci;(try push_cast[z])<;>repeat' (first|apply Zi<;>intro _|refine Zc hG ?_|refine Zc hC ?_|exact Zo|with_reducible apply Za)<;>try push_cast[z])
     all_goals first|omega|skip
     refine fin _ ?_
     unfold cmS;simp only[SM,SP]
     rw[hT2,w1]
     apply Zw<;>push_cast [oB,oT,oT',sP,sL]
    |del s _ _ j x hf hs hn hc=>
     obtain⟨sb,sv⟩:=s
     simp only at hs hn
     subst hs
     generalize hv:Cc (AA k l)=v at*
     rw[hn] at hG
     (have z:=Za oB<|Za oT<|Za oT'<|Za ea<|Za @AS<|Za hf @Ci;(try push_cast[z])<;>repeat' (first|apply Zi<;>intro _|refine Zc hG ?_|refine Zc (hc ..) ?_|exact Zo|with_reducible apply Za)<;>try push_cast[z])
     all_goals first|omega|skip
     refine fin _ ?_
     unfold cmS;simp only[SM,SP]
     rw[hT2,w1]
     apply Zw<;>push_cast [oB,oT,oT',sP,sL]
    |none s _ j hf hs hn=>
     obtain⟨sb,sv⟩:=s
     simp only at hs hn
     subst hs
     generalize hv:Cc (AA k l)=v at*
     rw[hn] at hG
     (have z:=Za oB<|Za oT<|Za oT'<|Za ea<|Za @AS<|Za hf @Ci;(try push_cast[z])<;>repeat' (first|apply Zi<;>intro _|refine Zc hG ?_|exact Zo|with_reducible apply Za)<;>try push_cast[z])
     all_goals first|omega|skip
     refine fin _ ?_
     unfold cmS;simp only[SM,SP]
     rw[hT2,w1]
     apply Zw<;>push_cast [oB,oT,oT',sP,sL]
   ·have hx':i=ks.length:=by
     have:¬(i:Int)<ks.length:=by simpa using hx
     omega
    subst hx'
    (have z:=Za oB oT;(try push_cast[z])<;>repeat' (first|apply Zi<;>intro _|exact Zo|with_reducible apply Za)<;>try push_cast[z])
    apply Zw<;>push_cast [oB,oT]
theorem TT{α:Type}(Q:Nat->α->Prop)(R:Nat->α->α->Prop)(a0:α)(h0:Q 0 a0)(hs:∀ i a,Q i a->∃ b,Q (i+1) b/\R i a b):∃ f:Nat->α,f 0=a0/\∀ i,Q i (f i)/\R i (f i) (f (i+1)):=by
 let g:(i:Nat)-> {a//Q i a}:=fun i=>Nat.rec ⟨a0,h0⟩ (fun i p=>⟨Classical.choose (hs i p.1 p.2),(Classical.choose_spec (hs i p.1 p.2)).1⟩) i
 exact⟨fun i=>(g i).1,rfl,fun i=>⟨(g i).2,(Classical.choose_spec (hs i (g i).1 (g i).2)).2⟩⟩
noncomputable def E9(es:List CE)(l a:List GE)(k:ByteArray):List GE:=
 match lk es k with
 |some s=>if s.1 then(if(AA k l).isSome&&(MQ (Cc (AA k l)) s.2==0) then a else Bt (k,s.2) a) else Cf k a
 |none=>a
theorem VD{es:List CE}{l a:List GE}{k:ByteArray}(h:Srt a):Srt (E9 es l a k):=by
 unfold E9
 split
 ·split
  ·split
   ·exact h
   ·exact DX h
  ·exact Gl h
 ·exact h
theorem VE(es:List CE)(l a:List GE)(k:ByteArray):(E9 es l a k).length<=a.length+1:=by
 unfold E9
 split
 ·split
  ·split
   ·omega
   ·exact(Da _ _).1
  ·have:(Cf k a).length<=a.length:=List.length_filter_le ..
   omega
 ·omega
def Qr(es:List CE)(l:List GE):Prop:=∀ k v w,lk es k=some (true,v)->AA k l=some w->MQ w v=0->w=v
theorem TM{es:List CE}{l a:List GE}{k:ByteArray}(hS:Qr es l)(ha:AA k a=AA k l)(k':ByteArray):AA k' (E9 es l a k)=if k=k' then(match lk es k with|some s=>Lx s|none=>AA k l) else AA k' a:=by
 unfold E9
 cases hk:lk es k with
 |none=>
  simp only
  by_cases h:k=k'
  ·subst h;rw[if_pos rfl,ha]
  ·rw[if_neg h]
 |some s=>
  obtain⟨sb,sv⟩:=s
  cases sb with
  |false=>
   simp only[A0A,if_false]
   rw[Ep]
   by_cases h:k=k'
   ·subst h;simp[Lx]
   ·simp[h]
  |true=>
   simp only[if_true]
   split
   ·rename_i hc
    simp only[A09] at hc
    by_cases h:k=k'
    ·subst h
     rw[if_pos rfl,ha]
     obtain⟨w,hw⟩:=Option.isSome_iff_exists.1 hc.1
     rw[hw]
     have h2:=hc.2
     rw[hw] at h2
     have:=hS k sv w hk hw (by simpa[Cc] using h2)
     rw[this];rfl
    ·rw[if_neg h]
   ·rw[Er]
    by_cases h:k=k'
    ·subst h;simp[Lx]
    ·simp[h]
theorem KQ{es:List CE}{l:List GE}(hS:Qr es l):∀ (ks:List ByteArray) (a:List GE),ks.Nodup->(∀ k ∈ ks,AA k a=AA k l)->∀ k',(k' ∈ ks->AA k' (ks.foldl (E9 es l) a)=match lk es k' with|some s=>Lx s|none=>AA k' l)/\(k' ∉ ks->AA k' (ks.foldl (E9 es l) a)=AA k' a)
 |[],a,_,_,k'=>⟨fun h=>absurd h A0Y,fun _=>rfl⟩
 |k::ks,a,hn,ha,k'=>by
  rw[A1G] at hn
  have h1:=TM hS (ha k (A0z ..))
  have ih:=KQ hS ks (E9 es l a k) hn.2 (fun x hx=>by rw[h1 x,if_neg (fun e:k=x=>hn.1 (by rw[e];exact hx)),ha x (A0n _ hx)]) k'
  rw[A0t]
  refine⟨fun h=>?_,fun h=>?_⟩
  ·by_cases h2:k' ∈ ks
   ·exact ih.1 h2
   ·rw[ih.2 h2,h1 k']
    rcases A0q.1 h with rfl|h
    ·rw[if_pos rfl]
    ·exact absurd h h2
  ·rw[ih.2 (fun h2=>h (A0n _ h2)),h1 k',if_neg (fun e:k=k'=>h (by rw[e];exact A0z ..))]
theorem RR{es:List CE}{l:List GE}:∀ (ks:List ByteArray) {a:List GE},Srt a->Srt (ks.foldl (E9 es l) a)
 |[],_,h=>h
 |k::ks,_,h=>RR ks (VD h)
theorem RS(es:List CE)(l:List GE):∀ (ks:List ByteArray) (a:List GE),(ks.foldl (E9 es l) a).length<=a.length+ks.length
 |[],_=>by simp
 |k::ks,a=>by
  have h1:=RS es l ks (E9 es l a k)
  have h2:=VE es l a k
  simp only[A0t,A0g]
  omega
theorem T5(ks:List ByteArray):(AU ks).Perm ks:=by
 have h1:=(List.mergeSort_perm (ks.map (·.data.toList)) (fun x y=>decide (x<=y))).map (fun l:List UInt8=>(⟨l.toArray⟩:ByteArray))
 rw[A13] at h1
 have h2:(ks.map ((fun l:List UInt8=>(⟨l.toArray⟩:ByteArray)) ∘ fun k=>k.data.toList))=ks:=by
  rw[A14 (g:=id) (fun k _=>by simp),List.map_id]
 rw[h2] at h1
 exact h1
theorem WY(o:OV)(l:List GE)(h:OvOk o l)(hl:l.length+o.es.length<=1048576)(hS:Qr o.es l):∃ t',FU t' (o.view l)/\A2 prog 74 [.ref 1 0 0 3] (ovH o) (AL t') (ovH o):=by
 obtain⟨b,c,u⟩:=o
 obtain⟨hb,hch⟩:=h
 cases c with
 |none=>exact ⟨b,hb,Xq b u⟩
 |some c=>
  obtain⟨es,ck⟩:=c
  simp only[OV.es,OV.ck,A0L,OV.view] at*
  have hp:=T5 (es.map (·.1))
  have hlen:(AU (es.map (·.1))).length=es.length:=by rw[hp.length_eq,A07]
  have hnd:(AU (es.map (·.1))).Nodup:=hp.nodup_iff.2 hch.keys
  have hmem:∀ k,k ∈ AU (es.map (·.1))↔k ∈ es.map (·.1):=fun k=>hp.mem_iff
  obtain⟨T,hT0,hT⟩:=TT (fun i t=>FU t (((AU (es.map (·.1))).take i).foldl (E9 es l) l)) (fun i t t'=>i<es.length->Hh es l ((AU (es.map (·.1))).getD i default) t t') b (by simpa using hb) (fun i t ht=>by
   rcases A0O i es.length with hi|hi
   ·have hi':i<(AU (es.map (·.1))).length:=by omega
    have hk:(AU (es.map (·.1))).getD i default=(AU (es.map (·.1)))[i]:=by rw[A02,A0b hi'];rfl
    have htk:(AU (es.map (·.1))).take (i+1)=(AU (es.map (·.1))).take i++[(AU (es.map (·.1)))[i]]:=by rw[List.take_add_one,A0b hi'];rfl
    have hkm:(AU (es.map (·.1)))[i] ∈ es.map (·.1):=(hmem _).1 (A0W hi')
    have hkn:(AU (es.map (·.1)))[i] ∉ (AU (es.map (·.1))).take i:=fun hm=>by
     have h2:=hnd
     rw[<-A12 (i+1) (AU (es.map (·.1))),htk,List.nodup_append] at h2
     have h3:=h2.1
     rw[List.nodup_append] at h3
     exact h3.2.2 _ hm _ (A0a.2 rfl) rfl
    have hga:=KQ hS ((AU (es.map (·.1))).take i) l (List.Sublist.nodup (List.take_sublist ..) hnd) (fun _ _=>rfl) (AU (es.map (·.1)))[i]
    have hga:=hga.2 hkn
    have hle:=RS es l ((AU (es.map (·.1))).take i) l
    rw[A0C] at hle
    rw[hk,htk,A1F,A0t,A11]
    generalize((AU (es.map (·.1))).take i).foldl (E9 es l) l=a at*
    generalize(AU (es.map (·.1)))[i]=k at*
    obtain⟨s,hs⟩:∃ s,lk es k=some s:=by
     cases hlk:lk es k with
     |none=>exact absurd hkm (Zz hlk)
     |some s=>exact ⟨s,rfl⟩
    obtain⟨j,hf⟩:∃ j,BE k es 0=some (j,s):=by
     have:=GB k es 0
     rw[hs] at this
     cases hc:BE k es 0 with
     |none=>rw [hc] at this;cases this
     |some p=>rw [hc] at this;obtain⟨j,s'⟩:=p;simp only[A1c,A03] at this;exact⟨j,by rw[this]⟩
    have hsm:=hch.sm
    obtain⟨n,hmm⟩:=Zx hs
    have hsm:=hsm _ hmm
    unfold E9
    rw[hs]
    simp only
    cases hb1:s.1 with
    |true=>
     simp only[if_true]
     split
     ·rename_i hc
      simp only[A09] at hc
      exact⟨t,ht,fun _=>.keep s t j hf hb1 hc⟩
     ·rename_i hc
      obtain⟨t',hp,ht'⟩:=XJ ht (by omega) k s.2 hsm.1
      exact⟨t',ht',fun _=>.put s t t' j hf hb1 (fun hn=>hc (by simp only[A09];exact hn)) hp⟩
    |false=>
     simp only[A0A,if_false]
     cases hg:(AA k l).isSome with
     |true=>
      obtain⟨t',hp,ht'⟩:=XK ht (by omega) k
      exact⟨t',ht',fun _=>.del s t t' j _ hf hb1 hg hp⟩
     |false=>
      rw[N3 (by rw[RE,hga,hg])]
      exact⟨t,ht,fun _=>.none s t j hf hb1 hg⟩
   ·rw[A05 (by omega)]
    rw[A05 (by omega)] at ht
    exact⟨t,ht,fun hi'=>absurd hi' (by omega)⟩)
  refine⟨T es.length,?_,Xp u b es ck l (by omega) hb hch (by omega) T hT0 fun i hi=>(hT i).2 hi⟩
  have hfin:=(hT es.length).1
  rw[A05 (by omega)] at hfin
  have:(AU (es.map (·.1))).foldl (E9 es l) l=FV es l:=KM (RR _ hb.srt) (El es hb.srt) fun k=>by
   rw[CF k es l hch.keys]
   by_cases hk:k ∈ AU (es.map (·.1))
   ·exact(KQ hS _ l hnd (fun _ _=>rfl) k).1 hk
   ·rw[(KQ hS _ l hnd (fun _ _=>rfl) k).2 hk,PM (fun hm=>hk ((hmem k).2 hm))]
  rw[this] at hfin
  exact hfin
end Go.Ab
