/- The layer by which the program is walked, and what its functions do: part 6 of 16. -/
import Derived.Test.YtjopicjammmbjaaGreatDoorV4
import Derived.Lib.Bytealg
set_option maxHeartbeats 4000000
set_option maxRecDepth 20000
set_option linter.unusedVariables false
set_option linter.unusedSimpArgs false
set_option linter.unnecessarySimpa false
namespace Go.Ab
open Go.RowKit
def Fg(P:Program)(f:FuncId)(ds:List D)(r:D):Prop:=
 Bc P f=true/\∀ (w:World) (I:Nat->Prop) (vs:List Value),GIn P w I->(∀ k,I k->k<w.heap.size)->vs.length=ds.length->(∀ i,i<ds.length->Rep w I (fun _=>none) (nd ds i) (nv vs i))->
  Calls P f vs.toArray w fun e w'=>∃ v I',e=.panicked [{v,recovered:=false}]/\Rep w' I' (fun _=>none) r v/\(∀ k,I k->I' k)/\(∀ k,I' k->I k∨w.heap.size<=k)/\(∀ k,I' k->k<w'.heap.size)/\Below w.heap.size w w'
section
variable{P:Program}{ops:Array Oper}{nx:Nat}{dst:Option Tmp}{T:TypeId}{ps:String}{af:Array Edge}{x:Operand}{l:List Oper}{pos:Nat}{acc:List Eff}{s:St}{K:List Eff->St->Prop}
theorem Af.panic0{o:Oper}{d:D}(h:SoundP P ops o s.fs d)(hk:K [] ⟨(BB,d)::s.env,s.hp,s.nx⟩):Af P ops nx (o::l) pos acc s K:=by
 rw[Cg]
 unfold Cj
 exact .inr (.inr ⟨d,h,_,rfl,hk⟩)
theorem Af.panicOp{t:TypeId}{d:D}(hx:evO P s.env.get x=.iface t d)(hk:K [] ⟨(BB,.iface t d)::s.env,s.hp,s.nx⟩):Af P ops nx (⟨dst,.panic x,T,ps,af,none⟩::l) pos acc s K:=by
 refine Af.panic0 (d:=.iface t d) ?_ hk
 intro w0 M0 I0 nt fr I mu a w hga r K Q hQ
 refine⟨by simp[Region.wanted],fun f _=>I0.fn f,?_⟩
 have hxr:Rep w I mu (evO P s.env.get x) (a.eval x):=DI (hga.at r.w) r.env x
 rw[hx] at hxr
 generalize he:a.eval x=v at hxr
 have hxr':=hxr
 cases hxr with
 |iface _ _ u h=>
 have hrun:(execOp a.eval ⟨dst,.panic x,T,ps,af,none⟩).run P w=.halt (.panic (.iface t u)) w:=by
  have hp:(Instr.panic (.iface t u)).run P w=.halt (.panic (.iface t u)) w:=rfl
  simp only[execOp,he,A0m,hp,Result.andThen]
 rw[Oper.semAt_eq _ _ _ (by intro c hc;cases hc),hrun]
 exact hQ _ w I r hxr'
theorem Af.pan{f:FuncId}{args:Array Operand}{ts:Array TypeId}{ds:List D}{r:D}(hc:Fg P f ds r)(ha:args.toList.map (evO P s.env.get)=ds)(hpu:Av ds=true)(hrp:r.pure=true)(hk:K [] ⟨(BB,r)::s.env,s.hp,s.nx⟩):
  Af P ops nx (⟨dst,.call {callee:=.value (.func f),args:=args,argTypes:=ts},T,ps,af,none⟩::l) pos acc s K:=by
 refine Af.panic0 (d:=r) ?_ hk
 intro w0 M0 I0 nt fr I mu a w hga rr K Q hQ
 refine⟨by simp[Region.wanted],?_⟩
 subst ha
 have hargs:∀ i,i<(args.toList.map (evO P s.env.get)).length->Rep w I (fun _=>none) (nd (args.toList.map (evO P s.env.get)) i) (nv (args.toList.map a.eval) i):=by
  intro i hi
  simp only[A0b,A0T] at hi
  have h1:nd (args.toList.map (evO P s.env.get)) i=evO P s.env.get args[i]:=by simp[nd,A03,hi]
  have h2:nv (args.toList.map a.eval) i=a.eval args[i]:=by simp[nv,A03,hi]
  have h3:Rep w I mu (evO P s.env.get args[i]) (a.eval args[i]):=DI (hga.at rr.w) rr.env _
  have h4:=Co hpu i
  rw[h1] at h4
  rw[h1,h2]
  exact h3.unmu h4
 have hcall:=hc.2 w I (args.toList.map a.eval) (hga.at rr.w) rr.w.lt (by simp) hargs
 have hrun:(execOp a.eval ⟨dst,.call {callee:=.value (.func f),args:=args,argTypes:=ts},T,ps,af,none⟩).run P w=.ok (.enter f (args.toList.map a.eval).toArray) w:=by
  have e1:args.map a.eval=(args.toList.map a.eval).toArray:=by apply Array.ext';simp
  simp only[execOp,resolve,Act.eval,Deferred.ofValue,A0m,A0w,Result.andThen,invoke]
  have e2:#[]++args.map a.eval++ #[]=(args.toList.map a.eval).toArray:=by rw[e1];simp
  exact(congrArg (fun z=>(callFunc f z).run P w) e2).trans (Bn hc.1 _ w)
 refine CS hrun ?_
 refine hcall.mono fun e w' ⟨v,I',he,hv,h1,h2,h3,h4⟩=>?_
 subst he
 have g1:=rr.w.below h1 h2 h3 h4
 have g2:Ext I mu w I' mu w':=⟨h1,fun _ _ h=>h,fun k hk=>h4.block k (rr.w.lt k hk)⟩
 exact hQ v w' I' ⟨rr.size,rr.defers.ext g2,fun t=>(rr.env t).ext g2,g1⟩ (hv.unmu hrp)
end
def RetPan(r:D):AE->St->Prop
 |.panic d,_=>lo d r/\r.pure=true
 |_,_=>False
theorem Fg.of_awp{P:Program}{nt:Nat}{f:FuncId}{fn:Func}{c:Code}{ds:List D}{r:D}(hf:P.funcs[f]? =some fn)(hb:fn.body=some c)(hn:fn.ntmps=nt)(hent:Bc P f=true)(hlen:ds.length<=nt)
  (h:AWp P nt c (RetPan r) ⟨Bq 0 ds,[],0⟩):Fg P f ds r:=by
 refine⟨hent,fun w I vs hgi hI hl hrep=>?_⟩
 let G:Gh:=⟨I,fun _=>none,[],Fence.wide,0,.inl rfl⟩
 refine callsIn_wide.1 (callsIn_of_wp_marks (n:=0) hf hb trivial (wpIn_mono (h w (fun _=>False) G (fun g l hl=>⟨(hgi g l hl).1,hI g (hgi g l hl).1,fun h=>h,(hgi g l hl).2⟩) I (fun _=>none) _ w ⟨?_,BR.refl _ _ _ _,fun t=>Fu ⟨hl,hrep⟩ _ t,⟨fun b x hx=>by simp[St.fs,Ai] at hx,fun b x v k hx=>by simp[St.fs,Ai] at hx,fun b c x y v u k hx=>by simp[St.fs,Ai] at hx,fun _ _=>rfl,hI,rfl,rfl,rfl,A0e _,fun _ _ _=>rfl,fun _ h=>h,fun _ h=>.inl h,fun b x _ h=>(by cases h),fun b x hx=>by simp[St.fs,Ai] at hx⟩⟩) ?_))
 ·simp[hl,hn];omega
 ·rintro e a' w' ⟨x,s',I',mu',hq,he,r'⟩
  cases x<;>cases e<;>simp only[Ga] at he<;>simp only[RetPan] at hq
  obtain⟨v,rfl,hv⟩:=he
  obtain⟨hlo,hpu⟩:=hq
  obtain⟨rs,_,d1,d2,d3⟩:=r'.defers
  obtain⟨w1,w2⟩:=r'.w.shut hI d3
  show LeavesInM _ _ _ _ _ _ a'.defers _ _
  rw[d1]
  refine Gx (by simp) rs w' d2 (fun r hr=>(d3 r hr).2.2) ?_
  exact⟨v,_,rfl,((w2 _ _ hv).lo hlo).unmu hpu,w1.iold,fun k hk=>by rcases w1.inew k hk with h3|h3|h3;exact .inl h3;exact h3.elim;exact .inr h3,w1.lt,⟨w1.os,w1.tape,w1.output,w1.grown,fun k hk=>w1.old k hk (fun h=>h)⟩⟩
attribute [irreducible] Fg
end Go.Ab
namespace Go.Ab
open Go.Proofs Go.Proofs.Tryz Go.RowKit
def ZQ(R:St->Prop)(Q:AE->St->Prop):AE->St->Prop
 |.normal,s=>R s
 |e,s=>Q e s
theorem AWp.loopI{P:Program}{nt:Nat}{c:Code}{Q:AE->St->Prop}{s:St}{ι:Type}(hm:P.follows .mixedOrders=true)(hc:CN nt c=true)(Inv:ι->Prop)(S:ι->St)(m:ι->Nat)(i0:ι)(hi:Inv i0)(h0:Ar s (S i0))
  (round:∀ i,Inv i->VCS P nt [] c (ZQ (fun s'=>∃ j,Inv j/\m j<m i/\Ar s' (S j)) Q) (S i)):AWp P nt (.loop c) Q s:=by
 refine AWp.loop (ι:= {i//Inv i}) (fun i=>S i.1) (fun i=>m i.1) ⟨i0,hi⟩ h0 fun i=>AWp.mono (VC.sound hm hc (round i.1 i.2)) fun e s' h=>?_
 cases e with
 |normal=>obtain ⟨j,h1,h2,h3⟩:=h;exact⟨⟨j,h1⟩,h2,h3⟩
 |_=>exact h
theorem Lu{ops:Array Oper}{E:List Eff}{sk:List (List Nat×List Nat)}(h:FL E=sk)(k:DK ops sk=true):S4 ops E:=by rw[S4,h];exact k
attribute [push_cast] ZQ FO C0 Jy Ht CF KW
def sm(a b:List D):Prop:=a=b
@[congr] theorem sm_congr{a a' b:List D}(h:H6 a=a'):sm a b=sm a' b:=by rw[<-h];rfl
theorem PQ(a:List D):sm a a:=rfl
theorem Za{a b:Prop}(h:a)(k:b):a/\b:=⟨h,k⟩
theorem Zi{b:Bool}{x y:Prop}(h:b=true->x)(k:b=false->y):Ew b x y:=A6 h k
section
variable{P:Program}{ops:Array Oper}{nx:Nat}{dst:Option Tmp}{T:TypeId}{ps:String}{af:Array Edge}{gd:Option (Nat×Bool)}{f:FuncId}{x:Operand}{args:Array Operand}{ts:Array TypeId}{fs cs ds:List D}{d r:D}{H H':Hp}{l:List Oper}{pos:Nat}{acc:List Eff}{s:St}{K:List Eff->St->Prop}
theorem Zc(hc:A3 P f ds r)(hk:GoS P ops nx l (pos+1) (⟨r,[],[]⟩::acc) (s.app dst ⟨r,[],[]⟩) K)(ha:sm (args.toList.map (evO P s.env.get)) ds:=by (try push_cast(config:= {maxSteps:=9999999}) [z]);exact PQ _)(hg:gd=none∨∃ j want t,gd=some (j,want)/\BS ops j=some t/\gOf (s.env.get t) want=some true:=by first|exact .inl rfl|exact .inr ⟨_,_,_,rfl,rfl,rfl⟩)
  (hpu:Av ds=true:=by first|rfl|push_cast (config:= {maxSteps:=9999999}) [z]):Af P ops nx (⟨dst,.call {callee:=.value (.func f),args:=args,argTypes:=ts},T,ps,af,gd⟩::l) pos acc s K:=Af.call hc hg ha hpu hk
theorem Zv(hc:A3 P f ds r)(hk:GoS P ops nx l (pos+1) (⟨r,[],[]⟩::acc) (s.app dst ⟨r,[],[]⟩) K)(hx:evO P s.env.get x=.func (.func f) fs cs:=by rfl)(ha:sm (fs++args.toList.map (evO P s.env.get)++cs) ds:=by (try push_cast(config:= {maxSteps:=9999999}) [z]);exact PQ _)(hg:gd=none∨∃ j want t,gd=some (j,want)/\BS ops j=some t/\gOf (s.env.get t) want=some true:=by first|exact .inl rfl|exact .inr ⟨_,_,_,rfl,rfl,rfl⟩)
  (hpu:Av ds=true:=by first|rfl|push_cast (config:= {maxSteps:=9999999}) [z]):Af P ops nx (⟨dst,.call {callee:=.value x,args:=args,argTypes:=ts},T,ps,af,gd⟩::l) pos acc s K:=Af.callV hx hc hg ha hpu hk
theorem Zs(rl:List (Nat×Nat))(hc:A4 P f ds H d H')(hk:GoS P ops nx l (pos+1) (Cm (2*(nx+4*pos)) (BN rl) H d H'::acc) (s.app dst (Cm (2*(nx+4*pos)) (BN rl) H d H')) K)(ha:args.toList.map (evO P s.env.get)=Ca (BN rl) ds:=by push_cast(config:= {maxSteps:=9999999}) [z]<;>with_unfolding_all exact Bl _)(hg:gd=none∨∃ j want t,gd=some (j,want)/\BS ops j=some t/\gOf (s.env.get t) want=some true:=by first|exact .inl rfl|exact .inr ⟨_,_,_,rfl,rfl,rfl⟩)
  (hl:ltL 4 ds=true:=by push_cast(config:= {maxSteps:=9999999}) [z]<;>with_unfolding_all exact Bl _) (hh:BD (BN rl) (Ai s.hp) H:=by push_cast(config:= {maxSteps:=9999999}) [z]<;>with_unfolding_all exact Bl _) (hok:Dj (2*(nx+4*pos)) (BN rl) H H'=true:=by push_cast(config:= {maxSteps:=9999999}) [z]<;>with_unfolding_all exact Bl _):Af P ops nx (⟨dst,.call {callee:=.value (.func f),args:=args,argTypes:=ts},T,ps,af,gd⟩::l) pos acc s K:=Af.scall (BN rl) hc hg ha hl hh hok hk
theorem Zt(rl:List (Nat×Nat))(hc:A4 P f ds H d H')(hk:GoS P ops nx l (pos+1) (Cm (2*(nx+4*pos)) (BN rl) H d H'::acc) (s.app dst (Cm (2*(nx+4*pos)) (BN rl) H d H')) K)(hx:evO P s.env.get x=.func (.func f) fs cs:=by rfl)(ha:fs++args.toList.map (evO P s.env.get)++cs=Ca (BN rl) ds:=by push_cast(config:= {maxSteps:=9999999}) [z]<;>with_unfolding_all exact Bl _)(hg:gd=none∨∃ j want t,gd=some (j,want)/\BS ops j=some t/\gOf (s.env.get t) want=some true:=by first|exact .inl rfl|exact .inr ⟨_,_,_,rfl,rfl,rfl⟩)
  (hl:ltL 4 ds=true:=by push_cast(config:= {maxSteps:=9999999}) [z]<;>with_unfolding_all exact Bl _) (hh:BD (BN rl) (Ai s.hp) H:=by push_cast(config:= {maxSteps:=9999999}) [z]<;>with_unfolding_all exact Bl _) (hok:Dj (2*(nx+4*pos)) (BN rl) H H'=true:=by push_cast(config:= {maxSteps:=9999999}) [z]<;>with_unfolding_all exact Bl _):Af P ops nx (⟨dst,.call {callee:=.value x,args:=args,argTypes:=ts},T,ps,af,gd⟩::l) pos acc s K:=Af.scallV (BN rl) hx hc hg ha hl hh hok hk
theorem Zq{bs:List Nat}(hc:A3 P f ds r)(ho:Fd (Ai s.hp) (args.toList.map (evO P s.env.get)))(hk:GoS P ops nx l (pos+1) (⟨r,[],bs⟩::acc) (s.app dst ⟨r,[],bs⟩) K)(hbs:EF (args.toList.map (evO P s.env.get))=bs:=by (try push_cast(config:= {maxSteps:=9999999}) [z]);rfl)(ha:sm ((args.toList.map (evO P s.env.get)).map (FF (Ai s.hp))) ds:=by (try push_cast(config:= {maxSteps:=9999999}) [z]);exact PQ _)(hg:gd=none∨∃ j want t,gd=some (j,want)/\BS ops j=some t/\gOf (s.env.get t) want=some true:=by first|exact .inl rfl|exact .inr ⟨_,_,_,rfl,rfl,rfl⟩)
  (hpu:Av ds=true:=by push_cast(config:= {maxSteps:=9999999}) [z]) (hf:ED r=true:=by push_cast(config:= {maxSteps:=9999999}) [z]):Af P ops nx (⟨dst,.call {callee:=.value (.func f),args:=args,argTypes:=ts},T,ps,af,gd⟩::l) pos acc s K:=Af.borrow hbs hc hg ha ho hpu hf hk
theorem Zg{bs:List Nat}(hc:A3 P f ds r)(ho:Fd (Ai s.hp) (args.toList.map (evO P s.env.get)))(hk:GoS P ops nx l (pos+1) (⟨r,bs.map fun c=>(c,none),bs⟩::acc) (s.app dst ⟨r,bs.map fun c=>(c,none),bs⟩) K)(hbs:EF (args.toList.map (evO P s.env.get))=bs:=by (try push_cast(config:= {maxSteps:=9999999}) [z]);rfl)(ha:sm ((args.toList.map (evO P s.env.get)).map (FF (Ai s.hp))) ds:=by (try push_cast(config:= {maxSteps:=9999999}) [z]);exact PQ _)(hg:gd=none∨∃ j want t,gd=some (j,want)/\BS ops j=some t/\gOf (s.env.get t) want=some true:=by first|exact .inl rfl|exact .inr ⟨_,_,_,rfl,rfl,rfl⟩)
  (hpu:Av ds=true:=by push_cast(config:= {maxSteps:=9999999}) [z]):Af P ops nx (⟨dst,.call {callee:=.value (.func f),args:=args,argTypes:=ts},T,ps,af,gd⟩::l) pos acc s K:=Af.give hbs hc hg ha ho hpu hk
end
theorem Zo{ops:Array Oper}{E:List Eff}{sk:List (List Nat×List Nat)}(h:FL E=sk:=by push_cast(config:= {maxSteps:=9999999}) [FL,z];rfl)(k:DK ops sk=true:=by kernel_rfl):S4 ops E:=Lu h k
theorem Zp{ops:Array Oper}{E:List Eff}{sk:List (List Nat×List Nat)}(h:FL E=sk:=by push_cast(config:= {maxSteps:=9999999}) [FL];rfl)(k:DK ops sk=true:=by kernel_rfl):S4 ops E:=Lu h k
theorem Zw{s S:St}(he:Di id s.env S.env)(hh:Lk s.nx id s.hp S.hp)(hok:Jg S.nx S.env=true)(hokh:ND S.nx S.hp=true)(hinj:Sk id S.hp=true):Ar s S:=Ar.sub id (fun _ _=>rfl) he hh hok hokh hinj
theorem Zr{s S:St}(rl:List (Nat×Nat))(hr:(rl.all fun p=>p.1%2==0)=true)(he:Di (BN rl) s.env S.env)(hh:Lk s.nx (BN rl) s.hp S.hp)(hok:Jg S.nx S.env=true)(hokh:ND S.nx S.hp=true)(hinj:Sk (BN rl) S.hp=true):Ar s S:=Ar.sub (BN rl) (RK hr) he hh hok hokh hinj
section
variable{nt:Nat}{f:FuncId}{fn:Func}{c:Code}{ds:List D}{H:Hp}{r:D}{H':Hp}{ra:Array ResultVar}
theorem Zb(fz:List Nat)(hf:prog.funcs[f]? =some fn)(hb:fn.body=some c)(hn:fn.ntmps=nt)(hrs:fn.results=ra)
  (h:(∀ t,szD (Env.get (Bq 0 ds) t))->(∀ b x,Ai H b=some x->szB x)->VCS prog nt fz c (Ny prog ra.toList r H') ⟨Bq 0 ds,H,4⟩)
  (hent:Bc prog f=true:=by kernel_rfl) (hlen:ds.length<=nt:=by simp) (hc:CN nt c=true:=by kernel_rfl):A4 prog f ds H r H':=
 A4.of_awp hf hb hn hent hlen (congrArg Array.toList hrs) (AWp.sz fun h0 h1=>VC.sound mixed hc (h h0 h1))
theorem Zk(fz:List Nat)(hf:prog.funcs[f]? =some fn)(hb:fn.body=some c)(hn:fn.ntmps=nt)(hrs:fn.results=ra)
  (h:(∀ t,szD (Env.get (Bq 0 ds) t))->(∀ b x,Ai [] b=some x->szB x)->VCS prog nt fz c (UY prog ra.toList r) ⟨Bq 0 ds,[],0⟩)
  (hent:Bc prog f=true:=by kernel_rfl) (hlen:ds.length<=nt:=by simp) (hc:CN nt c=true:=by kernel_rfl):A3 prog f ds r:=
 A3.of_awp hf hb hn hent hlen (congrArg Array.toList hrs) (AWp.sz fun h0 h1=>VC.sound mixed hc (h h0 h1))
theorem Zd(fz:List Nat)(hf:prog.funcs[f]? =some fn)(hb:fn.body=some c)(hn:fn.ntmps=nt)(hrs:fn.results=ra)
  (h:VCS prog nt fz c (Ny prog ra.toList r H') ⟨Bq 0 ds,H,4⟩)
  (hent:Bc prog f=true:=by kernel_rfl) (hlen:ds.length<=nt:=by simp) (hc:CN nt c=true:=by kernel_rfl):A4 prog f ds H r H':=
 A4.of_awp hf hb hn hent hlen (congrArg Array.toList hrs) (VC.sound mixed hc h)
theorem Zf(fz:List Nat)(hf:prog.funcs[f]? =some fn)(hb:fn.body=some c)(hn:fn.ntmps=nt)(hrs:fn.results=ra)
  (h:VCS prog nt fz c (UY prog ra.toList r) ⟨Bq 0 ds,[],0⟩)
  (hent:Bc prog f=true:=by kernel_rfl) (hlen:ds.length<=nt:=by simp) (hc:CN nt c=true:=by kernel_rfl):A3 prog f ds r:=
 A3.of_awp hf hb hn hent hlen (congrArg Array.toList hrs) (VC.sound mixed hc h)
end
theorem Zy{nt:Nat}{c:Code}{Q:AE->St->Prop}{s:St}(h:VCS prog nt [] c Q s)(hc:CN nt c=true:=by kernel_rfl):AWp prog nt c Q s:=VC.sound mixed hc h
theorem Zl{nt:Nat}{c:Code}{Q:AE->St->Prop}{s:St}(Inv:Nat->Prop)(S:Nat->St)(m:Nat->Nat)(i0:Nat)(hi:Inv i0)(h0:Ar s (S i0))
  (round:∀ i,Inv i->VCS prog nt [] c (ZQ (fun s'=>∃ j,Inv j/\m j<m i/\Ar s' (S j)) Q) (S i)) (hc:CN nt c=true:=by kernel_rfl):AWp prog nt (.loop c) Q s:=AWp.loopI mixed hc Inv S m i0 hi h0 round
theorem A3.res{P:Program}{f:FuncId}{ds:List D}{r r':D}(h:A3 P f ds r)(hl:Go.Ab.lo r r'):A3 P f ds r':=by
 unfold A3 at h|-
 exact⟨h.1,fun w I vs a b c d=>(h.2 w I vs a b c d).mono fun e w' ⟨v,I',he,hv,x⟩=>⟨v,I',he,hv.lo hl,x⟩⟩
theorem A4.res{P:Program}{f:FuncId}{ds:List D}{H H':Hp}{r r':D}(h:A4 P f ds H r H')(hl:Go.Ab.lo r r'):A4 P f ds H r' H':=by
 unfold A4 at h|-
 exact⟨h.1,fun w M0 G I mu vs a b c d=>(h.2 w M0 G I mu vs a b c d).mono fun e w' ⟨v,I',mu',he,hv,x⟩=>⟨v,I',mu',he,hv.lo hl,x⟩⟩
def bl(a:ByteArray):List UInt8:=a.data.toList
def Bo:List UInt8->List UInt8->Int
 |[],[]=>0
 |[],_::_=> -1
 |_::_,[]=>1
 |x::a,y::b=>if x=y then Bo a b else if x<y then-1 else 1
def Ep(a b:ByteArray):Int:=Bo (bl a) (bl b)
theorem Ee(a:ByteArray):(bl a).length=a.size:=rfl
theorem Ld{a b:ByteArray}(h:bl a=bl b):a=b:=by
 cases a;cases b;simp only[bl] at h;congr;exact Array.ext' h
theorem Y9(a:ByteArray)(i:Nat):NM a i=(((bl a).getD i 0).toNat:Int):=by simp[NM,bl]
theorem A9{n:Int}(h: -9223372036854775808<=n)(k:n<9223372036854775808):IntKind.i64.wrap n=n:=by
 simp only[IntKind.wrap,IntKind.bits,IntKind.signed];simp;omega
theorem BK{α:Type}[BEq α][LawfulBEq α]{a b:α}(h:(a !=b)=false):a=b:=by simpa using h
theorem wrap_u8(x:UInt8):IntKind.i64.wrap (x.toNat:Int)=x.toNat:=by
 have:=x.toNat_lt
 exact A9 (by omega) (by omega)
theorem BI{α:Type}{l:List α}{i:Nat}{d:α}(h:i<l.length):l.drop i=l.getD i d::l.drop (i+1):=by
 rw[List.drop_eq_getElem_cons h,A03,A06 h,A0D]
theorem PE:∀ (a b:List UInt8) (i:Nat),i<=a.length->i<=b.length->(∀ j,j<i->a.getD j 0=b.getD j 0)->Bo a b=Bo (a.drop i) (b.drop i)
 |_,_,0,_,_,_=>by simp
 |[],_,i+1,h,_,_=>by simp at h
 |_::_,[],i+1,_,h,_=>by simp at h
 |x::a,y::b,i+1,h,k,e=>by
  have e0:=e 0 (by omega)
  simp only[A0K] at e0
  subst e0
  simp only[Bo,if_pos,List.drop_succ_cons]
  exact PE a b i (by simpa using h) (by simpa using k) fun j hj=>by simpa using e (j+1) (by omega)
def E2(a b:Int):Int:=if a<b then-1 else if b<a then 1 else 0
inductive GV where
 |mk (kind:Int) (b:Bool) (n:Int) (s:ByteArray) (list:List GV) (obj:List (ByteArray×GV))
namespace GV
def kind:GV->Int|mk k _ _ _ _ _=>k
def b:GV->Bool|mk _ b _ _ _ _=>b
def n:GV->Int|mk _ _ n _ _ _=>n
def s:GV->ByteArray|mk _ _ _ s _ _=>s
def list:GV->List GV|mk _ _ _ _ l _=>l
def obj:GV->List (ByteArray×GV)|mk _ _ _ _ _ o=>o
theorem list_lt{x v:GV}(h:x ∈ v.list):SizeOf.sizeOf x<SizeOf.sizeOf v:=by
 cases v with
 |mk k b n s l o=>have:=List.sizeOf_lt_of_mem (show x ∈ l from h);simp;omega
theorem obj_lt{x:ByteArray×GV}{v:GV}(h:x ∈ v.obj):SizeOf.sizeOf x.2<SizeOf.sizeOf v:=by
 cases v with
 |mk k b n s l o=>
  have:=List.sizeOf_lt_of_mem (show x ∈ o from h)
  cases x;simp at this|-;omega
end GV
mutual
def Aa:GV->List D
 |.mk k b n s l o=>[.val (.int .i64 k),.val (.bool b),.val (.int .i64 n),.val (.string s),.slice (Ki l) false,.slice (Kk o) false]
def Ki:List GV->List (List D)
 |[]=>[]
 |v::l=>Aa v::Ki l
def Kk:List (ByteArray×GV)->List (List D)
 |[]=>[]
 |(k,v)::l=>(.val (.string k)::Aa v)::Kk l
end
theorem Pn:∀ l:List GV,Ki l=l.map Aa
 |[]=>rfl
 |v::l=>by simp[Ki,Pn l]
def Ac(p:ByteArray×GV):List D:=.val (.string p.1)::Aa p.2
theorem Pu:∀ l:List (ByteArray×GV),Kk l=l.map Ac
 |[]=>rfl
 |(k,v)::l=>by simp[Kk,Pu l,Ac]
theorem A0(v:GV):Aa v=[.val (.int .i64 v.kind),.val (.bool v.b),.val (.int .i64 v.n),.val (.string v.s),.slice (v.list.map Aa) false,.slice (v.obj.map Ac) false]:=by
 cases v;simp only[Aa,Pn,Pu,GV.kind,GV.b,GV.n,GV.s,GV.list,GV.obj]
theorem Ao(p:ByteArray×GV):Ac p=.val (.string p.1)::Aa p.2:=rfl
mutual
theorem Bh:∀ v:GV,Av (Aa v)=true
 |.mk k b n s l o=>by simp only[Aa,Av,D.pure,N1 l,N6 o,A0X]
theorem N1:∀ l:List GV,Am (Ki l)=true
 |[]=>rfl
 |v::l=>by simp only[Ki,Am,Bh v,N1 l,A0X]
theorem N6:∀ l:List (ByteArray×GV),Am (Kk l)=true
 |[]=>rfl
 |(k,v)::l=>by simp only[Kk,Am,Av,D.pure,Bh v,N6 l,A0X]
end
theorem AS(v:GV):(Aa v).length=6:=by rw[A0];rfl
theorem AA{α:Type}{f:α->List D}(h:∀ x,Av (f x)=true):∀ l:List α,Am (l.map f)=true
 |[]=>rfl
 |x::l=>by simp only[A0k,Am,h x,AA h l,A0X]
theorem J0(l:List GV):Am (l.map Aa)=true:=AA Bh l
theorem Bd(p:ByteArray×GV):Av (Ac p)=true:=by simp only[Ac,Av,D.pure,Bh,A0X]
theorem A7(l:List (ByteArray×GV)):Am (l.map Ac)=true:=AA Bd l
theorem DL{α:Type}{f:α->List D}{l:List α}{i:Nat}(d:α)(h:i<l.length):nr (l.map f) i=f (l.getD i d):=by
 simp[nr,A03,h]
abbrev zM:ByteArray×GV:=(ByteArray.empty,.mk 0 false 0 ByteArray.empty [] [])
def zV:GV:=.mk 0 false 0 ByteArray.empty [] []
theorem DM{l:List GV}{i:Nat}(h:i<l.length):nr (l.map Aa) i=Aa (l.getD i zV):=DL zV h
theorem AV{l:List (ByteArray×GV)}{i:Nat}(h:i<l.length):nr (l.map Ac) i=Ac (l.getD i zM):=DL _ h
theorem HL(v:GV):(Aa v).take 6=Aa v:=A0f (by rw[AS];exact A0e _)
attribute [push_cast] HL Bh J0 Bd A7 AS A0b
theorem Ad{α:Type}{l:List α}{i:Nat}{d:α}(h:i<l.length):l.getD i d ∈ l:=by
 rw[A03,A06 h];exact A18 h
def CR{α:Type}(f:α->α->Int):List α->List α->Int
 |[],[]=>0
 |[],_::_=> -1
 |_::_,[]=>1
 |x::a,y::b=>if f x y=0 then CR f a b else f x y
theorem JI{α:Type}(f:α->α->Int)(d:α):∀ (a b:List α) (i:Nat),i<=a.length->i<=b.length->(∀ j,j<i->f (a.getD j d) (b.getD j d)=0)->CR f a b=CR f (a.drop i) (b.drop i)
 |_,_,0,_,_,_=>by simp
 |[],_,i+1,h,_,_=>by simp at h
 |_::_,[],i+1,_,h,_=>by simp at h
 |x::a,y::b,i+1,h,k,e=>by
  have e0:=e 0 (by omega)
  simp only[A0K] at e0
  simp only[CR,if_pos e0,List.drop_succ_cons]
  exact JI f d a b i (by simpa using h) (by simpa using k) fun j hj=>by simpa using e (j+1) (by omega)
theorem EW{α:Type}(f:α->α->Int)(d:α)(a b:List α)(i:Nat)(h:i<=a.length)(k:i<=b.length)(e:∀ j,j<i->f (a.getD j d) (b.getD j d)=0)(o:¬(i<a.length/\i<b.length)):CR f a b=E2 a.length b.length:=by
 rw[JI f d a b i h k e]
 by_cases ha:i<a.length
 ·have:b.drop i=[]:=A0B (by omega)
  rw[this,BI (d:=d) ha];grind [CR,E2]
 ·have h1:a.drop i=[]:=A0B (by omega)
  rw[h1]
  by_cases hb:i<b.length
  ·rw[BI (d:=d) hb];grind [CR,E2]
  ·have:b.drop i=[]:=A0B (by omega)
   rw[this];grind [CR,E2]
theorem G1{α:Type}(f:α->α->Int)(d:α)(a b:List α)(i:Nat)(h:i<a.length)(k:i<b.length)(e:∀ j,j<i->f (a.getD j d) (b.getD j d)=0)(o:f (a.getD i d) (b.getD i d)≠0):CR f a b=f (a.getD i d) (b.getD i d):=by
 rw[JI f d a b i (by omega) (by omega) e,BI (d:=d) h,BI (d:=d) k]
 simp only[CR,if_neg o]
def Jq(a b:Bool):Int:=if a=b then 0 else if b then-1 else 1
def Jb:Nat->GV->GV->Int
 |0,_,_=>0
 |n+1,v,u=>
  if v.kind≠u.kind then E2 v.kind u.kind
  else if v.kind=2 then Jq v.b u.b
  else if v.kind=3 then E2 v.n u.n
  else if v.kind=4 then Ep v.s u.s
  else if v.kind=5 then CR (Jb n) v.list u.list
  else if v.kind=6 then CR (fun x y=>if Ep x.1 y.1=0 then Jb n x.2 y.2 else Ep x.1 y.1) v.obj u.obj
  else 0
def HC(n:Nat)(x y:ByteArray×GV):Int:=if Ep x.1 y.1=0 then Jb n x.2 y.2 else Ep x.1 y.1
theorem Bi(n:Nat)(v u:GV):Jb (n+1) v u=
  if v.kind≠u.kind then E2 v.kind u.kind
  else if v.kind=2 then Jq v.b u.b
  else if v.kind=3 then E2 v.n u.n
  else if v.kind=4 then Ep v.s u.s
  else if v.kind=5 then CR (Jb n) v.list u.list
  else if v.kind=6 then CR (HC n) v.obj u.obj
  else 0:=rfl
theorem EX(a b:Int):A3 prog 41 [.val (.int .i64 a),.val (.int .i64 b)] (.val (.int .i64 (E2 a b))):=by
 refine Zf [] func41 rfl ntmps41 results41 ?_
 ((try push_cast)<;>repeat' (first|apply Zi<;>intro _|exact Zp|with_reducible apply Za)<;>try push_cast)
 all_goals grind [E2]
theorem VM(a b:ByteArray):A3 prog 42 [.val (.string a),.val (.string b)] (.val (.int .i64 (Ep a b))):=by
 refine Zk [] func42 rfl ntmps42 results42 fun H Hb=>?_
 have h0:=H 0;push_cast at h0
 push_cast
 refine Zl (fun i=>i<=a.size/\i<=b.size/\∀ j,j<i->(bl a).getD j 0=(bl b).getD j 0) (fun i=>⟨[(5,.val (.int .i64 i)),(0,.val (.string a)),(1,.val (.string b))],[],0⟩) (fun i=>a.size-i) 0 (by simp) ?_ fun i hi=>?_
 ·apply Zw<;>push_cast
 ·obtain⟨h1,h2,h3⟩:=hi
  have hd:=PE (bl a) (bl b) i h1 h2 h3
  (have z:=trivial;(try push_cast)<;>repeat' (first|apply Zi<;>intro _|refine Zc (EX ..) ?_|exact Zp|with_reducible apply Za)<;>try push_cast)
  all_goals simp only[decide_eq_true_eq,decide_eq_false_iff_not,Y9,wrap_u8] at*
  all_goals first|omega|skip
  ·have e1:(bl a).drop i=(bl a).getD i 0::(bl a).drop (i+1):=BI (by rw[Ee];omega)
   have e2:(bl b).drop i=(bl b).getD i 0::(bl b).drop (i+1):=BI (by rw[Ee];omega)
   rename_i h
   rw[Ep,hd,e1,e2]
   generalize(bl a).getD i 0=x at*
   generalize(bl b).getD i 0=y at*
   have hxy:x≠y:=fun e=>by subst e;simp at h
   simp only[Bo,if_neg hxy,E2,UInt8.lt_iff_toNat_lt]
   have:=fun e=>hxy (UInt8.toNat_inj.1 e)
   grind
  ·rename_i h
   refine⟨i+1,⟨by omega,by omega,fun j hj=>?_⟩,by omega,?_⟩
   ·by_cases hji:j=i
    ·subst hji
     have h:=BK h
     exact UInt8.toNat_inj.1 (Int.ofNat_inj.1 h)
    ·exact h3 j (by omega)
   ·apply Zw<;>push_cast
    rw[A9 (by omega) (by omega)]
  ·rw[Ep,hd]
   have:(bl b).drop i=[]:=A0B (by rw[Ee];omega)
   have e1:(bl a).drop i=(bl a).getD i 0::(bl a).drop (i+1):=BI (by rw[Ee];omega)
   rw[this,e1]
   grind [E2,Bo]
  ·rw[Ep,hd]
   have:(bl a).drop i=[]:=A0B (by rw[Ee];omega)
   have hi:i=a.size:=by omega
   rw[this]
   by_cases hb:a.size=b.size
   ·have:(bl b).drop i=[]:=A0B (by rw[Ee];omega)
    rw[this]
    simp[Bo,E2,hb]
   ·have e2:(bl b).drop i=(bl b).getD i 0::(bl b).drop (i+1):=BI (by rw[Ee];omega)
    rw[e2]
    grind [E2,Bo]
theorem QK(n:Nat):∀ (v u:GV),SizeOf.sizeOf v<=n->A3 prog 26 [.agg (Aa v),.agg (Aa u)] (.val (.int .i64 (Jb n v u))):=by
 induction n with
 |zero=>intro v u h;cases v;simp at h
 |succ n ih=>
 intro v u hn
 rw[A0 v,A0 u]
 refine Zk [] func26 rfl ntmps26 results26 fun H Hb=>?_
 have h0:=H 0;push_cast at h0
 (have z:=trivial;(try push_cast)<;>repeat' (first|apply Zi<;>intro _|refine Zc (EX ..) ?_|refine Zc (VM ..) ?_|exact Zp|with_reducible apply Za)<;>try push_cast)
 all_goals simp only[beq_iff_eq,beq_eq_false_iff_ne,bne_iff_ne] at*
 ·grind [Bi]
 ·grind [Bi,Jq]
 ·grind [Bi,Jq]
 ·grind [Bi,Jq]
 ·grind [Bi]
 ·grind [Bi]
 ·rename_i hk _ _ _ h5
  refine Zl (fun i=>i<=v.list.length/\i<=u.list.length/\∀ j,j<i->Jb n (v.list.getD j zV) (u.list.getD j zV)=0) (fun i=>⟨[(5,.val (.int .i64 i)),(2,.ref 0 0 0 6),(3,.ref 8 0 0 6)],[(0,.rows [Aa v] 6),(8,.rows [Aa u] 6)],8⟩) (fun i=>v.list.length-i) 0 (by simp) ?_ fun i hi=>?_
  ·apply Zw<;>push_cast [A0 v,A0 u]
  ·obtain⟨h1,h2,h3⟩:=hi
   push_cast[A0 v,A0 u]
   refine A6 (fun ha=>?_) (fun ha=>?_)
   ·push_cast[A0 v,A0 u]
    refine A6 (fun hb=>?_) (fun hb=>?_)
    ·have ha':i<v.list.length:=by simpa using ha
     have hb':i<u.list.length:=by simpa using hb
     have ea:=DM ha'
     have eb:=DM hb'
     have hs:SizeOf.sizeOf (v.list.getD i zV)<=n:=by
      have:=GV.list_lt (Ad (d:=zV) ha');omega
     (have z:=Za ea<|Za eb<|Za (A0 v) (A0 u);(try push_cast[z])<;>repeat' (first|apply Zi<;>intro _|exact Zo|with_reducible apply Za|(with_reducible show Af _ _ _ _ _ _ _ _;refine Af.call (by(try push_cast[z]);exact ih _ _ (by assumption)) (by first|exact .inl rfl|exact .inr ⟨_,_,_,rfl,rfl,rfl⟩) rfl (by first|rfl|push_cast [z]) ?_)<;>try push_cast[z]|fail)<;>try push_cast[z])
     all_goals first|omega|skip
     ·rename_i h
      have h:=bne_iff_ne.1 h
      have e:=G1 (Jb n) zV v.list u.list i ha' hb' h3 h
      grind [Bi]
     ·rename_i h
      have h:=BK h
      refine⟨i+1,⟨by omega,by omega,fun j hj=>?_⟩,by omega,?_⟩
      ·by_cases hji:j=i
       ·subst hji;exact h
       ·exact h3 j (by omega)
      ·apply Zw<;>push_cast [A0 v,A0 u]
       rw[A9 (by omega) (by omega)]
    ·(have z:=Za (A0 v) (A0 u);(try push_cast[z])<;>repeat' (first|apply Zi<;>intro _|refine Zc (EX ..) ?_|exact Zo|with_reducible apply Za)<;>try push_cast[z])
     have e:=EW (Jb n) zV v.list u.list i h1 h2 h3 (fun⟨_,h⟩=>by simp at hb;omega)
     grind [Bi]
   ·(have z:=Za (A0 v) (A0 u);(try push_cast[z])<;>repeat' (first|apply Zi<;>intro _|refine Zc (EX ..) ?_|exact Zo|with_reducible apply Za)<;>try push_cast[z])
    have e:=EW (Jb n) zV v.list u.list i h1 h2 h3 (fun⟨h,_⟩=>by simp at ha;omega)
    grind [Bi]
 ·rename_i hk _ _ _ _ h5
  refine Zl (fun i=>i<=v.obj.length/\i<=u.obj.length/\∀ j,j<i->HC n (v.obj.getD j zM) (u.obj.getD j zM)=0) (fun i=>⟨[(7,.val (.int .i64 i)),(2,.ref 0 0 0 6),(3,.ref 8 0 0 6)],[(0,.rows [Aa v] 6),(8,.rows [Aa u] 6)],8⟩) (fun i=>v.obj.length-i) 0 (by simp) ?_ fun i hi=>?_
  ·apply Zw<;>push_cast [A0 v,A0 u]
  ·obtain⟨h1,h2,h3⟩:=hi
   push_cast[A0 v,A0 u]
   refine A6 (fun ha=>?_) (fun ha=>?_)
   ·push_cast[A0 v,A0 u]
    refine A6 (fun hb=>?_) (fun hb=>?_)
    ·have ha':i<v.obj.length:=by simpa using ha
     have hb':i<u.obj.length:=by simpa using hb
     have ea:=AV ha'
     have eb:=AV hb'
     have hs:SizeOf.sizeOf (v.obj.getD i zM).2<=n:=by
      have:=GV.obj_lt (Ad (d:=zM) ha');omega
     (have z:=Za ea<|Za eb<|Za @Ao<|Za (A0 v) (A0 u);(try push_cast[z])<;>repeat' (first|apply Zi<;>intro _|refine Zc (VM ..) ?_|exact Zo|with_reducible apply Za|(with_reducible show Af _ _ _ _ _ _ _ _;refine Af.call (by(try push_cast[z]);exact ih _ _ (by assumption)) (by first|exact .inl rfl|exact .inr ⟨_,_,_,rfl,rfl,rfl⟩) rfl (by first|rfl|push_cast [z]) ?_)<;>try push_cast[z]|fail)<;>try push_cast[z])
     all_goals first|omega|skip
     ·rename_i h
      have h:=bne_iff_ne.1 h
      have h':HC n (v.obj.getD i zM) (u.obj.getD i zM)≠0:=by simp only[HC,if_neg h];exact h
      have e:=G1 (HC n) zM v.obj u.obj i ha' hb' h3 h'
      simp only[HC,if_neg h] at e
      grind [Bi]
     ·rename_i g h
      have g:=BK g
      have h:=bne_iff_ne.1 h
      have h':HC n (v.obj.getD i zM) (u.obj.getD i zM)≠0:=by simp only[HC,if_pos g];exact h
      have e:=G1 (HC n) zM v.obj u.obj i ha' hb' h3 h'
      simp only[HC,if_pos g] at e
      grind [Bi]
     ·rename_i g h
      have g:=BK g
      have h:=BK h
      refine⟨i+1,⟨by omega,by omega,fun j hj=>?_⟩,by omega,?_⟩
      ·by_cases hji:j=i
       ·subst hji;simp only[HC,if_pos g];exact h
       ·exact h3 j (by omega)
      ·apply Zw<;>push_cast [A0 v,A0 u]
       rw[A9 (by omega) (by omega)]
    ·(have z:=Za (A0 v) (A0 u);(try push_cast[z])<;>repeat' (first|apply Zi<;>intro _|refine Zc (EX ..) ?_|exact Zo|with_reducible apply Za)<;>try push_cast[z])
     have e:=EW (HC n) zM v.obj u.obj i h1 h2 h3 (fun⟨_,h⟩=>by simp at hb;omega)
     grind [Bi]
   ·(have z:=Za (A0 v) (A0 u);(try push_cast[z])<;>repeat' (first|apply Zi<;>intro _|refine Zc (EX ..) ?_|exact Zo|with_reducible apply Za)<;>try push_cast[z])
    have e:=EW (HC n) zM v.obj u.obj i h1 h2 h3 (fun⟨h,_⟩=>by simp at ha;omega)
    grind [Bi]
 ·grind [Bi]
theorem SV:∀ (a b:List UInt8),Lib.compareBytes a b=Bo a b
 |[],[]=>rfl
 |[],_::_=>rfl
 |_::_,[]=>rfl
 |x::a,y::b=>by
  simp only[Lib.compareBytes,Bo,SV a b]
  by_cases h:x=y
  ·subst h;simp[UInt8.lt_irrefl]
  ·rw[if_neg h]
   by_cases h1:x<y
   ·simp[h1]
   ·have:y<x:=UInt8.lt_of_le_of_ne (UInt8.not_lt.1 h1) (fun e=>h e.symm)
    simp[h1,this]
theorem Rj(a b:ByteArray):UZ prog 194 [.val (.string a),.val (.string b)] (.val (.int .i64 (Ep a b))):=
 UZ.of (e:=Extern.BytealgCompare.compare) func194 (by kernel_rfl) (by kernel_rfl) (by kernel_rfl) (by kernel_rfl) fun w I mu vs h=>by
  obtain⟨v,u,rfl,hv,hu⟩:=h.two
  have ha:=hv.val_inv;have hb:=hu.val_inv
  subst ha hb
  refine⟨_,Lib.run_compareString a b w,?_⟩
  rw[SV]
  refine .val _ ?_
  have:∀ x y:List UInt8,-1<=Bo x y/\Bo x y<=1:=by
   intro x
   induction x with
   |nil=>intro y;cases y<;>simp [Bo]
   |cons p x ih=>intro y;cases y with
    |nil=>simp [Bo]
    |cons q y=>simp only[Bo];have:=ih y;split<;>(try split)<;>omega
  have:=this a.data.toList b.data.toList
  simp only[okP,E9,Ea,Ep,bl];omega
theorem L9(a b:ByteArray):A3 prog 150 [.val (.string a),.val (.string b)] (.val (.int .i64 (Ep a b))):=by
 refine Zf [] func150 rfl ntmps150 results150 ?_
 (have z:=trivial;(try push_cast)<;>repeat' (first|apply Zi<;>intro _|exact Zp|with_reducible apply Za|(with_reducible show Af _ _ _ _ _ _ _ _;refine Af.ext (by(try push_cast);exact Rj ..) (by first|exact .inl rfl|exact .inr ⟨_,_,_,rfl,rfl,rfl⟩) rfl ?_)<;>try push_cast|fail)<;>try push_cast)
theorem G6(a b:ByteArray):A3 prog 106 [.val (.string a),.val (.string b)] (.val (.int .i64 (Ep a b))):=by
 refine Zf [] func106 rfl ntmps106 results106 ?_
 (have z:=trivial;(try push_cast)<;>repeat' (first|apply Zi<;>intro _|refine Zc (L9 ..) ?_|exact Zp|with_reducible apply Za)<;>try push_cast)
theorem Xx(a:Int):A3 prog 149 [.val (.int .i64 a)] (.val (.bool false)):=by
 refine Zf [] func149 rfl ntmps149 results149 ?_
 ((try push_cast)<;>repeat' (first|apply Zi<;>intro _|exact Zp|with_reducible apply Za)<;>try push_cast)
theorem c_isNaNK(a:Int):A3 prog 148 [.val (.int .i64 a)] (.val (.bool false)):=by
 refine Zf [] func148 rfl ntmps148 results148 ?_
 ((try push_cast)<;>repeat' (first|apply Zi<;>intro _|exact Zp|with_reducible apply Za)<;>try push_cast)
theorem c_isNaNi(a:Int):A3 prog 195 [.val (.int .i64 a)] (.val (.bool false)):=by
 refine Zf [] func195 rfl ntmps195 results195 ?_
 ((try push_cast)<;>repeat' (first|apply Zi<;>intro _|exact Zp|with_reducible apply Za)<;>try push_cast)
theorem c_cmp64(a b:Int):A3 prog 105 [.val (.int .i64 a),.val (.int .i64 b)] (.val (.int .i64 (E2 a b))):=by
 refine Zf [] func105 rfl ntmps105 results105 ?_
 (have z:=trivial;(try push_cast)<;>repeat' (first|apply Zi<;>intro _|refine Zc (Xx ..) ?_|exact Zp|with_reducible apply Za)<;>try push_cast)
 all_goals grind [E2]
theorem c_cmpK(a b:Int):A3 prog 103 [.val (.int .i64 a),.val (.int .i64 b)] (.val (.int .i64 (E2 a b))):=by
 refine Zf [] func103 rfl ntmps103 results103 ?_
 (have z:=trivial;(try push_cast)<;>repeat' (first|apply Zi<;>intro _|refine Zc (c_isNaNK ..) ?_|exact Zp|with_reducible apply Za)<;>try push_cast)
 all_goals grind [E2]
theorem c_cmpi(a b:Int):A3 prog 151 [.val (.int .i64 a),.val (.int .i64 b)] (.val (.int .i64 (E2 a b))):=by
 refine Zf [] func151 rfl ntmps151 results151 ?_
 (have z:=trivial;(try push_cast)<;>repeat' (first|apply Zi<;>intro _|refine Zc (c_isNaNi ..) ?_|exact Zp|with_reducible apply Za)<;>try push_cast)
 all_goals grind [E2]
theorem c_rank(b:Bool):A3 prog 104 [.val (.bool b)] (.val (.int .i64 (if b then 1 else 0))):=by
 refine Zf [] func104 rfl ntmps104 results104 ?_
 ((try push_cast)<;>repeat' (first|apply Zi<;>intro _|exact Zp|with_reducible apply Za)<;>try push_cast)
 all_goals simp_all
theorem UN(a b:List GV)(g:Nat)(f:GV->GV->Int)(h:∀ x ∈ a,∀ y ∈ b,A3 prog g [.agg (Aa x),.agg (Aa y)] (.val (.int .i64 (f x y)))):
  A3 prog 107 [.slice (a.map Aa) false,.slice (b.map Aa) false,.func (.func g) [] []] (.val (.int .i64 (CR f a b))):=by
 refine Zk [] func107 rfl ntmps107 results107 fun H Hb=>?_
 have h0:=H 0;push_cast at h0
 have h1:=H 1;push_cast at h1
 push_cast
 refine Zl (fun i=>i<=a.length/\i<=b.length/\∀ j,j<i->f (a.getD j zV) (b.getD j zV)=0) (fun i=>⟨[(14,.val (.int .i64 i)),(13,.val (.int .i64 (if(b.length:Int)<a.length then b.length else a.length))),(0,.slice (a.map Aa) false),(1,.slice (b.map Aa) false),(2,.func (.func g) [] [])],[],0⟩) (fun i=>a.length-i) 0 (by simp) ?_ fun i hi=>?_
 ·apply Zw<;>push_cast
 ·obtain⟨h1,h2,h3⟩:=hi
  push_cast
  refine A6 (fun ha=>?_) (fun ha=>?_)
  ·have hab:i<a.length/\i<b.length:=by simp at ha;split at ha<;>omega
   obtain⟨ha',hb'⟩:=hab
   have ea:=DM ha'
   have eb:=DM hb'
   (have z:=Za ea eb;(try push_cast[z])<;>repeat' (first|apply Zi<;>intro _|refine Zv (h _ (Ad ha') _ (Ad hb')) ?_|exact Zo|with_reducible apply Za)<;>try push_cast[z])
   all_goals first|omega|skip
   ·rename_i k
    have k:=bne_iff_ne.1 k
    rw[G1 f zV a b i ha' hb' h3 k]
   ·rename_i k
    have k:=BK k
    refine⟨i+1,⟨by omega,by omega,fun j hj=>?_⟩,by omega,?_⟩
    ·by_cases hji:j=i
     ·subst hji;exact k
     ·exact h3 j (by omega)
    ·apply Zw<;>push_cast
     rw[A9 (by omega) (by omega)]
  ·have hab:¬(i<a.length/\i<b.length):=by simp at ha;split at ha<;>omega
   (have z:=trivial;(try push_cast)<;>repeat' (first|apply Zi<;>intro _|refine Zc (c_cmpi ..) ?_|exact Zp|with_reducible apply Za)<;>try push_cast)
   rw[EW f zV a b i h1 h2 h3 hab]
theorem Fa(p:ByteArray×GV):(Ac p).length=7:=by rw[Ao,A0g,AS]
theorem Db(p:ByteArray×GV):(Ac p).take 7=Ac p:=A0f (by rw[Fa];exact A0e _)
theorem UO(a b:List (ByteArray×GV))(g:Nat)(f:ByteArray×GV->ByteArray×GV->Int)(h:∀ x ∈ a,∀ y ∈ b,A3 prog g [.agg (Ac x),.agg (Ac y)] (.val (.int .i64 (f x y)))):
  A3 prog 108 [.slice (a.map Ac) false,.slice (b.map Ac) false,.func (.func g) [] []] (.val (.int .i64 (CR f a b))):=by
 refine Zk [] func108 rfl ntmps108 results108 fun H Hb=>?_
 have h0:=H 0;push_cast at h0
 have h1:=H 1;push_cast at h1
 push_cast
 refine Zl (fun i=>i<=a.length/\i<=b.length/\∀ j,j<i->f (a.getD j zM) (b.getD j zM)=0) (fun i=>⟨[(14,.val (.int .i64 i)),(13,.val (.int .i64 (if(b.length:Int)<a.length then b.length else a.length))),(0,.slice (a.map Ac) false),(1,.slice (b.map Ac) false),(2,.func (.func g) [] [])],[],0⟩) (fun i=>a.length-i) 0 (by simp) ?_ fun i hi=>?_
 ·apply Zw<;>push_cast
 ·obtain⟨h1,h2,h3⟩:=hi
  push_cast
  refine A6 (fun ha=>?_) (fun ha=>?_)
  ·have hab:i<a.length/\i<b.length:=by simp at ha;split at ha<;>omega
   obtain⟨ha',hb'⟩:=hab
   have ea:=AV ha'
   have eb:=AV hb'
   (have z:=Za ea<|Za eb<|Za @Db @Fa;(try push_cast[z])<;>repeat' (first|apply Zi<;>intro _|refine Zv (h _ (Ad ha') _ (Ad hb')) ?_|exact Zo|with_reducible apply Za)<;>try push_cast[z])
   all_goals first|omega|skip
   ·rename_i k
    have k:=bne_iff_ne.1 k
    rw[G1 f zM a b i ha' hb' h3 k]
   ·rename_i k
    have k:=BK k
    refine⟨i+1,⟨by omega,by omega,fun j hj=>?_⟩,by omega,?_⟩
    ·by_cases hji:j=i
     ·subst hji;exact k
     ·exact h3 j (by omega)
    ·apply Zw<;>push_cast
     rw[A9 (by omega) (by omega)]
  ·have hab:¬(i<a.length/\i<b.length):=by simp at ha;split at ha<;>omega
   (have z:=trivial;(try push_cast)<;>repeat' (first|apply Zi<;>intro _|refine Zc (c_cmpi ..) ?_|exact Zp|with_reducible apply Za)<;>try push_cast)
   rw[EW f zM a b i h1 h2 h3 hab]
theorem N2(v:GV):(Aa v).all BF=true:=by rw[A0];rfl
theorem Cf(p:ByteArray×GV):(Ac p).all BF=true:=by rw[Ao,A0];rfl
attribute [push_cast] N2 Cf
theorem L8(x y:ByteArray×GV)(c:Int)(h:A3 prog 68 [.agg (Aa x.2),.agg (Aa y.2)] (.val (.int .i64 c))):
  A3 prog 109 [.agg (Ac x),.agg (Ac y)] (.val (.int .i64 (if Ep x.1 y.1=0 then c else Ep x.1 y.1))):=by
 rw[Ao,Ao]
 refine Zf [] func109 rfl ntmps109 results109 ?_
 (have z:=trivial;(try push_cast)<;>repeat' (first|apply Zi<;>intro _|refine Zc (G6 ..) ?_|refine Zc h ?_|exact Zp|with_reducible apply Za)<;>try push_cast)
 all_goals grind
theorem XG(n:Nat):∀ (v u:GV),SizeOf.sizeOf v<=n->A3 prog 68 [.agg (Aa v),.agg (Aa u)] (.val (.int .i64 (Jb n v u))):=by
 induction n with
 |zero=>intro v u h;cases v;simp at h
 |succ n ih=>
 intro v u hn
 have hl:∀ x ∈ v.list,∀ y ∈ u.list,A3 prog 68 [.agg (Aa x),.agg (Aa y)] (.val (.int .i64 (Jb n x y))):=fun x hx y _=>ih x y (by have:=GV.list_lt hx;omega)
 have ho:∀ x ∈ v.obj,∀ y ∈ u.obj,A3 prog 109 [.agg (Ac x),.agg (Ac y)] (.val (.int .i64 (HC n x y))):=fun x hx y _=>L8 x y _ (ih x.2 y.2 (by have:=GV.obj_lt hx;omega))
 rw[A0 v,A0 u]
 refine Zk [] func68 rfl ntmps68 results68 fun H Hb=>?_
 have h0:=H 0;push_cast at h0
 (have z:=trivial;(try push_cast)<;>repeat' (first|apply Zi<;>intro _|refine Zc (c_cmpK ..) ?_|refine Zc (c_cmp64 ..) ?_|refine Zc (c_rank ..) ?_|refine Zc (G6 ..) ?_|exact Zp|with_reducible apply Za|(with_reducible show Af _ _ _ _ _ _ _ _;refine Af.call (by(try push_cast);exact UN _ _ _ _ hl) (by first|exact .inl rfl|exact .inr ⟨_,_,_,rfl,rfl,rfl⟩) rfl (by first|rfl|push_cast) ?_)<;>try push_cast|(with_reducible show Af _ _ _ _ _ _ _ _;refine Af.call (by(try push_cast);exact UO _ _ _ _ ho) (by first|exact .inl rfl|exact .inr ⟨_,_,_,rfl,rfl,rfl⟩) rfl (by first|rfl|push_cast) ?_)<;>try push_cast|fail)<;>try push_cast)
 all_goals simp only[beq_iff_eq,beq_eq_false_iff_ne,bne_iff_ne] at*
 all_goals first
  |grind [Bi]
  |(have e:E2 (if v.b=true then 1 else 0) (if u.b=true then 1 else 0)=Jq v.b u.b:=by cases v.b<;>cases u.b<;>rfl
    grind [Bi])
noncomputable def HE(v u:GV):Int:=Jb (SizeOf.sizeOf v) v u
theorem UR(v u:GV):A3 prog 68 [.agg (Aa v),.agg (Aa u)] (.val (.int .i64 (HE v u))):=XG _ v u (A0e _)
theorem Jp(v u:GV):A3 prog 26 [.agg (Aa v),.agg (Aa u)] (.val (.int .i64 (HE v u))):=QK _ v u (A0e _)
theorem Ft(v u:GV):A3 prog 45 [.agg (Aa v),.agg (Aa u)] (.val (.bool (HE v u==0))):=by
 refine Zf [] func45 rfl ntmps45 results45 ?_
 (have z:=trivial;(try push_cast)<;>repeat' (first|apply Zi<;>intro _|refine Zc (UR ..) ?_|exact Zp|with_reducible apply Za)<;>try push_cast)
abbrev GE:=ByteArray×GV
inductive GM where
 |mk (kind:Int) (key to:ByteArray) (n:Int) (had:Bool) (was:GV) (has:Bool) (value:GV) (list:List GM)
namespace GM
def kind:GM->Int|mk k _ _ _ _ _ _ _ _=>k
def key:GM->ByteArray|mk _ k _ _ _ _ _ _ _=>k
def to:GM->ByteArray|mk _ _ t _ _ _ _ _ _=>t
def n:GM->Int|mk _ _ _ n _ _ _ _ _=>n
def had:GM->Bool|mk _ _ _ _ h _ _ _ _=>h
def was:GM->GV|mk _ _ _ _ _ w _ _ _=>w
def has:GM->Bool|mk _ _ _ _ _ _ h _ _=>h
def value:GM->GV|mk _ _ _ _ _ _ _ v _=>v
def list:GM->List GM|mk _ _ _ _ _ _ _ _ l=>l
theorem list_lt{x m:GM}(h:x ∈ m.list):SizeOf.sizeOf x<SizeOf.sizeOf m:=by
 cases m with
 |mk k a b n h1 w h2 v l=>have:=List.sizeOf_lt_of_mem (show x ∈ l from h);simp;omega
end GM
mutual
def Aj:GM->List D
 |.mk k a b n h w i v l=>[.val (.int .i64 k),.val (.string a),.val (.string b),.val (.int .i64 n),.val (.bool h)]++Aa w++[.val (.bool i)]++Aa v++[.slice (Pp l) false]
def Pp:List GM->List (List D)
 |[]=>[]
 |m::l=>Aj m::Pp l
end
theorem Po:∀ l:List GM,Pp l=l.map Aj
 |[]=>rfl
 |v::l=>by simp[Pp,Po l]
theorem Ae(m:GM):Aj m=[.val (.int .i64 m.kind),.val (.string m.key),.val (.string m.to),.val (.int .i64 m.n),.val (.bool m.had)]++Aa m.was++[.val (.bool m.has)]++Aa m.value++[.slice (m.list.map Aj) false]:=by
 cases m;simp only[Aj,Po,GM.kind,GM.key,GM.to,GM.n,GM.had,GM.was,GM.has,GM.value,GM.list]
theorem Gr:∀ (a b:List D),Av (a++b)=(Av a&&Av b)
 |[],b=>by simp[Av]
 |d::a,b=>by simp[Av,Gr a b,Bool.and_assoc]
mutual
theorem AW:∀ m:GM,Av (Aj m)=true
 |.mk k a b n h w i v l=>by simp only[Aj,Gr,Av,D.pure,Bh,N3 l,A0X]
theorem N3:∀ l:List GM,Am (Pp l)=true
 |[]=>rfl
 |m::l=>by simp only[Pp,Am,AW m,N3 l,A0X]
end
theorem Fo(m:GM):(Aj m).length=19:=by rw[Ae];simp[AS]
theorem Uy(l:List GM):Am (l.map Aj)=true:=AA AW l
theorem encU_all(m:GM):(Aj m).all BF=true:=by rw[Ae];simp only[List.all_append,N2];rfl
theorem W9(m:GM):(Aj m).take 19=Aj m:=A0f (by rw[Fo];exact A0e _)
def zU:GM:=.mk 0 ByteArray.empty ByteArray.empty 0 false zV false zV []
theorem Cd{l:List GM}{i:Nat}(h:i<l.length):nr (l.map Aj) i=Aj (l.getD i zU):=DL zU h
attribute [push_cast] AW Uy Fo encU_all W9 Fa Db
structure GN where
 id:Int
 m:GM
def encN(x:GN):List D:=.val (.int .u64 x.id)::Aj x.m
structure GR where
 version:Int
 client:Int
 id:Int
 m:GM
 code:Int
def CI(x:GR):List D:=[.val (.int .u64 x.version),.val (.int .u64 x.client),.val (.int .u64 x.id)]++Aj x.m++[.val (.int .i64 x.code)]
theorem Fq(x:GR):CI x=[.val (.int .u64 x.version),.val (.int .u64 x.client),.val (.int .u64 x.id)]++Aj x.m++[.val (.int .i64 x.code)]:=rfl
theorem Pt(x:GR):Av (CI x)=true:=by simp only[CI,Gr,Av,D.pure,AW,A0X]
theorem Fp(x:GR):(CI x).length=23:=by simp[CI,Fo]
theorem B0(l:List GR):Am (l.map CI)=true:=AA Pt l
def zR:GR:=⟨0,0,0,zU,0⟩
theorem Gt{l:List GR}{i:Nat}(h:i<l.length):nr (l.map CI) i=CI (l.getD i zR):=DL zR h
attribute [push_cast] Pt B0 Fp
structure GI where
 client:Int
 cookie:Int
 last:Int
 next:Int
 base:List GE
 pending:List GN
structure GW where
 image:GI
 head:List GE
 saved:Int
def encI(x:GI):List D:=[.val (.int .u64 x.client),.val (.int .u64 x.cookie),.val (.int .u64 x.last),.val (.int .u64 x.next),.slice (x.base.map Ac) false,.slice (x.pending.map encN) false]
def encW(x:GW):List D:=[.val (.int .u64 x.image.client),.val (.int .u64 x.image.cookie),.val (.int .u64 x.image.last),.val (.int .u64 x.image.next),.slice (x.image.base.map Ac) false,.slice (x.image.pending.map encN) false,.slice (x.head.map Ac) false,.val (.int .u64 x.saved)]
theorem SG(x:GW):(encW x).length=8:=rfl
attribute [push_cast] SG
structure GS where
 version:Int
 map:List GE
 ran:List GR
def JF(x:GS):List D:=[.val (.int .u64 x.version),.slice (x.map.map Ac) false,.slice (x.ran.map CI) false]
theorem Ps(x:GS):Av (JF x)=true:=by simp only[JF,Av,D.pure,A7,B0,A0X]
theorem encS_all(x:GS):(JF x).all BF=true:=rfl
theorem SH(x:GS):(JF x).length=3:=rfl
theorem Wa(x:GS):(JF x).take 3=JF x:=rfl
theorem encW_all(x:GW):(encW x).all BF=true:=rfl
theorem W8(x:GW):(encW x).take 8=encW x:=rfl
attribute [push_cast] Ps encS_all SH Wa encW_all W8
noncomputable def Fh(p q:GE):Bool:=p.1.toList==q.1.toList&&HE p.2 q.2==0
noncomputable def BM:List GE->List GE->Bool
 |[],[]=>true
 |p::a,q::b=>Fh p q&&BM a b
 |_,_=>false
theorem Jd:∀ {a b:List GE},BM a b=true->a.length=b.length
 |[],[],_=>rfl
 |p::a,q::b,h=>by simp only[BM,A0c] at h;simp[Jd h.2]
 |[],_::_,h=>by simp[BM] at h
 |_::_,[],h=>by simp[BM] at h
theorem NQ:∀ {a b:List GE},BM a b=true->∀ i,i<a.length->Fh (a.getD i zM) (b.getD i zM)=true
 |[],[],_,i,h=>by simp at h
 |p::a,q::b,h,0,_=>by simp only[BM,A0c] at h;simpa using h.1
 |p::a,q::b,h,i+1,hi=>by simp only[BM,A0c] at h;simpa using NQ h.2 i (by simpa using hi)
 |[],_::_,h,_,_=>by simp[BM] at h
 |_::_,[],h,_,_=>by simp[BM] at h
theorem KD:∀ {a b:List GE},a.length=b.length->(∀ i,i<a.length->Fh (a.getD i zM) (b.getD i zM)=true)->BM a b=true
 |[],[],_,_=>rfl
 |p::a,q::b,h,k=>by
  simp only[BM,A0c]
  exact⟨by simpa using k 0 (by simp),KD (by simpa using h) fun i hi=>by simpa using k (i+1) (by simpa using hi)⟩
 |[],_::_,h,_=>by simp at h
 |_::_,[],h,_=>by simp at h
theorem FN{a b:List GE}(h:a.length≠b.length):BM a b=false:=by
 cases hs:BM a b with
 |false=>rfl
 |true=>exact absurd (Jd hs) h
theorem Dq{a b:List GE}{i:Nat}(hi:i<a.length)(h:Fh (a.getD i zM) (b.getD i zM)=false):BM a b=false:=by
 cases hs:BM a b with
 |false=>rfl
 |true=>have:=NQ hs i hi;rw[h] at this;cases this
theorem FE(a b:List GE):A3 prog 13 [.slice (a.map Ac) false,.slice (b.map Ac) false] (.val (.bool (BM a b))):=by
 refine Zk [] func13 rfl ntmps13 results13 fun H Hb=>?_
 have h0:=H 0;push_cast at h0
 have h1:=H 1;push_cast at h1
 ((try push_cast)<;>repeat' (first|apply Zi<;>intro _|exact Zp|with_reducible apply Za)<;>try push_cast)
 ·rename_i h
  have h:=bne_iff_ne.1 h
  rw[FN (fun e=>h (by rw[e]))]
 ·rename_i hl
  have hl:a.length=b.length:=by have:=BK hl;omega
  refine Zl (fun i=>i<=a.length/\∀ j,j<i->Fh (a.getD j zM) (b.getD j zM)=true) (fun i=>⟨[(5,.val (.int .i64 i)),(0,.slice (a.map Ac) false),(1,.slice (b.map Ac) false)],[],0⟩) (fun i=>a.length-i) 0 (by simp) ?_ fun i hi=>?_
  ·apply Zw<;>push_cast
  ·obtain⟨h2,h3⟩:=hi
   push_cast
   refine A6 (fun ha=>?_) (fun ha=>?_)
   ·have ha':i<a.length:=by simpa using ha
    have hb':i<b.length:=by omega
    have ea:=AV ha'
    have eb:=AV hb'
    (have z:=Za ea<|Za eb @Ao;(try push_cast[z])<;>repeat' (first|apply Zi<;>intro _|refine Zc (Jp ..) ?_|exact Zo|with_reducible apply Za)<;>try push_cast[z])
    all_goals first|omega|skip
    ·rename_i h
     exact(Dq ha' (by simp only[Fh];simp only[A1e] at h;rw[h];rfl)).symm
    ·rename_i g h
     have h:=bne_iff_ne.1 h
     exact(Dq ha' (by simp only[Fh];rw[show(HE (a.getD i zM).2 (b.getD i zM).2==0)=false by simpa using h];simp)).symm
    ·rename_i g h
     have h:=BK h
     refine⟨i+1,⟨by omega,fun j hj=>?_⟩,by omega,?_⟩
     ·by_cases hji:j=i
      ·subst hji;simp only[A1q] at g;simp only[Fh,g,h];rfl
      ·exact h3 j (by omega)
     ·apply Zw<;>push_cast
      rw[A9 (by omega) (by omega)]
   ·((try push_cast)<;>repeat' (first|apply Zi<;>intro _|exact Zp|with_reducible apply Za)<;>try push_cast)
    have:i=a.length:=by simp at ha;omega
    exact(KD hl fun j hj=>h3 j (by omega)).symm
theorem c_same(a b:List GE):A3 prog 30 [.slice (a.map Ac) false,.slice (b.map Ac) false] (.val (.bool (BM a b))):=by
 refine Zk [] func30 rfl ntmps30 results30 fun H Hb=>?_
 have h0:=H 0;push_cast at h0
 have h1:=H 1;push_cast at h1
 ((try push_cast)<;>repeat' (first|apply Zi<;>intro _|exact Zp|with_reducible apply Za)<;>try push_cast)
 ·rename_i h
  have h:=bne_iff_ne.1 h
  rw[FN (fun e=>h (by rw[e]))]
 ·rename_i hl
  have hl:a.length=b.length:=by have:=BK hl;omega
  refine Zl (fun i=>i<=a.length/\∀ j,j<i->Fh (a.getD j zM) (b.getD j zM)=true) (fun i=>⟨[(14,.val (.int .i64 i)),(13,.val (.int .i64 a.length)),(12,.slice (a.map Ac) false),(1,.slice (b.map Ac) false)],[],0⟩) (fun i=>a.length-i) 0 (by simp) ?_ fun i hi=>?_
  ·apply Zw<;>push_cast
  ·obtain⟨h2,h3⟩:=hi
   push_cast
   refine A6 (fun ha=>?_) (fun ha=>?_)
   ·have ha':i<a.length:=by simpa using ha
    have hb':i<b.length:=by omega
    have ea:=AV ha'
    have eb:=AV hb'
    (have z:=Za ea<|Za eb @Ao;(try push_cast[z])<;>repeat' (first|apply Zi<;>intro _|refine Zc (Ft ..) ?_|exact Zo|with_reducible apply Za)<;>try push_cast[z])
    all_goals first|omega|skip
    ·rename_i h
     exact(Dq ha' (by simp only[Fh];simp only[A1e] at h;rw[h];rfl)).symm
    ·rename_i g h
     exact(Dq ha' (by simp only[Fh];simp only[A1e] at h;rw[h];simp)).symm
    ·rename_i g h
     refine⟨i+1,⟨by omega,fun j hj=>?_⟩,by omega,?_⟩
     ·by_cases hji:j=i
      ·subst hji;simp only[A1q] at g h;simp only[Fh,g,h];rfl
      ·exact h3 j (by omega)
     ·apply Zw<;>push_cast
      rw[A9 (by omega) (by omega)]
   ·((try push_cast)<;>repeat' (first|apply Zi<;>intro _|exact Zp|with_reducible apply Za)<;>try push_cast)
    have:i=a.length:=by simp at ha;omega
    exact(KD hl fun j hj=>h3 j (by omega)).symm
theorem WM(a:Int):E2 a a=0:=by simp[E2]
theorem PD:∀ a:List UInt8,Bo a a=0
 |[]=>rfl
 |x::a=>by simp[Bo,PD a]
theorem PF(a:ByteArray):Ep a a=0:=PD _
theorem baLoop(a:ByteArray):∀ (n i:Nat) (r:List UInt8),a.size-i=n->ByteArray.toList.loop a i r=r.reverse++a.data.toList.drop i:=by
 intro n
 induction n with
 |zero=>
  intro i r h
  unfold ByteArray.toList.loop
  have:¬i<a.size:=by omega
  rw[if_neg this]
  have h2:a.data.toList.length<=i:=by have:a.size=a.data.toList.length:=rfl
                                      omega
  simp[A0B h2]
 |succ n ih=>
  intro i r h
  unfold ByteArray.toList.loop
  have hi:i<a.size:=by omega
  rw[if_pos hi,ih (i+1) _ (by omega)]
  have h3:i<a.data.toList.length:=hi
  have h4:a.get! i=a.data.toList[i]:=by
   have h5:i<a.data.size:=hi
   show a.data[i]! =a.data.toList[i]
   rw[getElem!_pos a.data i h5];simp
  rw[List.drop_eq_getElem_cons h3,h4]
  simp
theorem baL(a:ByteArray):a.toList=a.data.toList:=by
 unfold ByteArray.toList
 rw[baLoop a _ 0 [] rfl]
 simp
theorem Nv(a b:ByteArray):(a.toList==b.toList)=decide (a=b):=by
 rw[baL,baL]
 by_cases h:a=b
 ·subst h;simp
 ·have:a.data.toList≠b.data.toList:=fun e=>h (Ld e)
  rw[decide_eq_false h];simpa using this
def ltS(a b:ByteArray):Bool:=decide (Ep a b<0)
theorem Pc:∀ a b:List UInt8,Op.bytesLess a b=decide (Bo a b<0)
 |[],[]=>by simp[Op.bytesLess,Bo]
 |[],_::_=>by simp[Op.bytesLess,Bo]
 |_::_,[]=>by simp[Op.bytesLess,Bo]
 |x::a,y::b=>by
  simp only[Op.bytesLess,Bo,Pc a b]
  by_cases h:x=y
  ·subst h;simp[UInt8.lt_irrefl]
  ·by_cases h1:x<y
   ·simp[h,h1]
   ·simp[h,h1]
theorem SU:∀ a b:List UInt8,Bo b a= -Bo a b
 |[],[]=>rfl
 |[],_::_=>rfl
 |_::_,[]=>rfl
 |x::a,y::b=>by
  simp only[Bo]
  by_cases h:x=y
  ·subst h;simp[SU a b]
  ·have h':¬y=x:=fun e=>h e.symm
   rw[if_neg h,if_neg h']
   by_cases h1:x<y
   ·have:¬y<x:=UInt8.lt_asymm h1
    simp[h1,this]
   ·have:y<x:=UInt8.lt_of_le_of_ne (UInt8.not_lt.1 h1) h'
    simp[h1,this]
theorem Tz(a b:ByteArray):Op.bytesLess a.toList b.toList=ltS a b:=by rw[baL,baL,Pc];rfl
theorem UE:∀ {x y:List UInt8},Bo x y=0->x=y:=by
 intro x
 induction x with
 |nil=>intro y hy;cases y<;>simp_all [Bo]
 |cons p x ih=>intro y hy;cases y with
  |nil=>simp [Bo] at hy
  |cons q y=>
   simp only[Bo] at hy
   split at hy
   ·rename_i e;subst e;rw[ih hy]
   ·split at hy<;>simp at hy
theorem Nl(a b:ByteArray):Ep b a= -Ep a b:=SU _ _
theorem QE(a b:ByteArray):Ep a b=0↔a=b:=by
 constructor
 ·exact fun h=>Ld (UE h)
 ·intro h;subst h;have:=Nl a a;omega
theorem str_gt(a b:ByteArray):(!(Op.bytesLess a.toList b.toList ||a.toList==b.toList))=ltS b a:=by
 rw[Nv,Tz,Bool.eq_iff_iff]
 have hn:=Nl a b
 have he:=QE a b
 simp only[ltS,A1e,Bool.or_eq_false_iff,decide_eq_false_iff_not,decide_eq_true_eq]
 constructor
 ·intro⟨h1,h2⟩
  have:Ep a b≠0:=fun e=>h2 (he.1 e)
  omega
 ·intro h
  exact⟨by omega,fun e=>by have:=he.2 e;omega⟩
theorem str_le(a b:ByteArray):(Op.bytesLess a.toList b.toList ||a.toList==b.toList)= !ltS b a:=by rw[<-str_gt a b];simp
theorem le_norm(a b:ByteArray):(ltS a b ||decide (a=b))= !ltS b a:=by
 have:=str_le a b
 rw[Tz,Nv] at this;exact this
attribute [push_cast] Tz Nv le_norm Bool.not_not
def noS(s:ByteArray):Bool:=s.toList==(⟨#[]⟩:ByteArray).toList
theorem noS_d(s:ByteArray):noS s=decide (s=⟨#[]⟩):=by unfold noS;rw[Nv]
def Br(v:GV):Bool:=v.kind==0&&(!v.b&&(v.n==0&&(noS v.s&&((v.list.length:Int)==0&&(v.obj.length:Int)==0))))
theorem LY(v:GV):A3 prog 152 [.agg (Aa v)] (.val (.bool (Br v))):=by
 rw[A0]
 refine Zf [0] func152 rfl ntmps152 results152 ?_
 ((try push_cast)<;>repeat' (first|apply Zi<;>intro _|exact Zp|with_reducible apply Za)<;>try push_cast)
 all_goals simp_all [Br,noS_d]
def QU(m:GM):Bool:=noS m.key&&(noS m.to&&(m.n==0&&(!m.had&&(Br m.was&&(!m.has&&(Br m.value&&(m.list.length:Int)==0))))))
theorem c_blank(m:GM):A3 prog 153 [.agg (Aj m)] (.val (.bool (QU m))):=by
 have h1:=LY m.was
 have h2:=LY m.value
 rw[Ae]
 rw[A0] at h1 h2|-
 rw[A0 m.value]
 simp only[A07,A09,A05]
 refine Zf [0] func153 rfl ntmps153 results153 ?_
 (have z:=trivial;(try push_cast)<;>repeat' (first|apply Zi<;>intro _|refine Zc h1 ?_|refine Zc h2 ?_|exact Zp|with_reducible apply Za)<;>try push_cast)
 all_goals simp_all [QU,noS_d]
def AD(m:GM):Bool:=
 (!m.had&& !Br m.was) ||
 (if m.kind==1 ||m.kind==5 then !(noS m.to&&(m.n==0&&(!m.had&&(Br m.was&&(!m.has&&(m.list.length:Int)==0)))))
  else if m.kind==2 then !(noS m.to&&(m.n==0&&(!m.had&&(Br m.was&&(!m.has&&(Br m.value&&(m.list.length:Int)==0))))))
  else if m.kind==3 then !(noS m.to&&(!m.had&&(Br m.was&&(!m.has&&(Br m.value&&(m.list.length:Int)==0)))))
  else if m.kind==4 then(!m.has&& !Br m.value) ||!(noS m.to&&(m.n==0&&(m.list.length:Int)==0))
  else if m.kind==6 then !(m.n==0&&(!m.had&&(Br m.was&&(!m.has&&(Br m.value&&(m.list.length:Int)==0)))))
  else if m.kind==7 then !(noS m.to&&(m.n==0&&(!m.has&&Br m.value)))
  else true)
theorem K8:∀ {a b c d:List D},loL a b->loL c d->loL (a++c) (b++d)
 |[],[],_,_,_,h=>h
 |[],_::_,_,_,h,_=>by simp[loL] at h
 |_::_,[],_,_,h,_=>by simp[loL] at h
 |x::a,y::b,c,d,h,h'=>by
  simp only[loL,A07] at h|-
  exact⟨h.1,K8 h.2 h'⟩
abbrev mutD(kd:Int)(k t:ByteArray)(n:Int)(hd:Bool)(W:List D)(hs:Bool)(V:List D)(L:D):D:=.agg ([.val (.int .i64 kd),.val (.string k),.val (.string t),.val (.int .i64 n),.val (.bool hd)]++W++[.val (.bool hs)]++V++[L])
theorem G7(m:GM){W V:List D}{L:D}(hW:loL W (Aa m.was))(hV:loL V (Aa m.value))(hL:Go.Ab.lo L (.slice (m.list.map Aj) false)):
  A3 prog 153 [mutD m.kind m.key m.to m.n m.had W m.has V L] (.val (.bool (QU m))):=by
 refine(c_blank m).lo ?_
 rw[Ae]
 simp only[loL,Ui,and_true]
 exact K8 (K8 (K8 (K8 (AJ _) hW) (AJ _)) hV) ⟨hL,trivial⟩
abbrev zT:List D:=[.val (.int .i64 0),.val (.bool false),.val (.int .i64 0),.val (.string ByteArray.empty),.slice [] true,.slice [] true]
theorem Ql:loL zT (Aa zV):=by
 rw[A0]
 simp[zV,GV.kind,GV.b,GV.n,GV.s,GV.list,GV.obj,loL,lo,E5]
theorem PG(m:GM):A3 prog 113 [.agg (Aj m)] (.val (.bool (AD m))):=by
 obtain⟨kd,k,t,n,hd,w,hs,v,l⟩:=m
 have h1:=LY w
 have h2:=LY v
 have k1:=G7 (.mk kd ⟨#[]⟩ t n hd w hs zV l) (AJ _) Ql (An _)
 have k2:=G7 (.mk kd ⟨#[]⟩ t n hd w hs v l) (AJ _) (AJ _) (An _)
 have k3:=G7 (.mk kd ⟨#[]⟩ t 0 hd w hs v l) (AJ _) (AJ _) (An _)
 have k4:=G7 (.mk kd ⟨#[]⟩ t n false zV false zV l) Ql Ql (An _)
 have k6:=G7 (.mk kd ⟨#[]⟩ ⟨#[]⟩ n hd w hs v l) (AJ _) (AJ _) (An _)
 have k7:=G7 (.mk kd ⟨#[]⟩ t n false zV hs v []) (L:=.slice [] true) Ql (AJ _) (by simp[Go.Ab.lo,GM.list,E5])
 have z1:Br zV=true:=by simp[Br,zV,noS,GV.kind,GV.b,GV.n,GV.s,GV.list,GV.obj]
 have z2:noS ⟨#[]⟩=true:=by simp[noS]
 unfold AD
 simp only[QU,GM.kind,GM.key,GM.to,GM.n,GM.had,GM.was,GM.has,GM.value,GM.list,z1,z2,Bool.true_and,A22,Bool.not_false,A0i,Ae (.mk ..),A0S] at k1 k2 k3 k4 k6 k7|-
 rw[A0] at h1 h2
 simp only[A0 w,A0 v,A07,A09,A05,mutD,zT] at k1 k2 k3 k4 k6 k7|-
 generalize Br w=zw at*
 generalize Br v=zv at*
 generalize noS t=nt at*
 generalize((l.length:Int)==0)=ll at*
 refine Zf [0] func113 rfl ntmps113 results113 ?_
 (have z:=trivial;(try push_cast)<;>repeat' (first|apply Zi<;>intro _|refine Zc h1 ?_|refine Zc h2 ?_|refine Zc k1 ?_|refine Zc k2 ?_|refine Zc k3 ?_|refine Zc k4 ?_|refine Zc k6 ?_|refine Zc k7 ?_|exact Zp|with_reducible apply Za)<;>try push_cast)
 all_goals(clear h1 h2 k1 k2 k3 k4 k6 k7;simp_all)
end Go.Ab
namespace Go.Ab
open Go.RowKit
open Go.ChangeMaps (setBlock)
theorem KJ(w:World)(k:Nat)(o:Obj):w.putObj k o=setBlock w k o:=rfl
theorem Mg{w:World}{I:Nat->Prop}{mu:Nat->Option Value}{nt:Nat}:∀ {ps:List Nat} {ds:List D} {us:List Value} {env:Env} {tmps:Array Value},ds.length=ps.length->us.length=ps.length->(∀ t ∈ ps,t<nt)->tmps.size=nt->(∀ i,i<ds.length->Rep w I mu (nd ds i) (nv us i))->(∀ t,Rep w I mu (env.get t) (tmps.getD t undef))->
  ((ps.zip us).foldl (fun t p=>t.setIfInBounds p.1 p.2) tmps).size=nt/\∀ t,Rep w I mu (Env.get ((ps.zip ds).reverse++env) t) (((ps.zip us).foldl (fun t p=>t.setIfInBounds p.1 p.2) tmps).getD t undef)
 |[],[],[],env,tmps,_,_,_,hs,_,he=>⟨hs,fun t=>by simpa using he t⟩
 |p::ps,d::ds,u::us,env,tmps,h1,h2,h3,hs,hd,he=>by
  simp only[A0g,Nat.add_right_cancel_iff] at h1 h2
  have:=Mg (env:=(p,d)::env) (tmps:=tmps.setIfInBounds p u) h1 h2 (fun t ht=>h3 t (A0l _ ht)) (by simpa using hs) (fun i hi=>by simpa[nd,nv] using hd (i+1) (by simpa using hi)) (fun t=>?_)
  ·simpa[List.zip_cons_cons,A1y,A05] using this
  ·simp only[Env.get]
   by_cases ht:p=t
   ·subst ht
    have hlt:p<tmps.size:=by rw[hs];exact h3 p A0C
    simp only[beq_self_eq_true,cond_true,Array.getD,Array.size_setIfInBounds,hlt,dite_true]
    simpa[nd,nv] using hd 0 (by simp)
   ·have:(p==t)=false:=by simpa using ht
    simp only[this,cond_false]
    have:=he t
    simp only[A1n,A1t ht] at this|-
    exact this
 |[],_::_,_,_,_,h,_,_,_,_,_=>by simp at h
 |[],[],_::_,_,_,_,h,_,_,_,_=>by simp at h
 |_::_,[],_,_,_,h,_,_,_,_,_=>by simp at h
 |_::_,_::_,[],_,_,_,h,_,_,_,_=>by simp at h
theorem Rn(hp:Hp)(b:Nat)(x:Blk):(fun c=>AX c (Ai hp c) [(b,some x)])=Ai (upd hp b (some x)):=by
 funext c
 rw[K3]
 simp only[AX,A0y,A1c]
def Gl(y:Nat)(env:Env)(nt:Nat)(ps:List Nat)(a c:Code)(HS':Hp):AE->St->Prop
 |.normal,s=>Ar ⟨[],s.hp,s.nx⟩ ⟨[],(y,.loop env nt .busy none ps a c)::HS',4⟩
 |_,_=>False
def Gm(P:Program)(y:Nat)(env:Env)(nt:Nat)(ps:List Nat)(a c:Code)(HS':Hp):AE->St->Prop
 |.normal,s=>Ai s.hp y=some (.loop env nt .ready none ps a c)/\AWp P nt c (Gl y env nt ps a c HS') ⟨s.env,upd s.hp y (some (.loop env nt .busy none ps a c)),s.nx⟩
 |_,_=>False
theorem G9.of_awp{P:Program}{nt y:Nat}{ds:List D}{HS HS':Hp}{env:Env}{ps:List Nat}{a c:Code}(hy:y%2=1)(hlen:ds.length=ps.length)(hps:∀ t ∈ ps,t<nt)
  (h:AWp P nt a (Gm P y env nt ps a c HS') ⟨(ps.zip ds).reverse++env,(y,.loop env nt .ready none ps a c)::HS,4⟩):
  G9 P y ds ((y,.loop env nt .ready none ps a c)::HS) (.val (.bool true)) ((y,.loop env nt .ready none ps a c)::HS'):=by
 unfold G9
 intro w M0 G0 I mu vs l hga hdl hmy hw hrep
 have hb0:Ai ((y,Blk.loop env nt .ready none ps a c)::HS) y=some (.loop env nt .ready none ps a c):=by simp[Ai]
 obtain⟨k,fn,tmps,kd,h1,h2,h3,h4⟩:=hw.blk y _ hb0
 rw[hmy] at h1
 simp only[A04,A0N,A17,and_true] at h1
 subst h1
 have hvl:vs.length=ps.length:=hrep.1.trans hlen
 refine⟨fn,_,a,c,run_yield h2 (by simp[hvl]),?_⟩
 have hfold:(ps.toArray.zip vs.toArray).foldl (fun tmps (t,a)=>tmps.setIfInBounds t a) tmps=(ps.zip vs).foldl (fun t p=>t.setIfInBounds p.1 p.2) tmps:=by
  rw[<-Array.foldl_toList];simp
 rw[hfold]
 obtain⟨f1,f2⟩:=Mg (env:=env) (tmps:=tmps) hlen hvl hps h3 hrep.2 h4
 let G:Gh:=⟨G0.st,fun b=>if b=y then mu y else G0.nm b,[],Fence.wide.inRound l,0,.inr ⟨l,rfl⟩⟩
 have toG:∀ {fr I':Nat->Prop} {mu':Nat->Option Value} {h:Nat->Option Blk} {w':World},Aq w M0 G fr I' mu' h w'->mu' y=mu y/\Aq w M0 G0 fr I' mu' h w':=@fun fr I' mu' h w' R=>by
  have hk:mu' y=some (.pointer (some ⟨l,0,none⟩)):=R.keep y _ hy (by show(if y=y then mu y else _)=_;rw[if_pos rfl,hmy])
  refine⟨hk.trans hmy.symm,⟨R.blk,R.loc,R.inj,R.fresh,R.lt,R.os,R.tape,R.output,R.grown,R.old,R.iold,R.inew,fun b x hb hx=>?_,R.used⟩⟩
  by_cases hby:b=y
  ·subst hby;rw[hk];have:=hw.keep b x hb hx;rw[hmy] at this;exact this
  ·exact R.keep b x hb (by show(if b=y then mu y else G0.nm b)=_;rw[if_neg hby];exact hx)
 refine roundIn_of_wpIn (F:=Fence.wide) trivial (wpIn_mono (h w M0 G hga I mu _ w ⟨f1,BR.refl _ _ _ _,f2,⟨hw.blk,hw.loc,hw.inj,hw.fresh,hw.lt,hw.os,hw.tape,hw.output,hw.grown,hw.old,hw.iold,hw.inew,fun b x hb hx=>?_,hw.used⟩⟩) ?_)
 ·have hx':(if b=y then mu y else G0.nm b)=some x:=hx
  split at hx'
  ·rename_i e;rw[e];exact hx'
  ·exact hw.keep b x hb hx'
 ·rintro e a1 w1 ⟨x,s1,I1,mu1,hq,he,r1⟩
  cases x<;>cases e<;>simp only[Ga] at he<;>simp only[Gm] at hq
  obtain⟨hl1,hbody⟩:=hq
  obtain⟨k1,fn1,tmps1,kd1,q1,q2,q3,q4⟩:=r1.w.blk y _ hl1
  have hm1:mu1 y=some (.pointer (some ⟨l,0,none⟩)):=(toG r1.w).1.trans hmy
  rw[hm1] at q1
  simp only[A04,A0N,A17,and_true] at q1
  subst q1
  refine⟨_,run_beginRound q2 rfl,?_⟩
  rw[KJ]
  obtain⟨g1,g2⟩:=r1.w.setObj (x:=.loop env nt .busy none ps a c) hl1 hm1 (.loop {state:=.busy,pending:=none,fn:=fn1,tmps:=tmps1,params:=ps.toArray,assign:=a,body:=c,defers:=kd1})
   (fun hs ho=>⟨l,fn1,tmps1,kd1,hm1,hs,q3,fun t=>(q4 t).mono (fun k hk=>ho k (by rintro rfl;exact(r1.w.loc y _ _ k hl1 hm1 rfl).2.1 hk)) (fun _ h=>h) (fun _ _ h=>h)⟩)
  rw[show s1.fs.hp=Ai s1.hp from rfl,Rn] at g1
  refine wpIn_mono (hbody w M0 G hga I1 mu1 a1 _ ⟨r1.size,r1.defers.ext g2,fun t=>(r1.env t).ext g2,g1⟩) ?_
  ·rintro e a2 w2 ⟨x,s2,I2,mu2,hq2,he2,r2⟩
   cases x<;>cases e<;>simp only[Ga] at he2<;>simp only[Gl] at hq2
   obtain⟨I3,mu3,r3⟩:=hq2 w M0 G nt I2 mu2 a2 w2 ⟨r2.size,r2.defers,fun t=>by simp[St.fs,Env.get];exact .any _,r2.w⟩
   have hl3:Ai ((y,Blk.loop env nt .busy none ps a c)::HS') y=some (.loop env nt .busy none ps a c):=by simp[Ai]
   obtain⟨k3,fn3,tmps3,kd3,p1,p2,p3,p4⟩:=r3.w.blk y _ hl3
   have hm3:mu3 y=some (.pointer (some ⟨l,0,none⟩)):=(toG r3.w).1.trans hmy
   rw[hm3] at p1
   simp only[A04,A0N,A17,and_true] at p1
   subst p1
   refine⟨_,_,run_endRound none p2,?_⟩
   rw[KJ]
   obtain⟨g3,g4⟩:=r3.w.setObj (x:=.loop env nt .ready none ps a c) hl3 hm3 (.loop {state:=.ready,pending:=none,fn:=fn3,tmps:=tmps3,params:=ps.toArray,assign:=a,body:=c,defers:=kd3})
    (fun hs ho=>⟨l,fn3,tmps3,kd3,hm3,hs,p3,fun t=>(p4 t).mono (fun k hk=>ho k (by rintro rfl;exact(r3.w.loc y _ _ k hl3 hm3 rfl).2.1 hk)) (fun _ h=>h) (fun _ _ h=>h)⟩)
   refine⟨_,I3,mu3,rfl,.val _ trivial,?_⟩
   have g5:=(toG g3).2
   rw[show(St.fs ⟨[],(y,Blk.loop env nt .busy none ps a c)::HS',4⟩).hp=Ai ((y,Blk.loop env nt .busy none ps a c)::HS') from rfl,Rn] at g5
   refine g5.sub fun b x hx=>?_
   rw[K3]
   simp only[Ai] at hx|-
   by_cases hb:y=b
   ·subst hb;simpa using hx
   ·have:(y==b)=false:=by simpa using hb
    simpa[this,hb] using hx
def BJ(P:Program)(nt:Nat)(c:Code)(Q:AE->St->Prop)(s:St):Prop:=
 ∀ w0 M0 I0,GA P w0 M0 I0->(I0.F=Fence.wide/\I0.n=0)->∀ I mu a w,Rel w0 M0 I0 nt (frN s.nx) I mu s.fs a w->c.wpIn I0.F I0.n P (VY w0 M0 I0 nt Q) a w
section
variable{P:Program}{nt:Nat}{Q:AE->St->Prop}{s:St}
theorem AWp.w{c:Code}(h:AWp P nt c Q s):BJ P nt c Q s:=fun w0 M0 I0 g _ I mu a w r=>h w0 M0 I0 g I mu a w r
theorem BJ.weak{c:Code}{s':St}(hs:Ar s s')(h:BJ P nt c Q s'):BJ P nt c Q s:=fun w0 M0 I0 g hF I mu a w r=>
 let⟨I',mu',r'⟩:=hs w0 M0 I0 nt I mu a w r
 h w0 M0 I0 g hF I' mu' a w r'
theorem BJ.seq{x y:Code}(h:BJ P nt x (Yf (fun s=>BJ P nt y Q s) Q) s):BJ P nt (.seq x y) Q s:=fun w0 M0 I0 g hF I mu a w r=>
 wpIn_seq (wpIn_mono (h w0 M0 I0 g hF I mu a w r) fun e a' w' hx=>by
  obtain⟨x,s',I',mu',q,he,r'⟩:=hx
  cases x<;>cases e<;>simp only[Ga] at he
  case normal.normal=>exact q w0 M0 I0 g hF I' mu' a' w' r'
  all_goals exact⟨_,s',I',mu',q,he,r'⟩)
theorem BJ.block{id:Nat}{c:Code}(h:BJ P nt c (JK id Q) s):BJ P nt (.block id c) Q s:=fun w0 M0 I0 g hF I mu a w r=>
 wpIn_block (wpIn_mono (h w0 M0 I0 g hF I mu a w r) fun e a' w' hx=>by
  obtain⟨x,s',I',mu',q,he,r'⟩:=hx
  cases x<;>cases e<;>simp only[Ga] at he
  case exit.exit=>
   rename_i i j
   subst he
   simp only[JK] at q
   simp only[Exit.inBlock]
   by_cases hi:i=id
   ·rw[if_pos hi] at q|-;exact⟨.normal,s',I',mu',q,trivial,r'⟩
   ·rw[if_neg hi] at q|-;exact⟨.exit i,s',I',mu',q,rfl,r'⟩
  all_goals exact⟨_,s',I',mu',q,he,r'⟩)
theorem BJ.seqV(fz:List Nat){x y:Code}(hm:P.follows .mixedOrders=true)(hc:CN nt x=true)(h:VCS P nt fz x (Rz (BJ P nt y) Q) s):BJ P nt (.seq x y) Q s:=
 BJ.seq (AWp.w (AWp.mono (VC.sound hm hc h) fun e s hq=>by cases e<;>exact hq))
theorem BJ.vc(fz:List Nat){c:Code}(hm:P.follows .mixedOrders=true)(hc:CN nt c=true)(h:VCS P nt fz c Q s):BJ P nt c Q s:=AWp.w (VC.sound hm hc h)
end
@[congr] theorem AWpW_congr{P:Program}{nt:Nat}{c:Code}{Q:AE->St->Prop}{s s':St}(h:H6 s=s'):BJ P nt c Q s=BJ P nt c Q s':=by rw[<-h];rfl
theorem Aq.keepI{w0:World}{M0:Nat->Prop}{I0:Gh}{fr I:Nat->Prop}{mu:Nat->Option Value}{hp:Nat->Option Blk}{w:World}(h:Aq w0 M0 I0 fr I mu hp w){b k:Nat}{x:Blk}(hb:hp b=some x)(hm:mu b=some (.pointer (some ⟨k,0,none⟩))):
  Aq w0 M0 I0 fr (fun j=>I j∨j=k) mu (fun c=>if c=b then none else hp c) w:=by
 have hg:∀ c y,(if c=b then none else hp c)=some y->c≠b/\hp c=some y:=fun c y hy=>by
  by_cases hc:c=b
  ·rw[if_pos hc] at hy;cases hy
  ·rw[if_neg hc] at hy;exact⟨hc,hy⟩
 have hk:=h.loc b x _ k hb hm rfl
 refine⟨fun c y hy=>(h.blk c y (hg c y hy).2).mono (fun _ _=>rfl) (fun _ h=>.inl h) (fun _ _ h=>h) (fun _ _ _ _=>rfl),fun c y v j hy hv hj=>?_,fun c d y z v u j hy hz=>h.inj c d y z v u j (hg c y hy).2 (hg d z hz).2,h.fresh,fun j hj=>?_,h.os,h.tape,h.output,h.grown,h.old,fun j hj=>.inl (h.iold j hj),fun j hj=>?_,h.keep,fun c y hy=>h.used c y (hg c y hy).2⟩
 ·obtain⟨g1,g2⟩:=hg c y hy
  have:=h.loc c y v j g2 hv hj
  exact⟨this.1,fun hI=>by rcases hI with hI|rfl;exact this.2.1 hI;exact g1 (h.inj c b y x v _ j g2 hb hv hm hj rfl),this.2.2⟩
 ·rcases hj with hj|rfl
  ·exact h.lt j hj
  ·exact hk.2.2
 ·rcases hj with hj|rfl
  ·exact h.inew j hj
  ·exact .inr hk.1
theorem NL{r:Nat->Nat}{e:Env}:∀ {l:Env},Di r e l->∀ t,lo (e.get t) (B3 r (l.get t))
 |[],_,t=>by simp only[Env.get,B3];cases e.get t<;>simp [lo]
 |(k,d)::l,h,t=>by
  simp only[Env.get]
  by_cases hk:k=t
  ·subst hk;simp only[beq_self_eq_true,cond_true];exact h.1
  ·have:(k==t)=false:=by simpa using hk
   simp only[this,cond_false];exact NL h.2 t
theorem BJ.range{P:Program}{nt:Nat}{Q:AE->St->Prop}{s:St}{f:Operand}{ps:Array Tmp}{a c:Code}{g:Nat}{fs cs ds:List D}{H H':Hp}{d:D}{env:Env}(y:Nat)(r:Nat->Nat)
  (hf:evO P s.env.get f=.func (.func g) fs cs)
  (hc:A4 P g ds ((y,.loop env nt .ready none ps.toList a c)::H) d ((y,.loop env nt .ready none ps.toList a c)::H'))
  (hy:y%2=1) (hry:r y=2*s.nx) (hargs:fs++[.yld (2*s.nx)]++cs=Ca r ds) (hl:ltL 4 ds=true) (henv:Di r s.env env)
  (hh:BD r (Ai ((2*s.nx,.loop (FZ (B3 r) env) nt .ready none ps.toList a c)::s.hp)) ((y,.loop env nt .ready none ps.toList a c)::H))
  (hok0:Dj (2*(s.nx+4)) r ((y,.loop env nt .ready none ps.toList a c)::H) []=true) (hok:Dj (2*(s.nx+4)) r ((y,.loop env nt .ready none ps.toList a c)::H) ((y,.loop env nt .ready none ps.toList a c)::H')=true)
  (hk:Q .normal ⟨s.env,upd (Er ((2*s.nx,.loop (FZ (B3 r) env) nt .ready none ps.toList a c)::s.hp) (DX (2*(s.nx+4)) r ((y,.loop env nt .ready none ps.toList a c)::H) ((y,.loop env nt .ready none ps.toList a c)::H'))) (2*s.nx) none,s.nx+8⟩):BJ P nt (.rangeFunc f ps a c) Q s:=by
 intro w0 M0 G hga hF I mu act w R
 have hFn:∀ f',G.F.fn f':=fun f'=>G.fn f'
 refine wpIn_rangeFunc fun fn _=>?_
 have fr1:frN s.nx (2*s.nx+2):=⟨by omega,by omega⟩
 obtain⟨r1,e1⟩:=R.w.new fr1 (.deferred (some [])) (.pointer (some ⟨w.heap.size,0,none⟩)) rfl (.obj (.deferred (some []))) ⟨w.heap.size,by simp[AN],World.alloc_heap_new w _⟩
 have fr2:(fun b=>frN s.nx b/\b≠2*s.nx+2) (2*s.nx):=⟨⟨by omega,by omega⟩,by omega⟩
 have hsz:(w.alloc (.deferred (some []))).heap.size=w.heap.size+1:=by simp
 have hle2:∀ v,Ext I (AN mu (2*s.nx+2) (.pointer (some ⟨w.heap.size,0,none⟩))) (w.alloc (.deferred (some []))) I (AN (AN mu (2*s.nx+2) (.pointer (some ⟨w.heap.size,0,none⟩))) (2*s.nx) v) ((w.alloc (.deferred (some []))).alloc (.loop {state:=.ready,pending:=none,fn:=fn,tmps:=act.tmps,params:=ps,assign:=a,body:=c,defers:=w.heap.size})):=fun v=>
  ⟨fun _ h=>h,BO (r1.fresh _ fr2),fun k hk=>Bu _ _ (r1.lt k hk)⟩
 obtain⟨r2,e2⟩:=r1.new (id:=2*s.nx) fr2 (.loop {state:=.ready,pending:=none,fn:=fn,tmps:=act.tmps,params:=ps,assign:=a,body:=c,defers:=w.heap.size}) (.pointer (some ⟨w.heap.size+1,0,none⟩)) (by simp[Ap]) (.loop (FZ (B3 r) env) nt .ready none ps.toList a c)
  ⟨w.heap.size+1,fn,act.tmps,w.heap.size,by simp[AN],by have:=World.alloc_heap_new (w.alloc (.deferred (some []))) (.loop {state:=.ready,pending:=none,fn:=fn,tmps:=act.tmps,params:=ps,assign:=a,body:=c,defers:=w.heap.size});rw[hsz] at this;simpa using this,R.size,fun t=>by
   rw[J1 (F:=B3 r) rfl]
   exact(((R.env t).ext e1).ext (hle2 _)).lo (NL henv t)⟩
 generalize hw2:(w.alloc (.deferred (some []))).alloc (.loop {state:=.ready,pending:=none,fn:=fn,tmps:=act.tmps,params:=ps,assign:=a,body:=c,defers:=w.heap.size})=w2 at r2 e2
 generalize hmu2:AN (AN mu (2*s.nx+2) (.pointer (some ⟨w.heap.size,0,none⟩))) (2*s.nx) (.pointer (some ⟨w.heap.size+1,0,none⟩))=mu2 at r2 e2
 have hmD:mu2 (2*s.nx+2)=some (.pointer (some ⟨w.heap.size,0,none⟩)):=by rw[<-hmu2];simp[AN]
 have hmL:mu2 (2*s.nx)=some (.pointer (some ⟨w.heap.size+1,0,none⟩)):=by rw[<-hmu2];simp[AN]
 have hDw:w2.heap[w.heap.size]? =some (.deferred (some [])):=by
  rw[<-hw2]
  exact(Bu _ _ (by simp)).trans (World.alloc_heap_new w _)
 have hn1:s.fs.hp (2*s.nx)=none:=by
  cases hx:s.fs.hp (2*s.nx) with
  |none=>rfl
  |some x=>exact absurd ⟨by omega,by omega⟩ (R.w.used _ x hx)
 have hn2:s.fs.hp (2*s.nx+2)=none:=by
  cases hx:s.fs.hp (2*s.nx+2) with
  |none=>rfl
  |some x=>exact absurd ⟨by omega,by omega⟩ (R.w.used _ x hx)
 have r3:=r2.keepI (b:=2*s.nx+2) (k:=w.heap.size) (x:=.obj (.deferred (some []))) (by simp[AX]) hmD
 have hhp:∀ b x,Ai ((2*s.nx,Blk.loop (FZ (B3 r) env) nt .ready none ps.toList a c)::s.hp) b=some x->(if b=2*s.nx+2 then none else AX b (AX b (s.fs.hp b) [(2*s.nx+2,some (Blk.obj (.deferred (some []))))]) [(2*s.nx,some (Blk.loop (FZ (B3 r) env) nt .ready none ps.toList a c))])=some x:=fun b x hx=>by
  simp only[Ai] at hx
  by_cases h1:2*s.nx=b
  ·subst h1;simp at hx;simp[AX,hx]
  ·have h1':(2*s.nx==b)=false:=by simpa using h1
   simp only[h1',cond_false] at hx
   by_cases h2:b=2*s.nx+2
   ·subst h2;exact absurd (show s.fs.hp _=some x from hx) (by rw[hn2];simp)
   ·have h2':¬2*s.nx+2=b:=fun h=>h2 h.symm
    simp only[AX,A0y,A1c,if_neg h1,if_neg h2,if_neg h2']
    exact hx
 have r4:=r3.sub hhp
 have hext:Ext I mu w (fun j=>I j∨j=w.heap.size) mu2 w2:=by
  refine⟨fun _ h=>.inl h,fun b x hx=>e2.m b x (e1.m b x hx),fun k hk=>?_⟩
  rw[e2.w k hk,e1.w k hk]
 have hxr:Rep w I mu (evO P s.env.get f) (act.eval f):=DI (P:=P) (hga.at R.w) R.env f
 rw[hf] at hxr
 generalize hev:act.eval f=fv at hxr
 cases hxr with
 |func _ _ _ us vs hlu hlv hu hv=>
 have hga4:GA P w0 M0 G:=hga
 have hargs':Bp w2 (fun j=>I j∨j=w.heap.size) mu2 (Ca r ds) (us++[Value.func (.yield (w.heap.size+1)) #[] #[]]++vs):=by
  rw[<-hargs]
  refine Bp.append (Bp.append ⟨hlu,fun i hi=>(hu i hi).ext hext⟩ ⟨rfl,fun i hi=>?_⟩) ⟨hlv,fun i hi=>(hv i hi).ext hext⟩
  simp only[A1H,Nat.lt_one_iff] at hi
  subst hi
  exact .yld _ _ hmL
 obtain⟨M,G',muc,⟨g1,g2,g3,g4,g5,_⟩,hback⟩:=X4 (id:=2*(s.nx+4)) r hga4 r4 (fun j hj=>⟨⟨⟨by omega,by omega⟩,by omega⟩,by omega⟩) (fun _ _=>rfl) hargs' hl hh hok0
 unfold A4 at hc
 obtain⟨hent,hcall⟩:=hc
 have hres:∀ W,(resolve act.eval (rangeCall f (w.heap.size+1)) 0).run P W=.ok {target:=.fn (.func g) vs.toArray,args:=us.toArray++ #[.func (.yield (w.heap.size+1)) #[] #[]]} W:=by
  intro W
  simp only[resolve,rangeCall,Deferred.ofValue,hev,A0w]
  congr 2
  apply Array.toList_inj.1
  simp[Act.eval]
 have hrun:(invoke (.fn (.func g) vs.toArray) (us.toArray++ #[Value.func (.yield (w.heap.size+1)) #[] #[]])).run P w2=.ok (.enter g (us++[Value.func (.yield (w.heap.size+1)) #[] #[]]++vs).toArray) w2:=by
  have e1:us.toArray++ #[Value.func (.yield (w.heap.size+1)) #[] #[]]++vs.toArray=(us++[Value.func (.yield (w.heap.size+1)) #[] #[]]++vs).toArray:=by apply Array.ext';simp
  simp only[invoke]
  exact(congrArg (fun z=>(callFunc g z).run P w2) e1).trans (Bn hent _ w2)
 have hcall':=hcall w2 M G' _ muc _ g1 g2 g3 g4
 refine⟨w.heap.size+1,[{target:=.collected w.heap.size,args:=#[]}],w2,_,w2,g,_,w2,?_,hres w2,fun f' _=>hFn f',hrun,fun h=>(by rw[G.depth] at h;cases h),CallsIn.mono (Nq hcall') ?_⟩
 ·rw[hF.1,<-hw2];exact run_enterLoop_outer fn act.tmps ps a c
 rintro e w3 ⟨v,I3,mu3,rfl,hv3,R3⟩
 obtain⟨mu4,e4,R4,_,hlast⟩:=hback d _ v w3 I3 mu3 hok hv3 R3
 have hmL4:mu4 (2*s.nx)=some (.pointer (some ⟨w.heap.size+1,0,none⟩)):=e4.m _ _ hmL
 have hyl:Ai ((y,Blk.loop env nt .ready none ps.toList a c)::H') y=some (.loop env nt .ready none ps.toList a c):=by simp[Ai]
 have hout:(fun b=>AX b (Ai ((2*s.nx,Blk.loop (FZ (B3 r) env) nt .ready none ps.toList a c)::s.hp) b) (Cm (2*(s.nx+4)) r ((y,.loop env nt .ready none ps.toList a c)::H) d ((y,.loop env nt .ready none ps.toList a c)::H')).up)=Ai (Er ((2*s.nx,Blk.loop (FZ (B3 r) env) nt .ready none ps.toList a c)::s.hp) (DX (2*(s.nx+4)) r ((y,.loop env nt .ready none ps.toList a c)::H) ((y,.loop env nt .ready none ps.toList a c)::H'))):=by
  funext b
  rw[ES];rfl
 rw[hout] at R4
 have hin:∃ x,Ai (Er ((2*s.nx,Blk.loop (FZ (B3 r) env) nt .ready none ps.toList a c)::s.hp) (DX (2*(s.nx+4)) r ((y,.loop env nt .ready none ps.toList a c)::H) ((y,.loop env nt .ready none ps.toList a c)::H'))) (2*s.nx)=some x/\x=.loop (FZ (B3 (CL (2*(s.nx+4)) r)) env) nt .ready none ps.toList a c:=by
  refine⟨_,?_,rfl⟩
  have h1:=hlast y _ hyl
  have h2:CL (2*(s.nx+4)) r y=2*s.nx:=by simp[CL,hy,hry]
  rw[h2] at h1
  rw[<-hout]
  exact h1
 obtain⟨x,hin,hx⟩:=hin
 subst hx
 obtain⟨k5,fn5,tmps5,kd5,p1,p2,p3,p4⟩:=R4.blk _ _ hin
 rw[hmL4] at p1
 simp only[A04,A0N,A17,and_true] at p1
 subst p1
 refine⟨none,_,run_endLoop p2 (by simp),?_⟩
 rw[KJ]
 obtain⟨R5,e5⟩:=R4.setObj (x:=.junk) hin hmL4 (.loop {state:=.exhausted,pending:=none,fn:=fn5,tmps:=tmps5,params:=ps.toList.toArray,assign:=a,body:=c,defers:=kd5}) (fun _ _=>trivial)
 have eall:Ext I mu w I3 mu4 (setBlock w3 (w.heap.size+1) (.loop {state:=.exhausted,pending:=none,fn:=fn5,tmps:=tmps5,params:=ps.toList.toArray,assign:=a,body:=c,defers:=kd5})):=
  ⟨fun k hk=>e4.i k (.inl hk),fun b x hx=>e4.m b x (hext.m b x hx),fun k hk=>(e5.w k (e4.i k (.inl hk))).trans ((e4.w k (.inl hk)).trans (hext.w k hk))⟩
 refine⟨.normal,_,I3,mu4,hk,trivial,⟨R.size,?_,fun t=>(R.env t).ext eall,?_⟩⟩
 ·obtain⟨rs,_,d1,d2,d3⟩:=R.defers
  refine⟨w.heap.size::rs,fun h=>absurd (h.symm.trans hF.2) (by simp),by rw[d1];rfl,A1h.2 ⟨fun hm=>?_,d2⟩,fun q hq=>?_⟩
  ·have:=R.w.lt _ (d3 _ hm).1
   omega
  ·rcases A0o.1 hq with rfl|hq
   ·have hI3:I3 w.heap.size:=e4.i _ (.inr rfl)
    exact⟨hI3,R.w.grown,by rw[e5.w _ hI3,e4.w _ (.inr rfl)];exact hDw⟩
   ·obtain⟨g1,g2,g3⟩:=d3 q hq
    exact⟨eall.i q g1,g2,by rw[eall.w q g1];exact g3⟩
 ·refine(R5.sub fun b x hx=>?_).less fun b hb=>?_
  ·have hx':Ai (upd (Er ((2*s.nx,Blk.loop (FZ (B3 r) env) nt .ready none ps.toList a c)::s.hp) (DX (2*(s.nx+4)) r ((y,.loop env nt .ready none ps.toList a c)::H) ((y,.loop env nt .ready none ps.toList a c)::H'))) (2*s.nx) none) b=some x:=hx
   rw[K3] at hx'
   by_cases hb:2*s.nx=b
   ·rw[if_pos hb] at hx';cases hx'
   ·rw[if_neg hb] at hx'
    simp only[AX,A0y,A1c,if_neg hb]
    exact hx'
  ·obtain⟨h1,h2⟩:=hb
   have h2':2*(s.nx+8)<=b:=h2
   exact⟨⟨⟨⟨h1,by omega⟩,by omega⟩,by omega⟩,fun j hj=>by omega⟩
theorem A4.of_awpW{P:Program}{nt:Nat}{f:FuncId}{fn:Func}{c:Code}{ds:List D}{H:Hp}{r:D}{H':Hp}(hf:P.funcs[f]? =some fn)(hb:fn.body=some c)(hn:fn.ntmps=nt)(hent:Bc P f=true)(hlen:ds.length<=nt){rs:List ResultVar}(hrs:fn.results.toList=rs)
  (h:BJ P nt c (Ny P rs r H') ⟨Bq 0 ds,H,4⟩):A4 P f ds H r H':=by
 subst hrs
 unfold A4
 refine⟨hent,fun w M0 G0 I mu vs hga hdl hw hrep=>?_⟩
 let G:Gh:=⟨G0.st,G0.nm,[],Fence.wide,0,.inl rfl⟩
 have hG:∀ k,G k->k<w.heap.size:=fun k hk=>hw.lt k (hw.iold k hk)
 refine callsIn_wide.1 (callsIn_of_wp_marks (n:=0) hf hb trivial (wpIn_mono (h w M0 G hga ⟨rfl,rfl⟩ I mu _ w ⟨?_,BR.refl _ _ _ _,fun t=>Fu hrep _ t,⟨hw.blk,hw.loc,hw.inj,hw.fresh,hw.lt,hw.os,hw.tape,hw.output,hw.grown,hw.old,hw.iold,hw.inew,hw.keep,hw.used⟩⟩) ?_))
 ·have:=hrep.1;simp[hn];omega
 ·rintro e a' w' ⟨x,s',I',mu',hq,he,r'⟩
  have fin:∀ d,Jx P s' fn.results.toList=some d->Ar ⟨[(0,d)],s'.hp,s'.nx⟩ ⟨[(0,r)],H',4⟩->LeavesInM Fence.wide 0 P fn a'.tmps (fun e w'=>∃ v I' mu',e=.returned v/\Rep w' I' mu' r v/\Aq w M0 G0 (frN 4) I' mu' (Ai H') w') a'.defers .returning w':=by
   intro d hd hwk
   refine r'.leave hG rfl hd fun v w2 I2 _ W2 h2=>?_
   obtain⟨I3,mu3,R3⟩:=hwk w M0 G 1 I2 mu' {tmps:=#[v],defers:=[]} w2 ⟨rfl,BR.refl _ _ _ _,fun t=>by
    cases t with
    |zero=>simpa [St.fs,Env.get] using h2
    |succ t=>simp [St.fs,Env.get];exact .any _,W2⟩
   have r0:=R3.env 0
   exact⟨v,I3,mu3,rfl,by simpa[St.fs,Env.get] using r0,⟨R3.w.blk,R3.w.loc,R3.w.inj,R3.w.fresh,R3.w.lt,R3.w.os,R3.w.tape,R3.w.output,R3.w.grown,R3.w.old,R3.w.iold,R3.w.inew,R3.w.keep,R3.w.used⟩⟩
  cases x<;>cases e<;>simp only[Ga] at he<;>simp only[Ny] at hq
  case normal.normal=>
   obtain⟨d,hd,hfr⟩:=hq
   exact fin d hd hfr
  case ret.ret=>
   obtain⟨d,hd,hfr⟩:=hq
   exact fin d hd hfr
theorem A3.of_awpW{P:Program}{nt:Nat}{f:FuncId}{fn:Func}{c:Code}{ds:List D}{r:D}(hf:P.funcs[f]? =some fn)(hb:fn.body=some c)(hn:fn.ntmps=nt)(hent:Bc P f=true)(hlen:ds.length<=nt){rs:List ResultVar}(hrs:fn.results.toList=rs)
  (h:BJ P nt c (UY P rs r) ⟨Bq 0 ds,[],0⟩):A3 P f ds r:=by
 subst hrs
 unfold A3
 refine⟨hent,fun w I vs hgi hI hl hrep=>?_⟩
 let G:Gh:=⟨I,fun _=>none,[],Fence.wide,0,.inl rfl⟩
 refine callsIn_wide.1 (callsIn_of_wp_marks (n:=0) hf hb trivial (wpIn_mono (h w (fun _=>False) G (fun g l hl=>⟨(hgi g l hl).1,hI g (hgi g l hl).1,fun h=>h,(hgi g l hl).2⟩) ⟨rfl,rfl⟩ I (fun _=>none) _ w ⟨?_,BR.refl _ _ _ _,fun t=>?_,⟨fun b x hx=>by simp[St.fs,Ai] at hx,fun b x v k hx=>by simp[St.fs,Ai] at hx,fun b c x y v u k hx=>by simp[St.fs,Ai] at hx,fun _ _=>rfl,hI,rfl,rfl,rfl,A0e _,fun _ _ _=>rfl,fun _ h=>h,fun _ h=>.inl h,fun b x _ h=>(by cases h),fun b x hx=>by simp[St.fs,Ai] at hx⟩⟩) ?_))
 ·simp[hl,hn];omega
 ·have hget:=Ff ds 0 t
  simp only[A0t,true_and,A1m,Nat.sub_zero] at hget
  show Rep w I (fun _=>none) ((Bq 0 ds).get t) _
  rw[hget]
  by_cases ht:t<ds.length
  ·rw[if_pos ht]
   have e:(vs.toArray++Array.replicate (fn.ntmps-vs.toArray.size) undef).getD t undef=nv vs t:=by
    simp only[nv,A03,A1n]
    rw[Array.getElem?_append_left (by simp;omega)]
    simp
   rw[e];exact hrep t ht
  ·rw[if_neg ht];exact .any _
 ·rintro e a' w' ⟨x,s',I',mu',hq,he,r'⟩
  have fin:∀ d,Jx P s' fn.results.toList=some d->Go.Ab.lo (Go.Ab.frz (Ai s'.hp) 6 d) r->r.pure=true->LeavesInM Fence.wide 0 P fn a'.tmps (fun e w'=>∃ v I',e=.returned v/\Rep w' I' (fun _=>none) r v/\(∀ k,I k->I' k)/\(∀ k,I' k->I k∨w.heap.size<=k)/\(∀ k,I' k->k<w'.heap.size)/\Below w.heap.size w w') a'.defers .returning w':=by
   intro d hd hfr hpu
   refine r'.leave hI rfl hd fun v w2 I2 _ W2 h2=>?_
   have hfz:=Rep.frz (J:=fun k=>I2 k∨(w.heap.size<=k/\k<w2.heap.size)) W2 (fun k hk=>.inl hk) (fun b x v k hx hv hk=>.inr (by
     have:=W2.loc b x v k hx hv hk
     rcases this.1 with h3|h3
     ·exact h3.elim
     ·exact⟨h3,this.2.2⟩)) 6 d v h2
   have hfr':Go.Ab.lo (Go.Ab.frz s'.fs.hp 6 d) r:=hfr
   have hfz:=hfz.lo hfr'
   refine⟨v,_,rfl,hfz.unmu hpu,fun k hk=>.inl (W2.iold k hk),fun k hk=>?_,fun k hk=>?_,⟨W2.os,W2.tape,W2.output,W2.grown,fun k hk=>W2.old k hk (fun h=>h)⟩⟩
   ·rcases hk with hk|hk
    ·rcases W2.inew k hk with h3|h3|h3
     ·exact .inl h3
     ·exact h3.elim
     ·exact .inr h3
    ·exact .inr hk.1
   ·rcases hk with hk|hk
    ·exact W2.lt k hk
    ·exact hk.2
  cases x<;>cases e<;>simp only[Ga] at he<;>simp only[UY] at hq
  case normal.normal=>
   obtain⟨d,hd,hfr,hpu⟩:=hq
   exact fin d hd hfr hpu
  case ret.ret=>
   obtain⟨d,hd,hfr,hpu⟩:=hq
   exact fin d hd hfr hpu
end Go.Ab
namespace Go.Ab
open Go.RowKit
section
variable{P:Program}{F:Fence}{n:Nat}
theorem Ha{u:FrameMode}(hu:u≠ .run){dl:List Deferred}:∀ (rs:List Nat) (w:World) (fr:Frame) (cs:List Frame),rs.Nodup->(∀ r ∈ rs,w.heap[r]? =some (.deferred (some [])))->F.fn fr.fn->F.room (cs.length+1+n)->fr.mode=u->fr.defers=rs.map (fun r=> {target:=.collected r,args:=#[]})++dl->
  StepsIn (Machine.fenced P F) P (lone fr cs w) (lone {fr with defers:=dl} cs (Dm rs w))
 |[],w,fr,cs,_,_,_,_,_,hd=>by
  have:({fr with defers:=dl}:Frame)=fr:=by simp at hd;rw[<-hd]
  rw[this];exact StepsIn.refl _
 |r::rs,w,fr,cs,hn,hr,hb,hroom,hm,hd=>by
  simp only[A1h] at hn
  have h1:=step_collected (P:=P) (fr:=fr) (cs:=cs) (w:=w) (hm▸hu) hd rfl (run_takeDeferred (hr r A0C))
  have i1:(lone fr cs w).fenced P F:=fenced_out hb hroom (hm▸hu) hd (fun g hg=>by simp[Target.leads] at hg)
  have ih:=Ha hu (dl:=dl) rs (w.putObj r (.deferred none)) {fr with defers:=[]++(rs.map (fun r=> {target:=.collected r,args:=#[]})++dl)} cs hn.2 (fun k hk=>by
   rw[World.putObj_heap_other (by rintro rfl;exact hn.1 hk)]
   exact hr k (A0l _ hk)) hb hroom hm rfl
  exact .head i1 h1 ih
theorem HG{f:FuncId}{fn:Func}{c:Code}{args:Array Value}{u:FrameMode}{w:World}{R:Ending->World->Prop}
  (hf:P.funcs[f]? =some fn) (hb:fn.body=some c) (hF:F.fn f)
  (h:c.wpIn F n P (fun e a w=>match e with
   |.normal|.ret=>∃ (rs:List Nat) (v:Value),a.defers=rs.map (fun r=> {target:=.collected r,args:=#[]})++[]/\rs.Nodup/\(∀ r ∈ rs,w.heap[r]? =some (.deferred (some [])))/\(results fn a.tmps).run P (Dm rs w)=.ok v (Dm rs w)/\R (.returned v) (Dm rs w)
   |_=>False) {tmps:=args++Array.replicate (fn.ntmps-args.size) undef,defers:=[]} w) (hro:F.round=none:=by rfl):
  CallsDIn F n P f args u w fun e u' w'=>u'=u/\R e w':=by
 refine⟨hF,fun c₀ cs hu hr=>?_⟩
 let b:Frame:= {(default:Frame) with fn:=f,kind:=.deferred,roundOf:=none}
 have henter:Frame.enter P f args .deferred=
   b.atR {tmps:=args++Array.replicate (fn.ntmps-args.size) undef,defers:=[]} [.code c]:=by
  simp[Frame.enter,Frame.atR,hf,hb,b]
 have hc:({c₀ with mode:=u}:Frame)=c₀:=by subst hu;rfl
 obtain⟨e,a',w',hq,harr⟩:=h b [] (c₀::cs) hro.symm hF hr
 rw[<-henter] at harr
 cases e with
 |normal=>
  obtain⟨rs,v,d1,d2,d3,hr',hR⟩:=hq
  have hs:=StepsIn.trans harr (.one (fenced_calm (fr:=b.atR a' []) hF hr rfl) (stepR_end rfl))
  have hm:=Ha (P:=P) (F:=F) (n:=n) (u:=.returning) (by simp) (dl:=[]) rs w' {b.atR a' [] with mode:=.returning} (c₀::cs) d2 d3 hF hr rfl d1
  exact⟨.returned v,u,Dm rs w',_,⟨rfl,hR⟩,(by rw[hc];exact StepsIn.trans hs hm),rfl,rfl,rfl,rfl,fn,hf,hr'⟩
 |ret=>
  obtain⟨rs,v,d1,d2,d3,hr',hR⟩:=hq
  obtain⟨todo,hs⟩:=harr.1 rfl
  have hm:=Ha (P:=P) (F:=F) (n:=n) (u:=.returning) (by simp) (dl:=[]) rs w' {b.atR a' todo with mode:=.returning} (c₀::cs) d2 d3 hF hr rfl d1
  exact⟨.returned v,u,Dm rs w',_,⟨rfl,hR⟩,(by rw[hc];exact StepsIn.trans hs hm),rfl,rfl,rfl,rfl,fn,hf,hr'⟩
 |panic chain=>exact hq.elim
 |exit id=>exact hq.elim
 |goto l=>exact hq.elim
 |outgrown=>exact hq.elim
end
def Rg(P:Program)(f:FuncId)(cs:List D)(H H':Hp):Prop:=
 Bc P f=true/\∀ (w:World) (M0:Nat->Prop) (G:Gh) (I:Nat->Prop) (mu:Nat->Option Value) (vs:List Value) (u:FrameMode),GA P w M0 G->G.dl=[]->Aq w M0 G (frN 4) I mu (Ai H) w->Bp w I mu cs vs->
  CallsDIn Fence.wide 0 P f vs.toArray u w fun e u' w'=>u'=u/\∃ v I' mu',e=.returned v/\Aq w M0 G (frN 4) I' mu' (Ai H') w'
theorem Rg.of_awp{P:Program}{nt:Nat}{f:FuncId}{fn:Func}{c:Code}{ds:List D}{H H':Hp}(hf:P.funcs[f]? =some fn)(hb:fn.body=some c)(hn:fn.ntmps=nt)(hent:Bc P f=true)(hlen:ds.length<=nt){rs:List ResultVar}(hrs:fn.results.toList=rs)
  (h:AWp P nt c (Ny P rs (.tup []) H') ⟨Bq 0 ds,H,4⟩):Rg P f ds H H':=by
 subst hrs
 refine⟨hent,fun w M0 G0 I mu vs u hga hdl hw hrep=>?_⟩
 let G:Gh:=⟨G0.st,G0.nm,[],Fence.wide,0,.inl rfl⟩
 have hG:∀ k,G k->k<w.heap.size:=fun k hk=>hw.lt k (hw.iold k hk)
 refine HG (n:=0) hf hb trivial (wpIn_mono (h w M0 G hga I mu _ w ⟨?_,BR.refl _ _ _ _,fun t=>Fu hrep _ t,⟨hw.blk,hw.loc,hw.inj,hw.fresh,hw.lt,hw.os,hw.tape,hw.output,hw.grown,hw.old,hw.iold,hw.inew,hw.keep,hw.used⟩⟩) ?_)
 ·have:=hrep.1;simp[hn];omega
 ·rintro e a' w' ⟨x,s',I',mu',hq,he,r'⟩
  have fin:∀ d,Jx P s' fn.results.toList=some d->Ar ⟨[(0,d)],s'.hp,s'.nx⟩ ⟨[(0,.tup [])],H',4⟩->∃ (rs:List Nat) (v:Value),a'.defers=rs.map (fun r=> {target:=.collected r,args:=#[]})++[]/\rs.Nodup/\(∀ r ∈ rs,w'.heap[r]? =some (.deferred (some [])))/\(results fn a'.tmps).run P (Dm rs w')=.ok v (Dm rs w')/\
    ∃ v' I' mu',Ending.returned v=.returned v'/\Aq w M0 G0 (frN 4) I' mu' (Ai H') (Dm rs w'):=by
   intro d hd hwk
   obtain⟨rs,_,d1,d2,d3⟩:=r'.defers
   obtain⟨w1,w2⟩:=r'.w.shut hG d3
   obtain⟨v,q1,q2⟩:=Hj (P:=P) (a:=a') (w:=Dm rs w') (I:=fun k=>I' k/\k ∉ rs) (mu:=mu') (w0:=w) (M0:=M0) (I0:=⟨G.st,G.nm,a'.defers,G.F,G.n,G.hF⟩) (fr:=frN s'.nx) (nt:=nt) (s:=s')
    ⟨r'.size,BR.refl _ _ _ _,fun t=>w2 _ _ (r'.env t),⟨w1.blk,w1.loc,w1.inj,w1.fresh,w1.lt,w1.os,w1.tape,w1.output,w1.grown,w1.old,w1.iold,w1.inew,w1.keep,w1.used⟩⟩ fn hd
   obtain⟨I3,mu3,R3⟩:=hwk w M0 G 1 (fun k=>I' k/\k ∉ rs) mu' {tmps:=#[v],defers:=[]} (Dm rs w') ⟨rfl,BR.refl _ _ _ _,fun t=>by
    cases t with
    |zero=>simpa [St.fs,Env.get] using q2
    |succ t=>simp [St.fs,Env.get];exact .any _,w1⟩
   exact⟨rs,v,d1,d2,fun r hr=>(d3 r hr).2.2,q1,v,I3,mu3,rfl,⟨R3.w.blk,R3.w.loc,R3.w.inj,R3.w.fresh,R3.w.lt,R3.w.os,R3.w.tape,R3.w.output,R3.w.grown,R3.w.old,R3.w.iold,R3.w.inew,R3.w.keep,R3.w.used⟩⟩
  cases x<;>cases e<;>simp only[Ga] at he<;>simp only[Ny] at hq
  case normal.normal=>
   obtain⟨d,hd,hfr⟩:=hq
   exact fin d hd hfr
  case ret.ret=>
   obtain⟨d,hd,hfr⟩:=hq
   exact fin d hd hfr
def Th(P:Program)(rs:List ResultVar)(g:FuncId)(cs:List D)(rB:D)(HB':Hp):AE->St->Prop
 |.ret,s|.normal,s=>∃ (rD:Nat->Nat) (csD:List D) (HD HD':Hp),Rg P g csD HD HD'/\cs=Ca rD csD/\ltL 4 csD=true/\BD rD (Ai s.hp) HD/\Dj (2*s.nx) rD HD []=true/\Dj (2*s.nx) rD HD HD'=true/\
   ∃ d,Jx P ⟨s.env,Er s.hp (DX (2*s.nx) rD HD HD'),s.nx+4⟩ rs=some d/\Ar ⟨[(0,d)],Er s.hp (DX (2*s.nx) rD HD HD'),s.nx+4⟩ ⟨[(0,rB)],HB',4⟩
 |_,_=>False
def DefQ1(P:Program)(nt:Nat)(rs:List ResultVar)(g:FuncId)(t:Nat)(caps:Array Operand)(B:Code)(r:D)(H':Hp)(r1:Nat->Nat)(cs:List D)(env':Env)(HB:Hp)(rB:D)(HB':Hp):AE->St->Prop
 |.normal,s=>caps.toList.map (evO P s.env.get)=Ca r1 cs/\ltL 0 cs=true/\Ca (fun b=>b) cs=cs/\Di r1 ((t,.any)::s.env) env'/\Jg 4 env'=true/\BD r1 (Ai s.hp) HB/\Dj (2*s.nx) r1 HB []=true/\Dj (2*s.nx) r1 HB HB'=true/\
   AWp P nt B (Th P rs g cs rB HB') ⟨env',HB,4⟩/\Ar ⟨[(0,B3 (CL (2*s.nx) r1) rB)],Er s.hp (DX (2*s.nx) r1 HB HB'),s.nx+4⟩ ⟨[(0,r)],H',4⟩
 |_,_=>False
theorem F2{m n b:Nat}(hmn:m<=n)(h:okN m b=true):okN n b=true:=by
 simp[okN] at h|-;omega
mutual
theorem MJ{m n:Nat}(hmn:m<=n):∀ {d:D},ltD m d=true->ltD n d=true
 |.any,_=>rfl
 |.val _,_=>rfl
 |.abool _ _,_=>rfl
 |.cond _ d,h=>by simp only[ltD] at h|-;exact MJ hmn h
 |.agg cs,h=>by simp only[ltD] at h|-;exact DQ hmn h
 |.tup cs,h=>by simp only[ltD] at h|-;exact DQ hmn h
 |.slice es _,h=>by simp only[ltD] at h|-;exact P7 hmn h
 |.ptr cs _,h=>by simp only[ltD] at h|-;exact DQ hmn h
 |.func _ fs cs,h=>by simp only[ltD,A0c] at h|-;exact⟨DQ hmn h.1,DQ hmn h.2⟩
 |.iface _ d,h=>by simp only[ltD] at h|-;exact MJ hmn h
 |.ref b _ _ _,h=>F2 hmn h
 |.sref b _ _ _ _,h=>F2 hmn h
 |.gref b _,h=>F2 hmn h
 |.mref b,h=>F2 hmn h
 |.yld b,h=>F2 hmn h
 |.gel b _ _ _,h=>F2 hmn h
 |.gsub b _ _ _,h=>F2 hmn h
theorem DQ{m n:Nat}(hmn:m<=n):∀ {l:List D},ltL m l=true->ltL n l=true
 |[],_=>rfl
 |d::l,h=>by simp only[ltL,A0c] at h|-;exact⟨MJ hmn h.1,DQ hmn h.2⟩
theorem P7{m n:Nat}(hmn:m<=n):∀ {l:List (List D)},EJ m l=true->EJ n l=true
 |[],_=>rfl
 |d::l,h=>by simp only[EJ,A0c] at h|-;exact⟨DQ hmn h.1,P7 hmn h.2⟩
end
def AWpL(P:Program)(nt:Nat):List Code->(St->Prop)->St->Prop
 |[],Q,s=>Q s
 |A::As,Q,s=>AWp P nt A (Yf (fun s=>AWpL P nt As Q s) (fun _ _=>False)) s
theorem H4{P:Program}{nt:Nat}{X:Code}{R:Exit->Act->World->Prop}{Q:St->Prop}{w0:World}{M0:Nat->Prop}{I0:Gh}(hga:GA P w0 M0 I0)(hk:∀ s1 I1 mu1 a1 w1,Q s1->Rel w0 M0 I0 nt (frN s1.nx) I1 mu1 s1.fs a1 w1->X.wpIn I0.F I0.n P R a1 w1):
  ∀(As:List Code) (s:St),AWpL P nt As Q s->∀ (I:Nat->Prop) (mu:Nat->Option Value) (a:Act) (w:World),Rel w0 M0 I0 nt (frN s.nx) I mu s.fs a w->(As.foldr .seq X).wpIn I0.F I0.n P R a w
 |[],s,h,I,mu,a,w,r=>hk s I mu a w h r
 |A::As,s,h,I,mu,a,w,r=>wpIn_seq (wpIn_mono (h w0 M0 I0 hga I mu a w r) fun e a' w' hx=>by
   obtain⟨x,s',I',mu',q,he,r'⟩:=hx
   cases x<;>cases e<;>simp only[Ga] at he<;>simp only[Yf] at q
   exact H4 hga hk As s' q I' mu' a' w' r')
theorem A4.of_awp_defer{P:Program}{nt:Nat}{f:FuncId}{fn:Func}(As:List Code){B:Code}{ds:List D}{H:Hp}{r:D}{H':Hp}{id t g:Nat}{caps:Array Operand}{T1 T2:TypeId}{ps1 ps2:String}{af1 af2:Array Edge}{ts:Array TypeId}(hf:P.funcs[f]? =some fn)
  (hb:fn.body=some (As.foldr .seq (.seq (.region id #[⟨some t,.makeFunc (.func g) #[] caps,T1,ps1,af1,none⟩,⟨none,.defer {callee:=.value (.tmp t),args:=#[],argTypes:=ts},T2,ps2,af2,none⟩] false) B)))
  (hn:fn.ntmps=nt) (hent:Bc P f=true) (hlen:ds.length<=nt) (ht:t<nt) {rs:List ResultVar} (hrs:fn.results.toList=rs) (r1:Nat->Nat) (cs:List D) (env':Env) (HB:Hp) (rB:D) (HB':Hp)
  (h:AWpL P nt As (DefQ1 P nt rs g t caps B r H' r1 cs env' HB rB HB' .normal) ⟨Bq 0 ds,H,4⟩):A4 P f ds H r H':=by
 subst hrs
 unfold A4
 refine⟨hent,fun w M0 G0 I mu vs hga hdl hw hrep=>?_⟩
 let G:Gh:=⟨G0.st,G0.nm,[],Fence.wide,1,.inl rfl⟩
 have hG:∀ k,G k->k<w.heap.size:=fun k hk=>hw.lt k (hw.iold k hk)
 refine callsIn_wide.1 (callsIn_of_wp_marks (n:=1) hf hb trivial (H4 (I0:=G) hga ?_ As _ h I mu _ w ⟨?_,BR.refl _ _ _ _,fun t=>Fu hrep _ t,⟨hw.blk,hw.loc,hw.inj,hw.fresh,hw.lt,hw.os,hw.tape,hw.output,hw.grown,hw.old,hw.iold,hw.inew,hw.keep,hw.used⟩⟩))
 case refine_2=>have:=hrep.1;simp[hn];omega
 rintro s1 I1 mu1 a1 w1 hq R1
 simp only[DefQ1] at hq
 obtain⟨c1,c2,c3,c4,c5,c6,c7,c8,hB,hW⟩:=hq
 show Code.wpIn _ _ _ _ _ _ _
 refine wpIn_seq (wpIn_region ?_)
 have hcap:Bp w1 I1 mu1 (Ca r1 cs) (caps.toList.map a1.eval):=by
  rw[<-c1]
  exact Bp.args (args:=caps) fun y _=>DI (GA.at (I0:=G) hga R1.w) R1.env y
 have hcsl:(caps.toList.map a1.eval).toArray=caps.map a1.eval:=by apply Array.ext';simp
 have o1:(execOp a1.eval ⟨some t,.makeFunc (.func g) #[] caps,T1,ps1,af1,none⟩).run P w1=.ok (.value (.func (.func g) #[] (caps.map a1.eval))) w1:=by simp[execOp,Instr.makeFunc]
 have hev:(a1.put (some t) (.func (.func g) #[] (caps.map a1.eval))).eval (.tmp t)=.func (.func g) #[] (caps.map a1.eval):=by
  have:t<a1.tmps.size:=by rw[R1.size];exact ht
  simp[Act.put,Act.eval,this]
 have o2:(execOp (a1.put (some t) (.func (.func g) #[] (caps.map a1.eval))).eval ⟨none,.defer {callee:=.value (.tmp t),args:=#[],argTypes:=ts},T2,ps2,af2,none⟩).run P w1=.ok (.defer {target:=.fn (.func g) (caps.map a1.eval),args:=#[]}) w1:=by
  simp only[execOp,resolve,hev,Deferred.ofValue,A0m,A0w,Result.andThen]
  simp
 have hd1:a1.defers=[]:=by
  obtain⟨rs,d0,d1,_⟩:=R1.defers
  rw[d0 rfl] at d1;exact d1
 have hvs:(caps.toList.map a1.eval).toArray=caps.map a1.eval:=hcsl
 obtain⟨M,G2,muc,⟨g1,g2,g3,g4,g5,g6,g7,g8⟩,hback⟩:=X4 (id:=2*s1.nx) r1 (show GA P w M0 G from hga) R1.w (fun j hj=>⟨by omega,by show 2*s1.nx<=2*s1.nx+2*j;omega⟩) (fun _ _=>rfl) hcap (DQ (A0t 4) c2) c6 c7
 generalize hclo:Value.func (.func g) #[] (caps.map a1.eval)=clo at o1 o2 hev
 let d:Deferred:= {target:=.fn (.func g) (caps.map a1.eval),args:=#[]}
 let G3:Gh:=⟨G2.st,G2.nm,[d],Fence.wide,1,.inl rfl⟩
 have hG3:∀ k,G3 k->k<w1.heap.size:=fun k hk=>g3.lt k (g3.iold k hk)
 have henv:∀ t',Rep w1 I1 muc (env'.get t') ((a1.put (some t) clo).tmps.getD t' undef):=by
  intro t'
  have h1:Rep w1 I1 mu1 (Env.get ((t,.any)::s1.env) t') ((a1.put (some t) clo).tmps.getD t' undef):=by
   simp only[Env.get]
   by_cases hh:t=t'
   ·subst hh;simp only[beq_self_eq_true,cond_true];exact .any _
   ·have:(t==t')=false:=by simpa using hh
    simp only[this,cond_false]
    have:=R1.env t'
    simp only[Act.put,A1n,A1t hh] at this|-
    exact this
  rcases Gd c4 c5 t' with⟨d',h2,h3,h4⟩|h2
  ·rw[h2]
   exact(h1.lo h3).ren g5 rfl h4
  ·rw[h2];exact .any _
 have hsz:(a1.put (some t) clo).tmps.size=nt:=by rw[F0];exact R1.size
 show wpOpsIn Fence.wide 1 P _ _ [0,1] a1 w1
 simp only[wpOpsIn,A1g,A0P,A13,Region.wanted]
 simp only[if_true]
 refine Dt (G:=G) o1 ?_
 refine⟨fun f' _=>G.fn f',?_⟩
 rw[show Fence.wide.round=none from rfl,Oper.semAt_none,o2]
 show Code.wpIn Fence.wide 1 P B _ ({tmps:=(a1.put (some t) clo).tmps,defers:=d::(a1.put (some t) clo).defers}:Act) w1
 rw[DZ,hd1]
 refine wpIn_mono (hB w1 M G3 g1 I1 muc {tmps:=(a1.put (some t) clo).tmps,defers:=[d]} w1 ⟨hsz,BR.refl _ _ _ _,henv,⟨g3.blk,g3.loc,g3.inj,g3.fresh,g3.lt,g3.os,g3.tape,g3.output,g3.grown,g3.old,g3.iold,g3.inew,g3.keep,g3.used⟩⟩) ?_
 rintro e a2 w2 ⟨x,s2,I2,mu2,hq2,he2,R2⟩
 have hd2:a2.defers=[d]:=by
  obtain⟨rs,d0,d1,_⟩:=R2.defers
  rw[d0 rfl] at d1;exact d1
 have hold:∀ k,I1 k->w2.heap[k]? =w1.heap[k]?:=fun k hk=>R2.w.old k (R1.w.lt k hk) (fun hM=>g7 k hM hk)
 have fin:Th P fn.results.toList g cs rB HB' .ret s2->LeavesInM Fence.wide 1 P fn a2.tmps (fun e w'=>∃ v I' mu',e=.returned v/\Rep w' I' mu' r v/\Aq w M0 G0 (frN 4) I' mu' (Ai H') w') a2.defers .returning w2:=by
  rintro⟨rD,csD,HD,HD',hD,q1,q2,q3,q4,q5,dd,q6,q7⟩
  rw[hd2]
  have hcs2:Bp w2 I2 mu2 (Ca rD csD) (caps.toList.map a1.eval):=by
   rw[<-q1]
   refine⟨g4.1,fun i hi=>?_⟩
   have h1:=g4.2 i hi
   have hnd:nd cs i=B3 (fun b=>b) (nd cs i):=by
    have:=BV (r:=fun b=>b) hi
    rw[c3] at this;exact this
   have h2:Rep w1 I1 mu2 (nd cs i) (nv (caps.toList.map a1.eval) i):=Rep.ren (r:=fun b=>b) (n:=0) (fun b x hb hx=>by
    have hb':b%2=1:=by simpa[okN] using hb
    exact R2.w.keep b x hb' (g8 b x hb' hx)) h1 hnd (Et c2 i)
   exact h2.mono hold (fun k hk=>R2.w.iold k (g6 k hk)) (fun _ _ h=>h)
  obtain⟨M4,G4,muc4,⟨f1,f2,f3,f4,f5,_⟩,hback4⟩:=X4 (id:=2*s2.nx) rD (show GA P w1 M G3 from g1) R2.w (fun j hj=>⟨by omega,by show 2*s2.nx<=2*s2.nx+2*j;omega⟩) (fun _ _=>rfl) hcs2 q2 q3 q4
  have hinv:(invoke (.fn (.func g) (caps.map a1.eval)) #[]).run P w2=.ok (.enter g (caps.toList.map a1.eval).toArray) w2:=by
   have e1:#[]++caps.map a1.eval=(caps.toList.map a1.eval).toArray:=by apply Array.ext';simp
   simp only[invoke]
   exact(congrArg (fun z=>(callFunc g z).run P w2) e1).trans (Bn hD.1 _ w2)
  refine⟨by simp,.inr ⟨fun h=>(by cases h),Fn.func g,caps.map a1.eval,g,_,rfl,hinv,fun f' _=>G3.fn f',(hD.2 w2 M4 G4 I2 muc4 _ .returning f1 f2 f3 f4).mono ?_⟩⟩
  rintro e u' w3 ⟨rfl,v,I3,mu3,rfl,R3⟩
  obtain⟨mu4,e4,R4,_⟩:=hback4 .any HD' v w3 I3 mu3 q5 (.any _) R3
  have hout:(fun b=>AX b (s2.fs.hp b) (Cm (2*s2.nx) rD HD .any HD').up)=Ai (Er s2.hp (DX (2*s2.nx) rD HD HD')):=by
   funext b;rw[ES];rfl
  rw[hout] at R4
  have R4':=R4.less (fr':=frN (s2.nx+4)) fun b hb=>⟨⟨hb.1,by have:=hb.2;omega⟩,fun j hj=>by have:=hb.2;omega⟩
  obtain⟨v5,h5,h6⟩:=Hj (P:=P) (a:=a2) (w:=w3) (I:=I3) (mu:=mu4) (w0:=w1) (M0:=M) (I0:=⟨G3.st,G3.nm,a2.defers,Fence.wide,1,.inl rfl⟩) (fr:=frN (s2.nx+4)) (nt:=nt) (s:=⟨s2.env,Er s2.hp (DX (2*s2.nx) rD HD HD'),s2.nx+4⟩)
   ⟨R2.size,BR.refl _ _ _ _,fun t'=>(R2.env t').ext e4,⟨R4'.blk,R4'.loc,R4'.inj,R4'.fresh,R4'.lt,R4'.os,R4'.tape,R4'.output,R4'.grown,R4'.old,R4'.iold,R4'.inew,R4'.keep,R4'.used⟩⟩ fn q6
  obtain⟨I6,mu6,R6⟩:=q7 w1 M G2 1 I3 mu4 {tmps:=#[v5],defers:=G2.dl} w3 ⟨rfl,BR.refl _ _ _ _,fun t'=>by
   cases t' with
   |zero=>simpa [St.fs,Env.get] using h6
   |succ t'=>simp [St.fs,Env.get];exact .any _,⟨R4'.blk,R4'.loc,R4'.inj,R4'.fresh,R4'.lt,R4'.os,R4'.tape,R4'.output,R4'.grown,R4'.old,R4'.iold,R4'.inew,R4'.keep,R4'.used⟩⟩
  have r0:Rep w3 I6 mu6 rB v5:=by simpa[St.fs,Env.get] using R6.env 0
  obtain⟨mu7,e7,R7,h7,_⟩:=hback rB HB' v5 w3 I6 mu6 c8 r0 R6.w
  have hout7:(fun b=>AX b (s1.fs.hp b) (Cm (2*s1.nx) r1 HB rB HB').up)=Ai (Er s1.hp (DX (2*s1.nx) r1 HB HB')):=by
   funext b;rw[ES];rfl
  rw[hout7] at R7
  have R7':=R7.less (fr':=frN (s1.nx+4)) fun b hb=>⟨⟨hb.1,by have:=hb.2;omega⟩,fun j hj=>by have:=hb.2;omega⟩
  obtain⟨I8,mu8,R8⟩:=hW w M0 G 1 I6 mu7 {tmps:=#[v5],defers:=[]} w3 ⟨rfl,BR.refl _ _ _ _,fun t'=>by
   cases t' with
   |zero=>simpa [St.fs,Env.get,Cm] using h7
   |succ t'=>simp [St.fs,Env.get];exact .any _,R7'⟩
  have r8:Rep w3 I8 mu8 r v5:=by simpa[St.fs,Env.get] using R8.env 0
  exact⟨v5,h5,v5,I8,mu8,rfl,r8,⟨R8.w.blk,R8.w.loc,R8.w.inj,R8.w.fresh,R8.w.lt,R8.w.os,R8.w.tape,R8.w.output,R8.w.grown,R8.w.old,R8.w.iold,R8.w.inew,R8.w.keep,R8.w.used⟩⟩
 cases x<;>cases e<;>simp only[Ga] at he2<;>simp only[Th] at hq2
 ·exact fin hq2
 ·exact fin hq2
attribute [irreducible] Rg
end Go.Ab
