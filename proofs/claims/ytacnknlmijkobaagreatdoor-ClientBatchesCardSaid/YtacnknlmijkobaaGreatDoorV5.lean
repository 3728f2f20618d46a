/- The layer by which the program is walked, and what its functions do: part 6 of 15. -/
import Derived.Test.YtacnknlmijkobaaGreatDoorV4
import Derived.Lib.Overlaps
import Derived.Lib.Bytealg
import Derived.Lib.ConvBytes
import Derived.Laws.IdiomStrings
import Derived.Laws.AppendOwn
import Derived.Lib.UnsafeStr
import Derived.Laws.BytesArg
set_option maxHeartbeats 4000000
set_option maxRecDepth 20000
set_option linter.unusedVariables false
set_option linter.unusedSimpArgs false
set_option linter.unnecessarySimpa false
namespace Go.Ab
open Go.RowKit
def Y0(P:Program)(f:FuncId):Prop:=
 ∀(w:World) (a b:Addr) (la ca lb cb:Nat) (tA tB:TypeId) (kA kB:Nat),a.block≠b.block->w.shape? a.block=some (tA,kA)->w.frozen? a=false->w.frozen? {block:=a.block,off:=kA}=false->w.shape? b.block=some (tB,kB)->kB≠0->
  (callFunc f #[.slice (some a) la ca,.slice (some b) lb cb]).run P w=.ok (.value (.bool false)) w
theorem Y0.of{P:Program}{k:FuncId}{fn:Func}{tS tR e:TypeId}{size:Nat}(hf:P.funcs[k]? =some fn)(hn:(fn.name== "runtime.NumGoroutine")=false)(hb:fn.body.isNone=true)(h1:Extern.findNext fn=none)
  (h2:Extern.find fn=some (Extern.SlicesOverlaps.overlaps #[tS,tS] #[tR])) (ht:P.underlying tS=some (.slice e)) (hz:∀ w,(Go.sizeOf e).run P w=.ok size w):Y0 P k:=by
 intro w a b la ca lb cb tA tB kA kB hne h3 h4 h5 h6 h7
 have g1:=Lib.run_overlaps_apart w tS tR e ht size hz a b la ca lb cb hne tA tB kA kB h3 h6 h7 h4 h5
 have hn':fn.name≠ "runtime.NumGoroutine":=by simpa using hn
 have hb':fn.body=none:=by simpa using hb
 simp[callFunc,hf,hn',hb',h1,h2,g1,Result.andThen]
theorem Sp{P:Program}{id:Nat}{ev:Operand->D}{hp:Nat->Option Blk}{dst:Option Tmp}{T:TypeId}{pos:String}{af:Array Edge}{gd:Option (Nat×Bool)}{f:FuncId}{x y:Operand}{ts:Array TypeId}{b1 i1 l1 c1 s1 b2 i2 l2 c2 s2 z1 z2:Nat}{es1 es2:List (List D)}
  (hc:Y0 P f) (hx:ev x=.sref b1 i1 l1 c1 s1) (hy:ev y=.sref b2 i2 l2 c2 s2) (h1:hp b1=some (.rows es1 z1)) (h2:hp b2=some (.rows es2 z2)) (hne:b1≠b2) (h0:0<es2.length*z2):
  AC P ⟨dst,.call {callee:=.value (.func f),args:=#[x,y],argTypes:=ts},T,pos,af,gd⟩ id ev hp ⟨.val (.bool false),[],[b1,b2]⟩:=by
 refine AC.quiet fun w0 M0 I0 fr I mu hh a w hw hxs hb=>⟨.bool false,?_,.val _ trivial⟩
 have rx:=hxs x (by simp[Op.operands,Call.operands])
 have ry:=hxs y (by simp[Op.operands,Call.operands])
 rw[hx] at rx
 rw[hy] at ry
 have hb1:=(hb b1 (by simp)).trans h1
 have hb2:=(hb b2 (by simp)).trans h2
 obtain⟨k1,T1,us1,m1,g1,q1,_,_⟩:=hw.blk b1 _ hb1
 obtain⟨k2,T2,us2,m2,g2,q2,_,_⟩:=hw.blk b2 _ hb2
 have hk:k1≠k2:=fun e=>hne (hw.inj b1 b2 _ _ _ _ k1 hb1 hb2 m1 m2 rfl (by rw[e];rfl))
 generalize hvx:a.eval x=vx at rx
 generalize hvy:a.eval y=vy at ry
 cases rx with
 |sref _ _ _ _ _ j1 n1=>
 cases ry with
 |sref _ _ _ _ _ j2 n2=>
 rw[m1] at n1
 rw[m2] at n2
 simp only[A03,A0O,A16,and_true] at n1 n2
 subst n1 n2
 have hr:=hc w ⟨k1,i1*s1,none⟩ ⟨k2,i2*s2,none⟩ l1 c1 l2 c2 T1 T2 us1.length us2.length hk (by simp[World.shape?,g1]) (by simp[World.frozen?,g1]) (by simp[World.frozen?,g1]) (by simp[World.shape?,g2]) (by omega)
 simp only[execOp,resolve,Act.eval,Deferred.ofValue,A0e,A0j,Result.andThen,invoke]
 have e2:#[]++(#[x,y]:Array Operand).map a.eval++ #[]=#[.slice (some ⟨k1,i1*s1,none⟩) l1 c1,.slice (some ⟨k2,i2*s2,none⟩) l2 c2]:=by
  apply Array.ext';simp[hvx,hvy]
 exact(congrArg (fun z=>(callFunc f z).run P w) e2).trans hr
noncomputable section
section
variable{P:Program}{ops:Array Oper}{nx:Nat}{dst:Option Tmp}{T:TypeId}{ps:String}{af:Array Edge}{gd:Option (Nat×Bool)}{f:FuncId}{x y:Operand}{ts:Array TypeId}{l:List Oper}{pos:Nat}{acc:List Eff}{s:St}{K:List Eff->St->Prop}{b1 i1 l1 c1 s1 b2 i2 l2 c2 s2 z1 z2:Nat}{es1 es2:List (List D)}
theorem A1.ovl(hc:Y0 P f)(hg:gd=none∨∃ j want t,gd=some (j,want)/\AT ops j=some t/\gOf (s.env.get t) want=some true)(hx:evO P s.env.get x=.sref b1 i1 l1 c1 s1)(hy:evO P s.env.get y=.sref b2 i2 l2 c2 s2)(h1:Ad s.hp b1=some (.rows es1 z1))(h2:Ad s.hp b2=some (.rows es2 z2))(hne:b1≠b2)(h0:0<es2.length*z2)
  (hk:GoS P ops nx l (pos+1) (⟨.val (.bool false),[],[b1,b2]⟩::acc) (s.app dst ⟨.val (.bool false),[],[b1,b2]⟩) K):A1 P ops nx (⟨dst,.call {callee:=.value (.func f),args:=#[x,y],argTypes:=ts},T,ps,af,gd⟩::l) pos acc s K:=by
 rw[Cb] at hk;rw[Bj]
 unfold Bz
 refine .inl ⟨_,?_,by have:=Go.run hk;unfold Bz at this;exact this⟩
 rcases hg with rfl|⟨j,want,t,rfl,ht,hg⟩
 ·exact Bd.plain rfl (Sp hc hx hy h1 h2 hne h0)
 ·exact Bd.guard_true rfl ht hg (Sp hc hx hy h1 h2 hne h0)
end
end
end Go.Ab
namespace Go.Ab
open Go.RowKit
open Go.ChangeMaps (setBlock)
section
variable{w0:World}{M0:Nat->Prop}{I0:Gh}{fr I:Nat->Prop}{mu:Nat->Option Value}{hp:Nat->Option Blk}{w:World}
theorem Ap.setObj(h:Ap w0 M0 I0 fr I mu hp w){b k:Nat}{x0 x:Blk}(hb:hp b=some x0)(hm:mu b=some (.pointer (some ⟨k,0,none⟩)))(o:Obj)(hx:(setBlock w k o).heap[k]? =some o->(∀ j,j≠k->(setBlock w k o).heap[j]? =w.heap[j]?)->D7 (setBlock w k o) I mu b x):
  Ap w0 M0 I0 fr I mu (fun c=>AO c (hp c) [(b,some x)]) (setBlock w k o)/\Ext I mu w I mu (setBlock w k o):=by
 obtain⟨hk1,hk2,hk3⟩:=h.loc b x0 _ k hb hm rfl
 have hoth:∀ j,j≠k->(setBlock w k o).heap[j]? =w.heap[j]?:=fun j hj=>by
  simp[setBlock,Array.getElem?_setIfInBounds,Ne.symm hj]
 have hself:(setBlock w k o).heap[k]? =some o:=by simp[setBlock,hk3]
 have hsz:(setBlock w k o).heap.size=w.heap.size:=by simp[setBlock]
 have hI:∀ j,I j->(setBlock w k o).heap[j]? =w.heap[j]?:=fun j hj=>hoth j (by rintro rfl;exact hk2 hj)
 have hup:∀ c,AO c (hp c) [(b,some x)]=if c=b then some x else hp c:=by
  intro c;simp only[AO,A0r,A0Z];by_cases hc:c=b
  ·subst hc;simp
  ·have:¬b=c:=fun h=>hc h.symm
   simp[hc,this]
 refine⟨⟨fun c y hy=>?_,fun c y v j hy hv hj=>?_,fun c d y z v u j hy hz hv hu hj hj'=>?_,h.fresh,fun j hj=>by rw[hsz];exact h.lt j hj,h.os,h.tape,h.output,by rw[hsz];exact h.grown,fun j hj hn=>?_,h.iold,h.inew,h.keep,fun c y hy hf=>?_⟩,fun _ h=>h,fun _ _ h=>h,hI⟩
 ·rw[hup] at hy
  by_cases hc:c=b
  ·rw[if_pos hc] at hy;cases hy;subst hc;exact hx hself hoth
  ·rw[if_neg hc] at hy
   refine(h.blk c y hy).mono hI (fun _ h=>h) (fun _ _ h=>h) fun v j hv hj=>hoth j ?_
   rintro rfl
   exact hc (h.inj c b y x0 v _ j hy hb hv hm hj rfl)
 ·rw[hup] at hy
  rw[hsz]
  by_cases hc:c=b
  ·subst hc;exact h.loc c x0 v j hb hv hj
  ·rw[if_neg hc] at hy;exact h.loc c y v j hy hv hj
 ·rw[hup] at hy hz
  have g:∀ c y,(if c=b then some x else hp c)=some y->∃ y',hp c=some y':=fun c y hy=>by
   by_cases hc:c=b
   ·subst hc;exact⟨_,hb⟩
   ·rw[if_neg hc] at hy;exact⟨_,hy⟩
  obtain⟨y',hy'⟩:=g c y hy
  obtain⟨z',hz'⟩:=g d z hz
  exact h.inj c d y' z' v u j hy' hz' hv hu hj hj'
 ·rw[hoth j ?_]
  ·exact h.old j hj hn
  ·rintro rfl
   rcases hk1 with h1|h1
   ·exact hn h1
   ·omega
 ·rw[hup] at hy
  by_cases hc:c=b
  ·subst hc;exact h.used c x0 hb hf
  ·rw[if_neg hc] at hy;exact h.used c y hy hf
end
section
variable{P:Program}{ops:Array Oper}{nx:Nat}{dst:Option Tmp}{T:TypeId}{ps:String}{af:Array Edge}{x:Operand}{l:List Oper}{pos:Nat}{acc:List Eff}{s:St}{K:List Eff->St->Prop}
end
end Go.Ab
namespace Go.Ab
open Go.RowKit
def EZ(P:Program)(f:FuncId)(ds:List D)(r:D):Prop:=
 Bl P f=true/\∀ (w:World) (I:Nat->Prop) (vs:List Value),GIn P w I->(∀ k,I k->k<w.heap.size)->vs.length=ds.length->(∀ i,i<ds.length->Rep w I (fun _=>none) (nd ds i) (nv vs i))->
  Calls P f vs.toArray w fun e w'=>∃ v I',e=.panicked [{v,recovered:=false}]/\Rep w' I' (fun _=>none) r v/\(∀ k,I k->I' k)/\(∀ k,I' k->I k∨w.heap.size<=k)/\(∀ k,I' k->k<w'.heap.size)/\Below w.heap.size w w'
section
variable{P:Program}{ops:Array Oper}{nx:Nat}{dst:Option Tmp}{T:TypeId}{ps:String}{af:Array Edge}{x:Operand}{l:List Oper}{pos:Nat}{acc:List Eff}{s:St}{K:List Eff->St->Prop}
theorem A1.panic0{o:Oper}{d:D}(h:SoundP P ops o s.fs d)(hk:K [] ⟨(Bn,d)::s.env,s.hp,s.nx⟩):A1 P ops nx (o::l) pos acc s K:=by
 rw[Bj]
 unfold Bz
 exact .inr (.inr ⟨d,h,_,rfl,hk⟩)
theorem A1.panicOp{t:TypeId}{d:D}(hx:evO P s.env.get x=.iface t d)(hk:K [] ⟨(Bn,.iface t d)::s.env,s.hp,s.nx⟩):A1 P ops nx (⟨dst,.panic x,T,ps,af,none⟩::l) pos acc s K:=by
 refine A1.panic0 (d:=.iface t d) ?_ hk
 intro w0 M0 I0 nt fr I mu a w hga r K Q hQ
 refine⟨by simp[Region.wanted],fun f _=>I0.fn f,?_⟩
 have hxr:Rep w I mu (evO P s.env.get x) (a.eval x):=DY (hga.at r.w) r.env x
 rw[hx] at hxr
 generalize he:a.eval x=v at hxr
 have hxr':=hxr
 cases hxr with
 |iface _ _ u h=>
 have hrun:(execOp a.eval ⟨dst,.panic x,T,ps,af,none⟩).run P w=.halt (.panic (.iface t u)) w:=by
  have hp:(Instr.panic (.iface t u)).run P w=.halt (.panic (.iface t u)) w:=rfl
  simp only[execOp,he,A0e,hp,Result.andThen]
 rw[Oper.semAt_eq _ _ _ (by intro c hc;cases hc),hrun]
 exact hQ _ w I r hxr'
theorem A1.pan{f:FuncId}{args:Array Operand}{ts:Array TypeId}{ds:List D}{r:D}(hc:EZ P f ds r)(ha:args.toList.map (evO P s.env.get)=ds)(hpu:Ag ds=true)(hrp:r.pure=true)(hk:K [] ⟨(Bn,r)::s.env,s.hp,s.nx⟩):
  A1 P ops nx (⟨dst,.call {callee:=.value (.func f),args:=args,argTypes:=ts},T,ps,af,none⟩::l) pos acc s K:=by
 refine A1.panic0 (d:=r) ?_ hk
 intro w0 M0 I0 nt fr I mu a w hga rr K Q hQ
 refine⟨by simp[Region.wanted],?_⟩
 subst ha
 have hargs:∀ i,i<(args.toList.map (evO P s.env.get)).length->Rep w I (fun _=>none) (nd (args.toList.map (evO P s.env.get)) i) (nv (args.toList.map a.eval) i):=by
  intro i hi
  simp only[A06,A0T] at hi
  have h1:nd (args.toList.map (evO P s.env.get)) i=evO P s.env.get args[i]:=by simp[nd,A02,hi]
  have h2:nv (args.toList.map a.eval) i=a.eval args[i]:=by simp[nv,A02,hi]
  have h3:Rep w I mu (evO P s.env.get args[i]) (a.eval args[i]):=DY (hga.at rr.w) rr.env _
  have h4:=Cf hpu i
  rw[h1] at h4
  rw[h1,h2]
  exact h3.unmu h4
 have hcall:=hc.2 w I (args.toList.map a.eval) (hga.at rr.w) rr.w.lt (by simp) hargs
 have hrun:(execOp a.eval ⟨dst,.call {callee:=.value (.func f),args:=args,argTypes:=ts},T,ps,af,none⟩).run P w=.ok (.enter f (args.toList.map a.eval).toArray) w:=by
  have e1:args.map a.eval=(args.toList.map a.eval).toArray:=by apply Array.ext';simp
  simp only[execOp,resolve,Act.eval,Deferred.ofValue,A0e,A0j,Result.andThen,invoke]
  have e2:#[]++args.map a.eval++ #[]=(args.toList.map a.eval).toArray:=by rw[e1];simp
  exact(congrArg (fun z=>(callFunc f z).run P w) e2).trans (AZ hc.1 _ w)
 refine C6 hrun ?_
 refine hcall.mono fun e w' ⟨v,I',he,hv,h1,h2,h3,h4⟩=>?_
 subst he
 have g1:=rr.w.below h1 h2 h3 h4
 have g2:Ext I mu w I' mu w':=⟨h1,fun _ _ h=>h,fun k hk=>h4.block k (rr.w.lt k hk)⟩
 exact hQ v w' I' ⟨rr.size,rr.defers.ext g2,fun t=>(rr.env t).ext g2,g1⟩ (hv.unmu hrp)
end
def RetPan(r:D):AE->St->Prop
 |.panic d,_=>lo d r/\r.pure=true
 |_,_=>False
theorem EZ.of_awp{P:Program}{nt:Nat}{f:FuncId}{fn:Func}{c:Code}{ds:List D}{r:D}(hf:P.funcs[f]? =some fn)(hb:fn.body=some c)(hn:fn.ntmps=nt)(hent:Bl P f=true)(hlen:ds.length<=nt)
  (h:AWp P nt c (RetPan r) ⟨Be 0 ds,[],0⟩):EZ P f ds r:=by
 refine⟨hent,fun w I vs hgi hI hl hrep=>?_⟩
 let G:Gh:=⟨I,fun _=>none,[],Fence.wide,0,.inl rfl⟩
 refine callsIn_wide.1 (callsIn_of_wp_marks (n:=0) hf hb trivial (wpIn_mono (h w (fun _=>False) G (fun g l hl=>⟨(hgi g l hl).1,hI g (hgi g l hl).1,fun h=>h,(hgi g l hl).2⟩) I (fun _=>none) _ w ⟨?_,BJ.refl _ _ _ _,fun t=>Ff ⟨hl,hrep⟩ _ t,⟨fun b x hx=>by simp[St.fs,Ad] at hx,fun b x v k hx=>by simp[St.fs,Ad] at hx,fun b c x y v u k hx=>by simp[St.fs,Ad] at hx,fun _ _=>rfl,hI,rfl,rfl,rfl,A0a _,fun _ _ _=>rfl,fun _ h=>h,fun _ h=>.inl h,fun b x _ h=>(by cases h),fun b x hx=>by simp[St.fs,Ad] at hx⟩⟩) ?_))
 ·simp[hl,hn];omega
 ·rintro e a' w' ⟨x,s',I',mu',hq,he,r'⟩
  cases x<;>cases e<;>simp only[FK] at he<;>simp only[RetPan] at hq
  obtain⟨v,rfl,hv⟩:=he
  obtain⟨hlo,hpu⟩:=hq
  obtain⟨rs,_,d1,d2,d3⟩:=r'.defers
  obtain⟨w1,w2⟩:=r'.w.shut hI d3
  show LeavesInM _ _ _ _ _ _ a'.defers _ _
  rw[d1]
  refine FX (by simp) rs w' d2 (fun r hr=>(d3 r hr).2.2) ?_
  exact⟨v,_,rfl,((w2 _ _ hv).lo hlo).unmu hpu,w1.iold,fun k hk=>by rcases w1.inew k hk with h3|h3|h3;exact .inl h3;exact h3.elim;exact .inr h3,w1.lt,⟨w1.os,w1.tape,w1.output,w1.grown,fun k hk=>w1.old k hk (fun h=>h)⟩⟩
attribute [irreducible] EZ
end Go.Ab
namespace Go.Ab
open Go.Proofs Go.Proofs.Tryz Go.RowKit
def ZE(R:St->Prop)(Q:AE->St->Prop):AE->St->Prop
 |.normal,s=>R s
 |e,s=>Q e s
theorem AWp.loopI{P:Program}{nt:Nat}{c:Code}{Q:AE->St->Prop}{s:St}{ι:Type}(hm:P.follows .mixedOrders=true)(hc:CF nt c=true)(Inv:ι->Prop)(S:ι->St)(m:ι->Nat)(i0:ι)(hi:Inv i0)(h0:Ar s (S i0))
  (round:∀ i,Inv i->VCS P nt [] c (ZE (fun s'=>∃ j,Inv j/\m j<m i/\Ar s' (S j)) Q) (S i)):AWp P nt (.loop c) Q s:=by
 refine AWp.loop (ι:= {i//Inv i}) (fun i=>S i.1) (fun i=>m i.1) ⟨i0,hi⟩ h0 fun i=>AWp.mono (VC.sound hm hc (round i.1 i.2)) fun e s' h=>?_
 cases e with
 |normal=>obtain ⟨j,h1,h2,h3⟩:=h;exact⟨⟨j,h1⟩,h2,h3⟩
 |_=>exact h
theorem KN{ops:Array Oper}{E:List Eff}{sk:List (List Nat×List Nat)}(h:Fr E=sk)(k:Dt ops sk=true):RL ops E:=by rw[RL,h];exact k
attribute [push_cast] ZE Fu BR Ja GZ Ct Ki
def sm(a b:List D):Prop:=a=b
@[congr] theorem sm_congr{a a' b:List D}(h:Gv a=a'):sm a b=sm a' b:=by rw[<-h];rfl
theorem PG(a:List D):sm a a:=rfl
theorem Za{a b:Prop}(h:a)(k:b):a/\b:=⟨h,k⟩
theorem Zi{b:Bool}{x y:Prop}(h:b=true->x)(k:b=false->y):Ed b x y:=Af h k
section
variable{P:Program}{ops:Array Oper}{nx:Nat}{dst:Option Tmp}{T:TypeId}{ps:String}{af:Array Edge}{gd:Option (Nat×Bool)}{f:FuncId}{x:Operand}{args:Array Operand}{ts:Array TypeId}{fs cs ds:List D}{d r:D}{H H':Hp}{l:List Oper}{pos:Nat}{acc:List Eff}{s:St}{K:List Eff->St->Prop}
theorem Zc(hc:A0 P f ds r)(hk:GoS P ops nx l (pos+1) (⟨r,[],[]⟩::acc) (s.app dst ⟨r,[],[]⟩) K)(ha:sm (args.toList.map (evO P s.env.get)) ds:=by (try push_cast(config:= {maxSteps:=9999999}) [z]);exact PG _)(hg:gd=none∨∃ j want t,gd=some (j,want)/\AT ops j=some t/\gOf (s.env.get t) want=some true:=by first|exact .inl rfl|exact .inr ⟨_,_,_,rfl,rfl,rfl⟩)
  (hpu:Ag ds=true:=by first|rfl|push_cast (config:= {maxSteps:=9999999}) [z]):A1 P ops nx (⟨dst,.call {callee:=.value (.func f),args:=args,argTypes:=ts},T,ps,af,gd⟩::l) pos acc s K:=A1.call hc hg ha hpu hk
theorem Zv(hc:A0 P f ds r)(hk:GoS P ops nx l (pos+1) (⟨r,[],[]⟩::acc) (s.app dst ⟨r,[],[]⟩) K)(hx:evO P s.env.get x=.func (.func f) fs cs:=by rfl)(ha:sm (fs++args.toList.map (evO P s.env.get)++cs) ds:=by (try push_cast(config:= {maxSteps:=9999999}) [z]);exact PG _)(hg:gd=none∨∃ j want t,gd=some (j,want)/\AT ops j=some t/\gOf (s.env.get t) want=some true:=by first|exact .inl rfl|exact .inr ⟨_,_,_,rfl,rfl,rfl⟩)
  (hpu:Ag ds=true:=by first|rfl|push_cast (config:= {maxSteps:=9999999}) [z]):A1 P ops nx (⟨dst,.call {callee:=.value x,args:=args,argTypes:=ts},T,ps,af,gd⟩::l) pos acc s K:=A1.callV hx hc hg ha hpu hk
theorem Zs(rl:List (Nat×Nat))(hc:A2 P f ds H d H')(hk:GoS P ops nx l (pos+1) (Ce (2*(nx+4*pos)) (BK rl) H d H'::acc) (s.app dst (Ce (2*(nx+4*pos)) (BK rl) H d H')) K)(ha:args.toList.map (evO P s.env.get)=BZ (BK rl) ds:=by push_cast(config:= {maxSteps:=9999999}) [z]<;>with_unfolding_all exact A8 _)(hg:gd=none∨∃ j want t,gd=some (j,want)/\AT ops j=some t/\gOf (s.env.get t) want=some true:=by first|exact .inl rfl|exact .inr ⟨_,_,_,rfl,rfl,rfl⟩)
  (hl:ltL 4 ds=true:=by push_cast(config:= {maxSteps:=9999999}) [z]<;>with_unfolding_all exact A8 _) (hh:Ba (BK rl) (Ad s.hp) H:=by push_cast(config:= {maxSteps:=9999999}) [z]<;>with_unfolding_all exact A8 _) (hok:CS (2*(nx+4*pos)) (BK rl) H H'=true:=by push_cast(config:= {maxSteps:=9999999}) [z]<;>with_unfolding_all exact A8 _):A1 P ops nx (⟨dst,.call {callee:=.value (.func f),args:=args,argTypes:=ts},T,ps,af,gd⟩::l) pos acc s K:=A1.scall (BK rl) hc hg ha hl hh hok hk
theorem Zt(rl:List (Nat×Nat))(hc:A2 P f ds H d H')(hk:GoS P ops nx l (pos+1) (Ce (2*(nx+4*pos)) (BK rl) H d H'::acc) (s.app dst (Ce (2*(nx+4*pos)) (BK rl) H d H')) K)(hx:evO P s.env.get x=.func (.func f) fs cs:=by rfl)(ha:fs++args.toList.map (evO P s.env.get)++cs=BZ (BK rl) ds:=by push_cast(config:= {maxSteps:=9999999}) [z]<;>with_unfolding_all exact A8 _)(hg:gd=none∨∃ j want t,gd=some (j,want)/\AT ops j=some t/\gOf (s.env.get t) want=some true:=by first|exact .inl rfl|exact .inr ⟨_,_,_,rfl,rfl,rfl⟩)
  (hl:ltL 4 ds=true:=by push_cast(config:= {maxSteps:=9999999}) [z]<;>with_unfolding_all exact A8 _) (hh:Ba (BK rl) (Ad s.hp) H:=by push_cast(config:= {maxSteps:=9999999}) [z]<;>with_unfolding_all exact A8 _) (hok:CS (2*(nx+4*pos)) (BK rl) H H'=true:=by push_cast(config:= {maxSteps:=9999999}) [z]<;>with_unfolding_all exact A8 _):A1 P ops nx (⟨dst,.call {callee:=.value x,args:=args,argTypes:=ts},T,ps,af,gd⟩::l) pos acc s K:=A1.scallV (BK rl) hx hc hg ha hl hh hok hk
theorem Zq{bs:List Nat}(hc:A0 P f ds r)(ho:EX (Ad s.hp) (args.toList.map (evO P s.env.get)))(hk:GoS P ops nx l (pos+1) (⟨r,[],bs⟩::acc) (s.app dst ⟨r,[],bs⟩) K)(hbs:Em (args.toList.map (evO P s.env.get))=bs:=by (try push_cast(config:= {maxSteps:=9999999}) [z]);rfl)(ha:sm ((args.toList.map (evO P s.env.get)).map (Fm (Ad s.hp))) ds:=by (try push_cast(config:= {maxSteps:=9999999}) [z]);exact PG _)(hg:gd=none∨∃ j want t,gd=some (j,want)/\AT ops j=some t/\gOf (s.env.get t) want=some true:=by first|exact .inl rfl|exact .inr ⟨_,_,_,rfl,rfl,rfl⟩)
  (hpu:Ag ds=true:=by push_cast(config:= {maxSteps:=9999999}) [z]) (hf:DC r=true:=by push_cast(config:= {maxSteps:=9999999}) [z]):A1 P ops nx (⟨dst,.call {callee:=.value (.func f),args:=args,argTypes:=ts},T,ps,af,gd⟩::l) pos acc s K:=A1.borrow hbs hc hg ha ho hpu hf hk
theorem Zg{bs:List Nat}(hc:A0 P f ds r)(ho:EX (Ad s.hp) (args.toList.map (evO P s.env.get)))(hk:GoS P ops nx l (pos+1) (⟨r,bs.map fun c=>(c,none),bs⟩::acc) (s.app dst ⟨r,bs.map fun c=>(c,none),bs⟩) K)(hbs:Em (args.toList.map (evO P s.env.get))=bs:=by (try push_cast(config:= {maxSteps:=9999999}) [z]);rfl)(ha:sm ((args.toList.map (evO P s.env.get)).map (Fm (Ad s.hp))) ds:=by (try push_cast(config:= {maxSteps:=9999999}) [z]);exact PG _)(hg:gd=none∨∃ j want t,gd=some (j,want)/\AT ops j=some t/\gOf (s.env.get t) want=some true:=by first|exact .inl rfl|exact .inr ⟨_,_,_,rfl,rfl,rfl⟩)
  (hpu:Ag ds=true:=by push_cast(config:= {maxSteps:=9999999}) [z]):A1 P ops nx (⟨dst,.call {callee:=.value (.func f),args:=args,argTypes:=ts},T,ps,af,gd⟩::l) pos acc s K:=A1.give hbs hc hg ha ho hpu hk
end
theorem Zo{ops:Array Oper}{E:List Eff}{sk:List (List Nat×List Nat)}(h:Fr E=sk:=by push_cast(config:= {maxSteps:=9999999}) [Fr,z];rfl)(k:Dt ops sk=true:=by kernel_rfl):RL ops E:=KN h k
theorem Zp{ops:Array Oper}{E:List Eff}{sk:List (List Nat×List Nat)}(h:Fr E=sk:=by push_cast(config:= {maxSteps:=9999999}) [Fr];rfl)(k:Dt ops sk=true:=by kernel_rfl):RL ops E:=KN h k
theorem Zw{s S:St}(he:C7 id s.env S.env)(hh:KG s.nx id s.hp S.hp)(hok:HR S.nx S.env=true)(hokh:N4 S.nx S.hp=true)(hinj:RW id S.hp=true):Ar s S:=Ar.sub id (fun _ _=>rfl) he hh hok hokh hinj
theorem Zr{s S:St}(rl:List (Nat×Nat))(hr:(rl.all fun p=>p.1%2==0)=true)(he:C7 (BK rl) s.env S.env)(hh:KG s.nx (BK rl) s.hp S.hp)(hok:HR S.nx S.env=true)(hokh:N4 S.nx S.hp=true)(hinj:RW (BK rl) S.hp=true):Ar s S:=Ar.sub (BK rl) (Rz hr) he hh hok hokh hinj
section
variable{nt:Nat}{f:FuncId}{fn:Func}{c:Code}{ds:List D}{H:Hp}{r:D}{H':Hp}{ra:Array ResultVar}
theorem Zb(fz:List Nat)(hf:prog.funcs[f]? =some fn)(hb:fn.body=some c)(hn:fn.ntmps=nt)(hrs:fn.results=ra)
  (h:(∀ t,szD (Env.get (Be 0 ds) t))->(∀ b x,Ad H b=some x->szB x)->VCS prog nt fz c (MY prog ra.toList r H') ⟨Be 0 ds,H,4⟩)
  (hent:Bl prog f=true:=by kernel_rfl) (hlen:ds.length<=nt:=by simp) (hc:CF nt c=true:=by kernel_rfl):A2 prog f ds H r H':=
 A2.of_awp hf hb hn hent hlen (congrArg Array.toList hrs) (AWp.sz fun h0 h1=>VC.sound mixed hc (h h0 h1))
theorem Zk(fz:List Nat)(hf:prog.funcs[f]? =some fn)(hb:fn.body=some c)(hn:fn.ntmps=nt)(hrs:fn.results=ra)
  (h:(∀ t,szD (Env.get (Be 0 ds) t))->(∀ b x,Ad [] b=some x->szB x)->VCS prog nt fz c (UM prog ra.toList r) ⟨Be 0 ds,[],0⟩)
  (hent:Bl prog f=true:=by kernel_rfl) (hlen:ds.length<=nt:=by simp) (hc:CF nt c=true:=by kernel_rfl):A0 prog f ds r:=
 A0.of_awp hf hb hn hent hlen (congrArg Array.toList hrs) (AWp.sz fun h0 h1=>VC.sound mixed hc (h h0 h1))
theorem Zd(fz:List Nat)(hf:prog.funcs[f]? =some fn)(hb:fn.body=some c)(hn:fn.ntmps=nt)(hrs:fn.results=ra)
  (h:VCS prog nt fz c (MY prog ra.toList r H') ⟨Be 0 ds,H,4⟩)
  (hent:Bl prog f=true:=by kernel_rfl) (hlen:ds.length<=nt:=by simp) (hc:CF nt c=true:=by kernel_rfl):A2 prog f ds H r H':=
 A2.of_awp hf hb hn hent hlen (congrArg Array.toList hrs) (VC.sound mixed hc h)
theorem Zf(fz:List Nat)(hf:prog.funcs[f]? =some fn)(hb:fn.body=some c)(hn:fn.ntmps=nt)(hrs:fn.results=ra)
  (h:VCS prog nt fz c (UM prog ra.toList r) ⟨Be 0 ds,[],0⟩)
  (hent:Bl prog f=true:=by kernel_rfl) (hlen:ds.length<=nt:=by simp) (hc:CF nt c=true:=by kernel_rfl):A0 prog f ds r:=
 A0.of_awp hf hb hn hent hlen (congrArg Array.toList hrs) (VC.sound mixed hc h)
end
theorem Zy{nt:Nat}{c:Code}{Q:AE->St->Prop}{s:St}(h:VCS prog nt [] c Q s)(hc:CF nt c=true:=by kernel_rfl):AWp prog nt c Q s:=VC.sound mixed hc h
theorem Zl{nt:Nat}{c:Code}{Q:AE->St->Prop}{s:St}(Inv:Nat->Prop)(S:Nat->St)(m:Nat->Nat)(i0:Nat)(hi:Inv i0)(h0:Ar s (S i0))
  (round:∀ i,Inv i->VCS prog nt [] c (ZE (fun s'=>∃ j,Inv j/\m j<m i/\Ar s' (S j)) Q) (S i)) (hc:CF nt c=true:=by kernel_rfl):AWp prog nt (.loop c) Q s:=AWp.loopI mixed hc Inv S m i0 hi h0 round
theorem A0.res{P:Program}{f:FuncId}{ds:List D}{r r':D}(h:A0 P f ds r)(hl:Go.Ab.lo r r'):A0 P f ds r':=by
 unfold A0 at h|-
 exact⟨h.1,fun w I vs a b c d=>(h.2 w I vs a b c d).mono fun e w' ⟨v,I',he,hv,x⟩=>⟨v,I',he,hv.lo hl,x⟩⟩
theorem A2.res{P:Program}{f:FuncId}{ds:List D}{H H':Hp}{r r':D}(h:A2 P f ds H r H')(hl:Go.Ab.lo r r'):A2 P f ds H r' H':=by
 unfold A2 at h|-
 exact⟨h.1,fun w M0 G I mu vs a b c d=>(h.2 w M0 G I mu vs a b c d).mono fun e w' ⟨v,I',mu',he,hv,x⟩=>⟨v,I',mu',he,hv.lo hl,x⟩⟩
def bl(a:ByteArray):List UInt8:=a.data.toList
def BX:List UInt8->List UInt8->Int
 |[],[]=>0
 |[],_::_=> -1
 |_::_,[]=>1
 |x::a,y::b=>if x=y then BX a b else if x<y then-1 else 1
def Ci(a b:ByteArray):Int:=BX (bl a) (bl b)
theorem Dl(a:ByteArray):(bl a).length=a.size:=rfl
theorem MV{a b:ByteArray}(h:bl a=bl b):a=b:=by
 cases a;cases b;simp only[bl] at h;congr;exact Array.ext' h
theorem Re(a:ByteArray)(i:Nat):BT a i=(((bl a).getD i 0).toNat:Int):=by simp[BT,bl]
theorem A9{n:Int}(h: -9223372036854775808<=n)(k:n<9223372036854775808):IntKind.i64.wrap n=n:=by
 simp only[IntKind.wrap,IntKind.bits,IntKind.signed];simp;omega
theorem BN{α:Type}[BEq α][LawfulBEq α]{a b:α}(h:(a !=b)=false):a=b:=by simpa using h
theorem wrap_u8(x:UInt8):IntKind.i64.wrap (x.toNat:Int)=x.toNat:=by
 have:=x.toNat_lt
 exact A9 (by omega) (by omega)
theorem Cy{α:Type}{l:List α}{i:Nat}{d:α}(h:i<l.length):l.drop i=l.getD i d::l.drop (i+1):=by
 rw[List.drop_eq_getElem_cons h,A02,A09 h,A0J]
theorem Ph:∀ (a b:List UInt8) (i:Nat),i<=a.length->i<=b.length->(∀ j,j<i->a.getD j 0=b.getD j 0)->BX a b=BX (a.drop i) (b.drop i)
 |_,_,0,_,_,_=>by simp
 |[],_,i+1,h,_,_=>by simp at h
 |_::_,[],i+1,_,h,_=>by simp at h
 |x::a,y::b,i+1,h,k,e=>by
  have e0:=e 0 (by omega)
  simp only[A0E] at e0
  subst e0
  simp only[BX,if_pos,List.drop_succ_cons]
  exact Ph a b i (by simpa using h) (by simpa using k) fun j hj=>by simpa using e (j+1) (by omega)
def DO(a b:Int):Int:=if a<b then-1 else if b<a then 1 else 0
inductive GV where
 |mk (kind:Int) (b:Bool) (n:Int) (s:ByteArray) (list:List GV) (obj:List (ByteArray×GV))
namespace GV
def kind:GV->Int|mk k _ _ _ _ _=>k
def b:GV->Bool|mk _ b _ _ _ _=>b
def n:GV->Int|mk _ _ n _ _ _=>n
def s:GV->ByteArray|mk _ _ _ s _ _=>s
def list:GV->List GV|mk _ _ _ _ l _=>l
def obj:GV->List (ByteArray×GV)|mk _ _ _ _ _ o=>o
theorem list_lt{x v:GV}(h:x ∈ v.list):SizeOf.sizeOf x<SizeOf.sizeOf v:=by
 cases v with
 |mk k b n s l o=>have:=List.sizeOf_lt_of_mem (show x ∈ l from h);simp;omega
theorem obj_lt{x:ByteArray×GV}{v:GV}(h:x ∈ v.obj):SizeOf.sizeOf x.2<SizeOf.sizeOf v:=by
 cases v with
 |mk k b n s l o=>
  have:=List.sizeOf_lt_of_mem (show x ∈ o from h)
  cases x;simp at this|-;omega
end GV
mutual
def A5:GV->List D
 |.mk k b n s l o=>[.val (.int .i64 k),.val (.bool b),.val (.int .i64 n),.val (.string s),.slice (H5 l) false,.slice (H8 o) false]
def H5:List GV->List (List D)
 |[]=>[]
 |v::l=>A5 v::H5 l
def H8:List (ByteArray×GV)->List (List D)
 |[]=>[]
 |(k,v)::l=>(.val (.string k)::A5 v)::H8 l
end
theorem NY:∀ l:List GV,H5 l=l.map A5
 |[]=>rfl
 |v::l=>by simp[H5,NY l]
def A7(p:ByteArray×GV):List D:=.val (.string p.1)::A5 p.2
theorem P2:∀ l:List (ByteArray×GV),H8 l=l.map A7
 |[]=>rfl
 |(k,v)::l=>by simp[H8,P2 l,A7]
theorem A4(v:GV):A5 v=[.val (.int .i64 v.kind),.val (.bool v.b),.val (.int .i64 v.n),.val (.string v.s),.slice (v.list.map A5) false,.slice (v.obj.map A7) false]:=by
 cases v;simp only[A5,NY,P2,GV.kind,GV.b,GV.n,GV.s,GV.list,GV.obj]
theorem Ah(p:ByteArray×GV):A7 p=.val (.string p.1)::A5 p.2:=rfl
mutual
theorem BS:∀ v:GV,Ag (A5 v)=true
 |.mk k b n s l o=>by simp only[A5,Ag,D.pure,Mn l,Ms o,A0M]
theorem Mn:∀ l:List GV,A6 (H5 l)=true
 |[]=>rfl
 |v::l=>by simp only[H5,A6,BS v,Mn l,A0M]
theorem Ms:∀ l:List (ByteArray×GV),A6 (H8 l)=true
 |[]=>rfl
 |(k,v)::l=>by simp only[H8,A6,Ag,D.pure,BS v,Ms l,A0M]
end
theorem AY(v:GV):(A5 v).length=6:=by rw[A4];rfl
theorem AF{α:Type}{f:α->List D}(h:∀ x,Ag (f x)=true):∀ l:List α,A6 (l.map f)=true
 |[]=>rfl
 |x::l=>by simp only[A0h,A6,h x,AF h l,A0M]
theorem FF(l:List GV):A6 (l.map A5)=true:=AF BS l
theorem Al(p:ByteArray×GV):Ag (A7 p)=true:=by simp only[A7,Ag,D.pure,BS,A0M]
theorem Bu(l:List (ByteArray×GV)):A6 (l.map A7)=true:=AF Al l
theorem Ho{α:Type}{f:α->List D}{l:List α}{i:Nat}(d:α)(h:i<l.length):nr (l.map f) i=f (l.getD i d):=by
 simp[nr,A02,h]
abbrev zM:ByteArray×GV:=(ByteArray.empty,.mk 0 false 0 ByteArray.empty [] [])
def zV:GV:=.mk 0 false 0 ByteArray.empty [] []
theorem Et{l:List GV}{i:Nat}(h:i<l.length):nr (l.map A5) i=A5 (l.getD i zV):=Ho zV h
theorem Bk{l:List (ByteArray×GV)}{i:Nat}(h:i<l.length):nr (l.map A7) i=A7 (l.getD i zM):=Ho _ h
theorem Nf(v:GV):(A5 v).take 6=A5 v:=A08 (by rw[AY];exact A0a _)
attribute [push_cast] Nf BS FF Al Bu AY A06
theorem Aj{α:Type}{l:List α}{i:Nat}{d:α}(h:i<l.length):l.getD i d ∈ l:=by
 rw[A02,A09 h];exact A0X h
def CH{α:Type}(f:α->α->Int):List α->List α->Int
 |[],[]=>0
 |[],_::_=> -1
 |_::_,[]=>1
 |x::a,y::b=>if f x y=0 then CH f a b else f x y
theorem Ji{α:Type}(f:α->α->Int)(d:α):∀ (a b:List α) (i:Nat),i<=a.length->i<=b.length->(∀ j,j<i->f (a.getD j d) (b.getD j d)=0)->CH f a b=CH f (a.drop i) (b.drop i)
 |_,_,0,_,_,_=>by simp
 |[],_,i+1,h,_,_=>by simp at h
 |_::_,[],i+1,_,h,_=>by simp at h
 |x::a,y::b,i+1,h,k,e=>by
  have e0:=e 0 (by omega)
  simp only[A0E] at e0
  simp only[CH,if_pos e0,List.drop_succ_cons]
  exact Ji f d a b i (by simpa using h) (by simpa using k) fun j hj=>by simpa using e (j+1) (by omega)
theorem EI{α:Type}(f:α->α->Int)(d:α)(a b:List α)(i:Nat)(h:i<=a.length)(k:i<=b.length)(e:∀ j,j<i->f (a.getD j d) (b.getD j d)=0)(o:¬(i<a.length/\i<b.length)):CH f a b=DO a.length b.length:=by
 rw[Ji f d a b i h k e]
 by_cases ha:i<a.length
 ·have:b.drop i=[]:=A0i (by omega)
  rw[this,Cy (d:=d) ha];grind [CH,DO]
 ·have h1:a.drop i=[]:=A0i (by omega)
  rw[h1]
  by_cases hb:i<b.length
  ·rw[Cy (d:=d) hb];grind [CH,DO]
  ·have:b.drop i=[]:=A0i (by omega)
   rw[this];grind [CH,DO]
theorem FH{α:Type}(f:α->α->Int)(d:α)(a b:List α)(i:Nat)(h:i<a.length)(k:i<b.length)(e:∀ j,j<i->f (a.getD j d) (b.getD j d)=0)(o:f (a.getD i d) (b.getD i d)≠0):CH f a b=f (a.getD i d) (b.getD i d):=by
 rw[Ji f d a b i (by omega) (by omega) e,Cy (d:=d) h,Cy (d:=d) k]
 simp only[CH,if_neg o]
def J0(a b:Bool):Int:=if a=b then 0 else if b then-1 else 1
def HK:Nat->GV->GV->Int
 |0,_,_=>0
 |n+1,v,u=>
  if v.kind≠u.kind then DO v.kind u.kind
  else if v.kind=2 then J0 v.b u.b
  else if v.kind=3 then DO v.n u.n
  else if v.kind=4 then Ci v.s u.s
  else if v.kind=5 then CH (HK n) v.list u.list
  else if v.kind=6 then CH (fun x y=>if Ci x.1 y.1=0 then HK n x.2 y.2 else Ci x.1 y.1) v.obj u.obj
  else 0
def H9(n:Nat)(x y:ByteArray×GV):Int:=if Ci x.1 y.1=0 then HK n x.2 y.2 else Ci x.1 y.1
theorem Bi(n:Nat)(v u:GV):HK (n+1) v u=
  if v.kind≠u.kind then DO v.kind u.kind
  else if v.kind=2 then J0 v.b u.b
  else if v.kind=3 then DO v.n u.n
  else if v.kind=4 then Ci v.s u.s
  else if v.kind=5 then CH (HK n) v.list u.list
  else if v.kind=6 then CH (H9 n) v.obj u.obj
  else 0:=rfl
theorem EJ(a b:Int):A0 prog 101 [.val (.int .i64 a),.val (.int .i64 b)] (.val (.int .i64 (DO a b))):=by
 refine Zf [] func101 rfl ntmps101 results101 ?_
 ((try push_cast)<;>repeat' (first|apply Zi<;>intro _|exact Zp|with_reducible apply Za)<;>try push_cast)
 all_goals grind [DO]
theorem Vt(a b:ByteArray):A0 prog 102 [.val (.string a),.val (.string b)] (.val (.int .i64 (Ci a b))):=by
 refine Zk [] func102 rfl ntmps102 results102 fun H Hb=>?_
 have h0:=H 0;push_cast at h0
 push_cast
 refine Zl (fun i=>i<=a.size/\i<=b.size/\∀ j,j<i->(bl a).getD j 0=(bl b).getD j 0) (fun i=>⟨[(5,.val (.int .i64 i)),(0,.val (.string a)),(1,.val (.string b))],[],0⟩) (fun i=>a.size-i) 0 (by simp) ?_ fun i hi=>?_
 ·apply Zw<;>push_cast
 ·obtain⟨h1,h2,h3⟩:=hi
  have hd:=Ph (bl a) (bl b) i h1 h2 h3
  (have z:=trivial;(try push_cast)<;>repeat' (first|apply Zi<;>intro _|refine Zc (EJ ..) ?_|exact Zp|with_reducible apply Za)<;>try push_cast)
  all_goals simp only[decide_eq_true_eq,decide_eq_false_iff_not,Re,wrap_u8] at*
  all_goals first|omega|skip
  ·have e1:(bl a).drop i=(bl a).getD i 0::(bl a).drop (i+1):=Cy (by rw[Dl];omega)
   have e2:(bl b).drop i=(bl b).getD i 0::(bl b).drop (i+1):=Cy (by rw[Dl];omega)
   rename_i h
   rw[Ci,hd,e1,e2]
   generalize(bl a).getD i 0=x at*
   generalize(bl b).getD i 0=y at*
   have hxy:x≠y:=fun e=>by subst e;simp at h
   simp only[BX,if_neg hxy,DO,UInt8.lt_iff_toNat_lt]
   have:=fun e=>hxy (UInt8.toNat_inj.1 e)
   grind
  ·rename_i h
   refine⟨i+1,⟨by omega,by omega,fun j hj=>?_⟩,by omega,?_⟩
   ·by_cases hji:j=i
    ·subst hji
     have h:=BN h
     exact UInt8.toNat_inj.1 (Int.ofNat_inj.1 h)
    ·exact h3 j (by omega)
   ·apply Zw<;>push_cast
    rw[A9 (by omega) (by omega)]
  ·rw[Ci,hd]
   have:(bl b).drop i=[]:=A0i (by rw[Dl];omega)
   have e1:(bl a).drop i=(bl a).getD i 0::(bl a).drop (i+1):=Cy (by rw[Dl];omega)
   rw[this,e1]
   grind [DO,BX]
  ·rw[Ci,hd]
   have:(bl a).drop i=[]:=A0i (by rw[Dl];omega)
   have hi:i=a.size:=by omega
   rw[this]
   by_cases hb:a.size=b.size
   ·have:(bl b).drop i=[]:=A0i (by rw[Dl];omega)
    rw[this]
    simp[BX,DO,hb]
   ·have e2:(bl b).drop i=(bl b).getD i 0::(bl b).drop (i+1):=Cy (by rw[Dl];omega)
    rw[e2]
    grind [DO,BX]
theorem Qq(n:Nat):∀ (v u:GV),SizeOf.sizeOf v<=n->A0 prog 60 [.agg (A5 v),.agg (A5 u)] (.val (.int .i64 (HK n v u))):=by
 induction n with
 |zero=>intro v u h;cases v;simp at h
 |succ n ih=>
 intro v u hn
 rw[A4 v,A4 u]
 refine Zk [] func60 rfl ntmps60 results60 fun H Hb=>?_
 have h0:=H 0;push_cast at h0
 (have z:=trivial;(try push_cast)<;>repeat' (first|apply Zi<;>intro _|refine Zc (EJ ..) ?_|refine Zc (Vt ..) ?_|exact Zp|with_reducible apply Za)<;>try push_cast)
 all_goals simp only[beq_iff_eq,beq_eq_false_iff_ne,bne_iff_ne] at*
 ·grind [Bi]
 ·grind [Bi,J0]
 ·grind [Bi,J0]
 ·grind [Bi,J0]
 ·grind [Bi]
 ·grind [Bi]
 ·rename_i hk _ _ _ h5
  refine Zl (fun i=>i<=v.list.length/\i<=u.list.length/\∀ j,j<i->HK n (v.list.getD j zV) (u.list.getD j zV)=0) (fun i=>⟨[(5,.val (.int .i64 i)),(2,.ref 0 0 0 6),(3,.ref 8 0 0 6)],[(0,.rows [A5 v] 6),(8,.rows [A5 u] 6)],8⟩) (fun i=>v.list.length-i) 0 (by simp) ?_ fun i hi=>?_
  ·apply Zw<;>push_cast [A4 v,A4 u]
  ·obtain⟨h1,h2,h3⟩:=hi
   push_cast[A4 v,A4 u]
   refine Af (fun ha=>?_) (fun ha=>?_)
   ·push_cast[A4 v,A4 u]
    refine Af (fun hb=>?_) (fun hb=>?_)
    ·have ha':i<v.list.length:=by simpa using ha
     have hb':i<u.list.length:=by simpa using hb
     have ea:=Et ha'
     have eb:=Et hb'
     have hs:SizeOf.sizeOf (v.list.getD i zV)<=n:=by
      have:=GV.list_lt (Aj (d:=zV) ha');omega
     (have z:=Za ea<|Za eb<|Za (A4 v) (A4 u);(try push_cast[z])<;>repeat' (first|apply Zi<;>intro _|exact Zo|with_reducible apply Za|(with_reducible show A1 _ _ _ _ _ _ _ _;refine A1.call (by(try push_cast[z]);exact ih _ _ (by assumption)) (by first|exact .inl rfl|exact .inr ⟨_,_,_,rfl,rfl,rfl⟩) rfl (by first|rfl|push_cast [z]) ?_)<;>try push_cast[z]|fail)<;>try push_cast[z])
     all_goals first|omega|skip
     ·rename_i h
      have h:=bne_iff_ne.1 h
      have e:=FH (HK n) zV v.list u.list i ha' hb' h3 h
      grind [Bi]
     ·rename_i h
      have h:=BN h
      refine⟨i+1,⟨by omega,by omega,fun j hj=>?_⟩,by omega,?_⟩
      ·by_cases hji:j=i
       ·subst hji;exact h
       ·exact h3 j (by omega)
      ·apply Zw<;>push_cast [A4 v,A4 u]
       rw[A9 (by omega) (by omega)]
    ·(have z:=Za (A4 v) (A4 u);(try push_cast[z])<;>repeat' (first|apply Zi<;>intro _|refine Zc (EJ ..) ?_|exact Zo|with_reducible apply Za)<;>try push_cast[z])
     have e:=EI (HK n) zV v.list u.list i h1 h2 h3 (fun⟨_,h⟩=>by simp at hb;omega)
     grind [Bi]
   ·(have z:=Za (A4 v) (A4 u);(try push_cast[z])<;>repeat' (first|apply Zi<;>intro _|refine Zc (EJ ..) ?_|exact Zo|with_reducible apply Za)<;>try push_cast[z])
    have e:=EI (HK n) zV v.list u.list i h1 h2 h3 (fun⟨h,_⟩=>by simp at ha;omega)
    grind [Bi]
 ·rename_i hk _ _ _ _ h5
  refine Zl (fun i=>i<=v.obj.length/\i<=u.obj.length/\∀ j,j<i->H9 n (v.obj.getD j zM) (u.obj.getD j zM)=0) (fun i=>⟨[(7,.val (.int .i64 i)),(2,.ref 0 0 0 6),(3,.ref 8 0 0 6)],[(0,.rows [A5 v] 6),(8,.rows [A5 u] 6)],8⟩) (fun i=>v.obj.length-i) 0 (by simp) ?_ fun i hi=>?_
  ·apply Zw<;>push_cast [A4 v,A4 u]
  ·obtain⟨h1,h2,h3⟩:=hi
   push_cast[A4 v,A4 u]
   refine Af (fun ha=>?_) (fun ha=>?_)
   ·push_cast[A4 v,A4 u]
    refine Af (fun hb=>?_) (fun hb=>?_)
    ·have ha':i<v.obj.length:=by simpa using ha
     have hb':i<u.obj.length:=by simpa using hb
     have ea:=Bk ha'
     have eb:=Bk hb'
     have hs:SizeOf.sizeOf (v.obj.getD i zM).2<=n:=by
      have:=GV.obj_lt (Aj (d:=zM) ha');omega
     (have z:=Za ea<|Za eb<|Za @Ah<|Za (A4 v) (A4 u);(try push_cast[z])<;>repeat' (first|apply Zi<;>intro _|refine Zc (Vt ..) ?_|exact Zo|with_reducible apply Za|(with_reducible show A1 _ _ _ _ _ _ _ _;refine A1.call (by(try push_cast[z]);exact ih _ _ (by assumption)) (by first|exact .inl rfl|exact .inr ⟨_,_,_,rfl,rfl,rfl⟩) rfl (by first|rfl|push_cast [z]) ?_)<;>try push_cast[z]|fail)<;>try push_cast[z])
     all_goals first|omega|skip
     ·rename_i h
      have h:=bne_iff_ne.1 h
      have h':H9 n (v.obj.getD i zM) (u.obj.getD i zM)≠0:=by simp only[H9,if_neg h];exact h
      have e:=FH (H9 n) zM v.obj u.obj i ha' hb' h3 h'
      simp only[H9,if_neg h] at e
      grind [Bi]
     ·rename_i g h
      have g:=BN g
      have h:=bne_iff_ne.1 h
      have h':H9 n (v.obj.getD i zM) (u.obj.getD i zM)≠0:=by simp only[H9,if_pos g];exact h
      have e:=FH (H9 n) zM v.obj u.obj i ha' hb' h3 h'
      simp only[H9,if_pos g] at e
      grind [Bi]
     ·rename_i g h
      have g:=BN g
      have h:=BN h
      refine⟨i+1,⟨by omega,by omega,fun j hj=>?_⟩,by omega,?_⟩
      ·by_cases hji:j=i
       ·subst hji;simp only[H9,if_pos g];exact h
       ·exact h3 j (by omega)
      ·apply Zw<;>push_cast [A4 v,A4 u]
       rw[A9 (by omega) (by omega)]
    ·(have z:=Za (A4 v) (A4 u);(try push_cast[z])<;>repeat' (first|apply Zi<;>intro _|refine Zc (EJ ..) ?_|exact Zo|with_reducible apply Za)<;>try push_cast[z])
     have e:=EI (H9 n) zM v.obj u.obj i h1 h2 h3 (fun⟨_,h⟩=>by simp at hb;omega)
     grind [Bi]
   ·(have z:=Za (A4 v) (A4 u);(try push_cast[z])<;>repeat' (first|apply Zi<;>intro _|refine Zc (EJ ..) ?_|exact Zo|with_reducible apply Za)<;>try push_cast[z])
    have e:=EI (H9 n) zM v.obj u.obj i h1 h2 h3 (fun⟨h,_⟩=>by simp at ha;omega)
    grind [Bi]
 ·grind [Bi]
theorem SA:∀ (a b:List UInt8),Lib.compareBytes a b=BX a b
 |[],[]=>rfl
 |[],_::_=>rfl
 |_::_,[]=>rfl
 |x::a,y::b=>by
  simp only[Lib.compareBytes,BX,SA a b]
  by_cases h:x=y
  ·subst h;simp[UInt8.lt_irrefl]
  ·rw[if_neg h]
   by_cases h1:x<y
   ·simp[h1]
   ·have:y<x:=UInt8.lt_of_le_of_ne (UInt8.not_lt.1 h1) (fun e=>h e.symm)
    simp[h1,this]
theorem QR(a b:ByteArray):Kz prog 319 [.val (.string a),.val (.string b)] (.val (.int .i64 (Ci a b))):=
 Kz.of (e:=Extern.BytealgCompare.compare) func319 (by kernel_rfl) (by kernel_rfl) (by kernel_rfl) (by kernel_rfl) fun w I mu vs h=>by
  obtain⟨v,u,rfl,hv,hu⟩:=h.two
  have ha:=hv.val_inv;have hb:=hu.val_inv
  subst ha hb
  refine⟨_,Lib.run_compareString a b w,?_⟩
  rw[SA]
  refine .val _ ?_
  have:∀ x y:List UInt8,-1<=BX x y/\BX x y<=1:=by
   intro x
   induction x with
   |nil=>intro y;cases y<;>simp [BX]
   |cons p x ih=>intro y;cases y with
    |nil=>simp [BX]
    |cons q y=>simp only[BX];have:=ih y;split<;>(try split)<;>omega
  have:=this a.data.toList b.data.toList
  simp only[okP,D2,D3,Ci,bl];omega
theorem Kv(a b:ByteArray):A0 prog 257 [.val (.string a),.val (.string b)] (.val (.int .i64 (Ci a b))):=by
 refine Zf [] func257 rfl ntmps257 results257 ?_
 (have z:=trivial;(try push_cast)<;>repeat' (first|apply Zi<;>intro _|exact Zp|with_reducible apply Za|(with_reducible show A1 _ _ _ _ _ _ _ _;refine A1.ext (by(try push_cast);exact QR ..) (by first|exact .inl rfl|exact .inr ⟨_,_,_,rfl,rfl,rfl⟩) rfl ?_)<;>try push_cast|fail)<;>try push_cast)
theorem DW(a b:ByteArray):A0 prog 183 [.val (.string a),.val (.string b)] (.val (.int .i64 (Ci a b))):=by
 refine Zf [] func183 rfl ntmps183 results183 ?_
 (have z:=trivial;(try push_cast)<;>repeat' (first|apply Zi<;>intro _|refine Zc (Kv ..) ?_|exact Zp|with_reducible apply Za)<;>try push_cast)
theorem XE(a:Int):A0 prog 256 [.val (.int .i64 a)] (.val (.bool false)):=by
 refine Zf [] func256 rfl ntmps256 results256 ?_
 ((try push_cast)<;>repeat' (first|apply Zi<;>intro _|exact Zp|with_reducible apply Za)<;>try push_cast)
theorem c_isNaNK(a:Int):A0 prog 255 [.val (.int .i64 a)] (.val (.bool false)):=by
 refine Zf [] func255 rfl ntmps255 results255 ?_
 ((try push_cast)<;>repeat' (first|apply Zi<;>intro _|exact Zp|with_reducible apply Za)<;>try push_cast)
theorem c_isNaNi(a:Int):A0 prog 320 [.val (.int .i64 a)] (.val (.bool false)):=by
 refine Zf [] func320 rfl ntmps320 results320 ?_
 ((try push_cast)<;>repeat' (first|apply Zi<;>intro _|exact Zp|with_reducible apply Za)<;>try push_cast)
theorem c_cmp64(a b:Int):A0 prog 182 [.val (.int .i64 a),.val (.int .i64 b)] (.val (.int .i64 (DO a b))):=by
 refine Zf [] func182 rfl ntmps182 results182 ?_
 (have z:=trivial;(try push_cast)<;>repeat' (first|apply Zi<;>intro _|refine Zc (XE ..) ?_|exact Zp|with_reducible apply Za)<;>try push_cast)
 all_goals grind [DO]
theorem c_cmpK(a b:Int):A0 prog 180 [.val (.int .i64 a),.val (.int .i64 b)] (.val (.int .i64 (DO a b))):=by
 refine Zf [] func180 rfl ntmps180 results180 ?_
 (have z:=trivial;(try push_cast)<;>repeat' (first|apply Zi<;>intro _|refine Zc (c_isNaNK ..) ?_|exact Zp|with_reducible apply Za)<;>try push_cast)
 all_goals grind [DO]
theorem c_cmpi(a b:Int):A0 prog 258 [.val (.int .i64 a),.val (.int .i64 b)] (.val (.int .i64 (DO a b))):=by
 refine Zf [] func258 rfl ntmps258 results258 ?_
 (have z:=trivial;(try push_cast)<;>repeat' (first|apply Zi<;>intro _|refine Zc (c_isNaNi ..) ?_|exact Zp|with_reducible apply Za)<;>try push_cast)
 all_goals grind [DO]
theorem c_rank(b:Bool):A0 prog 181 [.val (.bool b)] (.val (.int .i64 (if b then 1 else 0))):=by
 refine Zf [] func181 rfl ntmps181 results181 ?_
 ((try push_cast)<;>repeat' (first|apply Zi<;>intro _|exact Zp|with_reducible apply Za)<;>try push_cast)
 all_goals simp_all
theorem UD(a b:List GV)(g:Nat)(f:GV->GV->Int)(h:∀ x ∈ a,∀ y ∈ b,A0 prog g [.agg (A5 x),.agg (A5 y)] (.val (.int .i64 (f x y)))):
  A0 prog 184 [.slice (a.map A5) false,.slice (b.map A5) false,.func (.func g) [] []] (.val (.int .i64 (CH f a b))):=by
 refine Zk [] func184 rfl ntmps184 results184 fun H Hb=>?_
 have h0:=H 0;push_cast at h0
 have h1:=H 1;push_cast at h1
 push_cast
 refine Zl (fun i=>i<=a.length/\i<=b.length/\∀ j,j<i->f (a.getD j zV) (b.getD j zV)=0) (fun i=>⟨[(14,.val (.int .i64 i)),(13,.val (.int .i64 (if(b.length:Int)<a.length then b.length else a.length))),(0,.slice (a.map A5) false),(1,.slice (b.map A5) false),(2,.func (.func g) [] [])],[],0⟩) (fun i=>a.length-i) 0 (by simp) ?_ fun i hi=>?_
 ·apply Zw<;>push_cast
 ·obtain⟨h1,h2,h3⟩:=hi
  push_cast
  refine Af (fun ha=>?_) (fun ha=>?_)
  ·have hab:i<a.length/\i<b.length:=by simp at ha;split at ha<;>omega
   obtain⟨ha',hb'⟩:=hab
   have ea:=Et ha'
   have eb:=Et hb'
   (have z:=Za ea eb;(try push_cast[z])<;>repeat' (first|apply Zi<;>intro _|refine Zv (h _ (Aj ha') _ (Aj hb')) ?_|exact Zo|with_reducible apply Za)<;>try push_cast[z])
   all_goals first|omega|skip
   ·rename_i k
    have k:=bne_iff_ne.1 k
    rw[FH f zV a b i ha' hb' h3 k]
   ·rename_i k
    have k:=BN k
    refine⟨i+1,⟨by omega,by omega,fun j hj=>?_⟩,by omega,?_⟩
    ·by_cases hji:j=i
     ·subst hji;exact k
     ·exact h3 j (by omega)
    ·apply Zw<;>push_cast
     rw[A9 (by omega) (by omega)]
  ·have hab:¬(i<a.length/\i<b.length):=by simp at ha;split at ha<;>omega
   (have z:=trivial;(try push_cast)<;>repeat' (first|apply Zi<;>intro _|refine Zc (c_cmpi ..) ?_|exact Zp|with_reducible apply Za)<;>try push_cast)
   rw[EI f zV a b i h1 h2 h3 hab]
theorem Mt(p:ByteArray×GV):(A7 p).length=7:=by rw[Ah,A0g,AY]
theorem Cd(p:ByteArray×GV):(A7 p).take 7=A7 p:=A08 (by rw[Mt];exact A0a _)
theorem UE(a b:List (ByteArray×GV))(g:Nat)(f:ByteArray×GV->ByteArray×GV->Int)(h:∀ x ∈ a,∀ y ∈ b,A0 prog g [.agg (A7 x),.agg (A7 y)] (.val (.int .i64 (f x y)))):
  A0 prog 185 [.slice (a.map A7) false,.slice (b.map A7) false,.func (.func g) [] []] (.val (.int .i64 (CH f a b))):=by
 refine Zk [] func185 rfl ntmps185 results185 fun H Hb=>?_
 have h0:=H 0;push_cast at h0
 have h1:=H 1;push_cast at h1
 push_cast
 refine Zl (fun i=>i<=a.length/\i<=b.length/\∀ j,j<i->f (a.getD j zM) (b.getD j zM)=0) (fun i=>⟨[(14,.val (.int .i64 i)),(13,.val (.int .i64 (if(b.length:Int)<a.length then b.length else a.length))),(0,.slice (a.map A7) false),(1,.slice (b.map A7) false),(2,.func (.func g) [] [])],[],0⟩) (fun i=>a.length-i) 0 (by simp) ?_ fun i hi=>?_
 ·apply Zw<;>push_cast
 ·obtain⟨h1,h2,h3⟩:=hi
  push_cast
  refine Af (fun ha=>?_) (fun ha=>?_)
  ·have hab:i<a.length/\i<b.length:=by simp at ha;split at ha<;>omega
   obtain⟨ha',hb'⟩:=hab
   have ea:=Bk ha'
   have eb:=Bk hb'
   (have z:=Za ea<|Za eb<|Za @Cd @Mt;(try push_cast[z])<;>repeat' (first|apply Zi<;>intro _|refine Zv (h _ (Aj ha') _ (Aj hb')) ?_|exact Zo|with_reducible apply Za)<;>try push_cast[z])
   all_goals first|omega|skip
   ·rename_i k
    have k:=bne_iff_ne.1 k
    rw[FH f zM a b i ha' hb' h3 k]
   ·rename_i k
    have k:=BN k
    refine⟨i+1,⟨by omega,by omega,fun j hj=>?_⟩,by omega,?_⟩
    ·by_cases hji:j=i
     ·subst hji;exact k
     ·exact h3 j (by omega)
    ·apply Zw<;>push_cast
     rw[A9 (by omega) (by omega)]
  ·have hab:¬(i<a.length/\i<b.length):=by simp at ha;split at ha<;>omega
   (have z:=trivial;(try push_cast)<;>repeat' (first|apply Zi<;>intro _|refine Zc (c_cmpi ..) ?_|exact Zp|with_reducible apply Za)<;>try push_cast)
   rw[EI f zM a b i h1 h2 h3 hab]
theorem JL(v:GV):(A5 v).all AN=true:=by rw[A4];rfl
theorem Cv(p:ByteArray×GV):(A7 p).all AN=true:=by rw[Ah,A4];rfl
attribute [push_cast] JL Cv
theorem Ku(x y:ByteArray×GV)(c:Int)(h:A0 prog 123 [.agg (A5 x.2),.agg (A5 y.2)] (.val (.int .i64 c))):
  A0 prog 186 [.agg (A7 x),.agg (A7 y)] (.val (.int .i64 (if Ci x.1 y.1=0 then c else Ci x.1 y.1))):=by
 rw[Ah,Ah]
 refine Zf [] func186 rfl ntmps186 results186 ?_
 (have z:=trivial;(try push_cast)<;>repeat' (first|apply Zi<;>intro _|refine Zc (DW ..) ?_|refine Zc h ?_|exact Zp|with_reducible apply Za)<;>try push_cast)
 all_goals grind
theorem XP(n:Nat):∀ (v u:GV),SizeOf.sizeOf v<=n->A0 prog 123 [.agg (A5 v),.agg (A5 u)] (.val (.int .i64 (HK n v u))):=by
 induction n with
 |zero=>intro v u h;cases v;simp at h
 |succ n ih=>
 intro v u hn
 have hl:∀ x ∈ v.list,∀ y ∈ u.list,A0 prog 123 [.agg (A5 x),.agg (A5 y)] (.val (.int .i64 (HK n x y))):=fun x hx y _=>ih x y (by have:=GV.list_lt hx;omega)
 have ho:∀ x ∈ v.obj,∀ y ∈ u.obj,A0 prog 186 [.agg (A7 x),.agg (A7 y)] (.val (.int .i64 (H9 n x y))):=fun x hx y _=>Ku x y _ (ih x.2 y.2 (by have:=GV.obj_lt hx;omega))
 rw[A4 v,A4 u]
 refine Zk [] func123 rfl ntmps123 results123 fun H Hb=>?_
 have h0:=H 0;push_cast at h0
 (have z:=trivial;(try push_cast)<;>repeat' (first|apply Zi<;>intro _|refine Zc (c_cmpK ..) ?_|refine Zc (c_cmp64 ..) ?_|refine Zc (c_rank ..) ?_|refine Zc (DW ..) ?_|exact Zp|with_reducible apply Za|(with_reducible show A1 _ _ _ _ _ _ _ _;refine A1.call (by(try push_cast);exact UD _ _ _ _ hl) (by first|exact .inl rfl|exact .inr ⟨_,_,_,rfl,rfl,rfl⟩) rfl (by first|rfl|push_cast) ?_)<;>try push_cast|(with_reducible show A1 _ _ _ _ _ _ _ _;refine A1.call (by(try push_cast);exact UE _ _ _ _ ho) (by first|exact .inl rfl|exact .inr ⟨_,_,_,rfl,rfl,rfl⟩) rfl (by first|rfl|push_cast) ?_)<;>try push_cast|fail)<;>try push_cast)
 all_goals simp only[beq_iff_eq,beq_eq_false_iff_ne,bne_iff_ne] at*
 all_goals first
  |grind [Bi]
  |(have e:DO (if v.b=true then 1 else 0) (if u.b=true then 1 else 0)=J0 v.b u.b:=by cases v.b<;>cases u.b<;>rfl
    grind [Bi])
noncomputable def Jh(v u:GV):Int:=HK (SizeOf.sizeOf v) v u
theorem UG(v u:GV):A0 prog 123 [.agg (A5 v),.agg (A5 u)] (.val (.int .i64 (Jh v u))):=XP _ v u (A0a _)
theorem Fk(v u:GV):A0 prog 60 [.agg (A5 v),.agg (A5 u)] (.val (.int .i64 (Jh v u))):=Qq _ v u (A0a _)
theorem KZ(v u:GV):A0 prog 72 [.agg (A5 v),.agg (A5 u)] (.val (.bool (Jh v u==0))):=by
 refine Zf [] func72 rfl ntmps72 results72 ?_
 (have z:=trivial;(try push_cast)<;>repeat' (first|apply Zi<;>intro _|refine Zc (UG ..) ?_|exact Zp|with_reducible apply Za)<;>try push_cast)
abbrev GE:=ByteArray×GV
inductive GM where
 |mk (kind:Int) (key to:ByteArray) (n:Int) (had:Bool) (was:GV) (has:Bool) (value:GV) (list:List GM)
namespace GM
def kind:GM->Int|mk k _ _ _ _ _ _ _ _=>k
def key:GM->ByteArray|mk _ k _ _ _ _ _ _ _=>k
def to:GM->ByteArray|mk _ _ t _ _ _ _ _ _=>t
def n:GM->Int|mk _ _ _ n _ _ _ _ _=>n
def had:GM->Bool|mk _ _ _ _ h _ _ _ _=>h
def was:GM->GV|mk _ _ _ _ _ w _ _ _=>w
def has:GM->Bool|mk _ _ _ _ _ _ h _ _=>h
def value:GM->GV|mk _ _ _ _ _ _ _ v _=>v
def list:GM->List GM|mk _ _ _ _ _ _ _ _ l=>l
theorem list_lt{x m:GM}(h:x ∈ m.list):SizeOf.sizeOf x<SizeOf.sizeOf m:=by
 cases m with
 |mk k a b n h1 w h2 v l=>have:=List.sizeOf_lt_of_mem (show x ∈ l from h);simp;omega
end GM
mutual
def Ao:GM->List D
 |.mk k a b n h w i v l=>[.val (.int .i64 k),.val (.string a),.val (.string b),.val (.int .i64 n),.val (.bool h)]++A5 w++[.val (.bool i)]++A5 v++[.slice (JM l) false]
def JM:List GM->List (List D)
 |[]=>[]
 |m::l=>Ao m::JM l
end
theorem NZ:∀ l:List GM,JM l=l.map Ao
 |[]=>rfl
 |v::l=>by simp[JM,NZ l]
theorem Bt(m:GM):Ao m=[.val (.int .i64 m.kind),.val (.string m.key),.val (.string m.to),.val (.int .i64 m.n),.val (.bool m.had)]++A5 m.was++[.val (.bool m.has)]++A5 m.value++[.slice (m.list.map Ao) false]:=by
 cases m;simp only[Ao,NZ,GM.kind,GM.key,GM.to,GM.n,GM.had,GM.was,GM.has,GM.value,GM.list]
theorem Dr:∀ (a b:List D),Ag (a++b)=(Ag a&&Ag b)
 |[],b=>by simp[Ag]
 |d::a,b=>by simp[Ag,Dr a b,Bool.and_assoc]
mutual
theorem Ay:∀ m:GM,Ag (Ao m)=true
 |.mk k a b n h w i v l=>by simp only[Ao,Dr,Ag,D.pure,BS,Mo l,A0M]
theorem Mo:∀ l:List GM,A6 (JM l)=true
 |[]=>rfl
 |m::l=>by simp only[JM,A6,Ay m,Mo l,A0M]
end
theorem Bo(m:GM):(Ao m).length=19:=by rw[Bt];simp[AY]
theorem Uk(l:List GM):A6 (l.map Ao)=true:=AF Ay l
theorem H6(m:GM):(Ao m).all AN=true:=by rw[Bt];simp only[List.all_append,JL];rfl
theorem Hi(m:GM):(Ao m).take 19=Ao m:=A08 (by rw[Bo];exact A0a _)
def zU:GM:=.mk 0 ByteArray.empty ByteArray.empty 0 false zV false zV []
theorem Q3{l:List GM}{i:Nat}(h:i<l.length):nr (l.map Ao) i=Ao (l.getD i zU):=Ho zU h
attribute [push_cast] Ay Uk Bo H6 Hi Mt Cd
structure GN where
 id:Int
 m:GM
def BA(x:GN):List D:=.val (.int .u64 x.id)::Ao x.m
theorem Vo(x:GN):BA x=.val (.int .u64 x.id)::Ao x.m:=rfl
theorem Cx(x:GN):Ag (BA x)=true:=by simp only[BA,Ag,D.pure,Ay,A0M]
theorem H7(x:GN):(BA x).length=20:=by simp[BA,Bo]
theorem G8(l:List GN):A6 (l.map BA)=true:=AF Cx l
theorem encN_all(x:GN):(BA x).all AN=true:=by simp only[BA,List.all_cons,H6];rfl
theorem VS(x:GN):(BA x).take 20=BA x:=A08 (by rw[H7];exact A0a _)
attribute [push_cast] Cx G8 H7 encN_all VS
structure GR where
 version:Int
 client:Int
 id:Int
 m:GM
 code:Int
def encR(x:GR):List D:=[.val (.int .u64 x.version),.val (.int .u64 x.client),.val (.int .u64 x.id)]++Ao x.m++[.val (.int .i64 x.code)]
structure GI where
 client:Int
 cookie:Int
 last:Int
 next:Int
 base:List GE
 pending:List GN
structure GW where
 image:GI
 head:List GE
 saved:Int
def encW(x:GW):List D:=[.val (.int .u64 x.image.client),.val (.int .u64 x.image.cookie),.val (.int .u64 x.image.last),.val (.int .u64 x.image.next),.slice (x.image.base.map A7) false,.slice (x.image.pending.map BA) false,.slice (x.head.map A7) false,.val (.int .u64 x.saved)]
theorem Sf(x:GW):(encW x).length=8:=rfl
attribute [push_cast] Sf
structure GS where
 version:Int
 map:List GE
 ran:List GR
def encS(x:GS):List D:=[.val (.int .u64 x.version),.slice (x.map.map A7) false,.slice (x.ran.map encR) false]
theorem encS_all(x:GS):(encS x).all AN=true:=rfl
theorem Sg(x:GS):(encS x).length=3:=rfl
theorem VR(x:GS):(encS x).take 3=encS x:=rfl
theorem encW_all(x:GW):(encW x).all AN=true:=rfl
theorem VQ(x:GW):(encW x).take 8=encW x:=rfl
attribute [push_cast] encS_all Sg VR encW_all VQ
theorem baLoop(a:ByteArray):∀ (n i:Nat) (r:List UInt8),a.size-i=n->ByteArray.toList.loop a i r=r.reverse++a.data.toList.drop i:=by
 intro n
 induction n with
 |zero=>
  intro i r h
  unfold ByteArray.toList.loop
  have:¬i<a.size:=by omega
  rw[if_neg this]
  have h2:a.data.toList.length<=i:=by have:a.size=a.data.toList.length:=rfl
                                      omega
  simp[A0i h2]
 |succ n ih=>
  intro i r h
  unfold ByteArray.toList.loop
  have hi:i<a.size:=by omega
  rw[if_pos hi,ih (i+1) _ (by omega)]
  have h3:i<a.data.toList.length:=hi
  have h4:a.get! i=a.data.toList[i]:=by
   have h5:i<a.data.size:=hi
   show a.data[i]! =a.data.toList[i]
   rw[getElem!_pos a.data i h5];simp
  rw[List.drop_eq_getElem_cons h3,h4]
  simp
theorem baL(a:ByteArray):a.toList=a.data.toList:=by
 unfold ByteArray.toList
 rw[baLoop a _ 0 [] rfl]
 simp
theorem Pr(a b:ByteArray):(a.toList==b.toList)=decide (a=b):=by
 rw[baL,baL]
 by_cases h:a=b
 ·subst h;simp
 ·have:a.data.toList≠b.data.toList:=fun e=>h (MV e)
  rw[decide_eq_false h];simpa using this
def ltS(a b:ByteArray):Bool:=decide (Ci a b<0)
theorem NP:∀ a b:List UInt8,Op.bytesLess a b=decide (BX a b<0)
 |[],[]=>by simp[Op.bytesLess,BX]
 |[],_::_=>by simp[Op.bytesLess,BX]
 |_::_,[]=>by simp[Op.bytesLess,BX]
 |x::a,y::b=>by
  simp only[Op.bytesLess,BX,NP a b]
  by_cases h:x=y
  ·subst h;simp[UInt8.lt_irrefl]
  ·by_cases h1:x<y
   ·simp[h,h1]
   ·simp[h,h1]
theorem Sz:∀ a b:List UInt8,BX b a= -BX a b
 |[],[]=>rfl
 |[],_::_=>rfl
 |_::_,[]=>rfl
 |x::a,y::b=>by
  simp only[BX]
  by_cases h:x=y
  ·subst h;simp[Sz a b]
  ·have h':¬y=x:=fun e=>h e.symm
   rw[if_neg h,if_neg h']
   by_cases h1:x<y
   ·have:¬y<x:=UInt8.lt_asymm h1
    simp[h1,this]
   ·have:y<x:=UInt8.lt_of_le_of_ne (UInt8.not_lt.1 h1) h'
    simp[h1,this]
theorem Tm(a b:ByteArray):Op.bytesLess a.toList b.toList=ltS a b:=by rw[baL,baL,NP];rfl
theorem Us:∀ {x y:List UInt8},BX x y=0->x=y:=by
 intro x
 induction x with
 |nil=>intro y hy;cases y<;>simp_all [BX]
 |cons p x ih=>intro y hy;cases y with
  |nil=>simp [BX] at hy
  |cons q y=>
   simp only[BX] at hy
   split at hy
   ·rename_i e;subst e;rw[ih hy]
   ·split at hy<;>simp at hy
theorem MI(a b:ByteArray):Ci b a= -Ci a b:=Sz _ _
theorem Qm(a b:ByteArray):Ci a b=0↔a=b:=by
 constructor
 ·exact fun h=>MV (Us h)
 ·intro h;subst h;have:=MI a a;omega
theorem str_gt(a b:ByteArray):(!(Op.bytesLess a.toList b.toList ||a.toList==b.toList))=ltS b a:=by
 rw[Pr,Tm,Bool.eq_iff_iff]
 have hn:=MI a b
 have he:=Qm a b
 simp only[ltS,Bool.not_eq_true',Bool.or_eq_false_iff,decide_eq_false_iff_not,decide_eq_true_eq]
 constructor
 ·intro⟨h1,h2⟩
  have:Ci a b≠0:=fun e=>h2 (he.1 e)
  omega
 ·intro h
  exact⟨by omega,fun e=>by have:=he.2 e;omega⟩
theorem str_le(a b:ByteArray):(Op.bytesLess a.toList b.toList ||a.toList==b.toList)= !ltS b a:=by rw[<-str_gt a b];simp
theorem le_norm(a b:ByteArray):(ltS a b ||decide (a=b))= !ltS b a:=by
 have:=str_le a b
 rw[Tm,Pr] at this;exact this
attribute [push_cast] Tm Pr le_norm Bool.not_not
inductive GT where
 |nil
 |node (es:List GE) (kids:List GT) (height count:Int) (first last:ByteArray) (thin:Bool)
namespace GT
def es:GT->List GE|nil=>[]|node e _ _ _ _ _ _=>e
def kids:GT->List GT|nil=>[]|node _ k _ _ _ _ _=>k
def height:GT->Int|nil=>0|node _ _ h _ _ _ _=>h
def count:GT->Int|nil=>0|node _ _ _ c _ _ _=>c
def first:GT->ByteArray|nil=>ByteArray.empty|node _ _ _ _ f _ _=>f
def last:GT->ByteArray|nil=>ByteArray.empty|node _ _ _ _ _ l _=>l
def thin:GT->Bool|nil=>false|node _ _ _ _ _ _ t=>t
end GT
mutual
def Ac:GT->D
 |.nil=>.val (.pointer none)
 |.node e k h c f l t=>.ptr [.slice (e.map A7) false,.slice (P1 k) false,.val (.int .i64 h),.val (.int .i64 c),.val (.string f),.val (.string l),.val (.bool t)] 0
def P1:List GT->List (List D)
 |[]=>[]
 |t::l=>[Ac t]::P1 l
end
def Ai(t:GT):List D:=[Ac t]
theorem P0:∀ l:List GT,P1 l=l.map Ai
 |[]=>rfl
 |t::l=>by simp[P1,P0 l,Ai]
theorem B4:Ac .nil=.val (.pointer none):=by simp only[Ac]
theorem AW(e:List GE)(k:List GT)(h c:Int)(f l:ByteArray)(t:Bool):Ac (.node e k h c f l t)=.ptr [.slice (e.map A7) false,.slice (k.map Ai) false,.val (.int .i64 h),.val (.int .i64 c),.val (.string f),.val (.string l),.val (.bool t)] 0:=by
 simp only[Ac,P0]
mutual
theorem A3:∀ t:GT,(Ac t).pure=true
 |.nil=>by simp only[Ac,D.pure]
 |.node e k h c f l t=>by simp only[Ac,D.pure,Ag,Bu,Mr k,A0M]
theorem Mr:∀ l:List GT,A6 (P1 l)=true
 |[]=>rfl
 |t::l=>by simp only[P1,A6,Ag,A3 t,Mr l,A0M]
end
theorem P3(t:GT):Ag (Ai t)=true:=by simp only[Ai,Ag,A3,A0M]
theorem Ca(l:List GT):A6 (l.map Ai)=true:=AF P3 l
theorem Si(t:GT):(Ai t).length=1:=rfl
theorem Bf{l:List GT}{i:Nat}(h:i<l.length):nr (l.map Ai) i=Ai (l.getD i .nil):=Ho .nil h
theorem B3(t:GT):AN (Ac t)=true:=by cases t<;>simp only[Ac]<;>rfl
attribute [push_cast] B3 A3 P3 Ca Si
theorem BE(t:GT):A0 prog 154 [Ac t] (.val (.int .i64 t.height)):=by
 cases t with
 |nil=>
  rw[B4]
  refine Zf [] func154 rfl ntmps154 results154 ?_
  ((try push_cast)<;>repeat' (first|apply Zi<;>intro _|exact Zp|with_reducible apply Za)<;>try push_cast)
  all_goals simp[GT.height]
 |node e k h c f l th=>
  rw[AW]
  refine Zf [] func154 rfl ntmps154 results154 ?_
  ((try push_cast)<;>repeat' (first|apply Zi<;>intro _|exact Zp|with_reducible apply Za)<;>try push_cast)
  all_goals simp[GT.height]
theorem Lk(t:GT):A0 prog 96 [Ac t] (.val (.int .i64 t.count)):=by
 cases t with
 |nil=>
  rw[B4]
  refine Zf [] func96 rfl ntmps96 results96 ?_
  ((try push_cast)<;>repeat' (first|apply Zi<;>intro _|exact Zp|with_reducible apply Za)<;>try push_cast)
  all_goals simp[GT.count]
 |node e k h c f l th=>
  rw[AW]
  refine Zf [] func96 rfl ntmps96 results96 ?_
  ((try push_cast)<;>repeat' (first|apply Zi<;>intro _|exact Zp|with_reducible apply Za)<;>try push_cast)
  all_goals simp[GT.count]
theorem c_First(t:GT):A0 prog 228 [Ac t] (.val (.string t.first)):=by
 cases t with
 |nil=>
  rw[B4]
  refine Zf [] func228 rfl ntmps228 results228 ?_
  ((try push_cast)<;>repeat' (first|apply Zi<;>intro _|exact Zp|with_reducible apply Za)<;>try push_cast)
  all_goals first|rfl|simp [GT.first]|skip
 |node e k h c f l th=>
  rw[AW]
  refine Zf [] func228 rfl ntmps228 results228 ?_
  ((try push_cast)<;>repeat' (first|apply Zi<;>intro _|exact Zp|with_reducible apply Za)<;>try push_cast)
  all_goals simp[GT.first]
def G6{α:Type}(f:α->List D)(z:List D)(l:List α)(i:Nat):List (List D):=(l.take i).map f++List.replicate (l.length-i) z
theorem FE{α:Type}(f:α->List D)(z:List D)(l:List α):List.replicate l.length z=G6 f z l 0:=by simp[G6]
theorem H3{α:Type}(f:α->List D)(z:List D)(l:List α){i:Nat}(h:l.length<=i):G6 f z l i=l.map f:=by
 simp[G6,A08 h,Nat.sub_eq_zero_of_le h]
theorem KU{α:Type}(f:α->List D)(z:List D)(l:List α)(i:Nat):(G6 f z l i).length=l.length:=by
 simp[G6];omega
theorem H2{α:Type}(f:α->List D)(z:List D)(l:List α)(d:α){i:Nat}(h:i<l.length):(G6 f z l i).set i (f (l.getD i d))=G6 f z l (i+1):=by
 have e1:(l.take i).length=i:=by simp;omega
 have e2:l.length-i=(l.length-(i+1))+1:=by omega
 simp only[G6]
 rw[List.set_append_right _ _ (by simp;omega)]
 simp only[A06,e1,Nat.sub_self]
 rw[e2,A1L,List.set_cons_zero,A1s,A0K,A0b]
 simp[A09 h,A02]
theorem Jt{α:Type}(f:α->List D)(z:List D)(l:List α){i:Nat}(h:i<l.length):nr (G6 f z l i) i=z:=by
 simp only[nr,G6,A02]
 rw[A0o (by simp;omega)]
 have e1:(l.take i).length=i:=by simp;omega
 simp[e1,A1v,show i-min i l.length<l.length-i by omega]
theorem Hv{α:Type}{f:α->List D}{z:List D}(hf:∀ x,Ag (f x)=true)(hz:Ag z=true)(l:List α)(i:Nat):A6 (G6 f z l i)=true:=by
 have key:∀ (a b:List (List D)),A6 a=true->A6 b=true->A6 (a++b)=true:=by
  intro a b ha hb
  induction a with
  |nil=>exact hb
  |cons x a ih=>simp only[A0c,A6,A07] at*;exact⟨ha.1,ih ha.2⟩
 refine key _ _ (AF hf _) ?_
 induction l.length-i with
 |zero=>rfl
 |succ n ih=>simp only[A1L,A6,hz,ih,A0M]
attribute [push_cast] KU
inductive Sm:GV->Prop where
 |mk (k:Int) (b:Bool) (n:Int) (s:ByteArray) (l:List GV) (o:List (ByteArray×GV)) (hl:l.length<=1048576) (ho:o.length<=1048576) (h:∀ x ∈ l,Sm x) (h':∀ p ∈ o,Sm p.2) (hn: -9223372036854775808<=n/\n<=9223372036854775807) (hz:s.size<=1048576) (hk:∀ p ∈ o,p.1.size<=1048576):Sm (.mk k b n s l o)
theorem Sm.int{v:GV}(h:Sm v): -9223372036854775808<=v.n/\v.n<=9223372036854775807:=by cases h;assumption
theorem Sm.text{v:GV}(h:Sm v):v.s.size<=1048576:=by cases h;assumption
theorem Sm.key{v:GV}(h:Sm v):∀ p ∈ v.obj,p.1.size<=1048576:=by cases h;assumption
theorem Sm.list_le{v:GV}(h:Sm v):v.list.length<=1048576:=by cases h;assumption
theorem Sm.obj_le{v:GV}(h:Sm v):v.obj.length<=1048576:=by cases h;assumption
theorem Sm.list{v:GV}(h:Sm v):∀ x ∈ v.list,Sm x:=by cases h;assumption
theorem Sm.obj{v:GV}(h:Sm v):∀ p ∈ v.obj,Sm p.2:=by cases h;assumption
abbrev z6:List D:=[.val (.int .i64 0),.val (.bool false),.val (.int .i64 0),.val (.string ByteArray.empty),.slice [] true,.slice [] true]
abbrev z7:List D:=.val (.string ByteArray.empty)::z6
theorem Uf(l:List GV)(i:Nat):A6 (G6 A5 z6 l i)=true:=Hv BS rfl l i
theorem Ug(l:List (ByteArray×GV))(i:Nat):A6 (G6 A7 z7 l i)=true:=Hv Al rfl l i
attribute [push_cast] Uf Ug
def cp1(v:GV)(i:Nat):St:=⟨[(23,.val (.int .i64 i)),(22,.val (.int .i64 v.list.length)),(21,.slice (v.list.map A5) false),(3,.ref 24 0 0 6),(2,.ref 8 0 0 6),(1,.ptr [.val (.int .i64 v.kind),.val (.bool v.b),.val (.int .i64 v.n),.val (.string v.s),.slice (v.list.map A5) false,.slice (v.obj.map A7) false] 0)],
 [(24,.rows [[.val (.int .i64 v.kind),.val (.bool v.b),.val (.int .i64 v.n),.val (.string v.s),.sref 128 0 v.list.length v.list.length 6,.slice [] true]] 6),(128,.rows (G6 A5 z6 v.list i) 6),(8,.rows [z6] 6)],92⟩
def cp2(v:GV)(m:D)(R:Hp)(nx:Nat)(c i:Nat):St:=⟨[(47,.val (.int .i64 i)),(46,.val (.int .i64 v.obj.length)),(45,.slice (v.obj.map A7) false),(3,.ref 24 0 0 6),(2,.ref 8 0 0 6)],
 (24,.rows [[.val (.int .i64 v.kind),.val (.bool v.b),.val (.int .i64 v.n),.val (.string v.s),m,.sref c 0 v.obj.length v.obj.length 7]] 6)::(c,.rows (G6 A7 z7 v.obj i) 7)::(8,.rows [z6] 6)::R,nx⟩
theorem Bg(p:ByteArray×GV):(A7 p).length=7:=by rw[Ah,A0g,AY]
theorem ZJ{p:Prop}[Decidable p]{X Y:List (List D)}{n:Nat}{t:Bool}{d:D}(hp:p)(h:X.length<=n)(e:X=Y):lo (if p then .slice (X.take n) t else d) (.slice Y false):=by
 rw[if_pos hp,A08 h,e,E9];exact⟨Bh _,fun h=>by cases h⟩
theorem Fa{X:List (List D)}{n:Nat}(h:decide ((0:Int)<↑n)=false)(e:X.length=n):DR [] X:=by
 have:X=[]:=A0w (by simp at h;omega)
 rw[this];exact Bh _
def CQ(v:GV):List D:=[.val (.int .i64 v.kind),.val (.bool v.b),.val (.int .i64 v.n),.val (.string v.s),.slice (v.list.map A5) true,.slice (v.obj.map A7) true]
theorem loL_T(v:GV):loL (CQ v) (A5 v):=by
 rw[A4,CQ]
 simp[loL,lo,Bh]
theorem Lc{p:Prop}[Decidable p]{X Y:List (List D)}{n:Nat}{t:Bool}{d:D}(hp:p)(h:X.length<=n)(e:X=Y)(ht:t=true):lo (if p then .slice (X.take n) t else d) (.slice Y true):=by
 rw[if_pos hp,A08 h,e,E9];exact⟨Bh _,fun _=>ht⟩
theorem ZK(v:GV):lo (.agg (CQ v)) (.agg (A5 v)):=by rw[Kj];exact loL_T v
theorem lo_T(v:GV)(b:D):lo (.tup [.agg (CQ v),b]) (.tup [.agg (A5 v),b]):=by
 rw[ZI];exact⟨ZK v,Am _,trivial⟩
theorem Ll(v:GV)(hs:Sm v):A0 prog 108 [.agg (A5 v)] (.agg (CQ v)):=by
 have hl:=hs.list_le
 have ho:=hs.obj_le
 have hrec:∀ x,SizeOf.sizeOf x<SizeOf.sizeOf v->Sm x->A0 prog 108 [.agg (A5 x)] (.agg (A5 x)):=fun x h hx=>(Ll x hx).res (ZK x)
 rw[A4,CQ]
 refine Zf [0] func108 rfl ntmps108 results108 ?_
 ((try push_cast)<;>repeat' (first|apply Zi<;>intro _|exact Zp|with_reducible apply Za)<;>try push_cast)
 all_goals first|omega|skip
 ·refine Zl (fun i=>i<=v.list.length) (fun i=>cp1 v i) (fun i=>v.list.length-i) 0 (by simp) ?_ fun i hi=>?_
  ·unfold cp1
   rw[FE A5 z6 v.list]
   apply Zw<;>push_cast [AY]
  ·unfold cp1
   push_cast
   refine Af (fun ha=>?_) (fun ha=>?_)
   ·have hi':i<v.list.length:=by simpa using ha
    have e1:=Et hi'
    have e2:=Jt A5 z6 v.list hi'
    have hr:=hrec (v.list.getD i zV) (GV.list_lt (Aj hi')) (hs.list _ (Aj hi'))
    have e3:=H2 A5 z6 v.list zV hi'
    (have z:=Za e1 e2;(try push_cast[z])<;>repeat' (first|apply Zi<;>intro _|refine Zc (hr ..) ?_|exact Zo|with_reducible apply Za)<;>try push_cast[z])
    all_goals first|omega|skip
    refine⟨i+1,hi',by omega,?_⟩
    apply Zw<;>push_cast [e3,e2]
    all_goals first|exact A9 (by omega) (by omega)|skip
   ·have hi':i=v.list.length:=by simp at ha;omega
    subst hi'
    (have z:=(H3 A5 z6 v.list (A0a _));(try push_cast[z])<;>repeat' (first|apply Zi<;>intro _|exact Zo|with_reducible apply Za)<;>try push_cast[z])
    all_goals first|omega|skip
    ·refine Zl (fun i=>i<=v.obj.length) (fun i=>cp2 v (.sref 128 0 v.list.length v.list.length 6) [(128,.rows (v.list.map A5) 6)] 152 248 i) (fun i=>v.obj.length-i) 0 (by simp) ?_ fun i hi=>?_
     ·unfold cp2
      rw[FE A7 z7 v.obj]
      apply Zw<;>push_cast [AY,Bg]
     ·unfold cp2
      push_cast
      refine Af (fun ha=>?_) (fun ha=>?_)
      ·have hi':i<v.obj.length:=by simpa using ha
       have e1:=Bk hi'
       have e2:=Jt A7 z7 v.obj hi'
       have hr:=hrec (v.obj.getD i zM).2 (GV.obj_lt (Aj hi')) (hs.obj _ (Aj hi'))
       have e3:=H2 A7 z7 v.obj zM hi'
       (have z:=Za e1<|Za e2 @Ah;(try push_cast[z])<;>repeat' (first|apply Zi<;>intro _|refine Zc (hr ..) ?_|exact Zo|with_reducible apply Za)<;>try push_cast[z])
       all_goals first|omega|skip
       refine⟨i+1,hi',by omega,?_⟩
       apply Zw<;>push_cast [e3,e2,<-Ah]
       all_goals first|exact A9 (by omega) (by omega)|skip
      ·have hi':i=v.obj.length:=by simp at ha;omega
       subst hi'
       (have z:=(H3 A7 z7 v.obj (A0a _));(try push_cast[z])<;>repeat' (first|apply Zi<;>intro _|exact Zo|with_reducible apply Za)<;>try push_cast[z])
       all_goals first|omega|exact fun h=>h.elim|exact Lc (by omega) (by simp) rfl (by simp)|exact Fa (n:=v.obj.length) (by assumption) (A06 ..)|exact Fa (n:=v.list.length) (by assumption) (A06 ..)|skip
    all_goals first|exact fun h=>h.elim|exact Lc (by omega) (by simp) rfl (by simp)|exact Fa (n:=v.obj.length) (by assumption) (A06 ..)|exact Fa (n:=v.list.length) (by assumption) (A06 ..)|skip
 ·refine Zl (fun i=>i<=v.obj.length) (fun i=>cp2 v (.slice [] true) [] 108 160 i) (fun i=>v.obj.length-i) 0 (by simp) ?_ fun i hi=>?_
  ·unfold cp2
   rw[FE A7 z7 v.obj]
   apply Zw<;>push_cast [AY,Bg]
  ·unfold cp2
   push_cast
   refine Af (fun ha=>?_) (fun ha=>?_)
   ·have hi':i<v.obj.length:=by simpa using ha
    have e1:=Bk hi'
    have e2:=Jt A7 z7 v.obj hi'
    have hr:=hrec (v.obj.getD i zM).2 (GV.obj_lt (Aj hi')) (hs.obj _ (Aj hi'))
    have e3:=H2 A7 z7 v.obj zM hi'
    (have z:=Za e1<|Za e2 @Ah;(try push_cast[z])<;>repeat' (first|apply Zi<;>intro _|refine Zc (hr ..) ?_|exact Zo|with_reducible apply Za)<;>try push_cast[z])
    all_goals first|omega|skip
    refine⟨i+1,hi',by omega,?_⟩
    apply Zw<;>push_cast [e3,e2,<-Ah]
    all_goals first|exact A9 (by omega) (by omega)|skip
   ·have hi':i=v.obj.length:=by simp at ha;omega
    subst hi'
    (have z:=(H3 A7 z7 v.obj (A0a _));(try push_cast[z])<;>repeat' (first|apply Zi<;>intro _|exact Zo|with_reducible apply Za)<;>try push_cast[z])
    all_goals first|omega|exact fun h=>h.elim|exact Lc (by omega) (by simp) rfl (by simp)|exact Fa (n:=v.obj.length) (by assumption) (A06 ..)|exact Fa (n:=v.list.length) (by assumption) (A06 ..)|skip
 all_goals first|exact fun h=>h.elim|exact Lc (by omega) (by simp) rfl (by simp)|exact Fa (n:=v.obj.length) (by assumption) (A06 ..)|exact Fa (n:=v.list.length) (by assumption) (A06 ..)|skip
termination_by SizeOf.sizeOf v
theorem Hd(v:GV)(hs:Sm v):A0 prog 108 [.agg (A5 v)] (.agg (A5 v)):=(Ll v hs).res (ZK v)
def byD(b:UInt8):List D:=[.val (.int .u8 (b.toNat:Int))]
theorem MU(b:UInt8):byD b=[.val (.int .u8 (b.toNat:Int))]:=rfl
theorem AL:∀ l:List UInt8,A6 (l.map byD)=true
 |[]=>rfl
 |x::l=>by simp only[A0h,A6,AL l];rfl
theorem JT(l:List UInt8):∀ y ∈ l.map byD,y.length=1:=fun y hy=>by
 obtain⟨b,_,rfl⟩:=A0l.1 hy
 rfl
theorem byD_one(l:List UInt8):∀ y ∈ l.map byD,∀ d ∈ y,AN d=true:=fun y hy d hd=>by
 obtain⟨b,_,rfl⟩:=A0l.1 hy
 cases A0d.1 hd
 rfl
theorem XT(b:UInt8):Ag (byD b)=true:=rfl
theorem Ke{l:List UInt8}{i:Nat}(hi:i<l.length):nr (l.map byD) i=byD (l.getD i 0):=by
 simp[nr,A02,hi]
section
variable{P:Program}{ops:Array Oper}{nx:Nat}{dst:Option Tmp}{T:TypeId}{ps:String}{af:Array Edge}{gd:Option (Nat×Bool)}{l:List Oper}{pos:Nat}{acc:List Eff}{s:St}{K:List Eff->St->Prop}{a b e:TypeId}{x:Operand}
def VI(P:Program)(a b:TypeId)(d r:D):Prop:=
 ∀(w:World) (I:Nat->Prop) (mu:Nat->Option Value) (v:Value),(∀ k,I k->k<w.heap.size)->Rep w I mu d v->
  ∃ u w' I',(convert a b v).run P w=.ok u w'/\Rep w' I' mu r u/\(∀ k,I k->I' k)/\(∀ k,I' k->I k∨w.heap.size<=k)/\(∀ k,I' k->k<w'.heap.size)/\Below w.heap.size w w'
theorem P8{id:Nat}{ev:Operand->D}{hp:Nat->Option Blk}{d r:D}(hx:ev x=d)(hc:VI P a b d r):AC P ⟨dst,.convert a b x,T,ps,af,gd⟩ id ev hp ⟨r,[],[]⟩:=by
 intro w0 M0 I0 fr I mu h ac w hga hw hid hxs hb K Q hK
 have hxr:=hxs x (by simp[Op.operands])
 rw[hx] at hxr
 obtain⟨u,w',I',hrun,hv,h1,h2,h3,h4⟩:=hc w I mu _ hw.lt hxr
 refine DG (w':=w') (v:=u) (by simp only[execOp,A0e,hrun,Result.andThen,A0j]) ?_
 have hext:Ext I mu w I' mu w':=⟨h1,fun _ _ h=>h,fun k hk=>h4.block k (hw.lt k hk)⟩
 exact hK u w' I' mu hext ((hw.below h1 h2 h3 h4).less fun b hb=>hb.1) hv
theorem A1.conv{d r:D}(hc:VI P a b d r)(hg:gd=none∨∃ j want t,gd=some (j,want)/\AT ops j=some t/\gOf (s.env.get t) want=some true)(hx:evO P s.env.get x=d)
  (hk:GoS P ops nx l (pos+1) (⟨r,[],[]⟩::acc) (s.app dst ⟨r,[],[]⟩) K):A1 P ops nx (⟨dst,.convert a b x,T,ps,af,gd⟩::l) pos acc s K:=by
 rw[Bj]
 rw[Cb] at hk
 unfold Bz
 refine .inl ⟨_,?_,by have:=Go.run hk;unfold Bz at this;exact this⟩
 rcases hg with rfl|⟨j,want,t,rfl,ht,hg⟩
 ·exact Bd.plain rfl (P8 hx hc)
 ·exact Bd.guard_true rfl ht hg (P8 hx hc)
end
theorem conv_sb{P:Program}{a b e:TypeId}{u:TypeDesc}(hs:P.underlying a=some u)(hd:P.underlying b=some (.slice e))(he:P.underlying e=some (.int .u8))(s:ByteArray)(hz:s.size<=140737488355328):VI P a b (.val (.string s)) (.slice (s.data.toList.map byD) false):=by
 intro w I mu v hI hv
 have hv:=hv.val_inv
 subst hv
 have hl:s.data.toList.length=s.size:=rfl
 have hm:grownCap w s.size 0 e<=maxLen:=grownCap_le_maxLen w _ _ _ (by simp only[maxLen];omega)
 have hc:s.size<=grownCap w s.size 0 e:=grownCap_ge w _ _ _
 refine⟨_,_,fun k=>I k∨k=w.heap.size,Lib.run_convert_string_bytes w a b e s hs hd he,?_,fun k h=>.inl h,fun k h=>h.elim .inl fun h=>.inr (by omega),fun k h=>?_,?_⟩
 ·have hr:=Rep.slice (w:=Lib.bytesWorld w e s) (I:=fun k=>I k∨k=w.heap.size) (mu:=mu) (s.data.toList.map byD) false (some ⟨w.heap.size,0,none⟩) w.heap.size 0 1 (grownCap w s.size 0 e) (fun i j=>.int .u8 ((s.data.toList.getD i 0).toNat:Int))
   (fun _=>⟨rfl,fun _=>.inr rfl⟩) (by rw[A06,hl];exact hc) (fun h=>by cases h) hm (fun i hi=>by rw[Ke (by simpa using hi)];rfl)
   (fun i j hi hj=>by
    obtain rfl:j=0:=by omega
    have:=Lib.bytesWorld_cell w e s i (by simpa[hl] using hi)
    simpa using this)
   (fun i j hi hj=>by
    obtain rfl:j=0:=by omega
    rw[Ke (by simpa using hi)]
    have:=(s.data.toList.getD i 0).toNat_lt
    exact .val _ (by simp only[okP,D2,D3];omega))
  rw[A06,hl] at hr
  exact hr
 ·rw[Lib.bytesWorld_size]
  rcases h with h|h
  ·have:=hI k h;omega
  ·omega
 ·exact Lib.below_freeze ((Below.drew (Below.refl _ w)).alloc (A0a _) _) (p:=⟨w.heap.size,_,none⟩) (A0a _) 1
theorem conv_bs{P:Program}{a b e:TypeId}(hs:P.underlying a=some (.slice e))(he:P.underlying e=some (.int .u8))(hd:P.underlying b=some .string)(l:List UInt8)(t:Bool):VI P a b (.slice (l.map byD) t) (.val (.string ⟨l.toArray⟩)):=by
 intro w I mu v hI hv
 refine⟨.string ⟨l.toArray⟩,w,I,?_,?_,fun k h=>h,fun k h=>.inl h,hI,Below.refl _ _⟩
 ·cases hv with
  |slice es tight A k o sz cap u hA hc ht hm hlen hcell h=>
   simp only[A06] at*
   cases l with
   |nil=>
    cases A with
    |none=>exact run_convert_bytes_nil w _ _ hs he _ _ _ hd
    |some A=>exact run_convert_bytes_back w a b e A cap [] hs he hd (fun j hj=>by simp at hj)
   |cons x l=>
    obtain⟨hA1,_⟩:=hA (by simp)
    subst hA1
    refine run_convert_bytes_back w a b e ⟨k,o,none⟩ cap (x::l) hs he hd fun j hj=>?_
    have hsz:sz=1:=by have:=hlen j hj;rw[Ke hj] at this;exact this.symm
    subst hsz
    have h1:=hcell j 0 hj (by omega)
    have h2:=h j 0 hj (by omega)
    rw[Ke hj] at h2
    have h3:u j 0=.int .u8 (((x::l).getD j 0).toNat:Int):=h2.val_inv
    have ea:(⟨k,o,none⟩:Addr).add j=⟨k,o+(j*1+0),none⟩:=by simp[Addr.add]
    rw[ea,h1,h3]
    simp[A02,A09 hj]
 ·refine .val _ ?_
  cases hv with
  |slice es tight A k o sz cap u hA hc ht hm hlen hcell h=>
   simp only[A06] at hc
   show l.toArray.size<=_
   simp only[maxLen] at hm
   rw[A0y]
   omega
attribute [push_cast] AL XT implies_true
abbrev tN:ByteArray:=⟨#[110]⟩
abbrev tK:ByteArray:=⟨#[107]⟩
abbrev Gz:ByteArray:=⟨#[105,110,99]⟩
abbrev Gx:ByteArray:=⟨#[112,117,116]⟩
abbrev tBy:ByteArray:=⟨#[98,121]⟩
abbrev Cp:ByteArray:=⟨#[107,101,121]⟩
abbrev Cz:ByteArray:=⟨#[118,97,108,117,101]⟩
abbrev Ei:ByteArray:=⟨#[97,114,103,115]⟩
abbrev Eh:ByteArray:=⟨#[110,97,109,101]⟩
abbrev tId:ByteArray:=⟨#[105,100]⟩
abbrev CU:ByteArray:=⟨#[109,117,116,97,116,111,114]⟩
abbrev Dm:ByteArray:=⟨#[99,108,105,101,110,116]⟩
abbrev Gy:ByteArray:=⟨#[108,105,115,116]⟩
def Bx:GV:=.mk 1 false 0 ByteArray.empty [] []
def vI(n:Int):GV:=.mk 3 false n ByteArray.empty [] []
def vT(s:ByteArray):GV:=.mk 4 false 0 s [] []
def vL(l:List GV):GV:=.mk 5 false 0 ByteArray.empty l []
def vO(o:List (ByteArray×GV)):GV:=.mk 6 false 0 ByteArray.empty [] o
theorem An(v:GV):Ag (A5 v)=true/\(A5 v).length=6/\(A5 v).all AN=true/\(A5 v).take 6=A5 v:=⟨BS v,AY v,JL v,Nf v⟩
theorem Se:A5 Bx=[.val (.int .i64 1),.val (.bool false),.val (.int .i64 0),.val (.string ByteArray.empty),.slice [] false,.slice [] false]:=A4 _
theorem KV(n:Int):A5 (vI n)=[.val (.int .i64 3),.val (.bool false),.val (.int .i64 n),.val (.string ByteArray.empty),.slice [] false,.slice [] false]:=A4 _
theorem NX(s:ByteArray):A5 (vT s)=[.val (.int .i64 4),.val (.bool false),.val (.int .i64 0),.val (.string s),.slice [] false,.slice [] false]:=A4 _
theorem enc_L(l:List GV):A5 (vL l)=[.val (.int .i64 5),.val (.bool false),.val (.int .i64 0),.val (.string ByteArray.empty),.slice (l.map A5) false,.slice [] false]:=A4 _
theorem Mm(o:List (ByteArray×GV)):A5 (vO o)=[.val (.int .i64 6),.val (.bool false),.val (.int .i64 0),.val (.string ByteArray.empty),.slice [] false,.slice (o.map A7) false]:=A4 _
inductive SMu where
 |inc (n:Int)
 |put
def SMu.m:SMu->GM
 |.inc n=>.mk 3 tN ByteArray.empty n false zV false zV []
 |.put=>.mk 1 tK ByteArray.empty 0 false zV false Bx []
def SMu.ok:SMu->Prop
 |.inc n=> -9223372036854775808<=n/\n<=9223372036854775807
 |.put=>True
def SMu.args:SMu->GV
 |.inc n=>vO [(tBy,vI n),(Cp,vT tN)]
 |.put=>vO [(Cp,vT tK),(Cz,Bx)]
def SMu.name:SMu->ByteArray
 |.inc _=>Gz
 |.put=>Gx
def SMu.o(m:SMu):GV:=vO [(Ei,m.args),(Eh,vT m.name)]
abbrev SN:=Nat×SMu
def snN(x:SN):GN:=⟨x.1,x.2.m⟩
def snO(x:SN):GV:=vO [(tId,vI x.1),(CU,x.2.o)]
def puO(c:Nat)(l:List SN):GV:=vO [(Dm,vI c),(Gy,vL (l.map snO))]
def Dd(n:Nat):Prop:=0<n/\n<=4611686018427387903
def HL(c:Nat)(l:List SN):Prop:=Dd c/\l.length<=64/\∀ x ∈ l,Dd x.1/\x.2.ok
def Gn(c:Nat)(l:List SN):List D:=[.val (.int .u64 c),.slice ((l.map snN).map BA) false]
def noS(s:ByteArray):Bool:=s.toList==(⟨#[]⟩:ByteArray).toList
theorem Z6(s:ByteArray):noS s=decide (s=⟨#[]⟩):=by unfold noS;rw[Pr]
def D8(v:GV):Bool:=v.kind==0&&(!v.b&&(v.n==0&&(noS v.s&&((v.list.length:Int)==0&&(v.obj.length:Int)==0))))
theorem Li(v:GV):A0 prog 103 [.agg (A5 v)] (.val (.bool (D8 v))):=by
 rw[A4]
 refine Zf [0] func103 rfl ntmps103 results103 ?_
 ((try push_cast)<;>repeat' (first|apply Zi<;>intro _|exact Zp|with_reducible apply Za)<;>try push_cast)
 all_goals simp_all [D8,Z6]
def QC(m:GM):Bool:=noS m.key&&(noS m.to&&(m.n==0&&(!m.had&&(D8 m.was&&(!m.has&&(D8 m.value&&(m.list.length:Int)==0))))))
theorem c_blank(m:GM):A0 prog 104 [.agg (Ao m)] (.val (.bool (QC m))):=by
 have h1:=Li m.was
 have h2:=Li m.value
 rw[Bt]
 rw[A4] at h1 h2|-
 rw[A4 m.value]
 simp only[A0c,A0m,A0b]
 refine Zf [0] func104 rfl ntmps104 results104 ?_
 (have z:=trivial;(try push_cast)<;>repeat' (first|apply Zi<;>intro _|refine Zc h1 ?_|refine Zc h2 ?_|exact Zp|with_reducible apply Za)<;>try push_cast)
 all_goals simp_all [QC,Z6]
def Cq(m:GM):Bool:=
 (!m.had&& !D8 m.was) ||
 (if m.kind==1 ||m.kind==5 then !(noS m.to&&(m.n==0&&(!m.had&&(D8 m.was&&(!m.has&&(m.list.length:Int)==0)))))
  else if m.kind==2 then !(noS m.to&&(m.n==0&&(!m.had&&(D8 m.was&&(!m.has&&(D8 m.value&&(m.list.length:Int)==0))))))
  else if m.kind==3 then !(noS m.to&&(!m.had&&(D8 m.was&&(!m.has&&(D8 m.value&&(m.list.length:Int)==0)))))
  else if m.kind==4 then(!m.has&& !D8 m.value) ||!(noS m.to&&(m.n==0&&(m.list.length:Int)==0))
  else if m.kind==6 then !(m.n==0&&(!m.had&&(D8 m.was&&(!m.has&&(D8 m.value&&(m.list.length:Int)==0)))))
  else if m.kind==7 then !(noS m.to&&(m.n==0&&(!m.has&&D8 m.value)))
  else true)
theorem JD:∀ {a b c d:List D},loL a b->loL c d->loL (a++c) (b++d)
 |[],[],_,_,_,h=>h
 |[],_::_,_,_,h,_=>by simp[loL] at h
 |_::_,[],_,_,h,_=>by simp[loL] at h
 |x::a,y::b,c,d,h,h'=>by
  simp only[loL,A0c] at h|-
  exact⟨h.1,JD h.2 h'⟩
abbrev mutD(kd:Int)(k t:ByteArray)(n:Int)(hd:Bool)(W:List D)(hs:Bool)(V:List D)(L:D):D:=.agg ([.val (.int .i64 kd),.val (.string k),.val (.string t),.val (.int .i64 n),.val (.bool hd)]++W++[.val (.bool hs)]++V++[L])
theorem FI(m:GM){W V:List D}{L:D}(hW:loL W (A5 m.was))(hV:loL V (A5 m.value))(hL:Go.Ab.lo L (.slice (m.list.map Ao) false)):
  A0 prog 104 [mutD m.kind m.key m.to m.n m.had W m.has V L] (.val (.bool (QC m))):=by
 refine(c_blank m).lo ?_
 rw[Bt]
 simp only[loL,Kj,and_true]
 exact JD (JD (JD (JD (AJ _) hW) (AJ _)) hV) ⟨hL,trivial⟩
abbrev zT:List D:=[.val (.int .i64 0),.val (.bool false),.val (.int .i64 0),.val (.string ByteArray.empty),.slice [] true,.slice [] true]
theorem Q6:loL zT (A5 zV):=by
 rw[A4]
 simp[zV,GV.kind,GV.b,GV.n,GV.s,GV.list,GV.obj,loL,lo,DR]
theorem Pj(m:GM):A0 prog 63 [.agg (Ao m)] (.val (.bool (Cq m))):=by
 obtain⟨kd,k,t,n,hd,w,hs,v,l⟩:=m
 have h1:=Li w
 have h2:=Li v
 have k1:=FI (.mk kd ⟨#[]⟩ t n hd w hs zV l) (AJ _) Q6 (Am _)
 have k2:=FI (.mk kd ⟨#[]⟩ t n hd w hs v l) (AJ _) (AJ _) (Am _)
 have k3:=FI (.mk kd ⟨#[]⟩ t 0 hd w hs v l) (AJ _) (AJ _) (Am _)
 have k4:=FI (.mk kd ⟨#[]⟩ t n false zV false zV l) Q6 Q6 (Am _)
 have k6:=FI (.mk kd ⟨#[]⟩ ⟨#[]⟩ n hd w hs v l) (AJ _) (AJ _) (Am _)
 have k7:=FI (.mk kd ⟨#[]⟩ t n false zV hs v []) (L:=.slice [] true) Q6 (AJ _) (by simp[Go.Ab.lo,GM.list,DR])
 have z1:D8 zV=true:=by simp[D8,zV,noS,GV.kind,GV.b,GV.n,GV.s,GV.list,GV.obj]
 have z2:noS ⟨#[]⟩=true:=by simp[noS]
 unfold Cq
 simp only[QC,GM.kind,GM.key,GM.to,GM.n,GM.had,GM.was,GM.has,GM.value,GM.list,z1,z2,Bool.true_and,A1N,Bool.not_false,A0t,Bt (.mk ..),A0G] at k1 k2 k3 k4 k6 k7|-
 rw[A4] at h1 h2
 simp only[A4 w,A4 v,A0c,A0m,A0b,mutD,zT] at k1 k2 k3 k4 k6 k7|-
 generalize D8 w=zw at*
 generalize D8 v=zv at*
 generalize noS t=nt at*
 generalize((l.length:Int)==0)=ll at*
 refine Zf [0] func63 rfl ntmps63 results63 ?_
 (have z:=trivial;(try push_cast)<;>repeat' (first|apply Zi<;>intro _|refine Zc h1 ?_|refine Zc h2 ?_|refine Zc k1 ?_|refine Zc k2 ?_|refine Zc k3 ?_|refine Zc k4 ?_|refine Zc k6 ?_|refine Zc k7 ?_|exact Zp|with_reducible apply Za)<;>try push_cast)
 all_goals(clear h1 h2 k1 k2 k3 k4 k6 k7;simp_all)
end Go.Ab
