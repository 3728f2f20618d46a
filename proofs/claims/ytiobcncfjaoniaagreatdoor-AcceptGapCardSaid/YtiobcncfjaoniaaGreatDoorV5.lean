/- The layer by which the program is walked, and what its functions do: part 6 of 15. -/
import Derived.Test.YtiobcncfjaoniaaGreatDoorV4
import Derived.Lib.Overlaps
import Derived.Lib.Bytealg
set_option maxHeartbeats 4000000
set_option maxRecDepth 20000
set_option linter.unusedVariables false
set_option linter.unusedSimpArgs false
set_option linter.unnecessarySimpa false
namespace Go.Ab
open Go.RowKit
def Xz(P:Program)(f:FuncId):Prop:=
 ∀(w:World) (a b:Addr) (la ca lb cb:Nat) (tA tB:TypeId) (kA kB:Nat),a.block≠b.block->w.shape? a.block=some (tA,kA)->w.frozen? a=false->w.frozen? {block:=a.block,off:=kA}=false->w.shape? b.block=some (tB,kB)->kB≠0->
  (callFunc f #[.slice (some a) la ca,.slice (some b) lb cb]).run P w=.ok (.value (.bool false)) w
theorem Xz.of{P:Program}{k:FuncId}{fn:Func}{tS tR e:TypeId}{size:Nat}(hf:P.funcs[k]? =some fn)(hn:(fn.name== "runtime.NumGoroutine")=false)(hb:fn.body.isNone=true)(h1:Extern.findNext fn=none)
  (h2:Extern.find fn=some (Extern.SlicesOverlaps.overlaps #[tS,tS] #[tR])) (ht:P.underlying tS=some (.slice e)) (hz:∀ w,(Go.sizeOf e).run P w=.ok size w):Xz P k:=by
 intro w a b la ca lb cb tA tB kA kB hne h3 h4 h5 h6 h7
 have g1:=Lib.run_overlaps_apart w tS tR e ht size hz a b la ca lb cb hne tA tB kA kB h3 h6 h7 h4 h5
 have hn':fn.name≠ "runtime.NumGoroutine":=by simpa using hn
 have hb':fn.body=none:=by simpa using hb
 simp[callFunc,hf,hn',hb',h1,h2,g1,Result.andThen]
theorem S5{P:Program}{id:Nat}{ev:Operand->D}{hp:Nat->Option Blk}{dst:Option Tmp}{T:TypeId}{pos:String}{af:Array Edge}{gd:Option (Nat×Bool)}{f:FuncId}{x y:Operand}{ts:Array TypeId}{b1 i1 l1 c1 s1 b2 i2 l2 c2 s2 z1 z2:Nat}{es1 es2:List (List D)}
  (hc:Xz P f) (hx:ev x=.sref b1 i1 l1 c1 s1) (hy:ev y=.sref b2 i2 l2 c2 s2) (h1:hp b1=some (.rows es1 z1)) (h2:hp b2=some (.rows es2 z2)) (hne:b1≠b2) (h0:0<es2.length*z2):
  AB P ⟨dst,.call {callee:=.value (.func f),args:=#[x,y],argTypes:=ts},T,pos,af,gd⟩ id ev hp ⟨.val (.bool false),[],[b1,b2]⟩:=by
 refine AB.quiet fun w0 M0 I0 fr I mu hh a w hw hxs hb=>⟨.bool false,?_,.val _ trivial⟩
 have rx:=hxs x (by simp[Op.operands,Call.operands])
 have ry:=hxs y (by simp[Op.operands,Call.operands])
 rw[hx] at rx
 rw[hy] at ry
 have hb1:=(hb b1 (by simp)).trans h1
 have hb2:=(hb b2 (by simp)).trans h2
 obtain⟨k1,T1,us1,m1,g1,q1,_,_⟩:=hw.blk b1 _ hb1
 obtain⟨k2,T2,us2,m2,g2,q2,_,_⟩:=hw.blk b2 _ hb2
 have hk:k1≠k2:=fun e=>hne (hw.inj b1 b2 _ _ _ _ k1 hb1 hb2 m1 m2 rfl (by rw[e];rfl))
 generalize hvx:a.eval x=vx at rx
 generalize hvy:a.eval y=vy at ry
 cases rx with
 |sref _ _ _ _ _ j1 n1=>
 cases ry with
 |sref _ _ _ _ _ j2 n2=>
 rw[m1] at n1
 rw[m2] at n2
 simp only[A03,A0K,A15,and_true] at n1 n2
 subst n1 n2
 have hr:=hc w ⟨k1,i1*s1,none⟩ ⟨k2,i2*s2,none⟩ l1 c1 l2 c2 T1 T2 us1.length us2.length hk (by simp[World.shape?,g1]) (by simp[World.frozen?,g1]) (by simp[World.frozen?,g1]) (by simp[World.shape?,g2]) (by omega)
 simp only[execOp,resolve,Act.eval,Deferred.ofValue,A0e,A0k,Result.andThen,invoke]
 have e2:#[]++(#[x,y]:Array Operand).map a.eval++ #[]=#[.slice (some ⟨k1,i1*s1,none⟩) l1 c1,.slice (some ⟨k2,i2*s2,none⟩) l2 c2]:=by
  apply Array.ext';simp[hvx,hvy]
 exact(congrArg (fun z=>(callFunc f z).run P w) e2).trans hr
noncomputable section
section
variable{P:Program}{ops:Array Oper}{nx:Nat}{dst:Option Tmp}{T:TypeId}{ps:String}{af:Array Edge}{gd:Option (Nat×Bool)}{f:FuncId}{x y:Operand}{ts:Array TypeId}{l:List Oper}{pos:Nat}{acc:List Eff}{s:St}{K:List Eff->St->Prop}{b1 i1 l1 c1 s1 b2 i2 l2 c2 s2 z1 z2:Nat}{es1 es2:List (List D)}
theorem A1.ovl(hc:Xz P f)(hg:gd=none∨∃ j want t,gd=some (j,want)/\AR ops j=some t/\gOf (s.env.get t) want=some true)(hx:evO P s.env.get x=.sref b1 i1 l1 c1 s1)(hy:evO P s.env.get y=.sref b2 i2 l2 c2 s2)(h1:Ac s.hp b1=some (.rows es1 z1))(h2:Ac s.hp b2=some (.rows es2 z2))(hne:b1≠b2)(h0:0<es2.length*z2)
  (hk:GoS P ops nx l (pos+1) (⟨.val (.bool false),[],[b1,b2]⟩::acc) (s.app dst ⟨.val (.bool false),[],[b1,b2]⟩) K):A1 P ops nx (⟨dst,.call {callee:=.value (.func f),args:=#[x,y],argTypes:=ts},T,ps,af,gd⟩::l) pos acc s K:=by
 rw[BY] at hk;rw[Ba]
 unfold Bs
 refine .inl ⟨_,?_,by have:=Go.run hk;unfold Bs at this;exact this⟩
 rcases hg with rfl|⟨j,want,t,rfl,ht,hg⟩
 ·exact B9.plain rfl (S5 hc hx hy h1 h2 hne h0)
 ·exact B9.guard_true rfl ht hg (S5 hc hx hy h1 h2 hne h0)
end
end
end Go.Ab
namespace Go.Ab
open Go.RowKit
open Go.ChangeMaps (setBlock)
section
variable{w0:World}{M0:Nat->Prop}{I0:Gh}{fr I:Nat->Prop}{mu:Nat->Option Value}{hp:Nat->Option Blk}{w:World}
theorem Ao.drew(h:Ao w0 M0 I0 fr I mu hp w):Ao w0 M0 I0 fr I mu hp w.drew:=
 ⟨fun b x hb=>(h.blk b x hb).mono (fun _ _=>rfl) (fun _ h=>h) (fun _ _ h=>h) (fun _ _ _ _=>rfl),h.loc,h.inj,h.fresh,h.lt,h.os,h.tape,h.output,h.grown,h.old,h.iold,h.inew,h.keep,h.used⟩
theorem Ao.setObj(h:Ao w0 M0 I0 fr I mu hp w){b k:Nat}{x0 x:Blk}(hb:hp b=some x0)(hm:mu b=some (.pointer (some ⟨k,0,none⟩)))(o:Obj)(hx:(setBlock w k o).heap[k]? =some o->(∀ j,j≠k->(setBlock w k o).heap[j]? =w.heap[j]?)->D6 (setBlock w k o) I mu b x):
  Ao w0 M0 I0 fr I mu (fun c=>AO c (hp c) [(b,some x)]) (setBlock w k o)/\Ext I mu w I mu (setBlock w k o):=by
 obtain⟨hk1,hk2,hk3⟩:=h.loc b x0 _ k hb hm rfl
 have hoth:∀ j,j≠k->(setBlock w k o).heap[j]? =w.heap[j]?:=fun j hj=>by
  simp[setBlock,Array.getElem?_setIfInBounds,Ne.symm hj]
 have hself:(setBlock w k o).heap[k]? =some o:=by simp[setBlock,hk3]
 have hsz:(setBlock w k o).heap.size=w.heap.size:=by simp[setBlock]
 have hI:∀ j,I j->(setBlock w k o).heap[j]? =w.heap[j]?:=fun j hj=>hoth j (by rintro rfl;exact hk2 hj)
 have hup:∀ c,AO c (hp c) [(b,some x)]=if c=b then some x else hp c:=by
  intro c;simp only[AO,A0t,A11];by_cases hc:c=b
  ·subst hc;simp
  ·have:¬b=c:=fun h=>hc h.symm
   simp[hc,this]
 refine⟨⟨fun c y hy=>?_,fun c y v j hy hv hj=>?_,fun c d y z v u j hy hz hv hu hj hj'=>?_,h.fresh,fun j hj=>by rw[hsz];exact h.lt j hj,h.os,h.tape,h.output,by rw[hsz];exact h.grown,fun j hj hn=>?_,h.iold,h.inew,h.keep,fun c y hy hf=>?_⟩,fun _ h=>h,fun _ _ h=>h,hI⟩
 ·rw[hup] at hy
  by_cases hc:c=b
  ·rw[if_pos hc] at hy;cases hy;subst hc;exact hx hself hoth
  ·rw[if_neg hc] at hy
   refine(h.blk c y hy).mono hI (fun _ h=>h) (fun _ _ h=>h) fun v j hv hj=>hoth j ?_
   rintro rfl
   exact hc (h.inj c b y x0 v _ j hy hb hv hm hj rfl)
 ·rw[hup] at hy
  rw[hsz]
  by_cases hc:c=b
  ·subst hc;exact h.loc c x0 v j hb hv hj
  ·rw[if_neg hc] at hy;exact h.loc c y v j hy hv hj
 ·rw[hup] at hy hz
  have g:∀ c y,(if c=b then some x else hp c)=some y->∃ y',hp c=some y':=fun c y hy=>by
   by_cases hc:c=b
   ·subst hc;exact⟨_,hb⟩
   ·rw[if_neg hc] at hy;exact⟨_,hy⟩
  obtain⟨y',hy'⟩:=g c y hy
  obtain⟨z',hz'⟩:=g d z hz
  exact h.inj c d y' z' v u j hy' hz' hv hu hj hj'
 ·rw[hoth j ?_]
  ·exact h.old j hj hn
  ·rintro rfl
   rcases hk1 with h1|h1
   ·exact hn h1
   ·omega
 ·rw[hup] at hy
  by_cases hc:c=b
  ·subst hc;exact h.used c x0 hb hf
  ·rw[if_neg hc] at hy;exact h.used c y hy hf
end
section
variable{P:Program}{ops:Array Oper}{nx:Nat}{dst:Option Tmp}{T:TypeId}{ps:String}{af:Array Edge}{x:Operand}{l:List Oper}{pos:Nat}{acc:List Eff}{s:St}{K:List Eff->St->Prop}
def nextF(b m:Nat)(es:List (Value×Nat×D))(ck:Nat)(seen:List Nat)(e:Eff):Prop:=
 ((∀ y ∈ es,y.2.1 ∈ seen)/\e=⟨.tup [.val (.bool false)],[],[]⟩)∨∃ y ∈ es,y.2.1 ∉ seen/\e=⟨.tup [.val (.bool true),.any,.any],[(b,some (.iter m ck (seen++[y.2.1]) ck))],[]⟩
theorem YP(b m:Nat)(es:List (Value×Nat×D))(ck:Nat)(seen:List Nat):∃ e,nextF b m es ck seen e:=by
 by_cases h:∀ y ∈ es,y.2.1 ∈ seen
 ·exact⟨_,.inl ⟨h,rfl⟩⟩
 ·have:∃ y ∈ es,y.2.1 ∉ seen:=Classical.byContradiction fun hn=>h fun y hy=>Classical.byContradiction fun hs=>hn ⟨y,hy,hs⟩
  obtain⟨y,h1,h2⟩:=this
  exact⟨_,.inr ⟨y,h1,h2,rfl⟩⟩
theorem WU{id b m:Nat}{ev:Operand->D}{hp:Nat->Option Blk}{es:List (Value×Nat×D)}{ck:Nat}{seen:List Nat}(hx:ev x=.ref b 0 0 1)(hb:hp b=some (.iter m ck seen ck))(hm:hp m=some (.map es ck))(hlt:∀ y ∈ es,y.2.1<ck):
  SG P ⟨dst,.next x false,T,ps,af,none⟩ id ev hp [b,m] (nextF b m es ck seen):=by
 intro w0 M0 I0 fr I mu h a w hga hw hid hxs hrd K Q hK
 have hxr:=hxs x (by simp[Op.operands])
 rw[hx] at hxr
 obtain⟨k,km,h1,h2,h3⟩:=hw.blk b _ ((hrd b (by simp)).trans hb)
 obtain⟨km',l,g1,g2,g3,g4,g5⟩:=hw.blk m _ ((hrd m (by simp)).trans hm)
 rw[h2] at g1
 simp only[A03,A1N] at g1
 subst g1
 generalize he:a.eval x=v at hxr
 cases hxr with
 |ref _ _ _ _ k' hk=>
 rw[h1] at hk
 simp only[A03,A0K,A15,and_true] at hk
 subst hk
 have hborn:∀ e ∈ l,∃ y ∈ es,y.2.1=e.born:=fun e hel=>by
  have:e.born ∈ es.map (·.2.1):=by rw[<-g4];exact A0i.2 ⟨e,hel,rfl⟩
  obtain⟨y,hy,h⟩:=A0i.1 this
  exact⟨y,hy,h⟩
 have hold:∀ e ∈ l.toArray.toList,e.born<ck:=fun e hel=>by
  obtain⟨y,hy,h⟩:=hborn e hel
  rw[<-h];exact hlt y hy
 have hex:∀ r w',(Instr.next (.pointer (some ⟨k,0*1+0,none⟩)) false T).run P w=.ok r w'->(execOp a.eval ⟨dst,.next x false,T,ps,af,none⟩).run P w=.ok (.value r) w':=by
  intro r w' h
  simp only[execOp,he,A0e]
  simp only[Nat.zero_mul,A19] at h|-
  simp only[Sem.run_map,A0e,A0k,h,Result.andThen]
 rcases run_next_at (P:=P) w T k km ck ck seen.toArray l.toArray ck h3 g2 hold (A08 _) with⟨h0,hrun⟩|⟨e,hel,w1,hal,hrun⟩
 ·have hseen:∀ y ∈ es,y.2.1 ∈ seen:=fun y hy=>by
   have:y.2.1 ∈ l.map (·.born):=by rw[g4];exact A0i.2 ⟨y,hy,rfl⟩
   obtain⟨e,hel,h⟩:=A0i.1 this
   have:=all_seen l.toArray seen.toArray h0 e (by simpa using hel)
   rw[<-h];simpa using this
  refine Cz (hex _ _ hrun) (hK _ (.inl ⟨hseen,rfl⟩) _ w I mu (Ext.refl _ _ _) (hw.less fun b hb=>hb.1) ?_)
  refine .tup _ [.bool false] rfl fun i hi=>?_
  match i,hi with
  |0,_=>exact .val _ trivial
 ·have hmem:=mem_left hel
  obtain⟨hel',hns⟩:=hmem
  obtain⟨y,hy,hyb⟩:=hborn e (by simpa using hel')
  have hw1:Ao w0 M0 I0 fr I mu h w1:=by rcases hal with rfl|rfl;exact hw;exact hw.drew
  have hx1:Ext I mu w I mu w1:=by rcases hal with rfl|rfl<;>exact ⟨fun _ h=>h,fun _ _ h=>h,fun _ _=>rfl⟩
  obtain⟨q1,q2⟩:=hw1.setObj (x:=.iter m ck (seen++[y.2.1]) ck) ((hrd b (by simp)).trans hb) h1 (.mapIter (some km) ck (seen.toArray.push e.born) ck) fun hs _=>⟨k,km,h1,h2,by rw[hs,hyb];simp⟩
  refine Cz (hex _ _ hrun) (hK _ (.inr ⟨y,hy,by rw[hyb];simpa using hns,rfl⟩) _ _ I mu ⟨q2.i,q2.m,fun j hj=>(q2.w j hj).trans (hx1.w j hj)⟩ (q1.less fun b hb=>hb.1) ?_)
  refine .tup _ [.bool true,e.key,e.val] rfl fun i hi=>?_
  match i,hi with
  |0,_=>exact .val _ trivial
  |1,_=>exact .any _
  |2,_=>exact .any _
theorem A1.next(b m:Nat){es:List (Value×Nat×D)}{ck:Nat}{seen:List Nat}(hx:evO P s.env.get x=.ref b 0 0 1)(hb:Ac s.hp b=some (.iter m ck seen ck))(hm:Ac s.hp m=some (.map es ck))(hlt:∀ y ∈ es,y.2.1<ck)
  (h0:(∀ y ∈ es,y.2.1 ∈ seen)->GoS P ops nx l (pos+1) (bad::acc) (s.app dst ⟨.tup [.val (.bool false)],[],[]⟩) K)
  (h1:∀ y ∈ es,y.2.1 ∉ seen->GoS P ops nx l (pos+1) (bad::acc) (s.app dst ⟨.tup [.val (.bool true),.any,.any],[(b,some (.iter m ck (seen++[y.2.1]) ck))],[]⟩) K):A1 P ops nx (⟨dst,.next x false,T,ps,af,none⟩::l) pos acc s K:=
 A1.many _ _ (YP b m es ck seen) (WU hx hb hm hlt) fun e he=>by
  rcases he with⟨h,rfl⟩|⟨y,hy,hn,rfl⟩
  ·exact h0 h
  ·exact h1 y hy hn
end
end Go.Ab
namespace Go.Ab
open Go.RowKit
def EK(P:Program)(f:FuncId)(ds:List D)(r:D):Prop:=
 Bf P f=true/\∀ (w:World) (I:Nat->Prop) (vs:List Value),GIn P w I->(∀ k,I k->k<w.heap.size)->vs.length=ds.length->(∀ i,i<ds.length->Rep w I (fun _=>none) (nd ds i) (nv vs i))->
  Calls P f vs.toArray w fun e w'=>∃ v I',e=.panicked [{v,recovered:=false}]/\Rep w' I' (fun _=>none) r v/\(∀ k,I k->I' k)/\(∀ k,I' k->I k∨w.heap.size<=k)/\(∀ k,I' k->k<w'.heap.size)/\Below w.heap.size w w'
section
variable{P:Program}{ops:Array Oper}{nx:Nat}{dst:Option Tmp}{T:TypeId}{ps:String}{af:Array Edge}{x:Operand}{l:List Oper}{pos:Nat}{acc:List Eff}{s:St}{K:List Eff->St->Prop}
theorem A1.panic0{o:Oper}{d:D}(h:SoundP P ops o s.fs d)(hk:K [] ⟨(Bg,d)::s.env,s.hp,s.nx⟩):A1 P ops nx (o::l) pos acc s K:=by
 rw[Ba]
 unfold Bs
 exact .inr (.inr ⟨d,h,_,rfl,hk⟩)
theorem A1.panicOp{t:TypeId}{d:D}(hx:evO P s.env.get x=.iface t d)(hk:K [] ⟨(Bg,.iface t d)::s.env,s.hp,s.nx⟩):A1 P ops nx (⟨dst,.panic x,T,ps,af,none⟩::l) pos acc s K:=by
 refine A1.panic0 (d:=.iface t d) ?_ hk
 intro w0 M0 I0 nt fr I mu a w hga r K Q hQ
 refine⟨by simp[Region.wanted],fun f _=>I0.fn f,?_⟩
 have hxr:Rep w I mu (evO P s.env.get x) (a.eval x):=Dm (hga.at r.w) r.env x
 rw[hx] at hxr
 generalize he:a.eval x=v at hxr
 have hxr':=hxr
 cases hxr with
 |iface _ _ u h=>
 have hrun:(execOp a.eval ⟨dst,.panic x,T,ps,af,none⟩).run P w=.halt (.panic (.iface t u)) w:=by
  have hp:(Instr.panic (.iface t u)).run P w=.halt (.panic (.iface t u)) w:=rfl
  simp only[execOp,he,A0e,hp,Result.andThen]
 rw[Oper.semAt_eq _ _ _ (by intro c hc;cases hc),hrun]
 exact hQ _ w I r hxr'
theorem A1.pan{f:FuncId}{args:Array Operand}{ts:Array TypeId}{ds:List D}{r:D}(hc:EK P f ds r)(ha:args.toList.map (evO P s.env.get)=ds)(hpu:Af ds=true)(hrp:r.pure=true)(hk:K [] ⟨(Bg,r)::s.env,s.hp,s.nx⟩):
  A1 P ops nx (⟨dst,.call {callee:=.value (.func f),args:=args,argTypes:=ts},T,ps,af,none⟩::l) pos acc s K:=by
 refine A1.panic0 (d:=r) ?_ hk
 intro w0 M0 I0 nt fr I mu a w hga rr K Q hQ
 refine⟨by simp[Region.wanted],?_⟩
 subst ha
 have hargs:∀ i,i<(args.toList.map (evO P s.env.get)).length->Rep w I (fun _=>none) (nd (args.toList.map (evO P s.env.get)) i) (nv (args.toList.map a.eval) i):=by
  intro i hi
  simp only[A07,A0Q] at hi
  have h1:nd (args.toList.map (evO P s.env.get)) i=evO P s.env.get args[i]:=by simp[nd,A02,hi]
  have h2:nv (args.toList.map a.eval) i=a.eval args[i]:=by simp[nv,A02,hi]
  have h3:Rep w I mu (evO P s.env.get args[i]) (a.eval args[i]):=Dm (hga.at rr.w) rr.env _
  have h4:=CU hpu i
  rw[h1] at h4
  rw[h1,h2]
  exact h3.unmu h4
 have hcall:=hc.2 w I (args.toList.map a.eval) (hga.at rr.w) rr.w.lt (by simp) hargs
 have hrun:(execOp a.eval ⟨dst,.call {callee:=.value (.func f),args:=args,argTypes:=ts},T,ps,af,none⟩).run P w=.ok (.enter f (args.toList.map a.eval).toArray) w:=by
  have e1:args.map a.eval=(args.toList.map a.eval).toArray:=by apply Array.ext';simp
  simp only[execOp,resolve,Act.eval,Deferred.ofValue,A0e,A0k,Result.andThen,invoke]
  have e2:#[]++args.map a.eval++ #[]=(args.toList.map a.eval).toArray:=by rw[e1];simp
  exact(congrArg (fun z=>(callFunc f z).run P w) e2).trans (AX hc.1 _ w)
 refine C2 hrun ?_
 refine hcall.mono fun e w' ⟨v,I',he,hv,h1,h2,h3,h4⟩=>?_
 subst he
 have g1:=rr.w.below h1 h2 h3 h4
 have g2:Ext I mu w I' mu w':=⟨h1,fun _ _ h=>h,fun k hk=>h4.block k (rr.w.lt k hk)⟩
 exact hQ v w' I' ⟨rr.size,rr.defers.ext g2,fun t=>(rr.env t).ext g2,g1⟩ (hv.unmu hrp)
end
def RetPan(r:D):AE->St->Prop
 |.panic d,_=>lo d r/\r.pure=true
 |_,_=>False
theorem EK.of_awp{P:Program}{nt:Nat}{f:FuncId}{fn:Func}{c:Code}{ds:List D}{r:D}(hf:P.funcs[f]? =some fn)(hb:fn.body=some c)(hn:fn.ntmps=nt)(hent:Bf P f=true)(hlen:ds.length<=nt)
  (h:AWp P nt c (RetPan r) ⟨Bh 0 ds,[],0⟩):EK P f ds r:=by
 refine⟨hent,fun w I vs hgi hI hl hrep=>?_⟩
 let G:Gh:=⟨I,fun _=>none,[],Fence.wide,0,.inl rfl⟩
 refine callsIn_wide.1 (callsIn_of_wp_marks (n:=0) hf hb trivial (wpIn_mono (h w (fun _=>False) G (fun g l hl=>⟨(hgi g l hl).1,hI g (hgi g l hl).1,fun h=>h,(hgi g l hl).2⟩) I (fun _=>none) _ w ⟨?_,BF.refl _ _ _ _,fun t=>F1 ⟨hl,hrep⟩ _ t,⟨fun b x hx=>by simp[St.fs,Ac] at hx,fun b x v k hx=>by simp[St.fs,Ac] at hx,fun b c x y v u k hx=>by simp[St.fs,Ac] at hx,fun _ _=>rfl,hI,rfl,rfl,rfl,A08 _,fun _ _ _=>rfl,fun _ h=>h,fun _ h=>.inl h,fun b x _ h=>(by cases h),fun b x hx=>by simp[St.fs,Ac] at hx⟩⟩) ?_))
 ·simp[hl,hn];omega
 ·rintro e a' w' ⟨x,s',I',mu',hq,he,r'⟩
  cases x<;>cases e<;>simp only[Fr] at he<;>simp only[RetPan] at hq
  obtain⟨v,rfl,hv⟩:=he
  obtain⟨hlo,hpu⟩:=hq
  obtain⟨rs,_,d1,d2,d3⟩:=r'.defers
  obtain⟨w1,w2⟩:=r'.w.shut hI d3
  show LeavesInM _ _ _ _ _ _ a'.defers _ _
  rw[d1]
  refine FI (by simp) rs w' d2 (fun r hr=>(d3 r hr).2.2) ?_
  exact⟨v,_,rfl,((w2 _ _ hv).lo hlo).unmu hpu,w1.iold,fun k hk=>by rcases w1.inew k hk with h3|h3|h3;exact .inl h3;exact h3.elim;exact .inr h3,w1.lt,⟨w1.os,w1.tape,w1.output,w1.grown,fun k hk=>w1.old k hk (fun h=>h)⟩⟩
attribute [irreducible] EK
end Go.Ab
namespace Go.Ab
open Go.Proofs Go.Proofs.Tryz Go.RowKit
def Z4(R:St->Prop)(Q:AE->St->Prop):AE->St->Prop
 |.normal,s=>R s
 |e,s=>Q e s
theorem AWp.loopI{P:Program}{nt:Nat}{c:Code}{Q:AE->St->Prop}{s:St}{ι:Type}(hm:P.follows .mixedOrders=true)(hc:Cv nt c=true)(Inv:ι->Prop)(S:ι->St)(m:ι->Nat)(i0:ι)(hi:Inv i0)(h0:Aw s (S i0))
  (round:∀ i,Inv i->VCS P nt [] c (Z4 (fun s'=>∃ j,Inv j/\m j<m i/\Aw s' (S j)) Q) (S i)):AWp P nt (.loop c) Q s:=by
 refine AWp.loop (ι:= {i//Inv i}) (fun i=>S i.1) (fun i=>m i.1) ⟨i0,hi⟩ h0 fun i=>AWp.mono (VC.sound hm hc (round i.1 i.2)) fun e s' h=>?_
 cases e with
 |normal=>obtain ⟨j,h1,h2,h3⟩:=h;exact⟨⟨j,h1⟩,h2,h3⟩
 |_=>exact h
theorem Ks{ops:Array Oper}{E:List Eff}{sk:List (List Nat×List Nat)}(h:Fb E=sk)(k:Dp ops sk=true):Rr ops E:=by rw[Rr,h];exact k
attribute [push_cast] Z4 Fe BN HL Gu Ck JV
def sm(a b:List D):Prop:=a=b
@[congr] theorem sm_congr{a a' b:List D}(h:G9 a=a'):sm a b=sm a' b:=by rw[<-h];rfl
theorem Pm(a:List D):sm a a:=rfl
theorem Za{a b:Prop}(h:a)(k:b):a/\b:=⟨h,k⟩
theorem Zi{b:Bool}{x y:Prop}(h:b=true->x)(k:b=false->y):E3 b x y:=Al h k
section
variable{P:Program}{ops:Array Oper}{nx:Nat}{dst:Option Tmp}{T:TypeId}{ps:String}{af:Array Edge}{gd:Option (Nat×Bool)}{f:FuncId}{x:Operand}{args:Array Operand}{ts:Array TypeId}{fs cs ds:List D}{d r:D}{H H':Hp}{l:List Oper}{pos:Nat}{acc:List Eff}{s:St}{K:List Eff->St->Prop}
theorem Zc(hc:A0 P f ds r)(hk:GoS P ops nx l (pos+1) (⟨r,[],[]⟩::acc) (s.app dst ⟨r,[],[]⟩) K)(ha:sm (args.toList.map (evO P s.env.get)) ds:=by (try push_cast(config:= {maxSteps:=9999999}) [z]);exact Pm _)(hg:gd=none∨∃ j want t,gd=some (j,want)/\AR ops j=some t/\gOf (s.env.get t) want=some true:=by first|exact .inl rfl|exact .inr ⟨_,_,_,rfl,rfl,rfl⟩)
  (hpu:Af ds=true:=by first|rfl|push_cast (config:= {maxSteps:=9999999}) [z]):A1 P ops nx (⟨dst,.call {callee:=.value (.func f),args:=args,argTypes:=ts},T,ps,af,gd⟩::l) pos acc s K:=A1.call hc hg ha hpu hk
theorem Zv(hc:A0 P f ds r)(hk:GoS P ops nx l (pos+1) (⟨r,[],[]⟩::acc) (s.app dst ⟨r,[],[]⟩) K)(hx:evO P s.env.get x=.func (.func f) fs cs:=by rfl)(ha:sm (fs++args.toList.map (evO P s.env.get)++cs) ds:=by (try push_cast(config:= {maxSteps:=9999999}) [z]);exact Pm _)(hg:gd=none∨∃ j want t,gd=some (j,want)/\AR ops j=some t/\gOf (s.env.get t) want=some true:=by first|exact .inl rfl|exact .inr ⟨_,_,_,rfl,rfl,rfl⟩)
  (hpu:Af ds=true:=by first|rfl|push_cast (config:= {maxSteps:=9999999}) [z]):A1 P ops nx (⟨dst,.call {callee:=.value x,args:=args,argTypes:=ts},T,ps,af,gd⟩::l) pos acc s K:=A1.callV hx hc hg ha hpu hk
theorem Zs(rl:List (Nat×Nat))(hc:A2 P f ds H d H')(hk:GoS P ops nx l (pos+1) (C9 (2*(nx+4*pos)) (BG rl) H d H'::acc) (s.app dst (C9 (2*(nx+4*pos)) (BG rl) H d H')) K)(ha:args.toList.map (evO P s.env.get)=BX (BG rl) ds:=by push_cast(config:= {maxSteps:=9999999}) [z]<;>with_unfolding_all exact A9 _)(hg:gd=none∨∃ j want t,gd=some (j,want)/\AR ops j=some t/\gOf (s.env.get t) want=some true:=by first|exact .inl rfl|exact .inr ⟨_,_,_,rfl,rfl,rfl⟩)
  (hl:ltL 4 ds=true:=by push_cast(config:= {maxSteps:=9999999}) [z]<;>with_unfolding_all exact A9 _) (hh:B3 (BG rl) (Ac s.hp) H:=by push_cast(config:= {maxSteps:=9999999}) [z]<;>with_unfolding_all exact A9 _) (hok:CP (2*(nx+4*pos)) (BG rl) H H'=true:=by push_cast(config:= {maxSteps:=9999999}) [z]<;>with_unfolding_all exact A9 _):A1 P ops nx (⟨dst,.call {callee:=.value (.func f),args:=args,argTypes:=ts},T,ps,af,gd⟩::l) pos acc s K:=A1.scall (BG rl) hc hg ha hl hh hok hk
theorem Zt(rl:List (Nat×Nat))(hc:A2 P f ds H d H')(hk:GoS P ops nx l (pos+1) (C9 (2*(nx+4*pos)) (BG rl) H d H'::acc) (s.app dst (C9 (2*(nx+4*pos)) (BG rl) H d H')) K)(hx:evO P s.env.get x=.func (.func f) fs cs:=by rfl)(ha:fs++args.toList.map (evO P s.env.get)++cs=BX (BG rl) ds:=by push_cast(config:= {maxSteps:=9999999}) [z]<;>with_unfolding_all exact A9 _)(hg:gd=none∨∃ j want t,gd=some (j,want)/\AR ops j=some t/\gOf (s.env.get t) want=some true:=by first|exact .inl rfl|exact .inr ⟨_,_,_,rfl,rfl,rfl⟩)
  (hl:ltL 4 ds=true:=by push_cast(config:= {maxSteps:=9999999}) [z]<;>with_unfolding_all exact A9 _) (hh:B3 (BG rl) (Ac s.hp) H:=by push_cast(config:= {maxSteps:=9999999}) [z]<;>with_unfolding_all exact A9 _) (hok:CP (2*(nx+4*pos)) (BG rl) H H'=true:=by push_cast(config:= {maxSteps:=9999999}) [z]<;>with_unfolding_all exact A9 _):A1 P ops nx (⟨dst,.call {callee:=.value x,args:=args,argTypes:=ts},T,ps,af,gd⟩::l) pos acc s K:=A1.scallV (BG rl) hx hc hg ha hl hh hok hk
theorem Zq{bs:List Nat}(hc:A0 P f ds r)(ho:EI (Ac s.hp) (args.toList.map (evO P s.env.get)))(hk:GoS P ops nx l (pos+1) (⟨r,[],bs⟩::acc) (s.app dst ⟨r,[],bs⟩) K)(hbs:Ec (args.toList.map (evO P s.env.get))=bs:=by (try push_cast(config:= {maxSteps:=9999999}) [z]);rfl)(ha:sm ((args.toList.map (evO P s.env.get)).map (F7 (Ac s.hp))) ds:=by (try push_cast(config:= {maxSteps:=9999999}) [z]);exact Pm _)(hg:gd=none∨∃ j want t,gd=some (j,want)/\AR ops j=some t/\gOf (s.env.get t) want=some true:=by first|exact .inl rfl|exact .inr ⟨_,_,_,rfl,rfl,rfl⟩)
  (hpu:Af ds=true:=by push_cast(config:= {maxSteps:=9999999}) [z]) (hf:Dy r=true:=by push_cast(config:= {maxSteps:=9999999}) [z]):A1 P ops nx (⟨dst,.call {callee:=.value (.func f),args:=args,argTypes:=ts},T,ps,af,gd⟩::l) pos acc s K:=A1.borrow hbs hc hg ha ho hpu hf hk
theorem Zg{bs:List Nat}(hc:A0 P f ds r)(ho:EI (Ac s.hp) (args.toList.map (evO P s.env.get)))(hk:GoS P ops nx l (pos+1) (⟨r,bs.map fun c=>(c,none),bs⟩::acc) (s.app dst ⟨r,bs.map fun c=>(c,none),bs⟩) K)(hbs:Ec (args.toList.map (evO P s.env.get))=bs:=by (try push_cast(config:= {maxSteps:=9999999}) [z]);rfl)(ha:sm ((args.toList.map (evO P s.env.get)).map (F7 (Ac s.hp))) ds:=by (try push_cast(config:= {maxSteps:=9999999}) [z]);exact Pm _)(hg:gd=none∨∃ j want t,gd=some (j,want)/\AR ops j=some t/\gOf (s.env.get t) want=some true:=by first|exact .inl rfl|exact .inr ⟨_,_,_,rfl,rfl,rfl⟩)
  (hpu:Af ds=true:=by push_cast(config:= {maxSteps:=9999999}) [z]):A1 P ops nx (⟨dst,.call {callee:=.value (.func f),args:=args,argTypes:=ts},T,ps,af,gd⟩::l) pos acc s K:=A1.give hbs hc hg ha ho hpu hk
end
theorem Zo{ops:Array Oper}{E:List Eff}{sk:List (List Nat×List Nat)}(h:Fb E=sk:=by push_cast(config:= {maxSteps:=9999999}) [Fb,z];rfl)(k:Dp ops sk=true:=by kernel_rfl):Rr ops E:=Ks h k
theorem Zp{ops:Array Oper}{E:List Eff}{sk:List (List Nat×List Nat)}(h:Fb E=sk:=by push_cast(config:= {maxSteps:=9999999}) [Fb];rfl)(k:Dp ops sk=true:=by kernel_rfl):Rr ops E:=Ks h k
theorem Zw{s S:St}(he:C3 id s.env S.env)(hh:Kj s.nx id s.hp S.hp)(hok:Ho S.nx S.env=true)(hokh:MM S.nx S.hp=true)(hinj:RD id S.hp=true):Aw s S:=Aw.sub id (fun _ _=>rfl) he hh hok hokh hinj
theorem Zr{s S:St}(rl:List (Nat×Nat))(hr:(rl.all fun p=>p.1%2==0)=true)(he:C3 (BG rl) s.env S.env)(hh:Kj s.nx (BG rl) s.hp S.hp)(hok:Ho S.nx S.env=true)(hokh:MM S.nx S.hp=true)(hinj:RD (BG rl) S.hp=true):Aw s S:=Aw.sub (BG rl) (Rf hr) he hh hok hokh hinj
section
variable{nt:Nat}{f:FuncId}{fn:Func}{c:Code}{ds:List D}{H:Hp}{r:D}{H':Hp}{ra:Array ResultVar}
theorem Zb(fz:List Nat)(hf:prog.funcs[f]? =some fn)(hb:fn.body=some c)(hn:fn.ntmps=nt)(hrs:fn.results=ra)
  (h:(∀ t,szD (Env.get (Bh 0 ds) t))->(∀ b x,Ac H b=some x->szB x)->VCS prog nt fz c (MG prog ra.toList r H') ⟨Bh 0 ds,H,4⟩)
  (hent:Bf prog f=true:=by kernel_rfl) (hlen:ds.length<=nt:=by simp) (hc:Cv nt c=true:=by kernel_rfl):A2 prog f ds H r H':=
 A2.of_awp hf hb hn hent hlen (congrArg Array.toList hrs) (AWp.sz fun h0 h1=>VC.sound mixed hc (h h0 h1))
theorem Zk(fz:List Nat)(hf:prog.funcs[f]? =some fn)(hb:fn.body=some c)(hn:fn.ntmps=nt)(hrs:fn.results=ra)
  (h:(∀ t,szD (Env.get (Bh 0 ds) t))->(∀ b x,Ac [] b=some x->szB x)->VCS prog nt fz c (Uq prog ra.toList r) ⟨Bh 0 ds,[],0⟩)
  (hent:Bf prog f=true:=by kernel_rfl) (hlen:ds.length<=nt:=by simp) (hc:Cv nt c=true:=by kernel_rfl):A0 prog f ds r:=
 A0.of_awp hf hb hn hent hlen (congrArg Array.toList hrs) (AWp.sz fun h0 h1=>VC.sound mixed hc (h h0 h1))
theorem Zd(fz:List Nat)(hf:prog.funcs[f]? =some fn)(hb:fn.body=some c)(hn:fn.ntmps=nt)(hrs:fn.results=ra)
  (h:VCS prog nt fz c (MG prog ra.toList r H') ⟨Bh 0 ds,H,4⟩)
  (hent:Bf prog f=true:=by kernel_rfl) (hlen:ds.length<=nt:=by simp) (hc:Cv nt c=true:=by kernel_rfl):A2 prog f ds H r H':=
 A2.of_awp hf hb hn hent hlen (congrArg Array.toList hrs) (VC.sound mixed hc h)
theorem Zf(fz:List Nat)(hf:prog.funcs[f]? =some fn)(hb:fn.body=some c)(hn:fn.ntmps=nt)(hrs:fn.results=ra)
  (h:VCS prog nt fz c (Uq prog ra.toList r) ⟨Bh 0 ds,[],0⟩)
  (hent:Bf prog f=true:=by kernel_rfl) (hlen:ds.length<=nt:=by simp) (hc:Cv nt c=true:=by kernel_rfl):A0 prog f ds r:=
 A0.of_awp hf hb hn hent hlen (congrArg Array.toList hrs) (VC.sound mixed hc h)
end
theorem Zy{nt:Nat}{c:Code}{Q:AE->St->Prop}{s:St}(h:VCS prog nt [] c Q s)(hc:Cv nt c=true:=by kernel_rfl):AWp prog nt c Q s:=VC.sound mixed hc h
theorem Zl{nt:Nat}{c:Code}{Q:AE->St->Prop}{s:St}(Inv:Nat->Prop)(S:Nat->St)(m:Nat->Nat)(i0:Nat)(hi:Inv i0)(h0:Aw s (S i0))
  (round:∀ i,Inv i->VCS prog nt [] c (Z4 (fun s'=>∃ j,Inv j/\m j<m i/\Aw s' (S j)) Q) (S i)) (hc:Cv nt c=true:=by kernel_rfl):AWp prog nt (.loop c) Q s:=AWp.loopI mixed hc Inv S m i0 hi h0 round
theorem A0.res{P:Program}{f:FuncId}{ds:List D}{r r':D}(h:A0 P f ds r)(hl:Go.Ab.lo r r'):A0 P f ds r':=by
 unfold A0 at h|-
 exact⟨h.1,fun w I vs a b c d=>(h.2 w I vs a b c d).mono fun e w' ⟨v,I',he,hv,x⟩=>⟨v,I',he,hv.lo hl,x⟩⟩
theorem A2.res{P:Program}{f:FuncId}{ds:List D}{H H':Hp}{r r':D}(h:A2 P f ds H r H')(hl:Go.Ab.lo r r'):A2 P f ds H r' H':=by
 unfold A2 at h|-
 exact⟨h.1,fun w M0 G I mu vs a b c d=>(h.2 w M0 G I mu vs a b c d).mono fun e w' ⟨v,I',mu',he,hv,x⟩=>⟨v,I',mu',he,hv.lo hl,x⟩⟩
def bl(a:ByteArray):List UInt8:=a.data.toList
def Co:List UInt8->List UInt8->Int
 |[],[]=>0
 |[],_::_=> -1
 |_::_,[]=>1
 |x::a,y::b=>if x=y then Co a b else if x<y then-1 else 1
def CH(a b:ByteArray):Int:=Co (bl a) (bl b)
theorem Xs(a:ByteArray):(bl a).length=a.size:=rfl
theorem MD{a b:ByteArray}(h:bl a=bl b):a=b:=by
 cases a;cases b;simp only[bl] at h;congr;exact Array.ext' h
theorem XR(a:ByteArray)(i:Nat):BQ a i=(((bl a).getD i 0).toNat:Int):=by simp[BQ,bl]
theorem Aa{n:Int}(h: -9223372036854775808<=n)(k:n<9223372036854775808):IntKind.i64.wrap n=n:=by
 simp only[IntKind.wrap,IntKind.bits,IntKind.signed];simp;omega
theorem J5{α:Type}[BEq α][LawfulBEq α]{a b:α}(h:(a !=b)=false):a=b:=by simpa using h
theorem Et{α:Type}{l:List α}{i:Nat}{d:α}(h:i<l.length):l.drop i=l.getD i d::l.drop (i+1):=by
 rw[List.drop_eq_getElem_cons h,A02,A0b h,A0L]
def FE(a b:Int):Int:=if a<b then-1 else if b<a then 1 else 0
inductive GV where
 |mk (kind:Int) (b:Bool) (n:Int) (s:ByteArray) (list:List GV) (obj:List (ByteArray×GV))
namespace GV
def kind:GV->Int|mk k _ _ _ _ _=>k
def b:GV->Bool|mk _ b _ _ _ _=>b
def n:GV->Int|mk _ _ n _ _ _=>n
def s:GV->ByteArray|mk _ _ _ s _ _=>s
def list:GV->List GV|mk _ _ _ _ l _=>l
def obj:GV->List (ByteArray×GV)|mk _ _ _ _ _ o=>o
theorem list_lt{x v:GV}(h:x ∈ v.list):SizeOf.sizeOf x<SizeOf.sizeOf v:=by
 cases v with
 |mk k b n s l o=>have:=List.sizeOf_lt_of_mem (show x ∈ l from h);simp;omega
theorem obj_lt{x:ByteArray×GV}{v:GV}(h:x ∈ v.obj):SizeOf.sizeOf x.2<SizeOf.sizeOf v:=by
 cases v with
 |mk k b n s l o=>
  have:=List.sizeOf_lt_of_mem (show x ∈ o from h)
  cases x;simp at this|-;omega
end GV
mutual
def A4:GV->List D
 |.mk k b n s l o=>[.val (.int .i64 k),.val (.bool b),.val (.int .i64 n),.val (.string s),.slice (Hw l) false,.slice (Hx o) false]
def Hw:List GV->List (List D)
 |[]=>[]
 |v::l=>A4 v::Hw l
def Hx:List (ByteArray×GV)->List (List D)
 |[]=>[]
 |(k,v)::l=>(.val (.string k)::A4 v)::Hx l
end
theorem NH:∀ l:List GV,Hw l=l.map A4
 |[]=>rfl
 |v::l=>by simp[Hw,NH l]
def A6(p:ByteArray×GV):List D:=.val (.string p.1)::A4 p.2
theorem NM:∀ l:List (ByteArray×GV),Hx l=l.map A6
 |[]=>rfl
 |(k,v)::l=>by simp[Hx,NM l,A6]
theorem A7(v:GV):A4 v=[.val (.int .i64 v.kind),.val (.bool v.b),.val (.int .i64 v.n),.val (.string v.s),.slice (v.list.map A4) false,.slice (v.obj.map A6) false]:=by
 cases v;simp only[A4,NH,NM,GV.kind,GV.b,GV.n,GV.s,GV.list,GV.obj]
theorem Ah(p:ByteArray×GV):A6 p=.val (.string p.1)::A4 p.2:=rfl
mutual
theorem BO:∀ v:GV,Af (A4 v)=true
 |.mk k b n s l o=>by simp only[A4,Af,D.pure,M2 l,M8 o,A0E]
theorem M2:∀ l:List GV,A3 (Hw l)=true
 |[]=>rfl
 |v::l=>by simp only[Hw,A3,BO v,M2 l,A0E]
theorem M8:∀ l:List (ByteArray×GV),A3 (Hx l)=true
 |[]=>rfl
 |(k,v)::l=>by simp only[Hx,A3,Af,D.pure,BO v,M8 l,A0E]
end
theorem AW(v:GV):(A4 v).length=6:=by rw[A7];rfl
theorem Ar{α:Type}{f:α->List D}(h:∀ x,Af (f x)=true):∀ l:List α,A3 (l.map f)=true
 |[]=>rfl
 |x::l=>by simp only[A0j,A3,h x,Ar h l,A0E]
theorem Fm(l:List GV):A3 (l.map A4)=true:=Ar BO l
theorem Aj(p:ByteArray×GV):Af (A6 p)=true:=by simp only[A6,Af,D.pure,BO,A0E]
theorem BP(l:List (ByteArray×GV)):A3 (l.map A6)=true:=Ar Aj l
theorem GX{α:Type}{f:α->List D}{l:List α}{i:Nat}(d:α)(h:i<l.length):nr (l.map f) i=f (l.getD i d):=by
 simp[nr,A02,h]
abbrev zM:ByteArray×GV:=(ByteArray.empty,.mk 0 false 0 ByteArray.empty [] [])
def zV:GV:=.mk 0 false 0 ByteArray.empty [] []
theorem FF{l:List GV}{i:Nat}(h:i<l.length):nr (l.map A4) i=A4 (l.getD i zV):=GX zV h
theorem Bv{l:List (ByteArray×GV)}{i:Nat}(h:i<l.length):nr (l.map A6) i=A6 (l.getD i zM):=GX _ h
theorem MX(v:GV):(A4 v).take 6=A4 v:=A05 (by rw[AW];exact A08 _)
attribute [push_cast] MX BO Fm Aj BP AW A07
theorem Ak{α:Type}{l:List α}{i:Nat}{d:α}(h:i<l.length):l.getD i d ∈ l:=by
 rw[A02,A0b h];exact A0W h
def CO{α:Type}(f:α->α->Int):List α->List α->Int
 |[],[]=>0
 |[],_::_=> -1
 |_::_,[]=>1
 |x::a,y::b=>if f x y=0 then CO f a b else f x y
theorem HU{α:Type}(f:α->α->Int)(d:α):∀ (a b:List α) (i:Nat),i<=a.length->i<=b.length->(∀ j,j<i->f (a.getD j d) (b.getD j d)=0)->CO f a b=CO f (a.drop i) (b.drop i)
 |_,_,0,_,_,_=>by simp
 |[],_,i+1,h,_,_=>by simp at h
 |_::_,[],i+1,_,h,_=>by simp at h
 |x::a,y::b,i+1,h,k,e=>by
  have e0:=e 0 (by omega)
  simp only[A0H] at e0
  simp only[CO,if_pos e0,List.drop_succ_cons]
  exact HU f d a b i (by simpa using h) (by simpa using k) fun j hj=>by simpa using e (j+1) (by omega)
theorem P1{α:Type}(f:α->α->Int)(d:α)(a b:List α)(i:Nat)(h:i<=a.length)(k:i<=b.length)(e:∀ j,j<i->f (a.getD j d) (b.getD j d)=0)(o:¬(i<a.length/\i<b.length)):CO f a b=FE a.length b.length:=by
 rw[HU f d a b i h k e]
 by_cases ha:i<a.length
 ·have:b.drop i=[]:=A0m (by omega)
  rw[this,Et (d:=d) ha];grind [CO,FE]
 ·have h1:a.drop i=[]:=A0m (by omega)
  rw[h1]
  by_cases hb:i<b.length
  ·rw[Et (d:=d) hb];grind [CO,FE]
  ·have:b.drop i=[]:=A0m (by omega)
   rw[this];grind [CO,FE]
theorem P0{α:Type}(f:α->α->Int)(d:α)(a b:List α)(i:Nat)(h:i<a.length)(k:i<b.length)(e:∀ j,j<i->f (a.getD j d) (b.getD j d)=0)(o:f (a.getD i d) (b.getD i d)≠0):CO f a b=f (a.getD i d) (b.getD i d):=by
 rw[HU f d a b i (by omega) (by omega) e,Et (d:=d) h,Et (d:=d) k]
 simp only[CO,if_neg o]
def P6(a b:Bool):Int:=if a=b then 0 else if b then-1 else 1
def MP:Nat->GV->GV->Int
 |0,_,_=>0
 |n+1,v,u=>
  if v.kind≠u.kind then FE v.kind u.kind
  else if v.kind=2 then P6 v.b u.b
  else if v.kind=3 then FE v.n u.n
  else if v.kind=4 then CH v.s u.s
  else if v.kind=5 then CO (MP n) v.list u.list
  else if v.kind=6 then CO (fun x y=>if CH x.1 y.1=0 then MP n x.2 y.2 else CH x.1 y.1) v.obj u.obj
  else 0
def cmpP(n:Nat)(x y:ByteArray×GV):Int:=if CH x.1 y.1=0 then MP n x.2 y.2 else CH x.1 y.1
theorem K4(n:Nat)(v u:GV):MP (n+1) v u=
  if v.kind≠u.kind then FE v.kind u.kind
  else if v.kind=2 then P6 v.b u.b
  else if v.kind=3 then FE v.n u.n
  else if v.kind=4 then CH v.s u.s
  else if v.kind=5 then CO (MP n) v.list u.list
  else if v.kind=6 then CO (cmpP n) v.obj u.obj
  else 0:=rfl
theorem Se:∀ (a b:List UInt8),Lib.compareBytes a b=Co a b
 |[],[]=>rfl
 |[],_::_=>rfl
 |_::_,[]=>rfl
 |x::a,y::b=>by
  simp only[Lib.compareBytes,Co,Se a b]
  by_cases h:x=y
  ·subst h;simp[UInt8.lt_irrefl]
  ·rw[if_neg h]
   by_cases h1:x<y
   ·simp[h1]
   ·have:y<x:=UInt8.lt_of_le_of_ne (UInt8.not_lt.1 h1) (fun e=>h e.symm)
    simp[h1,this]
theorem Qy(a b:ByteArray):Kc prog 326 [.val (.string a),.val (.string b)] (.val (.int .i64 (CH a b))):=
 Kc.of (e:=Extern.BytealgCompare.compare) func326 (by kernel_rfl) (by kernel_rfl) (by kernel_rfl) (by kernel_rfl) fun w I mu vs h=>by
  obtain⟨v,u,rfl,hv,hu⟩:=h.two
  have ha:=hv.val_inv;have hb:=hu.val_inv
  subst ha hb
  refine⟨_,Lib.run_compareString a b w,?_⟩
  rw[Se]
  refine .val _ ?_
  have:∀ x y:List UInt8,-1<=Co x y/\Co x y<=1:=by
   intro x
   induction x with
   |nil=>intro y;cases y<;>simp [Co]
   |cons p x ih=>intro y;cases y with
    |nil=>simp [Co]
    |cons q y=>simp only[Co];have:=ih y;split<;>(try split)<;>omega
  have:=this a.data.toList b.data.toList
  simp only[okP,D1,D2,CH,bl];omega
theorem K8(a b:ByteArray):A0 prog 297 [.val (.string a),.val (.string b)] (.val (.int .i64 (CH a b))):=by
 refine Zf [] func297 rfl ntmps297 results297 ?_
 (have z:=trivial;(try push_cast)<;>repeat' (first|apply Zi<;>intro _|exact Zp|with_reducible apply Za|(with_reducible show A1 _ _ _ _ _ _ _ _;refine A1.ext (by(try push_cast);exact Qy ..) (by first|exact .inl rfl|exact .inr ⟨_,_,_,rfl,rfl,rfl⟩) rfl ?_)<;>try push_cast|fail)<;>try push_cast)
theorem DO(a b:ByteArray):A0 prog 250 [.val (.string a),.val (.string b)] (.val (.int .i64 (CH a b))):=by
 refine Zf [] func250 rfl ntmps250 results250 ?_
 (have z:=trivial;(try push_cast)<;>repeat' (first|apply Zi<;>intro _|refine Zc (K8 ..) ?_|exact Zp|with_reducible apply Za)<;>try push_cast)
theorem Xh(a:Int):A0 prog 296 [.val (.int .i64 a)] (.val (.bool false)):=by
 refine Zf [] func296 rfl ntmps296 results296 ?_
 ((try push_cast)<;>repeat' (first|apply Zi<;>intro _|exact Zp|with_reducible apply Za)<;>try push_cast)
theorem c_isNaNK(a:Int):A0 prog 295 [.val (.int .i64 a)] (.val (.bool false)):=by
 refine Zf [] func295 rfl ntmps295 results295 ?_
 ((try push_cast)<;>repeat' (first|apply Zi<;>intro _|exact Zp|with_reducible apply Za)<;>try push_cast)
theorem c_isNaNi(a:Int):A0 prog 327 [.val (.int .i64 a)] (.val (.bool false)):=by
 refine Zf [] func327 rfl ntmps327 results327 ?_
 ((try push_cast)<;>repeat' (first|apply Zi<;>intro _|exact Zp|with_reducible apply Za)<;>try push_cast)
theorem c_cmp64(a b:Int):A0 prog 249 [.val (.int .i64 a),.val (.int .i64 b)] (.val (.int .i64 (FE a b))):=by
 refine Zf [] func249 rfl ntmps249 results249 ?_
 (have z:=trivial;(try push_cast)<;>repeat' (first|apply Zi<;>intro _|refine Zc (Xh ..) ?_|exact Zp|with_reducible apply Za)<;>try push_cast)
 all_goals grind [FE]
theorem c_cmpK(a b:Int):A0 prog 247 [.val (.int .i64 a),.val (.int .i64 b)] (.val (.int .i64 (FE a b))):=by
 refine Zf [] func247 rfl ntmps247 results247 ?_
 (have z:=trivial;(try push_cast)<;>repeat' (first|apply Zi<;>intro _|refine Zc (c_isNaNK ..) ?_|exact Zp|with_reducible apply Za)<;>try push_cast)
 all_goals grind [FE]
theorem c_cmpi(a b:Int):A0 prog 298 [.val (.int .i64 a),.val (.int .i64 b)] (.val (.int .i64 (FE a b))):=by
 refine Zf [] func298 rfl ntmps298 results298 ?_
 (have z:=trivial;(try push_cast)<;>repeat' (first|apply Zi<;>intro _|refine Zc (c_isNaNi ..) ?_|exact Zp|with_reducible apply Za)<;>try push_cast)
 all_goals grind [FE]
theorem c_rank(b:Bool):A0 prog 248 [.val (.bool b)] (.val (.int .i64 (if b then 1 else 0))):=by
 refine Zf [] func248 rfl ntmps248 results248 ?_
 ((try push_cast)<;>repeat' (first|apply Zi<;>intro _|exact Zp|with_reducible apply Za)<;>try push_cast)
 all_goals simp_all
theorem Uh(a b:List GV)(g:Nat)(f:GV->GV->Int)(h:∀ x ∈ a,∀ y ∈ b,A0 prog g [.agg (A4 x),.agg (A4 y)] (.val (.int .i64 (f x y)))):
  A0 prog 251 [.slice (a.map A4) false,.slice (b.map A4) false,.func (.func g) [] []] (.val (.int .i64 (CO f a b))):=by
 refine Zk [] func251 rfl ntmps251 results251 fun H Hb=>?_
 have h0:=H 0;push_cast at h0
 have h1:=H 1;push_cast at h1
 push_cast
 refine Zl (fun i=>i<=a.length/\i<=b.length/\∀ j,j<i->f (a.getD j zV) (b.getD j zV)=0) (fun i=>⟨[(14,.val (.int .i64 i)),(13,.val (.int .i64 (if(b.length:Int)<a.length then b.length else a.length))),(0,.slice (a.map A4) false),(1,.slice (b.map A4) false),(2,.func (.func g) [] [])],[],0⟩) (fun i=>a.length-i) 0 (by simp) ?_ fun i hi=>?_
 ·apply Zw<;>push_cast
 ·obtain⟨h1,h2,h3⟩:=hi
  push_cast
  refine Al (fun ha=>?_) (fun ha=>?_)
  ·have hab:i<a.length/\i<b.length:=by simp at ha;split at ha<;>omega
   obtain⟨ha',hb'⟩:=hab
   have ea:=FF ha'
   have eb:=FF hb'
   (have z:=Za ea eb;(try push_cast[z])<;>repeat' (first|apply Zi<;>intro _|refine Zv (h _ (Ak ha') _ (Ak hb')) ?_|exact Zo|with_reducible apply Za)<;>try push_cast[z])
   all_goals first|omega|skip
   ·rename_i k
    have k:=bne_iff_ne.1 k
    rw[P0 f zV a b i ha' hb' h3 k]
   ·rename_i k
    have k:=J5 k
    refine⟨i+1,⟨by omega,by omega,fun j hj=>?_⟩,by omega,?_⟩
    ·by_cases hji:j=i
     ·subst hji;exact k
     ·exact h3 j (by omega)
    ·apply Zw<;>push_cast
     rw[Aa (by omega) (by omega)]
  ·have hab:¬(i<a.length/\i<b.length):=by simp at ha;split at ha<;>omega
   (have z:=trivial;(try push_cast)<;>repeat' (first|apply Zi<;>intro _|refine Zc (c_cmpi ..) ?_|exact Zp|with_reducible apply Za)<;>try push_cast)
   rw[P1 f zV a b i h1 h2 h3 hab]
theorem M9(p:ByteArray×GV):(A6 p).length=7:=by rw[Ah,A0g,AW]
theorem C8(p:ByteArray×GV):(A6 p).take 7=A6 p:=A05 (by rw[M9];exact A08 _)
theorem Ui(a b:List (ByteArray×GV))(g:Nat)(f:ByteArray×GV->ByteArray×GV->Int)(h:∀ x ∈ a,∀ y ∈ b,A0 prog g [.agg (A6 x),.agg (A6 y)] (.val (.int .i64 (f x y)))):
  A0 prog 252 [.slice (a.map A6) false,.slice (b.map A6) false,.func (.func g) [] []] (.val (.int .i64 (CO f a b))):=by
 refine Zk [] func252 rfl ntmps252 results252 fun H Hb=>?_
 have h0:=H 0;push_cast at h0
 have h1:=H 1;push_cast at h1
 push_cast
 refine Zl (fun i=>i<=a.length/\i<=b.length/\∀ j,j<i->f (a.getD j zM) (b.getD j zM)=0) (fun i=>⟨[(14,.val (.int .i64 i)),(13,.val (.int .i64 (if(b.length:Int)<a.length then b.length else a.length))),(0,.slice (a.map A6) false),(1,.slice (b.map A6) false),(2,.func (.func g) [] [])],[],0⟩) (fun i=>a.length-i) 0 (by simp) ?_ fun i hi=>?_
 ·apply Zw<;>push_cast
 ·obtain⟨h1,h2,h3⟩:=hi
  push_cast
  refine Al (fun ha=>?_) (fun ha=>?_)
  ·have hab:i<a.length/\i<b.length:=by simp at ha;split at ha<;>omega
   obtain⟨ha',hb'⟩:=hab
   have ea:=Bv ha'
   have eb:=Bv hb'
   (have z:=Za ea<|Za eb<|Za @C8 @M9;(try push_cast[z])<;>repeat' (first|apply Zi<;>intro _|refine Zv (h _ (Ak ha') _ (Ak hb')) ?_|exact Zo|with_reducible apply Za)<;>try push_cast[z])
   all_goals first|omega|skip
   ·rename_i k
    have k:=bne_iff_ne.1 k
    rw[P0 f zM a b i ha' hb' h3 k]
   ·rename_i k
    have k:=J5 k
    refine⟨i+1,⟨by omega,by omega,fun j hj=>?_⟩,by omega,?_⟩
    ·by_cases hji:j=i
     ·subst hji;exact k
     ·exact h3 j (by omega)
    ·apply Zw<;>push_cast
     rw[Aa (by omega) (by omega)]
  ·have hab:¬(i<a.length/\i<b.length):=by simp at ha;split at ha<;>omega
   (have z:=trivial;(try push_cast)<;>repeat' (first|apply Zi<;>intro _|refine Zc (c_cmpi ..) ?_|exact Zp|with_reducible apply Za)<;>try push_cast)
   rw[P1 f zM a b i h1 h2 h3 hab]
theorem Jn(v:GV):(A4 v).all Bc=true:=by rw[A7];rfl
theorem Cn(p:ByteArray×GV):(A6 p).all Bc=true:=by rw[Ah,A7];rfl
attribute [push_cast] Jn Cn
theorem K7(x y:ByteArray×GV)(c:Int)(h:A0 prog 203 [.agg (A4 x.2),.agg (A4 y.2)] (.val (.int .i64 c))):
  A0 prog 253 [.agg (A6 x),.agg (A6 y)] (.val (.int .i64 (if CH x.1 y.1=0 then c else CH x.1 y.1))):=by
 rw[Ah,Ah]
 refine Zf [] func253 rfl ntmps253 results253 ?_
 (have z:=trivial;(try push_cast)<;>repeat' (first|apply Zi<;>intro _|refine Zc (DO ..) ?_|refine Zc h ?_|exact Zp|with_reducible apply Za)<;>try push_cast)
 all_goals grind
theorem Xo(n:Nat):∀ (v u:GV),SizeOf.sizeOf v<=n->A0 prog 203 [.agg (A4 v),.agg (A4 u)] (.val (.int .i64 (MP n v u))):=by
 induction n with
 |zero=>intro v u h;cases v;simp at h
 |succ n ih=>
 intro v u hn
 have hl:∀ x ∈ v.list,∀ y ∈ u.list,A0 prog 203 [.agg (A4 x),.agg (A4 y)] (.val (.int .i64 (MP n x y))):=fun x hx y _=>ih x y (by have:=GV.list_lt hx;omega)
 have ho:∀ x ∈ v.obj,∀ y ∈ u.obj,A0 prog 253 [.agg (A6 x),.agg (A6 y)] (.val (.int .i64 (cmpP n x y))):=fun x hx y _=>K7 x y _ (ih x.2 y.2 (by have:=GV.obj_lt hx;omega))
 rw[A7 v,A7 u]
 refine Zk [] func203 rfl ntmps203 results203 fun H Hb=>?_
 have h0:=H 0;push_cast at h0
 (have z:=trivial;(try push_cast)<;>repeat' (first|apply Zi<;>intro _|refine Zc (c_cmpK ..) ?_|refine Zc (c_cmp64 ..) ?_|refine Zc (c_rank ..) ?_|refine Zc (DO ..) ?_|exact Zp|with_reducible apply Za|(with_reducible show A1 _ _ _ _ _ _ _ _;refine A1.call (by(try push_cast);exact Uh _ _ _ _ hl) (by first|exact .inl rfl|exact .inr ⟨_,_,_,rfl,rfl,rfl⟩) rfl (by first|rfl|push_cast) ?_)<;>try push_cast|(with_reducible show A1 _ _ _ _ _ _ _ _;refine A1.call (by(try push_cast);exact Ui _ _ _ _ ho) (by first|exact .inl rfl|exact .inr ⟨_,_,_,rfl,rfl,rfl⟩) rfl (by first|rfl|push_cast) ?_)<;>try push_cast|fail)<;>try push_cast)
 all_goals simp only[beq_iff_eq,beq_eq_false_iff_ne,bne_iff_ne] at*
 all_goals first
  |grind [K4]
  |(have e:FE (if v.b=true then 1 else 0) (if u.b=true then 1 else 0)=P6 v.b u.b:=by cases v.b<;>cases u.b<;>rfl
    grind [K4])
noncomputable def MQ(v u:GV):Int:=MP (SizeOf.sizeOf v) v u
theorem Uk(v u:GV):A0 prog 203 [.agg (A4 v),.agg (A4 u)] (.val (.int .i64 (MQ v u))):=Xo _ v u (A08 _)
theorem KE(v u:GV):A0 prog 128 [.agg (A4 v),.agg (A4 u)] (.val (.bool (MQ v u==0))):=by
 refine Zf [] func128 rfl ntmps128 results128 ?_
 (have z:=trivial;(try push_cast)<;>repeat' (first|apply Zi<;>intro _|refine Zc (Uk ..) ?_|exact Zp|with_reducible apply Za)<;>try push_cast)
abbrev GE:=ByteArray×GV
inductive GM where
 |mk (kind:Int) (key to:ByteArray) (n:Int) (had:Bool) (was:GV) (has:Bool) (value:GV) (list:List GM)
namespace GM
def kind:GM->Int|mk k _ _ _ _ _ _ _ _=>k
def key:GM->ByteArray|mk _ k _ _ _ _ _ _ _=>k
def to:GM->ByteArray|mk _ _ t _ _ _ _ _ _=>t
def n:GM->Int|mk _ _ _ n _ _ _ _ _=>n
def had:GM->Bool|mk _ _ _ _ h _ _ _ _=>h
def was:GM->GV|mk _ _ _ _ _ w _ _ _=>w
def has:GM->Bool|mk _ _ _ _ _ _ h _ _=>h
def value:GM->GV|mk _ _ _ _ _ _ _ v _=>v
def list:GM->List GM|mk _ _ _ _ _ _ _ _ l=>l
theorem list_lt{x m:GM}(h:x ∈ m.list):SizeOf.sizeOf x<SizeOf.sizeOf m:=by
 cases m with
 |mk k a b n h1 w h2 v l=>have:=List.sizeOf_lt_of_mem (show x ∈ l from h);simp;omega
end GM
mutual
def Ap:GM->List D
 |.mk k a b n h w i v l=>[.val (.int .i64 k),.val (.string a),.val (.string b),.val (.int .i64 n),.val (.bool h)]++A4 w++[.val (.bool i)]++A4 v++[.slice (Kz l) false]
def Kz:List GM->List (List D)
 |[]=>[]
 |m::l=>Ap m::Kz l
end
theorem NI:∀ l:List GM,Kz l=l.map Ap
 |[]=>rfl
 |v::l=>by simp[Kz,NI l]
theorem AY(m:GM):Ap m=[.val (.int .i64 m.kind),.val (.string m.key),.val (.string m.to),.val (.int .i64 m.n),.val (.bool m.had)]++A4 m.was++[.val (.bool m.has)]++A4 m.value++[.slice (m.list.map Ap) false]:=by
 cases m;simp only[Ap,NI,GM.kind,GM.key,GM.to,GM.n,GM.had,GM.was,GM.has,GM.value,GM.list]
theorem CJ:∀ (a b:List D),Af (a++b)=(Af a&&Af b)
 |[],b=>by simp[Af]
 |d::a,b=>by simp[Af,CJ a b,Bool.and_assoc]
mutual
theorem Au:∀ m:GM,Af (Ap m)=true
 |.mk k a b n h w i v l=>by simp only[Ap,CJ,Af,D.pure,BO,M3 l,A0E]
theorem M3:∀ l:List GM,A3 (Kz l)=true
 |[]=>rfl
 |m::l=>by simp only[Kz,A3,Au m,M3 l,A0E]
end
theorem Bp(m:GM):(Ap m).length=19:=by rw[AY];simp[AW]
theorem TW(l:List GM):A3 (l.map Ap)=true:=Ar Au l
theorem Jo(m:GM):(Ap m).all Bc=true:=by rw[AY];simp only[List.all_append,Jn];rfl
theorem GH(m:GM):(Ap m).take 19=Ap m:=A05 (by rw[Bp];exact A08 _)
def zU:GM:=.mk 0 ByteArray.empty ByteArray.empty 0 false zV false zV []
theorem PH{l:List GM}{i:Nat}(h:i<l.length):nr (l.map Ap) i=Ap (l.getD i zU):=GX zU h
attribute [push_cast] Au TW Bp Jo GH M9 C8
structure GN where
 id:Int
 m:GM
def Bl(x:GN):List D:=.val (.int .u64 x.id)::Ap x.m
theorem V6(x:GN):Bl x=.val (.int .u64 x.id)::Ap x.m:=rfl
theorem Cq(x:GN):Af (Bl x)=true:=by simp only[Bl,Af,D.pure,Au,A0E]
theorem KA(x:GN):(Bl x).length=20:=by simp[Bl,Bp]
theorem DL(l:List GN):A3 (l.map Bl)=true:=Ar Cq l
attribute [push_cast] Cq DL KA
structure GR where
 version:Int
 client:Int
 id:Int
 m:GM
 code:Int
def encR(x:GR):List D:=[.val (.int .u64 x.version),.val (.int .u64 x.client),.val (.int .u64 x.id)]++Ap x.m++[.val (.int .i64 x.code)]
structure GI where
 client:Int
 cookie:Int
 last:Int
 next:Int
 base:List GE
 pending:List GN
structure GW where
 image:GI
 head:List GE
 saved:Int
def encW(x:GW):List D:=[.val (.int .u64 x.image.client),.val (.int .u64 x.image.cookie),.val (.int .u64 x.image.last),.val (.int .u64 x.image.next),.slice (x.image.base.map A6) false,.slice (x.image.pending.map Bl) false,.slice (x.head.map A6) false,.val (.int .u64 x.saved)]
theorem RX(x:GW):(encW x).length=8:=rfl
attribute [push_cast] RX
structure GS where
 version:Int
 map:List GE
 ran:List GR
def encS(x:GS):List D:=[.val (.int .u64 x.version),.slice (x.map.map A6) false,.slice (x.ran.map encR) false]
theorem ZX(x:GS):(encS x).all Bc=true:=rfl
theorem RY(x:GS):(encS x).length=3:=rfl
theorem Vx(x:GS):(encS x).take 3=encS x:=rfl
theorem ZW(x:GW):(encW x).all Bc=true:=rfl
theorem Vw(x:GW):(encW x).take 8=encW x:=rfl
attribute [push_cast] ZX RY Vx ZW Vw
theorem baLoop(a:ByteArray):∀ (n i:Nat) (r:List UInt8),a.size-i=n->ByteArray.toList.loop a i r=r.reverse++a.data.toList.drop i:=by
 intro n
 induction n with
 |zero=>
  intro i r h
  unfold ByteArray.toList.loop
  have:¬i<a.size:=by omega
  rw[if_neg this]
  have h2:a.data.toList.length<=i:=by have:a.size=a.data.toList.length:=rfl
                                      omega
  simp[A0m h2]
 |succ n ih=>
  intro i r h
  unfold ByteArray.toList.loop
  have hi:i<a.size:=by omega
  rw[if_pos hi,ih (i+1) _ (by omega)]
  have h3:i<a.data.toList.length:=hi
  have h4:a.get! i=a.data.toList[i]:=by
   have h5:i<a.data.size:=hi
   show a.data[i]! =a.data.toList[i]
   rw[getElem!_pos a.data i h5];simp
  rw[List.drop_eq_getElem_cons h3,h4]
  simp
theorem baL(a:ByteArray):a.toList=a.data.toList:=by
 unfold ByteArray.toList
 rw[baLoop a _ 0 [] rfl]
 simp
theorem P7(a b:ByteArray):(a.toList==b.toList)=decide (a=b):=by
 rw[baL,baL]
 by_cases h:a=b
 ·subst h;simp
 ·have:a.data.toList≠b.data.toList:=fun e=>h (MD e)
  rw[decide_eq_false h];simpa using this
def ltS(a b:ByteArray):Bool:=decide (CH a b<0)
theorem Ny:∀ a b:List UInt8,Op.bytesLess a b=decide (Co a b<0)
 |[],[]=>by simp[Op.bytesLess,Co]
 |[],_::_=>by simp[Op.bytesLess,Co]
 |_::_,[]=>by simp[Op.bytesLess,Co]
 |x::a,y::b=>by
  simp only[Op.bytesLess,Co,Ny a b]
  by_cases h:x=y
  ·subst h;simp[UInt8.lt_irrefl]
  ·by_cases h1:x<y
   ·simp[h,h1]
   ·simp[h,h1]
theorem Sd:∀ a b:List UInt8,Co b a= -Co a b
 |[],[]=>rfl
 |[],_::_=>rfl
 |_::_,[]=>rfl
 |x::a,y::b=>by
  simp only[Co]
  by_cases h:x=y
  ·subst h;simp[Sd a b]
  ·have h':¬y=x:=fun e=>h e.symm
   rw[if_neg h,if_neg h']
   by_cases h1:x<y
   ·have:¬y<x:=UInt8.lt_asymm h1
    simp[h1,this]
   ·have:y<x:=UInt8.lt_of_le_of_ne (UInt8.not_lt.1 h1) h'
    simp[h1,this]
theorem SY(a b:ByteArray):Op.bytesLess a.toList b.toList=ltS a b:=by rw[baL,baL,Ny];rfl
theorem U7:∀ {x y:List UInt8},Co x y=0->x=y:=by
 intro x
 induction x with
 |nil=>intro y hy;cases y<;>simp_all [Co]
 |cons p x ih=>intro y hy;cases y with
  |nil=>simp [Co] at hy
  |cons q y=>
   simp only[Co] at hy
   split at hy
   ·rename_i e;subst e;rw[ih hy]
   ·split at hy<;>simp at hy
theorem Mp(a b:ByteArray):CH b a= -CH a b:=Sd _ _
theorem Q1(a b:ByteArray):CH a b=0↔a=b:=by
 constructor
 ·exact fun h=>MD (U7 h)
 ·intro h;subst h;have:=Mp a a;omega
theorem str_gt(a b:ByteArray):(!(Op.bytesLess a.toList b.toList ||a.toList==b.toList))=ltS b a:=by
 rw[P7,SY,Bool.eq_iff_iff]
 have hn:=Mp a b
 have he:=Q1 a b
 simp only[ltS,Bool.not_eq_true',Bool.or_eq_false_iff,decide_eq_false_iff_not,decide_eq_true_eq]
 constructor
 ·intro⟨h1,h2⟩
  have:CH a b≠0:=fun e=>h2 (he.1 e)
  omega
 ·intro h
  exact⟨by omega,fun e=>by have:=he.2 e;omega⟩
theorem str_le(a b:ByteArray):(Op.bytesLess a.toList b.toList ||a.toList==b.toList)= !ltS b a:=by rw[<-str_gt a b];simp
theorem le_norm(a b:ByteArray):(ltS a b ||decide (a=b))= !ltS b a:=by
 have:=str_le a b
 rw[SY,P7] at this;exact this
attribute [push_cast] SY P7 le_norm Bool.not_not
inductive GT where
 |nil
 |node (es:List GE) (kids:List GT) (height count:Int) (first last:ByteArray) (thin:Bool)
namespace GT
def es:GT->List GE|nil=>[]|node e _ _ _ _ _ _=>e
def kids:GT->List GT|nil=>[]|node _ k _ _ _ _ _=>k
def height:GT->Int|nil=>0|node _ _ h _ _ _ _=>h
def count:GT->Int|nil=>0|node _ _ _ c _ _ _=>c
def first:GT->ByteArray|nil=>ByteArray.empty|node _ _ _ _ f _ _=>f
def last:GT->ByteArray|nil=>ByteArray.empty|node _ _ _ _ _ l _=>l
def thin:GT->Bool|nil=>false|node _ _ _ _ _ _ t=>t
end GT
mutual
def A8:GT->D
 |.nil=>.val (.pointer none)
 |.node e k h c f l t=>.ptr [.slice (e.map A6) false,.slice (NK k) false,.val (.int .i64 h),.val (.int .i64 c),.val (.string f),.val (.string l),.val (.bool t)] 0
def NK:List GT->List (List D)
 |[]=>[]
 |t::l=>[A8 t]::NK l
end
def Ai(t:GT):List D:=[A8 t]
theorem NJ:∀ l:List GT,NK l=l.map Ai
 |[]=>rfl
 |t::l=>by simp[NK,NJ l,Ai]
theorem Bk:A8 .nil=.val (.pointer none):=by simp only[A8]
theorem AZ(e:List GE)(k:List GT)(h c:Int)(f l:ByteArray)(t:Bool):A8 (.node e k h c f l t)=.ptr [.slice (e.map A6) false,.slice (k.map Ai) false,.val (.int .i64 h),.val (.int .i64 c),.val (.string f),.val (.string l),.val (.bool t)] 0:=by
 simp only[A8,NJ]
mutual
theorem A5:∀ t:GT,(A8 t).pure=true
 |.nil=>by simp only[A8,D.pure]
 |.node e k h c f l t=>by simp only[A8,D.pure,Af,BP,M7 k,A0E]
theorem M7:∀ l:List GT,A3 (NK l)=true
 |[]=>rfl
 |t::l=>by simp only[NK,A3,Af,A5 t,M7 l,A0E]
end
theorem NN(t:GT):Af (Ai t)=true:=by simp only[Ai,Af,A5,A0E]
theorem C6(l:List GT):A3 (l.map Ai)=true:=Ar NN l
theorem RZ(t:GT):(Ai t).length=1:=rfl
theorem Be{l:List GT}{i:Nat}(h:i<l.length):nr (l.map Ai) i=Ai (l.getD i .nil):=GX .nil h
theorem Cm(t:GT):Bc (A8 t)=true:=by cases t<;>simp only[A8]<;>rfl
attribute [push_cast] Cm A5 NN C6 RZ
theorem Bz(t:GT):A0 prog 241 [A8 t] (.val (.int .i64 t.height)):=by
 cases t with
 |nil=>
  rw[Bk]
  refine Zf [] func241 rfl ntmps241 results241 ?_
  ((try push_cast)<;>repeat' (first|apply Zi<;>intro _|exact Zp|with_reducible apply Za)<;>try push_cast)
  all_goals simp[GT.height]
 |node e k h c f l th=>
  rw[AZ]
  refine Zf [] func241 rfl ntmps241 results241 ?_
  ((try push_cast)<;>repeat' (first|apply Zi<;>intro _|exact Zp|with_reducible apply Za)<;>try push_cast)
  all_goals simp[GT.height]
theorem Qd(t:GT):A0 prog 207 [A8 t] (.val (.int .i64 t.count)):=by
 cases t with
 |nil=>
  rw[Bk]
  refine Zf [] func207 rfl ntmps207 results207 ?_
  ((try push_cast)<;>repeat' (first|apply Zi<;>intro _|exact Zp|with_reducible apply Za)<;>try push_cast)
  all_goals simp[GT.count]
 |node e k h c f l th=>
  rw[AZ]
  refine Zf [] func207 rfl ntmps207 results207 ?_
  ((try push_cast)<;>repeat' (first|apply Zi<;>intro _|exact Zp|with_reducible apply Za)<;>try push_cast)
  all_goals simp[GT.count]
theorem c_First(t:GT):A0 prog 294 [A8 t] (.val (.string t.first)):=by
 cases t with
 |nil=>
  rw[Bk]
  refine Zf [] func294 rfl ntmps294 results294 ?_
  ((try push_cast)<;>repeat' (first|apply Zi<;>intro _|exact Zp|with_reducible apply Za)<;>try push_cast)
  all_goals first|rfl|simp [GT.first]|skip
 |node e k h c f l th=>
  rw[AZ]
  refine Zf [] func294 rfl ntmps294 results294 ?_
  ((try push_cast)<;>repeat' (first|apply Zi<;>intro _|exact Zp|with_reducible apply Za)<;>try push_cast)
  all_goals simp[GT.first]
def Gy{α:Type}(f:α->List D)(z:List D)(l:List α)(i:Nat):List (List D):=(l.take i).map f++List.replicate (l.length-i) z
theorem H5{α:Type}(f:α->List D)(z:List D)(l:List α):List.replicate l.length z=Gy f z l 0:=by simp[Gy]
theorem Jk{α:Type}(f:α->List D)(z:List D)(l:List α){i:Nat}(h:l.length<=i):Gy f z l i=l.map f:=by
 simp[Gy,A05 h,Nat.sub_eq_zero_of_le h]
theorem RU{α:Type}(f:α->List D)(z:List D)(l:List α)(i:Nat):(Gy f z l i).length=l.length:=by
 simp[Gy];omega
theorem Jj{α:Type}(f:α->List D)(z:List D)(l:List α)(d:α){i:Nat}(h:i<l.length):(Gy f z l i).set i (f (l.getD i d))=Gy f z l (i+1):=by
 have e1:(l.take i).length=i:=by simp;omega
 have e2:l.length-i=(l.length-(i+1))+1:=by omega
 simp only[Gy]
 rw[List.set_append_right _ _ (by simp;omega)]
 simp only[A07,e1,Nat.sub_self]
 rw[e2,List.replicate_succ,List.set_cons_zero,List.take_add_one,A0F,A0c]
 simp[A0b h,A02]
theorem KN{α:Type}(f:α->List D)(z:List D)(l:List α){i:Nat}(h:i<l.length):nr (Gy f z l i) i=z:=by
 simp only[nr,Gy,A02]
 rw[A0p (by simp;omega)]
 have e1:(l.take i).length=i:=by simp;omega
 simp[e1,A1w,show i-min i l.length<l.length-i by omega]
theorem NE{α:Type}{f:α->List D}{z:List D}(hf:∀ x,Af (f x)=true)(hz:Af z=true)(l:List α)(i:Nat):A3 (Gy f z l i)=true:=by
 have key:∀ (a b:List (List D)),A3 a=true->A3 b=true->A3 (a++b)=true:=by
  intro a b ha hb
  induction a with
  |nil=>exact hb
  |cons x a ih=>simp only[A0d,A3,A09] at*;exact⟨ha.1,ih ha.2⟩
 refine key _ _ (Ar hf _) ?_
 induction l.length-i with
 |zero=>rfl
 |succ n ih=>simp only[List.replicate_succ,A3,hz,ih,A0E]
attribute [push_cast] RU
inductive Sm:GV->Prop where
 |mk (k:Int) (b:Bool) (n:Int) (s:ByteArray) (l:List GV) (o:List (ByteArray×GV)) (hl:l.length<=1048576) (ho:o.length<=1048576) (h:∀ x ∈ l,Sm x) (h':∀ p ∈ o,Sm p.2) (hn: -9223372036854775808<=n/\n<=9223372036854775807) (hz:s.size<=1048576) (hk:∀ p ∈ o,p.1.size<=1048576):Sm (.mk k b n s l o)
theorem Sm.int{v:GV}(h:Sm v): -9223372036854775808<=v.n/\v.n<=9223372036854775807:=by cases h;assumption
theorem Sm.text{v:GV}(h:Sm v):v.s.size<=1048576:=by cases h;assumption
theorem Sm.key{v:GV}(h:Sm v):∀ p ∈ v.obj,p.1.size<=1048576:=by cases h;assumption
theorem Sm.list_le{v:GV}(h:Sm v):v.list.length<=1048576:=by cases h;assumption
theorem Sm.obj_le{v:GV}(h:Sm v):v.obj.length<=1048576:=by cases h;assumption
theorem Sm.list{v:GV}(h:Sm v):∀ x ∈ v.list,Sm x:=by cases h;assumption
theorem Sm.obj{v:GV}(h:Sm v):∀ p ∈ v.obj,Sm p.2:=by cases h;assumption
abbrev z6:List D:=[.val (.int .i64 0),.val (.bool false),.val (.int .i64 0),.val (.string ByteArray.empty),.slice [] true,.slice [] true]
abbrev z7:List D:=.val (.string ByteArray.empty)::z6
theorem TR(l:List GV)(i:Nat):A3 (Gy A4 z6 l i)=true:=NE BO rfl l i
theorem TS(l:List (ByteArray×GV))(i:Nat):A3 (Gy A6 z7 l i)=true:=NE Aj rfl l i
attribute [push_cast] TR TS
def cp1(v:GV)(i:Nat):St:=⟨[(23,.val (.int .i64 i)),(22,.val (.int .i64 v.list.length)),(21,.slice (v.list.map A4) false),(3,.ref 24 0 0 6),(2,.ref 8 0 0 6),(1,.ptr [.val (.int .i64 v.kind),.val (.bool v.b),.val (.int .i64 v.n),.val (.string v.s),.slice (v.list.map A4) false,.slice (v.obj.map A6) false] 0)],
 [(24,.rows [[.val (.int .i64 v.kind),.val (.bool v.b),.val (.int .i64 v.n),.val (.string v.s),.sref 128 0 v.list.length v.list.length 6,.slice [] true]] 6),(128,.rows (Gy A4 z6 v.list i) 6),(8,.rows [z6] 6)],92⟩
def cp2(v:GV)(m:D)(R:Hp)(nx:Nat)(c i:Nat):St:=⟨[(47,.val (.int .i64 i)),(46,.val (.int .i64 v.obj.length)),(45,.slice (v.obj.map A6) false),(3,.ref 24 0 0 6),(2,.ref 8 0 0 6)],
 (24,.rows [[.val (.int .i64 v.kind),.val (.bool v.b),.val (.int .i64 v.n),.val (.string v.s),m,.sref c 0 v.obj.length v.obj.length 7]] 6)::(c,.rows (Gy A6 z7 v.obj i) 7)::(8,.rows [z6] 6)::R,nx⟩
theorem Bb(p:ByteArray×GV):(A6 p).length=7:=by rw[Ah,A0g,AW]
theorem Z9{p:Prop}[Decidable p]{X Y:List (List D)}{n:Nat}{t:Bool}{d:D}(hp:p)(h:X.length<=n)(e:X=Y):lo (if p then .slice (X.take n) t else d) (.slice Y false):=by
 rw[if_pos hp,A05 h,e,EE];exact⟨BC _,fun h=>by cases h⟩
theorem EW{X:List (List D)}{n:Nat}(h:decide ((0:Int)<↑n)=false)(e:X.length=n):Cx [] X:=by
 have:X=[]:=A0x (by simp at h;omega)
 rw[this];exact BC _
def CN(v:GV):List D:=[.val (.int .i64 v.kind),.val (.bool v.b),.val (.int .i64 v.n),.val (.string v.s),.slice (v.list.map A4) true,.slice (v.obj.map A6) true]
theorem loL_T(v:GV):loL (CN v) (A4 v):=by
 rw[A7,CN]
 simp[loL,lo,BC]
theorem KP{p:Prop}[Decidable p]{X Y:List (List D)}{n:Nat}{t:Bool}{d:D}(hp:p)(h:X.length<=n)(e:X=Y)(ht:t=true):lo (if p then .slice (X.take n) t else d) (.slice Y true):=by
 rw[if_pos hp,A05 h,e,EE];exact⟨BC _,fun _=>ht⟩
theorem Ze(v:GV):lo (.agg (CN v)) (.agg (A4 v)):=by rw[LO];exact loL_T v
theorem lo_T(v:GV)(b:D):lo (.tup [.agg (CN v),b]) (.tup [.agg (A4 v),b]):=by
 rw[Z8];exact⟨Ze v,Am _,trivial⟩
theorem KX(v:GV)(hs:Sm v):A0 prog 51 [.agg (A4 v)] (.agg (CN v)):=by
 have hl:=hs.list_le
 have ho:=hs.obj_le
 have hrec:∀ x,SizeOf.sizeOf x<SizeOf.sizeOf v->Sm x->A0 prog 51 [.agg (A4 x)] (.agg (A4 x)):=fun x h hx=>(KX x hx).res (Ze x)
 rw[A7,CN]
 refine Zf [0] func51 rfl ntmps51 results51 ?_
 ((try push_cast)<;>repeat' (first|apply Zi<;>intro _|exact Zp|with_reducible apply Za)<;>try push_cast)
 all_goals first|omega|skip
 ·refine Zl (fun i=>i<=v.list.length) (fun i=>cp1 v i) (fun i=>v.list.length-i) 0 (by simp) ?_ fun i hi=>?_
  ·unfold cp1
   rw[H5 A4 z6 v.list]
   apply Zw<;>push_cast [AW]
  ·unfold cp1
   push_cast
   refine Al (fun ha=>?_) (fun ha=>?_)
   ·have hi':i<v.list.length:=by simpa using ha
    have e1:=FF hi'
    have e2:=KN A4 z6 v.list hi'
    have hr:=hrec (v.list.getD i zV) (GV.list_lt (Ak hi')) (hs.list _ (Ak hi'))
    have e3:=Jj A4 z6 v.list zV hi'
    (have z:=Za e1 e2;(try push_cast[z])<;>repeat' (first|apply Zi<;>intro _|refine Zc (hr ..) ?_|exact Zo|with_reducible apply Za)<;>try push_cast[z])
    all_goals first|omega|skip
    refine⟨i+1,hi',by omega,?_⟩
    apply Zw<;>push_cast [e3,e2]
    all_goals first|exact Aa (by omega) (by omega)|skip
   ·have hi':i=v.list.length:=by simp at ha;omega
    subst hi'
    (have z:=(Jk A4 z6 v.list (A08 _));(try push_cast[z])<;>repeat' (first|apply Zi<;>intro _|exact Zo|with_reducible apply Za)<;>try push_cast[z])
    all_goals first|omega|skip
    ·refine Zl (fun i=>i<=v.obj.length) (fun i=>cp2 v (.sref 128 0 v.list.length v.list.length 6) [(128,.rows (v.list.map A4) 6)] 152 248 i) (fun i=>v.obj.length-i) 0 (by simp) ?_ fun i hi=>?_
     ·unfold cp2
      rw[H5 A6 z7 v.obj]
      apply Zw<;>push_cast [AW,Bb]
     ·unfold cp2
      push_cast
      refine Al (fun ha=>?_) (fun ha=>?_)
      ·have hi':i<v.obj.length:=by simpa using ha
       have e1:=Bv hi'
       have e2:=KN A6 z7 v.obj hi'
       have hr:=hrec (v.obj.getD i zM).2 (GV.obj_lt (Ak hi')) (hs.obj _ (Ak hi'))
       have e3:=Jj A6 z7 v.obj zM hi'
       (have z:=Za e1<|Za e2 @Ah;(try push_cast[z])<;>repeat' (first|apply Zi<;>intro _|refine Zc (hr ..) ?_|exact Zo|with_reducible apply Za)<;>try push_cast[z])
       all_goals first|omega|skip
       refine⟨i+1,hi',by omega,?_⟩
       apply Zw<;>push_cast [e3,e2,<-Ah]
       all_goals first|exact Aa (by omega) (by omega)|skip
      ·have hi':i=v.obj.length:=by simp at ha;omega
       subst hi'
       (have z:=(Jk A6 z7 v.obj (A08 _));(try push_cast[z])<;>repeat' (first|apply Zi<;>intro _|exact Zo|with_reducible apply Za)<;>try push_cast[z])
       all_goals first|omega|exact fun h=>h.elim|exact KP (by omega) (by simp) rfl (by simp)|exact EW (n:=v.obj.length) (by assumption) (A07 ..)|exact EW (n:=v.list.length) (by assumption) (A07 ..)|skip
    all_goals first|exact fun h=>h.elim|exact KP (by omega) (by simp) rfl (by simp)|exact EW (n:=v.obj.length) (by assumption) (A07 ..)|exact EW (n:=v.list.length) (by assumption) (A07 ..)|skip
 ·refine Zl (fun i=>i<=v.obj.length) (fun i=>cp2 v (.slice [] true) [] 108 160 i) (fun i=>v.obj.length-i) 0 (by simp) ?_ fun i hi=>?_
  ·unfold cp2
   rw[H5 A6 z7 v.obj]
   apply Zw<;>push_cast [AW,Bb]
  ·unfold cp2
   push_cast
   refine Al (fun ha=>?_) (fun ha=>?_)
   ·have hi':i<v.obj.length:=by simpa using ha
    have e1:=Bv hi'
    have e2:=KN A6 z7 v.obj hi'
    have hr:=hrec (v.obj.getD i zM).2 (GV.obj_lt (Ak hi')) (hs.obj _ (Ak hi'))
    have e3:=Jj A6 z7 v.obj zM hi'
    (have z:=Za e1<|Za e2 @Ah;(try push_cast[z])<;>repeat' (first|apply Zi<;>intro _|refine Zc (hr ..) ?_|exact Zo|with_reducible apply Za)<;>try push_cast[z])
    all_goals first|omega|skip
    refine⟨i+1,hi',by omega,?_⟩
    apply Zw<;>push_cast [e3,e2,<-Ah]
    all_goals first|exact Aa (by omega) (by omega)|skip
   ·have hi':i=v.obj.length:=by simp at ha;omega
    subst hi'
    (have z:=(Jk A6 z7 v.obj (A08 _));(try push_cast[z])<;>repeat' (first|apply Zi<;>intro _|exact Zo|with_reducible apply Za)<;>try push_cast[z])
    all_goals first|omega|exact fun h=>h.elim|exact KP (by omega) (by simp) rfl (by simp)|exact EW (n:=v.obj.length) (by assumption) (A07 ..)|exact EW (n:=v.list.length) (by assumption) (A07 ..)|skip
 all_goals first|exact fun h=>h.elim|exact KP (by omega) (by simp) rfl (by simp)|exact EW (n:=v.obj.length) (by assumption) (A07 ..)|exact EW (n:=v.list.length) (by assumption) (A07 ..)|skip
termination_by SizeOf.sizeOf v
theorem K9(v:GV)(hs:Sm v):A0 prog 51 [.agg (A4 v)] (.agg (A4 v)):=(KX v hs).res (Ze v)
theorem Mx(l:List GE)(t:Bool)(hl:l.length<=1048576)(hs:∀ e ∈ l,Sm e.2):A2 prog 299 [.slice (l.map A6) t] [] (.sref 0 0 l.length l.length 7) [(0,.rows (l.map A6) 7)]:=by
 refine Zd [] func299 rfl ntmps299 results299 ?_
 ((try push_cast)<;>repeat' (first|apply Zi<;>intro _|exact Zp|with_reducible apply Za)<;>try push_cast)
 all_goals first|omega|skip
 refine Zl (fun i=>i<=l.length) (fun i=>⟨[(11,.val (.int .i64 i)),(10,.val (.int .i64 l.length)),(9,.slice (l.map A6) t),(3,.sref 32 0 l.length l.length 7)],[(32,.rows (Gy A6 z7 l i) 7)],36⟩) (fun i=>l.length-i) 0 (by simp) ?_ fun i hi=>?_
 ·rw[H5 A6 z7 l]
  apply Zw<;>push_cast [Bb]
 ·push_cast
  refine Al (fun ha=>?_) (fun ha=>?_)
  ·have hi':i<l.length:=by simpa using ha
   have e1:=Bv hi'
   have e2:=KN A6 z7 l hi'
   have hr:=K9 (l.getD i zM).2 (hs _ (Ak hi'))
   have e3:=Jj A6 z7 l zM hi'
   (have z:=Za e1<|Za e2 @Ah;(try push_cast[z])<;>repeat' (first|apply Zi<;>intro _|refine Zc (hr ..) ?_|exact Zo|with_reducible apply Za)<;>try push_cast[z])
   all_goals first|omega|skip
   refine⟨i+1,hi',by omega,?_⟩
   apply Zw<;>push_cast [e3,e2,<-Ah]
   all_goals first|exact Aa (by omega) (by omega)|skip
  ·have hi':i=l.length:=by simp at ha;omega
   subst hi'
   (have z:=(Jk A6 z7 l (A08 _));(try push_cast[z])<;>repeat' (first|apply Zi<;>intro _|exact Zo|with_reducible apply Za)<;>try push_cast[z])
   apply Zr [(0,32)] rfl<;>push_cast
def GT.size(t:GT):Nat:=t.es.length+t.kids.length
theorem Qa(t:GT)(h:t.size<=4611686018427387904):A0 prog 244 [A8 t] (.val (.int .i64 t.size)):=by
 cases t with
 |nil=>
  rw[Bk]
  refine Zf [] func244 rfl ntmps244 results244 ?_
  ((try push_cast)<;>repeat' (first|apply Zi<;>intro _|exact Zp|with_reducible apply Za)<;>try push_cast)
  all_goals simp[GT.size,GT.es,GT.kids]
 |node e k hh c f l th=>
  rw[AZ]
  simp only[GT.size,GT.es,GT.kids] at h
  refine Zf [] func244 rfl ntmps244 results244 ?_
  ((try push_cast)<;>repeat' (first|apply Zi<;>intro _|exact Zp|with_reducible apply Za)<;>try push_cast)
  simp only[GT.size,GT.es,GT.kids]
  rw[Aa (by omega) (by omega)];simp
def GT.sound(t:GT)(root:Bool):Bool:=match t with
 |.nil=>root
 |t=>!t.thin&&(root ||decide (4<=t.size))
theorem c_Sound(t:GT)(root:Bool)(h:t.size<=4611686018427387904):A0 prog 306 [A8 t,.val (.bool root)] (.val (.bool (t.sound root))):=by
 cases t with
 |nil=>
  rw[Bk]
  refine Zf [] func306 rfl ntmps306 results306 ?_
  ((try push_cast)<;>repeat' (first|apply Zi<;>intro _|exact Zp|with_reducible apply Za)<;>try push_cast)
  all_goals first|rfl|simp [GT.sound]
 |node e k hh c f l th=>
  have hz:=Qa (.node e k hh c f l th) h
  simp only[GT.size,GT.es,GT.kids] at hz
  rw[AZ] at hz|-
  refine Zf [] func306 rfl ntmps306 results306 ?_
  (have z:=trivial;(try push_cast)<;>repeat' (first|apply Zi<;>intro _|refine Zc (hz ..) ?_|exact Zp|with_reducible apply Za)<;>try push_cast)
  all_goals simp_all [GT.sound,GT.thin,GT.size,GT.es,GT.kids]
  exact decide_eq_decide.2 (by omega)
theorem MB(t:GT)(h:t.es=[]):A0 prog 254 [A8 t] (.slice [] true):=by
 cases t with
 |nil=>
  rw[Bk]
  refine Zf [] func254 rfl ntmps254 results254 ?_
  ((try push_cast)<;>repeat' (first|apply Zi<;>intro _|exact Zp|with_reducible apply Za)<;>try push_cast)
 |node e k hh c f l th=>
  simp only[GT.es] at h
  subst h
  rw[AZ]
  refine Zf [] func254 rfl ntmps254 results254 ?_
  ((try push_cast)<;>repeat' (first|apply Zi<;>intro _|exact Zp|with_reducible apply Za)<;>try push_cast)
theorem DQ(t:GT)(h:t.es≠[])(hl:t.es.length<=1048576)(hs:∀ e ∈ t.es,Sm e.2):A2 prog 254 [A8 t] [] (.sref 0 0 t.es.length t.es.length 7) [(0,.rows (t.es.map A6) 7)]:=by
 cases t with
 |nil=>exact absurd rfl h
 |node e k hh c f l th=>
  simp only[GT.es] at h hl hs|-
  have hn:¬(e.length=0):=fun h'=>h (A0x h')
  rw[AZ]
  refine Zd [] func254 rfl ntmps254 results254 ?_
  have he:((e.length:Int)==0)=false:=by simp;omega
  (have z:=he;(try push_cast[z])<;>repeat' (first|apply Zi<;>intro _|refine Zs [] (Mx e false hl hs) ?_|exact Zo|with_reducible apply Za)<;>try push_cast[z])
  apply Zr [(0,128)] rfl<;>push_cast
theorem X7(l:List GE)(t:Bool)(f:Nat)(hl:l.length<=4611686018427387904)(h:∀ i,1<=i->i<l.length->A0 prog f [.agg (A6 (l.getD (i-1) zM)),.agg (A6 (l.getD i zM))] (.val (.bool true))):
  A0 prog 329 [.slice (l.map A6) t,.func (.func f) [] []] (.val (.bool true)):=by
 refine Zf [] func329 rfl ntmps329 results329 ?_
 ((try push_cast)<;>repeat' (first|apply Zi<;>intro _|exact Zp|with_reducible apply Za)<;>try push_cast)
 refine Zl (fun i=>1<=i/\i<=l.length+1) (fun i=>⟨[(5,.val (.int .i64 i)),(1,.func (.func f) [] []),(0,.slice (l.map A6) t)],[],10⟩) (fun i=>l.length+1-i) 1 (by simp) ?_ fun i hi=>?_
 ·apply Zw<;>push_cast
 ·push_cast
  refine Al (fun ha=>?_) (fun ha=>?_)
  ·have hi':i<l.length:=by simpa using ha
   have e0:IntKind.i64.wrap (↑i-1)=((i-1:Nat):Int):=by rw[Aa (by omega) (by omega)];omega
   have e1:=Bv hi'
   have e2:=Bv (show i-1<l.length by omega)
   have hr:=h i hi.1 hi'
   (have z:=Za e0<|Za e1 e2;(try push_cast[z])<;>repeat' (first|apply Zi<;>intro _|refine Zv (hr ..) ?_|exact Zo|with_reducible apply Za)<;>try push_cast[z])
   all_goals first|omega|skip
   refine⟨i+1,by omega,by omega,?_⟩
   apply Zw<;>push_cast
   exact Aa (by omega) (by omega)
  ·((try push_cast)<;>repeat' (first|apply Zi<;>intro _|exact Zp|with_reducible apply Za)<;>try push_cast)
theorem c_Entry(t:GT)(i:Nat)(hi:i<t.es.length)(hs:∀ e ∈ t.es,Sm e.2):A0 prog 246 [A8 t,.val (.int .i64 i)] (.tup [.agg (A6 (t.es.getD i zM)),.val (.bool true)]):=by
 cases t with
 |nil=>exact absurd hi (by simp[GT.es])
 |node e k hh c f l th=>
  simp only[GT.es] at hi hs|-
  have e1:=Bv hi
  have hr:=K9 (e.getD i zM).2 (hs _ (Ak hi))
  have h0:decide ((i:Int)<0)=false:=by simp
  have h1:decide ((e.length:Int)<=i)=false:=by simp;omega
  rw[AZ]
  refine Zf [] func246 rfl ntmps246 results246 ?_
  (have z:=Za e1<|Za @Ah<|Za h0 h1;(try push_cast[z])<;>repeat' (first|apply Zi<;>intro _|refine Zc (hr ..) ?_|exact Zo|with_reducible apply Za)<;>try push_cast[z])
  all_goals first|omega|skip
theorem Zh:loL z7 (A6 zM):=by simp[zM,A6,A4,Hw,Hx,loL,Cx,lo]
theorem c_Entry0(t:GT)(i:Nat)(hi:t.es.length<=i)(hm:i<=4611686018427387904):A0 prog 246 [A8 t,.val (.int .i64 i)] (.tup [.agg (A6 zM),.val (.bool false)]):=by
 cases t with
 |nil=>
  rw[Bk]
  refine Zf [] func246 rfl ntmps246 results246 ?_
  ((try push_cast)<;>repeat' (first|apply Zi<;>intro _|exact Zp|with_reducible apply Za)<;>try push_cast)
  exact Zh
 |node e k hh c f l th=>
  simp only[GT.es] at hi|-
  have h0:decide ((i:Int)<0)=false:=by simp
  have h1:decide ((e.length:Int)<=i)=true:=by simp;omega
  rw[AZ]
  refine Zf [] func246 rfl ntmps246 results246 ?_
  (have z:=Za h0 h1;(try push_cast[z])<;>repeat' (first|apply Zi<;>intro _|exact Zo|with_reducible apply Za)<;>try push_cast[z])
  exact Zh
theorem c_Leaf1(x y:GE):A0 prog 330 [.agg (A6 x),.agg (A6 y)] (.val (.bool (ltS x.1 y.1))):=by
 refine Zf [] func330 rfl ntmps330 results330 ?_
 (have z:=@Ah;(try push_cast[z])<;>repeat' (first|apply Zi<;>intro _|exact Zo|with_reducible apply Za)<;>try push_cast[z])
def Az(l:List GE):GT:=.node l [] 0 l.length (l.getD 0 zM).1 (l.getD (l.length-1) zM).1 false
theorem c_Leaf(l:List GE)(t:Bool)(hl:l.length<=8)(hs:∀ e ∈ l,Sm e.2)(hr:∀ i,1<=i->i<l.length->ltS (l.getD (i-1) zM).1 (l.getD i zM).1=true):
  A0 prog 303 [.slice (l.map A6) t] (.tup [A8 (Az l),.val (.int .i64 0)]):=by
 have h1:=X7 l t 330 (by omega) fun i h h'=>by
  have:=c_Leaf1 (l.getD (i-1) zM) (l.getD i zM)
  rw[hr i h h'] at this
  exact this
 have h0:decide ((8:Int)<l.length)=false:=decide_eq_false (by omega)
 unfold Az
 rw[AZ]
 rcases A16 l.length with hz|hz
 ·have h2:decide ((0:Int)<l.length)=false:=decide_eq_false (by omega)
  refine Zf [] func303 rfl ntmps303 results303 ?_
  (have z:=Za h0 h2;(try push_cast[z])<;>repeat' (first|apply Zi<;>intro _|refine Zc h1 ?_|refine Zs [] (Mx l t (by omega) hs) ?_|exact Zo|with_reducible apply Za)<;>try push_cast[z])
  all_goals first|omega|exact fun h=>h.elim|exact Z9 (by omega) (by simp) rfl|skip
  all_goals rw[A0x hz];rfl
 have h2:decide ((0:Int)<l.length)=true:=decide_eq_true (by omega)
 have e0:IntKind.i64.wrap (↑l.length-1)=((l.length-1:Nat):Int):=by rw[Aa (by omega) (by omega)];omega
 have e1:=Bv hz
 have e2:=Bv (show l.length-1<l.length by omega)
 refine Zf [] func303 rfl ntmps303 results303 ?_
 (have z:=Za h0<|Za h2<|Za e0<|Za e1<|Za e2 @Ah;(try push_cast[z])<;>repeat' (first|apply Zi<;>intro _|refine Zc h1 ?_|refine Zs [] (Mx l t (by omega) hs) ?_|exact Zo|with_reducible apply Za)<;>try push_cast[z])
 all_goals first|omega|exact fun h=>h.elim|exact Z9 (by omega) (by simp) rfl|skip
theorem c_CloneK(l:List GT)(hl:0<l.length)(hm:l.length<=1048576):A2 prog 292 [.slice (l.map Ai) false] [] (.gref 0 l.length) [(0,.grow (l.map Ai) 1)]:=by
 have h0:decide (l.length<=0)=false:=decide_eq_false (by omega)
 refine Zd [] func292 rfl ntmps292 results292 ?_
 (have z:=h0;(try push_cast[z])<;>repeat' (first|apply Zi<;>intro _|exact Zo|with_reducible apply Za)<;>try push_cast[z])
 all_goals first|omega|skip
 intro _
 (have z:=h0;(try push_cast[z])<;>repeat' (first|apply Zi<;>intro _|exact Zo|with_reducible apply Za)<;>try push_cast[z])
 all_goals first|omega|(simp[Ai];done)|skip
 apply Zr [(0,48)] rfl<;>push_cast
theorem F6(t:GT)(hl:0<t.kids.length)(hm:t.kids.length<=1048576):A2 prog 242 [A8 t] [] (.gref 0 t.kids.length) [(0,.grow (t.kids.map Ai) 1)]:=by
 cases t with
 |nil=>exact absurd hl (by simp[GT.kids])
 |node e k hh c f l th=>
  simp only[GT.kids] at hl hm|-
  rw[AZ]
  refine Zd [] func242 rfl ntmps242 results242 ?_
  (have z:=trivial;(try push_cast)<;>repeat' (first|apply Zi<;>intro _|refine Zs [] (c_CloneK k hl hm) ?_|exact Zp|with_reducible apply Za)<;>try push_cast)
  apply Zr [(0,64)] rfl<;>push_cast
theorem X6(l:List GT)(t:Bool)(f:Nat)(hl:l.length<=4611686018427387904)(h:∀ i,1<=i->i<l.length->A0 prog f [A8 (l.getD (i-1) .nil),A8 (l.getD i .nil)] (.val (.bool true))):
  A0 prog 307 [.slice (l.map Ai) t,.func (.func f) [] []] (.val (.bool true)):=by
 refine Zf [] func307 rfl ntmps307 results307 ?_
 ((try push_cast)<;>repeat' (first|apply Zi<;>intro _|exact Zp|with_reducible apply Za)<;>try push_cast)
 refine Zl (fun i=>1<=i/\i<=l.length+1) (fun i=>⟨[(5,.val (.int .i64 i)),(1,.func (.func f) [] []),(0,.slice (l.map Ai) t)],[],10⟩) (fun i=>l.length+1-i) 1 (by simp) ?_ fun i hi=>?_
 ·apply Zw<;>push_cast
 ·push_cast
  refine Al (fun ha=>?_) (fun ha=>?_)
  ·have hi':i<l.length:=by simpa using ha
   have e0:IntKind.i64.wrap (↑i-1)=((i-1:Nat):Int):=by rw[Aa (by omega) (by omega)];omega
   have e1:=Be hi'
   have e2:=Be (show i-1<l.length by omega)
   have hr:=h i hi.1 hi'
   (have z:=Za e0<|Za e1<|Za e2 @Ai.eq_1;(try push_cast[z])<;>repeat' (first|apply Zi<;>intro _|refine Zv (hr ..) ?_|exact Zo|with_reducible apply Za)<;>try push_cast[z])
   all_goals first|omega|skip
   refine⟨i+1,by omega,by omega,?_⟩
   apply Zw<;>push_cast
   exact Aa (by omega) (by omega)
  ·((try push_cast)<;>repeat' (first|apply Zi<;>intro _|exact Zp|with_reducible apply Za)<;>try push_cast)
theorem c_Inner1(x y:GT)(hx:x≠ .nil)(hy:y≠ .nil):A0 prog 308 [A8 x,A8 y] (.val (.bool (ltS x.last y.first))):=by
 cases x with
 |nil=>exact absurd rfl hx
 |node=>
  cases y with
  |nil=>exact absurd rfl hy
  |node=>
   rw[AZ,AZ]
   refine Zf [] func308 rfl ntmps308 results308 ?_
   ((try push_cast)<;>repeat' (first|apply Zi<;>intro _|exact Zp|with_reducible apply Za)<;>try push_cast)
   all_goals rfl
def Hj(l:List GT)(i:Nat):Int:=((l.take i).map GT.count).sum
def F9(l:List GT)(i:Nat):Bool:=(l.take i).any fun k=>!k.sound false
theorem HE{α:Type}{l:List α}{i:Nat}(d:α)(h:i<l.length):l.take (i+1)=l.take i++[l.getD i d]:=by
 rw[List.take_add_one,A0b h,A02,A0b h];rfl
theorem WZ{l:List GT}{i:Nat}(h:i<l.length):Hj l (i+1)=Hj l i+(l.getD i .nil).count:=by
 rw[Hj,HE .nil h,A0F,List.sum_append];simp[Hj]
theorem SR{l:List GT}{i:Nat}(h:i<l.length):F9 l (i+1)=(F9 l i ||!(l.getD i .nil).sound false):=by
 rw[F9,HE .nil h,List.any_append];simp only[List.any_cons,List.any_nil,A1Q,F9]
def AM(l:List GT):GT:=.node [] l ((l.getD 0 .nil).height+1) (Hj l l.length) (l.getD 0 .nil).first (l.getD (l.length-1) .nil).last (F9 l l.length)
theorem SU{l:List GT}{i:Nat}(h:i<l.length):(l.take i).map Ai++[[A8 (l.getD i .nil)]]=(l.take (i+1)).map Ai:=by
 rw[HE .nil h,A0F];rfl
theorem GT.ne_nil{t:GT}(h:t≠ .nil):∃ e k hh c f l th,t=.node e k hh c f l th:=by
 cases t with
 |nil=>exact absurd rfl h
 |node e k hh c f l th=>exact ⟨e,k,hh,c,f,l,th,rfl⟩
def inK(l:List GT):Nat->D
 |0=>.slice [] true
 |i+1=>.gref 4 (i+1)
def inH(l:List GT):Nat->Hp
 |0=>[]
 |i+1=>[(4,.grow ((l.take (i+1)).map Ai) 1)]
theorem PS(l:List GT){i:Nat}(h:0<i):inK l i=.gref 4 i/\inH l i=[(4,.grow ((l.take i).map Ai) 1)]:=by
 cases i with
 |zero=>exact absurd h (by simp)
 |succ i=>exact ⟨rfl,rfl⟩
theorem ZN(l:List GT){i:Nat}(h:i=0):inK l i=.slice [] true/\inH l i=[]:=by subst h;exact⟨rfl,rfl⟩
def inS(l:List GT)(H:Int)(i:Nat):St:=⟨[(24,.val (.int .i64 i)),(23,.val (.int .i64 l.length)),(22,.slice (l.map Ai) false),(4,.ref 128 0 0 7),(0,.slice (l.map Ai) false)],(128,.rows [[.slice [] true,inK l i,.val (.int .i64 H),.val (.int .i64 (Hj l i)),.val (.string ByteArray.empty),.val (.string ByteArray.empty),.val (.bool (F9 l i))]] 7)::inH l i,100⟩
theorem c_Inner(l:List GT)(h2:2<=l.length)(h8:l.length<=8)(hn:∀ i,i<l.length->l.getD i .nil≠ .nil/\(l.getD i .nil).count≠0/\(l.getD i .nil).height=(l.getD 0 .nil).height/\(l.getD i .nil).size<=8)
  (hh:0<=(l.getD 0 .nil).height/\(l.getD 0 .nil).height<=4611686018427387904) (hc:∀ i,i<=l.length->0<=Hj l i/\Hj l i<=4611686018427387904) (hr:∀ i,1<=i->i<l.length->ltS (l.getD (i-1) .nil).last (l.getD i .nil).first=true):
  A0 prog 261 [.slice (l.map Ai) false] (.tup [A8 (AM l),.val (.int .i64 0)]):=by
 have h1:=X6 l false 308 (by omega) fun i h h'=>by
  have:=c_Inner1 (l.getD (i-1) .nil) (l.getD i .nil) (hn _ (by omega)).1 (hn _ h').1
  rw[hr i h h'] at this
  exact this
 have b1:decide ((l.length:Int)<2)=false:=decide_eq_false (by omega)
 have b2:decide ((8:Int)<l.length)=false:=decide_eq_false (by omega)
 have e1:=Be (show 0<l.length by omega)
 have hH:=Bz (l.getD 0 .nil)
 have w1:IntKind.i64.wrap ((l.getD 0 .nil).height+1)=(l.getD 0 .nil).height+1:=Aa (by omega) (by omega)
 unfold AM
 rw[AZ]
 refine Zf [] func261 rfl ntmps261 results261 ?_
 (have z:=Za b1<|Za b2<|Za e1<|Za @Ai.eq_1 w1;(try push_cast[z])<;>repeat' (first|apply Zi<;>intro _|refine Zc hH ?_|exact Zo|with_reducible apply Za)<;>try push_cast[z])
 all_goals first|omega|skip
 refine Zl (fun i=>i<=l.length) (fun i=>inS l ((l.getD 0 .nil).height+1) i) (fun i=>l.length-i) 0 (by simp) ?_ fun i hi=>?_
 ·unfold inS inK inH
  have:Hj l 0=0:=rfl
  have:F9 l 0=false:=rfl
  apply Zw<;>push_cast
  exact⟨rfl,rfl⟩
 ·unfold inS
  push_cast
  refine Al (fun ha=>?_) (fun ha=>?_)
  ·have hi':i<l.length:=by simpa using ha
   obtain⟨n1,n2,n3,n4⟩:=hn i hi'
   have e2:=Be hi'
   have hC:=Qd (l.getD i .nil)
   have hS:=c_Sound (l.getD i .nil) false (by omega)
   have k1:=WZ hi'
   have k2:=SR hi'
   have k3:=SU hi'
   have k4:=hc (i+1) hi'
   generalize l.getD i .nil=x at n1 n2 n3 n4 e2 hC hS k1 k2 k3
   obtain⟨e,k,hh',c,f,la,th,rfl⟩:=GT.ne_nil n1
   simp only[GT.count,GT.height] at n2 n3 k1 hC
   rw[AZ] at hC hS k3
   simp only[Ai,AZ] at e2
   have b3:((c:Int)==0)=false:=by simpa using n2
   have b4:IntKind.i64.wrap (hh'+1)=(l.getD 0 .nil).height+1:=by rw[n3];exact w1
   have b5:IntKind.i64.wrap (Hj l i+c)=Hj l (i+1):=by rw[<-k1];exact Aa (by omega) (by omega)
   have k5:(l.take i).length=i:=by rw[A0C];omega
   obtain⟨g3,g4⟩:=PS l (Nat.succ_pos i)
   rcases A16 i with hz|hz
   ·obtain⟨g1,g2⟩:=ZN l hz
    rw[g1,g2]
    (have z:=Za e2<|Za b3<|Za b4<|Za b5 k5;(try push_cast[z])<;>repeat' (first|apply Zi<;>intro _|refine Zc hC ?_|refine Zc hS ?_|exact Zo|with_reducible apply Za)<;>try push_cast[z])
    all_goals first|omega|(intro y hy;cases hy;done)|(intro y hy;cases A0a.1 hy;rfl)|(intro y hy d hd;cases A0a.1 hy;cases A0a.1 hd;rfl)|(simp[Ai];done)|skip
    all_goals
     refine⟨i+1,hi',by omega,?_⟩
     rw[g3,g4,<-k3,k2]
     apply Zr [(4,408)] rfl<;>push_cast
    all_goals first|exact Aa (by omega) (by omega)|(rw[show F9 l i=true by assumption];rfl)|(rw[show F9 l i=false by assumption];rfl)|skip
    all_goals
     subst hz
     refine⟨⟨Am _,?_⟩,BC _⟩
     first|(rw[show F9 l 0=true by assumption];rfl)|(rw[show F9 l 0=false by assumption];rfl)
   ·obtain⟨g1,g2⟩:=PS l hz
    rw[g1,g2]
    (have z:=Za e2<|Za b3<|Za b4<|Za b5 k5;(try push_cast[z])<;>repeat' (first|apply Zi<;>intro _|refine Zc hC ?_|refine Zc hS ?_|exact Zo|with_reducible apply Za)<;>try push_cast[z])
    all_goals first|omega|(intro y hy;cases hy;done)|(intro y hy;cases A0a.1 hy;rfl)|(intro y hy d hd;cases A0a.1 hy;cases A0a.1 hd;rfl)|(simp[Ai];done)|skip
    all_goals
     refine⟨i+1,hi',by omega,?_⟩
     rw[g3,g4,<-k3,k2]
     apply Zr [(4,408)] rfl<;>push_cast
    all_goals first|exact Aa (by omega) (by omega)|(rw[show F9 l i=true by assumption];rfl)|(rw[show F9 l i=false by assumption];rfl)
  ·have hi':i=l.length:=by simp at ha;omega
   subst hi'
   obtain⟨g1,g2⟩:=PS l (show 0<l.length by omega)
   have k5:(l.take l.length).length=l.length:=by rw[A0C];omega
   have e0:IntKind.i64.wrap (↑l.length-1)=((l.length-1:Nat):Int):=by rw[Aa (by omega) (by omega)];omega
   have e3:=Be (show l.length-1<l.length by omega)
   have m0:=(hn 0 (by omega)).1
   have m1:=(hn (l.length-1) (by omega)).1
   generalize l.getD (l.length-1) .nil=y at m1 e3
   generalize l.getD 0 .nil=x at m0 e1 w1
   obtain⟨e,k,hh',c,f,la,th,rfl⟩:=GT.ne_nil m0
   obtain⟨e',k',hh2,c',f',la',th',rfl⟩:=GT.ne_nil m1
   simp only[Ai,AZ] at e1 e3
   rw[g1,g2]
   (have z:=Za e0<|Za e1<|Za e3 k5;(try push_cast[z])<;>repeat' (first|apply Zi<;>intro _|refine Zc h1 ?_|exact Zo|with_reducible apply Za)<;>try push_cast[z])
   all_goals first|omega|exact fun h=>h.elim|rfl|(rw[A1j];exact BC _)|skip
def BT(p:Nat->Bool):Nat->Nat->Nat
 |i,0=>i
 |i,n+1=>if p i then i else BT p (i+1) n
theorem K1{p:Nat->Bool}{n k:Nat}:∀ (m i:Nat),i+m=n->i<=k->k<=n->(∀ x,i<=x->x<k->p x=false)->(∀ x,k<=x->x<n->p x=true)->BT p i m=k
 |0,i,h1,h2,h3,h4,h5=>by simp only[BT];omega
 |m+1,i,h1,h2,h3,h4,h5=>by
  simp only[BT]
  by_cases hk:i=k
  ·subst hk;rw[if_pos (h5 i (A08 _) (by omega))]
  ·rw[if_neg (by rw[h4 i (A08 _) (by omega)];simp)]
   exact K1 m (i+1) (by omega) (by omega) h3 (fun x hx hk=>h4 x (by omega) hk) h5
theorem Es(p:Nat->Bool):∀ (m i:Nat),BT p i m<=i+m
 |0,i=>by simp[BT]
 |m+1,i=>by
  simp only[BT]
  split
  ·omega
  ·have:=Es p m (i+1);omega
theorem mid_eq{i j:Nat}(h:i+j<9223372036854775808):IntKind.i64.wrap ((IntKind.u64.wrap (IntKind.i64.wrap (↑i+↑j))).fdiv (2^min 1 IntKind.u64.bits))=(((i+j)/2:Nat):Int):=by
 have e1:IntKind.i64.wrap (↑i+↑j)=(↑i+↑j:Int):=Aa (by omega) (by omega)
 have e2:IntKind.u64.wrap (↑i+↑j:Int)=(↑i+↑j:Int):=by simp only[IntKind.wrap,IntKind.bits,IntKind.signed];simp;omega
 have e3:((2:Int)^min 1 IntKind.u64.bits)=2:=by rfl
 rw[e1,e2,e3]
 have e4:(↑i+↑j:Int).fdiv 2=(((i+j)/2:Nat):Int):=by
  rw[Int.fdiv_eq_ediv_of_nonneg _ (by decide)];omega
 rw[e4]
 exact Aa (by omega) (by omega)
theorem Ju(n:Nat)(g:Nat)(cs:List D)(p:Nat->Bool)(hpu:Af cs=true)(hn:n<=4611686018427387904)(h:∀ i,i<n->A0 prog g (.val (.int .i64 i)::cs) (.val (.bool (p i))))(hm:∀ i j,i<=j->j<n->p i=true->p j=true):
  A0 prog 132 [.val (.int .i64 n),.func (.func g) [] cs] (.val (.int .i64 (BT p 0 n))):=by
 refine Zf [] func132 rfl ntmps132 results132 ?_
 ((try push_cast)<;>repeat' (first|apply Zi<;>intro _|exact Zp|with_reducible apply Za)<;>try push_cast)
 refine AWp.loopI mixed (by kernel_rfl) (ι:=Nat×Nat) (fun q=>q.1<=q.2/\q.2<=n/\(∀ x,x<q.1->p x=false)/\(∀ x,q.2<=x->x<n->p x=true)) (fun q=>⟨[(5,.val (.int .i64 q.1)),(6,.val (.int .i64 q.2)),(1,.func (.func g) [] cs)],[],0⟩) (fun q=>q.2-q.1) (0,n) (by simp;intro x h1 h2;omega) ?_ fun q hq=>?_
 ·apply Zw<;>push_cast<;>simp [hpu,BN,Ck,Jc,lo]
 ·obtain⟨i,j⟩:=q
  obtain⟨h1,h2,h3,h4⟩:=hq
  simp only at h1 h2 h3 h4
  push_cast
  refine Al (fun ha=>?_) (fun ha=>?_)
  ·have ha':i<j:=by simpa using ha
   have em:=mid_eq (i:=i) (j:=j) (by omega)
   have hmn:(i+j)/2<n:=by omega
   have hij:i<=(i+j)/2/\(i+j)/2<j:=by omega
   generalize(i+j)/2=m at em hmn hij
   (have z:=Za em @hpu;(try push_cast[z])<;>repeat' (first|apply Zi<;>intro _|refine Zv (h m hmn) ?_|exact Zo|with_reducible apply Za)<;>try push_cast[z])
   ·rename_i k
    simp only[Bool.not_eq_true'] at k
    refine⟨(m+1,j),⟨by simp only;omega,h2,fun x hx=>?_,h4⟩,by simp only;omega,?_⟩
    ·cases hp:p x with
     |false=>rfl
     |true=>have:=hm x m (by simp only at hx;omega) hmn hp;rw[this] at k;cases k
    ·apply Zw<;>push_cast<;>simp [hpu,BN,Ck,Jc,lo]
     exact Aa (by omega) (by omega)
   ·rename_i k
    simp only[Bool.not_eq_false'] at k
    refine⟨(i,m),⟨by simp only;omega,by simp only;omega,h3,fun x hx hxn=>hm m x (by simp only at hx;omega) hxn k⟩,by simp only;omega,?_⟩
    apply Zw<;>push_cast<;>simp [hpu,BN,Ck,Jc,lo]
  ·((try push_cast)<;>repeat' (first|apply Zi<;>intro _|exact Zp|with_reducible apply Za)<;>try push_cast)
   have:i=j:=by simp at ha;omega
   subst this
   rw[K1 n 0 (by omega) (A0J _) h2 (fun x _ hx=>h3 x hx) h4]
theorem ba_empty(k:ByteArray):(k=⟨#[]⟩)↔k.size=0:=by
 constructor
 ·intro h;subst h;rfl
 ·intro h
  apply MD
  have:(bl k).length=0:=h
  rw[A0U.1 this];rfl
def FK(valid:Bool)(k:ByteArray):Int:=if k.size=0 then 8 else if 64<k.size then 6 else if valid then 0 else 3
abbrev Qg(k:ByteArray):D:=.ptr [.val (.string k)] 0
theorem Ud(k:ByteArray):A0 prog 264 [Qg k] (.val (.bool (decide (k.size=0)))):=by
 refine Zf [] func264 rfl ntmps264 results264 ?_
 ((try push_cast)<;>repeat' (first|apply Zi<;>intro _|exact Zp|with_reducible apply Za)<;>try push_cast)
 simp[ba_empty]
theorem Uc(k:ByteArray):A0 prog 265 [Qg k] (.val (.bool (decide (64<k.size)))):=by
 refine Zf [] func265 rfl ntmps265 results265 ?_
 ((try push_cast)<;>repeat' (first|apply Zi<;>intro _|exact Zp|with_reducible apply Za)<;>try push_cast)
 congr 1;exact propext (by omega)
theorem Ub(k:ByteArray)(v:Bool)(hv:A0 prog 108 [.val (.string k)] (.val (.bool v))):A0 prog 266 [Qg k] (.val (.bool (!v))):=by
 refine Zf [] func266 rfl ntmps266 results266 ?_
 (have z:=trivial;(try push_cast)<;>repeat' (first|apply Zi<;>intro _|refine Zc (hv ..) ?_|exact Zp|with_reducible apply Za)<;>try push_cast)
theorem X8(k:ByteArray):A0 prog 208 [.val (.string k)] (.slice [[.val (.int .i64 8),.func (.func 264) [] [Qg k]],[.val (.int .i64 6),.func (.func 265) [] [Qg k]],[.val (.int .i64 3),.func (.func 266) [] [Qg k]]] false):=by
 refine Zf [0] func208 rfl ntmps208 results208 ?_
 ((try push_cast)<;>repeat' (first|apply Zi<;>intro _|exact Zp|with_reducible apply Za)<;>try push_cast)
 all_goals simp
theorem Xg(k:ByteArray)(v:Bool)(hv:A0 prog 108 [.val (.string k)] (.val (.bool v))):A0 prog 137 [.val (.string k)] (.val (.int .i64 (FK v k))):=by
 refine Zf [] func137 rfl ntmps137 results137 ?_
 (have z:=trivial;(try push_cast)<;>repeat' (first|apply Zi<;>intro _|refine Zc (X8 ..) ?_|exact Zp|with_reducible apply Za)<;>try push_cast)
 refine Zl (fun i=>i<=3/\(0<i->k.size≠0)/\(1<i->k.size<=64)/\(2<i->v=true)) (fun i=>⟨[(8,.val (.int .i64 i)),(7,.val (.int .i64 3)),(6,.slice [[.val (.int .i64 8),.func (.func 264) [] [Qg k]],[.val (.int .i64 6),.func (.func 265) [] [Qg k]],[.val (.int .i64 3),.func (.func 266) [] [Qg k]]] false)],[],0⟩) (fun i=>3-i) 0 (by simp) ?_ fun i hi=>?_
 ·apply Zw<;>push_cast<;>simp
 ·obtain⟨h1,h2,h3,h4⟩:=hi
  have hc:i=0∨i=1∨i=2∨i=3:=by omega
  rcases hc with rfl|rfl|rfl|rfl
  ·(have z:=trivial;(try push_cast)<;>repeat' (first|apply Zi<;>intro _|refine Zv (Ud ..) ?_|exact Zp|with_reducible apply Za)<;>try push_cast)
   ·rename_i h;simp only[decide_eq_true_eq] at h;simp[FK,h]
   ·rename_i h;simp only[decide_eq_false_iff_not] at h
    refine⟨1,⟨by omega,fun _=>h,by omega,by omega⟩,by omega,?_⟩
    apply Zw<;>push_cast<;>simp [Aa]
  ·(have z:=trivial;(try push_cast)<;>repeat' (first|apply Zi<;>intro _|refine Zv (Uc ..) ?_|exact Zp|with_reducible apply Za)<;>try push_cast)
   ·rename_i h;simp only[decide_eq_true_eq] at h
    have:=h2 (by omega)
    simp[FK,h,this]
   ·rename_i h;simp only[decide_eq_false_iff_not] at h
    refine⟨2,⟨by omega,fun _=>h2 (by omega),fun _=>by omega,by omega⟩,by omega,?_⟩
    apply Zw<;>push_cast<;>simp [Aa]
  ·(have z:=trivial;(try push_cast)<;>repeat' (first|apply Zi<;>intro _|exact Zp|with_reducible apply Za|(with_reducible show A1 _ _ _ _ _ _ _ _;refine A1.callV rfl (by(try push_cast);exact Ub _ _ hv) (by first|exact .inl rfl|exact .inr ⟨_,_,_,rfl,rfl,rfl⟩) rfl (by first|rfl|push_cast) ?_)<;>try push_cast|fail)<;>try push_cast)
   ·rename_i h
    have g1:=h2 (by omega)
    have g2:=h3 (by omega)
    have g3:¬64<k.size:=by omega
    simp only[Bool.not_eq_true'] at h
    simp[FK,g1,g3,h]
   ·rename_i h
    simp only[Bool.not_eq_false'] at h
    refine⟨3,⟨by omega,fun _=>h2 (by omega),fun _=>h3 (by omega),fun _=>h⟩,by omega,?_⟩
    apply Zw<;>push_cast<;>simp [Aa]
  ·((try push_cast)<;>repeat' (first|apply Zi<;>intro _|exact Zp|with_reducible apply Za)<;>try push_cast)
   have g1:=h2 (by omega)
   have g2:=h3 (by omega)
   have g3:¬64<k.size:=by omega
   simp[FK,g1,g3,h4]
theorem Sg(l:List GT)(k:ByteArray)(i:Nat)(hi:i<l.length):A0 prog 293 [.val (.int .i64 i),.ptr [.slice (l.map Ai) false] 0,.ptr [.val (.string k)] 0] (.val (.bool (ltS k (l.getD i .nil).first))):=by
 have ea:=Be hi
 refine Zf [] func293 rfl ntmps293 results293 ?_
 (have z:=Za ea @Ai.eq_1;(try push_cast[z])<;>repeat' (first|apply Zi<;>intro _|refine Zc (c_First ..) ?_|exact Zo|with_reducible apply Za)<;>try push_cast[z])
 all_goals omega
def AD(l:List GT)(k:ByteArray):Nat:=BT (fun i=>ltS k (l.getD i .nil).first) 0 l.length-1
theorem DN(l:List GT)(k:ByteArray)(hm:∀ i j,i<=j->j<l.length->ltS k (l.getD i .nil).first=true->ltS k (l.getD j .nil).first=true)(hn:l.length<=4611686018427387904):
  A0 prog 243 [.slice (l.map Ai) false,.val (.string k)] (.val (.int .i64 (AD l k))):=by
 have hs:=Ju l.length 293 [.ptr [.slice (l.map Ai) false] 0,.ptr [.val (.string k)] 0] (fun i=>ltS k (l.getD i .nil).first) (by simp only[Af,D.pure,C6,A0E]) hn (fun i hi=>Sg l k i hi) hm
 refine Zf [0,8] func243 rfl ntmps243 results243 ?_
 (have z:=trivial;(try push_cast)<;>repeat' (first|apply Zi<;>intro _|refine Zc (hs ..) ?_|exact Zp|with_reducible apply Za)<;>try push_cast)
 have hle:=Es (fun i=>ltS k (l.getD i .nil).first) l.length 0
 unfold AD
 generalize BT (fun i=>ltS k (l.getD i .nil).first) 0 l.length=m at hle
 rw[Aa (by omega) (by omega)]
 split<;>omega
theorem c_place1(l:List GE)(t:Bool)(k:ByteArray)(i:Nat)(hi:i<l.length):A0 prog 300 [.val (.int .i64 i),.ptr [.slice (l.map A6) t] 0,.ptr [.val (.string k)] 0] (.val (.bool (!ltS (l.getD i zM).1 k))):=by
 have ea:=Bv hi
 refine Zf [] func300 rfl ntmps300 results300 ?_
 (have z:=Za ea @Ah;(try push_cast[z])<;>repeat' (first|apply Zi<;>intro _|exact Zo|with_reducible apply Za)<;>try push_cast[z])
 all_goals first|omega|skip
def By(l:List GE)(k:ByteArray):Nat:=BT (fun i=>!ltS (l.getD i zM).1 k) 0 l.length
def DK(l:List GE)(k:ByteArray):Bool:=decide (By l k<l.length)&&decide ((l.getD (By l k) zM).1=k)
theorem Js(l:List GE)(t:Bool)(k:ByteArray)(hm:∀ i j,i<=j->j<l.length->ltS (l.getD i zM).1 k=false->ltS (l.getD j zM).1 k=false)(hn:l.length<=4611686018427387904):
  A0 prog 255 [.slice (l.map A6) t,.val (.string k)] (.tup [.val (.int .i64 (By l k)),.val (.bool (DK l k))]):=by
 have hs:=Ju l.length 300 [.ptr [.slice (l.map A6) t] 0,.ptr [.val (.string k)] 0] (fun i=>!ltS (l.getD i zM).1 k) (by simp only[Af,D.pure,BP,A0E]) hn (fun i hi=>c_place1 l t k i hi) (fun i j h h' h2=>by have:=hm i j h h';revert this h2;cases ltS (l.getD i zM).1 k<;>simp)
 refine Zf [0,8] func255 rfl ntmps255 results255 ?_
 rcases A0O (By l k) l.length with hp|hp
 ·have h0:decide ((By l k:Int)<l.length)=true:=decide_eq_true (by omega)
  have ea:=Bv hp
  unfold DK
  rw[decide_eq_true hp]
  unfold By at h0 ea hp|-
  (have z:=Za h0<|Za ea @Ah;(try push_cast[z])<;>repeat' (first|apply Zi<;>intro _|refine Zc (hs ..) ?_|exact Zo|with_reducible apply Za)<;>try push_cast[z])
  all_goals first|omega|skip
 ·have h0:decide ((By l k:Int)<l.length)=false:=decide_eq_false (by omega)
  unfold DK
  rw[decide_eq_false (by omega)]
  unfold By at h0 hp|-
  (have z:=h0;(try push_cast[z])<;>repeat' (first|apply Zi<;>intro _|refine Zc (hs ..) ?_|exact Zo|with_reducible apply Za)<;>try push_cast[z])
  all_goals first|omega|skip
theorem A00(l:List GE)(t:Bool)(hl:l.length<=8)(hs:∀ e ∈ l,Sm e.2)(hr:∀ i,1<=i->i<l.length->ltS (l.getD (i-1) zM).1 (l.getD i zM).1=true):
  A0 prog 258 [.slice (l.map A6) t] (A8 (Az l)):=by
 have h:=c_Leaf l t hl hs hr
 refine Zf [] func258 rfl ntmps258 results258 ?_
 (have z:=trivial;(try push_cast)<;>repeat' (first|apply Zi<;>intro _|refine Zc h ?_|exact Zp|with_reducible apply Za)<;>try push_cast)
def Dr(l:List GT):GT:=if l.length=1 then l.getD 0 .nil else AM l
structure OkK(l:List GT):Prop where
 h8:l.length<=8
 hn:∀ i,i<l.length->l.getD i .nil≠ .nil/\(l.getD i .nil).count≠0/\(l.getD i .nil).height=(l.getD 0 .nil).height/\(l.getD i .nil).size<=8
 hh:0<=(l.getD 0 .nil).height/\(l.getD 0 .nil).height<=4611686018427387904
 hc:∀ i,i<=l.length->0<=Hj l i/\Hj l i<=4611686018427387904
 hr:∀ i,1<=i->i<l.length->ltS (l.getD (i-1) .nil).last (l.getD i .nil).first=true
structure OkE(l:List GE):Prop where
 hl:l.length<=8
 hs:∀ e ∈ l,Sm e.2
 hr:∀ i,1<=i->i<l.length->ltS (l.getD (i-1) zM).1 (l.getD i zM).1=true
theorem Dv(l:List GT)(h1:1<=l.length)(h:OkK l):A0 prog 205 [.slice (l.map Ai) false] (A8 (Dr l)):=by
 have e1:=Be (show 0<l.length by omega)
 unfold Dr
 rcases Nat.eq_or_lt_of_le h1 with hz|hz
 ·have h0:((l.length:Int)==1)=true:=by simp;omega
  rw[if_pos hz.symm]
  refine Zf [] func205 rfl ntmps205 results205 ?_
  (have z:=Za h0<|Za e1 @Ai.eq_1;(try push_cast[z])<;>repeat' (first|apply Zi<;>intro _|exact Zo|with_reducible apply Za)<;>try push_cast[z])
  all_goals first|omega|exact Am _|exact CB _|exact CD _|skip
 ·have h0:((l.length:Int)==1)=false:=by simp;omega
  have hc:=c_Inner l hz h.h8 h.hn h.hh h.hc h.hr
  rw[if_neg (by omega)]
  refine Zf [] func205 rfl ntmps205 results205 ?_
  (have z:=Za h0<|Za e1 @Ai.eq_1;(try push_cast[z])<;>repeat' (first|apply Zi<;>intro _|refine Zc (hc ..) ?_|exact Zo|with_reducible apply Za)<;>try push_cast[z])
  all_goals first|omega|exact Am _|exact CB _|exact CD _|skip
theorem CB(l:List GE):∀ x ∈ l.map A6,x.length=7:=by
 intro x hx
 obtain⟨y,_,rfl⟩:=A0i.1 hx
 exact Bb y
theorem CD(l:List GT):∀ x ∈ l.map Ai,x.length=1:=by
 intro x hx
 obtain⟨y,_,rfl⟩:=A0i.1 hx
 rfl
theorem C0{l:List (List D)}(h:A3 l=true):∀ n,A3 (l.take n)=true:=by
 induction l with
 |nil=>intro n;simp[A3]
 |cons x l ih=>
  simp only[A3,A09] at h
  intro n
  cases n with
  |zero=>rfl
  |succ n=>simp only[A1t,A3,h.1,ih h.2 n,A0E]
theorem Bx{l:List (List D)}(h:A3 l=true):∀ n,A3 (l.drop n)=true:=by
 induction l with
 |nil=>intro n;simp[A3]
 |cons x l ih=>
  simp only[A3,A09] at h
  intro n
  cases n with
  |zero=>simp only[List.drop_zero,A3,h.1,h.2,A0E]
  |succ n=>exact ih h.2 n
def HH(l:List GE):GT×GT:=if l.length<=8 then(Az l,.nil) else(Az (l.take 4),Az (l.drop 4))
def Gg(l:List GT):GT×GT:=if l.length<=8 then(Dr l,.nil) else(Dr (l.take 4),Dr (l.drop 4))
theorem Sn(l:List GE)(h:if l.length<=8 then OkE l else OkE (l.take 4)/\OkE (l.drop 4)):
  A0 prog 257 [.slice (l.map A6) false,.func (.func 258) [] []] (.tup [A8 (HH l).1,A8 (HH l).2]):=by
 unfold HH
 by_cases hz:l.length<=8
 ·have h0:decide ((l.length:Int)<=8)=true:=decide_eq_true (by omega)
  rw[if_pos hz] at h|-
  have hc:=A00 l false h.hl h.hs h.hr
  rw[Bk]
  refine Zf [] func257 rfl ntmps257 results257 ?_
  (have z:=h0;(try push_cast[z])<;>repeat' (first|apply Zi<;>intro _|refine Zv (hc ..) ?_|exact Zo|with_reducible apply Za)<;>try push_cast[z])
  all_goals first|omega|exact Am _|exact CB _|exact CD _|skip
 ·have h0:decide ((l.length:Int)<=8)=false:=decide_eq_false (by omega)
  rw[if_neg hz] at h|-
  have hc:=A00 (l.take 4) false h.1.hl h.1.hs h.1.hr
  have hd:=A00 (l.drop 4) false h.2.hl h.2.hs h.2.hr
  rw[List.map_take] at hc
  rw[List.map_drop] at hd
  have p1:=C0 (BP l) 4
  have p2:=Bx (BP l) 4
  have tk:List.take (l.length-4) (List.drop 4 (List.map A6 l))=List.drop 4 (List.map A6 l):=A05 (by simp)
  refine Zf [] func257 rfl ntmps257 results257 ?_
  (have z:=Za h0<|Za p1<|Za p2 tk;(try push_cast[z])<;>repeat' (first|apply Zi<;>intro _|refine Zv (hc ..) ?_|refine Zv (hd ..) ?_|exact Zo|with_reducible apply Za)<;>try push_cast[z])
  all_goals first|omega|exact Am _|exact CB _|exact CD _|skip
theorem Sl(l:List GT)(h1:1<=l.length)(h:if l.length<=8 then OkK l else OkK (l.take 4)/\OkK (l.drop 4)):
  A0 prog 260 [.slice (l.map Ai) false,.func (.func 205) [] []] (.tup [A8 (Gg l).1,A8 (Gg l).2]):=by
 unfold Gg
 by_cases hz:l.length<=8
 ·have h0:decide ((l.length:Int)<=8)=true:=decide_eq_true (by omega)
  rw[if_pos hz] at h|-
  have hc:=Dv l h1 h
  rw[Bk]
  refine Zf [] func260 rfl ntmps260 results260 ?_
  (have z:=h0;(try push_cast[z])<;>repeat' (first|apply Zi<;>intro _|refine Zv (hc ..) ?_|exact Zo|with_reducible apply Za)<;>try push_cast[z])
  all_goals first|omega|exact Am _|exact CB _|exact CD _|skip
 ·have h0:decide ((l.length:Int)<=8)=false:=decide_eq_false (by omega)
  rw[if_neg hz] at h|-
  have hc:=Dv (l.take 4) (by simp;omega) h.1
  have hd:=Dv (l.drop 4) (by simp;omega) h.2
  rw[List.map_take] at hc
  rw[List.map_drop] at hd
  have p1:=C0 (C6 l) 4
  have p2:=Bx (C6 l) 4
  have tk:List.take (l.length-4) (List.drop 4 (List.map Ai l))=List.drop 4 (List.map Ai l):=A05 (by simp)
  refine Zf [] func260 rfl ntmps260 results260 ?_
  (have z:=Za h0<|Za p1<|Za p2 tk;(try push_cast[z])<;>repeat' (first|apply Zi<;>intro _|refine Zv (hc ..) ?_|refine Zv (hd ..) ?_|exact Zo|with_reducible apply Za)<;>try push_cast[z])
  all_goals first|omega|exact Am _|exact CB _|exact CD _|skip
end Go.Ab
