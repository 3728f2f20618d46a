/- The layer by which the program is walked, and what its functions do: part 4 of 16. -/
import Derived.Test.YtjopicjammmbjaaGreatDoorV2
import Derived.Test.YtjopicjammmbjaaGreatDoorProg
import Derived.KernelRfl
set_option maxHeartbeats 4000000
set_option maxRecDepth 20000
set_option linter.unusedVariables false
set_option linter.unusedSimpArgs false
set_option linter.unnecessarySimpa false
namespace Go.Ab
open Go.RowKit
def Z2(P:Program)(env:Nat->D)(c x y:Operand):Res:=
 match evO P env c with
 |.val (.bool true)=>pv (evO P env x)
 |.val (.bool false)=>pv (evO P env y)
 |_=>none
def TX(P:Program)(id:Nat)(env:Nat->D)(hp:Nat->Option Blk)(op:Op):Res:=
 match op with
 |.pick c x y=>Z2 P env c x y
 |op=>V5 P id (evO P env) hp op
def BS(ops:Array Oper)(j:Nat):Option Nat:=(ops[j]?).bind (·.dst)
section
variable{P:Program}{ops:Array Oper}{id:Nat}{s0:FSt}{e:Eff}{c:Prop}
theorem WD{env:Nat->D}{hp:Nat->Option Blk}{dst:Option Tmp}{op:Op}{T:TypeId}{pos:String}{af:Array Edge}{gd:Option (Nat×Bool)}(he:TX P id env hp op=some (e,c))(hc:c):B8 P ⟨dst,op,T,pos,af,gd⟩ id (evO P env) hp e:=by
 unfold TX at he
 split at he
 ·rename_i x y z
  unfold Z2 at he
  split at he
  ·rename_i hx
   simp only[pv,A04,A0a] at he;obtain⟨rfl,rfl⟩:=he
   have:=Jo (P:=P) (id:=id) (hp:=hp) (dst:=dst) (T:=T) (pos:=pos) (af:=af) (gd:=gd) x y z true hx
   simpa using this
  ·rename_i hx
   simp only[pv,A04,A0a] at he;obtain⟨rfl,rfl⟩:=he
   have:=Jo (P:=P) (id:=id) (hp:=hp) (dst:=dst) (T:=T) (pos:=pos) (af:=af) (gd:=gd) x y z false hx
   simpa using this
  ·cases he
 ·exact TA he hc
end
def Cj(P:Program)(ops:Array Oper)(nx:Nat)(l:List Oper)(pos:Nat)(acc:List Eff)(s:St)(K:List Eff->St->Prop):Prop:=Run P ops nx l pos acc s (fun E s=>∃ s',s'.fs=s.fs/\K E s')
def Ew(b:Bool)(x y:Prop):Prop:=(b=true->x)/\(b=false->y)
def FC(ops:Array Oper)(g:Option (Nat×Bool))(s:St)(go skip:St->Prop)(stuck:Prop):Prop:=
 match g with
 |none=>go s
 |some (j,want)=>match BS ops j with
  |none=>stuck
  |some t=>match s.env.get t with
   |.val (.bool b)=>Ew b (bif want then go ⟨(t,.val (.bool true))::s.env,s.hp,s.nx⟩ else skip ⟨(t,.val (.bool true))::s.env,s.hp,s.nx⟩) (bif want then skip ⟨(t,.val (.bool false))::s.env,s.hp,s.nx⟩ else go ⟨(t,.val (.bool false))::s.env,s.hp,s.nx⟩)
   |.cond false (.val (.bool _))=>skip s
   |_=>stuck
def Go(P:Program)(ops:Array Oper)(nx:Nat):List Oper->Nat->List Eff->St->(List Eff->St->Prop)->Prop
 |[],_,acc,s,K=>K acc.reverse s
 |o::r,pos,acc,s,K=>FC ops o.guard s
   (fun s=>match TX P (2*(nx+4*pos)) s.env.get (Ai s.hp) o.op with
    |some (e,c)=>c/\Go P ops nx r (pos+1) (e::acc) (s.app o.dst e) K
    |none=>Cj P ops nx (o::r) pos acc s K)
   (fun s=>Go P ops nx r (pos+1) (⟨.cond false (.val (.bool false)),[],[]⟩::acc) (s.app o.dst ⟨.cond false (.val (.bool false)),[],[]⟩) K)
   (Cj P ops nx (o::r) pos acc s K)
theorem FSt.app_eq{s s':St}(h:s'.fs=s.fs)(dst:Option Nat)(e:Eff):(s'.app dst e).fs=(s.app dst e).fs:=by
 rw[St.app_fs,St.app_fs,h]
theorem Run.same{P:Program}{ops:Array Oper}{nx:Nat}{K:List Eff->St->Prop}:∀ {l:List Oper} {pos:Nat} {acc:List Eff} {s s':St},s'.fs=s.fs->Cj P ops nx l pos acc s' K->Cj P ops nx l pos acc s K
 |[],_,_,_,_,h,⟨s'',h1,h2⟩=>⟨s'',h1.trans h,h2⟩
 |o::_,_,_,_,_,h,.inl ⟨e,h1,h2⟩=>.inl ⟨e,h▸h1,Run.same (FSt.app_eq h o.dst e) h2⟩
 |o::_,_,_,_,_,h,.inr (.inl ⟨F,he,h1,h2⟩)=>.inr (.inl ⟨F,he,h▸h1,fun e hF=>Run.same (FSt.app_eq h o.dst e) (h2 e hF)⟩)
 |o::_,_,_,s,s',h,.inr (.inr ⟨d,h1,s'',h2,h3⟩)=>.inr (.inr ⟨d,h▸h1,s'',h2.trans (by
   have:=FSt.app_eq h (some BB) ⟨d,[],[]⟩
   simpa[St.app,Er] using this),h3⟩)
theorem HN{s:St}{t:Nat}{d:D}(h:s.env.get t=d):(⟨(t,d)::s.env,s.hp,s.nx⟩:St).fs=s.fs:=by
 unfold St.fs
 congr 1
 funext u
 simp only[Env.get]
 by_cases hu:t=u
 ·subst hu;simp[h]
 ·have:(t==u)=false:=by simp[hu]
  simp[this]
theorem Sn{ops:Array Oper}{o:Oper}{s:St}{go skip:St->Prop}{stuck:Prop}(h:FC ops o.guard s go skip stuck):
  stuck∨(∃ s',s'.fs=s.fs/\(o.guard=none∨∃ j want t,o.guard=some (j,want)/\BS ops j=some t/\gOf (s'.env.get t) want=some true)/\go s')∨
  (∃ s',s'.fs=s.fs/\(∃ j want t,o.guard=some (j,want)/\BS ops j=some t/\gOf (s'.env.get t) want=some false)/\skip s'):=by
 unfold FC at h
 split at h
 ·rename_i hg
  exact .inr (.inl ⟨s,rfl,.inl hg,h⟩)
 ·rename_i j want hg
  split at h
  ·exact .inl h
  ·rename_i t ht
   split at h
   ·rename_i b hb
    cases want<;>cases b
    ·exact .inr (.inl ⟨_,HN hb,.inr ⟨j,_,t,hg,ht,by simp[Env.get,gOf]⟩,h.2 rfl⟩)
    ·exact .inr (.inr ⟨_,HN hb,⟨j,_,t,hg,ht,by simp[Env.get,gOf]⟩,h.1 rfl⟩)
    ·exact .inr (.inr ⟨_,HN hb,⟨j,_,t,hg,ht,by simp[Env.get,gOf]⟩,h.2 rfl⟩)
    ·exact .inr (.inl ⟨_,HN hb,.inr ⟨j,_,t,hg,ht,by simp[Env.get,gOf]⟩,h.1 rfl⟩)
   ·rename_i hb
    exact .inr (.inr ⟨s,rfl,⟨j,_,t,hg,ht,by rw[hb];rfl⟩,h⟩)
   ·exact .inl h
theorem Go.run{P:Program}{ops:Array Oper}{nx:Nat}:∀ {l:List Oper} {pos:Nat} {acc:List Eff} {s:St} {K:List Eff->St->Prop},Go P ops nx l pos acc s K->Cj P ops nx l pos acc s K
 |[],_,_,s,_,h=>⟨s,rfl,h⟩
 |⟨dst,op,T,ps,af,gd⟩::r,pos,acc,s,K,h=>by
  simp only[Go] at h
  have h':=Sn (o:=⟨dst,op,T,ps,af,gd⟩) h
  rcases h' with h|⟨s',hs,hg,h⟩|⟨s',hs,⟨j,want,t,hg,ht,hf⟩,h⟩
  ·exact h
  ·split at h
   ·rename_i e c he
    refine Run.same hs (.inl ⟨e,?_,Go.run h.2⟩)
    have hd:=WD (dst:=dst) (T:=T) (pos:=ps) (af:=af) (gd:=gd) he h.1
    rcases hg with hg|⟨j,want,t,hg,ht,hf⟩
    ·exact BT.plain hg hd
    ·exact BT.guard_true hg ht hf hd
   ·exact Run.same hs h
  ·exact Run.same hs (.inl ⟨_,BT.guard_false hg ht hf,Go.run h⟩)
def Bc(P:Program)(f:FuncId):Bool:=
 match P.funcs[f]? with
 |some fn=>!(fn.name== "runtime.NumGoroutine")&& !fn.body.isNone
 |none=>false
def A3(P:Program)(f:FuncId)(ds:List D)(r:D):Prop:=
 Bc P f=true/\∀ (w:World) (I:Nat->Prop) (vs:List Value),GIn P w I->(∀ k,I k->k<w.heap.size)->vs.length=ds.length->(∀ i,i<ds.length->Rep w I (fun _=>none) (nd ds i) (nv vs i))->
  Calls P f vs.toArray w fun e w'=>∃ v I',e=.returned v/\Rep w' I' (fun _=>none) r v/\(∀ k,I k->I' k)/\(∀ k,I' k->I k∨w.heap.size<=k)/\(∀ k,I' k->k<w'.heap.size)/\Below w.heap.size w w'
theorem Bn{P:Program}{f:FuncId}(hf:Bc P f=true)(args:Array Value)(w:World):(callFunc f args).run P w=.ok (.enter f args) w:=by
 unfold Bc at hf
 split at hf
 ·rename_i fn hfn
  simp only[A0c,A1e] at hf
  simp only[callFunc,A0m,run_program,Result.andThen,hfn,hf.1,hf.2,A0q,if_false,A0w]
 ·cases hf
theorem Pz{P:Program}{id:Nat}{ev:Operand->D}{hp:Nat->Option Blk}{dst:Option Tmp}{T:TypeId}{pos:String}{af:Array Edge}{gd:Option (Nat×Bool)}{f:FuncId}{args:Array Operand}{ts:Array TypeId}{ds:List D}{r:D}
  (ha:args.toList.map ev=ds) (hpu:Av ds=true) (hc:A3 P f ds r):B8 P ⟨dst,.call {callee:=.value (.func f),args:=args,argTypes:=ts},T,pos,af,gd⟩ id ev hp ⟨r,[],[]⟩:=by
 intro w0 M0 I0 fr I mu h a w hga hw hid hx hb K Q hK
 subst ha
 have hargs:∀ i,i<(args.toList.map ev).length->Rep w I (fun _=>none) (nd (args.toList.map ev) i) (nv (args.toList.map a.eval) i):=by
  intro i hi
  simp only[A0b,A0T] at hi
  have h1:nd (args.toList.map ev) i=ev args[i]:=by simp[nd,A03,hi]
  have h2:nv (args.toList.map a.eval) i=a.eval args[i]:=by simp[nv,A03,hi]
  have h3:=hx args[i] (by simp[Op.operands,Call.operands])
  have h4:=Co hpu i
  rw[h1] at h4
  rw[h1,h2]
  exact h3.unmu h4
 have hcall:=hc.2 w I (args.toList.map a.eval) (hga.at hw) hw.lt (by simp) hargs
 have hrun:(execOp a.eval ⟨dst,.call {callee:=.value (.func f),args:=args,argTypes:=ts},T,pos,af,gd⟩).run P w=.ok (.enter f (args.toList.map a.eval).toArray) w:=by
  have e1:args.map a.eval=(args.toList.map a.eval).toArray:=by apply Array.ext';simp
  simp only[execOp,resolve,Act.eval,Deferred.ofValue,A0m,A0w,Result.andThen,invoke]
  have e2:#[]++args.map a.eval++ #[]=(args.toList.map a.eval).toArray:=by rw[e1];simp
  exact(congrArg (fun z=>(callFunc f z).run P w) e2).trans (Bn hc.1 _ w)
 refine CS hrun ?_
 refine hcall.mono fun e w' ⟨v,I',he,hv,h1,h2,h3,h4⟩=>?_
 subst he
 have hbl:∀ k,k<w.heap.size->w'.heap[k]? =w.heap[k]?:=fun k hk=>h4.block k hk
 have hext:Ext I mu w I' mu w':=⟨h1,fun _ _ h=>h,fun k hk=>hbl k (hw.lt k hk)⟩
 refine hK v w' I' mu hext ⟨fun b x hx=>(hw.blk b x hx).mono hext.w hext.i hext.m fun u k hu hk=>hbl k (hw.loc b x u k hx hu hk).2.2,fun b x u k hx hu hk=>?_,hw.inj,fun b hb=>hw.fresh b hb.1,h3,h4.os.trans hw.os,h4.tape.trans hw.tape,h4.output.trans hw.output,A0L hw.grown h4.size,fun k hk hnm=>(hbl k (by have:=hw.grown;omega)).trans (hw.old k hk hnm),fun k hk=>h1 k (hw.iold k hk),fun k hk=>?_,hw.keep,fun b x hx hb=>hw.used b x hx hb.1⟩ (hv.mono (fun _ _=>rfl) (fun _ h=>h) (fun _ _ h=>by cases h))
 ·have:=hw.loc b x u k hx hu hk
  exact⟨this.1,fun hI=>by rcases h2 k hI with h5|h5;exact this.2.1 h5;omega,A1f this.2.2 h4.size⟩
 ·rcases h2 k hk with h5|h5
  ·exact hw.inew k h5
  ·exact .inr (.inr (A0L hw.grown h5))
theorem Cj.call{P:Program}{ops:Array Oper}{nx:Nat}{dst:Option Tmp}{T:TypeId}{ps:String}{af:Array Edge}{gd:Option (Nat×Bool)}{f:FuncId}{args:Array Operand}{ts:Array TypeId}{ds:List D}{r:D}{l:List Oper}{pos:Nat}{acc:List Eff}{s:St}{K:List Eff->St->Prop}
  (hc:A3 P f ds r) (hg:gd=none∨∃ j want t,gd=some (j,want)/\BS ops j=some t/\gOf (s.env.get t) want=some true) (ha:args.toList.map (evO P s.env.get)=ds) (hpu:Av ds=true)
  (hk:Go P ops nx l (pos+1) (⟨r,[],[]⟩::acc) (s.app dst ⟨r,[],[]⟩) K):Cj P ops nx (⟨dst,.call {callee:=.value (.func f),args:=args,argTypes:=ts},T,ps,af,gd⟩::l) pos acc s K:=by
 refine .inl ⟨_,?_,Go.run hk⟩
 rcases hg with rfl|⟨j,want,t,rfl,ht,hg⟩
 ·exact BT.plain rfl (Pz ha hpu hc)
 ·exact BT.guard_true rfl ht hg (Pz ha hpu hc)
theorem Cj.out{P:Program}{ops:Array Oper}{nx:Nat}{l:List Oper}{pos:Nat}{acc:List Eff}{s:St}{K:List Eff->St->Prop}(h:Cj P ops nx l pos acc s K):Run P ops nx l pos acc s (fun E s=>∃ s',s'.fs=s.fs/\K E s'):=h
attribute [irreducible] Cj
def frz(hp:Nat->Option Blk):Nat->D->D
 |0,d=>d
 |n+1,.ref b i off sz=>match hp b with
  |some (.rows es sz')=>if sz=sz'/\i<es.length then .ptr ((nr es i).map (frz hp n)) off else .ref b i off sz
  |_=>.ref b i off sz
 |n+1,.sref b i len cap sz=>match hp b with
  |some (.rows es sz')=>if sz=sz'/\i+len<=es.length/\len<=cap/\cap<=9223372036854775807 then .slice (bif Am es then(es.drop i).take len else((es.drop i).take len).map fun r=>r.map (frz hp n)) (decide (cap=len)) else .sref b i len cap sz
  |_=>.sref b i len cap sz
 |_+1,.gref b len=>match hp b with
  |some (.grow es _)=>if len=es.length/\Am es=true then .slice es false else .gref b len
  |_=>.gref b len
 |_+1,.gsub b i len sz=>match hp b with
  |some (.grow es sz')=>if sz=sz'/\i+len<=es.length/\Am es=true then .slice ((es.drop i).take len) false else .gsub b i len sz
  |_=>.gsub b i len sz
 |n+1,.agg cs=>.agg (cs.map (frz hp n))
 |n+1,.tup cs=>.tup (cs.map (frz hp n))
 |n+1,.iface t d=>.iface t (frz hp n d)
 |n+1,.func fn fs cs=>.func fn (fs.map (frz hp n)) (cs.map (frz hp n))
 |_+1,d=>d
theorem DN{cs:List D}{f:D->D}{i:Nat}(hi:i<cs.length):nd (cs.map f) i=f (nd cs i):=by simp[nd,A03,hi]
theorem Rep.frz{w0:World}{M0:Nat->Prop}{I0:Gh}{fr I J:Nat->Prop}{mu:Nat->Option Value}{hp:Nat->Option Blk}{w:World}(hr:Aq w0 M0 I0 fr I mu hp w)(hIJ:∀ k,I k->J k)(hJ:∀ b x v k,hp b=some x->mu b=some v->Ap v=some k->J k):
  ∀(n:Nat) (d:D) (v:Value),Rep w I mu d v->Rep w J mu (frz hp n d) v:=by
 have mono:∀ d v,Rep w I mu d v->Rep w J mu d v:=fun d v h=>h.mono (fun _ _=>rfl) hIJ (fun _ _ h=>h)
 intro n
 induction n with
 |zero=>intro d v h;exact mono d v h
 |succ n ih=>
  intro d v h
  cases d with
  |any=>exact mono _ _ h
  |abool n pos=>exact mono _ _ h
  |val x=>exact mono _ _ h
  |cond g d=>exact mono _ _ h
  |slice es t=>exact mono _ _ h
  |ptr cs off=>exact mono _ _ h
  |mref b=>exact mono _ _ h
  |yld b=>exact mono _ _ h
  |gel b i off sz=>exact mono _ _ h
  |gsub b i len sz=>
   simp only[Go.Ab.frz]
   split
   ·rename_i es sz' hx
    split
    ·rename_i hcond
     obtain⟨rfl,hle,hpu⟩:=hcond
     obtain⟨A,cap,T,us,h1,h2,h3,h4⟩:=hr.blk b _ hx
     cases h with
     |gsub _ _ _ _ A' B n cap' hk hcp hB=>
      rw[h1] at hk
      simp only[A04,A0Z] at hk
      obtain⟨rfl,rfl,rfl⟩:=hk
      have hlen':((es.drop i).take len).length=len:=by simp;omega
      rcases A0M len with h0|hpos
      ·subst h0
       rw[List.take_zero]
       exact .slice [] false B 0 0 0 (cap-i) (fun _ _=>.nilFunc) (fun h=>absurd h (by simp)) (A0t _) (fun h=>by cases h) (by omega) (fun i h=>absurd h (by simp)) (fun i j h=>absurd h (by simp)) (fun i j h=>absurd h (by simp))
      rcases h4 with⟨rfl,rfl⟩|⟨k,g0,rfl,g1,g2,g3,g4⟩
      ·simp at hle;omega
      have hnr':∀ j,j<len->nr ((es.drop i).take len) j=nr es (i+j):=by
       intro j hj
       simp only[nr,A03]
       rw[A0z hj,A1d]
      have hB':B=some ⟨k,i*sz,none⟩:=by rw[hB (.inl (by omega))];simp[Cs]
      have:Rep w J mu (.slice ((es.drop i).take len) false) (.slice B ((es.drop i).take len).length (cap-i)):=by
       refine .slice _ _ _ k (i*sz) sz (cap-i) (fun j l=>nv us ((i+j)*sz+l)) (fun _=>⟨hB',fun _=>hJ b _ _ k hx h1 (by simp[Ap];omega)⟩) (by omega) (fun h=>by cases h) (by omega) (fun j hj=>by rw[hlen'] at hj;rw[hnr' j hj];exact h2 _ (by omega)) (fun j l hj hl=>?_) fun j l hj hl=>by rw[hlen'] at hj;rw[hnr' j hj];exact mono _ _ (g4 (i+j) l (by omega) hl)
       rw[hlen'] at hj
       have hlt:(i+j)*sz+l<us.length:=by
        rw[g3]
        have:(i+j)*sz+sz<=cap*sz:=by rw[<-A0O];exact A0h _ (by omega)
        omega
       have e:i*sz+(j*sz+l)=(i+j)*sz+l:=by rw[A1j];omega
       rw[e]
       simp only[World.cell?,g1,A1l,nv]
       rw[if_neg (by simp)]
       simp[A03,hlt]
      rw[hlen'] at this
      exact this
    ·exact mono _ _ h
   ·exact mono _ _ h
  |func fn fs cs=>
   cases h with
   |func _ _ _ us vs hl hk h1 h2=>
   refine .func fn _ _ us vs (by simpa using hl) (by simpa using hk) (fun i hi=>?_) fun i hi=>?_
   ·simp only[A0b] at hi
    rw[DN hi];exact ih _ _ (h1 i hi)
   ·simp only[A0b] at hi
    rw[DN hi];exact ih _ _ (h2 i hi)
  |agg cs=>
   obtain⟨us,rfl,hl,hrep⟩:=h.agg_inv
   refine .agg _ us (by simpa using hl) fun i hi=>?_
   simp only[A0b] at hi
   rw[DN hi];exact ih _ _ (hrep i hi)
  |tup cs=>
   obtain⟨us,rfl,hl,hrep⟩:=h.tup_inv
   refine .tup _ us (by simpa using hl) fun i hi=>?_
   simp only[A0b] at hi
   rw[DN hi];exact ih _ _ (hrep i hi)
  |iface t d=>
   cases h with
   |iface _ _ u hu=>exact .iface t _ u (ih _ _ hu)
  |ref b i off sz=>
   simp only[Go.Ab.frz]
   split
   ·rename_i es sz' hx
    split
    ·rename_i hcond
     obtain⟨rfl,hi⟩:=hcond
     obtain⟨k,T,us,h1,h2,h3,h4,h5⟩:=hr.blk b _ hx
     cases h with
     |ref _ _ _ _ k' hk=>
      rw[h1] at hk
      simp only[A04,A0N,A17,and_true] at hk
      subst hk
      have hmul:i*sz+sz<=es.length*sz:=by rw[<-A0O];exact A0h _ hi
      refine .ptr _ off k (i*sz) (fun j=>nv us (i*sz+j)) (fun _=>hJ b _ _ k hx h1 rfl) (fun j hj=>?_) fun j hj=>?_
      ·simp only[A0b,h4 i hi] at hj
       simp only[World.cell?,h2,A1l,nv]
       rw[if_neg (by simp)]
       simp[A03,show i*sz+j<us.length by omega]
      ·simp only[A0b,h4 i hi] at hj
       rw[DN (by rw[h4 i hi];exact hj)]
       exact ih _ _ (h5 i j hi hj)
    ·exact mono _ _ h
   ·exact mono _ _ h
  |sref b i len cap sz=>
   simp only[Go.Ab.frz]
   split
   ·rename_i es sz' hx
    split
    ·rename_i hcond
     obtain⟨rfl,hi,hlc,hcap⟩:=hcond
     obtain⟨k,T,us,h1,h2,h3,h4,h5⟩:=hr.blk b _ hx
     cases h with
     |sref _ _ _ _ _ k' hk=>
      rw[h1] at hk
      simp only[A04,A0N,A17,and_true] at hk
      subst hk
      have hlen':((es.drop i).take len).length=len:=by simp;omega
      have hnr':∀ j,j<len->nr ((es.drop i).take len) j=nr es (i+j):=by
       intro j hj
       simp only[nr,A03]
       rw[A0z hj,A1d]
      have core:∀ L:List (List D),L.length=len->(∀ j,j<len->(nr L j).length=sz)->(∀ j l,j<len->l<sz->Rep w J mu (nd (nr L j) l) (nv us ((i+j)*sz+l)))->Rep w J mu (.slice L (decide (cap=len))) (.slice (some ⟨k,i*sz,none⟩) len cap):=by
       intro L hL hz hrep
       have:Rep w J mu (.slice L (decide (cap=len))) (.slice (some ⟨k,i*sz,none⟩) L.length cap):=by
        refine .slice L _ _ k (i*sz) sz cap (fun j l=>nv us ((i+j)*sz+l)) (fun _=>⟨rfl,fun _=>hJ b _ _ k hx h1 rfl⟩) (by omega) (fun h=>by rw[hL];exact of_decide_eq_true h) (by simp only[maxLen];omega) (fun j hj=>hz j (by omega)) (fun j l hj hl=>?_) fun j l hj hl=>hrep j l (by omega) hl
        have hlt:(i+j)*sz+l<us.length:=by
         rw[h3]
         have:(i+j)*sz+sz<=es.length*sz:=by rw[<-A0O];exact A0h _ (by omega)
         omega
        have e:i*sz+(j*sz+l)=(i+j)*sz+l:=by rw[A1j];omega
        rw[e]
        simp only[World.cell?,h2,A1l,nv]
        rw[if_neg (by simp)]
        simp[A03,hlt]
       rw[hL] at this
       exact this
      cases hpu:Am es with
      |true=>
       simp only[cond_true]
       exact core _ hlen' (fun j hj=>by rw[hnr' j hj];exact h4 _ (by omega)) fun j l hj hl=>by rw[hnr' j hj];exact mono _ _ (h5 (i+j) l (by omega) hl)
      |false=>
       simp only[cond_false]
       have hnm:∀ j,j<len->nr (((es.drop i).take len).map fun r=>r.map (Go.Ab.frz hp n)) j=(nr es (i+j)).map (Go.Ab.frz hp n):=by
        intro j hj
        rw[<-hnr' j hj]
        simp[nr,A03,show j<len from hj,show i+j<es.length by omega]
       refine core _ (by simp;omega) (fun j hj=>by rw[hnm j hj,A0b];exact h4 _ (by omega)) fun j l hj hl=>?_
       rw[hnm j hj,DN (by rw[h4 _ (by omega)];exact hl)]
       exact ih _ _ (h5 (i+j) l (by omega) hl)
    ·exact mono _ _ h
   ·exact mono _ _ h
  |gref b len=>
   simp only[Go.Ab.frz]
   split
   ·rename_i es szb hx
    split
    ·rename_i hcond
     obtain⟨rfl,hpu⟩:=hcond
     obtain⟨A,cap,T,us,h1,h2,h3,h4⟩:=hr.blk b _ hx
     cases h with
     |gref _ _ A' cap' hk=>
      rw[h1] at hk
      simp only[A04,A0Z,true_and] at hk
      obtain⟨rfl,rfl⟩:=hk
      rcases h4 with⟨rfl,rfl⟩|⟨k,g0,rfl,g1,g2,g3,g4⟩
      ·exact .slice [] false A 0 0 0 0 (fun _ _=>.nilFunc) (fun h=>absurd h (by simp)) (A0e _) (fun h=>by cases h) h3 (fun i h=>absurd h (by simp)) (fun i j h=>absurd h (by simp)) (fun i j h=>absurd h (by simp))
      ·refine .slice es false _ k 0 szb cap (fun i j=>nv us (i*szb+j)) (fun _=>⟨rfl,fun _=>hJ b _ _ k hx h1 (by simp[Ap];omega)⟩) g2 (fun h=>by cases h) h3 h2 (fun i j hi hj=>?_) fun i j hi hj=>mono _ _ (g4 i j hi hj)
       have hlt:i*szb+j<us.length:=by
        rw[g3]
        have:i*szb+szb<=cap*szb:=by rw[<-A0O];exact A0h _ (by omega)
        omega
       rw[A1m]
       simp only[World.cell?,g1,A1l,nv]
       rw[if_neg (by simp)]
       simp[A03,hlt]
    ·exact mono _ _ h
   ·exact mono _ _ h
def KE(P:Program)(s:St):ResultVar->Option D
 |.tmp t=>some (s.env.get t)
 |.cell a T=>match Aw P T with
  |some ti=>match s.env.get a,Jj ti (Ai s.hp) (s.env.get a) with
   |.ref b i off sz,some (e,_)=>match Ai s.hp b with
    |some (.rows es sz')=>if sz=sz'/\i<es.length/\off+ti.sz<=sz/\0<ti.sz then some e.d else none
    |_=>none
   |_,_=>none
  |none=>none
def Jx(P:Program)(s:St):List ResultVar->Option D
 |[x]=>KE P s x
 |l=>match l.mapM (KE P s) with
  |some ds=>some (.tup ds)
  |none=>none
def Bq:Nat->List D->Env
 |_,[]=>[]
 |k,d::r=>(k,d)::Bq (k+1) r
mutual
def lo:D->D->Prop
 |.slice es t,.slice es' t'=>E5 es es'/\(t'=true->t=true)
 |.agg cs,.agg cs'=>loL cs cs'
 |.tup cs,.tup cs'=>loL cs cs'
 |.iface t d,.iface t' d'=>t=t'/\lo d d'
 |.ptr cs o,.ptr cs' o'=>o=o'/\loL cs cs'
 |.func f fs cs,.func f' fs' cs'=>f=f'/\loL fs fs'/\loL cs cs'
 |d,r=>r=.any∨d=r
def loL:List D->List D->Prop
 |[],[]=>True
 |d::l,d'::l'=>lo d d'/\loL l l'
 |[],_::_=>False
 |_::_,[]=>False
def E5:List (List D)->List (List D)->Prop
 |[],[]=>True
 |d::l,d'::l'=>loL d d'/\E5 l l'
 |[],_::_=>False
 |_::_,[]=>False
end
mutual
theorem An:∀ d:D,lo d d
 |.slice es t=>by simp only[lo];exact⟨BG es,id⟩
 |.agg cs=>by simp only[lo];exact AJ cs
 |.tup cs=>by simp only[lo];exact AJ cs
 |.iface t d=>by simp only[lo];exact⟨trivial,An d⟩
 |.ptr cs o=>by simp only[lo];exact⟨trivial,AJ cs⟩
 |.any=>by simp[lo]
 |.val _=>by simp[lo]
 |.cond _ _=>by simp[lo]
 |.func f fs cs=>by simp only[lo];exact⟨trivial,AJ fs,AJ cs⟩
 |.ref _ _ _ _=>by simp[lo]
 |.sref _ _ _ _ _=>by simp[lo]
 |.gref _ _=>by simp[lo]
 |.mref _=>by simp[lo]
 |.yld _=>by simp[lo]
 |.abool _ _=>by simp[lo]
 |.gel _ _ _ _=>by simp[lo]
 |.gsub _ _ _ _=>by simp[lo]
theorem AJ:∀ l:List D,loL l l
 |[]=>by simp[loL]
 |d::l=>by simp only[loL];exact⟨An d,AJ l⟩
theorem BG:∀ l:List (List D),E5 l l
 |[]=>by simp[E5]
 |d::l=>by simp only[E5];exact⟨AJ d,BG l⟩
end
theorem Ce:∀ {l l':List D},loL l l'->l.length=l'.length/\∀ i,i<l.length->lo (nd l i) (nd l' i)
 |[],[],_=>by simp
 |[],_::_,h=>by simp[loL] at h
 |_::_,[],h=>by simp[loL] at h
 |d::l,d'::l',h=>by
  simp only[loL] at h
  obtain⟨h1,h2⟩:=Ce h.2
  refine⟨by simp[h1],fun i hi=>?_⟩
  cases i with
  |zero=>simpa [nd] using h.1
  |succ i=>have:=h2 i (by simpa using hi);simpa[nd] using this
theorem HU:∀ {l l':List (List D)},E5 l l'->l.length=l'.length/\∀ i,i<l.length->loL (nr l i) (nr l' i)
 |[],[],_=>by simp
 |[],_::_,h=>by simp[E5] at h
 |_::_,[],h=>by simp[E5] at h
 |d::l,d'::l',h=>by
  simp only[E5] at h
  obtain⟨h1,h2⟩:=HU h.2
  refine⟨by simp[h1],fun i hi=>?_⟩
  cases i with
  |zero=>simpa [nr] using h.1
  |succ i=>have:=h2 i (by simpa using hi);simpa[nr] using this
theorem Rep.lo{w:World}{I:Nat->Prop}{mu:Nat->Option Value}{d:D}{v:Value}(h:Rep w I mu d v):∀ {r:D},lo d r->Rep w I mu r v:=by
 induction h with
 |any v=>intro r h;cases r<;>simp [Go.Ab.lo] at h;exact .any v
 |val v ok=>intro r h;cases r<;>simp [Go.Ab.lo] at h;exact .any v;subst h;exact .val v ok
 |cond g d v h1 h2 ih=>intro r h;cases r<;>simp [Go.Ab.lo] at h;exact .any v;obtain⟨rfl,rfl⟩:=h;exact .cond _ _ v h1 h2
 |agg cs us hl h1 ih=>
  intro r h;cases r<;>simp [Go.Ab.lo] at h;exact .any _
  obtain⟨h2,h3⟩:=Ce h
  exact .agg _ us (by omega) fun i hi=>ih i (by omega) (h3 i (by omega))
 |tup cs us hl h1 ih=>
  intro r h;cases r<;>simp [Go.Ab.lo] at h;exact .any _
  obtain⟨h2,h3⟩:=Ce h
  exact .tup _ us (by omega) fun i hi=>ih i (by omega) (h3 i (by omega))
 |slice es tight A k o sz cap u hA hc ht hm hlen hcell h1 ih=>
  intro r h;cases r<;>simp [Go.Ab.lo] at h;exact .any _
  obtain⟨h,hti⟩:=h
  obtain⟨h2,h3⟩:=HU h
  rename_i es' t'
  have:=Rep.slice (w:=w) (I:=I) (mu:=mu) es' t' A k o sz cap u (fun h=>hA (by omega)) (by omega) (fun h=>by rw[ht (hti h)];exact h2) hm (fun i hi=>by rw[<-(Ce (h3 i (by omega))).1];exact hlen i (by omega)) (fun i j hi hj=>hcell i j (by omega) hj) (fun i j hi hj=>ih i j (by omega) hj ((Ce (h3 i (by omega))).2 j (by rw[hlen i (by omega)];exact hj)))
  rw[h2];exact this
 |ptr cs off k o u hk hcell h1 ih=>
  intro r h;cases r<;>simp [Go.Ab.lo] at h;exact .any _
  obtain⟨rfl,h⟩:=h
  obtain⟨h2,h3⟩:=Ce h
  exact .ptr _ _ k o u (fun h=>hk (by omega)) (fun j hj=>hcell j (by omega)) fun j hj=>ih j (by omega) (h3 j (by omega))
 |ref b i off sz k h1=>intro r h;cases r<;>simp [Go.Ab.lo] at h;exact .any _;obtain⟨rfl,rfl,rfl,rfl⟩:=h;exact .ref _ _ _ _ k h1
 |sref b i len cap sz k h1=>intro r h;cases r<;>simp [Go.Ab.lo] at h;exact .any _;obtain⟨rfl,rfl,rfl,rfl,rfl⟩:=h;exact .sref _ _ _ _ _ k h1
 |gref b len A cap h1=>intro r h;cases r<;>simp [Go.Ab.lo] at h;exact .any _;obtain⟨rfl,rfl⟩:=h;exact .gref _ _ A cap h1
 |mref b k h1=>intro r h;cases r<;>simp [Go.Ab.lo] at h;exact .any _;subst h;exact .mref _ k h1
 |yld b k h1=>intro r h;cases r<;>simp [Go.Ab.lo] at h;exact .any _;subst h;exact .yld _ k h1
 |abool n pos b h1=>intro r h;cases r<;>simp [Go.Ab.lo] at h;exact .any _;obtain⟨rfl,rfl⟩:=h;exact .abool _ _ b h1
 |gel b i off sz k len cap h1=>intro r h;cases r<;>simp [Go.Ab.lo] at h;exact .any _;obtain⟨rfl,rfl,rfl,rfl⟩:=h;exact .gel _ _ _ _ k len cap h1
 |gsub b i len sz A B n cap h1 h2 h3=>intro r h;cases r<;>simp [Go.Ab.lo] at h;exact .any _;obtain⟨rfl,rfl,rfl,rfl⟩:=h;exact .gsub _ _ _ _ A B n cap h1 h2 h3
 |func fn fs cs us vs hl hk h1 h2 ih1 ih2=>
  intro r h;cases r<;>simp [Go.Ab.lo] at h;exact .any _
  obtain⟨rfl,h3,h4⟩:=h
  obtain⟨g1,g2⟩:=Ce h3
  obtain⟨g3,g4⟩:=Ce h4
  exact .func _ _ _ us vs (by omega) (by omega) (fun i hi=>ih1 i (by omega) (g2 i (by omega))) fun i hi=>ih2 i (by omega) (g4 i (by omega))
 |iface t d v h1 ih=>
  intro r h;cases r<;>simp [Go.Ab.lo] at h;exact .any _
  obtain⟨rfl,h⟩:=h
  exact .iface _ _ v (ih h)
def loB:Blk->Blk->Prop
 |_,.junk=>True
 |.rows es sz,.rows es' sz'=>E5 es es'/\sz=sz'
 |.grow es sz,.grow es' sz'=>E5 es es'/\sz=sz'
 |x,y=>x=y
theorem Bl(x:Blk):loB x x:=by cases x<;>simp [loB,BG]
theorem Dp.lo{w:World}{I:Nat->Prop}{mu:Nat->Option Value}{b:Nat}{x y:Blk}(h:Dp w I mu b x)(hl:loB x y):Dp w I mu b y:=by
 by_cases hj:y=.junk
 ·subst hj;trivial
 cases x with
 |rows es sz=>
  cases y<;>simp [loB] at hl hj
  obtain⟨hl,rfl⟩:=hl
  obtain⟨k,T,us,h1,h2,h3,h4,h5⟩:=h
  obtain⟨g1,g2⟩:=HU hl
  exact⟨k,T,us,h1,h2,by rw[<-g1];exact h3,fun i hi=>by rw[<-(Ce (g2 i (by omega))).1];exact h4 i (by omega),fun i j hi hj=>(h5 i j (by omega) hj).lo ((Ce (g2 i (by omega))).2 j (by rw[h4 i (by omega)];exact hj))⟩
 |grow es sz=>
  cases y<;>simp [loB] at hl hj
  obtain⟨hl,rfl⟩:=hl
  obtain⟨A,cap,T,us,h1,h2,h3,h4⟩:=h
  obtain⟨g1,g2⟩:=HU hl
  refine⟨A,cap,T,us,by rw[<-g1];exact h1,fun i hi=>by rw[<-(Ce (g2 i (by omega))).1];exact h2 i (by omega),h3,?_⟩
  rcases h4 with⟨h5,h6⟩|⟨k,q0,q1,q2,q3,q4,q5⟩
  ·refine .inl ⟨h5,?_⟩
   subst h6
   exact A0G.1 g1.symm
  ·exact .inr ⟨k,q0,q1,q2,by rw[<-g1];exact q3,q4,fun i j hi hj=>(q5 i j (by omega) hj).lo ((Ce (g2 i (by omega))).2 j (by rw[h2 i (by omega)];exact hj))⟩
 |map es ck=>
  cases y<;>simp [loB] at hl hj
  obtain⟨rfl,rfl⟩:=hl;exact h
 |iter m since seen last=>
  cases y<;>simp [loB] at hl hj
  obtain⟨rfl,rfl,rfl,rfl⟩:=hl;exact h
 |obj o=>
  cases y<;>simp [loB] at hl hj
  subst hl;exact h
 |loop env nt st pd ps a c=>
  cases y<;>simp [loB] at hl hj
  obtain⟨rfl,rfl,rfl,rfl,rfl,rfl,rfl⟩:=hl;exact h
 |junk=>
  cases y<;>simp [loB] at hl hj
def UY(P:Program)(rs:List ResultVar)(r:D):AE->St->Prop
 |.ret,s|.normal,s=>∃ d,Jx P s rs=some d/\lo (frz (Ai s.hp) 6 d) r/\r.pure=true
 |_,_=>False
theorem Ff:∀ (ds:List D) (k t:Nat),(Bq k ds).get t=if k<=t/\t<k+ds.length then nd ds (t-k) else .any
 |[],k,t=>by simp[Bq,Env.get];intro h1 h2;omega
 |d::ds,k,t=>by
  simp only[Bq,Env.get,Ff ds (k+1) t,A0g]
  by_cases h:k=t
  ·subst h;simp[nd]
  ·have:(k==t)=false:=by simp[h]
   simp only[this,cond_false]
   by_cases h1:k+1<=t/\t<k+1+ds.length
   ·rw[if_pos h1,if_pos (by omega)]
    have e:t-k=(t-(k+1))+1:=by omega
    rw[e];simp[nd]
   ·rw[if_neg h1,if_neg (by omega)]
def Hi(tmps:Array Value)(x:ResultVar):Sem Value:=
 match x with
 |.tmp t=>pure (tmps.getD t undef)
 |.cell b t=>do loadVar t (<-asAddr (tmps.getD b undef))
section
variable{P:Program}{w0:World}{M0:Nat->Prop}{I0:Gh}{fr I:Nat->Prop}{mu:Nat->Option Value}{w:World}{s:St}{a:Act}{nt:Nat}
theorem ZR{T:TypeId}{ti:TI}(ht:Aw P T=some ti){hp:Nat->Option Blk}(hr:Aq w0 M0 I0 fr I mu hp w){b i off sz:Nat}{av:Value}(hv:Rep w I mu (.ref b i off sz) av){es:List (List D)}(hx:hp b=some (.rows es sz))(hi:i<es.length)(hle:off+ti.sz<=sz)(hpos:0<ti.sz){e:Eff}{c:Prop}(he:Jj ti hp (.ref b i off sz)=some (e,c)):
  ∃ v k o,av=.pointer (some ⟨k,o,none⟩)/\(loadVar T ⟨k,o,none⟩).run P w=.ok v w/\Rep w I mu e.d v:=by
 cases hv with
 |ref _ _ _ _ k hk=>
  obtain⟨k',T',us,h1,h2,h3,h4,h5⟩:=hr.blk b _ hx
  rw[hk] at h1
  simp only[A04,A0N,A17,and_true] at h1
  subst h1
  have hlen:=h4 i hi
  have hmul:i*sz+sz<=es.length*sz:=by rw[<-A0O];exact A0h _ hi
  have hl:=CO (P:=P) (I:=I) (mu:=mu) ht w k (i*sz) (nr es i) (fun j=>nv us (i*sz+j)) (fun j hj=>by
    rw[hlen] at hj
    simp only[World.cell?,h2,A1l,nv]
    rw[if_neg (by simp)]
    simp[A03,show i*sz+j<us.length by omega])
   (fun j hj=>h5 i j hi (by omega)) off
  rw[hlen] at hl
  simp only[Jj,hx] at he
  cases hag:ti.ag<;>simp only[hag,cond_true,cond_false,A04,A0a] at he<;>obtain ⟨rfl,_⟩:=he
  ·obtain⟨v',q1,q2⟩:=hl.2 hag (by omega)
   exact⟨v',k,_,rfl,q1,q2⟩
  ·obtain⟨v',q1,q2⟩:=hl.1 hag hle
   exact⟨v',k,_,rfl,q1,q2⟩
theorem Mm(r:Rel w0 M0 I0 nt fr I mu s.fs a w){x:ResultVar}{d:D}(h:KE P s x=some d):
  ∃ v,(Hi a.tmps x).run P w=.ok v w/\Rep w I mu d v:=by
 cases x with
 |tmp t=>
  simp only[KE,A04] at h
  subst h
  exact⟨_,rfl,r.env t⟩
 |cell b T=>
  simp only[KE] at h
  split at h
  ·rename_i ti ht
   split at h
   ·rename_i b' i off sz e c henv he
    split at h
    ·rename_i es sz' hx
     split at h
     ·rename_i hcond
      obtain⟨rfl,hi,hle,hpos⟩:=hcond
      simp only[A04] at h
      subst h
      have hv:=r.env b
      have hv':Rep w I mu (.ref b' i off sz) (a.tmps.getD b undef):=by
       have:s.fs.env b=s.env.get b:=rfl
       rw[this,henv] at hv;exact hv
      obtain⟨v,k,o,h1,h2,h3⟩:=ZR ht r.w hv' hx hi hle hpos (by rw[<-henv];exact he)
      refine⟨v,?_,h3⟩
      show(do loadVar T (<-asAddr (a.tmps.getD b undef)):Sem Value).run P w=_
      rw[h1]
      simpa[asAddr] using h2
     ·cases h
    ·cases h
   ·cases h
  ·cases h
theorem Hg(fn:Func)(tmps:Array Value):∀ (rs:List ResultVar) (vs:List Value),rs.length=vs.length->(∀(i:Nat) x v,rs[i]? =some x->vs[i]? =some v->(Hi tmps x).run P w=.ok v w)->
  (rs.mapM (Hi tmps)).run P w=.ok vs w
 |[],[],_,_=>by simp
 |[],_::_,h,_=>by simp at h
 |_::_,[],h,_=>by simp at h
 |x::rs,v::vs,hl,h=>by
  have h0:=h 0 x v rfl rfl
  have ih:=Hg fn tmps rs vs (by simpa using hl) fun i y u hy hu=>h (i+1) y u (by simpa using hy) (by simpa using hu)
  simp only[List.mapM_cons,A0m,h0,Result.andThen,ih,A0w]
theorem P0{α β:Type}{g:α->Option β}:∀ {l:List α} {r:List β},l.mapM g=some r->r.length=l.length/\∀ (i:Nat) (x:α),l[i]? =some x->∃ y,r[i]? =some y/\g x=some y
 |[],r,h=>by simp at h;subst h;simp
 |a::l,r,h=>by
  simp only[List.mapM_cons,Option.bind_eq_bind,Option.pure_def,Option.bind_eq_some_iff] at h
  obtain⟨b,hb,r',hr',h⟩:=h
  simp only[A04] at h
  subst h
  obtain⟨h1,h2⟩:=P0 hr'
  refine⟨by simp[h1],fun i x hx=>?_⟩
  cases i with
  |zero=>simp at hx;subst hx;exact⟨b,by simp,hb⟩
  |succ i=>simpa using h2 i x (by simpa using hx)
theorem Hj(r:Rel w0 M0 I0 nt fr I mu s.fs a w)(fn:Func){d:D}(h:Jx P s fn.results.toList=some d):∃ v,(results fn a.tmps).run P w=.ok v w/\Rep w I mu d v:=by
 have hrun:∀ vs:List Value,(fn.results.toList.mapM (Hi a.tmps)).run P w=.ok vs w->
   (results fn a.tmps).run P w=.ok (if h:vs.toArray.size=1 then vs.toArray[0] else .tuple vs.toArray) w:=by
  intro vs hvs
  have gen:∀ F:ResultVar->Sem Value,(∀ x,F x=Hi a.tmps x)->(do let vs <-fn.results.mapM F;pure (if h:vs.size=1 then vs[0] else .tuple vs):Sem Value).run P w=.ok (if h:vs.toArray.size=1 then vs.toArray[0] else .tuple vs.toArray) w:=by
   intro F hF
   obtain rfl:F=Hi a.tmps:=funext hF
   rw[Array.mapM_eq_mapM_toList]
   simp only[A0m,Sem.run_map,hvs,Result.andThen,A0w]
  exact gen _ fun x=>by cases x<;>rfl
 unfold Jx at h
 split at h
 ·rename_i x hx
  obtain⟨v,h1,h2⟩:=Mm (P:=P) r h
  refine⟨v,?_,h2⟩
  have:=hrun [v] (by
   rw[hx]
   exact Hg fn a.tmps [x] [v] rfl fun i y u hy hu=>by
    cases i with
    |zero=>simp at hy hu;subst hy hu;exact h1
    |succ i=>simp at hy)
  simpa using this
 ·rename_i l hne
  split at h
  ·rename_i ds hds
   simp only[A04] at h
   subst h
   obtain⟨hl,hg⟩:=P0 hds
   have hex:∃ vs:List Value,vs.length=fn.results.toList.length/\∀ (i:Nat) x,fn.results.toList[i]? =some x->(Hi a.tmps x).run P w=.ok (nv vs i) w/\Rep w I mu (nd ds i) (nv vs i):=by
    have:∀ (i:Nat),∃ v,∀ x,fn.results.toList[i]? =some x->(Hi a.tmps x).run P w=.ok v w/\Rep w I mu (nd ds i) v:=by
     intro i
     cases hx:fn.results.toList[i]? with
     |none=>exact ⟨undef,fun x h=>by cases h⟩
     |some x=>
      obtain⟨y,hy1,hy2⟩:=hg i x hx
      obtain⟨v,h1,h2⟩:=Mm (P:=P) r hy2
      refine⟨v,fun x' hx'=>?_⟩
      cases hx'
      have:nd ds i=y:=by simp[nd,A03,hy1]
      rw[this];exact⟨h1,h2⟩
    refine⟨(List.range fn.results.toList.length).map fun i=>Classical.choose (this i),by simp,fun i x hx=>?_⟩
    have hlt:=(List.getElem?_eq_some_iff.1 hx).1
    have e:nv ((List.range fn.results.toList.length).map fun i=>Classical.choose (this i)) i=Classical.choose (this i):=by
     simp only[nv,A03,A0A,List.getElem?_range hlt,A0U,A0D]
    rw[e]
    exact Classical.choose_spec (this i) x hx
   obtain⟨vs,hvl,hv⟩:=hex
   have:=hrun vs (Hg fn a.tmps _ vs hvl.symm fun i x u hx hu=>by
    have:=(hv i x hx).1
    have e:nv vs i=u:=by simp[nv,A03,hu]
    rw[e] at this;exact this)
   have hsz:¬vs.toArray.size=1:=by
    intro h1
    rw[A0H,hvl] at h1
    match hll:fn.results.toList,h1 with
    |[x],_=>exact hne x hll
   rw[dif_neg hsz] at this
   refine⟨_,this,.tup ds vs (by omega) fun i hi=>?_⟩
   obtain⟨x,hx⟩:∃ x,fn.results.toList[i]? =some x:=⟨fn.results.toList[i]'(by omega),A06 (by omega)⟩
   exact(hv i x hx).2
  ·cases h
theorem Nn{w:World}{k o:Nat}{u:Value}(h:w.cell? ⟨k,o,none⟩=some u):∃ us T fz,w.heap[k]? =some (.cells us T fz):=by
 unfold World.cell? at h
 split at h
 ·rename_i us T fz hk;exact⟨us,T,fz,hk⟩
 all_goals cases h
theorem Rep.shut{w w':World}{I I':Nat->Prop}{mu:Nat->Option Value}(hI:∀ k,I k->(∃ us T fz,w.heap[k]? =some (.cells us T fz))->I' k/\w'.heap[k]? =w.heap[k]?){d:D}{v:Value}(h:Rep w I mu d v):Rep w' I' mu d v:=by
 induction h with
 |any v=>exact .any v
 |val v ok=>exact .val v ok
 |cond g d v _ h' ih=>exact .cond g d v ih h'
 |agg cs us hl _ ih=>exact .agg cs us hl ih
 |tup cs us hl _ ih=>exact .tup cs us hl ih
 |slice es tight A k o sz cap u hA hc ht hm hlen hcell _ ih=>
  have key:∀ i j,i<es.length->j<sz->I' k/\w'.heap[k]? =w.heap[k]?:=fun i j hi hj=>hI k ((hA (by omega)).2 (by omega)) (Nn (hcell i j hi hj))
  refine .slice es tight A k o sz cap u (fun h=>⟨(hA h).1,fun h'=>(key 0 0 h h').1⟩) hc ht hm hlen (fun i j hi hj=>?_) ih
  rw[EN (key i j hi hj).2]
  exact hcell i j hi hj
 |ptr cs off k o u hk hcell _ ih=>
  have key:∀ j,j<cs.length->I' k/\w'.heap[k]? =w.heap[k]?:=fun j hj=>hI k (hk (by omega)) (Nn (hcell j hj))
  refine .ptr cs off k o u (fun h=>(key 0 h).1) (fun j hj=>?_) ih
  rw[EN (key j hj).2]
  exact hcell j hj
 |ref b i off sz k h=>exact .ref b i off sz k h
 |sref b i len cap sz k h=>exact .sref b i len cap sz k h
 |gref b len A cap h=>exact .gref b len A cap h
 |mref b k h=>exact .mref b k h
 |yld b k h=>exact .yld b k h
 |func fn fs cs us vs hl hk _ _ ih ih'=>exact .func fn fs cs us vs hl hk ih ih'
 |iface t d v _ ih=>exact .iface t d v ih
 |abool n pos b h=>exact .abool n pos b h
 |gel b i off sz k len cap h=>exact .gel b i off sz k len cap h
 |gsub b i len sz A B n cap h hle hB=>exact .gsub b i len sz A B n cap h hle hB
theorem Dp.shut{w w':World}{I I':Nat->Prop}{mu:Nat->Option Value}(hI:∀ k,I k->(∃ us T fz,w.heap[k]? =some (.cells us T fz))->I' k/\w'.heap[k]? =w.heap[k]?){b:Nat}{x:Blk}(h:Dp w I mu b x)
  (hb:∀ v k,mu b=some v->Ap v=some k->w'.heap[k]? =w.heap[k]?):Dp w' I' mu b x:=by
 cases x with
 |rows es sz=>
  obtain⟨k,T,us,h1,h2,h3,h4,h5⟩:=h
  exact⟨k,T,us,h1,by rw[hb _ k h1 rfl];exact h2,h3,h4,fun i j hi hj=>(h5 i j hi hj).shut hI⟩
 |grow es sz=>
  obtain⟨A,cap,T,us,h1,h2,h3,h4⟩:=h
  refine⟨A,cap,T,us,h1,h2,h3,?_⟩
  rcases h4 with h4|⟨k,h0,hA,h5,h6,h7,h8⟩
  ·exact .inl h4
  ·exact .inr ⟨k,h0,hA,by rw[hb _ k h1 (by rw[hA];simp[Ap];omega)];exact h5,h6,h7,fun i j hi hj=>(h8 i j hi hj).shut hI⟩
 |map es clock=>
  obtain⟨k,l,h1,h2,h3,h4,h5⟩:=h
  exact⟨k,l,h1,by rw[hb _ k h1 rfl];exact h2,h3,h4,fun i x y hx hy=>(h5 i x y hx hy).shut hI⟩
 |iter m since seen last=>
  obtain⟨k,km,h1,h2,h3⟩:=h
  exact⟨k,km,h1,h2,by rw[hb _ k h1 rfl];exact h3⟩
 |obj o=>
  obtain⟨k,h1,h2⟩:=h
  exact⟨k,h1,by rw[hb _ k h1 rfl];exact h2⟩
 |loop env nt st pd ps a c=>
  obtain⟨k,fn,tmps,kd,h1,h2,h3,h4⟩:=h
  exact⟨k,fn,tmps,kd,h1,by rw[hb _ k h1 rfl];exact h2,h3,fun t=>(h4 t).shut hI⟩
 |junk=>trivial
def Dm(rs:List Nat)(w:World):World:=rs.foldl (fun w r=>w.putObj r (.deferred none)) w
theorem Gi:∀ (rs:List Nat) (w:World),(Dm rs w).heap.size=w.heap.size
 |[],_=>rfl
 |r::rs,w=>(Gi rs _).trans (by simp)
theorem Mf:∀ (rs:List Nat) (w:World),(Dm rs w).os=w.os/\(Dm rs w).tape=w.tape/\(Dm rs w).output=w.output
 |[],_=>⟨rfl,rfl,rfl⟩
 |r::rs,w=>Mf rs (w.putObj r (.deferred none))
theorem Gj:∀ (rs:List Nat) (w:World) (k:Nat),k ∉ rs->(Dm rs w).heap[k]? =w.heap[k]?
 |[],_,_,_=>rfl
 |r::rs,w,k,h=>by
  simp only[A0o,not_or] at h
  exact(Gj rs _ k h.2).trans (World.putObj_heap_other h.1)
theorem Gx{F:Fence}{n:Nat}{fn:Func}{tmps:Array Value}{R:Ending->World->Prop}{u:FrameMode}(hu:u≠ .run){dl:List Deferred}:∀ (rs:List Nat) (w:World),rs.Nodup->(∀ r ∈ rs,w.heap[r]? =some (.deferred (some [])))->
  LeavesInM F n P fn tmps R dl u (Dm rs w)->LeavesInM F n P fn tmps R (rs.map (fun r=> {target:=.collected r,args:=#[]})++dl) u w
 |[],_,_,_,h=>h
 |r::rs,w,hn,hr,h=>by
  simp only[A1h] at hn
  refine⟨hu,.inl ⟨r,_,rfl,run_takeDeferred (hr r A0C),Gx hu rs _ hn.2 (fun k hk=>?_) h⟩⟩
  rw[World.putObj_heap_other (by rintro rfl;exact hn.1 hk)]
  exact hr k (A0l _ hk)
theorem Aq.shut{G:Gh}{hp:Nat->Option Blk}(h:Aq w0 M0 G fr I mu hp w)(hG:∀ k,G k->k<w0.heap.size){rs:List Nat}(hr:∀ r ∈ rs,I r/\w0.heap.size<=r/\w.heap[r]? =some (.deferred (some []))):
  Aq w0 M0 G fr (fun k=>I k/\k ∉ rs) mu hp (Dm rs w)/\∀ d v,Rep w I mu d v->Rep (Dm rs w) (fun k=>I k/\k ∉ rs) mu d v:=by
 have hI:∀ k,I k->(∃ us T fz,w.heap[k]? =some (.cells us T fz))->(I k/\k ∉ rs)/\(Dm rs w).heap[k]? =w.heap[k]?:=by
  intro k hk ⟨us,T,fz,hc⟩
  have:k ∉ rs:=fun hm=>by have:=(hr k hm).2.2;rw[hc] at this;cases this
  exact⟨⟨hk,this⟩,Gj rs w k this⟩
 have hloc:∀ b x v k,hp b=some x->mu b=some v->Ap v=some k->k ∉ rs:=fun b x v k hx hv hk hm=>(h.loc b x v k hx hv hk).2.1 (hr k hm).1
 obtain⟨s1,s2,s3⟩:=Mf rs w
 refine⟨⟨fun b x hx=>(h.blk b x hx).shut hI fun v k hv hk=>Gj rs w k (hloc b x v k hx hv hk),fun b x v k hx hv hk=>?_,h.inj,h.fresh,fun k hk=>by rw[Gi];exact h.lt k hk.1,s1.trans h.os,s2.trans h.tape,s3.trans h.output,by rw[Gi];exact h.grown,fun k hk hnm=>?_,fun k hk=>⟨h.iold k hk,fun hm=>?_⟩,fun k hk=>h.inew k hk.1,h.keep,h.used⟩,fun d v hv=>hv.shut hI⟩
 ·have:=h.loc b x v k hx hv hk
  exact⟨this.1,fun hi=>this.2.1 hi.1,by rw[Gi];exact this.2.2⟩
 ·rw[Gj rs w k fun hm=>by have:=(hr k hm).2.1;omega]
  exact h.old k hk hnm
 ·have:=(hr k hm).2.1
  have:=hG k hk
  omega
theorem Rel.leave{G:Gh}{F:Fence}{n:Nat}{fn:Func}{d:D}{R:Ending->World->Prop}(r:Rel w0 M0 G nt fr I mu s.fs a w)(hG:∀ k,G k->k<w0.heap.size)(hdl:G.dl=[])(hd:Jx P s fn.results.toList=some d)
  (k:∀ v w' I',(∀ k,I' k->I k)->Aq w0 M0 G fr I' mu s.fs.hp w'->Rep w' I' mu d v->R (.returned v) w'):LeavesInM F n P fn a.tmps R a.defers .returning w:=by
 obtain⟨rs,_,h1,h2,h3⟩:=r.defers
 obtain⟨w1,w2⟩:=r.w.shut hG h3
 rw[h1,hdl]
 refine Gx (by simp) rs w h2 (fun r hr=>(h3 r hr).2.2) ?_
 obtain⟨v,q1,q2⟩:=Hj (P:=P) (a:=a) (w:=Dm rs w) (I:=fun k=>I k/\k ∉ rs) (mu:=mu) (w0:=w0) (M0:=M0) (I0:=⟨G.st,G.nm,a.defers,G.F,G.n,G.hF⟩) (fr:=fr) (nt:=nt) (s:=s)
  ⟨r.size,BR.refl _ _ _ _,fun t=>w2 _ _ (r.env t),⟨w1.blk,w1.loc,w1.inj,w1.fresh,w1.lt,w1.os,w1.tape,w1.output,w1.grown,w1.old,w1.iold,w1.inew,w1.keep,w1.used⟩⟩ fn hd
 exact⟨v,q1,k v _ _ (fun _ h=>h.1) w1 q2⟩
theorem A3.of_awp{f:FuncId}{fn:Func}{c:Code}{ds:List D}{r:D}(hf:P.funcs[f]? =some fn)(hb:fn.body=some c)(hn:fn.ntmps=nt)(hent:Bc P f=true)(hlen:ds.length<=nt){rs:List ResultVar}(hrs:fn.results.toList=rs)
  (h:AWp P nt c (UY P rs r) ⟨Bq 0 ds,[],0⟩):A3 P f ds r:=by
 subst hrs
 refine⟨hent,fun w I vs hgi hI hl hrep=>?_⟩
 let G:Gh:=⟨I,fun _=>none,[],Fence.wide,0,.inl rfl⟩
 refine callsIn_wide.1 (callsIn_of_wp_marks (n:=0) hf hb trivial (wpIn_mono (h w (fun _=>False) G (fun g l hl=>⟨(hgi g l hl).1,hI g (hgi g l hl).1,fun h=>h,(hgi g l hl).2⟩) I (fun _=>none) _ w ⟨?_,BR.refl _ _ _ _,fun t=>?_,⟨fun b x hx=>by simp[St.fs,Ai] at hx,fun b x v k hx=>by simp[St.fs,Ai] at hx,fun b c x y v u k hx=>by simp[St.fs,Ai] at hx,fun _ _=>rfl,hI,rfl,rfl,rfl,A0e _,fun _ _ _=>rfl,fun _ h=>h,fun _ h=>.inl h,fun b x _ h=>(by cases h),fun b x hx=>by simp[St.fs,Ai] at hx⟩⟩) ?_))
 ·simp[hl,hn];omega
 ·have hget:=Ff ds 0 t
  simp only[A0t,true_and,A1m,Nat.sub_zero] at hget
  show Rep w I (fun _=>none) ((Bq 0 ds).get t) _
  rw[hget]
  by_cases ht:t<ds.length
  ·rw[if_pos ht]
   have e:(vs.toArray++Array.replicate (fn.ntmps-vs.toArray.size) undef).getD t undef=nv vs t:=by
    simp only[nv,A03,A1n]
    rw[Array.getElem?_append_left (by simp;omega)]
    simp
   rw[e];exact hrep t ht
  ·rw[if_neg ht];exact .any _
 ·rintro e a' w' ⟨x,s',I',mu',hq,he,r'⟩
  have fin:∀ d,Jx P s' fn.results.toList=some d->lo (frz (Ai s'.hp) 6 d) r->r.pure=true->LeavesInM Fence.wide 0 P fn a'.tmps (fun e w'=>∃ v I',e=.returned v/\Rep w' I' (fun _=>none) r v/\(∀ k,I k->I' k)/\(∀ k,I' k->I k∨w.heap.size<=k)/\(∀ k,I' k->k<w'.heap.size)/\Below w.heap.size w w') a'.defers .returning w':=by
   intro d hd hfr hpu
   refine r'.leave hI rfl hd fun v w2 I2 _ W2 h2=>?_
   have hfz:=Rep.frz (J:=fun k=>I2 k∨(w.heap.size<=k/\k<w2.heap.size)) W2 (fun k hk=>.inl hk) (fun b x v k hx hv hk=>.inr (by
     have:=W2.loc b x v k hx hv hk
     rcases this.1 with h3|h3
     ·exact h3.elim
     ·exact⟨h3,this.2.2⟩)) 6 d v h2
   have hfr':Go.Ab.lo (Go.Ab.frz s'.fs.hp 6 d) r:=hfr
   have hfz:=hfz.lo hfr'
   refine⟨v,_,rfl,hfz.unmu hpu,fun k hk=>.inl (W2.iold k hk),fun k hk=>?_,fun k hk=>?_,⟨W2.os,W2.tape,W2.output,W2.grown,fun k hk=>W2.old k hk (fun h=>h)⟩⟩
   ·rcases hk with hk|hk
    ·rcases W2.inew k hk with h3|h3|h3
     ·exact .inl h3
     ·exact h3.elim
     ·exact .inr h3
    ·exact .inr hk.1
   ·rcases hk with hk|hk
    ·exact W2.lt k hk
    ·exact hk.2
  cases x<;>cases e<;>simp only[Ga] at he<;>simp only[UY] at hq
  case normal.normal=>
   obtain⟨d,hd,hfr,hpu⟩:=hq
   exact fin d hd hfr hpu
  case ret.ret=>
   obtain⟨d,hd,hfr,hpu⟩:=hq
   exact fin d hd hfr hpu
end
attribute [irreducible] A3
def Bp(w:World)(I:Nat->Prop)(mu:Nat->Option Value)(ds:List D)(vs:List Value):Prop:=vs.length=ds.length/\∀ i,i<ds.length->Rep w I mu (nd ds i) (nv vs i)
theorem Bp.append{w:World}{I:Nat->Prop}{mu:Nat->Option Value}{ds es:List D}{vs us:List Value}(h:Bp w I mu ds vs)(k:Bp w I mu es us):Bp w I mu (ds++es) (vs++us):=by
 refine⟨by simp[h.1,k.1],fun i hi=>?_⟩
 by_cases hlt:i<ds.length
 ·have e1:nd (ds++es) i=nd ds i:=by simp[nd,A03,A0x hlt]
  have e2:nv (vs++us) i=nv vs i:=by simp[nv,A03,A0x (show i<vs.length by rw[h.1];exact hlt)]
  rw[e1,e2];exact h.2 i hlt
 ·have hge:ds.length<=i:=A27 hlt
  have e1:nd (ds++es) i=nd es (i-ds.length):=by simp[nd,A03,A0r hge]
  have e2:nv (vs++us) i=nv us (i-ds.length):=by
   have:vs.length<=i:=by rw[h.1];exact hge
   simp[nv,A03,A0r this,h.1]
  rw[e1,e2];exact k.2 _ (by simp at hi;omega)
theorem Bp.args{w:World}{I:Nat->Prop}{mu:Nat->Option Value}{ev:Operand->D}{a:Act}{args:Array Operand}(h:∀ x ∈ args.toList,Rep w I mu (ev x) (a.eval x)):Bp w I mu (args.toList.map ev) (args.toList.map a.eval):=by
 refine⟨by simp,fun i hi=>?_⟩
 simp only[A0b,A0T] at hi
 have h1:nd (args.toList.map ev) i=ev args[i]:=by simp[nd,A03,hi]
 have h2:nv (args.toList.map a.eval) i=a.eval args[i]:=by simp[nv,A03,hi]
 rw[h1,h2];exact h _ (by simp)
theorem Bp.unmu{w:World}{I:Nat->Prop}{mu mu':Nat->Option Value}{ds:List D}{vs:List Value}(h:Bp w I mu ds vs)(hp:Av ds=true):Bp w I mu' ds vs:=
 ⟨h.1,fun i hi=>(h.2 i hi).unmu (Co hp i)⟩
theorem Aq.below{w0 w w':World}{M0:Nat->Prop}{I0:Gh}{fr I I':Nat->Prop}{mu:Nat->Option Value}{h:Nat->Option Blk}(hw:Aq w0 M0 I0 fr I mu h w)(h1:∀ k,I k->I' k)(h2:∀ k,I' k->I k∨w.heap.size<=k)(h3:∀ k,I' k->k<w'.heap.size)(h4:Below w.heap.size w w'):Aq w0 M0 I0 fr I' mu h w':=by
 have hbl:∀ k,k<w.heap.size->w'.heap[k]? =w.heap[k]?:=fun k hk=>h4.block k hk
 have hext:Ext I mu w I' mu w':=⟨h1,fun _ _ h=>h,fun k hk=>hbl k (hw.lt k hk)⟩
 refine⟨fun b x hx=>(hw.blk b x hx).mono hext.w hext.i hext.m fun u k hu hk=>hbl k (hw.loc b x u k hx hu hk).2.2,fun b x u k hx hu hk=>?_,hw.inj,hw.fresh,h3,h4.os.trans hw.os,h4.tape.trans hw.tape,h4.output.trans hw.output,A0L hw.grown h4.size,fun k hk hnm=>(hbl k (by have:=hw.grown;omega)).trans (hw.old k hk hnm),fun k hk=>h1 k (hw.iold k hk),fun k hk=>?_,hw.keep,hw.used⟩
 ·have:=hw.loc b x u k hx hu hk
  exact⟨this.1,fun hI=>by rcases h2 k hI with h5|h5;exact this.2.1 h5;omega,A1f this.2.2 h4.size⟩
 ·rcases h2 k hk with h5|h5
  ·exact hw.inew k h5
  ·exact .inr (.inr (A0L hw.grown h5))
theorem Nc{P:Program}{id:Nat}{ev:Operand->D}{hp:Nat->Option Blk}{dst:Option Tmp}{T:TypeId}{pos:String}{af:Array Edge}{gd:Option (Nat×Bool)}{x:Operand}{f:FuncId}{args:Array Operand}{ts:Array TypeId}{fs cs ds:List D}{r:D}
  (hx:ev x=.func (.func f) fs cs) (ha:fs++args.toList.map ev++cs=ds) (hpu:Av ds=true) (hc:A3 P f ds r):B8 P ⟨dst,.call {callee:=.value x,args:=args,argTypes:=ts},T,pos,af,gd⟩ id ev hp ⟨r,[],[]⟩:=by
 intro w0 M0 I0 fr I mu h a w hga hw hid hxs hb K Q hK
 subst ha
 have hxr:=hxs x (by simp[Op.operands,Call.operands])
 rw[hx] at hxr
 have hargs:=Bp.args (w:=w) (I:=I) (mu:=mu) (ev:=ev) (a:=a) (args:=args) fun y hy=>hxs y (by simp[Op.operands,Call.operands];exact .inr (by simpa using hy))
 generalize he:a.eval x=fv at hxr
 cases hxr with
 |func _ _ _ us vs hl hk h1 h2=>
 have hall:=((Bp.append (Bp.append ⟨hl,h1⟩ hargs) ⟨hk,h2⟩).unmu (mu':=fun _=>none) hpu)
 unfold A3 at hc
 have hcall:=hc.2 w I _ (hga.at hw) hw.lt hall.1 hall.2
 have hrun:(execOp a.eval ⟨dst,.call {callee:=.value x,args:=args,argTypes:=ts},T,pos,af,gd⟩).run P w=.ok (.enter f (us++args.toList.map a.eval++vs).toArray) w:=by
  have e1:us.toArray++args.map a.eval++vs.toArray=(us++args.toList.map a.eval++vs).toArray:=by apply Array.ext';simp
  simp only[execOp,resolve,he,Deferred.ofValue,A0m,A0w,Result.andThen,invoke]
  exact(congrArg (fun z=>(callFunc f z).run P w) e1).trans (Bn hc.1 _ w)
 refine CS hrun ?_
 refine hcall.mono fun e w' ⟨v,I',he,hv,h1,h2,h3,h4⟩=>?_
 subst he
 have hext:Ext I mu w I' mu w':=⟨h1,fun _ _ h=>h,fun k hk=>h4.block k (hw.lt k hk)⟩
 exact hK v w' I' mu hext ((hw.below h1 h2 h3 h4).less fun b hb=>hb.1) (hv.mono (fun _ _=>rfl) (fun _ h=>h) (fun _ _ h=>by cases h))
theorem Cj.callV{P:Program}{ops:Array Oper}{nx:Nat}{dst:Option Tmp}{T:TypeId}{ps:String}{af:Array Edge}{gd:Option (Nat×Bool)}{x:Operand}{f:FuncId}{args:Array Operand}{ts:Array TypeId}{fs cs ds:List D}{r:D}{l:List Oper}{pos:Nat}{acc:List Eff}{s:St}{K:List Eff->St->Prop}
  (hx:evO P s.env.get x=.func (.func f) fs cs) (hc:A3 P f ds r) (hg:gd=none∨∃ j want t,gd=some (j,want)/\BS ops j=some t/\gOf (s.env.get t) want=some true) (ha:fs++args.toList.map (evO P s.env.get)++cs=ds) (hpu:Av ds=true)
  (hk:Go P ops nx l (pos+1) (⟨r,[],[]⟩::acc) (s.app dst ⟨r,[],[]⟩) K):Cj P ops nx (⟨dst,.call {callee:=.value x,args:=args,argTypes:=ts},T,ps,af,gd⟩::l) pos acc s K:=by
 unfold Cj
 refine .inl ⟨_,?_,by have:=Go.run hk;unfold Cj at this;exact this⟩
 rcases hg with rfl|⟨j,want,t,rfl,ht,hg⟩
 ·exact BT.plain rfl (Nc hx ha hpu hc)
 ·exact BT.guard_true rfl ht hg (Nc hx ha hpu hc)
def UZ(P:Program)(f:FuncId)(ds:List D)(r:D):Prop:=
 ∀(w:World) (I:Nat->Prop) (mu:Nat->Option Value) (vs:List Value),Bp w I mu ds vs->∃ v,(callFunc f vs.toArray).run P w=.ok (.value v) w/\Rep w I mu r v
theorem SO{P:Program}{id:Nat}{ev:Operand->D}{hp:Nat->Option Blk}{dst:Option Tmp}{T:TypeId}{pos:String}{af:Array Edge}{gd:Option (Nat×Bool)}{f:FuncId}{args:Array Operand}{ts:Array TypeId}{ds:List D}{r:D}
  (ha:args.toList.map ev=ds) (hc:UZ P f ds r):B8 P ⟨dst,.call {callee:=.value (.func f),args:=args,argTypes:=ts},T,pos,af,gd⟩ id ev hp ⟨r,[],[]⟩:=by
 subst ha
 refine B8.quiet fun _ _ _ _ I mu _ a w hw hx _=>?_
 have hargs:=Bp.args (w:=w) (I:=I) (mu:=mu) (ev:=ev) (a:=a) (args:=args) fun y hy=>hx y (by simp[Op.operands,Call.operands];exact .inr (by simpa using hy))
 obtain⟨v,h1,h2⟩:=hc w I mu _ hargs
 refine⟨v,?_,h2⟩
 have e1:args.map a.eval=(args.toList.map a.eval).toArray:=by apply Array.ext';simp
 simp only[execOp,resolve,Act.eval,Deferred.ofValue,A0m,A0w,Result.andThen,invoke]
 have e2:#[]++args.map a.eval++ #[]=(args.toList.map a.eval).toArray:=by rw[e1];simp
 exact(congrArg (fun z=>(callFunc f z).run P w) e2).trans h1
theorem Cj.ext{P:Program}{ops:Array Oper}{nx:Nat}{dst:Option Tmp}{T:TypeId}{ps:String}{af:Array Edge}{gd:Option (Nat×Bool)}{f:FuncId}{args:Array Operand}{ts:Array TypeId}{ds:List D}{r:D}{l:List Oper}{pos:Nat}{acc:List Eff}{s:St}{K:List Eff->St->Prop}
  (hc:UZ P f ds r) (hg:gd=none∨∃ j want t,gd=some (j,want)/\BS ops j=some t/\gOf (s.env.get t) want=some true) (ha:args.toList.map (evO P s.env.get)=ds)
  (hk:Go P ops nx l (pos+1) (⟨r,[],[]⟩::acc) (s.app dst ⟨r,[],[]⟩) K):Cj P ops nx (⟨dst,.call {callee:=.value (.func f),args:=args,argTypes:=ts},T,ps,af,gd⟩::l) pos acc s K:=by
 unfold Cj
 refine .inl ⟨_,?_,by have:=Go.run hk;unfold Cj at this;exact this⟩
 rcases hg with rfl|⟨j,want,t,rfl,ht,hg⟩
 ·exact BT.plain rfl (SO ha hc)
 ·exact BT.guard_true rfl ht hg (SO ha hc)
theorem UZ.of{P:Program}{k:FuncId}{fn:Func}{e:Array Value->Sem Value}{ds:List D}{r:D}(hf:P.funcs[k]? =some fn)(hn:(fn.name== "runtime.NumGoroutine")=false)(hb:fn.body.isNone=true)(h1:Extern.findNext fn=none)(h2:Extern.find fn=some e)
  (h:∀ (w:World) (I:Nat->Prop) (mu:Nat->Option Value) (vs:List Value),Bp w I mu ds vs->∃ v,(e vs.toArray).run P w=.ok v w/\Rep w I mu r v):UZ P k ds r:=by
 intro w I mu vs hr
 obtain⟨v,g1,g2⟩:=h w I mu vs hr
 refine⟨v,?_,g2⟩
 have hn':fn.name≠ "runtime.NumGoroutine":=by simpa using hn
 have hb':fn.body=none:=by simpa using hb
 simp[callFunc,hf,hn',hb',h1,h2,g1,Result.andThen]
theorem Bp.two{w:World}{I:Nat->Prop}{mu:Nat->Option Value}{d e:D}{vs:List Value}(h:Bp w I mu [d,e] vs):∃ v u,vs=[v,u]/\Rep w I mu d v/\Rep w I mu e u:=by
 obtain⟨h1,h2⟩:=h
 match vs,h1 with
 |[v,u],_=>exact ⟨v,u,rfl,h2 0 (by simp),h2 1 (by simp)⟩
end Go.Ab
namespace Go.Ab
noncomputable section
open Go.RowKit
universe u
theorem V6{α:Sort u}(x:α):∃ y:α,y=x:=⟨x,rfl⟩
def PS{α:Sort u}(x:α):α:=Classical.choose (V6 x)
theorem KA{α:Sort u}(x:α):PS x=x:=Classical.choose_spec (V6 x)
def GoS:Program->Array Oper->Nat->List Oper->Nat->List Eff->St->(List Eff->St->Prop)->Prop:=PS Go
theorem Dl:GoS=Go:=KA Go
def Af:Program->Array Oper->Nat->List Oper->Nat->List Eff->St->(List Eff->St->Prop)->Prop:=PS Cj
theorem Cg:Af=Cj:=KA Cj
theorem GoS_nil(P:Program)(ops:Array Oper)(nx pos:Nat)(acc:List Eff)(s:St)(K:List Eff->St->Prop):GoS P ops nx [] pos acc s K=K acc.reverse s:=by rw[Dl];rfl
def Qx(r:Option (Eff×Prop))(go:Eff->Prop)(stuck:Prop):Prop:=
 match r with
 |some (e,c)=>c/\go e
 |none=>stuck
theorem X8(e:Eff)(c:Prop)(go:Eff->Prop)(stuck:Prop):Qx (some (e,c)) go stuck=(c/\go e):=by unfold Qx;exact tick0 _
where tick0 (p:Prop):p=p:=congrArg (fun x=>x) rfl
theorem X9(go:Eff->Prop)(stuck:Prop):Qx none go stuck=stuck:=by unfold Qx;exact congrArg (fun x=>x) rfl
theorem Tg(P:Program)(ops:Array Oper)(nx:Nat)(o:Oper)(r:List Oper)(pos:Nat)(acc:List Eff)(s:St)(K:List Eff->St->Prop):GoS P ops nx (o::r) pos acc s K=
  FC ops o.guard s
   (fun s=>Qx (TX P (2*(nx+4*pos)) s.env.get (Ai s.hp) o.op) (fun e=>GoS P ops nx r (pos+1) (e::acc) (s.app o.dst e) K) (Af P ops nx (o::r) pos acc s K))
   (fun s=>GoS P ops nx r (pos+1) (⟨.cond false (.val (.bool false)),[],[]⟩::acc) (s.app o.dst ⟨.cond false (.val (.bool false)),[],[]⟩) K)
   (Af P ops nx (o::r) pos acc s K):=by
 rw[Dl,Cg]
 show Go P ops nx (o::r) pos acc s K=_
 simp only[Go]
 congr 1
def N9(b:Bool)(d:D)(r:Env)(t:Nat):D:=bif b then d else Env.get r t
theorem Uz(d:D)(r:Env)(t:Nat):N9 true d r t=d:=by unfold N9;exact congrArg (fun x=>x) rfl
theorem SL(d:D)(r:Env)(t:Nat):N9 false d r t=Env.get r t:=by unfold N9;exact congrArg (fun x=>x) rfl
theorem Ri(k:Nat)(d:D)(r:Env)(t:Nat):Env.get ((k,d)::r) t=N9 (k==t) d r t:=congrArg (fun x=>x) rfl
def Jl(want:Bool)(go skip:St->Prop)(s:St):Prop:=cond want (go s) (skip s)
theorem Up(go skip:St->Prop)(s:St):Jl true go skip s=go s:=by unfold Jl;exact congrArg (fun x=>x) rfl
theorem Sv(go skip:St->Prop)(s:St):Jl false go skip s=skip s:=by unfold Jl;exact congrArg (fun x=>x) rfl
def Kc(x:Option (Nat×D))(want:Bool)(s:St)(go skip:St->Prop)(stuck:Prop):Prop:=
 match x with
 |some (t,.val (.bool b))=>Ew b (Jl want go skip ⟨(t,.val (.bool true))::s.env,s.hp,s.nx⟩) (Jl (!want) go skip ⟨(t,.val (.bool false))::s.env,s.hp,s.nx⟩)
 |some (_,.cond false (.val (.bool _)))=>skip s
 |_=>stuck
theorem X5(t:Nat)(b want:Bool)(s:St)(go skip:St->Prop)(stuck:Prop):Kc (some (t,.val (.bool b))) want s go skip stuck=
  Ew b (Jl want go skip ⟨(t,.val (.bool true))::s.env,s.hp,s.nx⟩) (Jl (!want) go skip ⟨(t,.val (.bool false))::s.env,s.hp,s.nx⟩):=by unfold Kc;exact congrArg (fun x=>x) rfl
theorem X6(t:Nat)(b want:Bool)(s:St)(go skip:St->Prop)(stuck:Prop):Kc (some (t,.cond false (.val (.bool b)))) want s go skip stuck=skip s:=by unfold Kc;exact congrArg (fun x=>x) rfl
def gD(ops:Array Oper)(s:St)(j:Nat):Option (Nat×D):=(BS ops j).map fun t=>(t,s.env.get t)
theorem So(ops:Array Oper)(j:Nat)(want:Bool)(s:St)(go skip:St->Prop)(stuck:Prop):FC ops (some (j,want)) s go skip stuck=Kc (gD ops s j) want s go skip stuck:=by
 unfold FC Kc gD
 rcases h:BS ops j with _|t
 ·simp only[h,Option.map_none]
 ·simp only[h,A0U]
  rcases h':s.env.get t with _|v|⟨g,d⟩
  ·rfl
  ·cases v<;>first|rfl|(cases want<;>rfl)
  ·cases g
   ·cases d<;>first|rfl|(rename_i v;cases v<;>rfl)
   ·rfl
  all_goals rfl
theorem Sp(ops:Array Oper)(s:St)(go skip:St->Prop)(stuck:Prop):FC ops none s go skip stuck=go s:=by unfold FC;exact congrArg (fun x=>x) rfl
section
variable(P:Program)(ops:Array Oper)(nx:Nat)(dst:Option Tmp)(op:Op)(T:TypeId)(ps:String)(af:Array Edge)(r:List Oper)(pos:Nat)(acc:List Eff)(s:St)(K:List Eff->St->Prop)
theorem GoS_none:GoS P ops nx (⟨dst,op,T,ps,af,none⟩::r) pos acc s K=
  Qx (TX P (2*(nx+4*pos)) s.env.get (Ai s.hp) op) (fun e=>GoS P ops nx r (pos+1) (e::acc) (s.app dst e) K) (Af P ops nx (⟨dst,op,T,ps,af,none⟩::r) pos acc s K):=by
 rw[Tg,Sp]
theorem GoS_some(j:Nat)(want:Bool):GoS P ops nx (⟨dst,op,T,ps,af,some (j,want)⟩::r) pos acc s K=
  Kc (gD ops s j) want s (fun s=>Qx (TX P (2*(nx+4*pos)) s.env.get (Ai s.hp) op) (fun e=>GoS P ops nx r (pos+1) (e::acc) (s.app dst e) K) (Af P ops nx (⟨dst,op,T,ps,af,some (j,want)⟩::r) pos acc s K))
   (fun s=>GoS P ops nx r (pos+1) (⟨.cond false (.val (.bool false)),[],[]⟩::acc) (s.app dst ⟨.cond false (.val (.bool false)),[],[]⟩) K)
   (Af P ops nx (⟨dst,op,T,ps,af,some (j,want)⟩::r) pos acc s K):=by
 rw[Tg,So]
end
section
variable{P:Program}{ops:Array Oper}{nx:Nat}{dst:Option Tmp}{T:TypeId}{ps:String}{af:Array Edge}{gd:Option (Nat×Bool)}{f:FuncId}{x:Operand}{args:Array Operand}{ts:Array TypeId}{fs cs ds:List D}{r:D}{l:List Oper}{pos:Nat}{acc:List Eff}{s:St}{K:List Eff->St->Prop}
theorem Af.call(hc:A3 P f ds r)(hg:gd=none∨∃ j want t,gd=some (j,want)/\BS ops j=some t/\gOf (s.env.get t) want=some true)(ha:args.toList.map (evO P s.env.get)=ds)(hpu:Av ds=true)
  (hk:GoS P ops nx l (pos+1) (⟨r,[],[]⟩::acc) (s.app dst ⟨r,[],[]⟩) K):Af P ops nx (⟨dst,.call {callee:=.value (.func f),args:=args,argTypes:=ts},T,ps,af,gd⟩::l) pos acc s K:=by
 rw[Dl] at hk;rw[Cg];exact Cj.call hc hg ha hpu hk
theorem Af.callV(hx:evO P s.env.get x=.func (.func f) fs cs)(hc:A3 P f ds r)(hg:gd=none∨∃ j want t,gd=some (j,want)/\BS ops j=some t/\gOf (s.env.get t) want=some true)(ha:fs++args.toList.map (evO P s.env.get)++cs=ds)(hpu:Av ds=true)
  (hk:GoS P ops nx l (pos+1) (⟨r,[],[]⟩::acc) (s.app dst ⟨r,[],[]⟩) K):Af P ops nx (⟨dst,.call {callee:=.value x,args:=args,argTypes:=ts},T,ps,af,gd⟩::l) pos acc s K:=by
 rw[Dl] at hk;rw[Cg];exact Cj.callV hx hc hg ha hpu hk
theorem Af.ext(hc:UZ P f ds r)(hg:gd=none∨∃ j want t,gd=some (j,want)/\BS ops j=some t/\gOf (s.env.get t) want=some true)(ha:args.toList.map (evO P s.env.get)=ds)
  (hk:GoS P ops nx l (pos+1) (⟨r,[],[]⟩::acc) (s.app dst ⟨r,[],[]⟩) K):Af P ops nx (⟨dst,.call {callee:=.value (.func f),args:=args,argTypes:=ts},T,ps,af,gd⟩::l) pos acc s K:=by
 rw[Dl] at hk;rw[Cg];exact Cj.ext hc hg ha hk
end
end
end Go.Ab
namespace Go.Ab
open Go.Proofs Go.Proofs.Tryz
theorem C2{P:Program}:∀ {l:List (Nat×TI)},l.map (fun p=>Aw P p.1)=l.map (fun p=>some p.2)->∀ {k t:Nat} {x:TI},l[k]? =some (t,x)->Aw P t=some x
 |[],_,k,t,x,h=>by simp at h
 |p::l,h,0,t,x,hk=>by simp at hk;subst hk;simpa using(List.cons.inj h).1
 |p::l,h,k+1,t,x,hk=>C2 (List.cons.inj h).2 (by simpa using hk)
def tiL0:List (Nat×TI):=[
 (1,⟨1,false,[.nilFunc],8,.func⟩),
 (2,⟨1,false,[(.int .i64 0)],8,(.int .i64)⟩),
 (3,⟨1,false,[(.int .i64 0)],8,(.int .i64)⟩),
 (4,⟨1,false,[(.bool false)],1,.bool⟩),
 (5,⟨1,false,[(.int .u8 0)],1,(.int .u8)⟩),
 (9,⟨1,false,[(.string ByteArray.empty)],16,.str⟩),
 (20,⟨1,false,[.nilIface],16,.iface⟩),
 (22,⟨1,false,[(.slice none 0 0)],24,(.slice 68)⟩),
 (23,⟨1,false,[(.int .u64 0)],8,(.int .u64)⟩),
 (25,⟨1,false,[.nilFunc],8,.func⟩),
 (26,⟨1,false,[(.slice none 0 0)],24,(.slice 70)⟩),
 (27,⟨1,false,[(.int .i64 0)],8,(.int .i64)⟩),
 (34,⟨1,true,[(.slice none 0 0)],24,(.struct [(0,(1,false))])⟩),
 (35,⟨1,false,[(.pointer none)],8,(.ptr 34)⟩),
 (43,⟨3,true,[(.int .u64 0),(.slice none 0 0),(.slice none 0 0)],56,(.struct [(0,(1,false)),(1,(1,false)),(2,(1,false))])⟩),
 (58,⟨1,false,[(.int .i64 0)],8,(.int .i64)⟩),
 (59,⟨1,false,[(.int .i64 0)],8,(.int .i64)⟩),
 (60,⟨1,false,[(.slice none 0 0)],24,(.slice 63)⟩),
 (61,⟨1,false,[(.slice none 0 0)],24,(.slice 104)⟩),
 (63,⟨6,true,[(.int .i64 0),(.bool false),(.int .i64 0),(.string ByteArray.empty),(.slice none 0 0),(.slice none 0 0)],88,(.struct [(0,(1,false)),(1,(1,false)),(2,(1,false)),(3,(1,false)),(4,(1,false)),(5,(1,false))])⟩),
 (64,⟨1,false,[(.slice none 0 0)],24,(.slice 66)⟩),
 (66,⟨19,true,[(.int .i64 0),(.string ByteArray.empty),(.string ByteArray.empty),(.int .i64 0),(.bool false),(.int .i64 0),(.bool false),(.int .i64 0),(.string ByteArray.empty),(.slice none 0 0),(.slice none 0 0),(.bool false),(.int .i64 0),(.bool false),(.int .i64 0),(.string ByteArray.empty),(.slice none 0 0),(.slice none 0 0),(.slice none 0 0)],264,(.struct [(0,(1,false)),(1,(1,false)),(2,(1,false)),(3,(1,false)),(4,(1,false)),(5,(6,true)),(11,(1,false)),(12,(6,true)),(18,(1,false))])⟩),
 (68,⟨23,true,[(.int .u64 0),(.int .u64 0),(.int .u64 0),(.int .i64 0),(.string ByteArray.empty),(.string ByteArray.empty),(.int .i64 0),(.bool false),(.int .i64 0),(.bool false),(.int .i64 0),(.string ByteArray.empty),(.slice none 0 0),(.slice none 0 0),(.bool false),(.int .i64 0),(.bool false),(.int .i64 0),(.string ByteArray.empty),(.slice none 0 0),(.slice none 0 0),(.slice none 0 0),(.int .i64 0)],296,(.struct [(0,(1,false)),(1,(1,false)),(2,(1,false)),(3,(19,true)),(22,(1,false))])⟩),
 (70,⟨7,true,[(.string ByteArray.empty),(.int .i64 0),(.bool false),(.int .i64 0),(.string ByteArray.empty),(.slice none 0 0),(.slice none 0 0)],104,(.struct [(0,(1,false)),(1,(6,true))])⟩),
 (72,⟨1,false,[(.pointer none)],8,(.ptr 154)⟩),
 (74,⟨1,true,[(.pointer none)],8,(.struct [(0,(0,true)),(0,(1,false))])⟩),
 (93,⟨1,false,[(.slice none 0 0)],24,(.slice 3)⟩),
 (96,⟨1,false,[(.pointer none)],8,(.ptr 115)⟩),
 (104,⟨7,true,[(.string ByteArray.empty),(.int .i64 0),(.bool false),(.int .i64 0),(.string ByteArray.empty),(.slice none 0 0),(.slice none 0 0)],104,(.struct [(0,(1,false)),(1,(6,true))])⟩),
 (106,⟨1,false,[(.map none)],8,(.map 23 23)⟩),
 (112,⟨1,false,[(.map none)],8,(.map 9 123)⟩),
 (113,⟨1,false,[(.slice none 0 0)],24,(.slice 1)⟩),
 (115,⟨3,true,[(.pointer none),(.map none),(.slice none 0 0)],40,(.struct [(0,(1,true)),(1,(1,false)),(2,(1,false))])⟩),
 (117,⟨1,false,[(.slice none 0 0)],24,(.slice 9)⟩),
 (123,⟨7,true,[(.bool false),(.int .i64 0),(.bool false),(.int .i64 0),(.string ByteArray.empty),(.slice none 0 0),(.slice none 0 0)],96,(.struct [(0,(1,false)),(1,(6,true))])⟩),
 (129,⟨1,false,[(.slice none 0 0)],24,(.slice 72)⟩),
 (154,⟨7,true,[(.slice none 0 0),(.slice none 0 0),(.int .i64 0),(.int .i64 0),(.string ByteArray.empty),(.string ByteArray.empty),(.bool false)],104,(.struct [(0,(1,false)),(1,(1,false)),(2,(1,false)),(3,(1,false)),(4,(1,false)),(5,(1,false)),(6,(1,false))])⟩),
 (162,⟨1,false,[(.slice none 0 0)],24,(.slice 35)⟩),
 (164,⟨2,true,[(.pointer none),(.slice none 0 0)],32,(.struct [(0,(1,false)),(1,(1,false))])⟩),
 (177,⟨1,true,[(.int .i64 0)],8,(.struct [(0,(1,false))])⟩)]
theorem AY:tiL0.map (fun p=>Aw prog p.1)=tiL0.map (fun p=>some p.2):=by kernel_rfl
theorem ti1:Aw prog 1=some ⟨1,false,[.nilFunc],8,.func⟩:=C2 AY (k:=0) rfl
theorem ti2:Aw prog 2=some ⟨1,false,[(.int .i64 0)],8,(.int .i64)⟩:=C2 AY (k:=1) rfl
theorem ti3:Aw prog 3=some ⟨1,false,[(.int .i64 0)],8,(.int .i64)⟩:=C2 AY (k:=2) rfl
theorem ti4:Aw prog 4=some ⟨1,false,[(.bool false)],1,.bool⟩:=C2 AY (k:=3) rfl
theorem ti5:Aw prog 5=some ⟨1,false,[(.int .u8 0)],1,(.int .u8)⟩:=C2 AY (k:=4) rfl
theorem ti9:Aw prog 9=some ⟨1,false,[(.string ByteArray.empty)],16,.str⟩:=C2 AY (k:=5) rfl
theorem ti20:Aw prog 20=some ⟨1,false,[.nilIface],16,.iface⟩:=C2 AY (k:=6) rfl
theorem ti22:Aw prog 22=some ⟨1,false,[(.slice none 0 0)],24,(.slice 68)⟩:=C2 AY (k:=7) rfl
theorem ti23:Aw prog 23=some ⟨1,false,[(.int .u64 0)],8,(.int .u64)⟩:=C2 AY (k:=8) rfl
theorem ti25:Aw prog 25=some ⟨1,false,[.nilFunc],8,.func⟩:=C2 AY (k:=9) rfl
theorem ti26:Aw prog 26=some ⟨1,false,[(.slice none 0 0)],24,(.slice 70)⟩:=C2 AY (k:=10) rfl
theorem ti27:Aw prog 27=some ⟨1,false,[(.int .i64 0)],8,(.int .i64)⟩:=C2 AY (k:=11) rfl
theorem ti34:Aw prog 34=some ⟨1,true,[(.slice none 0 0)],24,(.struct [(0,(1,false))])⟩:=C2 AY (k:=12) rfl
theorem ti35:Aw prog 35=some ⟨1,false,[(.pointer none)],8,(.ptr 34)⟩:=C2 AY (k:=13) rfl
theorem ti43:Aw prog 43=some ⟨3,true,[(.int .u64 0),(.slice none 0 0),(.slice none 0 0)],56,(.struct [(0,(1,false)),(1,(1,false)),(2,(1,false))])⟩:=C2 AY (k:=14) rfl
theorem ti58:Aw prog 58=some ⟨1,false,[(.int .i64 0)],8,(.int .i64)⟩:=C2 AY (k:=15) rfl
theorem ti59:Aw prog 59=some ⟨1,false,[(.int .i64 0)],8,(.int .i64)⟩:=C2 AY (k:=16) rfl
theorem ti60:Aw prog 60=some ⟨1,false,[(.slice none 0 0)],24,(.slice 63)⟩:=C2 AY (k:=17) rfl
theorem ti61:Aw prog 61=some ⟨1,false,[(.slice none 0 0)],24,(.slice 104)⟩:=C2 AY (k:=18) rfl
theorem ti63:Aw prog 63=some ⟨6,true,[(.int .i64 0),(.bool false),(.int .i64 0),(.string ByteArray.empty),(.slice none 0 0),(.slice none 0 0)],88,(.struct [(0,(1,false)),(1,(1,false)),(2,(1,false)),(3,(1,false)),(4,(1,false)),(5,(1,false))])⟩:=C2 AY (k:=19) rfl
theorem ti64:Aw prog 64=some ⟨1,false,[(.slice none 0 0)],24,(.slice 66)⟩:=C2 AY (k:=20) rfl
theorem ti66:Aw prog 66=some ⟨19,true,[(.int .i64 0),(.string ByteArray.empty),(.string ByteArray.empty),(.int .i64 0),(.bool false),(.int .i64 0),(.bool false),(.int .i64 0),(.string ByteArray.empty),(.slice none 0 0),(.slice none 0 0),(.bool false),(.int .i64 0),(.bool false),(.int .i64 0),(.string ByteArray.empty),(.slice none 0 0),(.slice none 0 0),(.slice none 0 0)],264,(.struct [(0,(1,false)),(1,(1,false)),(2,(1,false)),(3,(1,false)),(4,(1,false)),(5,(6,true)),(11,(1,false)),(12,(6,true)),(18,(1,false))])⟩:=C2 AY (k:=21) rfl
theorem ti68:Aw prog 68=some ⟨23,true,[(.int .u64 0),(.int .u64 0),(.int .u64 0),(.int .i64 0),(.string ByteArray.empty),(.string ByteArray.empty),(.int .i64 0),(.bool false),(.int .i64 0),(.bool false),(.int .i64 0),(.string ByteArray.empty),(.slice none 0 0),(.slice none 0 0),(.bool false),(.int .i64 0),(.bool false),(.int .i64 0),(.string ByteArray.empty),(.slice none 0 0),(.slice none 0 0),(.slice none 0 0),(.int .i64 0)],296,(.struct [(0,(1,false)),(1,(1,false)),(2,(1,false)),(3,(19,true)),(22,(1,false))])⟩:=C2 AY (k:=22) rfl
theorem ti70:Aw prog 70=some ⟨7,true,[(.string ByteArray.empty),(.int .i64 0),(.bool false),(.int .i64 0),(.string ByteArray.empty),(.slice none 0 0),(.slice none 0 0)],104,(.struct [(0,(1,false)),(1,(6,true))])⟩:=C2 AY (k:=23) rfl
theorem ti72:Aw prog 72=some ⟨1,false,[(.pointer none)],8,(.ptr 154)⟩:=C2 AY (k:=24) rfl
theorem ti74:Aw prog 74=some ⟨1,true,[(.pointer none)],8,(.struct [(0,(0,true)),(0,(1,false))])⟩:=C2 AY (k:=25) rfl
theorem ti93:Aw prog 93=some ⟨1,false,[(.slice none 0 0)],24,(.slice 3)⟩:=C2 AY (k:=26) rfl
theorem ti96:Aw prog 96=some ⟨1,false,[(.pointer none)],8,(.ptr 115)⟩:=C2 AY (k:=27) rfl
theorem ti104:Aw prog 104=some ⟨7,true,[(.string ByteArray.empty),(.int .i64 0),(.bool false),(.int .i64 0),(.string ByteArray.empty),(.slice none 0 0),(.slice none 0 0)],104,(.struct [(0,(1,false)),(1,(6,true))])⟩:=C2 AY (k:=28) rfl
theorem ti106:Aw prog 106=some ⟨1,false,[(.map none)],8,(.map 23 23)⟩:=C2 AY (k:=29) rfl
theorem ti112:Aw prog 112=some ⟨1,false,[(.map none)],8,(.map 9 123)⟩:=C2 AY (k:=30) rfl
theorem ti113:Aw prog 113=some ⟨1,false,[(.slice none 0 0)],24,(.slice 1)⟩:=C2 AY (k:=31) rfl
theorem ti115:Aw prog 115=some ⟨3,true,[(.pointer none),(.map none),(.slice none 0 0)],40,(.struct [(0,(1,true)),(1,(1,false)),(2,(1,false))])⟩:=C2 AY (k:=32) rfl
theorem ti117:Aw prog 117=some ⟨1,false,[(.slice none 0 0)],24,(.slice 9)⟩:=C2 AY (k:=33) rfl
theorem ti123:Aw prog 123=some ⟨7,true,[(.bool false),(.int .i64 0),(.bool false),(.int .i64 0),(.string ByteArray.empty),(.slice none 0 0),(.slice none 0 0)],96,(.struct [(0,(1,false)),(1,(6,true))])⟩:=C2 AY (k:=34) rfl
theorem ti129:Aw prog 129=some ⟨1,false,[(.slice none 0 0)],24,(.slice 72)⟩:=C2 AY (k:=35) rfl
theorem ti154:Aw prog 154=some ⟨7,true,[(.slice none 0 0),(.slice none 0 0),(.int .i64 0),(.int .i64 0),(.string ByteArray.empty),(.string ByteArray.empty),(.bool false)],104,(.struct [(0,(1,false)),(1,(1,false)),(2,(1,false)),(3,(1,false)),(4,(1,false)),(5,(1,false)),(6,(1,false))])⟩:=C2 AY (k:=36) rfl
theorem ti162:Aw prog 162=some ⟨1,false,[(.slice none 0 0)],24,(.slice 35)⟩:=C2 AY (k:=37) rfl
theorem ti164:Aw prog 164=some ⟨2,true,[(.pointer none),(.slice none 0 0)],32,(.struct [(0,(1,false)),(1,(1,false))])⟩:=C2 AY (k:=38) rfl
theorem ti177:Aw prog 177=some ⟨1,true,[(.int .i64 0)],8,(.struct [(0,(1,false))])⟩:=C2 AY (k:=39) rfl
def tiL1:List (Nat×TI):=[
 (190,⟨1,false,[(.int .u64 0)],8,(.int .u64)⟩),
 (211,⟨1,false,[(.slice none 0 0)],24,(.slice 214)⟩),
 (214,⟨2,true,[(.int .i64 0),.nilFunc],16,(.struct [(0,(1,false)),(1,(1,false))])⟩),
 (254,⟨4,true,[(.bool false),(.pointer none),(.slice none 0 0),(.int .i64 0)],48,(.struct [(0,(1,false)),(1,(2,true)),(3,(1,false))])⟩),
 (257,⟨1,false,[(.pointer none)],8,(.ptr 254)⟩),
 (283,⟨3,true,[(.string ByteArray.empty),(.string ByteArray.empty),(.bool false)],40,(.struct [(0,(1,false)),(1,(1,false)),(2,(1,false))])⟩)]
theorem Ku:tiL1.map (fun p=>Aw prog p.1)=tiL1.map (fun p=>some p.2):=by kernel_rfl
theorem ti190:Aw prog 190=some ⟨1,false,[(.int .u64 0)],8,(.int .u64)⟩:=C2 Ku (k:=0) rfl
theorem ti211:Aw prog 211=some ⟨1,false,[(.slice none 0 0)],24,(.slice 214)⟩:=C2 Ku (k:=1) rfl
theorem ti214:Aw prog 214=some ⟨2,true,[(.int .i64 0),.nilFunc],16,(.struct [(0,(1,false)),(1,(1,false))])⟩:=C2 Ku (k:=2) rfl
theorem ti254:Aw prog 254=some ⟨4,true,[(.bool false),(.pointer none),(.slice none 0 0),(.int .i64 0)],48,(.struct [(0,(1,false)),(1,(2,true)),(3,(1,false))])⟩:=C2 Ku (k:=3) rfl
theorem ti257:Aw prog 257=some ⟨1,false,[(.pointer none)],8,(.ptr 254)⟩:=C2 Ku (k:=4) rfl
theorem ti283:Aw prog 283=some ⟨3,true,[(.string ByteArray.empty),(.string ByteArray.empty),(.bool false)],40,(.struct [(0,(1,false)),(1,(1,false)),(2,(1,false))])⟩:=C2 Ku (k:=5) rfl
attribute [push_cast] ti1 ti2 ti3 ti4 ti5 ti9 ti20 ti22 ti23 ti25 ti26 ti27 ti34 ti35 ti43 ti58 ti59 ti60 ti61 ti63 ti64 ti66 ti68 ti70 ti72 ti74 ti93 ti96 ti104 ti106 ti112 ti113 ti115 ti117 ti123 ti129 ti154 ti162 ti164 ti177 ti190 ti211 ti214 ti254 ti257 ti283
theorem mixed:prog.follows .mixedOrders=true:=by kernel_rfl
attribute [push_cast] GoS_nil GoS_none GoS_some X8 X9 X5 X6 Up Sv gD TX Z2 V5 VK tq Jn pv pvc QZ boxE QQ Lb M2 J4 Jj Js nilE binX Vj Vk ZE Ug mapE Vo Tm delE Q0 QC zD NX Fm keq EE MZ binE ZF L1 Kv unE VJ N0 GF GB Qr Kz Me bnd Hz Vm lenE minE maxE QY M5 M3 Ko VI QF capE PR S2 Ls F4 GL evO Ri Uz SL Ai upd del Er St.app gOf BS frz Jx KE UY D.pure Av Am Bq Yf JK Value.oneCell'
theorem lo_self(d:D):lo d d=True:=eq_true (An d)
theorem K7(d:List D):loL d d=True:=eq_true (AJ d)
theorem ZX(x:Blk):loB x x=True:=eq_true (Bl x)
theorem K6(es es':List (List D))(t t':Bool):lo (.slice es t) (.slice es' t')=(E5 es es'/\(t'=true->t=true)):=by simp only[lo]
theorem Ui(cs cs':List D):lo (.agg cs) (.agg cs')=loL cs cs':=by simp only[lo]
theorem ZS(cs cs':List D):lo (.tup cs) (.tup cs')=loL cs cs':=by simp only[lo]
theorem lo_ptr(cs cs':List D)(o o':Nat):lo (.ptr cs o) (.ptr cs' o')=(o=o'/\loL cs cs'):=by simp only[lo]
theorem lo_func(f f':Fn)(fs cs fs' cs':List D):lo (.func f fs cs) (.func f' fs' cs')=(f=f'/\loL fs fs'/\loL cs cs'):=by simp only[lo]
theorem lo_val(v v':Value):lo (.val v) (.val v')=(v=v'):=by simp[lo]
attribute [push_cast] lo_func K6 Ui ZS lo_ptr lo_val Value.int.injEq Value.bool.injEq Value.string.injEq or_true true_or
theorem ZY(es es':List (List D))(sz sz':Nat):loB (.rows es sz) (.rows es' sz')=(E5 es es'/\sz=sz'):=rfl
theorem loB_grow(es es':List (List D))(sz sz':Nat):loB (.grow es sz) (.grow es' sz')=(E5 es es'/\sz=sz'):=rfl
theorem loB_map(es es':List (Value×Nat×D))(c c':Nat):loB (.map es c) (.map es' c')=(Blk.map es c=.map es' c'):=rfl
theorem ZZ(m a:Nat)(b:List Nat)(c m' a':Nat)(b':List Nat)(c':Nat):loB (.iter m a b c) (.iter m' a' b' c')=(Blk.iter m a b c=.iter m' a' b' c'):=rfl
theorem loB_obj(o o':Obj):loB (.obj o) (.obj o')=(Blk.obj o=.obj o'):=rfl
attribute [push_cast] ZY loB_grow loB_map ZZ loB_obj ZX loL E5 lo_self K7
theorem nd_zero(d:D)(r:List D):nd (d::r) 0=d:=rfl
theorem nd_succ(d:D)(r:List D)(i:Nat):nd (d::r) (i+1)=nd r i:=rfl
theorem nr_zero(d:List D)(r:List (List D)):nr (d::r) 0=d:=rfl
theorem nr_succ(d:List D)(r:List (List D))(i:Nat):nr (d::r) (i+1)=nr r i:=rfl
theorem ofV_int(k:IntKind)(n:Int):ofV (.int k n)=bif decide (E9 k<=n)&&decide (n<=Ea k) then .val (.int k n) else .any:=rfl
theorem ZB(b:Bool):ofV (.bool b)=.val (.bool b):=rfl
theorem Uf(a:Array UInt8):ofV (.string ⟨a⟩)=bif decide (a.size<=9223372036854775807) then .val (.string ⟨a⟩) else .any:=rfl
attribute [push_cast] E9 Ea
theorem WL:ofV (.string ByteArray.empty)=.val (.string ByteArray.empty):=rfl
theorem Zu(k:IntKind)(n:Int):BF (.val (.int k n))=true:=rfl
theorem WK(b:Bool):BF (.val (.bool b))=true:=rfl
theorem S6(b:ByteArray):BF (.val (.string b))=true:=rfl
theorem Qd(p:Option Addr):BF (.val (.pointer p))=true:=rfl
theorem Zn(p:Option Nat):BF (.val (.map p))=true:=rfl
theorem Qe:BF (.val .nilFunc)=true:=rfl
theorem NC:BF (.val .nilIface)=true:=rfl
theorem Ud(es:List (List D))(t:Bool):BF (.slice es t)=true:=rfl
theorem Zm(cs:List D)(o:Nat):BF (.ptr cs o)=true:=rfl
theorem Zj(b i o s:Nat):BF (.ref b i o s)=true:=rfl
theorem WF(b i l c s:Nat):BF (.sref b i l c s)=true:=rfl
theorem WI(b l:Nat):BF (.gref b l)=true:=rfl
theorem WG(b:Nat):BF (.mref b)=true:=rfl
theorem WJ(f:Fn)(fs cs:List D):BF (.func f fs cs)=true:=rfl
theorem Ue(t:TypeId)(d:D):BF (.iface t d)=true:=rfl
theorem Zx(b i o s:Nat):BF (.gel b i o s)=true:=rfl
theorem WH(b i o s:Nat):BF (.gsub b i o s)=true:=rfl
theorem ZA(cs:List D):BF (.agg cs)=false:=rfl
theorem Zh(cs:List D):BF (.tup cs)=false:=rfl
theorem Zz:BF .any=false:=rfl
attribute [push_cast] WL Zx WH Zu WK S6 Qd Zn Qe NC Ud Zm Zj WF WI WG WJ Ue ZA Zh Zz
theorem Qf:ofV (.slice none 0 0)=.slice [] true:=rfl
theorem S7(p:Option Addr):ofV (.pointer p)=.val (.pointer p):=rfl
theorem ofV_map(p:Option Nat):ofV (.map p)=.val (.map p):=rfl
theorem S8:ofV .nilFunc=.val .nilFunc:=rfl
theorem Qg:ofV .nilIface=.val .nilIface:=rfl
theorem Wj{α:Type}(xs ys:List α):AM xs 0 ys=ys++xs.drop ys.length:=by simp[AM]
theorem Wk{α:Type}(x:α)(xs ys:List α)(n:Nat):AM (x::xs) (n+1) ys=x::AM xs n ys:=by
 simp[AM,Nat.add_right_comm]
attribute [push_cast] nd_zero nd_succ nr_zero nr_succ ofV_int ZB Uf Qf S7 ofV_map S8 Qg Wj Wk
attribute [push_cast] cond_true cond_false A0k A0S A0g A0i A0P A13 List.getElem?_nil A1T List.drop_succ_cons List.drop_nil List.take_zero List.take_succ_cons List.take_nil A07 A09 A0E List.set_cons_zero List.set_cons_succ List.replicate_succ List.replicate_zero List.all_cons List.all_nil A22 Bool.true_and A0X A0c and_true true_and and_self ite_true ite_false if_true if_false eq_self A1y List.reverse_nil A0y A1c A0U Option.map_none A1w Option.bind_none A04 A0q A1g A0H Option.isNone_none Option.isNone_some Bool.not_true Bool.not_false List.mapM_cons List.mapM_nil Option.pure_def Option.bind_eq_bind decide_true decide_false exists_eq_left exists_eq_left' not_true_eq_false not_false_eq_true forall_const
attribute [push_cast] List.any_cons List.any_nil ne_eq id_eq Bool.or_true A23 Bool.true_or Bool.false_or Bool.and_false Bool.false_and beq_self_eq_true bne_self_eq_false Int.toNat_natCast A1m A1b Nat.sub_zero iff_self
def H6{α:Type}(x:α):α:=x
theorem tick_eq{α:Type}(x:α):H6 x=x:=congrArg (fun y=>y) rfl
attribute [push_cast] tick_eq
@[congr] theorem GoS_congr{P:Program}{ops:Array Oper}{nx:Nat}{l:List Oper}{pos:Nat}{acc:List Eff}{s s':St}{K:List Eff->St->Prop}(h:H6 s=s'):GoS P ops nx l pos acc s K=GoS P ops nx l pos acc s' K:=by rw[<-h];rfl
@[congr] theorem RunXS_congr{P:Program}{ops:Array Oper}{nx:Nat}{l:List Oper}{pos:Nat}{acc:List Eff}{s s':St}{K:List Eff->St->Prop}(h:H6 s=s'):Af P ops nx l pos acc s K=Af P ops nx l pos acc s' K
:=by rw[<-h];rfl
@[congr] theorem goOn_congr{r r':Option (Eff×Prop)}{go:Eff->Prop}{stuck:Prop}(h:H6 r=r'):Qx r go stuck=Qx r' go stuck:=by rw[<-h];rfl
@[congr] theorem gpick_congr{b b':Bool}{go skip:St->Prop}{s:St}(h:H6 b=b'):Jl b go skip s=Jl b' go skip s:=by rw[<-h];rfl
@[congr] theorem gwork_congr{x x':Option (Nat×D)}{want:Bool}{s:St}{go skip:St->Prop}{stuck:Prop}(h:H6 x=x'):Kc x want s go skip stuck=Kc x' want s go skip stuck:=by rw[<-h];rfl
@[congr] theorem dpick_congr{b b':Bool}{d:D}{r:Env}{t:Nat}(h:H6 b=b'):N9 b d r t=N9 b' d r t:=by rw[<-h];rfl
@[congr] theorem gsplit_congr{ops:Array Oper}{g:Option (Nat×Bool)}{s s':St}{go skip:St->Prop}{stuck:Prop}(h:H6 s=s'):FC ops g s go skip stuck=FC ops g s' go skip stuck:=by rw[<-h];rfl
@[congr] theorem bsplit_congr{b b':Bool}{x y:Prop}(h:H6 b=b'):Ew b x y=Ew b' x y:=by rw[<-h];rfl
theorem Ta(x y:Prop):Ew true x y=x:=by simp[Ew]
theorem QR(x y:Prop):Ew false x y=y:=by simp[Ew]
theorem A6{b:Bool}{x y:Prop}(h:b=true->x)(k:b=false->y):Ew b x y:=⟨h,k⟩
attribute [push_cast] Ta QR
@[congr] theorem AWp_congr{P:Program}{nt:Nat}{c:Code}{Q:AE->St->Prop}{s s':St}(h:H6 s=s'):AWp P nt c Q s=AWp P nt c Q s':=by rw[<-h];rfl
end Go.Ab
namespace Go.Ab
open Go.RowKit
theorem FV{f:D->D}(h:∀ d,d.pure=true->f d=d):∀ {l:List D},Av l=true->l.map f=l
 |[],_=>rfl
 |d::l,hp=>by
  simp only[Av,A0c] at hp
  simp only[A0k,h d hp.1,FV h hp.2]
theorem Eo(hp:Nat->Option Blk):∀ (n:Nat) (d:D),d.pure=true->frz hp n d=d
 |0,d,_=>by cases d<;>rfl
 |n+1,d,h=>by
  cases d<;>simp only[frz]
  case agg cs=>rw [FV (Eo hp n) (by simpa[D.pure] using h)]
  case tup cs=>rw [FV (Eo hp n) (by simpa[D.pure] using h)]
  case iface t d=>rw [Eo hp n d (by simpa[D.pure] using h)]
  case func fn fs cs=>
   simp only[D.pure,A0c] at h
   rw[FV (Eo hp n) h.1,FV (Eo hp n) h.2]
  case ref b i o s=>simp [D.pure] at h
  case sref b i l c s=>simp [D.pure] at h
  case gref b l=>simp [D.pure] at h
  case gsub b i l s=>simp [D.pure] at h
theorem K2(hp:Nat->Option Blk)(n:Nat){l:List D}(h:Av l=true):l.map (frz hp n)=l:=FV (Eo hp n) h
def Mw(b:Nat)(x:Blk)(c:Nat):Option Blk:=bif c==b then some x else none
def fzD(b:Nat)(x:Blk)(d:D):D:=frz (Mw b x) 4 d
def fzE(b:Nat)(x:Blk):Env->Env
 |[]=>[]
 |(t,d)::r=>(t,fzD b x d)::fzE b x r
def JB(F:D->D):Blk->Blk
 |.rows es sz=>.rows (es.map fun r=>r.map F) sz
 |.grow es sz=>.grow (es.map fun r=>r.map F) sz
 |.loop env nt st pd ps a c=>.loop (FZ F env) nt st pd ps a c
 |.map es ck=>.map (es.map fun p=>(p.1,p.2.1,F p.2.2)) ck
 |x=>x
def fzH(b:Nat)(x:Blk):Hp->Hp
 |[]=>[]
 |(c,y)::r=>(c,JB (fzD b x) y)::fzH b x r
theorem Hs(hp:Nat->Option Blk)(n:Nat):∀ {l:List (List D)},Am l=true->l.map (fun r=>r.map (frz hp n))=l
 |[],_=>rfl
 |r::l,h=>by
  simp only[Am,A0c] at h
  rw[A0k,K2 hp n h.1,Hs hp n h.2]
def fzS(b:Nat)(s:St):St:=
 match Ai s.hp b with
 |some (.rows es sz)=>⟨fzE b (.rows es sz) s.env,fzH b (.rows es sz) (del s.hp b),s.nx⟩
 |some (.grow es sz)=>bif Am es then⟨fzE b (.grow es sz) s.env,fzH b (.grow es sz) (del s.hp b),s.nx⟩ else s
 |_=>s
def fzL:List Nat->St->St
 |[],s=>s
 |b::r,s=>fzL r (fzS b s)
theorem VD(b:Nat)(x:Blk):∀ (e:Env) (t:Nat),(fzE b x e).get t=fzD b x (e.get t)
 |[],t=>rfl
 |(k,d)::r,t=>by
  simp only[fzE,Env.get]
  cases k==t with
  |true=>rfl
  |false=>exact VD b x r t
theorem Sz(b:Nat)(x:Blk):∀ (h:Hp) (c:Nat) (y:Blk),Ai (fzH b x h) c=some y->∃ z,Ai h c=some z/\y=JB (fzD b x) z
 |[],c,y,h=>by cases h
 |(k,z)::r,c,y,h=>by
  simp only[fzH,Ai] at h|-
  cases hk:k==c with
  |true=>
   simp only[hk,cond_true,A04] at h
   exact⟨z,by simp,h.symm⟩
  |false=>simp only[hk,cond_false] at h|-;exact Sz b x r c y h
theorem Fj{es:List (List D)}{F:D->D}{i:Nat}(hi:i<es.length):nr (es.map fun r=>r.map F) i=(nr es i).map F:=by simp[nr,A03,hi]
theorem Dp.mapB{w:World}{I J:Nat->Prop}{mu:Nat->Option Value}{F:D->D}(hF:∀ d v,Rep w I mu d v->Rep w J mu (F d) v){b:Nat}{y:Blk}(h:Dp w I mu b y):Dp w J mu b (JB F y):=by
 cases y with
 |rows es sz=>
  obtain⟨k,T,us,h1,h2,h3,h4,h5⟩:=h
  refine⟨k,T,us,h1,h2,by simpa using h3,fun i hi=>?_,fun i j hi hj=>?_⟩
  ·simp only[A0b] at hi
   rw[Fj hi,A0b];exact h4 i hi
  ·simp only[A0b] at hi
   rw[Fj hi,DN (by rw[h4 i hi];exact hj)];exact hF _ _ (h5 i j hi hj)
 |grow es sz=>
  obtain⟨A,cap,T,us,h1,h2,h3,h4⟩:=h
  refine⟨A,cap,T,us,by simpa using h1,fun i hi=>?_,h3,?_⟩
  ·simp only[A0b] at hi
   rw[Fj hi,A0b];exact h2 i hi
  ·rcases h4 with⟨h4,rfl⟩|⟨k,h0,hA,h5,h6,h7,h8⟩
   ·exact .inl ⟨h4,rfl⟩
   ·refine .inr ⟨k,h0,hA,h5,by simpa using h6,h7,fun i j hi hj=>?_⟩
    simp only[A0b] at hi
    rw[Fj hi,DN (by rw[h2 i hi];exact hj)];exact hF _ _ (h8 i j hi hj)
 |map es clock=>
  obtain⟨k,l,h1,h2,h3,h4,h5⟩:=h
  refine⟨k,l,h1,h2,by rw[h3];simp[Function.comp_def],by rw[h4];simp[Function.comp_def],fun i x y hx hy=>?_⟩
  simp only[A0A,A1v] at hy
  obtain⟨z,hz,rfl⟩:=hy
  exact hF _ _ (h5 i x z hx hz)
 |iter m since seen last=>exact h
 |obj o=>exact h
 |loop env nt st pd ps a c=>
  obtain⟨k,fn,tmps,kd,h1,h2,h3,h4⟩:=h
  exact⟨k,fn,tmps,kd,h1,h2,h3,fun t=>N7 (Q:=fun d=>Rep w J mu d (tmps.getD t undef)) (.any _) (hF _ _ (h4 t))⟩
 |junk=>exact h
theorem Ar.fzB{s:St}{b:Nat}{x:Blk}(hx:Ai s.hp b=some x):Ar s ⟨fzE b x s.env,fzH b x (del s.hp b),s.nx⟩:=by
 intro w0 M0 I0 nt I mu a w rel
 have hx':s.fs.hp b=some x:=hx
 have sub:∀ c y,Mw b x c=some y->s.fs.hp c=some y:=fun c y h=>by
  unfold Mw at h
  by_cases hc:c=b
  ·subst hc;simp at h;subst h;exact hx'
  ·have:(c==b)=false:=by simp[hc]
   simp[this] at h
 have hr:Aq w0 M0 I0 (frN s.nx) I mu (Mw b x) w:=
  ⟨fun c y h=>rel.w.blk c y (sub c y h),fun c y v j h hv hj=>rel.w.loc c y v j (sub c y h) hv hj,fun c c' y z v u j h h'=>rel.w.inj c c' y z v u j (sub c y h) (sub c' z h'),rel.w.fresh,rel.w.lt,rel.w.os,rel.w.tape,rel.w.output,rel.w.grown,rel.w.old,rel.w.iold,rel.w.inew,rel.w.keep,fun c y h hc=>rel.w.used c y (sub c y h) hc⟩
 let J:Nat->Prop:=fun j=>I j∨∃ v,mu b=some v/\Ap v=some j
 have fz:∀ d v,Rep w I mu d v->Rep w J mu (fzD b x d) v:=fun d v h=>
  Rep.frz hr (fun j hj=>.inl hj) (fun c y v j h hv hj=>by
   unfold Mw at h
   by_cases hc:c=b
   ·subst hc;exact .inr ⟨v,hv,hj⟩
   ·have:(c==b)=false:=by simp[hc]
    simp[this] at h) 4 d v h
 have hlk:∀ c y,Ai (fzH b x (del s.hp b)) c=some y->c≠b/\∃ z,s.fs.hp c=some z/\y=Go.Ab.JB (fzD b x) z:=by
  intro c y h
  obtain⟨z,hz,hy⟩:=Sz b x _ c y h
  rw[K4] at hz
  split at hz
  ·cases hz
  ·rename_i hne;exact⟨fun h=>hne h.symm,z,hz,hy⟩
 refine⟨J,mu,rel.size,rel.defers.sub (fun _ h=>.inl h),fun t=>?_,⟨fun c y h=>?_,fun c y v j h hv hj=>?_,fun c c' y z v u j h h'=>?_,rel.w.fresh,fun j hj=>?_,rel.w.os,rel.w.tape,rel.w.output,rel.w.grown,rel.w.old,fun j hj=>.inl (rel.w.iold j hj),fun j hj=>?_,rel.w.keep,fun c y h hc=>?_⟩⟩
 ·show Rep w _ mu ((fzE b x s.env).get t) _
  rw[VD]
  exact fz _ _ (rel.env t)
 ·obtain⟨_,z,hz,hy⟩:=hlk c y h
  subst hy
  exact(rel.w.blk c z hz).mapB fz
 ·obtain⟨hne,z,hz,_⟩:=hlk c y h
  have h6:=rel.w.loc c z v j hz hv hj
  refine⟨h6.1,fun hI=>?_,h6.2.2⟩
  rcases hI with hI|⟨u,hu,hk⟩
  ·exact h6.2.1 hI
  ·exact hne (rel.w.inj c b _ _ _ _ j hz hx' hv hu hj hk)
 ·obtain⟨_,z',g1,_⟩:=hlk c y h
  obtain⟨_,z'',g2,_⟩:=hlk c' z h'
  exact rel.w.inj c c' _ _ v u j g1 g2
 ·rcases hj with hj|⟨v,hv,hk⟩
  ·exact rel.w.lt j hj
  ·exact(rel.w.loc b x v j hx' hv hk).2.2
 ·rcases hj with hj|⟨v,hv,hk⟩
  ·exact rel.w.inew j hj
  ·exact .inr (rel.w.loc b x v j hx' hv hk).1
 ·obtain⟨_,z,hz,_⟩:=hlk c y h
  exact rel.w.used c z hz hc
theorem Ar.fzS(b:Nat)(s:St):Ar s (fzS b s):=by
 unfold Go.Ab.fzS
 split
 ·rename_i es sz hx;exact Ar.fzB hx
 ·rename_i es sz hx
  cases hp:Am es with
  |false=>exact Ar.refl s
  |true=>exact Ar.fzB hx
 ·exact Ar.refl s
theorem Ar.fzL:∀ (l:List Nat) (s:St),Ar s (fzL l s)
 |[],s=>Ar.refl s
 |b::r,s=>(Ar.fzS b s).trans (Ar.fzL r _)
mutual
def B3(r:Nat->Nat):D->D
 |.any=>.any
 |.val v=>.val v
 |.cond g d=>.cond g (B3 r d)
 |.agg cs=>.agg (Ca r cs)
 |.tup cs=>.tup (Ca r cs)
 |.slice es t=>.slice (DB r es) t
 |.ptr cs o=>.ptr (Ca r cs) o
 |.func fn fs cs=>.func fn (Ca r fs) (Ca r cs)
 |.iface t d=>.iface t (B3 r d)
 |.ref b i o s=>.ref (r b) i o s
 |.sref b i l c s=>.sref (r b) i l c s
 |.gref b l=>.gref (r b) l
 |.mref b=>.mref (r b)
 |.yld b=>.yld (r b)
 |.abool n p=>.abool n p
 |.gel b i o s=>.gel (r b) i o s
 |.gsub b i l s=>.gsub (r b) i l s
def Ca(r:Nat->Nat):List D->List D
 |[]=>[]
 |d::l=>B3 r d::Ca r l
def DB(r:Nat->Nat):List (List D)->List (List D)
 |[]=>[]
 |d::l=>Ca r d::DB r l
end
def okN(n b:Nat):Bool:=b%2==1 ||decide (b<2*n)
mutual
def ltD(n:Nat):D->Bool
 |.any=>true
 |.val _=>true
 |.cond _ d=>ltD n d
 |.agg cs=>ltL n cs
 |.tup cs=>ltL n cs
 |.slice es _=>EJ n es
 |.ptr cs _=>ltL n cs
 |.func _ fs cs=>ltL n fs&&ltL n cs
 |.iface _ d=>ltD n d
 |.ref b _ _ _=>okN n b
 |.sref b _ _ _ _=>okN n b
 |.gref b _=>okN n b
 |.mref b=>okN n b
 |.yld b=>okN n b
 |.gel b _ _ _=>okN n b
 |.gsub b _ _ _=>okN n b
 |.abool _ _=>true
def ltL(n:Nat):List D->Bool
 |[]=>true
 |d::l=>ltD n d&&ltL n l
def EJ(n:Nat):List (List D)->Bool
 |[]=>true
 |d::l=>ltL n d&&EJ n l
end
mutual
theorem FO(r:Nat->Nat):∀ (d:D),d.pure=true->B3 r d=d
 |.any,_=>rfl
 |.abool _ _,_=>rfl
 |.val _,_=>rfl
 |.cond g d,h=>by simp only[B3];rw[FO r d (by simpa[D.pure] using h)]
 |.agg cs,h=>by simp only[B3];rw[C0 r cs (by simpa[D.pure] using h)]
 |.tup cs,h=>by simp only[B3];rw[C0 r cs (by simpa[D.pure] using h)]
 |.slice es _,h=>by simp only[B3];rw[Jy r es (by simpa[D.pure] using h)]
 |.ptr cs _,h=>by simp only[B3];rw[C0 r cs (by simpa[D.pure] using h)]
 |.func _ fs cs,h=>by
  simp only[D.pure,A0c] at h
  simp only[B3];rw[C0 r fs h.1,C0 r cs h.2]
 |.iface _ d,h=>by simp only[B3];rw[FO r d (by simpa[D.pure] using h)]
 |.ref _ _ _ _,h=>by simp[D.pure] at h
 |.sref _ _ _ _ _,h=>by simp[D.pure] at h
 |.gref _ _,h=>by simp[D.pure] at h
 |.yld _,h=>by simp[D.pure] at h
 |.mref _,h=>by simp[D.pure] at h
 |.gel _ _ _ _,h=>by simp[D.pure] at h
 |.gsub _ _ _ _,h=>by simp[D.pure] at h
theorem C0(r:Nat->Nat):∀ (l:List D),Av l=true->Ca r l=l
 |[],_=>rfl
 |d::l,h=>by
  simp only[Av,A0c] at h
  simp only[Ca];rw[FO r d h.1,C0 r l h.2]
theorem Jy(r:Nat->Nat):∀ (l:List (List D)),Am l=true->DB r l=l
 |[],_=>rfl
 |d::l,h=>by
  simp only[Am,A0c] at h
  simp only[DB];rw[C0 r d h.1,Jy r l h.2]
end
mutual
theorem Ht(n:Nat):∀ (d:D),d.pure=true->ltD n d=true
 |.any,_=>rfl
 |.abool _ _,_=>rfl
 |.val _,_=>rfl
 |.cond g d,h=>by simp only[ltD];exact Ht n d (by simpa[D.pure] using h)
 |.agg cs,h=>by simp only[ltD];exact CF n cs (by simpa[D.pure] using h)
 |.tup cs,h=>by simp only[ltD];exact CF n cs (by simpa[D.pure] using h)
 |.slice es _,h=>by simp only[ltD];exact KW n es (by simpa[D.pure] using h)
 |.ptr cs _,h=>by simp only[ltD];exact CF n cs (by simpa[D.pure] using h)
 |.func _ fs cs,h=>by
  simp only[D.pure,A0c] at h
  simp only[ltD,A0c];exact⟨CF n fs h.1,CF n cs h.2⟩
 |.iface _ d,h=>by simp only[ltD];exact Ht n d (by simpa[D.pure] using h)
 |.ref _ _ _ _,h=>by simp[D.pure] at h
 |.sref _ _ _ _ _,h=>by simp[D.pure] at h
 |.gref _ _,h=>by simp[D.pure] at h
 |.yld _,h=>by simp[D.pure] at h
 |.mref _,h=>by simp[D.pure] at h
 |.gel _ _ _ _,h=>by simp[D.pure] at h
 |.gsub _ _ _ _,h=>by simp[D.pure] at h
theorem CF(n:Nat):∀ (l:List D),Av l=true->ltL n l=true
 |[],_=>rfl
 |d::l,h=>by
  simp only[Av,A0c] at h
  simp only[ltL,A0c];exact⟨Ht n d h.1,CF n l h.2⟩
theorem KW(n:Nat):∀ (l:List (List D)),Am l=true->EJ n l=true
 |[],_=>rfl
 |d::l,h=>by
  simp only[Am,A0c] at h
  simp only[EJ,A0c];exact⟨CF n d h.1,KW n l h.2⟩
end
theorem PX(r:Nat->Nat):∀ l:List D,Ca r l=l.map (B3 r)
 |[]=>rfl
 |d::l=>by simp[Ca,PX r l]
theorem Ei(r:Nat->Nat):∀ l:List (List D),DB r l=l.map (Ca r)
 |[]=>rfl
 |d::l=>by simp[DB,Ei r l]
theorem Et{n:Nat}:∀ {cs:List D},ltL n cs=true->∀ i,ltD n (nd cs i)=true
 |[],_,i=>by simp[nd,ltD]
 |d::r,h,0=>by simp only[ltL,A0c] at h;simpa[nd] using h.1
 |d::r,h,i+1=>by simp only[ltL,A0c] at h;have:=Et h.2 i;simpa[nd] using this
theorem LU{n:Nat}:∀ {es:List (List D)},EJ n es=true->∀ i,ltL n (nr es i)=true
 |[],_,i=>by simp[nr,ltL]
 |d::r,h,0=>by simp only[EJ,A0c] at h;simpa[nr] using h.1
 |d::r,h,i+1=>by simp only[EJ,A0c] at h;have:=LU h.2 i;simpa[nr] using this
theorem BV{r:Nat->Nat}{cs:List D}{i:Nat}(hi:i<cs.length):nd (Ca r cs) i=B3 r (nd cs i):=by rw[PX];exact DN hi
theorem Cq{r:Nat->Nat}{es:List (List D)}{i:Nat}(hi:i<es.length):nr (DB r es) i=Ca r (nr es i):=by rw[Ei];simp[nr,A03,hi]
theorem Az(r:Nat->Nat)(cs:List D):(Ca r cs).length=cs.length:=by rw[PX];simp
theorem AI(r:Nat->Nat)(cs:List (List D)):(DB r cs).length=cs.length:=by rw[Ei];simp
theorem Rep.ren{w:World}{I:Nat->Prop}{mu mu':Nat->Option Value}{r:Nat->Nat}{n:Nat}(hmu:∀ b x,okN n b=true->mu (r b)=some x->mu' b=some x){d':D}{v:Value}(h:Rep w I mu d' v):∀ {d:D},d'=B3 r d->ltD n d=true->Rep w I mu' d v:=by
 induction h with
 |any v=>intro d he hl;cases d<;>simp only[B3,reduceCtorEq] at he;exact .any v
 |abool n pos b h=>intro d he hl;cases d<;>simp only[B3,reduceCtorEq,D.abool.injEq] at he;obtain⟨rfl,rfl⟩:=he;exact .abool _ _ b h
 |val v ok=>intro d he hl;cases d<;>simp only[B3,reduceCtorEq,D.val.injEq] at he;subst he;exact .val v ok
 |cond g d v _ h' ih=>
  intro d he hl;cases d<;>simp only[B3,reduceCtorEq,D.cond.injEq] at he
  obtain⟨rfl,he⟩:=he
  exact .cond _ _ v (fun hg=>ih hg he (by simpa[ltD] using hl)) h'
 |agg cs us hl _ ih=>
  intro d he hlt;cases d<;>simp only[B3,reduceCtorEq,D.agg.injEq] at he
  subst he
  rw[Az] at hl ih
  exact .agg _ us hl fun i hi=>ih i hi (BV hi) (Et (by simpa[ltD] using hlt) i)
 |tup cs us hl _ ih=>
  intro d he hlt;cases d<;>simp only[B3,reduceCtorEq,D.tup.injEq] at he
  subst he
  rw[Az] at hl ih
  exact .tup _ us hl fun i hi=>ih i hi (BV hi) (Et (by simpa[ltD] using hlt) i)
 |slice es tight A k o sz cap u hA hc ht hm hlen hcell _ ih=>
  intro d he hlt;cases d<;>simp only[B3,reduceCtorEq,D.slice.injEq] at he
  obtain⟨rfl,rfl⟩:=he
  rw[AI] at hA hc ht hlen hcell ih
  rename_i es t
  have:=Rep.slice (w:=w) (I:=I) (mu:=mu') es tight A k o sz cap u hA hc ht hm (fun i hi=>by have:=hlen i hi;rw[Cq hi,Az] at this;exact this) hcell (fun i j hi hj=>ih i j hi hj (by
    have h1:=hlen i hi
    rw[Cq hi,Az] at h1
    rw[Cq hi,BV (by omega)]) (Et (LU (by simpa[ltD] using hlt) i) j))
  rw[AI]
  exact this
 |ptr cs off k o u hk hcell _ ih=>
  intro d he hlt;cases d<;>simp only[B3,reduceCtorEq,D.ptr.injEq] at he
  obtain⟨rfl,rfl⟩:=he
  rw[Az] at hk hcell ih
  exact .ptr _ _ k o u hk hcell fun j hj=>ih j hj (BV hj) (Et (by simpa[ltD] using hlt) j)
 |ref b i off sz k h=>
  intro d he hlt;cases d<;>simp only[B3,reduceCtorEq,D.ref.injEq] at he
  obtain⟨rfl,rfl,rfl,rfl⟩:=he
  exact .ref _ _ _ _ k (hmu _ _ (by simpa[ltD] using hlt) h)
 |sref b i len cap sz k h=>
  intro d he hlt;cases d<;>simp only[B3,reduceCtorEq,D.sref.injEq] at he
  obtain⟨rfl,rfl,rfl,rfl,rfl⟩:=he
  exact .sref _ _ _ _ _ k (hmu _ _ (by simpa[ltD] using hlt) h)
 |gref b len A cap h=>
  intro d he hlt;cases d<;>simp only[B3,reduceCtorEq,D.gref.injEq] at he
  obtain⟨rfl,rfl⟩:=he
  exact .gref _ _ A cap (hmu _ _ (by simpa[ltD] using hlt) h)
 |mref b k h=>
  intro d he hlt;cases d<;>simp only[B3,reduceCtorEq,D.mref.injEq] at he
  subst he
  exact .mref _ k (hmu _ _ (by simpa[ltD] using hlt) h)
 |yld b k h=>
  intro d he hlt;cases d<;>simp only[B3,reduceCtorEq,D.yld.injEq] at he
  subst he
  exact .yld _ k (hmu _ _ (by simpa[ltD] using hlt) h)
 |gel b i off sz k len cap h=>
  intro d he hlt;cases d<;>simp only[B3,reduceCtorEq,D.gel.injEq] at he
  obtain⟨rfl,rfl,rfl,rfl⟩:=he
  exact .gel _ _ _ _ k len cap (hmu _ _ (by simpa[ltD] using hlt) h)
 |gsub b i len sz A B m cap h hle hB=>
  intro d he hlt;cases d<;>simp only[B3,reduceCtorEq,D.gsub.injEq] at he
  obtain⟨rfl,rfl,rfl,rfl⟩:=he
  exact .gsub _ _ _ _ A B m cap (hmu _ _ (by simpa[ltD] using hlt) h) hle hB
 |func fn fs cs us vs hl hk _ _ ih ih'=>
  intro d he hlt;cases d<;>simp only[B3,reduceCtorEq,D.func.injEq] at he
  obtain⟨rfl,rfl,rfl⟩:=he
  rw[Az] at hl hk ih ih'
  simp only[ltD,A0c] at hlt
  exact .func _ _ _ us vs hl hk (fun i hi=>ih i hi (BV hi) (Et hlt.1 i)) fun i hi=>ih' i hi (BV hi) (Et hlt.2 i)
 |iface t d v _ ih=>
  intro d he hlt;cases d<;>simp only[B3,reduceCtorEq,D.iface.injEq] at he
  obtain⟨rfl,rfl⟩:=he
  exact .iface _ _ v (ih rfl (by simpa[ltD] using hlt))
def FA(r:Nat->Nat):Blk->Blk
 |.rows es sz=>.rows (DB r es) sz
 |.grow es sz=>.grow (DB r es) sz
 |.map es ck=>.map (es.map fun p=>(p.1,p.2.1,B3 r p.2.2)) ck
 |.iter m since seen last=>.iter (r m) since seen last
 |.obj o=>.obj o
 |.loop env nt st pd ps a c=>.loop (FZ (B3 r) env) nt st pd ps a c
 |.junk=>.junk
def ltB(n:Nat):Blk->Bool
 |.rows es _=>EJ n es
 |.grow es _=>EJ n es
 |.map es _=>es.all fun p=>ltD n p.2.2
 |.iter m _ _ _=>okN n m
 |.loop env _ _ _ _ _ _=>Xf (ltD n) env
 |_=>true
theorem Dp.ren{w:World}{I:Nat->Prop}{mu mu':Nat->Option Value}{r:Nat->Nat}{n b:Nat}(hmu:∀ b x,okN n b=true->mu (r b)=some x->mu' b=some x){x:Blk}(hb:okN n b=true)(h:Dp w I mu (r b) (FA r x))(hl:ltB n x=true):Dp w I mu' b x:=by
 cases x with
 |rows es sz=>
  obtain⟨k,T,us,h1,h2,h3,h4,h5⟩:=h
  rw[AI] at h3 h4 h5
  have h4':∀ i,i<es.length->(nr es i).length=sz:=fun i hi=>by have:=h4 i hi;rw[Cq hi,Az] at this;exact this
  exact⟨k,T,us,hmu b _ hb h1,h2,h3,h4',fun i j hi hj=>(h5 i j hi hj).ren hmu (by rw[Cq hi,BV (by rw[h4' i hi];exact hj)]) (Et (LU hl i) j)⟩
 |grow es sz=>
  obtain⟨A,cap,T,us,h1,h2,h3,h4⟩:=h
  rw[AI] at h1 h2 h4
  have h2':∀ i,i<es.length->(nr es i).length=sz:=fun i hi=>by have:=h2 i hi;rw[Cq hi,Az] at this;exact this
  refine⟨A,cap,T,us,hmu b _ hb h1,h2',h3,?_⟩
  rcases h4 with⟨h5,h6⟩|⟨k,g0,g1,g2,g3,g4,g5⟩
  ·refine .inl ⟨h5,?_⟩
   rw[Ei] at h6
   exact List.map_eq_nil_iff.1 h6
  ·exact .inr ⟨k,g0,g1,g2,g3,g4,fun i j hi hj=>(g5 i j hi hj).ren hmu (by rw[Cq hi,BV (by rw[h2' i hi];exact hj)]) (Et (LU hl i) j)⟩
 |map es ck=>
  obtain⟨k,l,h1,h2,h3,h4,h5⟩:=h
  refine⟨k,l,hmu b _ hb h1,h2,by rw[h3];simp[Function.comp_def],by rw[h4];simp[Function.comp_def],fun i x y hx hy=>(h5 i x (y.1,y.2.1,B3 r y.2.2) hx (by simp[hy])).ren hmu rfl (A0p.1 hl y (A1L hy))⟩
 |iter m since seen last=>
  obtain⟨k,km,h1,h2,h3⟩:=h
  exact⟨k,km,hmu b _ hb h1,hmu m _ hl h2,h3⟩
 |obj o=>
  obtain⟨k,h1,h2⟩:=h
  exact⟨k,hmu b _ hb h1,h2⟩
 |loop env nt st pd ps a c=>
  obtain⟨k,fn,tmps,kd,h1,h2,h3,h4⟩:=h
  exact⟨k,fn,tmps,kd,hmu b _ hb h1,h2,h3,fun t=>(h4 t).ren hmu (J1 (F:=B3 r) rfl env t) (SK (p:=ltD n) rfl hl t)⟩
 |junk=>trivial
def Di(r:Nat->Nat)(e:Env):Env->Prop
 |[]=>True
 |(t,d)::l=>lo (e.get t) (B3 r d)/\Di r e l
def Lk(n:Nat)(r:Nat->Nat)(h:Hp):Hp->Prop
 |[]=>True
 |(b,x)::l=>(match Ai h (r b) with
  |some y=>loB y (FA r x)
  |none=>junkB x=true/\r b%2=0/\2*n<=r b)/\Lk n r h l
where junkB:Blk->Bool
 |.junk=>true
 |_=>false
def Jg(n:Nat):Env->Bool
 |[]=>true
 |(_,d)::l=>ltD n d&&Jg n l
def ND(n:Nat):Hp->Bool
 |[]=>true
 |(b,x)::l=>okN n b&&ltB n x&&ND n l
def Sk(r:Nat->Nat)(h:Hp):Bool:=(h.map (·.1)).all fun b=>(h.map (·.1)).all fun c=>!(r b==r c) ||b==c
theorem Gd{r:Nat->Nat}{e:Env}{n:Nat}:∀ {l:Env},Di r e l->Jg n l=true->∀ t,(∃ d,l.get t=d/\lo (e.get t) (B3 r d)/\ltD n d=true)∨l.get t=.any
 |[],_,_,t=>.inr rfl
 |(k,d)::l,h,ho,t=>by
  simp only[Jg,A0c] at ho
  by_cases hk:k=t
  ·subst hk;exact .inl ⟨d,by simp[Env.get],h.1,ho.1⟩
  ·have:(k==t)=false:=by simp[hk]
   simp only[Env.get,this,cond_false]
   exact Gd h.2 ho.2 t
theorem DW{r:Nat->Nat}{e:Hp}{m n:Nat}:∀ {l:Hp},Lk m r e l->ND n l=true->∀ b x,Ai l b=some x->((∃ y,Ai e (r b)=some y/\loB y (FA r x))∨(x=.junk/\frN m (r b)))/\okN n b=true/\ltB n x=true/\b ∈ l.map (·.1)
 |[],_,_,b,x,hx=>by simp[Ai] at hx
 |(k,y)::l,h,ho,b,x,hx=>by
  simp only[ND,A0c] at ho
  by_cases hk:k=b
  ·subst hk
   simp only[Ai,beq_self_eq_true,cond_true,A04] at hx
   subst hx
   refine⟨?_,?_⟩
   ·have h1:=h.1
    split at h1
    ·rename_i y' hy;exact .inl ⟨y',hy,h1⟩
    ·exact .inr ⟨by have:=h1.1;cases y<;>simp [Lk.junkB] at this|-,h1.2⟩
   exact⟨ho.1.1,ho.1.2,by simp⟩
  ·have:(k==b)=false:=by simp[hk]
   simp only[Ai,this,cond_false] at hx
   have:=DW h.2 ho.2 b x hx
   exact⟨this.1,this.2.1,this.2.2.1,A0l _ this.2.2.2⟩
theorem Ar.sub{s S:St}(r:Nat->Nat)(hr:∀ b,b%2=1->r b=b)(he:Di r s.env S.env)(hh:Lk s.nx r s.hp S.hp)(hok:Jg S.nx S.env=true)(hokh:ND S.nx S.hp=true)(hinj:Sk r S.hp=true):Ar s S:=by
 intro w0 M0 I0 nt I mu a w rel
 let mu':Nat->Option Value:=fun b=>if okN S.nx b=true then mu (r b) else none
 have hmu:∀ b,okN S.nx b=true->mu' b=mu (r b):=fun b hb=>by simp[mu',hb]
 have hmu':∀ b x,okN S.nx b=true->mu (r b)=some x->mu' b=some x:=fun b x hb h=>by rw[hmu b hb];exact h
 refine⟨I,mu',rel.size,rel.defers,fun t=>?_,⟨fun b x hx=>?_,fun b x v k hx hv hk=>?_,fun b c x y v u k hx hy hv hu hk hk'=>?_,fun b hb=>?_,rel.w.lt,rel.w.os,rel.w.tape,rel.w.output,rel.w.grown,rel.w.old,rel.w.iold,rel.w.inew,fun b x hb hn=>?_,fun b x hx hb=>?_⟩⟩
 ·rcases Gd he hok t with⟨d,h1,h2,h3⟩|h1
  ·have:=rel.env t
   have e1:s.fs.env t=s.env.get t:=rfl
   rw[e1] at this
   show Rep w I mu' (S.env.get t) _
   rw[h1]
   exact(this.lo h2).ren hmu' rfl h3
  ·show Rep w I mu' (S.env.get t) _
   rw[h1];exact .any _
 ·obtain⟨h0,h2,h3,_⟩:=DW hh hokh b x hx
  rcases h0 with⟨y,h1,h1'⟩|⟨rfl,_⟩
  ·exact(Dp.lo (rel.w.blk (r b) _ h1) h1').ren hmu' h2 h3
  ·trivial
 ·obtain⟨h0,h2,h3,_⟩:=DW hh hokh b x hx
  rw[hmu b h2] at hv
  rcases h0 with⟨y,h1,_⟩|⟨_,h1⟩
  ·exact rel.w.loc (r b) _ v k h1 hv hk
  ·rw[rel.w.fresh _ h1] at hv;cases hv
 ·obtain⟨h0,h2,h3,m1⟩:=DW hh hokh b x hx
  obtain⟨g0,g2,g3,m2⟩:=DW hh hokh c y hy
  rw[hmu b h2] at hv
  rw[hmu c g2] at hu
  obtain⟨_,h1,_⟩:=h0.resolve_right fun h=>by rw[rel.w.fresh _ h.2] at hv;cases hv
  obtain⟨_,g1,_⟩:=g0.resolve_right fun h=>by rw[rel.w.fresh _ h.2] at hu;cases hu
  have:=rel.w.inj (r b) (r c) _ _ v u k h1 g1 hv hu hk hk'
  have:=A0p.1 (A0p.1 hinj b m1) c m2
  simp_all
 ·have:¬okN S.nx b=true:=by
   have h1:=hb.1
   have h2:=hb.2
   simp[okN];omega
  simp[mu',this]
 ·rw[hmu b (by simp[okN,hb]),hr b hb]
  exact rel.w.keep b x hb hn
 ·obtain⟨_,h2,_⟩:=DW hh hokh b x hx
  have h3:=hb.1
  have h4:=hb.2
  simp[okN] at h2
  omega
end Go.Ab
