/- The layer by which the program is walked, and what its functions do: part 4 of 15. -/
import Derived.Test.YtacnknlmijkobaaGreatDoorV2
import Derived.Test.YtacnknlmijkobaaGreatDoorProg
import Derived.KernelRfl
set_option maxHeartbeats 4000000
set_option maxRecDepth 20000
set_option linter.unusedVariables false
set_option linter.unusedSimpArgs false
set_option linter.unnecessarySimpa false
namespace Go.Ab
open Go.RowKit
def YL(P:Program)(env:Nat->D)(c x y:Operand):Res:=
 match evO P env c with
 |.val (.bool true)=>pv (evO P env x)
 |.val (.bool false)=>pv (evO P env y)
 |_=>none
def TH(P:Program)(id:Nat)(env:Nat->D)(hp:Nat->Option Blk)(op:Op):Res:=
 match op with
 |.pick c x y=>YL P env c x y
 |op=>A01 P id (evO P env) hp op
def AT(ops:Array Oper)(j:Nat):Option Nat:=(ops[j]?).bind (·.dst)
section
variable{P:Program}{ops:Array Oper}{id:Nat}{s0:FSt}{e:Eff}{c:Prop}
theorem Wt{env:Nat->D}{hp:Nat->Option Blk}{dst:Option Tmp}{op:Op}{T:TypeId}{pos:String}{af:Array Edge}{gd:Option (Nat×Bool)}(he:TH P id env hp op=some (e,c))(hc:c):AC P ⟨dst,op,T,pos,af,gd⟩ id (evO P env) hp e:=by
 unfold TH at he
 split at he
 ·rename_i x y z
  unfold YL at he
  split at he
  ·rename_i hx
   simp only[pv,A03,A05] at he;obtain⟨rfl,rfl⟩:=he
   have:=HZ (P:=P) (id:=id) (hp:=hp) (dst:=dst) (T:=T) (pos:=pos) (af:=af) (gd:=gd) x y z true hx
   simpa using this
  ·rename_i hx
   simp only[pv,A03,A05] at he;obtain⟨rfl,rfl⟩:=he
   have:=HZ (P:=P) (id:=id) (hp:=hp) (dst:=dst) (T:=T) (pos:=pos) (af:=af) (gd:=gd) x y z false hx
   simpa using this
  ·cases he
 ·exact To he hc
end
def Bz(P:Program)(ops:Array Oper)(nx:Nat)(l:List Oper)(pos:Nat)(acc:List Eff)(s:St)(K:List Eff->St->Prop):Prop:=Run P ops nx l pos acc s (fun E s=>∃ s',s'.fs=s.fs/\K E s')
def Ed(b:Bool)(x y:Prop):Prop:=(b=true->x)/\(b=false->y)
def Fj(ops:Array Oper)(g:Option (Nat×Bool))(s:St)(go skip:St->Prop)(stuck:Prop):Prop:=
 match g with
 |none=>go s
 |some (j,want)=>match AT ops j with
  |none=>stuck
  |some t=>match s.env.get t with
   |.val (.bool b)=>Ed b (bif want then go ⟨(t,.val (.bool true))::s.env,s.hp,s.nx⟩ else skip ⟨(t,.val (.bool true))::s.env,s.hp,s.nx⟩) (bif want then skip ⟨(t,.val (.bool false))::s.env,s.hp,s.nx⟩ else go ⟨(t,.val (.bool false))::s.env,s.hp,s.nx⟩)
   |.cond false (.val (.bool _))=>skip s
   |_=>stuck
def Go(P:Program)(ops:Array Oper)(nx:Nat):List Oper->Nat->List Eff->St->(List Eff->St->Prop)->Prop
 |[],_,acc,s,K=>K acc.reverse s
 |o::r,pos,acc,s,K=>Fj ops o.guard s
   (fun s=>match TH P (2*(nx+4*pos)) s.env.get (Ad s.hp) o.op with
    |some (e,c)=>c/\Go P ops nx r (pos+1) (e::acc) (s.app o.dst e) K
    |none=>Bz P ops nx (o::r) pos acc s K)
   (fun s=>Go P ops nx r (pos+1) (⟨.cond false (.val (.bool false)),[],[]⟩::acc) (s.app o.dst ⟨.cond false (.val (.bool false)),[],[]⟩) K)
   (Bz P ops nx (o::r) pos acc s K)
theorem FSt.app_eq{s s':St}(h:s'.fs=s.fs)(dst:Option Nat)(e:Eff):(s'.app dst e).fs=(s.app dst e).fs:=by
 rw[St.app_fs,St.app_fs,h]
theorem Run.same{P:Program}{ops:Array Oper}{nx:Nat}{K:List Eff->St->Prop}:∀ {l:List Oper} {pos:Nat} {acc:List Eff} {s s':St},s'.fs=s.fs->Bz P ops nx l pos acc s' K->Bz P ops nx l pos acc s K
 |[],_,_,_,_,h,⟨s'',h1,h2⟩=>⟨s'',h1.trans h,h2⟩
 |o::_,_,_,_,_,h,.inl ⟨e,h1,h2⟩=>.inl ⟨e,h▸h1,Run.same (FSt.app_eq h o.dst e) h2⟩
 |o::_,_,_,_,_,h,.inr (.inl ⟨F,he,h1,h2⟩)=>.inr (.inl ⟨F,he,h▸h1,fun e hF=>Run.same (FSt.app_eq h o.dst e) (h2 e hF)⟩)
 |o::_,_,_,s,s',h,.inr (.inr ⟨d,h1,s'',h2,h3⟩)=>.inr (.inr ⟨d,h▸h1,s'',h2.trans (by
   have:=FSt.app_eq h (some Bn) ⟨d,[],[]⟩
   simpa[St.app,E2] using this),h3⟩)
theorem Hm{s:St}{t:Nat}{d:D}(h:s.env.get t=d):(⟨(t,d)::s.env,s.hp,s.nx⟩:St).fs=s.fs:=by
 unfold St.fs
 congr 1
 funext u
 simp only[Env.get]
 by_cases hu:t=u
 ·subst hu;simp[h]
 ·have:(t==u)=false:=by simp[hu]
  simp[this]
theorem RZ{ops:Array Oper}{o:Oper}{s:St}{go skip:St->Prop}{stuck:Prop}(h:Fj ops o.guard s go skip stuck):
  stuck∨(∃ s',s'.fs=s.fs/\(o.guard=none∨∃ j want t,o.guard=some (j,want)/\AT ops j=some t/\gOf (s'.env.get t) want=some true)/\go s')∨
  (∃ s',s'.fs=s.fs/\(∃ j want t,o.guard=some (j,want)/\AT ops j=some t/\gOf (s'.env.get t) want=some false)/\skip s'):=by
 unfold Fj at h
 split at h
 ·rename_i hg
  exact .inr (.inl ⟨s,rfl,.inl hg,h⟩)
 ·rename_i j want hg
  split at h
  ·exact .inl h
  ·rename_i t ht
   split at h
   ·rename_i b hb
    cases want<;>cases b
    ·exact .inr (.inl ⟨_,Hm hb,.inr ⟨j,_,t,hg,ht,by simp[Env.get,gOf]⟩,h.2 rfl⟩)
    ·exact .inr (.inr ⟨_,Hm hb,⟨j,_,t,hg,ht,by simp[Env.get,gOf]⟩,h.1 rfl⟩)
    ·exact .inr (.inr ⟨_,Hm hb,⟨j,_,t,hg,ht,by simp[Env.get,gOf]⟩,h.2 rfl⟩)
    ·exact .inr (.inl ⟨_,Hm hb,.inr ⟨j,_,t,hg,ht,by simp[Env.get,gOf]⟩,h.1 rfl⟩)
   ·rename_i hb
    exact .inr (.inr ⟨s,rfl,⟨j,_,t,hg,ht,by rw[hb];rfl⟩,h⟩)
   ·exact .inl h
theorem Go.run{P:Program}{ops:Array Oper}{nx:Nat}:∀ {l:List Oper} {pos:Nat} {acc:List Eff} {s:St} {K:List Eff->St->Prop},Go P ops nx l pos acc s K->Bz P ops nx l pos acc s K
 |[],_,_,s,_,h=>⟨s,rfl,h⟩
 |⟨dst,op,T,ps,af,gd⟩::r,pos,acc,s,K,h=>by
  simp only[Go] at h
  have h':=RZ (o:=⟨dst,op,T,ps,af,gd⟩) h
  rcases h' with h|⟨s',hs,hg,h⟩|⟨s',hs,⟨j,want,t,hg,ht,hf⟩,h⟩
  ·exact h
  ·split at h
   ·rename_i e c he
    refine Run.same hs (.inl ⟨e,?_,Go.run h.2⟩)
    have hd:=Wt (dst:=dst) (T:=T) (pos:=ps) (af:=af) (gd:=gd) he h.1
    rcases hg with hg|⟨j,want,t,hg,ht,hf⟩
    ·exact Bd.plain hg hd
    ·exact Bd.guard_true hg ht hf hd
   ·exact Run.same hs h
  ·exact Run.same hs (.inl ⟨_,Bd.guard_false hg ht hf,Go.run h⟩)
def Bl(P:Program)(f:FuncId):Bool:=
 match P.funcs[f]? with
 |some fn=>!(fn.name== "runtime.NumGoroutine")&& !fn.body.isNone
 |none=>false
def A0(P:Program)(f:FuncId)(ds:List D)(r:D):Prop:=
 Bl P f=true/\∀ (w:World) (I:Nat->Prop) (vs:List Value),GIn P w I->(∀ k,I k->k<w.heap.size)->vs.length=ds.length->(∀ i,i<ds.length->Rep w I (fun _=>none) (nd ds i) (nv vs i))->
  Calls P f vs.toArray w fun e w'=>∃ v I',e=.returned v/\Rep w' I' (fun _=>none) r v/\(∀ k,I k->I' k)/\(∀ k,I' k->I k∨w.heap.size<=k)/\(∀ k,I' k->k<w'.heap.size)/\Below w.heap.size w w'
theorem AZ{P:Program}{f:FuncId}(hf:Bl P f=true)(args:Array Value)(w:World):(callFunc f args).run P w=.ok (.enter f args) w:=by
 unfold Bl at hf
 split at hf
 ·rename_i fn hfn
  simp only[A07,Bool.not_eq_true'] at hf
  simp only[callFunc,A0e,run_program,Result.andThen,hfn,hf.1,hf.2,A0C,if_false,A0j]
 ·cases hf
theorem P9{P:Program}{id:Nat}{ev:Operand->D}{hp:Nat->Option Blk}{dst:Option Tmp}{T:TypeId}{pos:String}{af:Array Edge}{gd:Option (Nat×Bool)}{f:FuncId}{args:Array Operand}{ts:Array TypeId}{ds:List D}{r:D}
  (ha:args.toList.map ev=ds) (hpu:Ag ds=true) (hc:A0 P f ds r):AC P ⟨dst,.call {callee:=.value (.func f),args:=args,argTypes:=ts},T,pos,af,gd⟩ id ev hp ⟨r,[],[]⟩:=by
 intro w0 M0 I0 fr I mu h a w hga hw hid hx hb K Q hK
 subst ha
 have hargs:∀ i,i<(args.toList.map ev).length->Rep w I (fun _=>none) (nd (args.toList.map ev) i) (nv (args.toList.map a.eval) i):=by
  intro i hi
  simp only[A06,A0T] at hi
  have h1:nd (args.toList.map ev) i=ev args[i]:=by simp[nd,A02,hi]
  have h2:nv (args.toList.map a.eval) i=a.eval args[i]:=by simp[nv,A02,hi]
  have h3:=hx args[i] (by simp[Op.operands,Call.operands])
  have h4:=Cf hpu i
  rw[h1] at h4
  rw[h1,h2]
  exact h3.unmu h4
 have hcall:=hc.2 w I (args.toList.map a.eval) (hga.at hw) hw.lt (by simp) hargs
 have hrun:(execOp a.eval ⟨dst,.call {callee:=.value (.func f),args:=args,argTypes:=ts},T,pos,af,gd⟩).run P w=.ok (.enter f (args.toList.map a.eval).toArray) w:=by
  have e1:args.map a.eval=(args.toList.map a.eval).toArray:=by apply Array.ext';simp
  simp only[execOp,resolve,Act.eval,Deferred.ofValue,A0e,A0j,Result.andThen,invoke]
  have e2:#[]++args.map a.eval++ #[]=(args.toList.map a.eval).toArray:=by rw[e1];simp
  exact(congrArg (fun z=>(callFunc f z).run P w) e2).trans (AZ hc.1 _ w)
 refine C6 hrun ?_
 refine hcall.mono fun e w' ⟨v,I',he,hv,h1,h2,h3,h4⟩=>?_
 subst he
 have hbl:∀ k,k<w.heap.size->w'.heap[k]? =w.heap[k]?:=fun k hk=>h4.block k hk
 have hext:Ext I mu w I' mu w':=⟨h1,fun _ _ h=>h,fun k hk=>hbl k (hw.lt k hk)⟩
 refine hK v w' I' mu hext ⟨fun b x hx=>(hw.blk b x hx).mono hext.w hext.i hext.m fun u k hu hk=>hbl k (hw.loc b x u k hx hu hk).2.2,fun b x u k hx hu hk=>?_,hw.inj,fun b hb=>hw.fresh b hb.1,h3,h4.os.trans hw.os,h4.tape.trans hw.tape,h4.output.trans hw.output,A0L hw.grown h4.size,fun k hk hnm=>(hbl k (by have:=hw.grown;omega)).trans (hw.old k hk hnm),fun k hk=>h1 k (hw.iold k hk),fun k hk=>?_,hw.keep,fun b x hx hb=>hw.used b x hx hb.1⟩ (hv.mono (fun _ _=>rfl) (fun _ h=>h) (fun _ _ h=>by cases h))
 ·have:=hw.loc b x u k hx hu hk
  exact⟨this.1,fun hI=>by rcases h2 k hI with h5|h5;exact this.2.1 h5;omega,A0R this.2.2 h4.size⟩
 ·rcases h2 k hk with h5|h5
  ·exact hw.inew k h5
  ·exact .inr (.inr (A0L hw.grown h5))
theorem Bz.call{P:Program}{ops:Array Oper}{nx:Nat}{dst:Option Tmp}{T:TypeId}{ps:String}{af:Array Edge}{gd:Option (Nat×Bool)}{f:FuncId}{args:Array Operand}{ts:Array TypeId}{ds:List D}{r:D}{l:List Oper}{pos:Nat}{acc:List Eff}{s:St}{K:List Eff->St->Prop}
  (hc:A0 P f ds r) (hg:gd=none∨∃ j want t,gd=some (j,want)/\AT ops j=some t/\gOf (s.env.get t) want=some true) (ha:args.toList.map (evO P s.env.get)=ds) (hpu:Ag ds=true)
  (hk:Go P ops nx l (pos+1) (⟨r,[],[]⟩::acc) (s.app dst ⟨r,[],[]⟩) K):Bz P ops nx (⟨dst,.call {callee:=.value (.func f),args:=args,argTypes:=ts},T,ps,af,gd⟩::l) pos acc s K:=by
 refine .inl ⟨_,?_,Go.run hk⟩
 rcases hg with rfl|⟨j,want,t,rfl,ht,hg⟩
 ·exact Bd.plain rfl (P9 ha hpu hc)
 ·exact Bd.guard_true rfl ht hg (P9 ha hpu hc)
theorem Bz.go{P:Program}{ops:Array Oper}{nx:Nat}{l:List Oper}{pos:Nat}{acc:List Eff}{s:St}{K:List Eff->St->Prop}(h:Go P ops nx l pos acc s K):Bz P ops nx l pos acc s K:=Go.run h
theorem Bz.out{P:Program}{ops:Array Oper}{nx:Nat}{l:List Oper}{pos:Nat}{acc:List Eff}{s:St}{K:List Eff->St->Prop}(h:Bz P ops nx l pos acc s K):Run P ops nx l pos acc s (fun E s=>∃ s',s'.fs=s.fs/\K E s'):=h
attribute [irreducible] Bz
def frz(hp:Nat->Option Blk):Nat->D->D
 |0,d=>d
 |n+1,.ref b i off sz=>match hp b with
  |some (.rows es sz')=>if sz=sz'/\i<es.length then .ptr ((nr es i).map (frz hp n)) off else .ref b i off sz
  |_=>.ref b i off sz
 |n+1,.sref b i len cap sz=>match hp b with
  |some (.rows es sz')=>if sz=sz'/\i+len<=es.length/\len<=cap/\cap<=9223372036854775807 then .slice (bif A6 es then(es.drop i).take len else((es.drop i).take len).map fun r=>r.map (frz hp n)) (decide (cap=len)) else .sref b i len cap sz
  |_=>.sref b i len cap sz
 |_+1,.gref b len=>match hp b with
  |some (.grow es _)=>if len=es.length/\A6 es=true then .slice es false else .gref b len
  |_=>.gref b len
 |_+1,.gsub b i len sz=>match hp b with
  |some (.grow es sz')=>if sz=sz'/\i+len<=es.length/\A6 es=true then .slice ((es.drop i).take len) false else .gsub b i len sz
  |_=>.gsub b i len sz
 |n+1,.agg cs=>.agg (cs.map (frz hp n))
 |n+1,.tup cs=>.tup (cs.map (frz hp n))
 |n+1,.iface t d=>.iface t (frz hp n d)
 |n+1,.func fn fs cs=>.func fn (fs.map (frz hp n)) (cs.map (frz hp n))
 |_+1,d=>d
theorem CT{cs:List D}{f:D->D}{i:Nat}(hi:i<cs.length):nd (cs.map f) i=f (nd cs i):=by simp[nd,A02,hi]
theorem Rep.frz{w0:World}{M0:Nat->Prop}{I0:Gh}{fr I J:Nat->Prop}{mu:Nat->Option Value}{hp:Nat->Option Blk}{w:World}(hr:Ap w0 M0 I0 fr I mu hp w)(hIJ:∀ k,I k->J k)(hJ:∀ b x v k,hp b=some x->mu b=some v->Ae v=some k->J k):
  ∀(n:Nat) (d:D) (v:Value),Rep w I mu d v->Rep w J mu (frz hp n d) v:=by
 have mono:∀ d v,Rep w I mu d v->Rep w J mu d v:=fun d v h=>h.mono (fun _ _=>rfl) hIJ (fun _ _ h=>h)
 intro n
 induction n with
 |zero=>intro d v h;exact mono d v h
 |succ n ih=>
  intro d v h
  cases d with
  |any=>exact mono _ _ h
  |abool n pos=>exact mono _ _ h
  |val x=>exact mono _ _ h
  |cond g d=>exact mono _ _ h
  |slice es t=>exact mono _ _ h
  |ptr cs off=>exact mono _ _ h
  |mref b=>exact mono _ _ h
  |yld b=>exact mono _ _ h
  |gel b i off sz=>exact mono _ _ h
  |gsub b i len sz=>
   simp only[Go.Ab.frz]
   split
   ·rename_i es sz' hx
    split
    ·rename_i hcond
     obtain⟨rfl,hle,hpu⟩:=hcond
     obtain⟨A,cap,T,us,h1,h2,h3,h4⟩:=hr.blk b _ hx
     cases h with
     |gsub _ _ _ _ A' B n cap' hk hcp hB=>
      rw[h1] at hk
      simp only[A03,A0N] at hk
      obtain⟨rfl,rfl,rfl⟩:=hk
      have hlen':((es.drop i).take len).length=len:=by simp;omega
      rcases A17 len with h0|hpos
      ·subst h0
       rw[A1A]
       exact .slice [] false B 0 0 0 (cap-i) (fun _ _=>.nilFunc) (fun h=>absurd h (by simp)) (A0D _) (fun h=>by cases h) (by omega) (fun i h=>absurd h (by simp)) (fun i j h=>absurd h (by simp)) (fun i j h=>absurd h (by simp))
      rcases h4 with⟨rfl,rfl⟩|⟨k,g0,rfl,g1,g2,g3,g4⟩
      ·simp at hle;omega
      have hnr':∀ j,j<len->nr ((es.drop i).take len) j=nr es (i+j):=by
       intro j hj
       simp only[nr,A02]
       rw[A0n hj,A0I]
      have hB':B=some ⟨k,i*sz,none⟩:=by rw[hB (.inl (by omega))];simp[BM]
      have:Rep w J mu (.slice ((es.drop i).take len) false) (.slice B ((es.drop i).take len).length (cap-i)):=by
       refine .slice _ _ _ k (i*sz) sz (cap-i) (fun j l=>nv us ((i+j)*sz+l)) (fun _=>⟨hB',fun _=>hJ b _ _ k hx h1 (by simp[Ae];omega)⟩) (by omega) (fun h=>by cases h) (by omega) (fun j hj=>by rw[hlen'] at hj;rw[hnr' j hj];exact h2 _ (by omega)) (fun j l hj hl=>?_) fun j l hj hl=>by rw[hlen'] at hj;rw[hnr' j hj];exact mono _ _ (g4 (i+j) l (by omega) hl)
       rw[hlen'] at hj
       have hlt:(i+j)*sz+l<us.length:=by
        rw[g3]
        have:(i+j)*sz+sz<=cap*sz:=by rw[<-A0F];exact A0f _ (by omega)
        omega
       have e:i*sz+(j*sz+l)=(i+j)*sz+l:=by rw[A19];omega
       rw[e]
       simp only[World.cell?,g1,A1f,nv]
       rw[if_neg (by simp)]
       simp[A02,hlt]
      rw[hlen'] at this
      exact this
    ·exact mono _ _ h
   ·exact mono _ _ h
  |func fn fs cs=>
   cases h with
   |func _ _ _ us vs hl hk h1 h2=>
   refine .func fn _ _ us vs (by simpa using hl) (by simpa using hk) (fun i hi=>?_) fun i hi=>?_
   ·simp only[A06] at hi
    rw[CT hi];exact ih _ _ (h1 i hi)
   ·simp only[A06] at hi
    rw[CT hi];exact ih _ _ (h2 i hi)
  |agg cs=>
   obtain⟨us,rfl,hl,hrep⟩:=h.agg_inv
   refine .agg _ us (by simpa using hl) fun i hi=>?_
   simp only[A06] at hi
   rw[CT hi];exact ih _ _ (hrep i hi)
  |tup cs=>
   obtain⟨us,rfl,hl,hrep⟩:=h.tup_inv
   refine .tup _ us (by simpa using hl) fun i hi=>?_
   simp only[A06] at hi
   rw[CT hi];exact ih _ _ (hrep i hi)
  |iface t d=>
   cases h with
   |iface _ _ u hu=>exact .iface t _ u (ih _ _ hu)
  |ref b i off sz=>
   simp only[Go.Ab.frz]
   split
   ·rename_i es sz' hx
    split
    ·rename_i hcond
     obtain⟨rfl,hi⟩:=hcond
     obtain⟨k,T,us,h1,h2,h3,h4,h5⟩:=hr.blk b _ hx
     cases h with
     |ref _ _ _ _ k' hk=>
      rw[h1] at hk
      simp only[A03,A0O,A16,and_true] at hk
      subst hk
      have hmul:i*sz+sz<=es.length*sz:=by rw[<-A0F];exact A0f _ hi
      refine .ptr _ off k (i*sz) (fun j=>nv us (i*sz+j)) (fun _=>hJ b _ _ k hx h1 rfl) (fun j hj=>?_) fun j hj=>?_
      ·simp only[A06,h4 i hi] at hj
       simp only[World.cell?,h2,A1f,nv]
       rw[if_neg (by simp)]
       simp[A02,show i*sz+j<us.length by omega]
      ·simp only[A06,h4 i hi] at hj
       rw[CT (by rw[h4 i hi];exact hj)]
       exact ih _ _ (h5 i j hi hj)
    ·exact mono _ _ h
   ·exact mono _ _ h
  |sref b i len cap sz=>
   simp only[Go.Ab.frz]
   split
   ·rename_i es sz' hx
    split
    ·rename_i hcond
     obtain⟨rfl,hi,hlc,hcap⟩:=hcond
     obtain⟨k,T,us,h1,h2,h3,h4,h5⟩:=hr.blk b _ hx
     cases h with
     |sref _ _ _ _ _ k' hk=>
      rw[h1] at hk
      simp only[A03,A0O,A16,and_true] at hk
      subst hk
      have hlen':((es.drop i).take len).length=len:=by simp;omega
      have hnr':∀ j,j<len->nr ((es.drop i).take len) j=nr es (i+j):=by
       intro j hj
       simp only[nr,A02]
       rw[A0n hj,A0I]
      have core:∀ L:List (List D),L.length=len->(∀ j,j<len->(nr L j).length=sz)->(∀ j l,j<len->l<sz->Rep w J mu (nd (nr L j) l) (nv us ((i+j)*sz+l)))->Rep w J mu (.slice L (decide (cap=len))) (.slice (some ⟨k,i*sz,none⟩) len cap):=by
       intro L hL hz hrep
       have:Rep w J mu (.slice L (decide (cap=len))) (.slice (some ⟨k,i*sz,none⟩) L.length cap):=by
        refine .slice L _ _ k (i*sz) sz cap (fun j l=>nv us ((i+j)*sz+l)) (fun _=>⟨rfl,fun _=>hJ b _ _ k hx h1 rfl⟩) (by omega) (fun h=>by rw[hL];exact of_decide_eq_true h) (by simp only[maxLen];omega) (fun j hj=>hz j (by omega)) (fun j l hj hl=>?_) fun j l hj hl=>hrep j l (by omega) hl
        have hlt:(i+j)*sz+l<us.length:=by
         rw[h3]
         have:(i+j)*sz+sz<=es.length*sz:=by rw[<-A0F];exact A0f _ (by omega)
         omega
        have e:i*sz+(j*sz+l)=(i+j)*sz+l:=by rw[A19];omega
        rw[e]
        simp only[World.cell?,h2,A1f,nv]
        rw[if_neg (by simp)]
        simp[A02,hlt]
       rw[hL] at this
       exact this
      cases hpu:A6 es with
      |true=>
       simp only[cond_true]
       exact core _ hlen' (fun j hj=>by rw[hnr' j hj];exact h4 _ (by omega)) fun j l hj hl=>by rw[hnr' j hj];exact mono _ _ (h5 (i+j) l (by omega) hl)
      |false=>
       simp only[cond_false]
       have hnm:∀ j,j<len->nr (((es.drop i).take len).map fun r=>r.map (Go.Ab.frz hp n)) j=(nr es (i+j)).map (Go.Ab.frz hp n):=by
        intro j hj
        rw[<-hnr' j hj]
        simp[nr,A02,show j<len from hj,show i+j<es.length by omega]
       refine core _ (by simp;omega) (fun j hj=>by rw[hnm j hj,A06];exact h4 _ (by omega)) fun j l hj hl=>?_
       rw[hnm j hj,CT (by rw[h4 _ (by omega)];exact hl)]
       exact ih _ _ (h5 (i+j) l (by omega) hl)
    ·exact mono _ _ h
   ·exact mono _ _ h
  |gref b len=>
   simp only[Go.Ab.frz]
   split
   ·rename_i es szb hx
    split
    ·rename_i hcond
     obtain⟨rfl,hpu⟩:=hcond
     obtain⟨A,cap,T,us,h1,h2,h3,h4⟩:=hr.blk b _ hx
     cases h with
     |gref _ _ A' cap' hk=>
      rw[h1] at hk
      simp only[A03,A0N,true_and] at hk
      obtain⟨rfl,rfl⟩:=hk
      rcases h4 with⟨rfl,rfl⟩|⟨k,g0,rfl,g1,g2,g3,g4⟩
      ·exact .slice [] false A 0 0 0 0 (fun _ _=>.nilFunc) (fun h=>absurd h (by simp)) (A0a _) (fun h=>by cases h) h3 (fun i h=>absurd h (by simp)) (fun i j h=>absurd h (by simp)) (fun i j h=>absurd h (by simp))
      ·refine .slice es false _ k 0 szb cap (fun i j=>nv us (i*szb+j)) (fun _=>⟨rfl,fun _=>hJ b _ _ k hx h1 (by simp[Ae];omega)⟩) g2 (fun h=>by cases h) h3 h2 (fun i j hi hj=>?_) fun i j hi hj=>mono _ _ (g4 i j hi hj)
       have hlt:i*szb+j<us.length:=by
        rw[g3]
        have:i*szb+szb<=cap*szb:=by rw[<-A0F];exact A0f _ (by omega)
        omega
       rw[A1c]
       simp only[World.cell?,g1,A1f,nv]
       rw[if_neg (by simp)]
       simp[A02,hlt]
    ·exact mono _ _ h
   ·exact mono _ _ h
def K5(P:Program)(s:St):ResultVar->Option D
 |.tmp t=>some (s.env.get t)
 |.cell a T=>match Ak P T with
  |some ti=>match s.env.get a,HV ti (Ad s.hp) (s.env.get a) with
   |.ref b i off sz,some (e,_)=>match Ad s.hp b with
    |some (.rows es sz')=>if sz=sz'/\i<es.length/\off+ti.sz<=sz/\0<ti.sz then some e.d else none
    |_=>none
   |_,_=>none
  |none=>none
def J9(P:Program)(s:St):List ResultVar->Option D
 |[x]=>K5 P s x
 |l=>match l.mapM (K5 P s) with
  |some ds=>some (.tup ds)
  |none=>none
def Be:Nat->List D->Env
 |_,[]=>[]
 |k,d::r=>(k,d)::Be (k+1) r
mutual
def lo:D->D->Prop
 |.slice es t,.slice es' t'=>DR es es'/\(t'=true->t=true)
 |.agg cs,.agg cs'=>loL cs cs'
 |.tup cs,.tup cs'=>loL cs cs'
 |.iface t d,.iface t' d'=>t=t'/\lo d d'
 |.ptr cs o,.ptr cs' o'=>o=o'/\loL cs cs'
 |.func f fs cs,.func f' fs' cs'=>f=f'/\loL fs fs'/\loL cs cs'
 |d,r=>r=.any∨d=r
def loL:List D->List D->Prop
 |[],[]=>True
 |d::l,d'::l'=>lo d d'/\loL l l'
 |[],_::_=>False
 |_::_,[]=>False
def DR:List (List D)->List (List D)->Prop
 |[],[]=>True
 |d::l,d'::l'=>loL d d'/\DR l l'
 |[],_::_=>False
 |_::_,[]=>False
end
mutual
theorem Am:∀ d:D,lo d d
 |.slice es t=>by simp only[lo];exact⟨Bh es,id⟩
 |.agg cs=>by simp only[lo];exact AJ cs
 |.tup cs=>by simp only[lo];exact AJ cs
 |.iface t d=>by simp only[lo];exact⟨trivial,Am d⟩
 |.ptr cs o=>by simp only[lo];exact⟨trivial,AJ cs⟩
 |.any=>by simp[lo]
 |.val _=>by simp[lo]
 |.cond _ _=>by simp[lo]
 |.func f fs cs=>by simp only[lo];exact⟨trivial,AJ fs,AJ cs⟩
 |.ref _ _ _ _=>by simp[lo]
 |.sref _ _ _ _ _=>by simp[lo]
 |.gref _ _=>by simp[lo]
 |.mref _=>by simp[lo]
 |.yld _=>by simp[lo]
 |.abool _ _=>by simp[lo]
 |.gel _ _ _ _=>by simp[lo]
 |.gsub _ _ _ _=>by simp[lo]
theorem AJ:∀ l:List D,loL l l
 |[]=>by simp[loL]
 |d::l=>by simp only[loL];exact⟨Am d,AJ l⟩
theorem Bh:∀ l:List (List D),DR l l
 |[]=>by simp[DR]
 |d::l=>by simp only[DR];exact⟨AJ d,Bh l⟩
end
theorem BD:∀ {l l':List D},loL l l'->l.length=l'.length/\∀ i,i<l.length->lo (nd l i) (nd l' i)
 |[],[],_=>by simp
 |[],_::_,h=>by simp[loL] at h
 |_::_,[],h=>by simp[loL] at h
 |d::l,d'::l',h=>by
  simp only[loL] at h
  obtain⟨h1,h2⟩:=BD h.2
  refine⟨by simp[h1],fun i hi=>?_⟩
  cases i with
  |zero=>simpa [nd] using h.1
  |succ i=>have:=h2 i (by simpa using hi);simpa[nd] using this
theorem Hs:∀ {l l':List (List D)},DR l l'->l.length=l'.length/\∀ i,i<l.length->loL (nr l i) (nr l' i)
 |[],[],_=>by simp
 |[],_::_,h=>by simp[DR] at h
 |_::_,[],h=>by simp[DR] at h
 |d::l,d'::l',h=>by
  simp only[DR] at h
  obtain⟨h1,h2⟩:=Hs h.2
  refine⟨by simp[h1],fun i hi=>?_⟩
  cases i with
  |zero=>simpa [nr] using h.1
  |succ i=>have:=h2 i (by simpa using hi);simpa[nr] using this
theorem Rep.lo{w:World}{I:Nat->Prop}{mu:Nat->Option Value}{d:D}{v:Value}(h:Rep w I mu d v):∀ {r:D},lo d r->Rep w I mu r v:=by
 induction h with
 |any v=>intro r h;cases r<;>simp [Go.Ab.lo] at h;exact .any v
 |val v ok=>intro r h;cases r<;>simp [Go.Ab.lo] at h;exact .any v;subst h;exact .val v ok
 |cond g d v h1 h2 ih=>intro r h;cases r<;>simp [Go.Ab.lo] at h;exact .any v;obtain⟨rfl,rfl⟩:=h;exact .cond _ _ v h1 h2
 |agg cs us hl h1 ih=>
  intro r h;cases r<;>simp [Go.Ab.lo] at h;exact .any _
  obtain⟨h2,h3⟩:=BD h
  exact .agg _ us (by omega) fun i hi=>ih i (by omega) (h3 i (by omega))
 |tup cs us hl h1 ih=>
  intro r h;cases r<;>simp [Go.Ab.lo] at h;exact .any _
  obtain⟨h2,h3⟩:=BD h
  exact .tup _ us (by omega) fun i hi=>ih i (by omega) (h3 i (by omega))
 |slice es tight A k o sz cap u hA hc ht hm hlen hcell h1 ih=>
  intro r h;cases r<;>simp [Go.Ab.lo] at h;exact .any _
  obtain⟨h,hti⟩:=h
  obtain⟨h2,h3⟩:=Hs h
  rename_i es' t'
  have:=Rep.slice (w:=w) (I:=I) (mu:=mu) es' t' A k o sz cap u (fun h=>hA (by omega)) (by omega) (fun h=>by rw[ht (hti h)];exact h2) hm (fun i hi=>by rw[<-(BD (h3 i (by omega))).1];exact hlen i (by omega)) (fun i j hi hj=>hcell i j (by omega) hj) (fun i j hi hj=>ih i j (by omega) hj ((BD (h3 i (by omega))).2 j (by rw[hlen i (by omega)];exact hj)))
  rw[h2];exact this
 |ptr cs off k o u hk hcell h1 ih=>
  intro r h;cases r<;>simp [Go.Ab.lo] at h;exact .any _
  obtain⟨rfl,h⟩:=h
  obtain⟨h2,h3⟩:=BD h
  exact .ptr _ _ k o u (fun h=>hk (by omega)) (fun j hj=>hcell j (by omega)) fun j hj=>ih j (by omega) (h3 j (by omega))
 |ref b i off sz k h1=>intro r h;cases r<;>simp [Go.Ab.lo] at h;exact .any _;obtain⟨rfl,rfl,rfl,rfl⟩:=h;exact .ref _ _ _ _ k h1
 |sref b i len cap sz k h1=>intro r h;cases r<;>simp [Go.Ab.lo] at h;exact .any _;obtain⟨rfl,rfl,rfl,rfl,rfl⟩:=h;exact .sref _ _ _ _ _ k h1
 |gref b len A cap h1=>intro r h;cases r<;>simp [Go.Ab.lo] at h;exact .any _;obtain⟨rfl,rfl⟩:=h;exact .gref _ _ A cap h1
 |mref b k h1=>intro r h;cases r<;>simp [Go.Ab.lo] at h;exact .any _;subst h;exact .mref _ k h1
 |yld b k h1=>intro r h;cases r<;>simp [Go.Ab.lo] at h;exact .any _;subst h;exact .yld _ k h1
 |abool n pos b h1=>intro r h;cases r<;>simp [Go.Ab.lo] at h;exact .any _;obtain⟨rfl,rfl⟩:=h;exact .abool _ _ b h1
 |gel b i off sz k len cap h1=>intro r h;cases r<;>simp [Go.Ab.lo] at h;exact .any _;obtain⟨rfl,rfl,rfl,rfl⟩:=h;exact .gel _ _ _ _ k len cap h1
 |gsub b i len sz A B n cap h1 h2 h3=>intro r h;cases r<;>simp [Go.Ab.lo] at h;exact .any _;obtain⟨rfl,rfl,rfl,rfl⟩:=h;exact .gsub _ _ _ _ A B n cap h1 h2 h3
 |func fn fs cs us vs hl hk h1 h2 ih1 ih2=>
  intro r h;cases r<;>simp [Go.Ab.lo] at h;exact .any _
  obtain⟨rfl,h3,h4⟩:=h
  obtain⟨g1,g2⟩:=BD h3
  obtain⟨g3,g4⟩:=BD h4
  exact .func _ _ _ us vs (by omega) (by omega) (fun i hi=>ih1 i (by omega) (g2 i (by omega))) fun i hi=>ih2 i (by omega) (g4 i (by omega))
 |iface t d v h1 ih=>
  intro r h;cases r<;>simp [Go.Ab.lo] at h;exact .any _
  obtain⟨rfl,h⟩:=h
  exact .iface _ _ v (ih h)
def loB:Blk->Blk->Prop
 |_,.junk=>True
 |.rows es sz,.rows es' sz'=>DR es es'/\sz=sz'
 |.grow es sz,.grow es' sz'=>DR es es'/\sz=sz'
 |x,y=>x=y
theorem A8(x:Blk):loB x x:=by cases x<;>simp [loB,Bh]
theorem D7.lo{w:World}{I:Nat->Prop}{mu:Nat->Option Value}{b:Nat}{x y:Blk}(h:D7 w I mu b x)(hl:loB x y):D7 w I mu b y:=by
 by_cases hj:y=.junk
 ·subst hj;trivial
 cases x with
 |rows es sz=>
  cases y<;>simp [loB] at hl hj
  obtain⟨hl,rfl⟩:=hl
  obtain⟨k,T,us,h1,h2,h3,h4,h5⟩:=h
  obtain⟨g1,g2⟩:=Hs hl
  exact⟨k,T,us,h1,h2,by rw[<-g1];exact h3,fun i hi=>by rw[<-(BD (g2 i (by omega))).1];exact h4 i (by omega),fun i j hi hj=>(h5 i j (by omega) hj).lo ((BD (g2 i (by omega))).2 j (by rw[h4 i (by omega)];exact hj))⟩
 |grow es sz=>
  cases y<;>simp [loB] at hl hj
  obtain⟨hl,rfl⟩:=hl
  obtain⟨A,cap,T,us,h1,h2,h3,h4⟩:=h
  obtain⟨g1,g2⟩:=Hs hl
  refine⟨A,cap,T,us,by rw[<-g1];exact h1,fun i hi=>by rw[<-(BD (g2 i (by omega))).1];exact h2 i (by omega),h3,?_⟩
  rcases h4 with⟨h5,h6⟩|⟨k,q0,q1,q2,q3,q4,q5⟩
  ·refine .inl ⟨h5,?_⟩
   subst h6
   exact A0Q.1 g1.symm
  ·exact .inr ⟨k,q0,q1,q2,by rw[<-g1];exact q3,q4,fun i j hi hj=>(q5 i j (by omega) hj).lo ((BD (g2 i (by omega))).2 j (by rw[h2 i (by omega)];exact hj))⟩
 |map es ck=>
  cases y<;>simp [loB] at hl hj
  obtain⟨rfl,rfl⟩:=hl;exact h
 |iter m since seen last=>
  cases y<;>simp [loB] at hl hj
  obtain⟨rfl,rfl,rfl,rfl⟩:=hl;exact h
 |obj o=>
  cases y<;>simp [loB] at hl hj
  subst hl;exact h
 |loop env nt st pd ps a c=>
  cases y<;>simp [loB] at hl hj
  obtain⟨rfl,rfl,rfl,rfl,rfl,rfl,rfl⟩:=hl;exact h
 |pr g p=>
  cases y<;>simp [loB] at hl hj
  obtain⟨rfl,rfl⟩:=hl;exact h
 |junk=>
  cases y<;>simp [loB] at hl hj
def UM(P:Program)(rs:List ResultVar)(r:D):AE->St->Prop
 |.ret,s|.normal,s=>∃ d,J9 P s rs=some d/\lo (frz (Ad s.hp) 6 d) r/\r.pure=true
 |_,_=>False
theorem EY:∀ (ds:List D) (k t:Nat),(Be k ds).get t=if k<=t/\t<k+ds.length then nd ds (t-k) else .any
 |[],k,t=>by simp[Be,Env.get];intro h1 h2;omega
 |d::ds,k,t=>by
  simp only[Be,Env.get,EY ds (k+1) t,A0g]
  by_cases h:k=t
  ·subst h;simp[nd]
  ·have:(k==t)=false:=by simp[h]
   simp only[this,cond_false]
   by_cases h1:k+1<=t/\t<k+1+ds.length
   ·rw[if_pos h1,if_pos (by omega)]
    have e:t-k=(t-(k+1))+1:=by omega
    rw[e];simp[nd]
   ·rw[if_neg h1,if_neg (by omega)]
def GH(tmps:Array Value)(x:ResultVar):Sem Value:=
 match x with
 |.tmp t=>pure (tmps.getD t undef)
 |.cell b t=>do loadVar t (<-asAddr (tmps.getD b undef))
section
variable{P:Program}{w0:World}{M0:Nat->Prop}{I0:Gh}{fr I:Nat->Prop}{mu:Nat->Option Value}{w:World}{s:St}{a:Act}{nt:Nat}
theorem ZH{T:TypeId}{ti:TI}(ht:Ak P T=some ti){hp:Nat->Option Blk}(hr:Ap w0 M0 I0 fr I mu hp w){b i off sz:Nat}{av:Value}(hv:Rep w I mu (.ref b i off sz) av){es:List (List D)}(hx:hp b=some (.rows es sz))(hi:i<es.length)(hle:off+ti.sz<=sz)(hpos:0<ti.sz){e:Eff}{c:Prop}(he:HV ti hp (.ref b i off sz)=some (e,c)):
  ∃ v k o,av=.pointer (some ⟨k,o,none⟩)/\(loadVar T ⟨k,o,none⟩).run P w=.ok v w/\Rep w I mu e.d v:=by
 cases hv with
 |ref _ _ _ _ k hk=>
  obtain⟨k',T',us,h1,h2,h3,h4,h5⟩:=hr.blk b _ hx
  rw[hk] at h1
  simp only[A03,A0O,A16,and_true] at h1
  subst h1
  have hlen:=h4 i hi
  have hmul:i*sz+sz<=es.length*sz:=by rw[<-A0F];exact A0f _ hi
  have hl:=C0 (P:=P) (I:=I) (mu:=mu) ht w k (i*sz) (nr es i) (fun j=>nv us (i*sz+j)) (fun j hj=>by
    rw[hlen] at hj
    simp only[World.cell?,h2,A1f,nv]
    rw[if_neg (by simp)]
    simp[A02,show i*sz+j<us.length by omega])
   (fun j hj=>h5 i j hi (by omega)) off
  rw[hlen] at hl
  simp only[HV,hx] at he
  cases hag:ti.ag<;>simp only[hag,cond_true,cond_false,A03,A05] at he<;>obtain ⟨rfl,_⟩:=he
  ·obtain⟨v',q1,q2⟩:=hl.2 hag (by omega)
   exact⟨v',k,_,rfl,q1,q2⟩
  ·obtain⟨v',q1,q2⟩:=hl.1 hag hle
   exact⟨v',k,_,rfl,q1,q2⟩
theorem LK(r:Rel w0 M0 I0 nt fr I mu s.fs a w){x:ResultVar}{d:D}(h:K5 P s x=some d):
  ∃ v,(GH a.tmps x).run P w=.ok v w/\Rep w I mu d v:=by
 cases x with
 |tmp t=>
  simp only[K5,A03] at h
  subst h
  exact⟨_,rfl,r.env t⟩
 |cell b T=>
  simp only[K5] at h
  split at h
  ·rename_i ti ht
   split at h
   ·rename_i b' i off sz e c henv he
    split at h
    ·rename_i es sz' hx
     split at h
     ·rename_i hcond
      obtain⟨rfl,hi,hle,hpos⟩:=hcond
      simp only[A03] at h
      subst h
      have hv:=r.env b
      have hv':Rep w I mu (.ref b' i off sz) (a.tmps.getD b undef):=by
       have:s.fs.env b=s.env.get b:=rfl
       rw[this,henv] at hv;exact hv
      obtain⟨v,k,o,h1,h2,h3⟩:=ZH ht r.w hv' hx hi hle hpos (by rw[<-henv];exact he)
      refine⟨v,?_,h3⟩
      show(do loadVar T (<-asAddr (a.tmps.getD b undef)):Sem Value).run P w=_
      rw[h1]
      simpa[asAddr] using h2
     ·cases h
    ·cases h
   ·cases h
  ·cases h
theorem GG(fn:Func)(tmps:Array Value):∀ (rs:List ResultVar) (vs:List Value),rs.length=vs.length->(∀(i:Nat) x v,rs[i]? =some x->vs[i]? =some v->(GH tmps x).run P w=.ok v w)->
  (rs.mapM (GH tmps)).run P w=.ok vs w
 |[],[],_,_=>by simp
 |[],_::_,h,_=>by simp at h
 |_::_,[],h,_=>by simp at h
 |x::rs,v::vs,hl,h=>by
  have h0:=h 0 x v rfl rfl
  have ih:=GG fn tmps rs vs (by simpa using hl) fun i y u hy hu=>h (i+1) y u (by simpa using hy) (by simpa using hu)
  simp only[List.mapM_cons,A0e,h0,Result.andThen,ih,A0j]
theorem NC{α β:Type}{g:α->Option β}:∀ {l:List α} {r:List β},l.mapM g=some r->r.length=l.length/\∀ (i:Nat) (x:α),l[i]? =some x->∃ y,r[i]? =some y/\g x=some y
 |[],r,h=>by simp at h;subst h;simp
 |a::l,r,h=>by
  simp only[List.mapM_cons,Option.bind_eq_bind,Option.pure_def,Option.bind_eq_some_iff] at h
  obtain⟨b,hb,r',hr',h⟩:=h
  simp only[A03] at h
  subst h
  obtain⟨h1,h2⟩:=NC hr'
  refine⟨by simp[h1],fun i x hx=>?_⟩
  cases i with
  |zero=>simp at hx;subst hx;exact⟨b,by simp,hb⟩
  |succ i=>simpa using h2 i x (by simpa using hx)
theorem GJ(r:Rel w0 M0 I0 nt fr I mu s.fs a w)(fn:Func){d:D}(h:J9 P s fn.results.toList=some d):∃ v,(results fn a.tmps).run P w=.ok v w/\Rep w I mu d v:=by
 have hrun:∀ vs:List Value,(fn.results.toList.mapM (GH a.tmps)).run P w=.ok vs w->
   (results fn a.tmps).run P w=.ok (if h:vs.toArray.size=1 then vs.toArray[0] else .tuple vs.toArray) w:=by
  intro vs hvs
  have gen:∀ F:ResultVar->Sem Value,(∀ x,F x=GH a.tmps x)->(do let vs <-fn.results.mapM F;pure (if h:vs.size=1 then vs[0] else .tuple vs):Sem Value).run P w=.ok (if h:vs.toArray.size=1 then vs.toArray[0] else .tuple vs.toArray) w:=by
   intro F hF
   obtain rfl:F=GH a.tmps:=funext hF
   rw[Array.mapM_eq_mapM_toList]
   simp only[A0e,Sem.run_map,hvs,Result.andThen,A0j]
  exact gen _ fun x=>by cases x<;>rfl
 unfold J9 at h
 split at h
 ·rename_i x hx
  obtain⟨v,h1,h2⟩:=LK (P:=P) r h
  refine⟨v,?_,h2⟩
  have:=hrun [v] (by
   rw[hx]
   exact GG fn a.tmps [x] [v] rfl fun i y u hy hu=>by
    cases i with
    |zero=>simp at hy hu;subst hy hu;exact h1
    |succ i=>simp at hy)
  simpa using this
 ·rename_i l hne
  split at h
  ·rename_i ds hds
   simp only[A03] at h
   subst h
   obtain⟨hl,hg⟩:=NC hds
   have hex:∃ vs:List Value,vs.length=fn.results.toList.length/\∀ (i:Nat) x,fn.results.toList[i]? =some x->(GH a.tmps x).run P w=.ok (nv vs i) w/\Rep w I mu (nd ds i) (nv vs i):=by
    have:∀ (i:Nat),∃ v,∀ x,fn.results.toList[i]? =some x->(GH a.tmps x).run P w=.ok v w/\Rep w I mu (nd ds i) v:=by
     intro i
     cases hx:fn.results.toList[i]? with
     |none=>exact ⟨undef,fun x h=>by cases h⟩
     |some x=>
      obtain⟨y,hy1,hy2⟩:=hg i x hx
      obtain⟨v,h1,h2⟩:=LK (P:=P) r hy2
      refine⟨v,fun x' hx'=>?_⟩
      cases hx'
      have:nd ds i=y:=by simp[nd,A02,hy1]
      rw[this];exact⟨h1,h2⟩
    refine⟨(List.range fn.results.toList.length).map fun i=>Classical.choose (this i),by simp,fun i x hx=>?_⟩
    have hlt:=(List.getElem?_eq_some_iff.1 hx).1
    have e:nv ((List.range fn.results.toList.length).map fun i=>Classical.choose (this i)) i=Classical.choose (this i):=by
     simp only[nv,A02,A0x,List.getElem?_range hlt,A15,A0J]
    rw[e]
    exact Classical.choose_spec (this i) x hx
   obtain⟨vs,hvl,hv⟩:=hex
   have:=hrun vs (GG fn a.tmps _ vs hvl.symm fun i x u hx hu=>by
    have:=(hv i x hx).1
    have e:nv vs i=u:=by simp[nv,A02,hu]
    rw[e] at this;exact this)
   have hsz:¬vs.toArray.size=1:=by
    intro h1
    rw[A0y,hvl] at h1
    match hll:fn.results.toList,h1 with
    |[x],_=>exact hne x hll
   rw[dif_neg hsz] at this
   refine⟨_,this,.tup ds vs (by omega) fun i hi=>?_⟩
   obtain⟨x,hx⟩:∃ x,fn.results.toList[i]? =some x:=⟨fn.results.toList[i]'(by omega),A09 (by omega)⟩
   exact(hv i x hx).2
  ·cases h
theorem MJ{w:World}{k o:Nat}{u:Value}(h:w.cell? ⟨k,o,none⟩=some u):∃ us T fz,w.heap[k]? =some (.cells us T fz):=by
 unfold World.cell? at h
 split at h
 ·rename_i us T fz hk;exact⟨us,T,fz,hk⟩
 all_goals cases h
theorem Rep.shut{w w':World}{I I':Nat->Prop}{mu:Nat->Option Value}(hI:∀ k,I k->(∃ us T fz,w.heap[k]? =some (.cells us T fz))->I' k/\w'.heap[k]? =w.heap[k]?){d:D}{v:Value}(h:Rep w I mu d v):Rep w' I' mu d v:=by
 induction h with
 |any v=>exact .any v
 |val v ok=>exact .val v ok
 |cond g d v _ h' ih=>exact .cond g d v ih h'
 |agg cs us hl _ ih=>exact .agg cs us hl ih
 |tup cs us hl _ ih=>exact .tup cs us hl ih
 |slice es tight A k o sz cap u hA hc ht hm hlen hcell _ ih=>
  have key:∀ i j,i<es.length->j<sz->I' k/\w'.heap[k]? =w.heap[k]?:=fun i j hi hj=>hI k ((hA (by omega)).2 (by omega)) (MJ (hcell i j hi hj))
  refine .slice es tight A k o sz cap u (fun h=>⟨(hA h).1,fun h'=>(key 0 0 h h').1⟩) hc ht hm hlen (fun i j hi hj=>?_) ih
  rw[Ez (key i j hi hj).2]
  exact hcell i j hi hj
 |ptr cs off k o u hk hcell _ ih=>
  have key:∀ j,j<cs.length->I' k/\w'.heap[k]? =w.heap[k]?:=fun j hj=>hI k (hk (by omega)) (MJ (hcell j hj))
  refine .ptr cs off k o u (fun h=>(key 0 h).1) (fun j hj=>?_) ih
  rw[Ez (key j hj).2]
  exact hcell j hj
 |ref b i off sz k h=>exact .ref b i off sz k h
 |sref b i len cap sz k h=>exact .sref b i len cap sz k h
 |gref b len A cap h=>exact .gref b len A cap h
 |mref b k h=>exact .mref b k h
 |yld b k h=>exact .yld b k h
 |func fn fs cs us vs hl hk _ _ ih ih'=>exact .func fn fs cs us vs hl hk ih ih'
 |iface t d v _ ih=>exact .iface t d v ih
 |abool n pos b h=>exact .abool n pos b h
 |gel b i off sz k len cap h=>exact .gel b i off sz k len cap h
 |gsub b i len sz A B n cap h hle hB=>exact .gsub b i len sz A B n cap h hle hB
theorem D7.shut{w w':World}{I I':Nat->Prop}{mu:Nat->Option Value}(hI:∀ k,I k->(∃ us T fz,w.heap[k]? =some (.cells us T fz))->I' k/\w'.heap[k]? =w.heap[k]?){b:Nat}{x:Blk}(h:D7 w I mu b x)
  (hb:∀ v k,mu b=some v->Ae v=some k->w'.heap[k]? =w.heap[k]?):D7 w' I' mu b x:=by
 cases x with
 |rows es sz=>
  obtain⟨k,T,us,h1,h2,h3,h4,h5⟩:=h
  exact⟨k,T,us,h1,by rw[hb _ k h1 rfl];exact h2,h3,h4,fun i j hi hj=>(h5 i j hi hj).shut hI⟩
 |grow es sz=>
  obtain⟨A,cap,T,us,h1,h2,h3,h4⟩:=h
  refine⟨A,cap,T,us,h1,h2,h3,?_⟩
  rcases h4 with h4|⟨k,h0,hA,h5,h6,h7,h8⟩
  ·exact .inl h4
  ·exact .inr ⟨k,h0,hA,by rw[hb _ k h1 (by rw[hA];simp[Ae];omega)];exact h5,h6,h7,fun i j hi hj=>(h8 i j hi hj).shut hI⟩
 |map es clock=>
  obtain⟨k,l,h1,h2,h3,h4,h5⟩:=h
  exact⟨k,l,h1,by rw[hb _ k h1 rfl];exact h2,h3,h4,fun i x y hx hy=>(h5 i x y hx hy).shut hI⟩
 |iter m since seen last=>
  obtain⟨k,km,h1,h2,h3⟩:=h
  exact⟨k,km,h1,h2,by rw[hb _ k h1 rfl];exact h3⟩
 |obj o=>
  obtain⟨k,h1,h2⟩:=h
  exact⟨k,h1,by rw[hb _ k h1 rfl];exact h2⟩
 |loop env nt st pd ps a c=>
  obtain⟨k,fn,tmps,kd,h1,h2,h3,h4⟩:=h
  exact⟨k,fn,tmps,kd,h1,by rw[hb _ k h1 rfl];exact h2,h3,fun t=>(h4 t).shut hI⟩
 |pr g p=>
  obtain⟨v,u,h1,h2,h3,h4,h5⟩:=h
  exact⟨v,u,h1,h2,h3,h4,by rw[obAt h1 hb];exact h5⟩
 |junk=>trivial
def CV(rs:List Nat)(w:World):World:=rs.foldl (fun w r=>w.putObj r (.deferred none)) w
theorem FP:∀ (rs:List Nat) (w:World),(CV rs w).heap.size=w.heap.size
 |[],_=>rfl
 |r::rs,w=>(FP rs _).trans (by simp)
theorem Lz:∀ (rs:List Nat) (w:World),(CV rs w).os=w.os/\(CV rs w).tape=w.tape/\(CV rs w).output=w.output
 |[],_=>⟨rfl,rfl,rfl⟩
 |r::rs,w=>Lz rs (w.putObj r (.deferred none))
theorem FQ:∀ (rs:List Nat) (w:World) (k:Nat),k ∉ rs->(CV rs w).heap[k]? =w.heap[k]?
 |[],_,_,_=>rfl
 |r::rs,w,k,h=>by
  simp only[A0s,not_or] at h
  exact(FQ rs _ k h.2).trans (World.putObj_heap_other h.1)
theorem FX{F:Fence}{n:Nat}{fn:Func}{tmps:Array Value}{R:Ending->World->Prop}{u:FrameMode}(hu:u≠ .run){dl:List Deferred}:∀ (rs:List Nat) (w:World),rs.Nodup->(∀ r ∈ rs,w.heap[r]? =some (.deferred (some [])))->
  LeavesInM F n P fn tmps R dl u (CV rs w)->LeavesInM F n P fn tmps R (rs.map (fun r=> {target:=.collected r,args:=#[]})++dl) u w
 |[],_,_,_,h=>h
 |r::rs,w,hn,hr,h=>by
  simp only[A1J] at hn
  refine⟨hu,.inl ⟨r,_,rfl,run_takeDeferred (hr r A0B),FX hu rs _ hn.2 (fun k hk=>?_) h⟩⟩
  rw[World.putObj_heap_other (by rintro rfl;exact hn.1 hk)]
  exact hr k (A0p _ hk)
theorem Ap.shut{G:Gh}{hp:Nat->Option Blk}(h:Ap w0 M0 G fr I mu hp w)(hG:∀ k,G k->k<w0.heap.size){rs:List Nat}(hr:∀ r ∈ rs,I r/\w0.heap.size<=r/\w.heap[r]? =some (.deferred (some []))):
  Ap w0 M0 G fr (fun k=>I k/\k ∉ rs) mu hp (CV rs w)/\∀ d v,Rep w I mu d v->Rep (CV rs w) (fun k=>I k/\k ∉ rs) mu d v:=by
 have hI:∀ k,I k->(∃ us T fz,w.heap[k]? =some (.cells us T fz))->(I k/\k ∉ rs)/\(CV rs w).heap[k]? =w.heap[k]?:=by
  intro k hk ⟨us,T,fz,hc⟩
  have:k ∉ rs:=fun hm=>by have:=(hr k hm).2.2;rw[hc] at this;cases this
  exact⟨⟨hk,this⟩,FQ rs w k this⟩
 have hloc:∀ b x v k,hp b=some x->mu b=some v->Ae v=some k->k ∉ rs:=fun b x v k hx hv hk hm=>(h.loc b x v k hx hv hk).2.1 (hr k hm).1
 obtain⟨s1,s2,s3⟩:=Lz rs w
 refine⟨⟨fun b x hx=>(h.blk b x hx).shut hI fun v k hv hk=>FQ rs w k (hloc b x v k hx hv hk),fun b x v k hx hv hk=>?_,h.inj,h.fresh,fun k hk=>by rw[FP];exact h.lt k hk.1,s1.trans h.os,s2.trans h.tape,s3.trans h.output,by rw[FP];exact h.grown,fun k hk hnm=>?_,fun k hk=>⟨h.iold k hk,fun hm=>?_⟩,fun k hk=>h.inew k hk.1,h.keep,h.used⟩,fun d v hv=>hv.shut hI⟩
 ·have:=h.loc b x v k hx hv hk
  exact⟨this.1,fun hi=>this.2.1 hi.1,by rw[FP];exact this.2.2⟩
 ·rw[FQ rs w k fun hm=>by have:=(hr k hm).2.1;omega]
  exact h.old k hk hnm
 ·have:=(hr k hm).2.1
  have:=hG k hk
  omega
theorem Rel.leave{G:Gh}{F:Fence}{n:Nat}{fn:Func}{d:D}{R:Ending->World->Prop}(r:Rel w0 M0 G nt fr I mu s.fs a w)(hG:∀ k,G k->k<w0.heap.size)(hdl:G.dl=[])(hd:J9 P s fn.results.toList=some d)
  (k:∀ v w' I',(∀ k,I' k->I k)->Ap w0 M0 G fr I' mu s.fs.hp w'->Rep w' I' mu d v->R (.returned v) w'):LeavesInM F n P fn a.tmps R a.defers .returning w:=by
 obtain⟨rs,_,h1,h2,h3⟩:=r.defers
 obtain⟨w1,w2⟩:=r.w.shut hG h3
 rw[h1,hdl]
 refine FX (by simp) rs w h2 (fun r hr=>(h3 r hr).2.2) ?_
 obtain⟨v,q1,q2⟩:=GJ (P:=P) (a:=a) (w:=CV rs w) (I:=fun k=>I k/\k ∉ rs) (mu:=mu) (w0:=w0) (M0:=M0) (I0:=⟨G.st,G.nm,a.defers,G.F,G.n,G.hF⟩) (fr:=fr) (nt:=nt) (s:=s)
  ⟨r.size,BJ.refl _ _ _ _,fun t=>w2 _ _ (r.env t),⟨w1.blk,w1.loc,w1.inj,w1.fresh,w1.lt,w1.os,w1.tape,w1.output,w1.grown,w1.old,w1.iold,w1.inew,w1.keep,w1.used⟩⟩ fn hd
 exact⟨v,q1,k v _ _ (fun _ h=>h.1) w1 q2⟩
theorem A0.of_awp{f:FuncId}{fn:Func}{c:Code}{ds:List D}{r:D}(hf:P.funcs[f]? =some fn)(hb:fn.body=some c)(hn:fn.ntmps=nt)(hent:Bl P f=true)(hlen:ds.length<=nt){rs:List ResultVar}(hrs:fn.results.toList=rs)
  (h:AWp P nt c (UM P rs r) ⟨Be 0 ds,[],0⟩):A0 P f ds r:=by
 subst hrs
 refine⟨hent,fun w I vs hgi hI hl hrep=>?_⟩
 let G:Gh:=⟨I,fun _=>none,[],Fence.wide,0,.inl rfl⟩
 refine callsIn_wide.1 (callsIn_of_wp_marks (n:=0) hf hb trivial (wpIn_mono (h w (fun _=>False) G (fun g l hl=>⟨(hgi g l hl).1,hI g (hgi g l hl).1,fun h=>h,(hgi g l hl).2⟩) I (fun _=>none) _ w ⟨?_,BJ.refl _ _ _ _,fun t=>?_,⟨fun b x hx=>by simp[St.fs,Ad] at hx,fun b x v k hx=>by simp[St.fs,Ad] at hx,fun b c x y v u k hx=>by simp[St.fs,Ad] at hx,fun _ _=>rfl,hI,rfl,rfl,rfl,A0a _,fun _ _ _=>rfl,fun _ h=>h,fun _ h=>.inl h,fun b x _ h=>(by cases h),fun b x hx=>by simp[St.fs,Ad] at hx⟩⟩) ?_))
 ·simp[hl,hn];omega
 ·have hget:=EY ds 0 t
  simp only[A0D,true_and,A1c,Nat.sub_zero] at hget
  show Rep w I (fun _=>none) ((Be 0 ds).get t) _
  rw[hget]
  by_cases ht:t<ds.length
  ·rw[if_pos ht]
   have e:(vs.toArray++Array.replicate (fn.ntmps-vs.toArray.size) undef).getD t undef=nv vs t:=by
    simp only[nv,A02,A1g]
    rw[Array.getElem?_append_left (by simp;omega)]
    simp
   rw[e];exact hrep t ht
  ·rw[if_neg ht];exact .any _
 ·rintro e a' w' ⟨x,s',I',mu',hq,he,r'⟩
  have fin:∀ d,J9 P s' fn.results.toList=some d->lo (frz (Ad s'.hp) 6 d) r->r.pure=true->LeavesInM Fence.wide 0 P fn a'.tmps (fun e w'=>∃ v I',e=.returned v/\Rep w' I' (fun _=>none) r v/\(∀ k,I k->I' k)/\(∀ k,I' k->I k∨w.heap.size<=k)/\(∀ k,I' k->k<w'.heap.size)/\Below w.heap.size w w') a'.defers .returning w':=by
   intro d hd hfr hpu
   refine r'.leave hI rfl hd fun v w2 I2 _ W2 h2=>?_
   have hfz:=Rep.frz (J:=fun k=>I2 k∨(w.heap.size<=k/\k<w2.heap.size)) W2 (fun k hk=>.inl hk) (fun b x v k hx hv hk=>.inr (by
     have:=W2.loc b x v k hx hv hk
     rcases this.1 with h3|h3
     ·exact h3.elim
     ·exact⟨h3,this.2.2⟩)) 6 d v h2
   have hfr':Go.Ab.lo (Go.Ab.frz s'.fs.hp 6 d) r:=hfr
   have hfz:=hfz.lo hfr'
   refine⟨v,_,rfl,hfz.unmu hpu,fun k hk=>.inl (W2.iold k hk),fun k hk=>?_,fun k hk=>?_,⟨W2.os,W2.tape,W2.output,W2.grown,fun k hk=>W2.old k hk (fun h=>h)⟩⟩
   ·rcases hk with hk|hk
    ·rcases W2.inew k hk with h3|h3|h3
     ·exact .inl h3
     ·exact h3.elim
     ·exact .inr h3
    ·exact .inr hk.1
   ·rcases hk with hk|hk
    ·exact W2.lt k hk
    ·exact hk.2
  cases x<;>cases e<;>simp only[FK] at he<;>simp only[UM] at hq
  case normal.normal=>
   obtain⟨d,hd,hfr,hpu⟩:=hq
   exact fin d hd hfr hpu
  case ret.ret=>
   obtain⟨d,hd,hfr,hpu⟩:=hq
   exact fin d hd hfr hpu
end
attribute [irreducible] A0
def Bc(w:World)(I:Nat->Prop)(mu:Nat->Option Value)(ds:List D)(vs:List Value):Prop:=vs.length=ds.length/\∀ i,i<ds.length->Rep w I mu (nd ds i) (nv vs i)
theorem Bc.append{w:World}{I:Nat->Prop}{mu:Nat->Option Value}{ds es:List D}{vs us:List Value}(h:Bc w I mu ds vs)(k:Bc w I mu es us):Bc w I mu (ds++es) (vs++us):=by
 refine⟨by simp[h.1,k.1],fun i hi=>?_⟩
 by_cases hlt:i<ds.length
 ·have e1:nd (ds++es) i=nd ds i:=by simp[nd,A02,A0q hlt]
  have e2:nv (vs++us) i=nv vs i:=by simp[nv,A02,A0q (show i<vs.length by rw[h.1];exact hlt)]
  rw[e1,e2];exact h.2 i hlt
 ·have hge:ds.length<=i:=A1Y hlt
  have e1:nd (ds++es) i=nd es (i-ds.length):=by simp[nd,A02,A0o hge]
  have e2:nv (vs++us) i=nv us (i-ds.length):=by
   have:vs.length<=i:=by rw[h.1];exact hge
   simp[nv,A02,A0o this,h.1]
  rw[e1,e2];exact k.2 _ (by simp at hi;omega)
theorem Bc.args{w:World}{I:Nat->Prop}{mu:Nat->Option Value}{ev:Operand->D}{a:Act}{args:Array Operand}(h:∀ x ∈ args.toList,Rep w I mu (ev x) (a.eval x)):Bc w I mu (args.toList.map ev) (args.toList.map a.eval):=by
 refine⟨by simp,fun i hi=>?_⟩
 simp only[A06,A0T] at hi
 have h1:nd (args.toList.map ev) i=ev args[i]:=by simp[nd,A02,hi]
 have h2:nv (args.toList.map a.eval) i=a.eval args[i]:=by simp[nv,A02,hi]
 rw[h1,h2];exact h _ (by simp)
theorem Bc.unmu{w:World}{I:Nat->Prop}{mu mu':Nat->Option Value}{ds:List D}{vs:List Value}(h:Bc w I mu ds vs)(hp:Ag ds=true):Bc w I mu' ds vs:=
 ⟨h.1,fun i hi=>(h.2 i hi).unmu (Cf hp i)⟩
theorem Ap.below{w0 w w':World}{M0:Nat->Prop}{I0:Gh}{fr I I':Nat->Prop}{mu:Nat->Option Value}{h:Nat->Option Blk}(hw:Ap w0 M0 I0 fr I mu h w)(h1:∀ k,I k->I' k)(h2:∀ k,I' k->I k∨w.heap.size<=k)(h3:∀ k,I' k->k<w'.heap.size)(h4:Below w.heap.size w w'):Ap w0 M0 I0 fr I' mu h w':=by
 have hbl:∀ k,k<w.heap.size->w'.heap[k]? =w.heap[k]?:=fun k hk=>h4.block k hk
 have hext:Ext I mu w I' mu w':=⟨h1,fun _ _ h=>h,fun k hk=>hbl k (hw.lt k hk)⟩
 refine⟨fun b x hx=>(hw.blk b x hx).mono hext.w hext.i hext.m fun u k hu hk=>hbl k (hw.loc b x u k hx hu hk).2.2,fun b x u k hx hu hk=>?_,hw.inj,hw.fresh,h3,h4.os.trans hw.os,h4.tape.trans hw.tape,h4.output.trans hw.output,A0L hw.grown h4.size,fun k hk hnm=>(hbl k (by have:=hw.grown;omega)).trans (hw.old k hk hnm),fun k hk=>h1 k (hw.iold k hk),fun k hk=>?_,hw.keep,hw.used⟩
 ·have:=hw.loc b x u k hx hu hk
  exact⟨this.1,fun hI=>by rcases h2 k hI with h5|h5;exact this.2.1 h5;omega,A0R this.2.2 h4.size⟩
 ·rcases h2 k hk with h5|h5
  ·exact hw.inew k h5
  ·exact .inr (.inr (A0L hw.grown h5))
theorem MA{P:Program}{id:Nat}{ev:Operand->D}{hp:Nat->Option Blk}{dst:Option Tmp}{T:TypeId}{pos:String}{af:Array Edge}{gd:Option (Nat×Bool)}{x:Operand}{f:FuncId}{args:Array Operand}{ts:Array TypeId}{fs cs ds:List D}{r:D}
  (hx:ev x=.func (.func f) fs cs) (ha:fs++args.toList.map ev++cs=ds) (hpu:Ag ds=true) (hc:A0 P f ds r):AC P ⟨dst,.call {callee:=.value x,args:=args,argTypes:=ts},T,pos,af,gd⟩ id ev hp ⟨r,[],[]⟩:=by
 intro w0 M0 I0 fr I mu h a w hga hw hid hxs hb K Q hK
 subst ha
 have hxr:=hxs x (by simp[Op.operands,Call.operands])
 rw[hx] at hxr
 have hargs:=Bc.args (w:=w) (I:=I) (mu:=mu) (ev:=ev) (a:=a) (args:=args) fun y hy=>hxs y (by simp[Op.operands,Call.operands];exact .inr (by simpa using hy))
 generalize he:a.eval x=fv at hxr
 cases hxr with
 |func _ _ _ us vs hl hk h1 h2=>
 have hall:=((Bc.append (Bc.append ⟨hl,h1⟩ hargs) ⟨hk,h2⟩).unmu (mu':=fun _=>none) hpu)
 unfold A0 at hc
 have hcall:=hc.2 w I _ (hga.at hw) hw.lt hall.1 hall.2
 have hrun:(execOp a.eval ⟨dst,.call {callee:=.value x,args:=args,argTypes:=ts},T,pos,af,gd⟩).run P w=.ok (.enter f (us++args.toList.map a.eval++vs).toArray) w:=by
  have e1:us.toArray++args.map a.eval++vs.toArray=(us++args.toList.map a.eval++vs).toArray:=by apply Array.ext';simp
  simp only[execOp,resolve,he,Deferred.ofValue,A0e,A0j,Result.andThen,invoke]
  exact(congrArg (fun z=>(callFunc f z).run P w) e1).trans (AZ hc.1 _ w)
 refine C6 hrun ?_
 refine hcall.mono fun e w' ⟨v,I',he,hv,h1,h2,h3,h4⟩=>?_
 subst he
 have hext:Ext I mu w I' mu w':=⟨h1,fun _ _ h=>h,fun k hk=>h4.block k (hw.lt k hk)⟩
 exact hK v w' I' mu hext ((hw.below h1 h2 h3 h4).less fun b hb=>hb.1) (hv.mono (fun _ _=>rfl) (fun _ h=>h) (fun _ _ h=>by cases h))
theorem Bz.callV{P:Program}{ops:Array Oper}{nx:Nat}{dst:Option Tmp}{T:TypeId}{ps:String}{af:Array Edge}{gd:Option (Nat×Bool)}{x:Operand}{f:FuncId}{args:Array Operand}{ts:Array TypeId}{fs cs ds:List D}{r:D}{l:List Oper}{pos:Nat}{acc:List Eff}{s:St}{K:List Eff->St->Prop}
  (hx:evO P s.env.get x=.func (.func f) fs cs) (hc:A0 P f ds r) (hg:gd=none∨∃ j want t,gd=some (j,want)/\AT ops j=some t/\gOf (s.env.get t) want=some true) (ha:fs++args.toList.map (evO P s.env.get)++cs=ds) (hpu:Ag ds=true)
  (hk:Go P ops nx l (pos+1) (⟨r,[],[]⟩::acc) (s.app dst ⟨r,[],[]⟩) K):Bz P ops nx (⟨dst,.call {callee:=.value x,args:=args,argTypes:=ts},T,ps,af,gd⟩::l) pos acc s K:=by
 unfold Bz
 refine .inl ⟨_,?_,by have:=Go.run hk;unfold Bz at this;exact this⟩
 rcases hg with rfl|⟨j,want,t,rfl,ht,hg⟩
 ·exact Bd.plain rfl (MA hx ha hpu hc)
 ·exact Bd.guard_true rfl ht hg (MA hx ha hpu hc)
def Kz(P:Program)(f:FuncId)(ds:List D)(r:D):Prop:=
 ∀(w:World) (I:Nat->Prop) (mu:Nat->Option Value) (vs:List Value),Bc w I mu ds vs->∃ v,(callFunc f vs.toArray).run P w=.ok (.value v) w/\Rep w I mu r v
theorem Sq{P:Program}{id:Nat}{ev:Operand->D}{hp:Nat->Option Blk}{dst:Option Tmp}{T:TypeId}{pos:String}{af:Array Edge}{gd:Option (Nat×Bool)}{f:FuncId}{args:Array Operand}{ts:Array TypeId}{ds:List D}{r:D}
  (ha:args.toList.map ev=ds) (hc:Kz P f ds r):AC P ⟨dst,.call {callee:=.value (.func f),args:=args,argTypes:=ts},T,pos,af,gd⟩ id ev hp ⟨r,[],[]⟩:=by
 subst ha
 refine AC.quiet fun _ _ _ _ I mu _ a w hw hx _=>?_
 have hargs:=Bc.args (w:=w) (I:=I) (mu:=mu) (ev:=ev) (a:=a) (args:=args) fun y hy=>hx y (by simp[Op.operands,Call.operands];exact .inr (by simpa using hy))
 obtain⟨v,h1,h2⟩:=hc w I mu _ hargs
 refine⟨v,?_,h2⟩
 have e1:args.map a.eval=(args.toList.map a.eval).toArray:=by apply Array.ext';simp
 simp only[execOp,resolve,Act.eval,Deferred.ofValue,A0e,A0j,Result.andThen,invoke]
 have e2:#[]++args.map a.eval++ #[]=(args.toList.map a.eval).toArray:=by rw[e1];simp
 exact(congrArg (fun z=>(callFunc f z).run P w) e2).trans h1
theorem Bz.ext{P:Program}{ops:Array Oper}{nx:Nat}{dst:Option Tmp}{T:TypeId}{ps:String}{af:Array Edge}{gd:Option (Nat×Bool)}{f:FuncId}{args:Array Operand}{ts:Array TypeId}{ds:List D}{r:D}{l:List Oper}{pos:Nat}{acc:List Eff}{s:St}{K:List Eff->St->Prop}
  (hc:Kz P f ds r) (hg:gd=none∨∃ j want t,gd=some (j,want)/\AT ops j=some t/\gOf (s.env.get t) want=some true) (ha:args.toList.map (evO P s.env.get)=ds)
  (hk:Go P ops nx l (pos+1) (⟨r,[],[]⟩::acc) (s.app dst ⟨r,[],[]⟩) K):Bz P ops nx (⟨dst,.call {callee:=.value (.func f),args:=args,argTypes:=ts},T,ps,af,gd⟩::l) pos acc s K:=by
 unfold Bz
 refine .inl ⟨_,?_,by have:=Go.run hk;unfold Bz at this;exact this⟩
 rcases hg with rfl|⟨j,want,t,rfl,ht,hg⟩
 ·exact Bd.plain rfl (Sq ha hc)
 ·exact Bd.guard_true rfl ht hg (Sq ha hc)
theorem Kz.of{P:Program}{k:FuncId}{fn:Func}{e:Array Value->Sem Value}{ds:List D}{r:D}(hf:P.funcs[k]? =some fn)(hn:(fn.name== "runtime.NumGoroutine")=false)(hb:fn.body.isNone=true)(h1:Extern.findNext fn=none)(h2:Extern.find fn=some e)
  (h:∀ (w:World) (I:Nat->Prop) (mu:Nat->Option Value) (vs:List Value),Bc w I mu ds vs->∃ v,(e vs.toArray).run P w=.ok v w/\Rep w I mu r v):Kz P k ds r:=by
 intro w I mu vs hr
 obtain⟨v,g1,g2⟩:=h w I mu vs hr
 refine⟨v,?_,g2⟩
 have hn':fn.name≠ "runtime.NumGoroutine":=by simpa using hn
 have hb':fn.body=none:=by simpa using hb
 simp[callFunc,hf,hn',hb',h1,h2,g1,Result.andThen]
theorem Bc.two{w:World}{I:Nat->Prop}{mu:Nat->Option Value}{d e:D}{vs:List Value}(h:Bc w I mu [d,e] vs):∃ v u,vs=[v,u]/\Rep w I mu d v/\Rep w I mu e u:=by
 obtain⟨h1,h2⟩:=h
 match vs,h1 with
 |[v,u],_=>exact ⟨v,u,rfl,h2 0 (by simp),h2 1 (by simp)⟩
end Go.Ab
namespace Go.Ab
noncomputable section
open Go.RowKit
universe u
theorem UY{α:Sort u}(x:α):∃ y:α,y=x:=⟨x,rfl⟩
def PI{α:Sort u}(x:α):α:=Classical.choose (UY x)
theorem K2{α:Sort u}(x:α):PI x=x:=Classical.choose_spec (UY x)
def GoS:Program->Array Oper->Nat->List Oper->Nat->List Eff->St->(List Eff->St->Prop)->Prop:=PI Go
theorem Cb:GoS=Go:=K2 Go
def A1:Program->Array Oper->Nat->List Oper->Nat->List Eff->St->(List Eff->St->Prop)->Prop:=PI Bz
theorem Bj:A1=Bz:=K2 Bz
theorem GoS_nil(P:Program)(ops:Array Oper)(nx pos:Nat)(acc:List Eff)(s:St)(K:List Eff->St->Prop):GoS P ops nx [] pos acc s K=K acc.reverse s:=by rw[Cb];rfl
def Qf(r:Option (Eff×Prop))(go:Eff->Prop)(stuck:Prop):Prop:=
 match r with
 |some (e,c)=>c/\go e
 |none=>stuck
theorem Xa(e:Eff)(c:Prop)(go:Eff->Prop)(stuck:Prop):Qf (some (e,c)) go stuck=(c/\go e):=by unfold Qf;exact tick0 _
where tick0 (p:Prop):p=p:=congrArg (fun x=>x) rfl
theorem Xb(go:Eff->Prop)(stuck:Prop):Qf none go stuck=stuck:=by unfold Qf;exact congrArg (fun x=>x) rfl
theorem SY(P:Program)(ops:Array Oper)(nx:Nat)(o:Oper)(r:List Oper)(pos:Nat)(acc:List Eff)(s:St)(K:List Eff->St->Prop):GoS P ops nx (o::r) pos acc s K=
  Fj ops o.guard s
   (fun s=>Qf (TH P (2*(nx+4*pos)) s.env.get (Ad s.hp) o.op) (fun e=>GoS P ops nx r (pos+1) (e::acc) (s.app o.dst e) K) (A1 P ops nx (o::r) pos acc s K))
   (fun s=>GoS P ops nx r (pos+1) (⟨.cond false (.val (.bool false)),[],[]⟩::acc) (s.app o.dst ⟨.cond false (.val (.bool false)),[],[]⟩) K)
   (A1 P ops nx (o::r) pos acc s K):=by
 rw[Cb,Bj]
 show Go P ops nx (o::r) pos acc s K=_
 simp only[Go]
 congr 1
def Mw(b:Bool)(d:D)(r:Env)(t:Nat):D:=bif b then d else Env.get r t
theorem Ul(d:D)(r:Env)(t:Nat):Mw true d r t=d:=by unfold Mw;exact congrArg (fun x=>x) rfl
theorem Sk(d:D)(r:Env)(t:Nat):Mw false d r t=Env.get r t:=by unfold Mw;exact congrArg (fun x=>x) rfl
theorem QQ(k:Nat)(d:D)(r:Env)(t:Nat):Env.get ((k,d)::r) t=Mw (k==t) d r t:=congrArg (fun x=>x) rfl
def HW(want:Bool)(go skip:St->Prop)(s:St):Prop:=cond want (go s) (skip s)
theorem U8(go skip:St->Prop)(s:St):HW true go skip s=go s:=by unfold HW;exact congrArg (fun x=>x) rfl
theorem S6(go skip:St->Prop)(s:St):HW false go skip s=skip s:=by unfold HW;exact congrArg (fun x=>x) rfl
def JG(x:Option (Nat×D))(want:Bool)(s:St)(go skip:St->Prop)(stuck:Prop):Prop:=
 match x with
 |some (t,.val (.bool b))=>Ed b (HW want go skip ⟨(t,.val (.bool true))::s.env,s.hp,s.nx⟩) (HW (!want) go skip ⟨(t,.val (.bool false))::s.env,s.hp,s.nx⟩)
 |some (_,.cond false (.val (.bool _)))=>skip s
 |_=>stuck
theorem X8(t:Nat)(b want:Bool)(s:St)(go skip:St->Prop)(stuck:Prop):JG (some (t,.val (.bool b))) want s go skip stuck=
  Ed b (HW want go skip ⟨(t,.val (.bool true))::s.env,s.hp,s.nx⟩) (HW (!want) go skip ⟨(t,.val (.bool false))::s.env,s.hp,s.nx⟩):=by unfold JG;exact congrArg (fun x=>x) rfl
theorem X9(t:Nat)(b want:Bool)(s:St)(go skip:St->Prop)(stuck:Prop):JG (some (t,.cond false (.val (.bool b)))) want s go skip stuck=skip s:=by unfold JG;exact congrArg (fun x=>x) rfl
def gD(ops:Array Oper)(s:St)(j:Nat):Option (Nat×D):=(AT ops j).map fun t=>(t,s.env.get t)
theorem S0(ops:Array Oper)(j:Nat)(want:Bool)(s:St)(go skip:St->Prop)(stuck:Prop):Fj ops (some (j,want)) s go skip stuck=JG (gD ops s j) want s go skip stuck:=by
 unfold Fj JG gD
 rcases h:AT ops j with _|t
 ·simp only[h,Option.map_none]
 ·simp only[h,A15]
  rcases h':s.env.get t with _|v|⟨g,d⟩
  ·rfl
  ·cases v<;>first|rfl|(cases want<;>rfl)
  ·cases g
   ·cases d<;>first|rfl|(rename_i v;cases v<;>rfl)
   ·rfl
  all_goals rfl
theorem S1(ops:Array Oper)(s:St)(go skip:St->Prop)(stuck:Prop):Fj ops none s go skip stuck=go s:=by unfold Fj;exact congrArg (fun x=>x) rfl
section
variable(P:Program)(ops:Array Oper)(nx:Nat)(dst:Option Tmp)(op:Op)(T:TypeId)(ps:String)(af:Array Edge)(r:List Oper)(pos:Nat)(acc:List Eff)(s:St)(K:List Eff->St->Prop)
theorem GoS_none:GoS P ops nx (⟨dst,op,T,ps,af,none⟩::r) pos acc s K=
  Qf (TH P (2*(nx+4*pos)) s.env.get (Ad s.hp) op) (fun e=>GoS P ops nx r (pos+1) (e::acc) (s.app dst e) K) (A1 P ops nx (⟨dst,op,T,ps,af,none⟩::r) pos acc s K):=by
 rw[SY,S1]
theorem GoS_some(j:Nat)(want:Bool):GoS P ops nx (⟨dst,op,T,ps,af,some (j,want)⟩::r) pos acc s K=
  JG (gD ops s j) want s (fun s=>Qf (TH P (2*(nx+4*pos)) s.env.get (Ad s.hp) op) (fun e=>GoS P ops nx r (pos+1) (e::acc) (s.app dst e) K) (A1 P ops nx (⟨dst,op,T,ps,af,some (j,want)⟩::r) pos acc s K))
   (fun s=>GoS P ops nx r (pos+1) (⟨.cond false (.val (.bool false)),[],[]⟩::acc) (s.app dst ⟨.cond false (.val (.bool false)),[],[]⟩) K)
   (A1 P ops nx (⟨dst,op,T,ps,af,some (j,want)⟩::r) pos acc s K):=by
 rw[SY,S0]
end
section
variable{P:Program}{ops:Array Oper}{nx:Nat}{dst:Option Tmp}{T:TypeId}{ps:String}{af:Array Edge}{gd:Option (Nat×Bool)}{f:FuncId}{x:Operand}{args:Array Operand}{ts:Array TypeId}{fs cs ds:List D}{r:D}{l:List Oper}{pos:Nat}{acc:List Eff}{s:St}{K:List Eff->St->Prop}
theorem A1.go(h:GoS P ops nx l pos acc s K):A1 P ops nx l pos acc s K:=by rw[Cb] at h;rw[Bj];exact Bz.go h
theorem A1.call(hc:A0 P f ds r)(hg:gd=none∨∃ j want t,gd=some (j,want)/\AT ops j=some t/\gOf (s.env.get t) want=some true)(ha:args.toList.map (evO P s.env.get)=ds)(hpu:Ag ds=true)
  (hk:GoS P ops nx l (pos+1) (⟨r,[],[]⟩::acc) (s.app dst ⟨r,[],[]⟩) K):A1 P ops nx (⟨dst,.call {callee:=.value (.func f),args:=args,argTypes:=ts},T,ps,af,gd⟩::l) pos acc s K:=by
 rw[Cb] at hk;rw[Bj];exact Bz.call hc hg ha hpu hk
theorem A1.callV(hx:evO P s.env.get x=.func (.func f) fs cs)(hc:A0 P f ds r)(hg:gd=none∨∃ j want t,gd=some (j,want)/\AT ops j=some t/\gOf (s.env.get t) want=some true)(ha:fs++args.toList.map (evO P s.env.get)++cs=ds)(hpu:Ag ds=true)
  (hk:GoS P ops nx l (pos+1) (⟨r,[],[]⟩::acc) (s.app dst ⟨r,[],[]⟩) K):A1 P ops nx (⟨dst,.call {callee:=.value x,args:=args,argTypes:=ts},T,ps,af,gd⟩::l) pos acc s K:=by
 rw[Cb] at hk;rw[Bj];exact Bz.callV hx hc hg ha hpu hk
theorem A1.ext(hc:Kz P f ds r)(hg:gd=none∨∃ j want t,gd=some (j,want)/\AT ops j=some t/\gOf (s.env.get t) want=some true)(ha:args.toList.map (evO P s.env.get)=ds)
  (hk:GoS P ops nx l (pos+1) (⟨r,[],[]⟩::acc) (s.app dst ⟨r,[],[]⟩) K):A1 P ops nx (⟨dst,.call {callee:=.value (.func f),args:=args,argTypes:=ts},T,ps,af,gd⟩::l) pos acc s K:=by
 rw[Cb] at hk;rw[Bj];exact Bz.ext hc hg ha hk
end
end
end Go.Ab
namespace Go.Ab
open Go.Proofs Go.Proofs.Tryz
theorem AP{P:Program}:∀ {l:List (Nat×TI)},l.map (fun p=>Ak P p.1)=l.map (fun p=>some p.2)->∀ {k t:Nat} {x:TI},l[k]? =some (t,x)->Ak P t=some x
 |[],_,k,t,x,h=>by simp at h
 |p::l,h,0,t,x,hk=>by simp at hk;subst hk;simpa using(List.cons.inj h).1
 |p::l,h,k+1,t,x,hk=>AP (List.cons.inj h).2 (by simpa using hk)
def tiL0:List (Nat×TI):=[
 (1,⟨1,false,[.nilFunc],8,.func⟩),
 (2,⟨1,false,[(.int .i64 0)],8,(.int .i64)⟩),
 (3,⟨1,false,[(.int .i64 0)],8,(.int .i64)⟩),
 (4,⟨1,false,[(.bool false)],1,.bool⟩),
 (5,⟨1,false,[(.int .u8 0)],1,(.int .u8)⟩),
 (9,⟨1,false,[(.string ByteArray.empty)],16,.str⟩),
 (20,⟨1,false,[.nilIface],16,.iface⟩),
 (22,⟨1,false,[.nilFunc],8,.func⟩),
 (23,⟨1,false,[(.pointer none)],8,(.ptr 75)⟩),
 (24,⟨1,false,[(.int .i64 0)],8,(.int .i64)⟩),
 (27,⟨1,false,[(.int .u64 0)],8,(.int .u64)⟩),
 (30,⟨1,false,[(.int .i64 0)],8,(.int .i64)⟩),
 (31,⟨1,false,[(.int .i64 0)],8,(.int .i64)⟩),
 (32,⟨1,false,[(.slice none 0 0)],24,(.slice 35)⟩),
 (33,⟨1,false,[(.slice none 0 0)],24,(.slice 146)⟩),
 (35,⟨6,true,[(.int .i64 0),(.bool false),(.int .i64 0),(.string ByteArray.empty),(.slice none 0 0),(.slice none 0 0)],88,(.struct [(0,(1,false)),(1,(1,false)),(2,(1,false)),(3,(1,false)),(4,(1,false)),(5,(1,false))])⟩),
 (36,⟨1,false,[(.slice none 0 0)],24,(.slice 38)⟩),
 (38,⟨19,true,[(.int .i64 0),(.string ByteArray.empty),(.string ByteArray.empty),(.int .i64 0),(.bool false),(.int .i64 0),(.bool false),(.int .i64 0),(.string ByteArray.empty),(.slice none 0 0),(.slice none 0 0),(.bool false),(.int .i64 0),(.bool false),(.int .i64 0),(.string ByteArray.empty),(.slice none 0 0),(.slice none 0 0),(.slice none 0 0)],264,(.struct [(0,(1,false)),(1,(1,false)),(2,(1,false)),(3,(1,false)),(4,(1,false)),(5,(6,true)),(11,(1,false)),(12,(6,true)),(18,(1,false))])⟩),
 (39,⟨1,false,[(.slice none 0 0)],24,(.slice 5)⟩),
 (42,⟨1,false,[(.slice none 0 0)],24,(.slice 48)⟩),
 (44,⟨2,true,[(.int .u64 0),(.slice none 0 0)],32,(.struct [(0,(1,false)),(1,(1,false))])⟩),
 (48,⟨20,true,[(.int .u64 0),(.int .i64 0),(.string ByteArray.empty),(.string ByteArray.empty),(.int .i64 0),(.bool false),(.int .i64 0),(.bool false),(.int .i64 0),(.string ByteArray.empty),(.slice none 0 0),(.slice none 0 0),(.bool false),(.int .i64 0),(.bool false),(.int .i64 0),(.string ByteArray.empty),(.slice none 0 0),(.slice none 0 0),(.slice none 0 0)],272,(.struct [(0,(1,false)),(1,(19,true))])⟩),
 (50,⟨1,false,[(.slice none 0 0)],24,(.slice 62)⟩),
 (52,⟨5,true,[(.int .u64 0),(.int .u64 0),(.int .u64 0),(.int .u64 0),(.slice none 0 0)],56,(.struct [(0,(1,false)),(1,(1,false)),(2,(1,false)),(3,(1,false)),(4,(1,false))])⟩),
 (53,⟨1,false,[(.slice none 0 0)],24,(.slice 70)⟩),
 (55,⟨6,true,[(.int .u64 0),(.int .u64 0),(.int .u64 0),(.int .u64 0),(.slice none 0 0),(.slice none 0 0)],80,(.struct [(0,(1,false)),(1,(1,false)),(2,(1,false)),(3,(1,false)),(4,(1,false)),(5,(1,false))])⟩),
 (59,⟨1,false,[(.int .i64 0)],8,(.int .i64)⟩),
 (62,⟨8,true,[(.int .i64 0),(.string ByteArray.empty),(.int .i64 0),(.bool false),(.int .i64 0),(.string ByteArray.empty),(.slice none 0 0),(.slice none 0 0)],112,(.struct [(0,(1,false)),(1,(1,false)),(2,(6,true))])⟩),
 (65,⟨1,false,[(.pointer none)],8,(.ptr 242)⟩),
 (67,⟨1,true,[(.pointer none)],8,(.struct [(0,(0,true)),(0,(1,false))])⟩),
 (70,⟨7,true,[(.string ByteArray.empty),(.int .i64 0),(.bool false),(.int .i64 0),(.string ByteArray.empty),(.slice none 0 0),(.slice none 0 0)],104,(.struct [(0,(1,false)),(1,(6,true))])⟩),
 (71,⟨1,false,[(.pointer none)],8,(.ptr 73)⟩),
 (73,⟨2,true,[(.int .u64 0),(.slice none 0 0)],32,(.struct [(0,(1,false)),(1,(1,false))])⟩),
 (75,⟨6,true,[(.int .u64 0),(.int .u64 0),(.int .u64 0),(.pointer none),(.pointer none),(.pointer none)],48,(.struct [(0,(1,false)),(1,(1,false)),(2,(1,false)),(3,(1,true)),(4,(1,true)),(5,(1,false))])⟩),
 (85,⟨1,false,[(.pointer none)],8,(.ptr 87)⟩),
 (87,⟨23,true,[(.int .i64 0),(.int .u64 0),(.slice none 0 0),(.int .u64 0),(.int .i64 0),(.string ByteArray.empty),(.string ByteArray.empty),(.int .i64 0),(.bool false),(.int .i64 0),(.bool false),(.int .i64 0),(.string ByteArray.empty),(.slice none 0 0),(.slice none 0 0),(.bool false),(.int .i64 0),(.bool false),(.int .i64 0),(.string ByteArray.empty),(.slice none 0 0),(.slice none 0 0),(.slice none 0 0)],312,(.struct [(0,(1,false)),(1,(2,true)),(3,(20,true))])⟩),
 (88,⟨1,false,[.nilFunc],8,.func⟩),
 (101,⟨1,false,[(.pointer none)],8,(.ptr 132)⟩),
 (112,⟨2,true,[(.string ByteArray.empty),.nilFunc],24,(.struct [(0,(1,false)),(1,(1,false))])⟩),
 (124,⟨1,true,[(.int .i64 0)],8,(.struct [(0,(1,false))])⟩)]
theorem AR:tiL0.map (fun p=>Ak prog p.1)=tiL0.map (fun p=>some p.2):=by kernel_rfl
theorem ti1:Ak prog 1=some ⟨1,false,[.nilFunc],8,.func⟩:=AP AR (k:=0) rfl
theorem ti2:Ak prog 2=some ⟨1,false,[(.int .i64 0)],8,(.int .i64)⟩:=AP AR (k:=1) rfl
theorem ti3:Ak prog 3=some ⟨1,false,[(.int .i64 0)],8,(.int .i64)⟩:=AP AR (k:=2) rfl
theorem ti4:Ak prog 4=some ⟨1,false,[(.bool false)],1,.bool⟩:=AP AR (k:=3) rfl
theorem ti5:Ak prog 5=some ⟨1,false,[(.int .u8 0)],1,(.int .u8)⟩:=AP AR (k:=4) rfl
theorem ti9:Ak prog 9=some ⟨1,false,[(.string ByteArray.empty)],16,.str⟩:=AP AR (k:=5) rfl
theorem ti20:Ak prog 20=some ⟨1,false,[.nilIface],16,.iface⟩:=AP AR (k:=6) rfl
theorem ti22:Ak prog 22=some ⟨1,false,[.nilFunc],8,.func⟩:=AP AR (k:=7) rfl
theorem ti23:Ak prog 23=some ⟨1,false,[(.pointer none)],8,(.ptr 75)⟩:=AP AR (k:=8) rfl
theorem ti24:Ak prog 24=some ⟨1,false,[(.int .i64 0)],8,(.int .i64)⟩:=AP AR (k:=9) rfl
theorem ti27:Ak prog 27=some ⟨1,false,[(.int .u64 0)],8,(.int .u64)⟩:=AP AR (k:=10) rfl
theorem ti30:Ak prog 30=some ⟨1,false,[(.int .i64 0)],8,(.int .i64)⟩:=AP AR (k:=11) rfl
theorem ti31:Ak prog 31=some ⟨1,false,[(.int .i64 0)],8,(.int .i64)⟩:=AP AR (k:=12) rfl
theorem ti32:Ak prog 32=some ⟨1,false,[(.slice none 0 0)],24,(.slice 35)⟩:=AP AR (k:=13) rfl
theorem ti33:Ak prog 33=some ⟨1,false,[(.slice none 0 0)],24,(.slice 146)⟩:=AP AR (k:=14) rfl
theorem ti35:Ak prog 35=some ⟨6,true,[(.int .i64 0),(.bool false),(.int .i64 0),(.string ByteArray.empty),(.slice none 0 0),(.slice none 0 0)],88,(.struct [(0,(1,false)),(1,(1,false)),(2,(1,false)),(3,(1,false)),(4,(1,false)),(5,(1,false))])⟩:=AP AR (k:=15) rfl
theorem ti36:Ak prog 36=some ⟨1,false,[(.slice none 0 0)],24,(.slice 38)⟩:=AP AR (k:=16) rfl
theorem ti38:Ak prog 38=some ⟨19,true,[(.int .i64 0),(.string ByteArray.empty),(.string ByteArray.empty),(.int .i64 0),(.bool false),(.int .i64 0),(.bool false),(.int .i64 0),(.string ByteArray.empty),(.slice none 0 0),(.slice none 0 0),(.bool false),(.int .i64 0),(.bool false),(.int .i64 0),(.string ByteArray.empty),(.slice none 0 0),(.slice none 0 0),(.slice none 0 0)],264,(.struct [(0,(1,false)),(1,(1,false)),(2,(1,false)),(3,(1,false)),(4,(1,false)),(5,(6,true)),(11,(1,false)),(12,(6,true)),(18,(1,false))])⟩:=AP AR (k:=17) rfl
theorem ti39:Ak prog 39=some ⟨1,false,[(.slice none 0 0)],24,(.slice 5)⟩:=AP AR (k:=18) rfl
theorem ti42:Ak prog 42=some ⟨1,false,[(.slice none 0 0)],24,(.slice 48)⟩:=AP AR (k:=19) rfl
theorem ti44:Ak prog 44=some ⟨2,true,[(.int .u64 0),(.slice none 0 0)],32,(.struct [(0,(1,false)),(1,(1,false))])⟩:=AP AR (k:=20) rfl
theorem ti48:Ak prog 48=some ⟨20,true,[(.int .u64 0),(.int .i64 0),(.string ByteArray.empty),(.string ByteArray.empty),(.int .i64 0),(.bool false),(.int .i64 0),(.bool false),(.int .i64 0),(.string ByteArray.empty),(.slice none 0 0),(.slice none 0 0),(.bool false),(.int .i64 0),(.bool false),(.int .i64 0),(.string ByteArray.empty),(.slice none 0 0),(.slice none 0 0),(.slice none 0 0)],272,(.struct [(0,(1,false)),(1,(19,true))])⟩:=AP AR (k:=21) rfl
theorem ti50:Ak prog 50=some ⟨1,false,[(.slice none 0 0)],24,(.slice 62)⟩:=AP AR (k:=22) rfl
theorem ti52:Ak prog 52=some ⟨5,true,[(.int .u64 0),(.int .u64 0),(.int .u64 0),(.int .u64 0),(.slice none 0 0)],56,(.struct [(0,(1,false)),(1,(1,false)),(2,(1,false)),(3,(1,false)),(4,(1,false))])⟩:=AP AR (k:=23) rfl
theorem ti53:Ak prog 53=some ⟨1,false,[(.slice none 0 0)],24,(.slice 70)⟩:=AP AR (k:=24) rfl
theorem ti55:Ak prog 55=some ⟨6,true,[(.int .u64 0),(.int .u64 0),(.int .u64 0),(.int .u64 0),(.slice none 0 0),(.slice none 0 0)],80,(.struct [(0,(1,false)),(1,(1,false)),(2,(1,false)),(3,(1,false)),(4,(1,false)),(5,(1,false))])⟩:=AP AR (k:=25) rfl
theorem ti59:Ak prog 59=some ⟨1,false,[(.int .i64 0)],8,(.int .i64)⟩:=AP AR (k:=26) rfl
theorem ti62:Ak prog 62=some ⟨8,true,[(.int .i64 0),(.string ByteArray.empty),(.int .i64 0),(.bool false),(.int .i64 0),(.string ByteArray.empty),(.slice none 0 0),(.slice none 0 0)],112,(.struct [(0,(1,false)),(1,(1,false)),(2,(6,true))])⟩:=AP AR (k:=27) rfl
theorem ti65:Ak prog 65=some ⟨1,false,[(.pointer none)],8,(.ptr 242)⟩:=AP AR (k:=28) rfl
theorem ti67:Ak prog 67=some ⟨1,true,[(.pointer none)],8,(.struct [(0,(0,true)),(0,(1,false))])⟩:=AP AR (k:=29) rfl
theorem ti70:Ak prog 70=some ⟨7,true,[(.string ByteArray.empty),(.int .i64 0),(.bool false),(.int .i64 0),(.string ByteArray.empty),(.slice none 0 0),(.slice none 0 0)],104,(.struct [(0,(1,false)),(1,(6,true))])⟩:=AP AR (k:=30) rfl
theorem ti71:Ak prog 71=some ⟨1,false,[(.pointer none)],8,(.ptr 73)⟩:=AP AR (k:=31) rfl
theorem ti73:Ak prog 73=some ⟨2,true,[(.int .u64 0),(.slice none 0 0)],32,(.struct [(0,(1,false)),(1,(1,false))])⟩:=AP AR (k:=32) rfl
theorem ti75:Ak prog 75=some ⟨6,true,[(.int .u64 0),(.int .u64 0),(.int .u64 0),(.pointer none),(.pointer none),(.pointer none)],48,(.struct [(0,(1,false)),(1,(1,false)),(2,(1,false)),(3,(1,true)),(4,(1,true)),(5,(1,false))])⟩:=AP AR (k:=33) rfl
theorem ti85:Ak prog 85=some ⟨1,false,[(.pointer none)],8,(.ptr 87)⟩:=AP AR (k:=34) rfl
theorem ti87:Ak prog 87=some ⟨23,true,[(.int .i64 0),(.int .u64 0),(.slice none 0 0),(.int .u64 0),(.int .i64 0),(.string ByteArray.empty),(.string ByteArray.empty),(.int .i64 0),(.bool false),(.int .i64 0),(.bool false),(.int .i64 0),(.string ByteArray.empty),(.slice none 0 0),(.slice none 0 0),(.bool false),(.int .i64 0),(.bool false),(.int .i64 0),(.string ByteArray.empty),(.slice none 0 0),(.slice none 0 0),(.slice none 0 0)],312,(.struct [(0,(1,false)),(1,(2,true)),(3,(20,true))])⟩:=AP AR (k:=35) rfl
theorem ti88:Ak prog 88=some ⟨1,false,[.nilFunc],8,.func⟩:=AP AR (k:=36) rfl
theorem ti101:Ak prog 101=some ⟨1,false,[(.pointer none)],8,(.ptr 132)⟩:=AP AR (k:=37) rfl
theorem ti112:Ak prog 112=some ⟨2,true,[(.string ByteArray.empty),.nilFunc],24,(.struct [(0,(1,false)),(1,(1,false))])⟩:=AP AR (k:=38) rfl
theorem ti124:Ak prog 124=some ⟨1,true,[(.int .i64 0)],8,(.struct [(0,(1,false))])⟩:=AP AR (k:=39) rfl
def tiL1:List (Nat×TI):=[
 (129,⟨1,false,[(.map none)],8,(.map 9 139)⟩),
 (130,⟨1,false,[(.slice none 0 0)],24,(.slice 1)⟩),
 (132,⟨3,true,[(.pointer none),(.map none),(.slice none 0 0)],40,(.struct [(0,(1,true)),(1,(1,false)),(2,(1,false))])⟩),
 (133,⟨1,false,[(.slice none 0 0)],24,(.slice 9)⟩),
 (139,⟨7,true,[(.bool false),(.int .i64 0),(.bool false),(.int .i64 0),(.string ByteArray.empty),(.slice none 0 0),(.slice none 0 0)],96,(.struct [(0,(1,false)),(1,(6,true))])⟩),
 (146,⟨7,true,[(.string ByteArray.empty),(.int .i64 0),(.bool false),(.int .i64 0),(.string ByteArray.empty),(.slice none 0 0),(.slice none 0 0)],104,(.struct [(0,(1,false)),(1,(6,true))])⟩),
 (147,⟨1,false,[(.pointer none)],8,(.ptr 149)⟩),
 (149,⟨2,true,[(.pointer none),(.slice none 0 0)],32,(.struct [(0,(1,false)),(1,(1,false))])⟩),
 (151,⟨4,true,[(.bool false),(.pointer none),(.slice none 0 0),(.int .i64 0)],48,(.struct [(0,(1,false)),(1,(2,true)),(3,(1,false))])⟩),
 (154,⟨1,false,[(.pointer none)],8,(.ptr 151)⟩),
 (156,⟨1,false,[(.int .u8 0)],1,(.int .u8)⟩),
 (157,⟨1,false,[(.slice none 0 0)],24,(.slice 5)⟩),
 (159,⟨2,true,[(.int .u8 0),(.slice none 0 0)],32,(.struct [(0,(1,false)),(1,(1,false))])⟩),
 (160,⟨1,false,[.nilFunc],8,.func⟩),
 (162,⟨1,false,[(.slice none 0 0)],24,(.slice 160)⟩),
 (170,⟨1,false,[(.slice none 0 0)],24,(.slice 112)⟩),
 (184,⟨1,false,[(.slice none 0 0)],24,(.slice 65)⟩),
 (201,⟨1,false,[(.map none)],8,(.map 9 277)⟩),
 (205,⟨1,false,[.nilFunc],8,.func⟩),
 (217,⟨1,false,[(.int .u32 0)],4,(.int .u32)⟩),
 (224,⟨1,false,[.nilFunc],8,.func⟩),
 (225,⟨1,false,[(.map none)],8,(.map 5 224)⟩),
 (227,⟨3,true,[(.string ByteArray.empty),(.int .i64 0),(.map none)],32,(.struct [(0,(1,false)),(1,(1,false)),(2,(1,false))])⟩),
 (231,⟨1,false,[(.slice none 0 0)],24,(.slice 234)⟩),
 (234,⟨2,true,[(.int .i64 0),.nilFunc],16,(.struct [(0,(1,false)),(1,(1,false))])⟩),
 (242,⟨7,true,[(.slice none 0 0),(.slice none 0 0),(.int .i64 0),(.int .i64 0),(.string ByteArray.empty),(.string ByteArray.empty),(.bool false)],104,(.struct [(0,(1,false)),(1,(1,false)),(2,(1,false)),(3,(1,false)),(4,(1,false)),(5,(1,false)),(6,(1,false))])⟩),
 (258,⟨1,false,[(.int .u64 0)],8,(.int .u64)⟩),
 (268,⟨8,true,[(.string ByteArray.empty),(.string ByteArray.empty),(.string ByteArray.empty),(.string ByteArray.empty),(.string ByteArray.empty),(.string ByteArray.empty),(.string ByteArray.empty),(.string ByteArray.empty)],128,(.arr 8 9)⟩),
 (271,⟨1,false,[(.slice none 0 0)],24,(.slice 279)⟩),
 (273,⟨1,false,[(.slice none 0 0)],24,(.slice 284)⟩),
 (274,⟨1,false,[.nilFunc],8,.func⟩),
 (277,⟨4,true,[(.int .i64 0),(.slice none 0 0),.nilFunc,.nilFunc],48,(.struct [(0,(1,false)),(1,(1,false)),(2,(1,false)),(3,(1,false))])⟩),
 (279,⟨7,true,[(.string ByteArray.empty),(.int .i64 0),(.bool false),(.int .i64 0),(.string ByteArray.empty),(.slice none 0 0),(.slice none 0 0)],104,(.struct [(0,(1,false)),(1,(6,true))])⟩),
 (282,⟨1,false,[(.int .i64 0)],8,(.int .i64)⟩),
 (284,⟨2,true,[(.string ByteArray.empty),(.int .i64 0)],24,(.struct [(0,(1,false)),(1,(1,false))])⟩),
 (291,⟨1,false,[(.pointer none)],8,.other⟩),
 (294,⟨3,true,[(.pointer none),(.pointer none),(.int .u64 0)],24,(.struct [(0,(1,false)),(1,(1,false)),(2,(1,false))])⟩),
 (296,⟨1,false,[.nilFunc],8,.func⟩),
 (300,⟨2,true,[.nilFunc,.nilFunc],16,(.struct [(0,(1,false)),(1,(1,false))])⟩),
 (302,⟨1,false,[.nilIface],16,.iface⟩)]
theorem AQ:tiL1.map (fun p=>Ak prog p.1)=tiL1.map (fun p=>some p.2):=by kernel_rfl
theorem ti129:Ak prog 129=some ⟨1,false,[(.map none)],8,(.map 9 139)⟩:=AP AQ (k:=0) rfl
theorem ti130:Ak prog 130=some ⟨1,false,[(.slice none 0 0)],24,(.slice 1)⟩:=AP AQ (k:=1) rfl
theorem ti132:Ak prog 132=some ⟨3,true,[(.pointer none),(.map none),(.slice none 0 0)],40,(.struct [(0,(1,true)),(1,(1,false)),(2,(1,false))])⟩:=AP AQ (k:=2) rfl
theorem ti133:Ak prog 133=some ⟨1,false,[(.slice none 0 0)],24,(.slice 9)⟩:=AP AQ (k:=3) rfl
theorem ti139:Ak prog 139=some ⟨7,true,[(.bool false),(.int .i64 0),(.bool false),(.int .i64 0),(.string ByteArray.empty),(.slice none 0 0),(.slice none 0 0)],96,(.struct [(0,(1,false)),(1,(6,true))])⟩:=AP AQ (k:=4) rfl
theorem ti146:Ak prog 146=some ⟨7,true,[(.string ByteArray.empty),(.int .i64 0),(.bool false),(.int .i64 0),(.string ByteArray.empty),(.slice none 0 0),(.slice none 0 0)],104,(.struct [(0,(1,false)),(1,(6,true))])⟩:=AP AQ (k:=5) rfl
theorem ti147:Ak prog 147=some ⟨1,false,[(.pointer none)],8,(.ptr 149)⟩:=AP AQ (k:=6) rfl
theorem ti149:Ak prog 149=some ⟨2,true,[(.pointer none),(.slice none 0 0)],32,(.struct [(0,(1,false)),(1,(1,false))])⟩:=AP AQ (k:=7) rfl
theorem Yb:Ak prog 151=some ⟨4,true,[(.bool false),(.pointer none),(.slice none 0 0),(.int .i64 0)],48,(.struct [(0,(1,false)),(1,(2,true)),(3,(1,false))])⟩:=AP AQ (k:=8) rfl
theorem ti154:Ak prog 154=some ⟨1,false,[(.pointer none)],8,(.ptr 151)⟩:=AP AQ (k:=9) rfl
theorem ti156:Ak prog 156=some ⟨1,false,[(.int .u8 0)],1,(.int .u8)⟩:=AP AQ (k:=10) rfl
theorem ti157:Ak prog 157=some ⟨1,false,[(.slice none 0 0)],24,(.slice 5)⟩:=AP AQ (k:=11) rfl
theorem ti159:Ak prog 159=some ⟨2,true,[(.int .u8 0),(.slice none 0 0)],32,(.struct [(0,(1,false)),(1,(1,false))])⟩:=AP AQ (k:=12) rfl
theorem ti160:Ak prog 160=some ⟨1,false,[.nilFunc],8,.func⟩:=AP AQ (k:=13) rfl
theorem ti162:Ak prog 162=some ⟨1,false,[(.slice none 0 0)],24,(.slice 160)⟩:=AP AQ (k:=14) rfl
theorem ti170:Ak prog 170=some ⟨1,false,[(.slice none 0 0)],24,(.slice 112)⟩:=AP AQ (k:=15) rfl
theorem ti184:Ak prog 184=some ⟨1,false,[(.slice none 0 0)],24,(.slice 65)⟩:=AP AQ (k:=16) rfl
theorem ti201:Ak prog 201=some ⟨1,false,[(.map none)],8,(.map 9 277)⟩:=AP AQ (k:=17) rfl
theorem ti205:Ak prog 205=some ⟨1,false,[.nilFunc],8,.func⟩:=AP AQ (k:=18) rfl
theorem ti217:Ak prog 217=some ⟨1,false,[(.int .u32 0)],4,(.int .u32)⟩:=AP AQ (k:=19) rfl
theorem ti224:Ak prog 224=some ⟨1,false,[.nilFunc],8,.func⟩:=AP AQ (k:=20) rfl
theorem ti225:Ak prog 225=some ⟨1,false,[(.map none)],8,(.map 5 224)⟩:=AP AQ (k:=21) rfl
theorem ti227:Ak prog 227=some ⟨3,true,[(.string ByteArray.empty),(.int .i64 0),(.map none)],32,(.struct [(0,(1,false)),(1,(1,false)),(2,(1,false))])⟩:=AP AQ (k:=22) rfl
theorem ti231:Ak prog 231=some ⟨1,false,[(.slice none 0 0)],24,(.slice 234)⟩:=AP AQ (k:=23) rfl
theorem ti234:Ak prog 234=some ⟨2,true,[(.int .i64 0),.nilFunc],16,(.struct [(0,(1,false)),(1,(1,false))])⟩:=AP AQ (k:=24) rfl
theorem ti242:Ak prog 242=some ⟨7,true,[(.slice none 0 0),(.slice none 0 0),(.int .i64 0),(.int .i64 0),(.string ByteArray.empty),(.string ByteArray.empty),(.bool false)],104,(.struct [(0,(1,false)),(1,(1,false)),(2,(1,false)),(3,(1,false)),(4,(1,false)),(5,(1,false)),(6,(1,false))])⟩:=AP AQ (k:=25) rfl
theorem ti258:Ak prog 258=some ⟨1,false,[(.int .u64 0)],8,(.int .u64)⟩:=AP AQ (k:=26) rfl
theorem ti268:Ak prog 268=some ⟨8,true,[(.string ByteArray.empty),(.string ByteArray.empty),(.string ByteArray.empty),(.string ByteArray.empty),(.string ByteArray.empty),(.string ByteArray.empty),(.string ByteArray.empty),(.string ByteArray.empty)],128,(.arr 8 9)⟩:=AP AQ (k:=27) rfl
theorem ti271:Ak prog 271=some ⟨1,false,[(.slice none 0 0)],24,(.slice 279)⟩:=AP AQ (k:=28) rfl
theorem ti273:Ak prog 273=some ⟨1,false,[(.slice none 0 0)],24,(.slice 284)⟩:=AP AQ (k:=29) rfl
theorem ti274:Ak prog 274=some ⟨1,false,[.nilFunc],8,.func⟩:=AP AQ (k:=30) rfl
theorem ti277:Ak prog 277=some ⟨4,true,[(.int .i64 0),(.slice none 0 0),.nilFunc,.nilFunc],48,(.struct [(0,(1,false)),(1,(1,false)),(2,(1,false)),(3,(1,false))])⟩:=AP AQ (k:=31) rfl
theorem ti279:Ak prog 279=some ⟨7,true,[(.string ByteArray.empty),(.int .i64 0),(.bool false),(.int .i64 0),(.string ByteArray.empty),(.slice none 0 0),(.slice none 0 0)],104,(.struct [(0,(1,false)),(1,(6,true))])⟩:=AP AQ (k:=32) rfl
theorem ti282:Ak prog 282=some ⟨1,false,[(.int .i64 0)],8,(.int .i64)⟩:=AP AQ (k:=33) rfl
theorem ti284:Ak prog 284=some ⟨2,true,[(.string ByteArray.empty),(.int .i64 0)],24,(.struct [(0,(1,false)),(1,(1,false))])⟩:=AP AQ (k:=34) rfl
theorem ti291:Ak prog 291=some ⟨1,false,[(.pointer none)],8,.other⟩:=AP AQ (k:=35) rfl
theorem ti294:Ak prog 294=some ⟨3,true,[(.pointer none),(.pointer none),(.int .u64 0)],24,(.struct [(0,(1,false)),(1,(1,false)),(2,(1,false))])⟩:=AP AQ (k:=36) rfl
theorem ti296:Ak prog 296=some ⟨1,false,[.nilFunc],8,.func⟩:=AP AQ (k:=37) rfl
theorem ti300:Ak prog 300=some ⟨2,true,[.nilFunc,.nilFunc],16,(.struct [(0,(1,false)),(1,(1,false))])⟩:=AP AQ (k:=38) rfl
theorem ti302:Ak prog 302=some ⟨1,false,[.nilIface],16,.iface⟩:=AP AQ (k:=39) rfl
def tiL2:List (Nat×TI):=[
 (363,⟨16,true,[(.int .u32 0),(.int .u32 0),(.int .u32 0),(.int .u32 0),(.int .u32 0),(.int .u32 0),(.int .u32 0),(.int .u32 0),(.int .u32 0),(.int .u32 0),(.int .u32 0),(.int .u32 0),(.int .u32 0),(.int .u32 0),(.int .u32 0),(.int .u32 0)],64,(.arr 16 217)⟩),
 (370,⟨1,false,[(.map none)],8,(.map 9 406)⟩),
 (406,⟨0,true,[],0,(.struct [])⟩)]
theorem Tf:tiL2.map (fun p=>Ak prog p.1)=tiL2.map (fun p=>some p.2):=by kernel_rfl
theorem ti363:Ak prog 363=some ⟨16,true,[(.int .u32 0),(.int .u32 0),(.int .u32 0),(.int .u32 0),(.int .u32 0),(.int .u32 0),(.int .u32 0),(.int .u32 0),(.int .u32 0),(.int .u32 0),(.int .u32 0),(.int .u32 0),(.int .u32 0),(.int .u32 0),(.int .u32 0),(.int .u32 0)],64,(.arr 16 217)⟩:=AP Tf (k:=0) rfl
theorem ti370:Ak prog 370=some ⟨1,false,[(.map none)],8,(.map 9 406)⟩:=AP Tf (k:=1) rfl
theorem ti406:Ak prog 406=some ⟨0,true,[],0,(.struct [])⟩:=AP Tf (k:=2) rfl
attribute [push_cast] ti1 ti2 ti3 ti4 ti5 ti9 ti20 ti22 ti23 ti24 ti27 ti30 ti31 ti32 ti33 ti35 ti36 ti38 ti39 ti42 ti44 ti48 ti50 ti52 ti53 ti55 ti59 ti62 ti65 ti67 ti70 ti71 ti73 ti75 ti85 ti87 ti88 ti101 ti112 ti124 ti129 ti130 ti132 ti133 ti139 ti146 ti147 ti149 Yb ti154 ti156 ti157 ti159 ti160 ti162 ti170 ti184 ti201 ti205 ti217 ti224 ti225 ti227 ti231 ti234 ti242 ti258 ti268 ti271 ti273 ti274 ti277 ti279 ti282 ti284 ti291 ti294 ti296 ti300 ti302 ti363 ti370 ti406
theorem mixed:prog.follows .mixedOrders=true:=by kernel_rfl
attribute [push_cast] GoS_nil GoS_none GoS_some Xa Xb X8 X9 U8 S6 gD TH YL A01 Vs tq HY arrQ arrE pv pvc QE boxE Qy Kx Lm HG HV J5 nilE binX V5 V6 Z7 TW mapE Vb T7 delE PO Qi zD Nt Fb keq DE Sd binE Z8 Kn JZ unE Vr Ml G7 G5 Qc K1 Lx bnd H4 V9 lenE minE maxE JU Lo Ln JV Vq Qn capE PH RI KL EP Gb evO QQ Ul Sk Ad upd del E2 St.app gOf AT frz J9 K5 UM D.pure Ag A6 Be Ym Jk Value.oneCell'
theorem lo_self(d:D):lo d d=True:=eq_true (Am d)
theorem JC(d:List D):loL d d=True:=eq_true (AJ d)
theorem WR(d:List (List D)):DR d d=True:=eq_true (Bh d)
theorem ZM(x:Blk):loB x x=True:=eq_true (A8 x)
theorem E9(es es':List (List D))(t t':Bool):lo (.slice es t) (.slice es' t')=(DR es es'/\(t'=true->t=true)):=by simp only[lo]
theorem Kj(cs cs':List D):lo (.agg cs) (.agg cs')=loL cs cs':=by simp only[lo]
theorem ZI(cs cs':List D):lo (.tup cs) (.tup cs')=loL cs cs':=by simp only[lo]
theorem lo_ptr(cs cs':List D)(o o':Nat):lo (.ptr cs o) (.ptr cs' o')=(o=o'/\loL cs cs'):=by simp only[lo]
theorem lo_func(f f':Fn)(fs cs fs' cs':List D):lo (.func f fs cs) (.func f' fs' cs')=(f=f'/\loL fs fs'/\loL cs cs'):=by simp only[lo]
theorem lo_any(d:D):lo d .any=True:=by cases d<;>simp [lo]
theorem lo_val(v v':Value):lo (.val v) (.val v')=(v=v'):=by simp[lo]
attribute [push_cast] lo_func E9 Kj ZI lo_ptr lo_any lo_val Value.int.injEq Value.bool.injEq Value.string.injEq or_true true_or
theorem ZN(es es':List (List D))(sz sz':Nat):loB (.rows es sz) (.rows es' sz')=(DR es es'/\sz=sz'):=rfl
theorem ZP(es es':List (List D))(sz sz':Nat):loB (.grow es sz) (.grow es' sz')=(DR es es'/\sz=sz'):=rfl
theorem loB_map(es es':List (Value×Nat×D))(c c':Nat):loB (.map es c) (.map es' c')=(Blk.map es c=.map es' c'):=rfl
theorem ZO(m a:Nat)(b:List Nat)(c m' a':Nat)(b':List Nat)(c':Nat):loB (.iter m a b c) (.iter m' a' b' c')=(Blk.iter m a b c=.iter m' a' b' c'):=rfl
theorem loB_obj(o o':Obj):loB (.obj o) (.obj o')=(Blk.obj o=.obj o'):=rfl
theorem loB_pr(g g':Nat)(p p':Value->Value->Option Obj->Prop):loB (.pr g p) (.pr g' p')=(Blk.pr g p=.pr g' p'):=rfl
attribute [push_cast] loB_pr ZN ZP loB_map ZO loB_obj ZM loL DR lo_self JC WR
theorem nd_zero(d:D)(r:List D):nd (d::r) 0=d:=rfl
theorem nd_succ(d:D)(r:List D)(i:Nat):nd (d::r) (i+1)=nd r i:=rfl
theorem nr_zero(d:List D)(r:List (List D)):nr (d::r) 0=d:=rfl
theorem nr_succ(d:List D)(r:List (List D))(i:Nat):nr (d::r) (i+1)=nr r i:=rfl
theorem ofV_int(k:IntKind)(n:Int):ofV (.int k n)=bif decide (D2 k<=n)&&decide (n<=D3 k) then .val (.int k n) else .any:=rfl
theorem Z4(b:Bool):ofV (.bool b)=.val (.bool b):=rfl
theorem TS(a:Array UInt8):ofV (.string ⟨a⟩)=bif decide (a.size<=9223372036854775807) then .val (.string ⟨a⟩) else .any:=rfl
attribute [push_cast] D2 D3
theorem WG:ofV (.string ByteArray.empty)=.val (.string ByteArray.empty):=rfl
theorem YZ(k:IntKind)(n:Int):AN (.val (.int k n))=true:=rfl
theorem WF(b:Bool):AN (.val (.bool b))=true:=rfl
theorem RN(b:ByteArray):AN (.val (.string b))=true:=rfl
theorem PZ(p:Option Addr):AN (.val (.pointer p))=true:=rfl
theorem YY(p:Option Nat):AN (.val (.map p))=true:=rfl
theorem Q0:AN (.val .nilFunc)=true:=rfl
theorem N3:AN (.val .nilIface)=true:=rfl
theorem TQ(es:List (List D))(t:Bool):AN (.slice es t)=true:=rfl
theorem YW(cs:List D)(o:Nat):AN (.ptr cs o)=true:=rfl
theorem YV(b i o s:Nat):AN (.ref b i o s)=true:=rfl
theorem WA(b i l c s:Nat):AN (.sref b i l c s)=true:=rfl
theorem WD(b l:Nat):AN (.gref b l)=true:=rfl
theorem WB(b:Nat):AN (.mref b)=true:=rfl
theorem WE(f:Fn)(fs cs:List D):AN (.func f fs cs)=true:=rfl
theorem TR(t:TypeId)(d:D):AN (.iface t d)=true:=rfl
theorem Z1(b i o s:Nat):AN (.gel b i o s)=true:=rfl
theorem WC(b i o s:Nat):AN (.gsub b i o s)=true:=rfl
theorem Z3(cs:List D):AN (.agg cs)=false:=rfl
theorem YU(cs:List D):AN (.tup cs)=false:=rfl
theorem Z2:AN .any=false:=rfl
attribute [push_cast] WG Z1 WC YZ WF RN PZ YY Q0 N3 TQ YW YV WA WD WB WE TR Z3 YU Z2
theorem Q1:ofV (.slice none 0 0)=.slice [] true:=rfl
theorem RO(p:Option Addr):ofV (.pointer p)=.val (.pointer p):=rfl
theorem ofV_map(p:Option Nat):ofV (.map p)=.val (.map p):=rfl
theorem RP:ofV .nilFunc=.val .nilFunc:=rfl
theorem Q2:ofV .nilIface=.val .nilIface:=rfl
theorem W4{α:Type}(xs ys:List α):Au xs 0 ys=ys++xs.drop ys.length:=by simp[Au]
theorem W8{α:Type}(x:α)(xs ys:List α)(n:Nat):Au (x::xs) (n+1) ys=x::Au xs n ys:=by
 simp[Au,Nat.add_right_comm]
attribute [push_cast] nd_zero nd_succ nr_zero nr_succ ofV_int Z4 TS Q1 RO ofV_map RP Q2 W4 W8
attribute [push_cast] cond_true cond_false A0h A0G A0g A0t A0U A0V List.getElem?_nil List.drop_zero List.drop_succ_cons List.drop_nil A1A A1j List.take_nil A0c A0m A0H List.set_cons_zero List.set_cons_succ A1L List.replicate_zero List.all_cons List.all_nil A1N Bool.true_and A0M A07 and_true true_and and_self ite_true ite_false if_true if_false eq_self A1i A1O A0r A0Z A15 Option.map_none A1w Option.bind_none A03 A0C A1b A0y Option.isNone_none Option.isNone_some Bool.not_true Bool.not_false List.mapM_cons List.mapM_nil Option.pure_def Option.bind_eq_bind decide_true decide_false exists_eq_left exists_eq_left' not_true_eq_false not_false_eq_true forall_const
attribute [push_cast] List.any_cons List.any_nil ne_eq id_eq Bool.or_true A1V Bool.true_or Bool.false_or Bool.and_false Bool.false_and beq_self_eq_true bne_self_eq_false Int.toNat_natCast A1c A11 Nat.sub_zero iff_self
def Gv{α:Type}(x:α):α:=x
theorem tick_eq{α:Type}(x:α):Gv x=x:=congrArg (fun y=>y) rfl
attribute [push_cast] tick_eq
@[congr] theorem GoS_congr{P:Program}{ops:Array Oper}{nx:Nat}{l:List Oper}{pos:Nat}{acc:List Eff}{s s':St}{K:List Eff->St->Prop}(h:Gv s=s'):GoS P ops nx l pos acc s K=GoS P ops nx l pos acc s' K:=by rw[<-h];rfl
@[congr] theorem RunXS_congr{P:Program}{ops:Array Oper}{nx:Nat}{l:List Oper}{pos:Nat}{acc:List Eff}{s s':St}{K:List Eff->St->Prop}(h:Gv s=s'):A1 P ops nx l pos acc s K=A1 P ops nx l pos acc s' K
:=by rw[<-h];rfl
@[congr] theorem goOn_congr{r r':Option (Eff×Prop)}{go:Eff->Prop}{stuck:Prop}(h:Gv r=r'):Qf r go stuck=Qf r' go stuck:=by rw[<-h];rfl
@[congr] theorem gpick_congr{b b':Bool}{go skip:St->Prop}{s:St}(h:Gv b=b'):HW b go skip s=HW b' go skip s:=by rw[<-h];rfl
@[congr] theorem gwork_congr{x x':Option (Nat×D)}{want:Bool}{s:St}{go skip:St->Prop}{stuck:Prop}(h:Gv x=x'):JG x want s go skip stuck=JG x' want s go skip stuck:=by rw[<-h];rfl
@[congr] theorem dpick_congr{b b':Bool}{d:D}{r:Env}{t:Nat}(h:Gv b=b'):Mw b d r t=Mw b' d r t:=by rw[<-h];rfl
@[congr] theorem gsplit_congr{ops:Array Oper}{g:Option (Nat×Bool)}{s s':St}{go skip:St->Prop}{stuck:Prop}(h:Gv s=s'):Fj ops g s go skip stuck=Fj ops g s' go skip stuck:=by rw[<-h];rfl
@[congr] theorem bsplit_congr{b b':Bool}{x y:Prop}(h:Gv b=b'):Ed b x y=Ed b' x y:=by rw[<-h];rfl
theorem SV(x y:Prop):Ed true x y=x:=by simp[Ed]
theorem Qz(x y:Prop):Ed false x y=y:=by simp[Ed]
theorem Af{b:Bool}{x y:Prop}(h:b=true->x)(k:b=false->y):Ed b x y:=⟨h,k⟩
attribute [push_cast] SV Qz
@[congr] theorem AWp_congr{P:Program}{nt:Nat}{c:Code}{Q:AE->St->Prop}{s s':St}(h:Gv s=s'):AWp P nt c Q s=AWp P nt c Q s':=by rw[<-h];rfl
end Go.Ab
namespace Go.Ab
open Go.RowKit
theorem Fz{f:D->D}(h:∀ d,d.pure=true->f d=d):∀ {l:List D},Ag l=true->l.map f=l
 |[],_=>rfl
 |d::l,hp=>by
  simp only[Ag,A07] at hp
  simp only[A0h,h d hp.1,Fz h hp.2]
theorem Ea(hp:Nat->Option Blk):∀ (n:Nat) (d:D),d.pure=true->frz hp n d=d
 |0,d,_=>by cases d<;>rfl
 |n+1,d,h=>by
  cases d<;>simp only[frz]
  case agg cs=>rw [Fz (Ea hp n) (by simpa[D.pure] using h)]
  case tup cs=>rw [Fz (Ea hp n) (by simpa[D.pure] using h)]
  case iface t d=>rw [Ea hp n d (by simpa[D.pure] using h)]
  case func fn fs cs=>
   simp only[D.pure,A07] at h
   rw[Fz (Ea hp n) h.1,Fz (Ea hp n) h.2]
  case ref b i o s=>simp [D.pure] at h
  case sref b i l c s=>simp [D.pure] at h
  case gref b l=>simp [D.pure] at h
  case gsub b i l s=>simp [D.pure] at h
theorem Jv(hp:Nat->Option Blk)(n:Nat){l:List D}(h:Ag l=true):l.map (frz hp n)=l:=Fz (Ea hp n) h
def Js(b:Nat)(x:Blk)(c:Nat):Option Blk:=bif c==b then some x else none
def fzD(b:Nat)(x:Blk)(d:D):D:=frz (Js b x) 4 d
def fzE(b:Nat)(x:Blk):Env->Env
 |[]=>[]
 |(t,d)::r=>(t,fzD b x d)::fzE b x r
def Jw(F:D->D):Blk->Blk
 |.rows es sz=>.rows (es.map fun r=>r.map F) sz
 |.grow es sz=>.grow (es.map fun r=>r.map F) sz
 |.loop env nt st pd ps a c=>.loop (FG F env) nt st pd ps a c
 |.map es ck=>.map (es.map fun p=>(p.1,p.2.1,F p.2.2)) ck
 |x=>x
def fzH(b:Nat)(x:Blk):Hp->Hp
 |[]=>[]
 |(c,y)::r=>(c,Jw (fzD b x) y)::fzH b x r
theorem GY(hp:Nat->Option Blk)(n:Nat):∀ {l:List (List D)},A6 l=true->l.map (fun r=>r.map (frz hp n))=l
 |[],_=>rfl
 |r::l,h=>by
  simp only[A6,A07] at h
  rw[A0h,Jv hp n h.1,GY hp n h.2]
def fzS(b:Nat)(s:St):St:=
 match Ad s.hp b with
 |some (.rows es sz)=>⟨fzE b (.rows es sz) s.env,fzH b (.rows es sz) (del s.hp b),s.nx⟩
 |some (.grow es sz)=>bif A6 es then⟨fzE b (.grow es sz) s.env,fzH b (.grow es sz) (del s.hp b),s.nx⟩ else s
 |_=>s
def fzL:List Nat->St->St
 |[],s=>s
 |b::r,s=>fzL r (fzS b s)
theorem Vm(b:Nat)(x:Blk):∀ (e:Env) (t:Nat),(fzE b x e).get t=fzD b x (e.get t)
 |[],t=>rfl
 |(k,d)::r,t=>by
  simp only[fzE,Env.get]
  cases k==t with
  |true=>rfl
  |false=>exact Vm b x r t
theorem S8(b:Nat)(x:Blk):∀ (h:Hp) (c:Nat) (y:Blk),Ad (fzH b x h) c=some y->∃ z,Ad h c=some z/\y=Jw (fzD b x) z
 |[],c,y,h=>by cases h
 |(k,z)::r,c,y,h=>by
  simp only[fzH,Ad] at h|-
  cases hk:k==c with
  |true=>
   simp only[hk,cond_true,A03] at h
   exact⟨z,by simp,h.symm⟩
  |false=>simp only[hk,cond_false] at h|-;exact S8 b x r c y h
theorem F9{es:List (List D)}{F:D->D}{i:Nat}(hi:i<es.length):nr (es.map fun r=>r.map F) i=(nr es i).map F:=by simp[nr,A02,hi]
theorem D7.mapB{w:World}{I J:Nat->Prop}{mu:Nat->Option Value}{F:D->D}(hF:∀ d v,Rep w I mu d v->Rep w J mu (F d) v){b:Nat}{y:Blk}(h:D7 w I mu b y):D7 w J mu b (Jw F y):=by
 cases y with
 |rows es sz=>
  obtain⟨k,T,us,h1,h2,h3,h4,h5⟩:=h
  refine⟨k,T,us,h1,h2,by simpa using h3,fun i hi=>?_,fun i j hi hj=>?_⟩
  ·simp only[A06] at hi
   rw[F9 hi,A06];exact h4 i hi
  ·simp only[A06] at hi
   rw[F9 hi,CT (by rw[h4 i hi];exact hj)];exact hF _ _ (h5 i j hi hj)
 |grow es sz=>
  obtain⟨A,cap,T,us,h1,h2,h3,h4⟩:=h
  refine⟨A,cap,T,us,by simpa using h1,fun i hi=>?_,h3,?_⟩
  ·simp only[A06] at hi
   rw[F9 hi,A06];exact h2 i hi
  ·rcases h4 with⟨h4,rfl⟩|⟨k,h0,hA,h5,h6,h7,h8⟩
   ·exact .inl ⟨h4,rfl⟩
   ·refine .inr ⟨k,h0,hA,h5,by simpa using h6,h7,fun i j hi hj=>?_⟩
    simp only[A06] at hi
    rw[F9 hi,CT (by rw[h2 i hi];exact hj)];exact hF _ _ (h8 i j hi hj)
 |map es clock=>
  obtain⟨k,l,h1,h2,h3,h4,h5⟩:=h
  refine⟨k,l,h1,h2,by rw[h3];simp[Function.comp_def],by rw[h4];simp[Function.comp_def],fun i x y hx hy=>?_⟩
  simp only[A0x,A1z] at hy
  obtain⟨z,hz,rfl⟩:=hy
  exact hF _ _ (h5 i x z hx hz)
 |iter m since seen last=>exact h
 |obj o=>exact h
 |loop env nt st pd ps a c=>
  obtain⟨k,fn,tmps,kd,h1,h2,h3,h4⟩:=h
  exact⟨k,fn,tmps,kd,h1,h2,h3,fun t=>Mu (Q:=fun d=>Rep w J mu d (tmps.getD t undef)) (.any _) (hF _ _ (h4 t))⟩
 |pr g p=>exact h
 |junk=>exact h
theorem Ar.fzB{s:St}{b:Nat}{x:Blk}(hx:Ad s.hp b=some x):Ar s ⟨fzE b x s.env,fzH b x (del s.hp b),s.nx⟩:=by
 intro w0 M0 I0 nt I mu a w rel
 have hx':s.fs.hp b=some x:=hx
 have sub:∀ c y,Js b x c=some y->s.fs.hp c=some y:=fun c y h=>by
  unfold Js at h
  by_cases hc:c=b
  ·subst hc;simp at h;subst h;exact hx'
  ·have:(c==b)=false:=by simp[hc]
   simp[this] at h
 have hr:Ap w0 M0 I0 (frN s.nx) I mu (Js b x) w:=
  ⟨fun c y h=>rel.w.blk c y (sub c y h),fun c y v j h hv hj=>rel.w.loc c y v j (sub c y h) hv hj,fun c c' y z v u j h h'=>rel.w.inj c c' y z v u j (sub c y h) (sub c' z h'),rel.w.fresh,rel.w.lt,rel.w.os,rel.w.tape,rel.w.output,rel.w.grown,rel.w.old,rel.w.iold,rel.w.inew,rel.w.keep,fun c y h hc=>rel.w.used c y (sub c y h) hc⟩
 let J:Nat->Prop:=fun j=>I j∨∃ v,mu b=some v/\Ae v=some j
 have fz:∀ d v,Rep w I mu d v->Rep w J mu (fzD b x d) v:=fun d v h=>
  Rep.frz hr (fun j hj=>.inl hj) (fun c y v j h hv hj=>by
   unfold Js at h
   by_cases hc:c=b
   ·subst hc;exact .inr ⟨v,hv,hj⟩
   ·have:(c==b)=false:=by simp[hc]
    simp[this] at h) 4 d v h
 have hlk:∀ c y,Ad (fzH b x (del s.hp b)) c=some y->c≠b/\∃ z,s.fs.hp c=some z/\y=Go.Ab.Jw (fzD b x) z:=by
  intro c y h
  obtain⟨z,hz,hy⟩:=S8 b x _ c y h
  rw[JA] at hz
  split at hz
  ·cases hz
  ·rename_i hne;exact⟨fun h=>hne h.symm,z,hz,hy⟩
 refine⟨J,mu,rel.size,rel.defers.sub (fun _ h=>.inl h),fun t=>?_,⟨fun c y h=>?_,fun c y v j h hv hj=>?_,fun c c' y z v u j h h'=>?_,rel.w.fresh,fun j hj=>?_,rel.w.os,rel.w.tape,rel.w.output,rel.w.grown,rel.w.old,fun j hj=>.inl (rel.w.iold j hj),fun j hj=>?_,rel.w.keep,fun c y h hc=>?_⟩⟩
 ·show Rep w _ mu ((fzE b x s.env).get t) _
  rw[Vm]
  exact fz _ _ (rel.env t)
 ·obtain⟨_,z,hz,hy⟩:=hlk c y h
  subst hy
  exact(rel.w.blk c z hz).mapB fz
 ·obtain⟨hne,z,hz,_⟩:=hlk c y h
  have h6:=rel.w.loc c z v j hz hv hj
  refine⟨h6.1,fun hI=>?_,h6.2.2⟩
  rcases hI with hI|⟨u,hu,hk⟩
  ·exact h6.2.1 hI
  ·exact hne (rel.w.inj c b _ _ _ _ j hz hx' hv hu hj hk)
 ·obtain⟨_,z',g1,_⟩:=hlk c y h
  obtain⟨_,z'',g2,_⟩:=hlk c' z h'
  exact rel.w.inj c c' _ _ v u j g1 g2
 ·rcases hj with hj|⟨v,hv,hk⟩
  ·exact rel.w.lt j hj
  ·exact(rel.w.loc b x v j hx' hv hk).2.2
 ·rcases hj with hj|⟨v,hv,hk⟩
  ·exact rel.w.inew j hj
  ·exact .inr (rel.w.loc b x v j hx' hv hk).1
 ·obtain⟨_,z,hz,_⟩:=hlk c y h
  exact rel.w.used c z hz hc
theorem Ar.fzS(b:Nat)(s:St):Ar s (fzS b s):=by
 unfold Go.Ab.fzS
 split
 ·rename_i es sz hx;exact Ar.fzB hx
 ·rename_i es sz hx
  cases hp:A6 es with
  |false=>exact Ar.refl s
  |true=>exact Ar.fzB hx
 ·exact Ar.refl s
theorem Ar.fzL:∀ (l:List Nat) (s:St),Ar s (fzL l s)
 |[],s=>Ar.refl s
 |b::r,s=>(Ar.fzS b s).trans (Ar.fzL r _)
end Go.Ab
