/- The layer by which the program is walked, and what its functions do: part 16 of 16. -/
import Derived.Test.YtjopicjammmbjaaGreatDoorV14
import Derived.Lib.LaidTab
import Derived.OpenShut
import Derived.ProofKit
import Derived.ReadAgain
import Derived.Below
import Derived.Deep.DeepHandedRow
import Derived.Deep.DeepLaidRun
import Derived.Test.YtjopicjammmbjaaGreatDoorCards
set_option maxHeartbeats 4000000
set_option maxRecDepth 20000
set_option linter.unusedVariables false
set_option linter.unusedSimpArgs false
set_option linter.unnecessarySimpa false
set_option linter.unusedSectionVars false
namespace Go.Ab
open Go.RowKit
section
variable{P:Program}{w:World}
theorem Sj:∀ {l:List (String×DataW Unit)} {ps:List MemPlace},DataW.LaidVars P w l ps->∀ n d,(n,d) ∈ l->∃ g t cs fuel p,P.globalNamed n=some g/\(P.globals[g]?).map (·.type)=some t/\w.var? P n=some cs/\DataW.trod (fun _=>()) P w 0 (fun _=>true) false fuel t cs.toList=some (d,p)
 |[],_,_,n,d,h=>by simp at h
 |(n',d')::r,ps,⟨g,t,cs,fuel,p,q,h1,h2,h3,h4,h5,_⟩,n,d,h=>by
  rw[A0o] at h
  rcases h with h|h
  ·cases h;exact⟨g,t,cs,fuel,p,h1,h2,h3,h4⟩
  ·exact Sj h5 n d h
theorem W0{n:String}{g:Nat}{cs:Array Value}(hg:P.globalNamed n=some g)(h:w.var? P n=some cs):∃ T fz,w.heap[g]? =some (.cells cs T fz):=by
 unfold World.var? at h
 rw[hg] at h
 simp only[A1w] at h
 split at h
 ·rename_i cs' T fz hh
  cases h
  exact⟨T,fz,hh⟩
 ·cases h
def Held(w:World)(g:Nat)(l:List Value):Prop:=∃ T fz,w.heap[g]? =some (.cells l.toArray T fz)
theorem Vz{laid:List (String×DataW Unit)}{name:String}{g:Nat}{t:TypeId}{d:DataW Unit}{l:List Value}(hm:laidMet P laid w){i:Nat}(hin:laid[i]? =some (name,d))
  (hg:P.globalNamed name=some g) (hty:(P.globals[g]?).map (·.type)=some t) (hc:∀ (fuel:Nat) (cs:List Value) (p:List MemPlace),DataW.trod (fun _=>()) P w 0 (fun _=>true) false fuel t cs=some (d,p)->cs=l):Held w g l:=by
 obtain⟨ps,hl,_⟩:=hm
 obtain⟨g',t',cs,fuel,p,h1,h2,h3,h4⟩:=Sj hl _ _ (A1L hin)
 obtain rfl:=Option.some.inj (hg.symm.trans h1)
 obtain rfl:=Option.some.inj (hty.symm.trans h2)
 obtain⟨T,fz,hb⟩:=W0 h1 h3
 have:=hc _ _ _ h4
 refine⟨T,fz,?_⟩
 rw[<-this]
 simpa using hb
theorem HV{laid:List (String×DataW Unit)}{name:String}{k:IntKind}{zs:List Int}{g:Nat}{t e:TypeId}{n:Nat}(hm:laidMet P laid w)(i:Nat)(hin:laid[i]? =some (name,(Lib.tabData k zs:DataW Unit)))
  (hg:P.globalNamed name=some g) (hty:(P.globals[g]?).map (·.type)=some t) (ht:P.underlying t=some (.array n e)) (he:P.underlying e=some (.int k)) (hce:P.cellsOf e=1) (hct:P.cellsOf t=n):Held w g (zs.map fun z=>Value.int k z):=
 Vz hm hin hg hty fun _ _ _ h=>Lib.cells_of_tab ht he hce hct h
theorem MU{k:IntKind}:∀ (zs:List (Int×Int)) (cs:List Value),cs.length=2*zs.length->(∀(i:Nat) z,zs[i]? =some z->(cs.drop (i*2)).take 2=[.int k z.1,.int k z.2])->cs=zs.flatMap fun z=>[.int k z.1,.int k z.2]
 |[],cs,h,_=>by simpa using h
 |z::zs,cs,h,hh=>by
  match cs,h with
  |[],h=>simp at h
  |[_],h=>simp at h;omega
  |a::b::cs,h=>
   have h0:=hh 0 z rfl
   simp at h0
   obtain⟨rfl,rfl⟩:=h0
   have:=MU zs cs (by simp at h;omega) fun i y hy=>by
    have:=hh (i+1) y (by simpa using hy)
    rwa[show(i+1)*2=i*2+2 from by omega,List.drop_succ_cons,List.drop_succ_cons] at this
   simp[<-this]
theorem Uo{laid:List (String×DataW Unit)}{name:String}{k:IntKind}{zs:List (Int×Int)}{g:Nat}{t e u:TypeId}{n:Nat}{f0 f1:Field}(hm:laidMet P laid w)(i:Nat)(hin:laid[i]? =some (name,.agg (zs.map fun z=>.agg [.lit (.int k z.1),.lit (.int k z.2)])))
  (hg:P.globalNamed name=some g) (hty:(P.globals[g]?).map (·.type)=some t) (ht:P.underlying t=some (.array n e)) (he:P.underlying e=some (.struct #[f0,f1])) (hu:P.underlying u=some (.int k)) (e0:f0.type=u/\f0.offset=0) (e1:f1.type=u/\f1.offset=1) (hcu:P.cellsOf u=1) (hce:P.cellsOf e=2) (hct:P.cellsOf t=2*n):Held w g (zs.flatMap fun z=>[Value.int k z.1,Value.int k z.2]):=by
 refine Vz hm hin hg hty fun fuel cs p h=>?_
 obtain⟨xs,m,rfl,hx,hl,hxl,hf⟩:=DataW.trod_array ht h
 have hxs:xs.map (·.1)=zs.map fun z=>(DataW.agg [.lit (.int k z.1),.lit (.int k z.2)]:DataW Unit):=by
  have:=congrArg Prod.fst hx
  simpa using this.symm
 have hzl:zs.length=n:=by
  have:=congrArg List.length hxs
  simp at this
  omega
 refine MU zs cs (by omega) fun i z hz=>?_
 have hi:i<n:=by have:=(List.getElem?_eq_some_iff.1 hz).1;omega
 have h1:=hf i hi
 rw[hce] at h1
 generalize(cs.drop (i*2)).take 2=c at h1
 rw[A06 (by omega)] at h1
 obtain⟨y0,y1,m',hy,hcl,a0,a1⟩:=ChangeShapes.trod_struct2 he h1
 rw[e0.1,e0.2,hcu] at a0
 rw[e1.1,e1.2,hcu] at a1
 obtain⟨n0,c0,rfl,_⟩:=DataW.trod_int hu a0
 obtain⟨n1,c1,rfl,_⟩:=DataW.trod_int hu a1
 have hz':(zs.map fun z=>(DataW.agg [.lit (.int k z.1),.lit (.int k z.2)]:DataW Unit))[i]? =some (xs[i].1):=by rw[<-hxs,A0A,A06 (by omega)];rfl
 rw[A0A,hz,hy] at hz'
 simp only[A0U,A04,DataW.agg.injEq,List.cons.injEq,DataW.lit.injEq,Lit.int.injEq,true_and,and_true] at hz'
 obtain⟨rfl,rfl⟩:=hz'
 rw[hce] at hcl
 match c,hcl with
 |[a,b],_=>
  simp at c0 c1
  rw[c0,c1]
theorem gin_of(h:∀ p ∈ VB,∀ g,P.globalNamed p.1=some g->Held w g p.2):GIn P w fun k=>k<w.heap.size:=by
 intro g l hl
 unfold LN at hl
 rw[A1v] at hl
 obtain⟨p,hp,rfl⟩:=hl
 have h1:=List.find?_some hp
 simp at h1
 obtain⟨T,fz,hh⟩:=h p (A1V hp) g h1
 exact⟨(A0F.1 hh).1,T,fz,hh⟩
end
end Go.Ab
namespace Go.Ab
open Go.Proofs Go.Proofs.Tryz Go.Proofs.YtjopicjammmbjaaGreatDoor Go.RowKit
theorem gnum{P:Program}{n:String}{g k:Nat}(h:P.globalNamed n=some k)(hg:P.globalNamed n=some g):g=k:=Option.some.inj (hg.symm.trans h)
set_option maxRecDepth 100000 in
theorem gin5{W:World}(hL:laidMet prog [("math/bits.deBruijn32tab",Rows.laid_math_bits_deBruijn32tab),("math/bits.deBruijn64tab",Rows.laid_math_bits_deBruijn64tab),("internal/strconv.uint64pow10",Rows.laid_internal_strconv_uint64pow10),("unicode/utf8.acceptRanges",Rows.laid_unicode_utf8_acceptRanges),("unicode/utf8.first",Rows.laid_unicode_utf8_first)] W):GIn prog W fun k=>k<W.heap.size:=by
 refine gin_of fun p hp g hg=>?_
 simp only[VB,A0o,A1i,or_false] at hp
 rcases hp with rfl|rfl|rfl|rfl|rfl|rfl
 ·obtain rfl:=gnum (k:=1) (by kernel_rfl) hg
  exact HV (t:=289) (e:=5) (n:=256) (k:=.u8) (zs:=List.replicate 128 (240:Int)++List.replicate 66 241++List.replicate 30 2++[19]++List.replicate 12 3++[35,3,3,52,4,4,4,68]++List.replicate 11 241) hL 4 (by kernel_rfl) hg (by kernel_rfl) (by kernel_rfl) (by kernel_rfl) (by kernel_rfl) (by kernel_rfl)
 ·obtain rfl:=gnum (k:=2) (by kernel_rfl) hg
  have h:=Uo (t:=292) (e:=291) (u:=5) (n:=16) (k:=.u8) (zs:=[((128:Int),(191:Int)),(160,191),(128,159),(144,191),(128,143)]++List.replicate 11 (0,0)) hL 3 (by kernel_rfl) hg (by kernel_rfl) (by kernel_rfl) underlying291 (by kernel_rfl) ⟨rfl,rfl⟩ ⟨rfl,rfl⟩ (by kernel_rfl) (by kernel_rfl) (by kernel_rfl)
  exact(show(([((128:Int),(191:Int)),(160,191),(128,159),(144,191),(128,143)]++List.replicate 11 (0,0)).flatMap fun z:Int×Int=>[Value.int .u8 z.1,Value.int .u8 z.2])=Du by kernel_rfl)▸h
 ·obtain rfl:=gnum (k:=3) (by kernel_rfl) hg
  exact HV (t:=316) (e:=23) (n:=20) (k:=.u64) (zs:=[1,10,100,1000,10000,100000,1000000,10000000,100000000,1000000000,10000000000,100000000000,1000000000000,10000000000000,100000000000000,1000000000000000,10000000000000000,100000000000000000,1000000000000000000,10000000000000000000]) hL 2 (by kernel_rfl) hg (by kernel_rfl) (by kernel_rfl) (by kernel_rfl) (by kernel_rfl) (by kernel_rfl)
 ·obtain rfl:=gnum (k:=4) (by kernel_rfl) hg
  exact HV (t:=323) (e:=5) (n:=32) (k:=.u8) (zs:=[0,1,28,2,29,14,24,3,30,22,20,15,25,17,4,8,31,27,13,23,21,19,16,7,26,12,18,6,11,5,10,9]) hL 0 (by kernel_rfl) hg (by kernel_rfl) (by kernel_rfl) (by kernel_rfl) (by kernel_rfl) (by kernel_rfl)
 ·obtain rfl:=gnum (k:=5) (by kernel_rfl) hg
  exact HV (t:=324) (e:=5) (n:=64) (k:=.u8) (zs:=[0,1,56,2,57,49,28,3,61,58,42,50,38,29,17,4,62,47,59,36,45,43,51,22,53,39,33,30,24,18,12,5,63,55,48,27,60,41,37,16,46,35,44,21,52,32,23,11,54,26,40,15,34,20,31,10,25,14,19,9,13,8,7,6]) hL 1 (by kernel_rfl) hg (by kernel_rfl) (by kernel_rfl) (by kernel_rfl) (by kernel_rfl) (by kernel_rfl)
 ·exact absurd hg (by rw[show prog.globalNamed "commonplace/mutator.names"=none by kernel_rfl];simp)
end Go.Ab
namespace Go.Ab
noncomputable section
open Go.ChangeAt Go.ChangeShapes Go.RowKit Go.WideShapes
section
variable{H:Type}{enc:TypeId×Value->H}{P:Program}{W W':World}
theorem Jc{base:Nat}{spare:Nat->Bool}{held:Bool}:∀ {ts:List TypeId} {vs:List Value} {ds:List (DataW H)} {ps:List MemPlace},DataW.TrodAll enc P W base spare held ts vs ds ps->(∀ x ∈ ps,W.sameAt W' x)->DataW.TrodAll enc P W' base spare held ts vs ds ps
 |[],[],[],_,h,_=>h
 |_::_,_::_,_::_,_,⟨p,q,⟨n,hn⟩,h2,e⟩,hs=>⟨p,q,⟨n,DataW.trod_carry n _ _ _ hn fun x hx=>hs x (by rw[e];exact A1E _ hx)⟩,Jc h2 fun x hx=>hs x (by rw[e];exact A1A _ hx),e⟩
theorem post_true{f:Func}{s:ChangeSpec}{apart fresh handsOn again:Bool}{args:Array Value}{ds gs:List (DataW H)}{before:List MemPlace}{tb:TypeId}(K:Kids P (· <P.types.size))(hz:∀ t e,t<P.types.size->P.underlying t=some (.slice e)->0<P.cellsOf e)
  (hrows:∀ t ∈ f.params.toList,t<P.types.size) (hv:s.vars=[]) (hres:f.resultTypes=#[tb]) (htb:P.underlying tb=some .bool) (hfn:s.fn H (ds++gs)= {results:=[.lit (.bool true)],args:=ds})
  (hW:DataW.Whole enc P f.params.toList s.vars apart W args.toList ds gs before) (hb:Below W.heap.size W W'):s.post enc P f apart fresh handsOn again W args (.bool true) W':=by
 have hW':=hW
 obtain⟨p,q,hA,hV,rfl,hfz,hnd⟩:=hW
 have hV':=hV
 rw[hv] at hV'
 obtain⟨rfl,rfl⟩:=trodVars_none hV'
 have hold:∀ x ∈ p,x.block<W.heap.size:=fun x hx=>hW'.lt x (by simpa using hx)
 have hA':=Jc (W':=W') hA fun x hx=>hb.same (hold x hx)
 have hargs:∀ sp:Nat->Bool,(∀ x ∈ p,sp x.block=true)->DataW.TrodAll enc P W' 0 sp true f.params.toList args.toList ds p:=fun sp hsp=>DataW.TrodAll.respare K hz hrows hA' hsp
 have hbool:∀ (b:Nat) (sp:Nat->Bool) (hd:Bool),DataW.TrodAll enc P W' b sp hd f.resultTypes.toList ((Value.bool true).resultList f.resultTypes.size) [.lit (.bool true)] []:=by
  intro b sp hd
  rw[hres]
  exact trodAll_mk1 ⟨1,by simp[DataW.trod,Value.cells,htb]⟩
 have hvars:∀ sp:Nat->Bool,DataW.TrodVars enc P W' sp s.vars [] []:=by
  intro sp
  rw[hv]
  rfl
 refine⟨ds,[],p++[],[],p,[],hW',?_,?_,?_,hb.frame _,fun _=>?_⟩
 ·rw[hfn];exact hbool _ _ _
 ·rw[hfn];exact hargs _ fun x hx=>by simpa using hold x hx
 ·rw[hfn];exact hvars _
 ·refine⟨ok_one hres rfl (okWide_bool_mk htb _),_,_,([]++p)++[],⟨[]++p,[],trodAll_append (hargs _ (fun _ _=>rfl)) (hbool _ _ _),hvars _,rfl,?_,?_⟩,?_⟩
  ·intro b off hp
   have hp':MemPlace.cell b off ∈ p:=by simpa using hp
   rw[hb.frozen (hold _ hp')]
   exact hfz b off (by simpa using hp')
  ·intro ha
   have:=hnd ha
   simpa using this
  ·intro x hx _
   simpa using hx
end
mutual
def flatW:DataW Unit->List Value
 |.lit l=>[l.value]
 |.agg ps=>flatWs ps
 |_=>[]
def flatWs:List (DataW Unit)->List Value
 |[]=>[]
 |d::l=>flatW d++flatWs l
end
def layOne(P:Program)(ty:String->Option TypeId)(h:Array Obj)(x:String×DataW Unit):Array Obj:=match P.globalNamed x.1 with
 |some g=>(match x.2 with
  |.iface n (.ptr d)=>(match ty n with
   |some u=>(match P.underlying u with
    |some (.pointer e)=>(h.push (.cells (flatW d).toArray e (0,0))).modify g fun
     |.cells _ t frozen=>.cells #[.iface u (.pointer (some ⟨h.size,0,none⟩))] t frozen
     |o=>o
    |_=>h)
   |none=>h)
  |d=>h.modify g fun
   |.cells _ t frozen=>.cells (flatW d).toArray t frozen
   |o=>o)
 |none=>h
def laidWorldE(P:Program)(ty:String->Option TypeId)(laid:List (String×DataW Unit))(os:Os):World:=
 {World.holding P os ⟨#[],#[],[]⟩ with heap:=laid.foldl (layOne P ty) (World.holding P os ⟨#[],#[],[]⟩).heap}
end
end Go.Ab
namespace Go.Ab
theorem X7{P:Program}(h:P.funcs.any Func.goes=false)(f:FuncId):P.goes f=false:=by
 have h1:∀ g:FuncId,(P.funcs[g]?).any Func.goes=false:=by
  intro g
  cases hg:P.funcs[g]? with
  |none=>rfl
  |some fn=>
   have hm:=Array.mem_of_getElem? hg
   simp only[Array.any_eq_false',Bool.not_eq_true] at h
   simpa using h fn hm
 unfold Program.goes
 rw[h]
 simp[h1]
theorem goesBy_none{c:OpenClaim}{P:Program}(hs:c.start=.entering)(h:P.funcs.any Func.goes=false):false=c.goesBy P:=by
 unfold OpenClaim.goesBy Program.goesAt Program.goesFrom
 rw[hs]
 cases P.funcNamed c.func with
 |none=>rfl
 |some f=>simp [X7 h f]
end Go.Ab
