/- A law that answers true, and leaves all that was there; a world that holds what is laid. -/
import Derived.Test.YtacnknlmijkobaaGreatDoorGinL
import Derived.WalkKit
import Derived.ProofKit
import Derived.OpenShut
import Derived.ReadAgain
import Derived.Below
import Derived.Deep.DeepHandedRow
import Derived.Deep.DeepLaidRun
set_option maxHeartbeats 4000000
set_option maxRecDepth 20000
set_option linter.unusedVariables false
set_option linter.unusedSimpArgs false
namespace Go.Ab
noncomputable section
open Go.RowKit
open Go.ChangeShapes Go.WideShapes Go.ChangeAt
section
variable{H:Type}{enc:TypeId×Value→H}{P:Program}{W W':World}
theorem trodAll_carry{base:Nat}{spare:Nat→Bool}{held:Bool}:∀ {ts:List TypeId} {vs:List Value} {ds:List (DataW H)} {ps:List MemPlace},DataW.TrodAll enc P W base spare held ts vs ds ps→(∀ x ∈ ps,W.sameAt W' x)→DataW.TrodAll enc P W' base spare held ts vs ds ps
 |[],[],[],_,h,_=>h
 |_::_,_::_,_::_,_,⟨p,q,⟨n,hn⟩,h2,e⟩,hs=>⟨p,q,⟨n,DataW.trod_carry n _ _ _ hn fun x hx=>hs x (by rw[e];exact List.mem_append_left _ hx)⟩,trodAll_carry h2 fun x hx=>hs x (by rw[e];exact List.mem_append_right _ hx),e⟩
theorem post_true{f:Func}{s:ChangeSpec}{apart fresh handsOn again:Bool}{args:Array Value}{ds gs:List (DataW H)}{before:List MemPlace}{tb:TypeId}(K:Kids P (· <P.types.size))(hz:∀ t e,t<P.types.size→P.underlying t=some (.slice e)→0<P.cellsOf e)
  (hrows:∀ t ∈ f.params.toList,t<P.types.size) (hv:s.vars=[]) (hres:f.resultTypes=#[tb]) (htb:P.underlying tb=some .bool) (hfn:s.fn H (ds++gs)= {results:=[.lit (.bool true)],args:=ds})
  (hW:DataW.Whole enc P f.params.toList s.vars apart W args.toList ds gs before) (hb:Below W.heap.size W W'):s.post enc P f apart fresh handsOn again W args (.bool true) W':=by
 have hW':=hW
 obtain⟨p,q,hA,hV,rfl,hfz,hnd⟩:=hW
 have hV':=hV
 rw[hv] at hV'
 obtain⟨rfl,rfl⟩:=trodVars_none hV'
 have hold:∀ x ∈ p,x.block<W.heap.size:=fun x hx=>hW'.lt x (by simpa using hx)
 have hA':=trodAll_carry (W':=W') hA fun x hx=>hb.same (hold x hx)
 have hargs:∀ sp:Nat→Bool,(∀ x ∈ p,sp x.block=true)→DataW.TrodAll enc P W' 0 sp true f.params.toList args.toList ds p:=fun sp hsp=>DataW.TrodAll.respare K hz hrows hA' hsp
 have hbool:∀ (b:Nat) (sp:Nat→Bool) (hd:Bool),DataW.TrodAll enc P W' b sp hd f.resultTypes.toList ((Value.bool true).resultList f.resultTypes.size) [.lit (.bool true)] []:=by
  intro b sp hd
  rw[hres]
  exact trodAll_mk1 ⟨1,by simp[DataW.trod,Value.cells,htb]⟩
 have hvars:∀ sp:Nat→Bool,DataW.TrodVars enc P W' sp s.vars [] []:=by
  intro sp
  rw[hv]
  rfl
 refine⟨ds,[],p++[],[],p,[],hW',?_,?_,?_,hb.frame _,fun _=>?_⟩
 ·rw[hfn];exact hbool _ _ _
 ·rw[hfn];exact hargs _ fun x hx=>by simpa using hold x hx
 ·rw[hfn];exact hvars _
 ·refine⟨ok_one hres rfl (okWide_bool_mk htb _),_,_,([]++p)++[],⟨[]++p,[],trodAll_append (hargs _ (fun _ _=>rfl)) (hbool _ _ _),hvars _,rfl,?_,?_⟩,?_⟩
  ·intro b off hp
   have hp':MemPlace.cell b off ∈ p:=by simpa using hp
   rw[hb.frozen (hold _ hp')]
   exact hfz b off (by simpa using hp')
  ·intro ha
   have:=hnd ha
   simpa using this
  ·intro x hx _
   simpa using hx
end
mutual
def flatW:DataW Unit→List Value
 |.lit l=>[l.value]
 |.agg ps=>flatWs ps
 |_=>[]
def flatWs:List (DataW Unit)→List Value
 |[]=>[]
 |d::l=>flatW d++flatWs l
end
def layOne(P:Program)(ty:String→Option TypeId)(h:Array Obj)(x:String×DataW Unit):Array Obj:=match P.globalNamed x.1 with
 |some g=>(match x.2 with
  |.iface n (.ptr d)=>(match ty n with
   |some u=>(match P.underlying u with
    |some (.pointer e)=>(h.push (.cells (flatW d).toArray e (0,0))).modify g fun
     |.cells _ t frozen=>.cells #[.iface u (.pointer (some ⟨h.size,0,none⟩))] t frozen
     |o=>o
    |_=>h)
   |none=>h)
  |d=>h.modify g fun
   |.cells _ t frozen=>.cells (flatW d).toArray t frozen
   |o=>o)
 |none=>h
def laidWorldE(P:Program)(ty:String→Option TypeId)(laid:List (String×DataW Unit))(os:Os):World:=
 {World.holding P os ⟨#[],#[],[]⟩ with heap:=laid.foldl (layOne P ty) (World.holding P os ⟨#[],#[],[]⟩).heap}
end
end Go.Ab
