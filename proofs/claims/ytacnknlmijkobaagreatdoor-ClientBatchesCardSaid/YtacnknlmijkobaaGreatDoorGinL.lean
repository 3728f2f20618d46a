/- Package variables that a row lays: the tables lie in the world. -/
import Derived.Test.YtacnknlmijkobaaGreatDoorV5
import Derived.Lib.LaidTab
import Derived.OpenShut
set_option maxHeartbeats 4000000
set_option maxRecDepth 20000
set_option linter.unusedVariables false
set_option linter.unusedSimpArgs false
namespace Go.Ab
open Go.RowKit
section
variable{P:Program}{w:World}
theorem laid_mem:∀ {l:List (String×DataW Unit)} {ps:List MemPlace},DataW.LaidVars P w l ps→∀ n d,(n,d) ∈ l→∃ g t cs fuel p,P.globalNamed n=some g∧(P.globals[g]?).map (·.type)=some t∧w.var? P n=some cs∧DataW.trod (fun _=>()) P w 0 (fun _=>true) false fuel t cs.toList=some (d,p)
 |[],_,_,n,d,h=>by simp at h
 |(n',d')::r,ps,⟨g,t,cs,fuel,p,q,h1,h2,h3,h4,h5,_⟩,n,d,h=>by
  rw[List.mem_cons] at h
  rcases h with h|h
  ·cases h;exact⟨g,t,cs,fuel,p,h1,h2,h3,h4⟩
  ·exact laid_mem h5 n d h
theorem var_block{n:String}{g:Nat}{cs:Array Value}(hg:P.globalNamed n=some g)(h:w.var? P n=some cs):∃ T fz,w.heap[g]? =some (.cells cs T fz):=by
 unfold World.var? at h
 rw[hg] at h
 simp only[Option.bind_some] at h
 split at h
 ·rename_i cs' T fz hh
  cases h
  exact⟨T,fz,hh⟩
 ·cases h
def Held(w:World)(g:Nat)(l:List Value):Prop:=∃ T fz,w.heap[g]? =some (.cells l.toArray T fz)
theorem held_of{laid:List (String×DataW Unit)}{name:String}{g:Nat}{t:TypeId}{d:DataW Unit}{l:List Value}(hm:laidMet P laid w){i:Nat}(hin:laid[i]? =some (name,d))
  (hg:P.globalNamed name=some g) (hty:(P.globals[g]?).map (·.type)=some t) (hc:∀ (fuel:Nat) (cs:List Value) (p:List MemPlace),DataW.trod (fun _=>()) P w 0 (fun _=>true) false fuel t cs=some (d,p)→cs=l):Held w g l:=by
 obtain⟨ps,hl,_⟩:=hm
 obtain⟨g',t',cs,fuel,p,h1,h2,h3,h4⟩:=laid_mem hl _ _ (List.mem_of_getElem? hin)
 obtain rfl:=Option.some.inj (hg.symm.trans h1)
 obtain rfl:=Option.some.inj (hty.symm.trans h2)
 obtain⟨T,fz,hb⟩:=var_block h1 h3
 have:=hc _ _ _ h4
 refine⟨T,fz,?_⟩
 rw[←this]
 simpa using hb
theorem held_ints{laid:List (String×DataW Unit)}{name:String}{k:IntKind}{zs:List Int}{g:Nat}{t e:TypeId}{n:Nat}(hm:laidMet P laid w)(i:Nat)(hin:laid[i]? =some (name,(Lib.tabData k zs:DataW Unit)))
  (hg:P.globalNamed name=some g) (hty:(P.globals[g]?).map (·.type)=some t) (ht:P.underlying t=some (.array n e)) (he:P.underlying e=some (.int k)) (hce:P.cellsOf e=1) (hct:P.cellsOf t=n):Held w g (zs.map fun z=>Value.int k z):=
 held_of hm hin hg hty fun _ _ _ h=>Lib.cells_of_tab ht he hce hct h
theorem flat_pairs{k:IntKind}:∀ (zs:List (Int×Int)) (cs:List Value),cs.length=2*zs.length→(∀(i:Nat) z,zs[i]? =some z→(cs.drop (i*2)).take 2=[.int k z.1,.int k z.2])→cs=zs.flatMap fun z=>[.int k z.1,.int k z.2]
 |[],cs,h,_=>by simpa using h
 |z::zs,cs,h,hh=>by
  match cs,h with
  |[],h=>simp at h
  |[_],h=>simp at h;omega
  |a::b::cs,h=>
   have h0:=hh 0 z rfl
   simp at h0
   obtain⟨rfl,rfl⟩:=h0
   have:=flat_pairs zs cs (by simp at h;omega) fun i y hy=>by
    have:=hh (i+1) y (by simpa using hy)
    rwa[show(i+1)*2=i*2+2 from by omega,List.drop_succ_cons,List.drop_succ_cons] at this
   simp[←this]
theorem held_pairs{laid:List (String×DataW Unit)}{name:String}{k:IntKind}{zs:List (Int×Int)}{g:Nat}{t e u:TypeId}{n:Nat}{f0 f1:Field}(hm:laidMet P laid w)(i:Nat)(hin:laid[i]? =some (name,.agg (zs.map fun z=>.agg [.lit (.int k z.1),.lit (.int k z.2)])))
  (hg:P.globalNamed name=some g) (hty:(P.globals[g]?).map (·.type)=some t) (ht:P.underlying t=some (.array n e)) (he:P.underlying e=some (.struct #[f0,f1])) (hu:P.underlying u=some (.int k)) (e0:f0.type=u∧f0.offset=0) (e1:f1.type=u∧f1.offset=1) (hcu:P.cellsOf u=1) (hce:P.cellsOf e=2) (hct:P.cellsOf t=2*n):Held w g (zs.flatMap fun z=>[Value.int k z.1,Value.int k z.2]):=by
 refine held_of hm hin hg hty fun fuel cs p h=>?_
 obtain⟨xs,m,rfl,hx,hl,hxl,hf⟩:=DataW.trod_array ht h
 have hxs:xs.map (·.1)=zs.map fun z=>(DataW.agg [.lit (.int k z.1),.lit (.int k z.2)]:DataW Unit):=by
  have:=congrArg Prod.fst hx
  simpa using this.symm
 have hzl:zs.length=n:=by
  have:=congrArg List.length hxs
  simp at this
  omega
 refine flat_pairs zs cs (by omega) fun i z hz=>?_
 have hi:i<n:=by have:=(List.getElem?_eq_some_iff.1 hz).1;omega
 have h1:=hf i hi
 rw[hce] at h1
 generalize(cs.drop (i*2)).take 2=c at h1
 rw[List.getElem?_eq_getElem (by omega)] at h1
 obtain⟨y0,y1,m',hy,hcl,a0,a1⟩:=ChangeShapes.trod_struct2 he h1
 rw[e0.1,e0.2,hcu] at a0
 rw[e1.1,e1.2,hcu] at a1
 obtain⟨n0,c0,rfl,_⟩:=DataW.trod_int hu a0
 obtain⟨n1,c1,rfl,_⟩:=DataW.trod_int hu a1
 have hz':(zs.map fun z=>(DataW.agg [.lit (.int k z.1),.lit (.int k z.2)]:DataW Unit))[i]? =some (xs[i].1):=by rw[←hxs,List.getElem?_map,List.getElem?_eq_getElem (by omega)];rfl
 rw[List.getElem?_map,hz,hy] at hz'
 simp only[Option.map_some,Option.some.injEq,DataW.agg.injEq,List.cons.injEq,DataW.lit.injEq,Lit.int.injEq,true_and,and_true] at hz'
 obtain⟨rfl,rfl⟩:=hz'
 rw[hce] at hcl
 match c,hcl with
 |[a,b],_=>
  simp at c0 c1
  rw[c0,c1]
theorem gin_of(h:∀ p ∈ gTabs,∀ g,P.globalNamed p.1=some g→Held w g p.2):GIn P w fun k=>k<w.heap.size:=by
 intro g l hl
 unfold L6 at hl
 rw[Option.map_eq_some_iff] at hl
 obtain⟨p,hp,rfl⟩:=hl
 have h1:=List.find?_some hp
 simp at h1
 obtain⟨T,fz,hh⟩:=h p (List.mem_of_find?_eq_some hp) g h1
 exact⟨(Array.getElem?_eq_some_iff.1 hh).1,T,fz,hh⟩
end
end Go.Ab
