/- The layer by which the program is walked, and what its functions do: part 1 of 15. -/
import Derived.WalkKit
import Derived.Orders
import Derived.Maps.AppendAt
import Derived.OrdersIn
import Derived.DefersIn
import Derived.RangeFuncRecord
import Derived.RangeFuncLeaves
set_option maxHeartbeats 4000000
set_option maxRecDepth 20000
set_option linter.unusedVariables false
set_option linter.unusedSimpArgs false
set_option linter.unnecessarySimpa false
namespace Go
abbrev A02:=@List.getD_eq_getElem?_getD
abbrev A03:=@Option.some.injEq
abbrev A04:=@List.length_append
abbrev A05:=@Prod.mk.injEq
abbrev A06:=@List.length_map
abbrev A07:=@Bool.and_eq_true
abbrev A08:=@List.take_of_length_le
abbrev A09:=@List.getElem?_eq_getElem
abbrev A0a:=@Nat.le_refl
abbrev A0b:=@List.append_assoc
abbrev A0c:=@List.cons_append
abbrev A0d:=@List.mem_singleton
abbrev A0e:=@Sem.run_bind
abbrev A0f:=@Nat.mul_le_mul_right
abbrev A0g:=@List.length_cons
abbrev A0h:=@List.map_cons
abbrev A0i:=@List.drop_eq_nil_of_le
abbrev A0j:=@Sem.run_pure
abbrev A0k:=@Array.getElem?_eq_some_iff
abbrev A0l:=@List.mem_map
abbrev A0m:=@List.nil_append
abbrev A0n:=@List.getElem?_take_of_lt
abbrev A0o:=@List.getElem?_append_right
abbrev A0p:=@List.mem_cons_of_mem
abbrev A0q:=@List.getElem?_append_left
abbrev A0r:=@List.foldl_cons
abbrev A0s:=@List.mem_cons
abbrev A0t:=@List.length_nil
abbrev A0u:=@List.all_eq_true
abbrev A0v:=@List.length_drop
abbrev A0w:=@List.eq_nil_of_length_eq_zero
abbrev A0x:=@List.getElem?_map
abbrev A0y:=@List.size_toArray
abbrev A0z:=@List.length_take
abbrev A0A:=@List.flatMap_append
abbrev A0B:=@List.mem_cons_self
abbrev A0C:=@Bool.false_eq_true
abbrev A0D:=@Nat.zero_le
abbrev A0E:=@List.getD_cons_zero
abbrev A0F:=@Nat.succ_mul
abbrev A0G:=@List.map_nil
abbrev A0H:=@List.append_nil
abbrev A0I:=@List.getElem?_drop
abbrev A0J:=@Option.getD_some
abbrev A0K:=@List.map_append
abbrev A0L:=@Nat.le_trans
abbrev A0M:=@Bool.and_self
abbrev A0N:=@Value.slice.injEq
abbrev A0O:=@Value.pointer.injEq
abbrev A0P:=@List.mem_of_mem_drop
abbrev A0Q:=@List.length_eq_zero_iff
abbrev A0R:=@Nat.lt_of_lt_of_le
abbrev A0S:=@List.length_set
abbrev A0T:=@Array.length_toList
abbrev A0U:=@List.getElem?_cons_zero
abbrev A0V:=@List.getElem?_cons_succ
abbrev A0W:=@Array.getElem?_eq_getElem
abbrev A0X:=@List.getElem_mem
abbrev A0Y:=@List.flatMap_cons
abbrev A0Z:=@List.foldl_nil
abbrev A10:=@List.map_map
abbrev A11:=@Nat.add_zero
abbrev A12:=@List.take_append_drop
abbrev A13:=@List.map_congr_left
abbrev A14:=@Nat.lt_or_ge
abbrev A15:=@Option.map_some
abbrev A16:=@Addr.mk.injEq
abbrev A17:=@Nat.eq_zero_or_pos
abbrev A18:=@List.length_singleton
abbrev A19:=@Nat.add_mul
abbrev A1a:=@List.length_replicate
abbrev A1b:=@List.getElem?_toArray
abbrev A1c:=@Nat.zero_add
abbrev A1d:=@List.append_toArray
abbrev A1e:=@List.mem_of_mem_take
abbrev A1f:=@Option.isSome_none
abbrev A1g:=@Array.getD_eq_getD_getElem?
abbrev A1h:=@List.take_length
abbrev A1i:=@List.reverse_cons
abbrev A1j:=@List.take_succ_cons
abbrev A1k:=@Array.getElem?_setIfInBounds_ne
abbrev A1l:=@Nat.add_assoc
abbrev A1m:=@List.mem_range
abbrev A1n:=@List.mem_iff_getElem
abbrev A1o:=@List.pairwise_append
abbrev A1p:=@Array.replicate_succ
abbrev A1q:=@Array.replicate_zero
abbrev A1r:=@List.take_append_of_le_length
abbrev A1s:=@List.take_add_one
abbrev A1t:=@List.mem_append
abbrev A1u:=@Nat.add_sub_cancel_left
abbrev A1v:=@List.getElem?_replicate
abbrev A1w:=@Option.bind_some
abbrev A1x:=@List.not_mem_nil
abbrev A1y:=@List.take_succ_eq_append_getElem
abbrev A1z:=@Option.map_eq_some_iff
abbrev A1A:=@List.take_zero
abbrev A1B:=@List.ext_getElem?
abbrev A1C:=@List.push_toArray
abbrev A1D:=@List.getD_cons_succ
abbrev A1E:=@List.zip_cons_cons
abbrev A1F:=@List.map_set
abbrev A1G:=@List.mem_of_getElem?
abbrev A1H:=@List.foldl_append
abbrev A1I:=@List.getElem?_set
abbrev A1J:=@List.nodup_cons
abbrev A1K:=@List.take_left'
abbrev A1L:=@List.replicate_succ
abbrev A1M:=@List.length_pos_iff
abbrev A1N:=@Bool.and_true
abbrev A1O:=@List.reverse_nil
abbrev A1P:=@List.mem_append_right
abbrev A1Q:=@List.getElem?_take
abbrev A1R:=@List.drop_drop
abbrev A1S:=@List.zip_nil_right
abbrev A1T:=@List.getElem?_modify
abbrev A1U:=@Int.natCast_add
abbrev A1V:=@Bool.or_false
abbrev A1W:=@List.filter_cons_of_pos
abbrev A1X:=@List.filter_cons_of_neg
abbrev A1Y:=@Nat.le_of_not_lt
end Go
namespace Go.Ab
open Go.RowKit
inductive D where
 |any
 |val (v:Value)
 |cond (g:Bool) (d:D)
 |agg (cs:List D)
 |tup (cs:List D)
 |slice (es:List (List D)) (tight:Bool)
 |ptr (cs:List D) (off:Nat)
 |ref (b i off sz:Nat)
 |sref (b i len cap sz:Nat)
 |gref (b len:Nat)
 |mref (b:Nat)
 |func (fn:Fn) (fs cs:List D)
 |iface (t:TypeId) (d:D)
 |abool (n:Nat) (pos:Bool)
 |gel (b i off sz:Nat)
 |gsub (b i len sz:Nat)
 |yld (b:Nat)
def D2:IntKind->Int
 |.i8=> -128
 |.i16=> -32768
 |.i32=> -2147483648
 |.i64=> -9223372036854775808
 |_=>0
def D3:IntKind->Int
 |.i8=>127
 |.i16=>32767
 |.i32=>2147483647
 |.i64=>9223372036854775807
 |.u8=>255
 |.u16=>65535
 |.u32=>4294967295
 |.u64=>18446744073709551615
def okP:Value->Prop
 |.int k n=>D2 k<=n/\n<=D3 k
 |.string s=>s.size<=9223372036854775807
 |_=>True
def okB:Value->Bool
 |.int k n=>decide (D2 k<=n)&&decide (n<=D3 k)
 |.string s=>decide (s.size<=9223372036854775807)
 |_=>true
theorem LW{v:Value}(h:okB v=true):okP v:=by
 cases v<;>first
  |exact trivial
  |simpa [okB,okP] using h
theorem F3(k:IntKind)(n:Int):D2 k<=k.wrap n/\k.wrap n<=D3 k:=by
 cases k<;>simp [IntKind.wrap,IntKind.bits,IntKind.signed,D2,D3]<;>omega
def nd(cs:List D)(i:Nat):D:=cs.getD i .any
def nr(es:List (List D))(i:Nat):List D:=es.getD i []
def nv(us:List Value)(i:Nat):Value:=us.getD i undef
inductive Rep(w:World)(I:Nat->Prop)(mu:Nat->Option Value):D->Value->Prop where
 |any (v:Value):Rep w I mu .any v
 |val (v:Value) (ok:okP v):Rep w I mu (.val v) v
 |cond (g:Bool) (d:D) (v:Value) (h:g=true->Rep w I mu d v) (h':g=false->v=undef):Rep w I mu (.cond g d) v
 |agg (cs:List D) (us:List Value) (hl:us.length=cs.length) (h:∀ i,i<cs.length->Rep w I mu (nd cs i) (nv us i)):Rep w I mu (.agg cs) (.agg us.toArray)
 |tup (cs:List D) (us:List Value) (hl:us.length=cs.length) (h:∀ i,i<cs.length->Rep w I mu (nd cs i) (nv us i)):Rep w I mu (.tup cs) (.tuple us.toArray)
 |slice (es:List (List D)) (tight:Bool) (A:Option Addr) (k o sz cap:Nat) (u:Nat->Nat->Value)
   (hA:0<es.length->A=some ⟨k,o,none⟩/\(0<sz->I k)) (hc:es.length<=cap) (ht:tight=true->cap=es.length) (hm:cap<=maxLen)
   (hlen:∀ i,i<es.length->(nr es i).length=sz)
   (hcell:∀ i j,i<es.length->j<sz->w.cell? ⟨k,o+(i*sz+j),none⟩=some (u i j))
   (h:∀ i j,i<es.length->j<sz->Rep w I mu (nd (nr es i) j) (u i j)):Rep w I mu (.slice es tight) (.slice A es.length cap)
 |ptr (cs:List D) (off k o:Nat) (u:Nat->Value) (hI:0<cs.length->I k)
   (hcell:∀ j,j<cs.length->w.cell? ⟨k,o+j,none⟩=some (u j))
   (h:∀ j,j<cs.length->Rep w I mu (nd cs j) (u j)):Rep w I mu (.ptr cs off) (.pointer (some ⟨k,o+off,none⟩))
 |ref (b i off sz k:Nat) (h:mu b=some (.pointer (some ⟨k,0,none⟩))):Rep w I mu (.ref b i off sz) (.pointer (some ⟨k,i*sz+off,none⟩))
 |sref (b i len cap sz k:Nat) (h:mu b=some (.pointer (some ⟨k,0,none⟩))):Rep w I mu (.sref b i len cap sz) (.slice (some ⟨k,i*sz,none⟩) len cap)
 |gref (b len:Nat) (A:Option Addr) (cap:Nat) (h:mu b=some (.slice A len cap)):Rep w I mu (.gref b len) (.slice A len cap)
 |mref (b k:Nat) (h:mu b=some (.map (some k))):Rep w I mu (.mref b) (.map (some k))
 |func (fn:Fn) (fs cs:List D) (us vs:List Value) (hl:us.length=fs.length) (hk:vs.length=cs.length)
   (h:∀ i,i<fs.length->Rep w I mu (nd fs i) (nv us i)) (h':∀ i,i<cs.length->Rep w I mu (nd cs i) (nv vs i)):Rep w I mu (.func fn fs cs) (.func fn us.toArray vs.toArray)
 |iface (t:TypeId) (d:D) (v:Value) (h:Rep w I mu d v):Rep w I mu (.iface t d) (.iface t v)
 |abool (n:Nat) (pos b:Bool) (h:b=pos->n=0):Rep w I mu (.abool n pos) (.bool b)
 |gel (b i off sz k len cap:Nat) (h:mu b=some (.slice (some ⟨k,0,none⟩) len cap)):Rep w I mu (.gel b i off sz) (.pointer (some ⟨k,i*sz+off,none⟩))
 |gsub (b i len sz:Nat) (A B:Option Addr) (n cap:Nat) (h:mu b=some (.slice A n cap)) (hle:i+len<=cap) (hB:cap≠i∨i=0->B=A.map (·.add (i*sz))):Rep w I mu (.gsub b i len sz) (.slice B len (cap-i))
 |yld (b l:Nat) (h:mu b=some (.pointer (some ⟨l,0,none⟩))):Rep w I mu (.yld b) (.func (.yield l) #[] #[])
theorem Ez{w w':World}{k o:Nat}(h:w'.heap[k]? =w.heap[k]?):w'.cell? ⟨k,o,none⟩=w.cell? ⟨k,o,none⟩:=by
 simp[World.cell?,h]
theorem Rep.mono{w w':World}{I I':Nat->Prop}{mu mu':Nat->Option Value}{d:D}{v:Value}(h:Rep w I mu d v)
  (hw:∀ k,I k->w'.heap[k]? =w.heap[k]?) (hI:∀ k,I k->I' k) (hmu:∀ b x,mu b=some x->mu' b=some x):Rep w' I' mu' d v:=by
 induction h with
 |any v=>exact .any v
 |val v ok=>exact .val v ok
 |cond g d v _ h' ih=>exact .cond g d v ih h'
 |agg cs us hl _ ih=>exact .agg cs us hl ih
 |tup cs us hl _ ih=>exact .tup cs us hl ih
 |slice es tight A k o sz cap u hA hc ht hm hlen hcell _ ih=>
  refine .slice es tight A k o sz cap u (fun h=>⟨(hA h).1,fun h'=>hI _ ((hA h).2 h')⟩) hc ht hm hlen (fun i j hi hj=>?_) ih
  rw[Ez (hw k ((hA (by omega)).2 (by omega)))]
  exact hcell i j hi hj
 |ptr cs off k o u hk hcell _ ih=>
  refine .ptr cs off k o u (fun h=>hI _ (hk h)) (fun j hj=>?_) ih
  rw[Ez (hw k (hk (by omega)))]
  exact hcell j hj
 |ref b i off sz k h=>exact .ref b i off sz k (hmu _ _ h)
 |sref b i len cap sz k h=>exact .sref b i len cap sz k (hmu _ _ h)
 |gref b len A cap h=>exact .gref b len A cap (hmu _ _ h)
 |mref b k h=>exact .mref b k (hmu _ _ h)
 |func fn fs cs us vs hl hk _ _ ih ih'=>exact .func fn fs cs us vs hl hk ih ih'
 |iface t d v _ ih=>exact .iface t d v ih
 |abool n pos b h=>exact .abool n pos b h
 |gel b i off sz k len cap h=>exact .gel b i off sz k len cap (hmu _ _ h)
 |gsub b i len sz A B n cap h hle hB=>exact .gsub b i len sz A B n cap (hmu _ _ h) hle hB
 |yld b l h=>exact .yld b l (hmu _ _ h)
section inv
variable{w:World}{I:Nat->Prop}{mu:Nat->Option Value}
theorem Rep.val_inv{x v:Value}(h:Rep w I mu (.val x) v):v=x:=by cases h;rfl
theorem Rep.val_ok{x v:Value}(h:Rep w I mu (.val x) v):okP x:=by cases h;assumption
theorem Rep.agg_inv{cs:List D}{v:Value}(h:Rep w I mu (.agg cs) v):∃ us:List Value,v=.agg us.toArray/\us.length=cs.length/\∀ i,i<cs.length->Rep w I mu (nd cs i) (nv us i):=by
 cases h with|agg cs us hl h=>exact ⟨us,rfl,hl,h⟩
theorem Rep.tup_inv{cs:List D}{v:Value}(h:Rep w I mu (.tup cs) v):∃ us:List Value,v=.tuple us.toArray/\us.length=cs.length/\∀ i,i<cs.length->Rep w I mu (nd cs i) (nv us i):=by
 cases h with|tup cs us hl h=>exact ⟨us,rfl,hl,h⟩
end inv
theorem Rep.loose{w:World}{I:Nat->Prop}{mu:Nat->Option Value}{es:List (List D)}{t:Bool}{v:Value}(h:Rep w I mu (.slice es t) v):Rep w I mu (.slice es false) v:=by
 cases h with
 |slice es tight A k o sz cap u hA hc ht hm hlen hcell h=>exact .slice es false A k o sz cap u hA hc (fun h=>by cases h) hm hlen hcell h
abbrev Env:=List (Nat×D)
def Env.get:Env->Nat->D
 |[],_=>.any
 |(k,d)::r,t=>bif k==t then d else Env.get r t
def FG(F:D->D):Env->Env
 |[]=>[]
 |(k,d)::r=>(k,F d)::FG F r
theorem Mu{F:D->D}{Q:D->Prop}(h0:Q .any):∀ {e:Env} {t:Nat},Q (F (e.get t))->Q ((FG F e).get t)
 |[],t,_=>h0
 |(k,d)::r,t,h=>by
  simp only[FG,Env.get] at h|-
  cases hk:k==t with
  |true=>simpa only[hk,cond_true] using h
  |false=>simp only[hk,cond_false] at h|-;exact Mu h0 h
def Xf(p:D->Bool):Env->Bool
 |[]=>true
 |(_,d)::r=>p d&&Xf p r
theorem Sj{p:D->Bool}(h0:p .any=true):∀ {e:Env},Xf p e=true->∀ t,p (e.get t)=true
 |[],_,t=>h0
 |(k,d)::r,h,t=>by
  simp only[Xf,A07] at h
  simp only[Env.get]
  cases hk:k==t with
  |true=>exact h.1
  |false=>exact Sj h0 h.2 t
theorem Hy{F:D->D}(hF:F .any=.any):∀ (e:Env) (t:Nat),(FG F e).get t=F (e.get t)
 |[],t=>hF.symm
 |(k,d)::r,t=>by
  simp only[FG,Env.get]
  cases hk:k==t with
  |true=>rfl
  |false=>exact Hy hF r t
inductive Blk where
 |rows (es:List (List D)) (sz:Nat)
 |grow (es:List (List D)) (sz:Nat)
 |map (es:List (Value×Nat×D)) (clock:Nat)
 |iter (m since:Nat) (seen:List Nat) (last:Nat)
 |obj (o:Obj)
 |loop (env:Env) (nt:Nat) (st:LoopState) (pd:Option Code) (ps:List Nat) (a c:Code)
 |pr (g:Nat) (p:Value->Value->Option Obj->Prop)
 |junk
def Ae:Value->Option Nat
 |.pointer (some a)=>some a.block
 |.slice (some a) _ cap=>if cap=0 then none else some a.block
 |.map (some k)=>some k
 |_=>none
def D7(w:World)(I:Nat->Prop)(mu:Nat->Option Value)(b:Nat):Blk->Prop
 |.rows es sz=>∃ (k:Nat) (T:TypeId) (us:List Value),mu b=some (.pointer (some ⟨k,0,none⟩))/\w.heap[k]? =some (.cells us.toArray T (0,0))/\us.length=es.length*sz/\
   (∀ i,i<es.length->(nr es i).length=sz)/\∀ i j,i<es.length->j<sz->Rep w I mu (nd (nr es i) j) (nv us (i*sz+j))
 |.grow es sz=>∃ (A:Option Addr) (cap:Nat) (T:TypeId) (us:List Value),mu b=some (.slice A es.length cap)/\(∀ i,i<es.length->(nr es i).length=sz)/\cap<=maxLen/\
   ((cap=0/\es=[])∨∃ k,0<cap/\A=some ⟨k,0,none⟩/\w.heap[k]? =some (.cells us.toArray T (0,0))/\es.length<=cap/\us.length=cap*sz/\
     ∀ i j,i<es.length->j<sz->Rep w I mu (nd (nr es i) j) (nv us (i*sz+j)))
 |.map es clock=>∃ (k:Nat) (l:List MapEntry),mu b=some (.map (some k))/\w.heap[k]? =some (.map l.toArray clock)/\l.map (·.key)=es.map (·.1)/\l.map (·.born)=es.map (·.2.1)/\
   ∀(i:Nat) (x:MapEntry) (y:Value×Nat×D),l[i]? =some x->es[i]? =some y->Rep w I mu y.2.2 x.val
 |.iter m since seen last=>∃ k km:Nat,mu b=some (.pointer (some ⟨k,0,none⟩))/\mu m=some (.map (some km))/\w.heap[k]? =some (.mapIter (some km) since seen.toArray last)
 |.obj o=>∃ k:Nat,mu b=some (.pointer (some ⟨k,0,none⟩))/\w.heap[k]? =some o
 |.loop env nt st pd ps a c=>∃ (k:Nat) (fn:FuncId) (tmps:Array Value) (kd:Nat),mu b=some (.pointer (some ⟨k,0,none⟩))/\w.heap[k]? =some (.loop {state:=st,pending:=pd,fn:=fn,tmps:=tmps,params:=ps.toArray,assign:=a,body:=c,defers:=kd})/\
   tmps.size=nt/\∀ t,Rep w I mu (env.get t) (tmps.getD t undef)
 |.pr g p=>∃ v u:Value,mu b=some v/\mu g=some u/\v≠undef/\u≠undef/\p v u ((Ae v).bind fun k=>w.heap[k]?)
 |.junk=>True
theorem obAt{w w':World}{mu:Nat->Option Value}{b:Nat}{v:Value}(h:mu b=some v)(hb:∀ x k,mu b=some x->Ae x=some k->w'.heap[k]? =w.heap[k]?):((Ae v).bind fun k=>w'.heap[k]?)=(Ae v).bind fun k=>w.heap[k]?:=by
 cases hl:Ae v with
 |none=>rfl
 |some k=>exact hb v k h hl
theorem D7.mono{w w':World}{I I':Nat->Prop}{mu mu':Nat->Option Value}{b:Nat}{blk:Blk}(h:D7 w I mu b blk)
  (hw:∀ k,I k->w'.heap[k]? =w.heap[k]?) (hI:∀ k,I k->I' k) (hmu:∀ b x,mu b=some x->mu' b=some x)
  (hb:∀ x k,mu b=some x->Ae x=some k->w'.heap[k]? =w.heap[k]?):D7 w' I' mu' b blk:=by
 cases blk with
 |rows es sz=>
  obtain⟨k,T,us,h1,h2,h3,h4,h5⟩:=h
  exact⟨k,T,us,hmu _ _ h1,by rw[hb _ k h1 rfl];exact h2,h3,h4,fun i j hi hj=>(h5 i j hi hj).mono hw hI hmu⟩
 |grow es sz=>
  obtain⟨A,cap,T,us,h1,h2,h3,h4⟩:=h
  refine⟨A,cap,T,us,hmu _ _ h1,h2,h3,?_⟩
  rcases h4 with h4|⟨k,h0,hA,h5,h6,h7,h8⟩
  ·exact .inl h4
  ·exact .inr ⟨k,h0,hA,by rw[hb _ k h1 (by rw[hA];simp[Ae];omega)];exact h5,h6,h7,fun i j hi hj=>(h8 i j hi hj).mono hw hI hmu⟩
 |map es clock=>
  obtain⟨k,l,h1,h2,h3,h4,h5⟩:=h
  exact⟨k,l,hmu _ _ h1,by rw[hb _ k h1 rfl];exact h2,h3,h4,fun i x y hx hy=>(h5 i x y hx hy).mono hw hI hmu⟩
 |iter m since seen last=>
  obtain⟨k,km,h1,h2,h3⟩:=h
  exact⟨k,km,hmu _ _ h1,hmu _ _ h2,by rw[hb _ k h1 rfl];exact h3⟩
 |obj o=>
  obtain⟨k,h1,h2⟩:=h
  exact⟨k,hmu _ _ h1,by rw[hb _ k h1 rfl];exact h2⟩
 |loop env nt st pd ps a c=>
  obtain⟨k,fn,tmps,kd,h1,h2,h3,h4⟩:=h
  exact⟨k,fn,tmps,kd,hmu _ _ h1,by rw[hb _ k h1 rfl];exact h2,h3,fun t=>(h4 t).mono hw hI hmu⟩
 |pr g p=>
  obtain⟨v,u,h1,h2,h3,h4,h5⟩:=h
  exact⟨v,u,hmu _ _ h1,hmu _ _ h2,h3,h4,by rw[obAt h1 hb];exact h5⟩
 |junk=>trivial
abbrev Hp:=List (Nat×Blk)
def Ad:Hp->Nat->Option Blk
 |[],_=>none
 |(k,x)::r,b=>bif k==b then some x else Ad r b
def del:Hp->Nat->Hp
 |[],_=>[]
 |(k,x)::r,b=>bif k==b then del r b else(k,x)::del r b
def upd(h:Hp)(b:Nat):Option Blk->Hp
 |none=>del h b
 |some x=>(b,x)::del h b
structure St where
 env:Env
 hp:Hp
 nx:Nat
theorem JA(h:Hp)(b c:Nat):Ad (del h b) c=if b=c then none else Ad h c:=by
 induction h with
 |nil=>simp [del,Ad]
 |cons x r ih=>
  obtain⟨k,x⟩:=x
  simp only[del]
  by_cases hkb:k=b
  ·subst hkb;simp only[beq_self_eq_true,cond_true,ih,Ad]
   by_cases hkc:k=c
   ·simp[hkc]
   ·have:(k==c)=false:=by simp[hkc]
    simp[this,hkc]
  ·have:(k==b)=false:=by simp[hkb]
   simp only[this,cond_false,Ad,ih]
   by_cases hkc:k=c
   ·subst hkc;simp[Ne.symm hkb]
   ·have:(k==c)=false:=by simp[hkc]
    simp[this]
theorem Jz(h:Hp)(b c:Nat)(x:Option Blk):Ad (upd h b x) c=if b=c then x else Ad h c:=by
 cases x with
 |none=>simp only[upd];rw[JA]
 |some x=>
  simp only[upd,Ad,JA]
  by_cases hbc:b=c
  ·simp[hbc]
  ·have:(b==c)=false:=by simp[hbc]
   simp[this,hbc]
mutual
def D.pure:D->Bool
 |.any=>true
 |.val _=>true
 |.cond _ d=>d.pure
 |.agg cs=>Ag cs
 |.tup cs=>Ag cs
 |.slice es _=>A6 es
 |.ptr cs _=>Ag cs
 |.func _ fs cs=>Ag fs&&Ag cs
 |.iface _ d=>d.pure
 |.abool _ _=>true
 |.gel _ _ _ _=>false
 |.gsub _ _ _ _=>false
 |.ref _ _ _ _=>false
 |.sref _ _ _ _ _=>false
 |.gref _ _=>false
 |.mref _=>false
 |.yld _=>false
def Ag:List D->Bool
 |[]=>true
 |d::r=>d.pure&&Ag r
def A6:List (List D)->Bool
 |[]=>true
 |l::r=>Ag l&&A6 r
end
theorem Cf:∀ {cs:List D},Ag cs=true->∀ i,(nd cs i).pure=true
 |[],_,i=>by simp[nd,D.pure]
 |d::r,h,0=>by simp only[Ag,A07] at h;simpa[nd] using h.1
 |d::r,h,i+1=>by simp only[Ag,A07] at h;have:=Cf h.2 i;simpa[nd] using this
theorem Hn:∀ {es:List (List D)},A6 es=true->∀ i,Ag (nr es i)=true
 |[],_,i=>by simp[nr,Ag]
 |d::r,h,0=>by simp only[A6,A07] at h;simpa[nr] using h.1
 |d::r,h,i+1=>by simp only[A6,A07] at h;have:=Hn h.2 i;simpa[nr] using this
theorem Rep.unmu{w:World}{I:Nat->Prop}{mu mu':Nat->Option Value}{d:D}{v:Value}(h:Rep w I mu d v)(hp:d.pure=true):Rep w I mu' d v:=by
 induction h with
 |any v=>exact .any v
 |val v ok=>exact .val v ok
 |cond g d v _ h' ih=>exact .cond g d v (fun hg=>ih hg (by simpa[D.pure] using hp)) h'
 |agg cs us hl _ ih=>exact .agg cs us hl fun i hi=>ih i hi (Cf (by simpa[D.pure] using hp) i)
 |tup cs us hl _ ih=>exact .tup cs us hl fun i hi=>ih i hi (Cf (by simpa[D.pure] using hp) i)
 |slice es tight A k o sz cap u hA hc ht hm hlen hcell _ ih=>
  exact .slice es tight A k o sz cap u hA hc ht hm hlen hcell fun i j hi hj=>ih i j hi hj (Cf (Hn (by simpa[D.pure] using hp) i) j)
 |ptr cs off k o u hk hcell _ ih=>exact .ptr cs off k o u hk hcell fun j hj=>ih j hj (Cf (by simpa[D.pure] using hp) j)
 |ref b i off sz k h=>simp [D.pure] at hp
 |sref b i len cap sz k h=>simp [D.pure] at hp
 |gref b len A cap h=>simp [D.pure] at hp
 |mref b k h=>simp [D.pure] at hp
 |func fn fs cs us vs hl hk _ _ ih ih'=>
  simp only[D.pure,A07] at hp
  exact .func fn fs cs us vs hl hk (fun i hi=>ih i hi (Cf hp.1 i)) fun i hi=>ih' i hi (Cf hp.2 i)
 |iface t d v _ ih=>exact .iface t d v (ih (by simpa[D.pure] using hp))
 |abool n pos b h=>exact .abool n pos b h
 |gel b i off sz k len cap h=>simp [D.pure] at hp
 |gsub b i len sz A B n cap h hle hB=>simp [D.pure] at hp
 |yld b l h=>simp [D.pure] at hp
structure Gh where
 st:Nat->Prop
 nm:Nat->Option Value
 dl:List Deferred
 F:Fence
 n:Nat
 hF:F=Fence.wide∨∃ l,F=Fence.wide.inRound l
instance:CoeFun Gh (fun _=>Nat->Prop):=⟨Gh.st⟩
def frN(n b:Nat):Prop:=b%2=0/\2*n<=b
structure FSt where
 env:Nat->D
 hp:Nat->Option Blk
def St.fs(s:St):FSt:=⟨s.env.get,Ad s.hp⟩
structure Ap(w0:World)(M0:Nat->Prop)(I0:Gh)(fr:Nat->Prop)(I:Nat->Prop)(mu:Nat->Option Value)(hp:Nat->Option Blk)(w:World):Prop where
 blk:∀ b x,hp b=some x->D7 w I mu b x
 loc:∀ b x v k,hp b=some x->mu b=some v->Ae v=some k->(M0 k∨w0.heap.size<=k)/\¬I k/\k<w.heap.size
 inj:∀ b c x y v u k,hp b=some x->hp c=some y->mu b=some v->mu c=some u->Ae v=some k->Ae u=some k->b=c
 fresh:∀ b,fr b->mu b=none
 lt:∀ k,I k->k<w.heap.size
 os:w.os=w0.os
 tape:w.tape=w0.tape
 output:w.output=w0.output
 grown:w0.heap.size<=w.heap.size
 old:∀ k,k<w0.heap.size->¬M0 k->w.heap[k]? =w0.heap[k]?
 iold:∀ k,I0 k->I k
 inew:∀ k,I k->I0 k∨M0 k∨w0.heap.size<=k
 keep:∀ b x,b%2=1->I0.nm b=some x->mu b=some x
 used:∀ b x,hp b=some x->¬fr b
structure Ext(I:Nat->Prop)(mu:Nat->Option Value)(w:World)(I':Nat->Prop)(mu':Nat->Option Value)(w':World):Prop where
 i:∀ k,I k->I' k
 m:∀ b x,mu b=some x->mu' b=some x
 w:∀ k,I k->w'.heap[k]? =w.heap[k]?
theorem Ext.refl(I:Nat->Prop)(mu:Nat->Option Value)(w:World):Ext I mu w I mu w:=⟨fun _ h=>h,fun _ _ h=>h,fun _ _=>rfl⟩
theorem Rep.ext{I I':Nat->Prop}{mu mu':Nat->Option Value}{w w':World}{d:D}{v:Value}(h:Rep w I mu d v)(e:Ext I mu w I' mu' w'):Rep w' I' mu' d v:=h.mono e.w e.i e.m
def BJ(n:Nat)(w0:World)(I:Nat->Prop)(w:World)(dl ds:List Deferred):Prop:=
 ∃ rs:List Nat,(n=1->rs=[])/\ds=rs.map (fun r=> {target:=.collected r,args:=#[]})++dl/\rs.Nodup/\∀ r ∈ rs,I r/\w0.heap.size<=r/\w.heap[r]? =some (.deferred (some []))
theorem BJ.refl{n:Nat}(w0:World)(I:Nat->Prop)(w:World)(dl:List Deferred):BJ n w0 I w dl dl:=⟨[],fun _=>rfl,rfl,List.nodup_nil,fun _ h=>by cases h⟩
theorem BJ.ext{n:Nat}{w0:World}{I I':Nat->Prop}{mu mu':Nat->Option Value}{w w':World}{dl ds:List Deferred}(h:BJ n w0 I w dl ds)(e:Ext I mu w I' mu' w'):BJ n w0 I' w' dl ds:=by
 obtain⟨rs,h0,h1,hn,h2⟩:=h
 refine⟨rs,h0,h1,hn,fun r hr=>?_⟩
 obtain⟨g2,g3,g4⟩:=h2 r hr
 exact⟨e.i r g2,g3,by rw[e.w r g2];exact g4⟩
theorem BJ.sub{n:Nat}{w0:World}{I I':Nat->Prop}{w:World}{dl ds:List Deferred}(h:BJ n w0 I w dl ds)(e:∀ k,I k->I' k):BJ n w0 I' w dl ds:=by
 obtain⟨rs,h0,h1,hn,h2⟩:=h
 exact⟨rs,h0,h1,hn,fun r hr=>⟨e r (h2 r hr).1,(h2 r hr).2⟩⟩
structure Rel(w0:World)(M0:Nat->Prop)(I0:Gh)(nt:Nat)(fr:Nat->Prop)(I:Nat->Prop)(mu:Nat->Option Value)(s:FSt)(a:Act)(w:World):Prop where
 size:a.tmps.size=nt
 defers:BJ I0.n w0 I w I0.dl a.defers
 env:∀ t,Rep w I mu (s.env t) (a.tmps.getD t undef)
 w:Ap w0 M0 I0 fr I mu s.hp w
def ofV:Value->D
 |.slice none 0 0=>.slice [] true
 |v=>bif okB v then .val v else .any
def Hg:List Value:=(List.replicate 128 (240:Int)++List.replicate 66 241++List.replicate 30 2++[19]++List.replicate 12 3++[35,3,3,52,4,4,4,68]++List.replicate 11 241).map fun n=>.int .u8 n
def DH:List Value:=([(128:Int),191,160,191,128,159,144,191,128,143]++List.replicate 22 0).map fun n=>.int .u8 n
def PR:List Value:=[1,10,100,1000,10000,100000,1000000,10000000,100000000,1000000000,10000000000,100000000000,1000000000000,10000000000000,100000000000000,1000000000000000,10000000000000000,100000000000000000,1000000000000000000,10000000000000000000].map fun n=>.int .u64 n
def bruijn32:List Value:=[0,1,28,2,29,14,24,3,30,22,20,15,25,17,4,8,31,27,13,23,21,19,16,7,26,12,18,6,11,5,10,9].map fun n=>.int .u8 n
def bruijn64:List Value:=[0,1,56,2,57,49,28,3,61,58,42,50,38,29,17,4,62,47,59,36,45,43,51,22,53,39,33,30,24,18,12,5,63,55,48,27,60,41,37,16,46,35,44,21,52,32,23,11,54,26,40,15,34,20,31,10,25,14,19,9,13,8,7,6].map fun n=>.int .u8 n
def Ze:List Value:=[[],[112,117,116],[100,101,108],[105,110,99],[99,97,115],[97,112,112,101,110,100],[109,111,118,101],[115,101,113]].map fun s=>.string ⟨⟨s⟩⟩
def gTabs:List (String×List Value):=[
 ("unicode/utf8.first",Hg),("unicode/utf8.acceptRanges",DH),("internal/strconv.uint64pow10",PR),
 ("math/bits.deBruijn32tab",bruijn32),("math/bits.deBruijn64tab",bruijn64),("commonplace/mutator.names",Ze)]
def L6(P:Program)(g:Nat):Option (List Value):=(gTabs.find? fun p=>P.globalNamed p.1==some g).map (·.2)
def GA(P:Program)(w0:World)(M0:Nat->Prop)(I0:Gh):Prop:=∀ g l,L6 P g=some l->I0 g/\g<w0.heap.size/\¬M0 g/\∃ T fz,w0.heap[g]? =some (.cells l.toArray T fz)
def GIn(P:Program)(w:World)(I:Nat->Prop):Prop:=∀ g l,L6 P g=some l->I g/\∃ T fz,w.heap[g]? =some (.cells l.toArray T fz)
theorem GA.at{P:Program}{w0 w:World}{M0:Nat->Prop}{I0:Gh}{fr I:Nat->Prop}{mu:Nat->Option Value}{h:Nat->Option Blk}(g:GA P w0 M0 I0)(r:Ap w0 M0 I0 fr I mu h w):GIn P w I:=fun k l hl=>by
 obtain⟨h1,h2,h3,T,fz,h4⟩:=g k l hl
 exact⟨r.iold k h1,T,fz,by rw[r.old k h2 h3];exact h4⟩
theorem gTabs_ok:(gTabs.all fun p=>p.2.all okB)=true:=by decide+kernel
theorem gtab_ok{P:Program}{g:Nat}{l:List Value}(h:L6 P g=some l):∀ v ∈ l,okP v:=by
 unfold L6 at h
 rw[A1z] at h
 obtain⟨p,hp,rfl⟩:=h
 have h1:=A0u.1 gTabs_ok p (List.mem_of_find?_eq_some hp)
 exact fun v hv=>LW (A0u.1 h1 v hv)
def evO(P:Program)(env:Nat->D):Operand->D
 |.tmp t=>env t
 |.const v=>ofV v
 |.global g=>match L6 P g with
  |some l=>.ptr (l.map .val) 0
  |none=>.val (.pointer (some ⟨g,0,none⟩))
 |.func f=>.func (.func f) [] []
theorem FR(w:World)(I:Nat->Prop)(mu:Nat->Option Value)(v:Value):Rep w I mu (ofV v) v:=by
 unfold ofV
 split
 ·exact .slice [] true none 0 0 0 0 (fun _ _=>.nilFunc) (fun h=>absurd h (by simp)) (A0a _) (fun _=>rfl) (A0D _) (fun i h=>absurd h (by simp)) (fun i j h=>absurd h (by simp)) (fun i j h=>absurd h (by simp))
 ·cases h:okB v with
  |true=>exact .val v (LW h)
  |false=>exact .any v
theorem DY{P:Program}{w:World}{I:Nat->Prop}{mu:Nat->Option Value}{env:Nat->D}{a:Act}(hg:GIn P w I)(h:∀ t,Rep w I mu (env t) (a.tmps.getD t undef))(x:Operand):Rep w I mu (evO P env x) (a.eval x):=by
 cases x with
 |tmp t=>exact h t
 |const v=>exact FR w I mu v
 |global g=>
  show Rep w I mu (match L6 P g with|some l=>.ptr (l.map .val) 0|none=>.val (.pointer (some ⟨g,0,none⟩))) (.pointer (some ⟨g,0,none⟩))
  cases hl:L6 P g with
  |none=>exact .val _ trivial
  |some l=>
   obtain⟨h1,T,fz,h2⟩:=hg g l hl
   refine .ptr (l.map .val) 0 g 0 (fun j=>nv l j) (fun _=>h1) (fun j hj=>?_) fun j hj=>?_
   ·simp only[A06] at hj
    simp only[World.cell?,h2,A1f,nv]
    rw[if_neg (by simp)]
    simp[A02,hj]
   ·simp only[A06] at hj
    have e1:nd (l.map .val) j=.val l[j]:=by simp[nd,A02,hj]
    have e2:nv l j=l[j]:=by simp[nv,A02,hj]
    rw[e1,e2]
    exact .val _ (gtab_ok hl _ (A0X hj))
 |func f=>exact .func (.func f) [] [] [] [] rfl rfl (fun i h=>absurd h (by simp)) (fun i h=>absurd h (by simp))
inductive AE where
 |normal
 |exit (id:Nat)
 |goto (l:Nat)
 |ret
 |panic (d:D)
def FK(w:World)(I:Nat->Prop)(mu:Nat->Option Value):AE->Exit->Prop
 |.normal,.normal=>True
 |.exit i,.exit j=>i=j
 |.goto i,.goto j=>i=j
 |.ret,.ret=>True
 |.panic d,.panic ch=>∃ v,ch=[{v,recovered:=false}]/\Rep w I mu d v
 |_,_=>False
def VJ(w0:World)(M0:Nat->Prop)(I0:Gh)(nt:Nat)(Q:AE->St->Prop)(e:Exit)(a':Act)(w':World):Prop:=
 ∃ x s' I' mu',Q x s'/\FK w' I' mu' x e/\Rel w0 M0 I0 nt (frN s'.nx) I' mu' s'.fs a' w'
def AWp(P:Program)(nt:Nat)(c:Code)(Q:AE->St->Prop)(s:St):Prop:=
 ∀ w0 M0 I0,GA P w0 M0 I0->∀ I mu a w,Rel w0 M0 I0 nt (frN s.nx) I mu s.fs a w->c.wpIn I0.F I0.n P (VJ w0 M0 I0 nt Q) a w
theorem Gh.fn(G:Gh)(f:FuncId):G.F.fn f:=by
 rcases G.hF with h|⟨l,h⟩<;>rw [h]<;>trivial
theorem Gh.depth(G:Gh):G.F.depth=none:=by
 rcases G.hF with h|⟨l,h⟩<;>rw [h]<;>rfl
theorem T6{P:Program}{F:Fence}{n:Nat}{c:Code}{Q:Exit->Act->World->Prop}{a:Act}{w:World}(h:c.wpIn F n P (fun e a w=>match e with|.goto _=>False|e=>Q e a w) a w):(Code.scope c).wpIn F n P Q a w:=by
 intro b k cs hro hb hr
 have s1:∀ {a:Act} {w:World},step P (lone (b.atR a (.code (.scope c)::k)) cs w)=.next (lone (b.atR a (.code c:: .inScope c::k)) cs w):=
  step_lone_go (by simp[stepG,stepG.exec,Frame.atR])
 have s2:∀ {a:Act} {w:World},step P (lone (b.atR a (.inScope c::k)) cs w)=.next (lone (b.atR a k) cs w):=
  step_lone_go (by simp[stepG,stepG.exec,Frame.atR])
 have f1:∀ {a:Act} {w:World} {t:List Item},(lone (b.atR a (.code (.scope c)::t)) cs w).fenced P F:=fenced_calm hb hr rfl
 have f2:∀ {a:Act} {w:World} {t:List Item},(lone (b.atR a (.inScope c::t)) cs w).fenced P F:=fenced_calm hb hr rfl
 obtain⟨e,a₁,w₁,hq,harr⟩:=h b (.inScope c::k) cs hro hb hr
 cases e with
 |normal=>exact ⟨.normal,a₁,w₁,hq,.head f1 s1 (StepsIn.trans harr (.one f2 s2))⟩
 |exit id=>exact ⟨.exit id,a₁,w₁,hq,fun k' hk=>.head f1 s1 (harr.1 k' (by simp[exitTo,hk])),fun hr' hk=>let ⟨k₁,h1,h2⟩:=harr.2 hr' (by simp[exitTo,hk]);⟨k₁,h1,.head f1 s1 h2⟩⟩
 |goto l=>exact hq.elim
 |ret=>exact ⟨_,a₁,w₁,hq,.of_steps (.one f1 s1) harr⟩
 |panic ch=>exact ⟨_,a₁,w₁,hq,.of_steps (.one f1 s1) harr⟩
 |outgrown=>exact ⟨_,a₁,w₁,hq,.of_steps (.one f1 s1) harr⟩
section rules
variable{P:Program}{nt:Nat}{Q:AE->St->Prop}{s:St}
theorem AWp.mono{c:Code}{Q':AE->St->Prop}(h:AWp P nt c Q s)(hq:∀ e s,Q e s->Q' e s):AWp P nt c Q' s:=
 fun w0 M0 I0 g I mu a w r=>wpIn_mono (h w0 M0 I0 g I mu a w r) fun _ _ _ ⟨x,s',I',mu',q,rest⟩=>⟨x,s',I',mu',hq _ _ q,rest⟩
def Ar(s s':St):Prop:=∀ w0 M0 I0 nt I mu a w,Rel w0 M0 I0 nt (frN s.nx) I mu s.fs a w->∃ I' mu',Rel w0 M0 I0 nt (frN s'.nx) I' mu' s'.fs a w
theorem Ar.refl(s:St):Ar s s:=fun _ _ _ _ I mu _ _ r=>⟨I,mu,r⟩
theorem Ar.trans{s s' s'':St}(h:Ar s s')(k:Ar s' s''):Ar s s'':=fun w0 M0 I0 nt I mu a w r=>
 let⟨I',mu',r'⟩:=h w0 M0 I0 nt I mu a w r
 k w0 M0 I0 nt I' mu' a w r'
def Ym(next:St->Prop)(Q:AE->St->Prop):AE->St->Prop
 |.normal,s=>next s
 |e,s=>Q e s
theorem AWp.seq{x y:Code}(h:AWp P nt x (Ym (fun s=>AWp P nt y Q s) Q) s):AWp P nt (.seq x y) Q s:=fun w0 M0 I0 g I mu a w r=>
 wpIn_seq (wpIn_mono (h w0 M0 I0 g I mu a w r) fun e a' w' hx=>by
  obtain⟨x,s',I',mu',q,he,r'⟩:=hx
  cases x<;>cases e<;>simp only[FK] at he
  case normal.normal=>exact q w0 M0 I0 g I' mu' a' w' r'
  all_goals exact⟨_,s',I',mu',q,he,r'⟩)
def Jk(id:Nat)(Q:AE->St->Prop):AE->St->Prop
 |.exit j,s=>if j=id then Q .normal s else Q (.exit j) s
 |e,s=>Q e s
theorem AWp.block{id:Nat}{c:Code}(h:AWp P nt c (Jk id Q) s):AWp P nt (.block id c) Q s:=fun w0 M0 I0 g I mu a w r=>
 wpIn_block (wpIn_mono (h w0 M0 I0 g I mu a w r) fun e a' w' hx=>by
  obtain⟨x,s',I',mu',q,he,r'⟩:=hx
  cases x<;>cases e<;>simp only[FK] at he
  case exit.exit=>
   rename_i i j
   subst he
   simp only[Jk] at q
   simp only[Exit.inBlock]
   by_cases hi:i=id
   ·rw[if_pos hi] at q|-;exact⟨.normal,s',I',mu',q,trivial,r'⟩
   ·rw[if_neg hi] at q|-;exact⟨.exit i,s',I',mu',q,rfl,r'⟩
  all_goals exact⟨_,s',I',mu',q,he,r'⟩)
theorem AWp.ret(h:Q .ret s):AWp P nt .ret Q s:=fun _ _ _ _ I mu _ _ r=>wpIn_ret ⟨.ret,s,I,mu,h,trivial,r⟩
theorem AWp.skip(h:Q .normal s):AWp P nt .skip Q s:=fun _ _ _ _ I mu _ _ r=>wpIn_skip ⟨.normal,s,I,mu,h,trivial,r⟩
theorem AWp.exit{id:Nat}(h:Q (.exit id) s):AWp P nt (.exit id) Q s:=fun _ _ _ _ I mu _ _ r=>wpIn_exit ⟨.exit id,s,I,mu,h,rfl,r⟩
theorem AWp.label{l:Nat}(h:Q .normal s):AWp P nt (.label l) Q s:=fun _ _ _ _ I mu _ _ r=>wpIn_label ⟨.normal,s,I,mu,h,trivial,r⟩
theorem AWp.scope{c:Code}(h:AWp P nt c (fun e s=>match e with|.goto _=>False|e=>Q e s) s):AWp P nt (.scope c) Q s:=fun w0 M0 I0 g I mu a w r=>
 T6 (wpIn_mono (h w0 M0 I0 g I mu a w r) fun e a' w' hx=>by
  obtain⟨x,s',I',mu',q,he,r'⟩:=hx
  cases x<;>cases e<;>simp only[FK] at he
  case goto.goto=>exact q.elim
  all_goals exact⟨_,s',I',mu',q,he,r'⟩)
theorem AWp.cond{c:Operand}{x y:Code}{b:Bool}(hc:evO P s.env.get c=.val (.bool b))(ht:b=true->AWp P nt x Q s)(hf:b=false->AWp P nt y Q s):AWp P nt (.cond c x y) Q s:=fun w0 M0 I0 g I mu a w r=>by
 have hv:a.eval c=.bool b:=by
  have:=DY (env:=s.env.get) (g.at r.w) r.env c
  rw[hc] at this
  exact this.val_inv
 cases b with
 |true=>exact wpIn_cond_true hv (ht rfl w0 M0 I0 g I mu a w r)
 |false=>exact wpIn_cond_false hv (hf rfl w0 M0 I0 g I mu a w r)
theorem AWp.condA{c:Operand}{x y:Code}{n:Nat}{pos:Bool}(hc:evO P s.env.get c=.abool n pos)(ht:(pos=true->n=0)->AWp P nt x Q s)(hf:(pos=false->n=0)->AWp P nt y Q s):AWp P nt (.cond c x y) Q s:=fun w0 M0 I0 g I mu a w r=>by
 have hv:∃ b,a.eval c=.bool b/\(b=pos->n=0):=by
  have:=DY (env:=s.env.get) (g.at r.w) r.env c
  rw[hc] at this
  generalize a.eval c=v at this
  cases this with
  |abool _ _ b h=>exact ⟨b,rfl,h⟩
 obtain⟨b,hv,hn⟩:=hv
 cases b with
 |true=>exact wpIn_cond_true hv (ht (fun h=>hn h.symm) w0 M0 I0 g I mu a w r)
 |false=>exact wpIn_cond_false hv (hf (fun h=>hn h.symm) w0 M0 I0 g I mu a w r)
theorem AWp.loop{c:Code}{ι:Type}(S:ι->St)(m:ι->Nat)(i0:ι)(h0:Ar s (S i0))
  (round:∀ i,AWp P nt c (fun e s'=>match e with|.normal=>∃ j,m j<m i/\Ar s' (S j)|e=>Q e s') (S i)):AWp P nt (.loop c) Q s:=fun w0 M0 I0 g I mu a w r=>by
 obtain⟨I₀,mu',r'⟩:=h0 w0 M0 I0 nt I mu a w r
 intro b k cs hro hb hr
 have key:∀ n i I mu a w,m i=n->Rel w0 M0 I0 nt (frN (S i).nx) I mu (S i).fs a w->
   ∃ e a' w',VJ w0 M0 I0 nt Q e a' w'/\ArrivesIn (Machine.fenced P I0.F) P (lone (b.atR a (.code c:: .inLoop c::k)) cs w) b k cs e a' w':=by
  intro n
  induction n using Nat.strongRecOn with
  |_ n ih=>
   intro i I mu a w hn r
   obtain⟨e,a₁,w₁,⟨x,s',I',mu',q,he,r'⟩,harr⟩:=round i w0 M0 I0 g I mu a w r b (.inLoop c::k) cs hro hb hr
   cases x<;>cases e<;>simp only[FK] at he
   case normal.normal=>
    obtain⟨j,hlt,hw⟩:=q
    obtain⟨I'',mu'',r''⟩:=hw w0 M0 I0 nt I' mu' a₁ w₁ r'
    obtain⟨e₂,a₂,w₂,hq₂,harr₂⟩:=ih (m j) (hn▸hlt) j I'' mu'' a₁ w₁ rfl r''
    exact⟨e₂,a₂,w₂,hq₂,.of_steps (StepsIn.trans harr (.one (fenced_calm hb hr rfl) stepR_inLoop)) harr₂⟩
   all_goals
    refine⟨_,a₁,w₁,?_,.pass (x:=.inLoop c) rfl (fun _ _=>.inl (by simp)) harr⟩
    exact⟨_,s',I',mu',q,he,r'⟩
 obtain⟨e,a',w',hq,harr⟩:=key _ i0 I₀ mu' a w rfl r'
 exact⟨e,a',w',hq,.of_steps (.one (fenced_calm hb hr rfl) stepR_loop) harr⟩
end rules
structure Eff where
 d:D
 up:List (Nat×Option Blk)
 rd:List Nat
def AO(b:Nat)(x:Option Blk)(up:List (Nat×Option Blk)):Option Blk:=up.foldl (fun x p=>if p.1=b then p.2 else x) x
def E2(hp:Hp)(up:List (Nat×Option Blk)):Hp:=up.foldl (fun h p=>upd h p.1 p.2) hp
theorem EE(up:List (Nat×Option Blk)):∀ (hp:Hp) (b:Nat),Ad (E2 hp up) b=AO b (Ad hp b) up:=by
 induction up with
 |nil=>intro hp b;rfl
 |cons p up ih=>
  intro hp b
  have:=ih (upd hp p.1 p.2) b
  simp only[E2,AO,A0r] at this|-
  rw[this,Jz]
def FSt.app(s:FSt)(dst:Option Nat)(e:Eff):FSt:=⟨fun t=>if dst=some t then e.d else s.env t,fun b=>AO b (s.hp b) e.up⟩
def St.app(s:St)(dst:Option Nat)(e:Eff):St:=⟨match dst with|some t=>(t,e.d)::s.env|none=>s.env,E2 s.hp e.up,s.nx⟩
theorem St.app_fs(s:St)(dst:Option Nat)(e:Eff):(s.app dst e).fs=s.fs.app dst e:=by
 unfold St.app St.fs FSt.app
 congr 1
 ·funext t
  cases dst with
  |none=>simp
  |some d=>
   simp only[Env.get,A03]
   by_cases h:d=t
   ·simp[h]
   ·have:(d==t)=false:=by simp[h]
    simp[this,h]
 ·funext b;exact EE e.up s.hp b
theorem Rel.free{w0:World}{M0:Nat->Prop}{I0:Gh}{nt:Nat}{fr fr' I:Nat->Prop}{mu:Nat->Option Value}{s:FSt}{a:Act}{w:World}(h:Rel w0 M0 I0 nt fr I mu s a w)(hf:∀ b,fr' b->fr b):Rel w0 M0 I0 nt fr' I mu s a w:=
 ⟨h.size,h.defers,h.env,⟨h.w.blk,h.w.loc,h.w.inj,fun b hb=>h.w.fresh b (hf b hb),h.w.lt,h.w.os,h.w.tape,h.w.output,h.w.grown,h.w.old,h.w.iold,h.w.inew,h.w.keep,fun b x hx hb=>h.w.used b x hx (hf b hb)⟩⟩
def Bd(P:Program)(ops:Array Oper)(o:Oper)(id:Nat)(s0:FSt)(e:Eff):Prop:=
 ∀ w0 M0 I0 nt fr I mu s a w,GA P w0 M0 I0->Rel w0 M0 I0 nt fr I mu s a w->(∀ j,j<4->fr (id+2*j))->(∀ d,o.dst=some d->d<nt)->(∀ t ∈ o.looksAt ops,s.env t=s0.env t)->(∀ b ∈ e.rd,s.hp b=s0.hp b)->
  ∀ K Q,(∀ a' w' I' mu',Rel w0 M0 I0 nt (fun b=>fr b/\∀ j,j<4->b≠id+2*j) I' mu' (s.app o.dst e) a' w'->K a' w')->
   (if Region.wanted o (yielded ops a.tmps)=true then o.wpIn I0.F I0.n P a w K Q else(∀ f,o.about P w a.eval=some f->I0.F.fn f)/\K (a.put o.dst undef) w)
def SoundF(P:Program)(ops:Array Oper)(o:Oper)(id:Nat)(s0:FSt)(F:Eff->Prop):Prop:=
 ∀ w0 M0 I0 nt fr I mu a w,GA P w0 M0 I0->Rel w0 M0 I0 nt fr I mu s0 a w->(∀ j,j<4->fr (id+2*j))->(∀ d,o.dst=some d->d<nt)->
  ∀ K Q,(∀ e,F e->∀ a' w' I' mu',Rel w0 M0 I0 nt (fun b=>fr b/\∀ j,j<4->b≠id+2*j) I' mu' (s0.app o.dst e) a' w'->K a' w')->
   (if Region.wanted o (yielded ops a.tmps)=true then o.wpIn I0.F I0.n P a w K Q else(∀ f,o.about P w a.eval=some f->I0.F.fn f)/\K (a.put o.dst undef) w)
def SoundP(P:Program)(ops:Array Oper)(o:Oper)(s0:FSt)(d:D):Prop:=
 ∀ w0 M0 I0 nt fr I mu a w,GA P w0 M0 I0->Rel w0 M0 I0 nt fr I mu s0 a w->
  ∀(K:Act->World->Prop) (Q:Exit->Act->World->Prop),(∀ v w' I',Rel w0 M0 I0 nt fr I' mu s0 a w'->Rep w' I' mu d v->Q (.panic [{v,recovered:=false}]) a w')->
   Region.wanted o (yielded ops a.tmps)=true/\o.wpIn I0.F I0.n P a w K Q
def bad:Eff:=⟨.any,[(0,none),(0,none),(0,none),(0,none),(0,none)],[]⟩
abbrev Bn:Nat:=1000000
def Run(P:Program)(ops:Array Oper)(nx:Nat):List Oper->Nat->List Eff->St->(List Eff->St->Prop)->Prop
 |[],_,acc,s,K=>K acc.reverse s
 |o::r,pos,acc,s,K=>(∃ e,Bd P ops o (2*(nx+4*pos)) s.fs e/\Run P ops nx r (pos+1) (e::acc) (s.app o.dst e) K)∨
  (∃ F:Eff->Prop,(∃ e,F e)/\SoundF P ops o (2*(nx+4*pos)) s.fs F/\∀ e,F e->Run P ops nx r (pos+1) (bad::acc) (s.app o.dst e) K)∨
  (∃ d,SoundP P ops o s.fs d/\K [] ⟨(Bn,d)::s.env,s.hp,s.nx⟩)
def Jr(nt:Nat)(l:List Oper):Bool:=l.all fun o=>match o.dst with|some d=>decide (d<nt)|none=>true
theorem TP{nt:Nat}{l:List Oper}(h:Jr nt l=true):∀ o ∈ l,∀ d,o.dst=some d->d<nt:=by
 intro o ho d hd
 have:=A0u.1 h o ho
 rw[hd] at this
 simpa using this
section
variable{P:Program}{ops:Array Oper}{nx nt:Nat}{w0:World}{M0:Nat->Prop}{I0:Gh}{Q:Exit->Act->World->Prop}
def L4(l:List Oper)(E:List Eff)(x y:Prop):Prop:=
 match E,l with
 |[],_::_=>y
 |_,_=>x
def RJ(Q:AE->St->Prop)(nx:Nat)(s:St):Prop:=Q (.panic (s.env.get Bn)) ⟨(Bn,.any)::s.env,s.hp,nx⟩
theorem Rel.pan{w0:World}{M0:Nat->Prop}{I0:Gh}{nt:Nat}{fr I:Nat->Prop}{mu:Nat->Option Value}{s:St}{a:Act}{w:World}(h:Rel w0 M0 I0 nt fr I mu s.fs a w)(d:D)(n:Nat):
  Rel w0 M0 I0 nt fr I mu (St.fs ⟨(Bn,.any)::(Bn,d)::s.env,s.hp,n⟩) a w:=by
 refine⟨h.size,h.defers,fun t=>?_,h.w⟩
 show Rep w I mu (Env.get ((Bn,.any)::(Bn,d)::s.env) t) _
 simp only[Env.get]
 by_cases ht:Bn=t
 ·subst ht;simp only[beq_self_eq_true,cond_true];exact .any _
 ·have:(Bn==t)=false:=by simpa using ht
  simp only[this,cond_false];exact h.env t
theorem Run.ops_seq(hga:GA P w0 M0 I0)(K:List Eff->St->Prop)(hP:∀ (n:Nat) (d:D) (s':St) (a':Act) (w':World) (I':Nat->Prop) (mu':Nat->Option Value) (v:Value),nx<=n->K [] ⟨(Bn,d)::s'.env,s'.hp,s'.nx⟩->Rel w0 M0 I0 nt (frN n) I' mu' s'.fs a' w'->n<=nx+4*ops.size->Rep w' I' mu' d v->ops.size≠0->Q (.panic [{v,recovered:=false}]) a' w'):
  ∀(l:List Oper) (pos:Nat) (acc:List Eff) (s:St) (I:Nat->Prop) (mu:Nat->Option Value) (a:Act) (w:World),
  Run P ops nx l pos acc s K->acc.length=pos->pos+l.length=ops.size->(∀ j,l[j]? =ops[pos+j]?)->Jr nt l=true->Rel w0 M0 I0 nt (frN (nx+4*pos)) I mu s.fs a w->
  (∀ E s' a' w' I' mu',E.length=ops.size->K E s'->Rel w0 M0 I0 nt (frN (nx+4*(pos+l.length))) I' mu' s'.fs a' w'->Q .normal a' w')->wpOpsIn I0.F I0.n P ops Q (List.range' pos l.length) a w:=by
 intro l
 induction l with
 |nil=>
  intro pos acc s I mu a w h ha hz hl hin r hK
  simp only[A0t,List.range'_zero,wpOpsIn]
  exact hK _ _ _ _ _ _ (by simp at hz|-;omega) h (by simpa using r)
 |cons o l ih=>
  intro pos acc s I mu a w h ha hz hl hin r hK
  have ho:ops[pos]? =some o:=by simpa using(hl 0).symm
  simp only[A0g,List.range'_succ,wpOpsIn,ho]
  simp only[Jr,List.all_cons,A07] at hin
  have hdst:∀ d,o.dst=some d->d<nt:=fun d hd=>by have:=hin.1;rw[hd] at this;simpa using this
  have next:∀ x e a' w' I' mu',Run P ops nx l (pos+1) (x::acc) (s.app o.dst e) K->Rel w0 M0 I0 nt (fun b=>frN (nx+4*pos) b/\∀ j,j<4->b≠2*(nx+4*pos)+2*j) I' mu' (s.fs.app o.dst e) a' w'->wpOpsIn I0.F I0.n P ops Q (List.range' (pos+1) l.length) a' w':=by
   intro x e a' w' I' mu' hr r'
   rw[<-St.app_fs] at r'
   refine ih (pos+1) (x::acc) _ I' mu' a' w' hr (by simp[ha]) (by simp at hz|-;omega) (fun j=>?_) hin.2 (r'.free fun b hb=>?_) ?_
   ·have:=hl (j+1)
    simpa[A1l,Nat.add_comm 1 j] using this
   ·obtain⟨hb1,hb2⟩:=hb
    exact⟨⟨hb1,by omega⟩,fun j hj=>by omega⟩
   ·intro E s' a' w' I' mu' hE hk r''
    refine hK E s' a' w' I' mu' hE hk (r''.free fun b hb=>?_)
    obtain⟨hb1,hb2⟩:=hb
    rw[A0g] at hb2
    exact⟨hb1,by omega⟩
  rcases h with⟨e,hs,hr⟩|⟨F,he,hs,hr⟩|⟨d,hs,hk⟩
  ·exact hs w0 M0 I0 nt _ I mu s.fs a w hga r (fun j hj=>⟨by omega,by omega⟩) hdst (fun _ _=>rfl) (fun _ _=>rfl) _ Q fun a' w' I' mu' r'=>next e e a' w' I' mu' hr r'
  ·exact hs w0 M0 I0 nt _ I mu a w hga r (fun j hj=>⟨by omega,by omega⟩) hdst _ Q fun e hF a' w' I' mu' r'=>next bad e a' w' I' mu' (hr e hF) r'
  ·obtain⟨h1,h2⟩:=hs w0 M0 I0 nt _ I mu a w hga r (wpOpsIn I0.F I0.n P ops Q (List.range' (pos+1) l.length)) Q fun v w' I' r' hv=>hP (nx+4*pos) d s a w' I' mu v (by omega) hk r' (by simp at hz;omega) hv (by simp at hz;omega)
   rw[if_pos h1]
   exact h2
def Mv(ops:Array Oper)(i:Nat):Option Nat:=(ops[i]?).bind (·.dst)
def Ey(E:List Eff)(i:Nat):Eff:=E.getD i ⟨.any,[],[]⟩
def Dz(ops:Array Oper)(E:List Eff)(s:FSt)(i:Nat):FSt:=s.app (Mv ops i) (Ey E i)
def Cj(ops:Array Oper)(E:List Eff)(l:List Nat)(s:FSt):FSt:=l.foldl (Dz ops E) s
theorem Ko{E:List Eff}(l:List Nat):∀ (s:FSt) (t:Nat),(Cj ops E l s).env t=l.foldl (fun d i=>if Mv ops i=some t then(Ey E i).d else d) (s.env t):=by
 induction l with
 |nil=>intro s t;rfl
 |cons i l ih=>intro s t;simp only[Cj,A0r] at ih|-;rw[ih];rfl
theorem Mi{E:List Eff}(l:List Nat):∀ (s:FSt) (b:Nat),(Cj ops E l s).hp b=l.foldl (fun x i=>AO b x (Ey E i).up) (s.hp b):=by
 induction l with
 |nil=>intro s t;rfl
 |cons i l ih=>intro s t;simp only[Cj,A0r] at ih|-;rw[ih];rfl
theorem Mf{α β:Type}(f:β->α->β)(p:α->Bool):∀ (l:List α) (x:β),(∀ i ∈ l,p i=false->∀ y,f y i=y)->(l.filter p).foldl f x=l.foldl f x:=by
 intro l
 induction l with
 |nil=>intro x _;rfl
 |cons i l ih=>
  intro x h
  cases hp:p i with
  |true=>rw [A1W hp];simp only[A0r];exact ih _ fun j hj=>h j (A0p _ hj)
  |false=>
   rw[A1X (by simp[hp])]
   simp only[A0r,h i A0B hp x]
   exact ih _ fun j hj=>h j (A0p _ hj)
theorem Mh{α β:Type}(f:β->α->β):∀ (l:List α) (x:β),(∀ i ∈ l,∀ y,f y i=y)->l.foldl f x=x:=by
 intro l
 induction l with
 |nil=>intro x _;rfl
 |cons i l ih=>intro x h;simp only[A0r,h i A0B x];exact ih x fun j hj=>h j (A0p _ hj)
theorem Mg{α β:Type}(f g:β->α->β):∀ (l:List α) (x:β),(∀ i ∈ l,∀ y,f y i=g y i)->l.foldl f x=l.foldl g x:=by
 intro l
 induction l with
 |nil=>intro x _;rfl
 |cons i l ih=>intro x h;simp only[A0r,h i A0B x];exact ih _ fun j hj=>h j (A0p _ hj)
theorem EC{b:Nat}:∀ {up:List (Nat×Option Blk)},(∀ p ∈ up,p.1≠b)->∀ x,AO b x up=x:=by
 intro up h x
 exact Mh _ up x fun p hp y=>if_neg (h p hp)
theorem SX{E:List Eff}{i j:Nat}(s:FSt)(h1:∀ t,Mv ops i=some t->Mv ops j≠some t)(h2:∀ b,b ∈ (Ey E i).up.map (·.1)->b ∉ (Ey E j).up.map (·.1)):
  Dz ops E (Dz ops E s i) j=Dz ops E (Dz ops E s j) i:=by
 unfold Dz FSt.app
 simp only
 congr 1
 ·funext t
  by_cases hi:Mv ops i=some t
  ·simp[hi,h1 t hi]
  ·simp[hi]
 ·funext b
  by_cases hi:b ∈ (Ey E i).up.map (·.1)
  ·have hj:=h2 b hi
   have ej:∀ x,AO b x (Ey E j).up=x:=EC fun p hp hb=>hj (A0l.2 ⟨p,hp,hb⟩)
   rw[ej,ej]
  ·have ei:∀ x,AO b x (Ey E i).up=x:=EC fun p hp hb=>hi (A0l.2 ⟨p,hp,hb⟩)
   rw[ei,ei]
def RC(ops:Array Oper):Nat->Nat->Nat->Bool
 |0,_,_=>false
 |n+1,j,i=>match ops[j]? with
  |none=>false
  |some o=>(o.after.any fun e=>e.on==i&&Region.binds .any e) ||o.after.any fun e=>decide (i<e.on)&&Region.binds .any e&&RC ops n e.on i
def MD(ops:Array Oper)(sk:List (List Nat×List Nat))(i j:Nat):Bool:=
 match ops[i]?,ops[j]? with
 |some x,some y=>
  !(Oper.apart ops x y) ||(sk.getD i ([],[])).1.any (fun b=>(sk.getD j ([],[])).1.contains b ||(sk.getD j ([],[])).2.contains b) ||(sk.getD i ([],[])).2.any (fun b=>(sk.getD j ([],[])).1.contains b)
 |_,_=>false
def Fr(E:List Eff):List (List Nat×List Nat):=E.map fun e=>(e.up.map (·.1),e.rd)
def Dt(ops:Array Oper)(sk:List (List Nat×List Nat)):Bool:=
 sk.length==ops.size&&(sk.all fun p=>!(p.1==[0,0,0,0,0]))&&(List.range ops.size).all fun j=>(match ops[j]? with|some o=>o.after.all fun e=>!Region.binds .any e ||decide (e.on<j)|none=>true)&&
  (List.range j).all fun i=>!MD ops sk i j ||RC ops ops.size j i
def Clo(ops:Array Oper)(ls:Array Bool):Prop:=∀ i o,ls.getD i false=true->ops[i]? =some o->∀ e ∈ o.after,Region.binds .any e=true->ls.getD e.on false=true
theorem Clo.reach{ls:Array Bool}(h:Clo ops ls):∀ (n j i:Nat),RC ops n j i=true->ls.getD j false=true->ls.getD i false=true:=by
 intro n
 induction n with
 |zero=>intro j i hr;simp[Go.Ab.RC] at hr
 |succ n ih=>
  intro j i hr hj
  simp only[Go.Ab.RC] at hr
  cases ho:ops[j]? with
  |none=>simp [ho] at hr
  |some o=>
   simp only[ho,Array.any_eq_true',A07,Bool.or_eq_true,beq_iff_eq] at hr
   rcases hr with⟨e,he,h1,hb⟩|⟨e,he,⟨_,hb⟩,h1⟩
   ·have hon:=h j o hj ho e he hb
    rw[<-h1];exact hon
   ·exact ih _ _ h1 (h j o hj ho e he hb)
theorem RK{E:List Eff}(h:bad ∈ E∨E.length≠ops.size):Dt ops (Fr E)=false:=by
 cases ho:Dt ops (Fr E) with
 |false=>rfl
 |true=>
  exfalso
  unfold Dt at ho
  rw[A07,A07] at ho
  obtain⟨⟨h1,h2⟩,_⟩:=ho
  rcases h with h|h
  ·have:=A0u.1 h2 (bad.up.map (·.1),bad.rd) (A0l.2 ⟨bad,h,rfl⟩)
   simp[bad] at this
  ·exact h (by simpa[Fr] using h1)
theorem Run.bad_out:∀ (l:List Oper) (pos:Nat) (acc:List Eff) (s:St) (K:List Eff->St->Prop),Run P ops nx l pos acc s K->bad ∈ acc->ops.size=pos+l.length->∃ E s',(bad ∈ E∨E.length≠ops.size)/\K E s'
 |[],_,acc,s,K,h,hb,_=>⟨acc.reverse,s,.inl (List.mem_reverse.2 hb),h⟩
 |o::l,pos,acc,s,K,h,hb,hz=>by
  rcases h with⟨e,_,hr⟩|⟨F,⟨e,he⟩,_,hr⟩|⟨d,_,hk⟩
  ·exact Run.bad_out l _ _ _ K hr (A0p _ hb) (by simp at hz|-;omega)
  ·exact Run.bad_out l _ _ _ K (hr e he) (A0p _ hb) (by simp at hz|-;omega)
  ·exact⟨[],_,.inr (by simp at hz|-;omega),hk⟩
theorem Run.out:∀ (l:List Oper) (pos:Nat) (acc:List Eff) (s0 s:St) (K:List Eff->St->Prop),
  Run P ops nx l pos acc s K->acc.length=pos->ops.size=pos+l.length->(∀ j,l[j]? =ops[pos+j]?)->s.fs=Cj ops acc.reverse (List.range pos) s0.fs->
  (∃ E s',(bad ∈ E∨E.length≠ops.size)/\K E s')∨∃ E s',E.length=ops.size/\(∀ i,i<pos->Ey E i=Ey acc.reverse i)/\(∀ i o,pos<=i->ops[i]? =some o->Bd P ops o (2*(nx+4*i)) (Cj ops E (List.range i) s0.fs) (Ey E i))/\
   s'.fs=Cj ops E (List.range ops.size) s0.fs/\s'.nx=s.nx/\K E s':=by
 intro l
 induction l with
 |nil=>
  intro pos acc s0 s K h ha hsz hl hfs
  simp only[A0t,A11] at hsz
  refine .inr ⟨acc.reverse,s,by simp[ha,hsz],fun _ _=>rfl,fun i o hi ho=>?_,by rw[hfs,hsz],rfl,h⟩
  have:=(A0k.1 ho).1
  omega
 |cons o l ih=>
  intro pos acc s0 s K h ha hsz hl hfs
  rcases h with⟨e,hs,hr⟩|⟨F,⟨e,he⟩,hs,hr⟩|⟨d,hs,hk⟩
  case inr.inl=>exact .inl (Run.bad_out l _ _ _ K (hr e he) A0B (by simp at hsz|-;omega))
  case inr.inr=>exact .inl ⟨[],_,.inr (by simp at hsz|-;omega),hk⟩
  have ho:ops[pos]? =some o:=by simpa using(hl 0).symm
  have hpre:∀ (E:List Eff) (j:Nat),j<=pos->(∀ i,i<j->Ey E i=Ey acc.reverse i)->Cj ops E (List.range j) s0.fs=Cj ops acc.reverse (List.range j) s0.fs:=by
   intro E j hj hE
   unfold Cj
   refine Mg _ _ _ _ fun i hi s=>?_
   unfold Dz
   rw[hE i (by have:=A1m.1 hi;omega)]
  have hcons:∀ i,i<pos->Ey (e::acc).reverse i=Ey acc.reverse i:=by
   intro i hi
   simp only[Ey,A1i,A02]
   rw[A0q (by simpa[ha] using hi)]
  have hat:Ey (e::acc).reverse pos=e:=by
   simp only[Ey,A1i,A02]
   rw[A0o (by simp[ha])]
   simp[ha]
  have hfs':(s.app o.dst e).fs=Cj ops (e::acc).reverse (List.range (pos+1)) s0.fs:=by
   rw[St.app_fs,hfs,List.range_succ]
   unfold Cj
   rw[A1H]
   simp only[A0r,A0Z,Dz,hat,Mv,ho,A1w]
   congr 1
   refine Mg _ _ _ _ fun i hi s=>?_
   unfold Dz
   rw[hcons i (A1m.1 hi)]
  rcases ih (pos+1) (e::acc) s0 (s.app o.dst e) K hr (by simp[ha]) (by simp at hsz|-;omega)
   (fun j=>by have:=hl (j+1);simpa[A1l,Nat.add_comm 1 j] using this) hfs' with hb|⟨E,s',h1,h2,h3,h4,h5,h6⟩
  ·exact .inl hb
  refine .inr ⟨E,s',h1,fun i hi=>(h2 i (by omega)).trans (hcons i hi),fun i o' hi ho'=>?_,h4,h5,h6⟩
  rcases A14 pos i with hlt|hge
  ·exact h3 i o' (by omega) ho'
  ·obtain rfl:i=pos:=by omega
   obtain rfl:o=o':=by rw[ho] at ho';exact Option.some.inj ho'
   rw[h2 i (by omega),hat,hpre E i (A0a _) (fun j hj=>(h2 j (by omega)).trans (hcons j hj)),<-hfs]
   exact hs
def AK(ls:Array Bool)(i:Nat):Bool:=ls.getD i false
theorem GL{i n:Nat}(h:i<n):List.range n=List.range i++i::List.range' (i+1) (n-i-1):=by
 rw[List.range_eq_range',List.range_eq_range']
 have:i::List.range' (i+1) (n-i-1)=List.range' i (n-i):=by
  have:n-i=(n-i-1)+1:=by omega
  rw[this,List.range'_succ]
  simp
 rw[this]
 have:=@List.range'_append_1 0 i (n-i)
 rw[A1c] at this
 rw[this]
 congr 1
 omega
def sg(ops:Array Oper)(E:List Eff)(s0:FSt)(ls:Array Bool):FSt:=Cj ops E ((List.range ops.size).filter (AK ls)) s0
def frS(nx:Nat)(ops:Array Oper)(ls:Array Bool)(b:Nat):Prop:=frN (nx+4*ops.size) b∨∃ i j,i<ops.size/\ls.getD i true=false/\j<4/\b=2*(nx+4*i)+2*j
theorem FW{ls:Array Bool}{i n:Nat}(hs:ls.size=n)(hi:i<n):ls.getD i true=false↔ls.getD i false=false:=by
 have:i<ls.size:=by omega
 simp[Array.getD,this]
theorem EU{sk:List (List Nat×List Nat)}{i j:Nat}{x y:Oper}(hx:ops[i]? =some x)(hy:ops[j]? =some y)(h:MD ops sk i j=false):
  Oper.apart ops x y=true/\(∀ b,b ∈ (sk.getD i ([],[])).1->b ∉ (sk.getD j ([],[])).1/\b ∉ (sk.getD j ([],[])).2)/\(∀ b,b ∈ (sk.getD i ([],[])).2->b ∉ (sk.getD j ([],[])).1):=by
 simp only[MD,hx,hy,Bool.or_eq_false_iff,Bool.not_eq_false'] at h
 obtain⟨⟨h1,h2⟩,h3⟩:=h
 refine⟨h1,fun b hb=>?_,fun b hb=>?_⟩
 ·have:=List.any_eq_false.1 h2 b hb
  simp at this
  exact this
 ·have:=List.any_eq_false.1 h3 b hb
  simpa using this
theorem Fq{E:List Eff}(i:Nat):(Fr E).getD i ([],[])=((Ey E i).up.map (·.1),(Ey E i).rd):=by
 simp only[Fr,Ey,A02,A0x]
 cases E[i]? <;>rfl
theorem PX{sk:List (List Nat×List Nat)}(h:Dt ops sk=true):
  (∀ j o,ops[j]? =some o->∀ e ∈ o.after,Region.binds .any e=true->e.on<j)/\∀ i j,i<j->j<ops.size->MD ops sk i j=true->RC ops ops.size j i=true:=by
 unfold Dt at h
 rw[A07] at h
 replace h:=h.2
 rw[A0u] at h
 refine⟨fun j o ho e he hb=>?_,fun i j hij hj hc=>?_⟩
 ·have hj:=(A0k.1 ho).1
  have:=h j (A1m.2 hj)
  rw[ho,A07] at this
  have h1:=this.1
  simp only[Array.all_eq_true'] at h1
  have:=h1 e he
  simpa[hb] using this
 ·have:=h j (A1m.2 hj)
  rw[A07] at this
  have:=A0u.1 this.2 i (A1m.2 hij)
  simpa[hc] using this
theorem Py(hga:GA P w0 M0 I0)(E:List Eff)(s0:FSt)(nt:Nat)(hord:Dt ops (Fr E)=true)(hin:Jr nt ops.toList=true)
  (hsound:∀ i o,ops[i]? =some o->Bd P ops o (2*(nx+4*i)) (Cj ops E (List.range i) s0) (Ey E i))
  (hend:∀ a w I mu,Rel w0 M0 I0 nt (frN (nx+4*ops.size)) I mu (Cj ops E (List.range ops.size) s0) a w->Q .normal a w):
  ∀(fuel:Nat) (ls:Array Bool) (I:Nat->Prop) (mu:Nat->Option Value) (a:Act) (w:World),ls.size=ops.size->Clo ops ls->
   ((List.range ops.size).filter (fun i=>!AK ls i)).length<=fuel->Rel w0 M0 I0 nt (frS nx ops ls) I mu (sg ops E s0 ls) a w->wpAnyIn I0.F I0.n P .any ops Q fuel ls a w:=by
 obtain⟨hfwd,hconf⟩:=PX hord
 have hall:∀ (ls:Array Bool),ls.size=ops.size->Region.ready .any ops ls=[]->∀ i,i<ops.size->AK ls i=true:=by
  intro ls hsz hr i
  induction i using Nat.strongRecOn with
  |_ i ih=>
   intro hi
   cases hl:AK ls i with
   |true=>rfl
   |false=>
    have:i ∈ Region.ready .any ops ls:=by
     rw[mem_ready]
     refine⟨(FW hsz hi).2 hl,ops[i],A0W hi,fun e he hb=>?_⟩
     have hlt:=hfwd i _ (A0W hi) e he hb
     exact ih e.on hlt (by omega)
    rw[hr] at this
    cases this
 have hfin:∀ (ls:Array Bool) (I:Nat->Prop) (mu:Nat->Option Value) (a:Act) (w:World),ls.size=ops.size->Region.ready .any ops ls=[]->Rel w0 M0 I0 nt (frS nx ops ls) I mu (sg ops E s0 ls) a w->Q .normal a w:=by
  intro ls I mu a w hsz hr r
  have hs:sg ops E s0 ls=Cj ops E (List.range ops.size) s0:=by
   unfold sg
   rw[List.filter_eq_self.2 fun i hi=>hall ls hsz hr i (A1m.1 hi)]
  rw[hs] at r
  exact hend a w I mu (r.free fun b hb=>.inl hb)
 intro fuel
 induction fuel with
 |zero=>
  intro ls I mu a w hsz hclo hf r
  have hr:Region.ready .any ops ls=[]:=by
   apply List.eq_nil_iff_forall_not_mem.2
   intro i hi
   rw[mem_ready] at hi
   obtain⟨h0,o,ho,_⟩:=hi
   have hlt:=(A0k.1 ho).1
   have:i ∈ (List.range ops.size).filter (fun i=>!AK ls i):=List.mem_filter.2 ⟨A1m.2 hlt,by simp[AK,(FW hsz hlt).1 h0]⟩
   have:=List.length_pos_of_mem this
   omega
  exact⟨hr,hfin ls I mu a w hsz hr r⟩
 |succ fuel ih=>
  intro ls I mu a w hsz hclo hf r
  refine⟨fun hr=>hfin ls I mu a w hsz hr r,fun i hi=>?_⟩
  rw[mem_ready] at hi
  obtain⟨h0,o,ho,hpre⟩:=hi
  have hlt:=(A0k.1 ho).1
  have hnl:AK ls i=false:=(FW hsz hlt).1 h0
  have hbef:∀ j,j<i->MD ops (Fr E) j i=true->AK ls j=true:=by
   intro j hj hc
   have hre:=hconf j i hj hlt hc
   cases hn:ops.size with
   |zero=>omega
   |succ m=>
    rw[hn] at hre
    simp only[RC,ho,Array.any_eq_true',A07,Bool.or_eq_true,beq_iff_eq] at hre
    rcases hre with⟨e,he,h1,hb⟩|⟨e,he,⟨_,hb⟩,h1⟩
    ·have hon:=hpre e he hb
     rw[<-h1];exact hon
    ·exact hclo.reach _ _ _ h1 (hpre e he hb)
  have haft:∀ j,i<j->j<ops.size->AK ls j=true->MD ops (Fr E) i j=false:=by
   intro j hj hjn hl
   cases hc:MD ops (Fr E) i j with
   |false=>rfl
   |true=>
    have:=hclo.reach _ _ _ (hconf i j hj hjn hc) hl
    have h2:ls.getD i false=false:=hnl
    rw[this] at h2
    cases h2
  have hsplit:sg ops E s0 ls=Cj ops E ((List.range' (i+1) (ops.size-i-1)).filter (AK ls)) (Cj ops E ((List.range i).filter (AK ls)) s0):=by
   unfold sg Cj
   rw[GL hlt,List.filter_append,A1X (by simp[hnl]),A1H]
  have hother:∀ j,j≠i->AK (ls.setIfInBounds i true) j=AK ls j:=fun j hj=>getD_set_ne false (Ne.symm hj)
  have hself:AK (ls.setIfInBounds i true) i=true:=by simp[AK,Array.getD,hsz,hlt]
  have hsplit':sg ops E s0 (ls.setIfInBounds i true)=Dz ops E (sg ops E s0 ls) i:=by
   rw[hsplit]
   unfold sg
   rw[GL hlt,List.filter_append,A1W (by exact hself)]
   have e1:(List.range i).filter (AK (ls.setIfInBounds i true))=(List.range i).filter (AK ls):=
    List.filter_congr fun j hj=>hother j (by have:=A1m.1 hj;omega)
   have e2:(List.range' (i+1) (ops.size-i-1)).filter (AK (ls.setIfInBounds i true))=(List.range' (i+1) (ops.size-i-1)).filter (AK ls):=
    List.filter_congr fun j hj=>hother j (by have:=List.mem_range'_1.1 hj;omega)
   rw[e1,e2]
   have hcomm:∀ (l:List Nat) (s:FSt),(∀ j ∈ l,i<j/\j<ops.size/\AK ls j=true)->Cj ops E l (Dz ops E s i)=Dz ops E (Cj ops E l s) i:=by
    intro l
    induction l with
    |nil=>intro s _;rfl
    |cons j l ihl=>
     intro s hl
     obtain⟨hij,hjn,hjl⟩:=hl j A0B
     have hc:=haft j hij hjn hjl
     obtain⟨hap,hb1,_⟩:=EU ho (A0W hjn) hc
     have hd:=(Oper.apart_spec hap).2.1
     have hsw:=SX (ops:=ops) (E:=E) (i:=i) (j:=j) s (fun t ht=>by
       simp only[Mv,ho,A1w] at ht
       simp only[Mv,A0W hjn,A1w]
       exact hd t ht)
      (fun b hb=>by
       have:=(hb1 b (by rw[Fq];exact hb)).1
       rw[Fq] at this
       exact this)
     have:=ihl (Dz ops E s j) fun j' hj'=>hl j' (A0p _ hj')
     simp only[Cj,A0r] at this|-
     rw[hsw]
     exact this
   have:=hcomm ((List.range' (i+1) (ops.size-i-1)).filter (AK ls)) (Cj ops E ((List.range i).filter (AK ls)) s0) fun j hj=>by
    obtain⟨h1,h2⟩:=List.mem_filter.1 hj
    have:=List.mem_range'_1.1 h1
    exact⟨by omega,by omega,h2⟩
   rw[<-this]
   simp only[Cj,A1H,A0r]
  have henv:∀ t ∈ o.looksAt ops,(sg ops E s0 ls).env t=(Cj ops E (List.range i) s0).env t:=by
   intro t ht
   rw[hsplit,Ko,Ko,Ko]
   rw[Mh _ _ _ fun j hj y=>?_,Mf _ _ _ _ fun j hj hp y=>?_]
   ·refine if_neg fun hd=>?_
    have hjr:=A1m.1 hj
    have hjn:j<ops.size:=by omega
    have hc:MD ops (Fr E) j i=true:=by
     cases hc:MD ops (Fr E) j i with
     |true=>rfl
     |false=>
      obtain⟨hap,_⟩:=EU (A0W hjn) ho hc
      simp only[Mv,A0W hjn,A1w] at hd
      exact absurd ht ((Oper.apart_spec hap).1 t hd)
    rw[hbef j hjr hc] at hp
    cases hp
   ·refine if_neg fun hd=>?_
    obtain⟨h1,h2⟩:=List.mem_filter.1 hj
    have hjr:=List.mem_range'_1.1 h1
    have hjn:j<ops.size:=by omega
    obtain⟨hap,_⟩:=EU ho (A0W hjn) (haft j (by omega) hjn h2)
    simp only[Mv,A0W hjn,A1w] at hd
    exact absurd ht ((Oper.apart_spec hap).2.2 t hd)
  have hhp:∀ b ∈ (Ey E i).rd,(sg ops E s0 ls).hp b=(Cj ops E (List.range i) s0).hp b:=by
   intro b hb
   rw[hsplit,Mi,Mi,Mi]
   rw[Mh _ _ _ fun j hj y=>?_,Mf _ _ _ _ fun j hj hp y=>?_]
   ·have hjr:=A1m.1 hj
    have hjn:j<ops.size:=by omega
    refine EC (fun p hp' hpb=>?_) y
    have hc:MD ops (Fr E) j i=true:=by
     cases hc:MD ops (Fr E) j i with
     |true=>rfl
     |false=>
      obtain⟨_,hb1,_⟩:=EU (A0W hjn) ho hc
      have:=(hb1 b (by rw[Fq];exact A0l.2 ⟨p,hp',hpb⟩)).2
      rw[Fq] at this
      exact absurd hb this
    rw[hbef j hjr hc] at hp
    cases hp
   ·obtain⟨h1,h2⟩:=List.mem_filter.1 hj
    have hjr:=List.mem_range'_1.1 h1
    have hjn:j<ops.size:=by omega
    refine EC (fun p hp' hpb=>?_) y
    obtain⟨_,_,hb1⟩:=EU ho (A0W hjn) (haft j (by omega) hjn h2)
    have:=hb1 b (by rw[Fq];exact hb)
    rw[Fq] at this
    exact absurd (A0l.2 ⟨p,hp',hpb⟩) this
  have hmem:o ∈ ops.toList:=by
   have:=Array.mem_of_getElem? ho
   simpa using this
  unfold wpOpIn
  rw[ho]
  refine hsound i o ho w0 M0 I0 nt (frS nx ops ls) I mu (sg ops E s0 ls) a w hga r (fun j hj=>.inr ⟨i,j,hlt,h0,hj,rfl⟩) (TP hin o hmem) henv hhp _ Q ?_
  intro a' w' I' mu' r'
  have hap:(sg ops E s0 ls).app o.dst (Ey E i)=sg ops E s0 (ls.setIfInBounds i true):=by
   rw[hsplit']
   simp only[Dz,Mv,ho,A1w]
  rw[hap] at r'
  refine ih (ls.setIfInBounds i true) I' mu' a' w' (by simp[hsz]) ?_ ?_ (r'.free fun b hb=>?_)
  ·intro j o' hj ho' e he hb
   by_cases hji:j=i
   ·subst hji
    obtain rfl:o=o':=by rw[ho] at ho';exact Option.some.inj ho'
    exact getD_set_true (hpre e he hb)
   ·rw[getD_set_ne false (Ne.symm hji)] at hj
    exact getD_set_true (hclo j o' hj ho' e he hb)
  ·have hlen:((List.range ops.size).filter (fun j=>!AK ls j)).length=((List.range ops.size).filter (fun j=>!AK (ls.setIfInBounds i true) j)).length+1:=by
    rw[GL hlt,List.filter_append,List.filter_append,A1W (by simp[hnl]),A1X (by simp[hself])]
    have e1:(List.range i).filter (fun j=>!AK (ls.setIfInBounds i true) j)=(List.range i).filter (fun j=>!AK ls j):=
     List.filter_congr fun j hj=>by rw[hother j (by have:=A1m.1 hj;omega)]
    have e2:(List.range' (i+1) (ops.size-i-1)).filter (fun j=>!AK (ls.setIfInBounds i true) j)=(List.range' (i+1) (ops.size-i-1)).filter (fun j=>!AK ls j):=
     List.filter_congr fun j hj=>by rw[hother j (by have:=List.mem_range'_1.1 hj;omega)]
    rw[e1,e2]
    simp only[A04,A0g]
    omega
   omega
  ·rcases hb with hb|⟨j,q,hj,hjl,hq,rfl⟩
   ·exact⟨.inl hb,fun q hq=>by have:=hb.2;omega⟩
   ·have hji:j≠i:=by
     rintro rfl
     simp[Array.getD,hsz,hlt] at hjl
    rw[getD_set_ne true (Ne.symm hji)] at hjl
    exact⟨.inr ⟨j,q,hj,hjl,hq,rfl⟩,fun q' hq'=>by omega⟩
end
section
variable{P:Program}{nt:Nat}{Q:AE->St->Prop}{s:St}
theorem AWp.region{id:Nat}{l:List Oper}(hin:Jr nt l=true)(h:Run P l.toArray s.nx l 0 [] s (fun E s'=>L4 l E (Q .normal ⟨s'.env,s'.hp,s.nx+4*l.length⟩) (RJ Q (s.nx+4*l.length) s'))):AWp P nt (.region id l.toArray false) Q s:=fun w0 M0 I0 g I mu a w r=>by
 refine wpIn_region ?_
 have:=Run.ops_seq (ops:=l.toArray) (Q:=VJ w0 M0 I0 nt Q) g _ ?_ l 0 [] s I mu a w h rfl (by simp) (fun j=>by simp) hin (r.free fun b hb=>hb) ?_
 ·rw[A0y,List.range_eq_range']
  exact this
 ·intro n d s' a' w' I' mu' v hn hk r' hn' hv hz
  have hl:∃ o l',l=o::l':=by
   cases l with
   |nil=>exact absurd rfl hz
   |cons o l'=>exact ⟨o,l',rfl⟩
  obtain⟨o,l',rfl⟩:=hl
  simp only[L4,RJ] at hk
  refine⟨.panic d,_,I',mu',?_,⟨v,rfl,hv⟩,(r'.free fun b hb=>?_).pan d (s.nx+4*(o::l').length)⟩
  ·simpa[Env.get] using hk
  ·simp only[A0y] at hn'
   exact⟨hb.1,by have:=hb.2;simp only at this;omega⟩
 ·intro E s' a' w' I' mu' hE hk r'
  have hk':Q .normal ⟨s'.env,s'.hp,s.nx+4*l.length⟩:=by
   cases E with
   |nil=>cases l with
    |nil=>exact hk
    |cons o l'=>simp at hE
   |cons e E=>cases l<;>exact hk
  exact⟨.normal,_,I',mu',hk',trivial,r'.free fun b hb=>by simpa using hb⟩
theorem AWp.region_draw{id:Nat}{l:List Oper}(hm:P.follows .mixedOrders=true)(hin:Jr nt l=true)
  (h:Run P l.toArray s.nx l 0 [] s (fun E s'=>Dt l.toArray (Fr E)=true/\Q .normal ⟨s'.env,s'.hp,s.nx+4*l.length⟩)):AWp P nt (.region id l.toArray true) Q s:=fun w0 M0 I0 g I mu a w r=>by
 refine wpIn_region_any hm ?_
 rcases Run.out (ops:=l.toArray) l 0 [] s s _ h rfl (by simp) (fun j=>by simp) rfl with⟨E,s',hb,h6,_⟩|⟨E,s',h1,_,h3,h4,h5,h6,h7⟩
 ·rw[RK hb] at h6;cases h6
 refine Py (nx:=s.nx) (M0:=M0) (w0:=w0) (I0:=I0) g E s.fs nt h6 (by simpa using hin) (fun i o ho=>h3 i o (A0D _) ho) ?_ _ _ I mu a _ (by simp) ?_ ?_ ?_
 ·intro a' w' I' mu' r'
  rw[<-h4] at r'
  exact⟨.normal,_,I',mu',h7,trivial,r'.free fun b hb=>by simpa using hb⟩
 ·intro i o hi
  simp[Array.getD] at hi
 ·refine A0L (List.length_filter_le _ _) (by simp)
 ·have hsg:sg l.toArray E s.fs (Array.replicate l.toArray.size false)=s.fs:=by
   unfold sg
   rw[List.filter_eq_nil_iff.2 fun i hi=>by simp[AK,Array.getD]]
   rfl
  rw[hsg]
  exact⟨r.size,r.defers,fun t=>(r.env t).mono (fun _ _=>rfl) (fun _ h=>h) (fun _ _ h=>h),⟨fun b x hb=>(r.w.blk b x hb).mono (fun _ _=>rfl) (fun _ h=>h) (fun _ _ h=>h) (fun _ _ _ _=>rfl),r.w.loc,r.w.inj,fun b hb=>r.w.fresh b (by
   rcases hb with hb|⟨i,j,_,_,_,rfl⟩
   ·exact⟨hb.1,by have:=hb.2;omega⟩
   ·exact⟨by omega,by omega⟩),r.w.lt,r.w.os,r.w.tape,r.w.output,r.w.grown,r.w.old,r.w.iold,r.w.inew,r.w.keep,fun b x hx hb=>r.w.used b x hx (by
   rcases hb with hb|⟨i,j,_,_,_,rfl⟩
   ·exact⟨hb.1,by have:=hb.2;omega⟩
   ·exact⟨by omega,by omega⟩)⟩⟩
end
def AC(P:Program)(o:Oper)(id:Nat)(ev:Operand->D)(hp:Nat->Option Blk)(e:Eff):Prop:=
 ∀ w0 M0 I0 fr I mu h (a:Act) w,GA P w0 M0 I0->Ap w0 M0 I0 fr I mu h w->(∀ j,j<4->fr (id+2*j))->(∀ x ∈ o.op.operands,Rep w I mu (ev x) (a.eval x))->(∀ b ∈ e.rd,h b=hp b)->
  ∀ K Q,(∀ v w' I' mu',Ext I mu w I' mu' w'->Ap w0 M0 I0 (fun b=>fr b/\∀ j,j<4->b≠id+2*j) I' mu' (fun b=>AO b (h b) e.up) w'->Rep w' I' mu' e.d v->K (a.put o.dst v) w')->o.wpIn I0.F I0.n P a w K Q
theorem Hr{P:Program}{o:Oper}{a:Act}{w w':World}{x:Next}(h:(execOp a.eval o).run P w=.ok x w')(hx:∀ d,x≠ .defer d):∀ c,o.op≠ .defer c:=by
 intro c hc
 simp only[execOp,hc,A0e,A0j] at h
 cases hr:(resolve a.eval c o.type).run P w with
 |ok d w1=>
  rw[hr] at h
  simp only[Result.andThen,Result.ok.injEq] at h
  exact hx _ h.1.symm
 |halt e w1=>rw [hr] at h;simp[Result.andThen] at h
theorem DG{P:Program}{G:Gh}{o:Oper}{a:Act}{w w':World}{K:Act->World->Prop}{Q:Exit->Act->World->Prop}{v:Value}(h:(execOp a.eval o).run P w=.ok (.value v) w')(k:K (a.put o.dst v) w'):o.wpIn G.F G.n P a w K Q:=
 ⟨fun f _=>G.fn f,by rw[Oper.semAt_eq _ _ _ (Hr h (fun _ h=>by cases h)),h];exact k⟩
theorem T5{P:Program}{G:Gh}{o:Oper}{a:Act}{w w':World}{K:Act->World->Prop}{Q:Exit->Act->World->Prop}(h:(execOp a.eval o).run P w=.ok .skip w')(k:K (a.put o.dst undef) w'):o.wpIn G.F G.n P a w K Q:=
 ⟨fun f _=>G.fn f,by rw[Oper.semAt_eq _ _ _ (Hr h (fun _ h=>by cases h)),h];exact k⟩
theorem MK{G:Gh}{n:Nat}{P:Program}{f:FuncId}{args:Array Value}{w:World}{R:Ending->World->Prop}(h:Calls P f args w R):CallsIn G.F n P f args w R:=by
 have h':=(callsIn_wide (n:=n)).2 h
 rcases G.hF with e|⟨l,e⟩<;>rw [e]<;>exact h'
theorem C6{P:Program}{G:Gh}{o:Oper}{a:Act}{w w':World}{K:Act->World->Prop}{Q:Exit->Act->World->Prop}{f:FuncId}{args:Array Value}(h:(execOp a.eval o).run P w=.ok (.enter f args) w')
  (k:Calls P f args w' fun
   |.returned v,w''=>K (a.put o.dst v) w''
   |.panicked chain,w''=>Q (.panic chain) a w''
   |.outgrown,_=>LetsOut Q):o.wpIn G.F G.n P a w K Q:=
 ⟨fun f _=>G.fn f,by rw[Oper.semAt_eq _ _ _ (Hr h (fun _ h=>by cases h)),h];exact⟨fun h=>(by rw[G.depth] at h;cases h),MK k⟩⟩
theorem Le{w:World}{I:Nat->Prop}{mu:Nat->Option Value}{env:Nat->D}{tmps:Array Value}{dst:Option Nat}{nt:Nat}{v:Value}{d:D}(hs:tmps.size=nt)(hd:∀ t,dst=some t->t<nt)
  (h:∀ t,Rep w I mu (env t) (tmps.getD t undef)) (hv:Rep w I mu d v) (a:Act) (ha:a.tmps=tmps) (t:Nat):Rep w I mu (if dst=some t then d else env t) ((a.put dst v).tmps.getD t undef):=by
 subst ha
 cases dst with
 |none=>simpa [Act.put] using h t
 |some k=>
  simp only[Act.put,A03]
  by_cases hk:k=t
  ·subst hk
   have:k<a.tmps.size:=by rw[hs];exact hd k rfl
   simp only[if_true,Array.getD,Array.size_setIfInBounds,this,dite_true]
   simpa using hv
  ·rw[if_neg hk]
   have:=h t
   simp only[A1g,A1k hk] at this|-
   exact this
theorem Fv(a:Act)(dst:Option Nat)(v:Value):(a.put dst v).tmps.size=a.tmps.size:=by cases dst<;>simp [Act.put]
theorem EL(a:Act)(dst:Option Nat)(v:Value):(a.put dst v).defers=a.defers:=by cases dst<;>rfl
theorem NW{P:Program}{ops:Array Oper}{o:Oper}{env env':Nat->D}(h:∀ t ∈ o.looksAt ops,env t=env' t){x:Operand}(hx:x ∈ o.op.operands):evO P env x=evO P env' x:=by
 cases x with
 |tmp t=>exact h t (List.mem_append_left _ (List.mem_filterMap.2 ⟨.tmp t,by simpa using hx,rfl⟩))
 |_=>rfl
theorem Bd.plain{P:Program}{ops:Array Oper}{o:Oper}{id:Nat}{s0:FSt}{e:Eff}(hg:o.guard=none)(h:AC P o id (evO P s0.env) s0.hp e):Bd P ops o id s0 e:=by
 intro w0 M0 I0 nt fr I mu s a w hga r hid hd ht hb K Q hK
 rw[if_pos (by simp[Region.wanted,hg])]
 refine h w0 M0 I0 fr I mu s.hp a w hga r.w hid (fun x hx=>?_) hb K Q fun v w' I' mu' hext hw hv=>hK _ _ I' mu' ⟨?_,?_,?_,hw⟩
 ·rw[<-NW ht hx];exact DY (hga.at r.w) r.env x
 ·rw[Fv];exact r.size
 ·rw[EL];exact r.defers.ext hext
 ·exact Le r.size hd (fun t=>(r.env t).ext hext) hv a rfl
def gOf(d:D)(want:Bool):Option Bool:=
 match d with
 |.val (.bool b)=>some (b==want)
 |.cond g (.val (.bool b))=>some (g&&(b==want))
 |_=>none
theorem Lt{w:World}{I:Nat->Prop}{mu:Nat->Option Value}{ops:Array Oper}{o:Oper}{a:Act}{j t:Nat}{want g:Bool}{d:D}(hg:o.guard=some (j,want))(ht:(ops[j]?).bind (·.dst)=some t)
  (hr:Rep w I mu d (a.tmps.getD t undef)) (hgo:gOf d want=some g):Region.wanted o (yielded ops a.tmps)=g:=by
 have hy:∀ x,a.tmps.getD t undef=x->yielded ops a.tmps j=match x with|.bool b=>some b|_=>none:=by
  intro x hx
  unfold yielded
  rw[ht]
  simp only[A1w]
  rcases A14 t a.tmps.size with hlt|hge
  ·have:a.tmps[t]? =some x:=by
    rw[<-hx]
    simp[Array.getD,hlt]
   rw[this]
   cases x<;>rfl
  ·have h1:a.tmps[t]? =none:=Array.getElem?_eq_none hge
   have h2:x=undef:=by
    rw[<-hx]
    simp[Array.getD,Nat.not_lt.2 hge]
   rw[h1,h2]
   rfl
 unfold gOf at hgo
 split at hgo
 ·rename_i b
  have hv:=hr.val_inv
  have:=hy _ hv
  simp only[A03] at hgo
  subst hgo
  simp only[Region.wanted,hg,this]
  cases b<;>cases want<;>rfl
 ·rename_i g0 b
  simp only[A03] at hgo
  subst hgo
  cases hr with
  |cond _ _ _ h1 h2=>
   cases g0 with
   |true=>
    have hv:=(h1 rfl).val_inv
    have:=hy _ hv
    simp only[Region.wanted,hg,this]
    cases b<;>cases want<;>rfl
   |false=>
    have hv:=h2 rfl
    have:=hy _ hv
    simp only[Region.wanted,hg,this,undef]
    rfl
 ·cases hgo
theorem Bd.guard_true{P:Program}{ops:Array Oper}{o:Oper}{id:Nat}{s0:FSt}{e:Eff}{j t:Nat}{want:Bool}(hg:o.guard=some (j,want))(ht:(ops[j]?).bind (·.dst)=some t)(hgo:gOf (s0.env t) want=some true)
  (h:AC P o id (evO P s0.env) s0.hp e):Bd P ops o id s0 e:=by
 intro w0 M0 I0 nt fr I mu s a w hga r hid hd hl hb K Q hK
 have htl:t ∈ o.looksAt ops:=A1P _ (by simp[hg,ht])
 rw[Lt hg ht (r.env t) (by rw[hl t htl];exact hgo),if_pos rfl]
 refine h w0 M0 I0 fr I mu s.hp a w hga r.w hid (fun x hx=>?_) hb K Q fun v w' I' mu' hext hw hv=>hK _ _ I' mu' ⟨?_,?_,?_,hw⟩
 ·rw[<-NW hl hx];exact DY (hga.at r.w) r.env x
 ·rw[Fv];exact r.size
 ·rw[EL];exact r.defers.ext hext
 ·exact Le r.size hd (fun t=>(r.env t).ext hext) hv a rfl
theorem Bd.guard_false{P:Program}{ops:Array Oper}{o:Oper}{id:Nat}{s0:FSt}{j t:Nat}{want:Bool}(hg:o.guard=some (j,want))(ht:(ops[j]?).bind (·.dst)=some t)(hgo:gOf (s0.env t) want=some false):
  Bd P ops o id s0 ⟨.cond false (.val (.bool false)),[],[]⟩:=by
 intro w0 M0 I0 nt fr I mu s a w hga r hid hd hl hb K Q hK
 have htl:t ∈ o.looksAt ops:=A1P _ (by simp[hg,ht])
 rw[Lt hg ht (r.env t) (by rw[hl t htl];exact hgo),if_neg (by simp)]
 refine⟨fun f _=>I0.fn f,?_⟩
 refine hK _ _ I mu ⟨by rw[Fv];exact r.size,by rw[EL];exact r.defers,Le r.size hd r.env (.cond _ _ _ (fun h=>by cases h) (fun _=>rfl)) a rfl,⟨r.w.blk,r.w.loc,r.w.inj,fun b hb=>r.w.fresh b hb.1,r.w.lt,r.w.os,r.w.tape,r.w.output,r.w.grown,r.w.old,r.w.iold,r.w.inew,r.w.keep,fun b x hx hb=>r.w.used b x hx hb.1⟩⟩
theorem AC.quiet{P:Program}{o:Oper}{id:Nat}{ev:Operand->D}{hp:Nat->Option Blk}{d:D}{rd:List Nat}
  (h:∀ w0 M0 I0 fr I mu h (a:Act) w,Ap w0 M0 I0 fr I mu h w->(∀ x ∈ o.op.operands,Rep w I mu (ev x) (a.eval x))->(∀ b ∈ rd,h b=hp b)->∃ v,(execOp a.eval o).run P w=.ok (.value v) w/\Rep w I mu d v):AC P o id ev hp ⟨d,[],rd⟩:=by
 intro w0 M0 I0 fr I mu hh a w hga hw hid hx hb K Q hK
 obtain⟨v,hrun,hv⟩:=h w0 M0 I0 fr I mu hh a w hw hx hb
 refine DG hrun ?_
 exact hK v w I mu (Ext.refl _ _ _) ⟨hw.blk,hw.loc,hw.inj,fun b hb=>hw.fresh b hb.1,hw.lt,hw.os,hw.tape,hw.output,hw.grown,hw.old,hw.iold,hw.inew,hw.keep,fun b x hx hb=>hw.used b x hx hb.1⟩ hv
section plain
variable{P:Program}{id:Nat}{ev:Operand->D}{hp:Nat->Option Blk}{dst:Option Tmp}{T:TypeId}{pos:String}{af:Array Edge}{gd:Option (Nat×Bool)}
theorem Xh(x:Operand):AC P ⟨dst,.move x,T,pos,af,gd⟩ id ev hp ⟨ev x,[],[]⟩:=
 AC.quiet fun _ _ _ _ I mu _ a w _ hx _=>⟨a.eval x,by simp[execOp],hx x (by simp[Op.operands])⟩
theorem Ss(x:Operand):AC P ⟨dst,.assign x,T,pos,af,gd⟩ id ev hp ⟨ev x,[],[]⟩:=
 AC.quiet fun _ _ _ _ I mu _ a w _ hx _=>⟨a.eval x,by simp[execOp],hx x (by simp[Op.operands])⟩
theorem HZ(c x y:Operand)(b:Bool)(hc:ev c=.val (.bool b)):AC P ⟨dst,.pick c x y,T,pos,af,gd⟩ id ev hp ⟨if b=true then ev x else ev y,[],[]⟩:=
 AC.quiet fun _ _ _ _ I mu _ a w _ hx _=>by
  have h1:=hx c (by simp[Op.operands])
  rw[hc] at h1
  have:=h1.val_inv
  refine⟨if b=true then a.eval x else a.eval y,by simp[execOp,this,asBool],?_⟩
  split
  ·exact hx x (by simp[Op.operands])
  ·exact hx y (by simp[Op.operands])
def Kn(op:BinOp)(k:IntKind)(a:Int)(k':IntKind)(b:Int):Option (Value×Prop):=
 match op with
 |.add=>if k=k' then some (.int k (k.wrap (a+b)),True) else none
 |.sub=>if k=k' then some (.int k (k.wrap (a-b)),True) else none
 |.mul=>if k=k' then some (.int k (k.wrap (a*b)),True) else none
 |.quo=>if k=k' then some (.int k (k.wrap (a.tdiv b)),b≠0) else none
 |.rem=>if k=k' then some (.int k (a.tmod b),b≠0) else none
 |.shl=>some (.int k (k.wrap (a*2^(min b.toNat k.bits))),0<=b)
 |.shr=>some (.int k (a.fdiv (2^(min b.toNat k.bits))),0<=b)
 |.and=>if k=k' then some (.int k (bits .and k a b),True) else none
 |.or=>if k=k' then some (.int k (bits .or k a b),True) else none
 |.xor=>if k=k' then some (.int k (bits .xor k a b),True) else none
 |.eql=>if k=k' then some (.bool (a==b),True) else none
 |.neq=>if k=k' then some (.bool (a !=b),True) else none
 |.lss=>if k=k' then some (.bool (decide (a<b)),True) else none
 |.leq=>if k=k' then some (.bool (decide (a<=b)),True) else none
 |.gtr=>if k=k' then some (.bool (decide (b<a)),True) else none
 |.geq=>if k=k' then some (.bool (decide (b<=a)),True) else none
 |_=>none
theorem TD{op:BinOp}{k k':IntKind}{a b:Int}{r:Value}{c:Prop}(h:Kn op k a k' b=some (r,c))(hc:c)(T:TypeId)(w:World):(binOp op T (.int k a) (.int k' b)).run P w=.ok r w:=by
 cases op<;>simp only[Kn] at h<;>first
  |(split at h
    ·simp only[A03,A05] at h;obtain⟨rfl,rfl⟩:=h;rename_i hk;subst hk
     simp[binOp,Op.intArith,Op.intCmp,Op.intDiv,intBits_and,intBits_or,intBits_xor,hc]
    ·cases h)
  |(simp only[A03,A05] at h;obtain⟨rfl,rfl⟩:=h;simp[binOp,Op.shift,Int.not_lt.2 hc])
  |cases h
theorem X5{op:BinOp}{k k':IntKind}{a b:Int}{r:Value}{c:Prop}(h:Kn op k a k' b=some (r,c))(hc:c)(ha:okP (.int k a)):okP r:=by
 cases op<;>simp only[Kn] at h<;>first
  |(split at h
    ·simp only[A03,A05] at h;obtain⟨rfl,rfl⟩:=h;rename_i hk;subst hk
     first
      |exact trivial
      |exact F3 _ _
      |(unfold bits;exact F3 _ _)
      |(simp only[okP] at ha|-
        have h1:(a.tmod b).natAbs<=a.natAbs:=by rw[Int.natAbs_tmod];exact Nat.mod_le _ _
        have h2:0<=a->0<=a.tmod b:=fun h=>Int.tmod_nonneg b h
        have h3:a<=0->a.tmod b<=0:=fun h=>by
         have:=Int.tmod_nonneg b (show 0<= -a by omega)
         rw[Int.neg_tmod] at this;omega
        have:D2 k<=0:=by cases k<;>simp [D2]
        have:0<=D3 k:=by cases k<;>simp [D3]
        omega)
    ·cases h)
  |(simp only[A03,A05] at h;obtain⟨rfl,rfl⟩:=h
    first
     |exact F3 _ _
     |(simp only[okP] at ha|-
       have hp:(0:Int)<2^(min b.toNat k.bits):=Int.pow_pos (by decide)
       have:D2 k<=0:=by cases k<;>simp [D2]
       have:0<=D3 k:=by cases k<;>simp [D3]
       rw[Int.fdiv_eq_ediv_of_nonneg _ (Int.le_of_lt hp)]
       by_cases h0:0<=a
       ·have h1:=Int.ediv_nonneg h0 (Int.le_of_lt hp)
        have h2:a/2^(min b.toNat k.bits)<=a:=Int.ediv_le_self _ h0
        omega
       ·have h1:a/2^(min b.toNat k.bits)<0:=Int.ediv_neg_of_neg_of_pos (by omega) hp
        have h2:a<=a/2^(min b.toNat k.bits):=by
         rw[Int.le_ediv_iff_mul_le hp]
         have:a*2^(min b.toNat k.bits)<=a*1:=Int.mul_le_mul_of_nonpos_left (by omega) (by omega)
         omega
        omega))
  |cases h
def JZ(op:BinOp)(a b:ByteArray):Option (Value×Prop):=
 match op with
 |.add=>some (.string (a++b),a.size+b.size<=9223372036854775807)
 |.eql=>some (.bool (a.toList==b.toList),True)
 |.neq=>some (.bool (!(a.toList==b.toList)),True)
 |.lss=>some (.bool (Op.bytesLess a.toList b.toList),True)
 |.leq=>some (.bool (Op.bytesLess a.toList b.toList ||a.toList==b.toList),True)
 |.gtr=>some (.bool (!(Op.bytesLess a.toList b.toList ||a.toList==b.toList)),True)
 |.geq=>some (.bool (!Op.bytesLess a.toList b.toList),True)
 |_=>none
theorem TC{op:BinOp}{a b:ByteArray}{r:Value}{c:Prop}(h:JZ op a b=some (r,c))(hc:c)(T:TypeId)(w:World):(binOp op T (.string a) (.string b)).run P w=.ok r w:=by
 cases op<;>simp only[JZ] at h<;>first
  |(simp only[A03,A05] at h;obtain⟨rfl,rfl⟩:=h;simp[binOp,Op.stringOp];try omega)
  |cases h
theorem VW{op:BinOp}{a b:ByteArray}{r:Value}{c:Prop}(h:JZ op a b=some (r,c))(hc:c):okP r:=by
 cases op<;>simp only[JZ] at h<;>first
  |(simp only[A03,A05] at h;obtain⟨rfl,rfl⟩:=h
    first
     |exact trivial
     |(simp only[okP,ByteArray.size_append];exact hc))
  |cases h
end plain
inductive Sh where
 |bool|int (k:IntKind)|str|struct (fs:List (Nat×Nat×Bool))|slice (e:TypeId)|ptr (e:TypeId)|map (k e:TypeId)|arr (n:Nat) (e:TypeId)|func|iface|other
structure TI where
 sz:Nat
 ag:Bool
 zero:List Value
 bytes:Nat
 sh:Sh
def MW:TypeDesc->Bool
 |.struct _=>true
 |.array _ _=>true
 |_=>false
def Hw(P:Program)(f:Field):Option (Nat×Nat×Bool):=
 match P.info? f.type,P.underlying f.type with
 |some i,some d=>some (f.offset,i.size,MW d)
 |_,_=>none
def LA(P:Program):TypeDesc->Sh
 |.bool=>.bool
 |.int k=>.int k
 |.string=>.str
 |.struct fs=>match fs.toList.mapM (Hw P) with
  |some l=>.struct l
  |none=>.other
 |.slice e=>.slice e
 |.pointer e=>.ptr e
 |.map k e=>.map k e
 |.array n e=>.arr n e
 |.func _ _ _=>.func
 |.interface _=>.iface
 |_=>.other
def zOk:Value->Bool->Bool
 |.agg _,b=>b
 |_,b=>!b
def Ak(P:Program)(t:TypeId):Option TI:=
 match P.info? t,P.underlying t with
 |some i,some d=>match i.zero with
  |some z=>bif zOk z (MW d) then some ⟨i.size,MW d,z.cells.toList,i.bytes,LA P d⟩ else none
  |none=>none
 |_,_=>none
theorem B9{P:Program}{t:TypeId}{ti:TI}(h:Ak P t=some ti):∃ i d z,P.info? t=some i/\P.underlying t=some d/\i.zero=some z/\i.size=ti.sz/\MW d=ti.ag/\z.cells.toList=ti.zero/\i.bytes=ti.bytes/\LA P d=ti.sh/\zOk z ti.ag=true:=by
 unfold Ak at h
 split at h
 ·rename_i i d hi hd
  split at h
  ·rename_i z hz
   cases hzk:zOk z (MW d) with
   |false=>rw [hzk] at h;cases h
   |true=>
    simp only[hzk,cond_true,A03] at h
    subst h
    exact⟨i,d,z,hi,hd,hz,rfl,rfl,rfl,rfl,rfl,hzk⟩
  ·cases h
 ·cases h
theorem M5{α β:Type}{g:α->Option β}:∀ {l:List α} {r:List β},l.mapM g=some r->∀ (i:Nat) (y:β),r[i]? =some y->∃ x,l[i]? =some x/\g x=some y
 |[],r,h,i,y,hy=>by simp at h;subst h;simp at hy
 |a::l,r,h,i,y,hy=>by
  simp only[List.mapM_cons,Option.bind_eq_bind,Option.pure_def,Option.bind_eq_some_iff] at h
  obtain⟨b,hb,r',hr',h⟩:=h
  simp only[A03] at h
  subst h
  cases i with
  |zero=>simp at hy;subst hy;exact⟨a,by simp,hb⟩
  |succ i=>simp at hy;simpa using M5 hr' i y hy
theorem KP{P:Program}:∀ {l:List Field} {r:List (Nat×Nat×Bool)},l.mapM (Hw P)=some r->l.mapM (fun f=>(P.info? f.type).map fun i=>(f.offset,i.size))=some (r.map fun x=>(x.1,x.2.1))
 |[],r,h=>by simp at h;subst h;simp
 |a::l,r,h=>by
  simp only[List.mapM_cons,Option.bind_eq_bind,Option.pure_def,Option.bind_eq_some_iff] at h
  obtain⟨b,hb,r',hr',h⟩:=h
  simp only[A03] at h
  subst h
  unfold Hw at hb
  split at hb
  ·rename_i i d hi hd
   simp only[A03] at hb
   subst hb
   simp[List.mapM_cons,hi,KP hr']
  ·cases hb
section runs
variable{P:Program}{t:TypeId}{ti:TI}(h:Ak P t=some ti)(w:World)
include h
theorem LI:(isAgg t).run P w=.ok ti.ag w:=by
 obtain⟨i,d,z,h1,h2,h3,h4,h5,h6,h7,h8,h9⟩:=B9 h
 rw[<-h5]
 simp only[isAgg,A0e,run_underlying h2,Result.andThen]
 cases d<;>rfl
theorem AS:(sizeOf t).run P w=.ok ti.sz w:=by
 obtain⟨i,d,z,h1,h2,h3,h4,h5,h6,h7,h8,h9⟩:=B9 h
 simp[sizeOf,typeInfo,h1,h4]
theorem Dp:∃ z,(zeroValue t).run P w=.ok z w/\z.cells.toList=ti.zero/\zOk z ti.ag=true:=by
 obtain⟨i,d,z,h1,h2,h3,h4,h5,h6,h7,h8,h9⟩:=B9 h
 exact⟨z,by simp[zeroValue,typeInfo,h1,h3],h6,h9⟩
theorem Aq{e:TypeId}(he:ti.sh=.slice e):P.underlying t=some (.slice e):=by
 obtain⟨i,d,z,h1,h2,h3,h4,h5,h6,h7,h8,h9⟩:=B9 h
 rw[he] at h8
 cases d<;>simp only[LA] at h8<;>first|(cases h8;exact h2)|(cases h8;done)|(split at h8<;>cases h8)
theorem QX{e:TypeId}(he:ti.sh=.slice e):P.underlying t=some (.slice e):=by
 obtain⟨i,d,z,h1,h2,h3,h4,h5,h6,h7,h8,h9⟩:=B9 h
 rw[he] at h8
 cases d<;>simp only[LA] at h8<;>first|(cases h8;exact h2)|(cases h8;done)|(split at h8<;>cases h8)
theorem Ya{e:TypeId}(he:ti.sh=.ptr e):P.underlying t=some (.pointer e):=by
 obtain⟨i,d,z,h1,h2,h3,h4,h5,h6,h7,h8,h9⟩:=B9 h
 rw[he] at h8
 cases d<;>simp only[LA] at h8<;>first|(cases h8;exact h2)|(cases h8;done)|(split at h8<;>cases h8)
theorem Gw{k e:TypeId}(he:ti.sh=.map k e):P.underlying t=some (.map k e):=by
 obtain⟨i,d,z,h1,h2,h3,h4,h5,h6,h7,h8,h9⟩:=B9 h
 rw[he] at h8
 cases d<;>simp only[LA] at h8<;>first|(cases h8;exact h2)|(cases h8;done)|(split at h8<;>cases h8)
theorem ti_arr{n:Nat}{e:TypeId}(he:ti.sh=.arr n e):P.underlying t=some (.array n e):=by
 obtain⟨i,d,z,h1,h2,h3,h4,h5,h6,h7,h8,h9⟩:=B9 h
 rw[he] at h8
 cases d<;>simp only[LA] at h8<;>first|(cases h8;exact h2)|(cases h8;done)|(split at h8<;>cases h8)
theorem UU(he:ti.sh=.bool):P.underlying t=some .bool:=by
 obtain⟨i,d,z,h1,h2,h3,h4,h5,h6,h7,h8,h9⟩:=B9 h
 rw[he] at h8
 cases d<;>simp only[LA] at h8<;>first|exact h2|(cases h8;done)|(split at h8<;>cases h8)
theorem JY(he:ti.sh=.str):P.underlying t=some .string:=by
 obtain⟨i,d,z,h1,h2,h3,h4,h5,h6,h7,h8,h9⟩:=B9 h
 rw[he] at h8
 cases d<;>simp only[LA] at h8<;>first|exact h2|(cases h8;done)|(split at h8<;>cases h8)
theorem PA{k:IntKind}(he:ti.sh=.int k):P.underlying t=some (.int k):=by
 obtain⟨i,d,z,h1,h2,h3,h4,h5,h6,h7,h8,h9⟩:=B9 h
 rw[he] at h8
 cases d<;>simp only[LA] at h8<;>first|(cases h8;done)|(cases h8;exact h2)|(split at h8<;>cases h8)
theorem JX{fs:List (Nat×Nat×Bool)}(he:ti.sh=.struct fs):∃ l:Array Field,P.underlying t=some (.struct l)/\l.toList.mapM (Hw P)=some fs:=by
 obtain⟨i,d,z,h1,h2,h3,h4,h5,h6,h7,h8,h9⟩:=B9 h
 rw[he] at h8
 cases d<;>simp only[LA] at h8<;>first
  |(cases h8;done)
  |(rename_i l
    split at h8
    ·rename_i r hr
     injection h8 with h8
     subst h8
     exact⟨l,h2,hr⟩
    ·cases h8)
end runs
theorem BM(k o n:Nat):(⟨k,o,none⟩:Addr).add n=⟨k,o+n,none⟩:=by
 unfold Addr.add
 split
 ·rename_i h;subst h;rfl
 ·rfl
def Au{α:Type}(xs:List α)(off:Nat)(ys:List α):List α:=xs.take off++(ys++xs.drop (off+ys.length))
theorem B0{α:Type}{xs:List α}{off:Nat}{ys:List α}(h:off+ys.length<=xs.length):(Au xs off ys).length=xs.length:=by
 simp only[Au,A04,A0z,A0v];omega
theorem Ft{α:Type}{xs:List α}{off:Nat}{ys:List α}(h:off+ys.length<=xs.length)(i:Nat):(Au xs off ys)[i]? =if i<off then xs[i]? else if i<off+ys.length then ys[i-off]? else xs[i]?:=by
 simp only[Au]
 by_cases h1:i<off
 ·rw[if_pos h1,A0q (by simp;omega),A0n h1]
 ·rw[if_neg h1,A0o (by simp;omega)]
  simp only[A0z]
  have e:min off xs.length=off:=by omega
  rw[e]
  by_cases h2:i<off+ys.length
  ·rw[if_pos h2,A0q (by omega)]
  ·rw[if_neg h2,A0o (by omega),A0I]
   congr 1
   omega
def AN:D->Bool
 |.val v=>v.oneCell'
 |.slice _ _=>true
 |.ptr _ _=>true
 |.ref _ _ _ _=>true
 |.sref _ _ _ _ _=>true
 |.gref _ _=>true
 |.mref _=>true
 |.func _ _ _=>true
 |.iface _ _=>true
 |.gel _ _ _ _=>true
 |.gsub _ _ _ _=>true
 |_=>false
theorem Rep.one{w:World}{I:Nat->Prop}{mu:Nat->Option Value}{d:D}{v:Value}(h:Rep w I mu d v)(ho:AN d=true):v.oneCell'=true:=by
 cases h<;>first|exact ho|rfl|(simp[AN] at ho)
theorem Xm{v:Value}(h:v.oneCell'=true):v.cells=#[v]:=by cases v<;>first|rfl|(simp[Value.oneCell'] at h)
def Gb:D->Option (List D)
 |.agg cs=>if cs.all AN then some cs else none
 |d=>if AN d then some [d] else none
theorem Rep.cells{w:World}{I:Nat->Prop}{mu:Nat->Option Value}{d:D}{v:Value}{cs:List D}(h:Rep w I mu d v)(hc:Gb d=some cs):
  ∃ us:List Value,v.cells.toList=us/\us.length=cs.length/\(∀ i,i<cs.length->Rep w I mu (nd cs i) (nv us i))/\∀ u ∈ us,u.oneCell'=true:=by
 have single:AN d=true->cs=[d]->∃ us:List Value,v.cells.toList=us/\us.length=cs.length/\(∀ i,i<cs.length->Rep w I mu (nd cs i) (nv us i))/\∀ u ∈ us,u.oneCell'=true:=by
  intro h1 h2
  subst h2
  have:=h.one h1
  refine⟨[v],by rw[Xm this],rfl,fun i hi=>?_,fun u hu=>?_⟩
  ·simp only[A18] at hi
   obtain rfl:i=0:=by omega
   exact h
  ·simp only[A0d] at hu;subst hu;exact this
 cases d with
 |agg l=>
  simp only[Gb] at hc
  split at hc
  ·rename_i hall
   simp only[A03] at hc
   subst hc
   obtain⟨us,rfl,hl,hr⟩:=h.agg_inv
   refine⟨us,by simp[Value.cells],hl,hr,fun u hu=>?_⟩
   obtain⟨i,hi,rfl⟩:=A1n.1 hu
   have h1:=hr i (by omega)
   have h2:nv us i=us[i]:=by simp[nv,List.getD,hi]
   rw[h2] at h1
   refine h1.one ?_
   have h3:nd l i=l[i]'(by omega):=by simp[nd,List.getD,show i<l.length by omega]
   rw[h3]
   exact A0u.1 hall _ (A0X _)
  ·cases hc
 |_=>
  simp only[Gb] at hc
  split at hc
  ·rename_i h1
   simp only[A03] at hc
   exact single h1 hc.symm
  ·cases hc
def Ax(mu:Nat->Option Value)(id:Nat)(v:Value):Nat->Option Value:=fun b=>if b=id then some v else mu b
theorem Bs{mu:Nat->Option Value}{id:Nat}{v:Value}(h:mu id=none):∀ b x,mu b=some x->Ax mu id v b=some x:=by
 intro b x hb
 unfold Ax
 rw[if_neg (by rintro rfl;rw[h] at hb;cases hb)]
 exact hb
section worlds
variable{w0:World}{M0:Nat->Prop}{I0:Gh}{fr I:Nat->Prop}{mu:Nat->Option Value}{hp:Nat->Option Blk}{w:World}
theorem B8(w:World)(o:Obj){k:Nat}(h:k<w.heap.size):(w.alloc o).heap[k]? =w.heap[k]?:=Below.heap_alloc w o k h
theorem Ap.new(h:Ap w0 M0 I0 fr I mu hp w){id:Nat}(hid:fr id)(o:Obj)(v:Value)(hv:Ae v=some w.heap.size)(x:Blk)(hb:D7 (w.alloc o) I (Ax mu id v) id x):
  Ap w0 M0 I0 (fun b=>fr b/\b≠id) I (Ax mu id v) (fun b=>AO b (hp b) [(id,some x)]) (w.alloc o)/\Ext I mu w I (Ax mu id v) (w.alloc o):=by
 have hnone:=h.fresh id hid
 have hm:=Bs (v:=v) hnone
 have hup:∀ b,AO b (hp b) [(id,some x)]=if b=id then some x else hp b:=by
  intro b;simp only[AO,A0r,A0Z];by_cases hb:b=id
  ·subst hb;simp
  ·have:¬id=b:=fun h=>hb h.symm
   simp[hb,this]
 have hext:Ext I mu w I (Ax mu id v) (w.alloc o):=⟨fun _ h=>h,hm,fun k hk=>B8 w o (h.lt k hk)⟩
 refine⟨⟨fun b y hy=>?_,fun b y u k hy hu hk=>?_,fun b c y z u u' k hy hz hu hu' hk hk'=>?_,fun b hb=>?_,fun k hk=>?_,h.os,h.tape,h.output,?_,fun k hk hnm=>?_,h.iold,h.inew,fun b x hb hn=>hm b x (h.keep b x hb hn),fun b y hy hb=>?_⟩,hext⟩
 ·rw[hup] at hy
  by_cases hbi:b=id
  ·rw[if_pos hbi] at hy;cases hy;subst hbi;exact hb
  ·rw[if_neg hbi] at hy
   exact(h.blk b y hy).mono hext.w hext.i hm fun u k hu hk=>B8 w o (h.loc b y u k hy hu hk).2.2
 ·rw[hup] at hy
  by_cases hbi:b=id
  ·rw[if_pos hbi] at hy
   simp only[Ax,if_pos hbi,A03] at hu
   subst hu
   rw[hv] at hk
   cases hk
   exact⟨.inr h.grown,fun hI=>Nat.lt_irrefl _ (h.lt _ hI),by simp⟩
  ·rw[if_neg hbi] at hy
   simp only[Ax,if_neg hbi] at hu
   have:=h.loc b y u k hy hu hk
   exact⟨this.1,this.2.1,by simp;omega⟩
 ·rw[hup] at hy hz
  by_cases hbi:b=id
  ·by_cases hci:c=id
   ·rw[hbi,hci]
   ·exfalso
    rw[if_neg hci] at hz
    simp only[Ax,if_pos hbi,if_neg hci,A03] at hu hu'
    subst hu
    rw[hv] at hk
    cases hk
    have:=(h.loc c z u' _ hz hu' hk').2.2
    omega
  ·by_cases hci:c=id
   ·exfalso
    rw[if_neg hbi] at hy
    simp only[Ax,if_pos hci,if_neg hbi,A03] at hu hu'
    subst hu'
    rw[hv] at hk'
    cases hk'
    have:=(h.loc b y u _ hy hu hk).2.2
    omega
   ·rw[if_neg hbi] at hy
    rw[if_neg hci] at hz
    simp only[Ax,if_neg hci,if_neg hbi] at hu hu'
    exact h.inj b c y z u u' k hy hz hu hu' hk hk'
 ·simp only[Ax,if_neg hb.2]
  exact h.fresh b hb.1
 ·have:=h.lt k hk
  simp;omega
 ·have:=h.grown
  simp;omega
 ·rw[B8 w o (by have:=h.grown;omega)]
  exact h.old k hk hnm
 ·rw[hup,if_neg hb.2] at hy
  exact h.used b y hy hb.1
structure Gr(k:Nat)(w w':World):Prop where
 os:w'.os=w.os
 tape:w'.tape=w.tape
 output:w'.output=w.output
 size:w'.heap.size=w.heap.size
 other:∀ j,j≠k->w'.heap[j]? =w.heap[j]?
theorem Gr.refl(k:Nat)(w:World):Gr k w w:=⟨rfl,rfl,rfl,rfl,fun _ _=>rfl⟩
theorem Gr.trans{k:Nat}{a b c:World}(h:Gr k a b)(g:Gr k b c):Gr k a c:=⟨g.os.trans h.os,g.tape.trans h.tape,g.output.trans h.output,g.size.trans h.size,fun j hj=>(g.other j hj).trans (h.other j hj)⟩
theorem Ap.wrote(h:Ap w0 M0 I0 fr I mu hp w){b:Nat}{x:Blk}{v:Value}{k:Nat}{id:Nat}(hx:hp b=some x)(hv:mu b=some v)(hk:Ae v=some k){w':World}(hw:Gr k w w')(x':Blk)(hb:D7 w' I mu b x'):
  Ap w0 M0 I0 (fun b=>fr b/\b≠id) I mu (fun c=>AO c (hp c) [(b,some x')]) w'/\Ext I mu w I mu w':=by
 have hl:=h.loc b x v k hx hv hk
 have hup:∀ c,AO c (hp c) [(b,some x')]=if c=b then some x' else hp c:=by
  intro c;simp only[AO,A0r,A0Z];by_cases hc:c=b
  ·subst hc;simp
  ·have:¬b=c:=fun h=>hc h.symm
   simp[hc,this]
 have hext:Ext I mu w I mu w':=⟨fun _ h=>h,fun _ _ h=>h,fun j hj=>hw.other j (by rintro rfl;exact hl.2.1 hj)⟩
 refine⟨⟨fun c y hy=>?_,fun c y u j hy hu hj=>?_,fun c c' y z u u' j hy hz hu hu' hj hj'=>?_,fun c hc=>h.fresh c hc.1,fun j hj=>by rw[hw.size];exact h.lt j hj,hw.os.trans h.os,hw.tape.trans h.tape,hw.output.trans h.output,by rw[hw.size];exact h.grown,fun j hj hnm=>?_,h.iold,h.inew,h.keep,fun c y hy hc=>?_⟩,hext⟩
 ·rw[hup] at hy
  by_cases hc:c=b
  ·rw[if_pos hc] at hy;cases hy;subst hc;exact hb
  ·rw[if_neg hc] at hy
   refine(h.blk c y hy).mono hext.w hext.i hext.m fun u j hu hj=>hw.other j ?_
   rintro rfl
   exact hc (h.inj c b y x u v j hy hx hu hv hj hk)
 ·rw[hup] at hy
  rw[hw.size]
  by_cases hc:c=b
  ·subst hc;exact h.loc c x u j hx hu hj
  ·rw[if_neg hc] at hy;exact h.loc c y u j hy hu hj
 ·rw[hup] at hy hz
  have key:∀ c y,(if c=b then some x' else hp c)=some y->∃ y',hp c=some y':=by
   intro c y hy
   by_cases hc:c=b
   ·subst hc;exact⟨x,hx⟩
   ·rw[if_neg hc] at hy;exact⟨y,hy⟩
  obtain⟨y',hy'⟩:=key c y hy
  obtain⟨z',hz'⟩:=key c' z hz
  exact h.inj c c' y' z' u u' j hy' hz' hu hu' hj hj'
 ·rw[hw.other j ?_]
  ·exact h.old j hj hnm
  ·rintro rfl
   rcases hl.1 with h1|h1
   ·exact hnm h1
   ·omega
 ·rw[hup] at hy
  by_cases hcb:c=b
  ·subst hcb;exact h.used c x hx hc.1
  ·rw[if_neg hcb] at hy;exact h.used c y hy hc.1
end worlds
theorem BB{P:Program}{k:Nat}{T:TypeId}:∀ (vs:List Value) (i o:Nat) (us:List Value) (w:World),w.heap[k]? =some (.cells us.toArray T (0,0))->o+i+vs.length<=us.length->(∀ v ∈ vs,v.oneCell'=true)->
  ∃ w',(storeCells ⟨k,o,none⟩ vs i).run P w=.ok () w'/\w'.heap[k]? =some (.cells (Au us (o+i) vs).toArray T (0,0))/\Gr k w w'
 |[],i,o,us,w,h,_,_=>⟨w,by simp[storeCells],by simpa[Au] using h,Gr.refl k w⟩
 |v::vs,i,o,us,w,h,hl,h1=>by
  simp only[A0g] at hl
  have hcell:w.cell? ⟨k,o+i,none⟩=some us[o+i]:=by
   simp[World.cell?,h,show o+i<us.length by omega]
  have hfz:w.frozen? ⟨k,o+i,none⟩=false:=by simp[World.frozen?,h]
  have hw1:(w.setCell ⟨k,o+i,none⟩ v).heap[k]? =some (.cells (us.set (o+i) v).toArray T (0,0)):=by
   simp[World.setCell,Array.getElem?_modify,h]
  obtain⟨w',hrun,hh,hw⟩:=BB (P:=P) vs (i+1) o (us.set (o+i) v) (w.setCell ⟨k,o+i,none⟩ v) hw1 (by simp;omega) fun x hx=>h1 x (A0p _ hx)
  refine⟨w',?_,?_,Gr.trans (b:=w.setCell ⟨k,o+i,none⟩ v) ⟨rfl,rfl,rfl,by simp,fun j hj=>Below.heap_setCell w ⟨k,o+i,none⟩ v j hj⟩ hw⟩
  ·simp only[storeCells,BM,A0e,run_store P w _ v .plain (h1 v A0B),hcell,hfz,Result.andThen]
   exact hrun
  ·rw[hh]
   congr 3
   apply A1B
   intro j
   rw[Ft (by simp;omega),Ft (by simp;omega)]
   simp only[A0g,A1I]
   by_cases h2:j<o+i
   ·rw[if_pos (by omega),if_pos h2,if_neg (by omega)]
   ·rw[if_neg h2]
    by_cases h3:j=o+i
    ·subst h3
     rw[if_pos (by omega),if_pos rfl,if_pos (by omega),if_pos (by omega)]
     simp
    ·rw[if_neg (by omega)]
     by_cases h4:j<o+(i+1)+vs.length
     ·rw[if_pos h4,if_pos (by omega)]
      have:j-(o+i)=(j-(o+(i+1)))+1:=by omega
      rw[this];rfl
     ·rw[if_neg h4,if_neg (by omega),if_neg (by omega)]
end Go.Ab
