/- The program is walked: part 1 of 18. -/
import Derived.WalkKit
import Derived.Orders
import Derived.Maps.AppendAt
import Derived.OrdersIn
import Derived.DefersIn
import Derived.RangeFuncRecord
import Derived.RangeFuncLeaves
set_option maxHeartbeats 4000000
set_option maxRecDepth 20000
set_option linter.all false
namespace Go
abbrev A29:=@List.getD_eq_getElem?_getD
abbrev A2a:=@List.length_append
abbrev A2b:=@List.mem_singleton
abbrev A2c:=@List.append_assoc
abbrev A2f:=@List.getElem?_eq_getElem
abbrev A2d:=@List.cons_append
abbrev A2e:=@Nat.le_refl
abbrev A2g:=@List.take_of_length_le
abbrev A2i:=@Bool.and_eq_true
abbrev A2h:=@List.nil_append
abbrev A2j:=@Option.some.injEq
abbrev A2k:=@List.length_map
abbrev A2l:=@List.length_cons
abbrev A2m:=@List.map_cons
abbrev A2n:=@Nat.mul_le_mul_right
abbrev A2o:=@Sem.run_bind
abbrev A2p:=@List.mem_map
abbrev A2q:=@List.all_eq_true
abbrev A2s:=@List.mem_cons
abbrev A2r:=@List.length_nil
abbrev A2w:=@Nat.zero_le
abbrev A2t:=@List.length_drop
abbrev A2u:=@Sem.run_pure
abbrev A2z:=@Nat.lt_or_ge
abbrev A2v:=@List.drop_eq_nil_of_le
abbrev A2x:=@List.length_take
abbrev A2y:=@List.append_nil
abbrev A2E:=@List.map_nil
abbrev A2A:=@List.size_toArray
abbrev A2B:=@Prod.mk.injEq
abbrev A2C:=@List.flatMap_append
abbrev A2D:=@List.eq_nil_of_length_eq_zero
abbrev A2K:=@Nat.eq_zero_or_pos
abbrev A2H:=@Array.getElem?_eq_some_iff
abbrev A2F:=@List.map_append
abbrev A2I:=@List.take_length
abbrev A2G:=@Bool.false_eq_true
abbrev A2J:=@List.take_succ_eq_append_getElem
abbrev A2M:=@Nat.succ_mul
abbrev A2N:=@Nat.le_trans
abbrev A2L:=@Bool.and_self
abbrev A2O:=@List.take_append_drop
abbrev A2X:=@List.getElem?_map
abbrev A2P:=@Option.getD_some
abbrev A2Q:=@List.foldl_cons
abbrev A2R:=@ByteArray.size_append
abbrev A2S:=@List.length_filter_le
abbrev A2T:=@List.flatMap_cons
abbrev A2U:=@List.mem_filter
abbrev A2V:=@List.mem_cons_of_mem
abbrev A2W:=@List.mem_iff_getElem
abbrev A2Z:=@List.getElem?_cons_zero
abbrev A30:=@List.map_map
abbrev A31:=@Array.getElem?_eq_getElem
abbrev A32:=@List.mem_of_mem_drop
abbrev A3b:=@List.not_mem_nil
abbrev A33:=@List.reverse_cons
abbrev A34:=@List.mem_of_mem_take
abbrev A35:=@List.pairwise_append
abbrev A36:=@List.mem_cons_self
abbrev A37:=@List.getElem?_toArray
abbrev A3g:=@Option.map_some
abbrev A2Y:=@List.mem_append
abbrev A38:=@List.append_toArray
abbrev A39:=@List.getD_cons_zero
abbrev A3a:=@List.getElem?_append_right
abbrev A3c:=@List.length_eq_zero_iff
abbrev A3e:=@Array.replicate_succ
abbrev A3f:=@Array.replicate_zero
abbrev A3h:=@List.nodup_cons
abbrev A3i:=@List.take_succ_cons
abbrev A3j:=@List.take_add_one
abbrev A3k:=@List.foldl_nil
abbrev A3l:=@List.length_set
abbrev A3m:=@Int.natCast_add
abbrev A3n:=@List.zip_cons_cons
abbrev A3o:=@List.zip_nil_right
abbrev A3p:=@Nat.add_mul
abbrev A3q:=@List.reverse_nil
abbrev A3d:=@List.getElem?_append_left
abbrev A3r:=@List.take_append_of_le_length
abbrev A3s:=@List.map_congr_left
abbrev A3t:=@List.getD_cons_succ
abbrev A3F:=@List.ext_getElem?
abbrev A3u:=@Bool.not_eq_true'
abbrev A3v:=@List.push_toArray
abbrev A3w:=@List.getElem?_take_of_lt
abbrev A3y:=@List.filter_append
abbrev A3z:=@Array.getD_eq_getD_getElem?
abbrev A3A:=@Bool.not_eq_false'
abbrev A3B:=@List.getElem?_cons_succ
abbrev A3C:=@Nat.add_sub_cancel_left
abbrev A3D:=@List.mem_flatMap
abbrev A3E:=@ByteArray.data_extract
abbrev A3G:=@Array.length_toList
abbrev A3x:=@List.length_singleton
abbrev A3H:=@List.getElem_mem
abbrev A3I:=@Option.isSome_none
abbrev A3J:=@List.getElem?_drop
abbrev A3K:=@Nat.lt_of_lt_of_le
abbrev A3L:=@List.map_set
abbrev A3M:=@Bool.and_true
abbrev A3N:=@List.drop_drop
abbrev A3O:=@Array.toList_extract
abbrev A3P:=@List.take_left'
abbrev A3Q:=@List.filter_eq_self
abbrev A3R:=@List.replicate_succ
abbrev A3S:=@List.length_pos_iff
abbrev A3T:=@Nat.zero_add
abbrev A3U:=@List.map_take
abbrev A3V:=@List.take_zero
abbrev A3W:=@List.drop_zero
abbrev A3X:=@Int.cast_ofNat_Int
abbrev A3Y:=@ByteArray.data_append
abbrev A3Z:=@List.pairwise_iff_getElem
abbrev A40:=@Bool.or_eq_true
abbrev A41:=@List.foldl_append
abbrev A42:=@Bool.false_or
abbrev A43:=@Bool.or_false
abbrev A44:=@List.map_drop
abbrev A45:=@Array.toList_append
abbrev A46:=@List.flatMap_nil
theorem Dt'{p:Prop}[Decidable p](h:p:=by omega):decide p=true:=decide_eq_true h
theorem Df'{p:Prop}[Decidable p](h:¬p:=by omega):decide p=false:=decide_eq_false h
theorem Om{p:Prop}(h:p:=by omega):p:=h
theorem Sq'{p:Prop}(h:p:=by simp):p:=h
theorem Dq'{p:Prop}(h:p:=by decide):p:=h
theorem So'{p:Prop}(h:p:=by simp;omega):p:=h
theorem Kq'{p:Prop}(h:p:=by kernel_rfl):p:=h
abbrev Baa:=ByteArray
abbrev Lua:=List UInt8
abbrev bea:=ByteArray.empty
theorem Gda{p:Prop}(h:p:=by first|exact .inl rfl|exact .inr ⟨_,_,_,rfl,rfl,rfl⟩):p:=h
end Go
namespace Go.Ab
open Go.RowKit
variable{v r:Value}{w' w0:World}{k:IntKind}{I I' M0 fr:Nat->Prop}{mu mu':Nat->Option Value}{t e:TypeId}{P:Program}{a:Act}{c:Prop}{Q:Exit->Act->World->Prop}{nt i j off:Nat}{α β:Type}{K:Act->World->Prop}{ops:Array Oper}{op:BinOp}
inductive D where
 |any
 |val (v:Value)
 |cond (g:Bool) (d:D)
 |agg (cs:List D)
 |tup (cs:List D)
 |slice (es:List (List D)) (tight:Bool)
 |ptr (cs:List D) (off:Nat)
 |ref (b i off sz:Nat)
 |sref (b i len cap sz:Nat)
 |gref (b len:Nat)
 |mref (b:Nat)
 |func (fn:Fn) (fs cs:List D)
 |iface (t:TypeId) (d:D)
 |abool (n:Nat) (pos:Bool)
 |gel (b i off sz:Nat)
 |gsub (b i len sz:Nat)
 |yld (b:Nat)
def DJ:IntKind->Int
 |.i8=> -128
 |.i16=> -32768
 |.i32=> -2147483648
 |.i64=> -9223372036854775808
 |_=>0
def DK:IntKind->Int
 |.i8=>127
 |.i16=>32767
 |.i32=>2147483647
 |.i64=>9223372036854775807
 |.u8=>255
 |.u16=>65535
 |.u32=>4294967295
 |.u64=>18446744073709551615
def okP:Value->Prop
 |.int k n=>DJ k<=n/\n<=DK k
 |.string s=>s.size<=9223372036854775807
 |_=>True
def okB:Value->Bool
 |.int k n=>decide (DJ k<=n)&&decide (n<=DK k)
 |.string s=>decide (s.size<=9223372036854775807)
 |_=>true
theorem Pg(h:okB v=true):okP v:=by
 cases v<;>first
  |exact trivial
  |simpa [okB,okP] using h
def Gc(k:IntKind)(n:Int):DJ k<=k.wrap n/\k.wrap n<=DK k:=by
 cases k<;>simp [IntKind.wrap,IntKind.bits,IntKind.signed,DJ,DK]<;>omega
def nd(cs:List D)(i:Nat):D:=cs.getD i .any
def nr(es:List (List D))(i:Nat):List D:=es.getD i []
def nv(us:List Value)(i:Nat):Value:=us.getD i undef
inductive Rep(w:World)(I:Nat->Prop)(mu:Nat->Option Value):D->Value->Prop where
 |any (v:Value):Rep w I mu .any v
 |val (v:Value) (ok:okP v):Rep w I mu (.val v) v
 |cond (g:Bool) (d:D) (v:Value) (h:g=true->Rep w I mu d v) (h':g=false->v=undef):Rep w I mu (.cond g d) v
 |agg (cs:List D) (us:List Value) (hl:us.length=cs.length) (h:∀i,i<cs.length->Rep w I mu (nd cs i) (nv us i)):Rep w I mu (.agg cs) (.agg us.toArray)
 |tup (cs:List D) (us:List Value) (hl:us.length=cs.length) (h:∀i,i<cs.length->Rep w I mu (nd cs i) (nv us i)):Rep w I mu (.tup cs) (.tuple us.toArray)
 |slice (es:List (List D)) (tight:Bool) (A:Option Addr) (k o sz cap:Nat) (u:Nat->Nat->Value)
   (hA:0<es.length->A=some ⟨k,o,none⟩/\(0<sz->I k)) (hc:es.length<=cap) (ht:tight=true->cap=es.length) (hm:cap<=maxLen)
   (hlen:∀i,i<es.length->(nr es i).length=sz)
   (hcell:∀i j,i<es.length->j<sz->w.cell? ⟨k,o+(i*sz+j),none⟩=some (u i j))
   (h:∀i j,i<es.length->j<sz->Rep w I mu (nd (nr es i) j) (u i j)):Rep w I mu (.slice es tight) (.slice A es.length cap)
 |ptr (cs:List D) (off k o:Nat) (u:Nat->Value) (hI:0<cs.length->I k)
   (hcell:∀j,j<cs.length->w.cell? ⟨k,o+j,none⟩=some (u j))
   (h:∀j,j<cs.length->Rep w I mu (nd cs j) (u j)):Rep w I mu (.ptr cs off) (.pointer (some ⟨k,o+off,none⟩))
 |ref (b i off sz k:Nat) (h:mu b=some (.pointer (some ⟨k,0,none⟩))):Rep w I mu (.ref b i off sz) (.pointer (some ⟨k,i*sz+off,none⟩))
 |sref (b i len cap sz k:Nat) (h:mu b=some (.pointer (some ⟨k,0,none⟩))):Rep w I mu (.sref b i len cap sz) (.slice (some ⟨k,i*sz,none⟩) len cap)
 |gref (b len:Nat) (A:Option Addr) (cap:Nat) (h:mu b=some (.slice A len cap)):Rep w I mu (.gref b len) (.slice A len cap)
 |mref (b k:Nat) (h:mu b=some (.map (some k))):Rep w I mu (.mref b) (.map (some k))
 |func (fn:Fn) (fs cs:List D) (us vs:List Value) (hl:us.length=fs.length) (hk:vs.length=cs.length)
   (h:∀i,i<fs.length->Rep w I mu (nd fs i) (nv us i)) (h':∀i,i<cs.length->Rep w I mu (nd cs i) (nv vs i)):Rep w I mu (.func fn fs cs) (.func fn us.toArray vs.toArray)
 |iface (t:TypeId) (d:D) (v:Value) (h:Rep w I mu d v):Rep w I mu (.iface t d) (.iface t v)
 |abool (n:Nat) (pos b:Bool) (h:b=pos->n=0):Rep w I mu (.abool n pos) (.bool b)
 |gel (b i off sz k len cap:Nat) (h:mu b=some (.slice (some ⟨k,0,none⟩) len cap)):Rep w I mu (.gel b i off sz) (.pointer (some ⟨k,i*sz+off,none⟩))
 |gsub (b i len sz:Nat) (A B:Option Addr) (n cap:Nat) (h:mu b=some (.slice A n cap)) (hle:i+len<=cap) (hB:cap≠i\/i=0->B=A.map (·.add (i*sz))):Rep w I mu (.gsub b i len sz) (.slice B len (cap-i))
 |yld (b l:Nat) (h:mu b=some (.pointer (some ⟨l,0,none⟩))):Rep w I mu (.yld b) (.func (.yield l) #[] #[])
theorem FA{w:World}{k o:Nat}(h:w'.heap[k]? =w.heap[k]?):w'.cell? ⟨k,o,none⟩=w.cell? ⟨k,o,none⟩:=by
 simp[World.cell?,h]
def Rep.mono{w:World}{d:D}(h:Rep w I mu d v)
  (hw:∀k,I k->w'.heap[k]? =w.heap[k]?) (O:∀k,I k->I' k) (M:∀b x,mu b=some x->mu' b=some x):Rep w' I' mu' d v:=by
 induction h with
 |any v=>exact .any v
 |val v ok=>exact .val v ok
 |cond g d v _ U C=>exact .cond g d v C U
 |agg cs us hl _ C=>exact .agg cs us hl C
 |tup cs us hl _ C=>exact .tup cs us hl C
 |slice es tight A k o sz cap u hA hc ht hm V Y _ C=>
  refine .slice es tight A k o sz cap u (by simp_all) hc ht hm V (λi j hi Z=>?_) C;grind [FA]
 |ptr cs off k o u N Y _ C=>
  refine .ptr cs off k o u (λh=>O _ (N h)) (λj Z=>?_) C;grind [FA]
 |ref b i off sz k h=>exact .ref b i off sz k (M _ _ h)
 |sref b i len cap sz k h=>exact .sref b i len cap sz k (M _ _ h)
 |gref b len A cap h=>exact .gref b len A cap (M _ _ h)
 |mref b k h=>exact .mref b k (M _ _ h)
 |func fn fs cs us vs hl N _ _ C a0=>exact .func fn fs cs us vs hl N C a0
 |iface t d v _ C=>exact .iface t d v C
 |abool n pos b h=>exact .abool n pos b h
 |gel b i off sz k len cap h=>exact .gel b i off sz k len cap (M _ _ h)
 |gsub b i len sz A B n cap h a1 hB=>exact .gsub b i len sz A B n cap (M _ _ h) a1 hB
 |yld b l h=>exact .yld b l (M _ _ h)
section inv
variable{w:World}{I:Nat->Prop}{mu:Nat->Option Value}
def Rep.val_inv{x:Value}(h:Rep w I mu (.val x) v):v=x:=by cases h;rfl
def Rep.val_ok{x:Value}(h:Rep w I mu (.val x) v):okP x:=by cases h;assumption
def Rep.agg_inv{cs:List D}(h:Rep w I mu (.agg cs) v):∃us:List Value,v=.agg us.toArray/\us.length=cs.length/\∀i,i<cs.length->Rep w I mu (nd cs i) (nv us i):=by
 cases h with|agg cs us hl h=>simp_all
def Rep.tup_inv{cs:List D}(h:Rep w I mu (.tup cs) v):∃us:List Value,v=.tuple us.toArray/\us.length=cs.length/\∀i,i<cs.length->Rep w I mu (nd cs i) (nv us i):=by
 cases h with|tup cs us hl h=>simp_all
end inv
def Rep.loose{w:World}{es:List (List D)}{t:Bool}(h:Rep w I mu (.slice es t) v):Rep w I mu (.slice es false) v:=by
 cases h with
 |slice es tight A k o sz cap u C hc ht hm M N h=>exact .slice es false A k o sz cap u C hc (λh=>by cases h) hm M N h
abbrev Env:=List (Nat×D)
def Env.get:Env->Nat->D
 |[],_=>.any
 |(k,d)::r,t=>bif k==t then d else Env.get r t
def H8(F:D->D):Env->Env
 |[]=>[]
 |(k,d)::r=>(k,F d)::H8 F r
def PY{F:D->D}{Q:D->Prop}(h0:Q .any):∀ {e:Env} {t:Nat},Q (F (e.get t))->Q ((H8 F e).get t)
 |[],t,_=>h0
 |(k,d)::r,t,h=>by
  simp[H8,Env.get] at h|-;cases C:k==t with
  |true=>simp_all
  |false=>simp [C,cond_false] at h|-;exact PY h0 h
def eAll(p:D->Bool):Env->Bool
 |[]=>true
 |(_,d)::r=>p d&&eAll p r
def Vy{p:D->Bool}(h0:p .any=true):∀ {e:Env},eAll p e=true->∀t,p (e.get t)=true
 |[],_,t=>h0
 |(k,d)::r,h,t=>by
  simp[eAll,A2i] at h;simp[Env.get];cases C:k==t with
  |true=>exact h.1
  |false=>exact Vy h0 h.2 t
def K1{F:D->D}(hF:F .any=.any):∀(e:Env) (t:Nat),(H8 F e).get t=F (e.get t)
 |[],t=>hF.symm
 |(k,d)::r,t=>by
  simp[H8,Env.get];cases C:k==t with
  |true=>rfl
  |false=>exact K1 hF r t
inductive Blk where
 |rows (es:List (List D)) (sz:Nat)
 |grow (es:List (List D)) (sz:Nat)
 |map (es:List (Value×Nat×D)) (clock:Nat)
 |iter (m since:Nat) (seen:List Nat) (last:Nat)
 |obj (o:Obj)
 |loop (env:Env) (nt:Nat) (st:LoopState) (pd:Option Code) (ps:List Nat) (a c:Code)
 |pr (g:Nat) (p:Value->Value->Option Obj->Prop)
 |junk
def Al:Value->Option Nat
 |.pointer (some a)=>some a.block
 |.slice (some a) _ cap=>if cap=0 then none else some a.block
 |.map (some k)=>some k
 |_=>none
def DQ(w:World)(I:Nat->Prop)(mu:Nat->Option Value)(b:Nat):Blk->Prop
 |.rows es sz=>∃(k:Nat) (T:TypeId) (us:List Value),mu b=some (.pointer (some ⟨k,0,none⟩))/\w.heap[k]? =some (.cells us.toArray T (0,0))/\us.length=es.length*sz/\
   (∀i,i<es.length->(nr es i).length=sz)/\∀i j,i<es.length->j<sz->Rep w I mu (nd (nr es i) j) (nv us (i*sz+j))
 |.grow es sz=>∃(A:Option Addr) (cap:Nat) (T:TypeId) (us:List Value),mu b=some (.slice A es.length cap)/\(∀i,i<es.length->(nr es i).length=sz)/\cap<=maxLen/\
   ((cap=0/\es=[])\/∃k,0<cap/\A=some ⟨k,0,none⟩/\w.heap[k]? =some (.cells us.toArray T (0,0))/\es.length<=cap/\us.length=cap*sz/\
     ∀i j,i<es.length->j<sz->Rep w I mu (nd (nr es i) j) (nv us (i*sz+j)))
 |.map es clock=>∃(k:Nat) (l:List MapEntry),mu b=some (.map (some k))/\w.heap[k]? =some (.map l.toArray clock)/\l.map (·.key)=es.map (·.1)/\l.map (·.born)=es.map (·.2.1)/\
   ∀(i:Nat) (x:MapEntry) (y:Value×Nat×D),l[i]? =some x->es[i]? =some y->Rep w I mu y.2.2 x.val
 |.iter m since seen last=>∃k km:Nat,mu b=some (.pointer (some ⟨k,0,none⟩))/\mu m=some (.map (some km))/\w.heap[k]? =some (.mapIter (some km) since seen.toArray last)
 |.obj o=>∃k:Nat,mu b=some (.pointer (some ⟨k,0,none⟩))/\w.heap[k]? =some o
 |.loop env nt st pd ps a c=>∃(k:Nat) (fn:FuncId) (tmps:Array Value) (kd:Nat),mu b=some (.pointer (some ⟨k,0,none⟩))/\w.heap[k]? =some (.loop {state:=st,pending:=pd,fn:=fn,tmps:=tmps,params:=ps.toArray,assign:=a,body:=c,defers:=kd})/\
   tmps.size=nt/\∀t,Rep w I mu (env.get t) (tmps.getD t undef)
 |.pr g p=>∃v u:Value,mu b=some v/\mu g=some u/\v≠undef/\u≠undef/\p v u ((Al v).bind λk=>w.heap[k]?)
 |.junk=>True
def obAt{w:World}{b:Nat}(h:mu b=some v)(hb:∀x k,mu b=some x->Al x=some k->w'.heap[k]? =w.heap[k]?):((Al v).bind λk=>w'.heap[k]?)=(Al v).bind λk=>w.heap[k]?:=by
 cases hl:Al v with
 |none=>rfl
 |some k=>simp_all
def DQ.mono{w w':World}{I I':Nat->Prop}{mu mu':Nat->Option Value}{b:Nat}{blk:Blk}(h:DQ w I mu b blk)
  (U:∀k,I k->w'.heap[k]? =w.heap[k]?) (V:∀k,I k->I' k) (C:∀b x,mu b=some x->mu' b=some x)
  (hb:∀x k,mu b=some x->Al x=some k->w'.heap[k]? =w.heap[k]?):DQ w' I' mu' b blk:=by
 cases blk with
 |rows es sz=>
  obtain⟨k,T,us,h1,h2,M,N,O⟩:=h;exact⟨k,T,us,C _ _ h1,by rw[hb _ k h1 rfl];exact h2,M,N,λi j hi Y=>(O i j hi Y).mono U V C⟩
 |grow es sz=>
  obtain⟨A,cap,T,us,h1,h2,M,N⟩:=h;refine⟨A,cap,T,us,C _ _ h1,h2,M,?_⟩;rcases N with N|⟨k,h0,hA,O,h6,h7,h8⟩
  ·simp_all
  ·exact .inr ⟨k,h0,hA,by rw[hb _ k h1 (by rw[hA];simp[Al];omega)];exact O,h6,h7,λi j hi Y=>(h8 i j hi Y).mono U V C⟩
 |map es a0=>
  obtain⟨k,l,h1,h2,M,N,O⟩:=h;exact⟨k,l,C _ _ h1,by rw[hb _ k h1 rfl];exact h2,M,N,λi x y Z hy=>(O i x y Z hy).mono U V C⟩
 |iter m a1 seen last=>
  obtain⟨k,km,h1,h2,M⟩:=h;exact⟨k,km,C _ _ h1,C _ _ h2,by rw[hb _ k h1 rfl];exact M⟩
 |obj o=>
  obtain⟨k,h1,h2⟩:=h;exact⟨k,C _ _ h1,by rw[hb _ k h1 rfl];exact h2⟩
 |loop env nt st pd ps a c=>
  obtain⟨k,fn,tmps,kd,h1,h2,M,N⟩:=h;exact⟨k,fn,tmps,kd,C _ _ h1,by rw[hb _ k h1 rfl];exact h2,M,λt=>(N t).mono U V C⟩
 |pr g p=>
  obtain⟨v,u,h1,h2,M,N,O⟩:=h;exact⟨v,u,C _ _ h1,C _ _ h2,M,N,by rw[obAt h1 hb];exact O⟩
 |junk=>trivial
abbrev Hp:=List (Nat×Blk)
def Ak:Hp->Nat->Option Blk
 |[],_=>none
 |(k,x)::r,b=>bif k==b then some x else Ak r b
def del:Hp->Nat->Hp
 |[],_=>[]
 |(k,x)::r,b=>bif k==b then del r b else(k,x)::del r b
def upd(h:Hp)(b:Nat):Option Blk->Hp
 |none=>del h b
 |some x=>(b,x)::del h b
structure St where
 env:Env
 hp:Hp
 nx:Nat
theorem Li(h:Hp)(b c:Nat):Ak (del h b) c=if b=c then none else Ak h c:=by
 induction h with
 |nil=>simp [del,Ak]
 |cons x r C=>
  obtain⟨k,x⟩:=x;simp[del];by_cases M:k=b
  ·subst M;simp[beq_self_eq_true,cond_true,C,Ak];grind
  ·have:(k==b)=false:=by simp[M]
   simp[this,cond_false,Ak,C];grind
theorem Lh(h:Hp)(b c:Nat)(x:Option Blk):Ak (upd h b x) c=if b=c then x else Ak h c:=by
 cases x with
 |none=>simp [upd];rw[Li]
 |some x=>
  grind [upd,Ak,Li]
mutual
def D.pure:D->Bool
 |.any=>true
 |.val _=>true
 |.cond _ d=>d.pure
 |.agg cs=>An cs
 |.tup cs=>An cs
 |.slice es _=>Aa es
 |.ptr cs _=>An cs
 |.func _ fs cs=>An fs&&An cs
 |.iface _ d=>d.pure
 |.abool _ _=>true
 |.gel _ _ _ _=>false
 |.gsub _ _ _ _=>false
 |.ref _ _ _ _=>false
 |.sref _ _ _ _ _=>false
 |.gref _ _=>false
 |.mref _=>false
 |.yld _=>false
def An:List D->Bool
 |[]=>true
 |d::r=>d.pure&&An r
def Aa:List (List D)->Bool
 |[]=>true
 |l::r=>An l&&Aa r
end
def CK:∀ {cs:List D},An cs=true->∀i,(nd cs i).pure=true
 |[],_,i=>by simp[nd,D.pure]
 |d::r,h,0=>by grind [An,nd]
 |d::r,h,i+1=>by simp[An,A2i] at h;have:=CK h.2 i;simpa[nd] using this
def JS:∀ {es:List (List D)},Aa es=true->∀i,An (nr es i)=true
 |[],_,i=>by simp[nr,An]
 |d::r,h,0=>by grind [Aa,nr]
 |d::r,h,i+1=>by simp[Aa,A2i] at h;have:=JS h.2 i;simpa[nr] using this
def Rep.unmu{w:World}{d:D}(h:Rep w I mu d v)(hp:d.pure=true):Rep w I mu' d v:=by
 induction h with
 |any v=>exact .any v
 |val v ok=>exact .val v ok
 |cond g d v _ U C=>exact .cond g d v (λV=>C V (by simpa[D.pure] using hp)) U
 |agg cs us hl _ C=>exact .agg cs us hl λi hi=>C i hi (CK (by simpa[D.pure] using hp) i)
 |tup cs us hl _ C=>exact .tup cs us hl λi hi=>C i hi (CK (by simpa[D.pure] using hp) i)
 |slice es tight A k o sz cap u Y hc ht hm Z M _ C=>
  exact .slice es tight A k o sz cap u Y hc ht hm Z M λi j hi N=>C i j hi N (CK (JS (by simpa[D.pure] using hp) i) j)
 |ptr cs off k o u O M _ C=>exact .ptr cs off k o u O M λj N=>C j N (CK (by simpa[D.pure] using hp) j)
 |ref b i off sz k h=>simp [D.pure] at hp
 |sref b i len cap sz k h=>simp [D.pure] at hp
 |gref b len A cap h=>simp [D.pure] at hp
 |mref b k h=>simp [D.pure] at hp
 |func fn fs cs us vs hl O _ _ C a0=>
  simp[D.pure,A2i] at hp;exact .func fn fs cs us vs hl O (λi hi=>C i hi (CK hp.1 i)) λi hi=>a0 i hi (CK hp.2 i)
 |iface t d v _ C=>exact .iface t d v (C (by simpa[D.pure] using hp))
 |abool n pos b h=>exact .abool n pos b h
 |gel b i off sz k len cap h=>simp [D.pure] at hp
 |gsub b i len sz A B n cap h a1 hB=>simp [D.pure] at hp
 |yld b l h=>simp [D.pure] at hp
structure Gh where
 st:Nat->Prop
 nm:Nat->Option Value
 dl:List Deferred
 F:Fence
 n:Nat
 hF:F=Fence.wide\/∃l,F=Fence.wide.inRound l
instance:CoeFun Gh (λ_=>Nat->Prop):=⟨Gh.st⟩
def frN(n b:Nat):Prop:=b%2=0/\2*n<=b
structure FSt where
 env:Nat->D
 hp:Nat->Option Blk
def St.fs(s:St):FSt:=⟨s.env.get,Ak s.hp⟩
structure AA(w0:World)(M0:Nat->Prop)(I0:Gh)(fr:Nat->Prop)(I:Nat->Prop)(mu:Nat->Option Value)(hp:Nat->Option Blk)(w:World):Prop where
 blk:∀b x,hp b=some x->DQ w I mu b x
 loc:∀b x v k,hp b=some x->mu b=some v->Al v=some k->(M0 k\/w0.heap.size<=k)/\¬I k/\k<w.heap.size
 inj:∀b c x y v u k,hp b=some x->hp c=some y->mu b=some v->mu c=some u->Al v=some k->Al u=some k->b=c
 fresh:∀b,fr b->mu b=none
 lt:∀k,I k->k<w.heap.size
 os:w.os=w0.os
 tape:w.tape=w0.tape
 output:w.output=w0.output
 grown:w0.heap.size<=w.heap.size
 old:∀k,k<w0.heap.size->¬M0 k->w.heap[k]? =w0.heap[k]?
 iold:∀k,I0 k->I k
 inew:∀k,I k->I0 k\/M0 k\/w0.heap.size<=k
 keep:∀b x,b%2=1->I0.nm b=some x->mu b=some x
 used:∀b x,hp b=some x->¬fr b
structure Ext(I:Nat->Prop)(mu:Nat->Option Value)(w:World)(I':Nat->Prop)(mu':Nat->Option Value)(w':World):Prop where
 i:∀k,I k->I' k
 m:∀b x,mu b=some x->mu' b=some x
 w:∀k,I k->w'.heap[k]? =w.heap[k]?
theorem Ext.refl(I:Nat->Prop)(mu:Nat->Option Value)(w:World):Ext I mu w I mu w:=⟨λ_ h=>h,λ_ _ h=>h,λ_ _=>rfl⟩
def Rep.ext{w:World}{d:D}(h:Rep w I mu d v)(e:Ext I mu w I' mu' w'):Rep w' I' mu' d v:=h.mono e.w e.i e.m
def C8(n:Nat)(w0:World)(I:Nat->Prop)(w:World)(dl ds:List Deferred):Prop:=
 ∃rs:List Nat,(n=1->rs=[])/\ds=rs.map (λr=> {target:=.collected r,args:=#[]})++dl/\rs.Nodup/\∀r ∈ rs,I r/\w0.heap.size<=r/\w.heap[r]? =some (.deferred (some []))
theorem C8.refl{n:Nat}(w0:World)(I:Nat->Prop)(w:World)(dl:List Deferred):C8 n w0 I w dl dl:=⟨[],λ_=>rfl,rfl,List.nodup_nil,λ_ h=>by cases h⟩
def C8.ext{n:Nat}{w:World}{dl ds:List Deferred}(h:C8 n w0 I w dl ds)(e:Ext I mu w I' mu' w'):C8 n w0 I' w' dl ds:=by
 obtain⟨rs,h0,h1,hn,h2⟩:=h;refine⟨rs,h0,h1,hn,λr hr=>?_⟩;obtain⟨C,M,N⟩:=h2 r hr;exact⟨e.i r C,M,by rw[e.w r C];exact N⟩
def C8.sub{n:Nat}{w:World}{dl ds:List Deferred}(h:C8 n w0 I w dl ds)(e:∀k,I k->I' k):C8 n w0 I' w dl ds:=by
 obtain⟨rs,h0,h1,hn,h2⟩:=h;exact⟨rs,h0,h1,hn,λr hr=>⟨e r (h2 r hr).1,(h2 r hr).2⟩⟩
structure Rel(w0:World)(M0:Nat->Prop)(I0:Gh)(nt:Nat)(fr:Nat->Prop)(I:Nat->Prop)(mu:Nat->Option Value)(s:FSt)(a:Act)(w:World):Prop where
 size:a.tmps.size=nt
 defers:C8 I0.n w0 I w I0.dl a.defers
 env:∀t,Rep w I mu (s.env t) (a.tmps.getD t undef)
 w:AA w0 M0 I0 fr I mu s.hp w
def ofV:Value->D
 |.slice none 0 0=>.slice [] true
 |v=>bif okB v then .val v else .any
def JN:List Value:=(List.replicate 128 (240:Int)++List.replicate 66 241++List.replicate 30 2++[19]++List.replicate 12 3++[35,3,3,52,4,4,4,68]++List.replicate 11 241).map λn=>.int .u8 n
def EB:List Value:=([(128:Int),191,160,191,128,159,144,191,128,143]++List.replicate 22 0).map λn=>.int .u8 n
def Su:List Value:=[1,10,100,1000,10000,100000,1000000,10000000,100000000,1000000000,10000000000,100000000000,1000000000000,10000000000000,100000000000000,1000000000000000,10000000000000000,100000000000000000,1000000000000000000,10000000000000000000].map λn=>.int .u64 n
def bruijn32:List Value:=[0,1,28,2,29,14,24,3,30,22,20,15,25,17,4,8,31,27,13,23,21,19,16,7,26,12,18,6,11,5,10,9].map λn=>.int .u8 n
def bruijn64:List Value:=[0,1,56,2,57,49,28,3,61,58,42,50,38,29,17,4,62,47,59,36,45,43,51,22,53,39,33,30,24,18,12,5,63,55,48,27,60,41,37,16,46,35,44,21,52,32,23,11,54,26,40,15,34,20,31,10,25,14,19,9,13,8,7,6].map λn=>.int .u8 n
def mutNames:List Value:=[[],[112,117,116],[100,101,108],[105,110,99],[99,97,115],[97,112,112,101,110,100],[109,111,118,101],[115,101,113]].map λs=>.string ⟨⟨s⟩⟩
def gTabs:List (String×List Value):=[
 ("unicode/utf8.first",JN),("unicode/utf8.acceptRanges",EB),("internal/strconv.uint64pow10",Su),
 ("math/bits.deBruijn32tab",bruijn32),("math/bits.deBruijn64tab",bruijn64),("commonplace/mutator.names",mutNames)]
def No(P:Program)(g:Nat):Option (List Value):=(gTabs.find? λp=>P.globalNamed p.1==some g).map (·.2)
def GA(P:Program)(w0:World)(M0:Nat->Prop)(I0:Gh):Prop:=∀g l,No P g=some l->I0 g/\g<w0.heap.size/\¬M0 g/\∃T fz,w0.heap[g]? =some (.cells l.toArray T fz)
def GIn(P:Program)(w:World)(I:Nat->Prop):Prop:=∀g l,No P g=some l->I g/\∃T fz,w.heap[g]? =some (.cells l.toArray T fz)
def GA.at{w:World}{I0:Gh}{h:Nat->Option Blk}(g:GA P w0 M0 I0)(r:AA w0 M0 I0 fr I mu h w):GIn P w I:=λk l hl=>by
 obtain⟨h1,h2,C,T,fz,M⟩:=g k l hl;exact⟨r.iold k h1,T,fz,by rw[r.old k h2 C];exact M⟩
theorem gTabs_ok:(gTabs.all λp=>p.2.all okB)=true:=by decide+kernel
def gtab_ok{g:Nat}{l:List Value}(h:No P g=some l):∀v ∈ l,okP v:=by
 unfold No at h;rw[Option.map_eq_some_iff] at h;grind [gTabs_ok,Pg]
def evO(P:Program)(env:Nat->D):Operand->D
 |.tmp t=>env t
 |.const v=>ofV v
 |.global g=>match No P g with
  |some l=>.ptr (l.map .val) 0
  |none=>.val (.pointer (some ⟨g,0,none⟩))
 |.func f=>.func (.func f) [] []
theorem Ht(w:World)(I:Nat->Prop)(mu:Nat->Option Value)(v:Value):Rep w I mu (ofV v) v:=by
 unfold ofV;split
 ·exact .slice [] true none 0 0 0 0 (λ_ _=>.nilFunc) (by simp_all) (A2e _) (λ_=>rfl) (A2w _) (by simp_all) (by omega) (by omega)
 ·cases h:okB v with
  |true=>exact .val v (Pg h)
  |false=>exact .any v
def Ei{w:World}{env:Nat->D}(M:GIn P w I)(h:∀t,Rep w I mu (env t) (a.tmps.getD t undef))(x:Operand):Rep w I mu (evO P env x) (a.eval x):=by
 cases x with
 |tmp t=>exact h t
 |const v=>exact Ht w I mu v
 |global g=>
  show Rep w I mu (match No P g with|some l=>.ptr (l.map .val) 0|none=>.val (.pointer (some ⟨g,0,none⟩))) (.pointer (some ⟨g,0,none⟩));cases hl:No P g with
  |none=>exact .val _ trivial
  |some l=>
   obtain⟨h1,T,fz,h2⟩:=M g l hl;refine .ptr (l.map .val) 0 g 0 (λj=>nv l j) (λ_=>h1) (λj C=>?_) λj C=>?_
   ·simp_all [World.cell?,nv,if_neg]
   ·simp at C;have N:nd (l.map .val) j=.val l[j]:=by simp[nd,A29,C]
    have O:nv l j=l[j]:=by simp[nv,A29,C]
    rw[N,O];exact .val _ (gtab_ok hl _ (A3H C))
 |func f=>exact .func (.func f) [] [] [] [] rfl rfl (by simp_all) (by simp_all)
inductive AE where
 |normal
 |exit (id:Nat)
 |goto (l:Nat)
 |ret
 |panic (d:D)
def He(w:World)(I:Nat->Prop)(mu:Nat->Option Value):AE->Exit->Prop
 |.normal,.normal=>True
 |.exit i,.exit j=>i=j
 |.goto i,.goto j=>i=j
 |.ret,.ret=>True
 |.panic d,.panic ch=>∃v,ch=[{v,recovered:=false}]/\Rep w I mu d v
 |_,_=>False
def ZP(w0:World)(M0:Nat->Prop)(I0:Gh)(nt:Nat)(Q:AE->St->Prop)(e:Exit)(a':Act)(w':World):Prop:=
 ∃x s' I' mu',Q x s'/\He w' I' mu' x e/\Rel w0 M0 I0 nt (frN s'.nx) I' mu' s'.fs a' w'
def AWp(P:Program)(nt:Nat)(c:Code)(Q:AE->St->Prop)(s:St):Prop:=
 ∀w0 M0 I0,GA P w0 M0 I0->∀I mu a w,Rel w0 M0 I0 nt (frN s.nx) I mu s.fs a w->c.wpIn I0.F I0.n P (ZP w0 M0 I0 nt Q) a w
def Gh.fn(G:Gh)(f:FuncId):G.F.fn f:=by
 rcases G.hF with h|⟨l,h⟩<;>rw [h]<;>trivial
def Gh.depth(G:Gh):G.F.depth=none:=by
 rcases G.hF with h|⟨l,h⟩<;>rw [h]<;>rfl
def Wy{F:Fence}{n:Nat}{c:Code}{w:World}(h:c.wpIn F n P (λe a w=>match e with|.goto _=>False|e=>Q e a w) a w):(Code.scope c).wpIn F n P Q a w:=by
 intro b k cs V hb hr;have s1:∀ {a:Act} {w:World},step P (lone (b.atR a (.code (.scope c)::k)) cs w)=.next (lone (b.atR a (.code c:: .inScope c::k)) cs w):=
  step_lone_go (by simp[stepG,stepG.exec,Frame.atR])
 have s2:∀ {a:Act} {w:World},step P (lone (b.atR a (.inScope c::k)) cs w)=.next (lone (b.atR a k) cs w):=
  step_lone_go (by simp[stepG,stepG.exec,Frame.atR])
 have f1:∀ {a:Act} {w:World} {t:List Item},(lone (b.atR a (.code (.scope c)::t)) cs w).fenced P F:=fenced_calm hb hr rfl;have f2:∀ {a:Act} {w:World} {t:List Item},(lone (b.atR a (.inScope c::t)) cs w).fenced P F:=fenced_calm hb hr rfl;obtain⟨e,M,N,O,C⟩:=h b (.inScope c::k) cs V hb hr;cases e with
 |normal=>exact ⟨.normal,M,N,O,.head f1 s1 (StepsIn.trans C (.one f2 s2))⟩
 |exit id=>exact ⟨.exit id,M,N,O,λY U=>.head f1 s1 (C.1 Y (by simp[exitTo,U])),λZ U=>let ⟨k₁,h1,h2⟩:=C.2 Z (by simp[exitTo,U]);⟨k₁,h1,.head f1 s1 h2⟩⟩
 |goto l=>simp_all
 |ret=>exact ⟨_,M,N,O,.of_steps (.one f1 s1) C⟩
 |panic ch=>exact ⟨_,M,N,O,.of_steps (.one f1 s1) C⟩
 |outgrown=>exact ⟨_,M,N,O,.of_steps (.one f1 s1) C⟩
section rules
variable{P:Program}{nt:Nat}{Q:AE->St->Prop}{s:St}
def AWp.mono{c:Code}{C:AE->St->Prop}(h:AWp P nt c Q s)(M:∀e s,Q e s->C e s):AWp P nt c C s:=
 λw0 M0 I0 g I mu a w r=>wpIn_mono (h w0 M0 I0 g I mu a w r) λ_ _ _ ⟨x,s',I',mu',q,N⟩=>⟨x,s',I',mu',M _ _ q,N⟩
def Aq(s s':St):Prop:=∀w0 M0 I0 nt I mu a w,Rel w0 M0 I0 nt (frN s.nx) I mu s.fs a w->∃I' mu',Rel w0 M0 I0 nt (frN s'.nx) I' mu' s'.fs a w
theorem Aq.refl(s:St):Aq s s:=λ_ _ _ _ I mu _ _ r=>⟨I,mu,r⟩
def Aq.trans{s s' C:St}(h:Aq s s')(k:Aq s' C):Aq s C:=λw0 M0 I0 nt I mu a w r=>
 let⟨I',mu',r'⟩:=h w0 M0 I0 nt I mu a w r
 k w0 M0 I0 nt I' mu' a w r'
def seqQ(next:St->Prop)(Q:AE->St->Prop):AE->St->Prop
 |.normal,s=>next s
 |e,s=>Q e s
def AWp.seq{x y:Code}(h:AWp P nt x (seqQ (λs=>AWp P nt y Q s) Q) s):AWp P nt (.seq x y) Q s:=λw0 M0 I0 g I mu a w r=>
 wpIn_seq (wpIn_mono (h w0 M0 I0 g I mu a w r) λe N w' O=>by
  obtain⟨x,s',I',mu',q,C,M⟩:=O;cases x<;>cases e<;>simp [He] at C
  case normal.normal=>exact q w0 M0 I0 g I' mu' N w' M
  all_goals exact⟨_,s',I',mu',q,C,M⟩)
def KT(id:Nat)(Q:AE->St->Prop):AE->St->Prop
 |.exit j,s=>if j=id then Q .normal s else Q (.exit j) s
 |e,s=>Q e s
def AWp.block{id:Nat}{c:Code}(h:AWp P nt c (KT id Q) s):AWp P nt (.block id c) Q s:=λw0 M0 I0 g I mu a w r=>
 wpIn_block (wpIn_mono (h w0 M0 I0 g I mu a w r) λe O w' N=>by
  obtain⟨x,s',I',mu',q,C,M⟩:=N;cases x<;>cases e<;>simp [He] at C
  case exit.exit=>
   rename_i i j;subst C;simp[KT] at q;simp[Exit.inBlock];by_cases hi:i=id
   ·rw[if_pos hi] at q|-;exact⟨.normal,s',I',mu',q,trivial,M⟩
   ·rw[if_neg hi] at q|-;exact⟨.exit i,s',I',mu',q,rfl,M⟩
  all_goals exact⟨_,s',I',mu',q,C,M⟩)
def AWp.ret(h:Q .ret s):AWp P nt .ret Q s:=λ_ _ _ _ I mu _ _ r=>wpIn_ret ⟨.ret,s,I,mu,h,trivial,r⟩
def AWp.skip(h:Q .normal s):AWp P nt .skip Q s:=λ_ _ _ _ I mu _ _ r=>wpIn_skip ⟨.normal,s,I,mu,h,trivial,r⟩
def AWp.exit{id:Nat}(h:Q (.exit id) s):AWp P nt (.exit id) Q s:=λ_ _ _ _ I mu _ _ r=>wpIn_exit ⟨.exit id,s,I,mu,h,rfl,r⟩
def AWp.label{l:Nat}(h:Q .normal s):AWp P nt (.label l) Q s:=λ_ _ _ _ I mu _ _ r=>wpIn_label ⟨.normal,s,I,mu,h,trivial,r⟩
def AWp.scope{c:Code}(h:AWp P nt c (λe s=>match e with|.goto _=>False|e=>Q e s) s):AWp P nt (.scope c) Q s:=λw0 M0 I0 g I mu a w r=>
 Wy (wpIn_mono (h w0 M0 I0 g I mu a w r) λe O w' M=>by
  obtain⟨x,s',I',mu',q,C,N⟩:=M;cases x<;>cases e<;>simp [He] at C
  case goto.goto=>omega
  all_goals exact⟨_,s',I',mu',q,C,N⟩)
def AWp.cond{c:Operand}{x y:Code}{b:Bool}(hc:evO P s.env.get c=.val (.bool b))(ht:b=true->AWp P nt x Q s)(hf:b=false->AWp P nt y Q s):AWp P nt (.cond c x y) Q s:=λw0 M0 I0 g I mu a w r=>by
 have C:a.eval c=.bool b:=by
  have:=Ei (env:=s.env.get) (g.at r.w) r.env c;rw[hc] at this;exact this.val_inv
 cases b with
 |true=>exact wpIn_cond_true C (ht rfl w0 M0 I0 g I mu a w r)
 |false=>exact wpIn_cond_false C (hf rfl w0 M0 I0 g I mu a w r)
def AWp.condA{c:Operand}{x y:Code}{n:Nat}{pos:Bool}(hc:evO P s.env.get c=.abool n pos)(ht:(pos=true->n=0)->AWp P nt x Q s)(hf:(pos=false->n=0)->AWp P nt y Q s):AWp P nt (.cond c x y) Q s:=λw0 M0 I0 g I mu a w r=>by
 have C:∃b,a.eval c=.bool b/\(b=pos->n=0):=by
  have:=Ei (env:=s.env.get) (g.at r.w) r.env c;rw[hc] at this;generalize a.eval c=v at this;cases this with
  |abool _ _ b h=>simp_all
 obtain⟨b,C,hn⟩:=C;cases b with
 |true=>exact wpIn_cond_true C (ht (λh=>hn h.symm) w0 M0 I0 g I mu a w r)
 |false=>exact wpIn_cond_false C (hf (λh=>hn h.symm) w0 M0 I0 g I mu a w r)
def AWp.loop{c:Code}{ι:Type}(S:ι->St)(m:ι->Nat)(V:ι)(h0:Aq s (S V))
  (round:∀i,AWp P nt c (λe s'=>match e with|.normal=>∃j,m j<m i/\Aq s' (S j)|e=>Q e s') (S i)):AWp P nt (.loop c) Q s:=λw0 M0 I0 g I mu a w r=>by
 obtain⟨Z,mu',C⟩:=h0 w0 M0 I0 nt I mu a w r;intro b k cs a0 hb hr;have key:∀n i I mu a w,m i=n->Rel w0 M0 I0 nt (frN (S i).nx) I mu (S i).fs a w->
   ∃e M w',ZP w0 M0 I0 nt Q e M w'/\ArrivesIn (Machine.fenced P I0.F) P (lone (b.atR a (.code c:: .inLoop c::k)) cs w) b k cs e M w':=by
  intro n
  induction n using Nat.strongRecOn with
  |_ n ih=>
   intro i I mu a w hn r;obtain⟨e,O,U,⟨x,s',I',mu',q,Y,C⟩,N⟩:=round i w0 M0 I0 g I mu a w r b (.inLoop c::k) cs a0 hb hr;cases x<;>cases e<;>simp [He] at Y
   case normal.normal=>
    obtain⟨j,hlt,hw⟩:=q;obtain⟨a1,a2,a3⟩:=hw w0 M0 I0 nt I' mu' O U C;obtain⟨e₂,a₂,w₂,a4,a5⟩:=ih (m j) (hn▸hlt) j a1 a2 O U rfl a3;exact⟨e₂,a₂,w₂,a4,.of_steps (StepsIn.trans N (.one (fenced_calm hb hr rfl) stepR_inLoop)) a5⟩
   all_goals
    refine⟨_,O,U,?_,.pass rfl (by simp_all) N⟩;exact⟨_,s',I',mu',q,Y,C⟩
 obtain⟨e,M,w',hq,N⟩:=key _ V Z mu' a w rfl C;exact⟨e,M,w',hq,.of_steps (.one (fenced_calm hb hr rfl) stepR_loop) N⟩
end rules
structure Eff where
 d:D
 up:List (Nat×Option Blk)
 rd:List Nat
def AZ(b:Nat)(x:Option Blk)(up:List (Nat×Option Blk)):Option Blk:=up.foldl (λx p=>if p.1=b then p.2 else x) x
def F0(hp:Hp)(up:List (Nat×Option Blk)):Hp:=up.foldl (λh p=>upd h p.1 p.2) hp
def FF(up:List (Nat×Option Blk)):∀(hp:Hp) (b:Nat),Ak (F0 hp up) b=AZ b (Ak hp b) up:=by
 induction up with
 |nil=>intro hp b;rfl
 |cons p up C=>
  intro hp b;have:=C (upd hp p.1 p.2) b;grind [F0,AZ,Lh]
def FSt.app(s:FSt)(dst:Option Nat)(e:Eff):FSt:=⟨λt=>if dst=some t then e.d else s.env t,λb=>AZ b (s.hp b) e.up⟩
def St.app(s:St)(dst:Option Nat)(e:Eff):St:=⟨match dst with|some t=>(t,e.d)::s.env|none=>s.env,F0 s.hp e.up,s.nx⟩
def St.app_fs(s:St)(dst:Option Nat)(e:Eff):(s.app dst e).fs=s.fs.app dst e:=by
 unfold St.app St.fs FSt.app;congr 1
 ·funext t;grind [Env.get]
 ·funext b;exact FF e.up s.hp b
def Rel.free{I0:Gh}{fr':Nat->Prop}{s:FSt}{w:World}(h:Rel w0 M0 I0 nt fr I mu s a w)(hf:∀b,fr' b->fr b):Rel w0 M0 I0 nt fr' I mu s a w:=
 ⟨h.size,h.defers,h.env,⟨h.w.blk,h.w.loc,h.w.inj,λb hb=>h.w.fresh b (hf b hb),h.w.lt,h.w.os,h.w.tape,h.w.output,h.w.grown,h.w.old,h.w.iold,h.w.inew,h.w.keep,λb x C hb=>h.w.used b x C (hf b hb)⟩⟩
def Bz(P:Program)(ops:Array Oper)(o:Oper)(id:Nat)(s0:FSt)(e:Eff):Prop:=
 ∀w0 M0 I0 nt fr I mu s a w,GA P w0 M0 I0->Rel w0 M0 I0 nt fr I mu s a w->(∀j,j<4->fr (id+2*j))->(∀d,o.dst=some d->d<nt)->(∀t ∈ o.looksAt ops,s.env t=s0.env t)->(∀b ∈ e.rd,s.hp b=s0.hp b)->
  ∀K Q,(∀a' w' I' mu',Rel w0 M0 I0 nt (λb=>fr b/\∀j,j<4->b≠id+2*j) I' mu' (s.app o.dst e) a' w'->K a' w')->
   (if Region.wanted o (yielded ops a.tmps)=true then o.wpIn I0.F I0.n P a w K Q else(∀f,o.about P w a.eval=some f->I0.F.fn f)/\K (a.put o.dst undef) w)
def TL(P:Program)(ops:Array Oper)(o:Oper)(id:Nat)(s0:FSt)(F:Eff->Prop):Prop:=
 ∀w0 M0 I0 nt fr I mu a w,GA P w0 M0 I0->Rel w0 M0 I0 nt fr I mu s0 a w->(∀j,j<4->fr (id+2*j))->(∀d,o.dst=some d->d<nt)->
  ∀K Q,(∀e,F e->∀a' w' I' mu',Rel w0 M0 I0 nt (λb=>fr b/\∀j,j<4->b≠id+2*j) I' mu' (s0.app o.dst e) a' w'->K a' w')->
   (if Region.wanted o (yielded ops a.tmps)=true then o.wpIn I0.F I0.n P a w K Q else(∀f,o.about P w a.eval=some f->I0.F.fn f)/\K (a.put o.dst undef) w)
def SoundP(P:Program)(ops:Array Oper)(o:Oper)(s0:FSt)(d:D):Prop:=
 ∀w0 M0 I0 nt fr I mu a w,GA P w0 M0 I0->Rel w0 M0 I0 nt fr I mu s0 a w->
  ∀(K:Act->World->Prop) (Q:Exit->Act->World->Prop),(∀v w' I',Rel w0 M0 I0 nt fr I' mu s0 a w'->Rep w' I' mu d v->Q (.panic [{v,recovered:=false}]) a w')->
   Region.wanted o (yielded ops a.tmps)=true/\o.wpIn I0.F I0.n P a w K Q
def bad:Eff:=⟨.any,[(0,none),(0,none),(0,none),(0,none),(0,none)],[]⟩
abbrev BF:Nat:=1000000
def Run(P:Program)(ops:Array Oper)(nx:Nat):List Oper->Nat->List Eff->St->(List Eff->St->Prop)->Prop
 |[],_,acc,s,K=>K acc.reverse s
 |o::r,pos,acc,s,K=>(∃e,Bz P ops o (2*(nx+4*pos)) s.fs e/\Run P ops nx r (pos+1) (e::acc) (s.app o.dst e) K)\/
  (∃F:Eff->Prop,(∃e,F e)/\TL P ops o (2*(nx+4*pos)) s.fs F/\∀e,F e->Run P ops nx r (pos+1) (bad::acc) (s.app o.dst e) K)\/
  (∃d,SoundP P ops o s.fs d/\K [] ⟨(BF,d)::s.env,s.hp,s.nx⟩)
def Lc(nt:Nat)(l:List Oper):Bool:=l.all λo=>match o.dst with|some d=>decide (d<nt)|none=>true
def Xl{l:List Oper}(h:Lc nt l=true):∀o ∈ l,∀d,o.dst=some d->d<nt:=by
 intro o C d M;have:=A2q.1 h o C;simp_all
section
variable{P:Program}{ops:Array Oper}{nx nt:Nat}{w0:World}{M0:Nat->Prop}{I0:Gh}{Q:Exit->Act->World->Prop}
def Nk(l:List Oper)(E:List Eff)(x y:Prop):Prop:=
 match E,l with
 |[],_::_=>y
 |_,_=>x
def UT(Q:AE->St->Prop)(nx:Nat)(s:St):Prop:=Q (.panic (s.env.get BF)) ⟨(BF,.any)::s.env,s.hp,nx⟩
def Rel.pan{w0:World}{M0:Nat->Prop}{I0:Gh}{nt:Nat}{s:St}{w:World}(h:Rel w0 M0 I0 nt fr I mu s.fs a w)(d:D)(n:Nat):
  Rel w0 M0 I0 nt fr I mu (St.fs ⟨(BF,.any)::(BF,d)::s.env,s.hp,n⟩) a w:=by
 refine⟨h.size,h.defers,λt=>?_,h.w⟩;show Rep w I mu (Env.get ((BF,.any)::(BF,d)::s.env) t) _;simp only[Env.get];by_cases ht:BF=t
 ·subst ht;simp;exact .any _
 ·have:(BF==t)=false:=by simp_all
  simp only[this,cond_false];exact h.env t
def Run.ops_seq(N:GA P w0 M0 I0)(K:List Eff->St->Prop)(hP:∀(n:Nat) (d:D) (s':St) (C:Act) (w':World) (I':Nat->Prop) (mu':Nat->Option Value) (v:Value),nx<=n->K [] ⟨(BF,d)::s'.env,s'.hp,s'.nx⟩->Rel w0 M0 I0 nt (frN n) I' mu' s'.fs C w'->n<=nx+4*ops.size->Rep w' I' mu' d v->ops.size≠0->Q (.panic [{v,recovered:=false}]) C w'):
  ∀(l:List Oper) (pos:Nat) (acc:List Eff) (s:St) (I:Nat->Prop) (mu:Nat->Option Value) (a:Act) (w:World),
  Run P ops nx l pos acc s K->acc.length=pos->pos+l.length=ops.size->(∀j,l[j]? =ops[pos+j]?)->Lc nt l=true->Rel w0 M0 I0 nt (frN (nx+4*pos)) I mu s.fs a w->
  (∀E s' C w' I' mu',E.length=ops.size->K E s'->Rel w0 M0 I0 nt (frN (nx+4*(pos+l.length))) I' mu' s'.fs C w'->Q .normal C w')->wpOpsIn I0.F I0.n P ops Q (List.range' pos l.length) a w:=by
 intro l
 induction l with
 |nil=>
  intro pos acc s I mu a w h U hz hl O r V;exact V _ _ _ _ _ _ (by simp_all) h (by omega)
 |cons o l ih=>
  intro pos acc s I mu a w h U hz hl O r V;have ho:ops[pos]? =some o:=by simpa using(hl 0).symm
  simp[A2l,List.range'_succ,wpOpsIn,ho];simp only[Lc,List.all_cons,A2i] at O;have Y:∀d,o.dst=some d->d<nt:=λd hd=>by grind
  have next:∀x e C w' I' mu',Run P ops nx l (pos+1) (x::acc) (s.app o.dst e) K->Rel w0 M0 I0 nt (λb=>frN (nx+4*pos) b/\∀j,j<4->b≠2*(nx+4*pos)+2*j) I' mu' (s.fs.app o.dst e) C w'->wpOpsIn I0.F I0.n P ops Q (List.range' (pos+1) l.length) C w':=by
   intro x e C w' I' mu' hr M;rw[<-St.app_fs] at M;refine ih (pos+1) (x::acc) _ I' mu' C w' hr (by simp[U]) (by grind) (λj=>?_) O.2 (M.free λb hb=>?_) ?_
   ·have:=hl (j+1);grind
   ·obtain⟨a0,a1⟩:=hb;exact⟨⟨a0,by omega⟩,λj Z=>by omega⟩
   grind
  rcases h with⟨e,hs,hr⟩|⟨F,he,hs,hr⟩|⟨d,hs,hk⟩
  ·exact hs w0 M0 I0 nt _ I mu s.fs a w N r (λj Z=>⟨by omega,by omega⟩) Y (λ_ _=>rfl) (λ_ _=>rfl) _ Q (by grind)
  ·exact hs w0 M0 I0 nt _ I mu a w N r (λj Z=>⟨by omega,by omega⟩) Y _ Q (by grind)
  ·obtain⟨h1,h2⟩:=hs w0 M0 I0 nt _ I mu a w N r (wpOpsIn I0.F I0.n P ops Q (List.range' (pos+1) l.length)) Q λv w' I' M hv=>hP (nx+4*pos) d s a w' I' mu v (by omega) hk M (by omega) hv (by grind);grind
def Tc(ops:Array Oper)(i:Nat):Option Nat:=(ops[i]?).bind (·.dst)
def Fy(E:List Eff)(i:Nat):Eff:=E.getD i ⟨.any,[],[]⟩
def Ev(ops:Array Oper)(E:List Eff)(s:FSt)(i:Nat):FSt:=s.app (Tc ops i) (Fy E i)
def CS(ops:Array Oper)(E:List Eff)(l:List Nat)(s:FSt):FSt:=l.foldl (Ev ops E) s
def Mp{E:List Eff}(l:List Nat):∀(s:FSt) (t:Nat),(CS ops E l s).env t=l.foldl (λd i=>if Tc ops i=some t then(Fy E i).d else d) (s.env t):=by
 induction l with
 |nil=>intro s t;rfl
 |cons i l C=>intro s t;simp[CS,A2Q] at C|-;rw[C];rfl
def PJ{E:List Eff}(l:List Nat):∀(s:FSt) (b:Nat),(CS ops E l s).hp b=l.foldl (λx i=>AZ b x (Fy E i).up) (s.hp b):=by
 induction l with
 |nil=>intro s t;rfl
 |cons i l C=>intro s t;simp[CS,A2Q] at C|-;rw[C];rfl
def PE(f:β->α->β)(p:α->Bool):∀(l:List α) (x:β),(∀i ∈ l,p i=false->∀y,f y i=y)->(l.filter p).foldl f x=l.foldl f x:=by
 intro l
 induction l with
 |nil=>simp_all
 |cons i l C=>
  grind
def PG(f:β->α->β):∀(l:List α) (x:β),(∀i ∈ l,∀y,f y i=y)->l.foldl f x=x:=by
 intro l
 induction l with
 |nil=>simp_all
 |cons i l C=>simp_all
theorem PF(f g:β->α->β):∀(l:List α) (x:β),(∀i ∈ l,∀y,f y i=g y i)->l.foldl f x=l.foldl g x:=by
 intro l
 induction l with
 |nil=>simp_all
 |cons i l C=>simp_all
def FB{b:Nat}:∀ {up:List (Nat×Option Blk)},(∀p ∈ up,p.1≠b)->∀x,AZ b x up=x:=by
 intro up h x;exact PG _ up x (by grind)
def Wo{E:List Eff}(s:FSt)(h1:∀t,Tc ops i=some t->Tc ops j≠some t)(h2:∀b,b ∈ (Fy E i).up.map (·.1)->b ∉ (Fy E j).up.map (·.1)):
  Ev ops E (Ev ops E s i) j=Ev ops E (Ev ops E s j) i:=by
 unfold Ev FSt.app;simp only;congr 1
 ·grind
 ·funext b;by_cases hi:b ∈ (Fy E i).up.map (·.1)
  ·have N:=h2 b hi;have C:∀x,AZ b x (Fy E j).up=x:=FB (by grind);rw[C,C]
  ·have M:∀x,AZ b x (Fy E i).up=x:=FB (by grind);rw[M,M]
def UD(ops:Array Oper):Nat->Nat->Nat->Bool
 |0,_,_=>false
 |n+1,j,i=>match ops[j]? with
  |none=>false
  |some o=>(o.after.any λe=>e.on==i&&Region.binds .any e) ||o.after.any λe=>decide (i<e.on)&&Region.binds .any e&&UD ops n e.on i
def Q9(ops:Array Oper)(sk:List (List Nat×List Nat))(i j:Nat):Bool:=
 match ops[i]?,ops[j]? with
 |some x,some y=>
  !(Oper.apart ops x y) ||(sk.getD i ([],[])).1.any (λb=>(sk.getD j ([],[])).1.contains b ||(sk.getD j ([],[])).2.contains b) ||(sk.getD i ([],[])).2.any (λb=>(sk.getD j ([],[])).1.contains b)
 |_,_=>false
def GH(E:List Eff):List (List Nat×List Nat):=E.map λe=>(e.up.map (·.1),e.rd)
def El(ops:Array Oper)(sk:List (List Nat×List Nat)):Bool:=
 sk.length==ops.size&&(sk.all λp=>!(p.1==[0,0,0,0,0]))&&(List.range ops.size).all λj=>(match ops[j]? with|some o=>o.after.all λe=>!Region.binds .any e ||decide (e.on<j)|none=>true)&&
  (List.range j).all λi=>!Q9 ops sk i j ||UD ops ops.size j i
def Clo(ops:Array Oper)(ls:Array Bool):Prop:=∀i o,ls.getD i false=true->ops[i]? =some o->∀e ∈ o.after,Region.binds .any e=true->ls.getD e.on false=true
def Clo.reach{C:Array Bool}(h:Clo ops C):∀(n j i:Nat),UD ops n j i=true->C.getD j false=true->C.getD i false=true:=by
 intro n
 induction n with
 |zero=>intro j i hr;simp[Go.Ab.UD] at hr
 |succ n U=>
  intro j i hr O;simp[Go.Ab.UD] at hr;cases M:ops[j]? with
  |none=>simp_all
  |some o=>
   simp only[M,Array.any_eq_true',A2i,A40,beq_iff_eq] at hr;rcases hr with⟨e,N,h1,hb⟩|⟨e,N,⟨_,hb⟩,h1⟩
   ·have V:=h j o O M e N hb;simp_all
   ·exact U _ _ h1 (h j o O M e N hb)
def UU{E:List Eff}(h:bad ∈ E\/E.length≠ops.size):El ops (GH E)=false:=by
 cases C:El ops (GH E) with
 |false=>rfl
 |true=>
  exfalso;unfold El at C;rw[A2i,A2i] at C;obtain⟨⟨h1,h2⟩,_⟩:=C;rcases h with h|h
  ·have:=A2q.1 h2 (bad.up.map (·.1),bad.rd) (A2p.2 ⟨bad,h,rfl⟩);simp[bad] at this
  ·exact h (by simpa[GH] using h1)
theorem Run.bad_out:∀(l:List Oper) (pos:Nat) (acc:List Eff) (s:St) (K:List Eff->St->Prop),Run P ops nx l pos acc s K->bad ∈ acc->ops.size=pos+l.length->∃E s',(bad ∈ E\/E.length≠ops.size)/\K E s'
 |[],_,acc,s,K,h,hb,_=>⟨acc.reverse,s,(by simp_all),h⟩
 |o::l,pos,acc,s,K,h,hb,hz=>by
  rcases h with⟨e,_,hr⟩|⟨F,⟨e,C⟩,_,hr⟩|⟨d,_,M⟩
  ·exact Run.bad_out l _ _ _ K hr (by simp_all) (by simp at hz|-;omega)
  ·exact Run.bad_out l _ _ _ K (hr e C) (by simp_all) (by simp at hz|-;omega)
  ·exact(by grind)
def Run.out:∀(l:List Oper) (pos:Nat) (acc:List Eff) (s0 s:St) (K:List Eff->St->Prop),
  Run P ops nx l pos acc s K->acc.length=pos->ops.size=pos+l.length->(∀j,l[j]? =ops[pos+j]?)->s.fs=CS ops acc.reverse (List.range pos) s0.fs->
  (∃E s',(bad ∈ E\/E.length≠ops.size)/\K E s')\/∃E s',E.length=ops.size/\(∀i,i<pos->Fy E i=Fy acc.reverse i)/\(∀i o,pos<=i->ops[i]? =some o->Bz P ops o (2*(nx+4*i)) (CS ops E (List.range i) s0.fs) (Fy E i))/\
   s'.fs=CS ops E (List.range ops.size) s0.fs/\s'.nx=s.nx/\K E s':=by
 intro l
 induction l with
 |nil=>
  intro pos acc s0 s K h C O hl M;refine .inr ⟨acc.reverse,s,by simp_all,λ_ _=>rfl,λi o hi N=>?_,by simp_all,rfl,h⟩;simp_all
 |cons o l U=>
  intro pos acc s0 s K h C O hl M;rcases h with⟨e,hs,hr⟩|⟨F,⟨e,he⟩,hs,hr⟩|⟨d,hs,hk⟩
  case inr.inl=>grind [Run.bad_out]
  case inr.inr=>grind
  have N:ops[pos]? =some o:=by simpa using(hl 0).symm
  have a0:∀(E:List Eff) (j:Nat),j<=pos->(∀i,i<j->Fy E i=Fy acc.reverse i)->CS ops E (List.range j) s0.fs=CS ops acc.reverse (List.range j) s0.fs:=by
   grind [CS,PF,Ev]
  have V:∀i,i<pos->Fy (e::acc).reverse i=Fy acc.reverse i:=by
   grind [Fy]
  have Y:Fy (e::acc).reverse pos=e:=by
   simp only[Fy,A33,A29];simp[C]
  have Z:(s.app o.dst e).fs=CS ops (e::acc).reverse (List.range (pos+1)) s0.fs:=by
   rw[St.app_fs,M,List.range_succ];unfold CS;rw[A41];simp only[A2Q,A3k,Ev,Y,Tc,N,Option.bind_some];congr 1;grind [PF,Ev]
  rcases U (pos+1) (e::acc) s0 (s.app o.dst e) K hr (by simp[C]) (by grind)
   (λj=>by have:=hl (j+1);grind) Z with hb|⟨E,s',h1,h2,h3,h4,h5,h6⟩
  ·grind
  refine .inr ⟨E,s',h1,λi hi=>(h2 i (by omega)).trans (V i hi),λi o' hi a1=>?_,h4,h5,h6⟩;grind
def B1(ls:Array Bool)(i:Nat):Bool:=ls.getD i false
def Jn{n:Nat}(h:i<n):List.range n=List.range i++i::List.range' (i+1) (n-i-1):=by
 rw[List.range_eq_range',List.range_eq_range'];have:i::List.range' (i+1) (n-i-1)=List.range' i (n-i):=by
  have:n-i=(n-i-1)+1:=by omega
  rw[this,List.range'_succ];simp
 have:=@List.range'_append_1 0 i (n-i);grind
def sg(ops:Array Oper)(E:List Eff)(s0:FSt)(ls:Array Bool):FSt:=CS ops E ((List.range ops.size).filter (B1 ls)) s0
def frS(nx:Nat)(ops:Array Oper)(ls:Array Bool)(b:Nat):Prop:=frN (nx+4*ops.size) b\/∃i j,i<ops.size/\ls.getD i true=false/\j<4/\b=2*(nx+4*i)+2*j
def Hz{C:Array Bool}{n:Nat}(hs:C.size=n)(hi:i<n):C.getD i true=false↔C.getD i false=false:=by
 simp_all
def FY{C:List (List Nat×List Nat)}{x y:Oper}(M:ops[i]? =some x)(N:ops[j]? =some y)(h:Q9 ops C i j=false):
  Oper.apart ops x y=true/\(∀b,b ∈ (C.getD i ([],[])).1->b ∉ (C.getD j ([],[])).1/\b ∉ (C.getD j ([],[])).2)/\(∀b,b ∈ (C.getD i ([],[])).2->b ∉ (C.getD j ([],[])).1):=by
 grind [Q9]
theorem NT{E:List Eff}(i:Nat):(GH E).getD i ([],[])=((Fy E i).up.map (·.1),(Fy E i).rd):=by
 simp[GH,Fy,A29,A2X];grind
def Sz{C:List (List Nat×List Nat)}(h:El ops C=true):
  (∀j o,ops[j]? =some o->∀e ∈ o.after,Region.binds .any e=true->e.on<j)/\∀i j,i<j->j<ops.size->Q9 ops C i j=true->UD ops ops.size j i=true:=by
 unfold El at h;rw[A2i] at h;replace h:=h.2;rw[A2q] at h;refine⟨λj o N e O hb=>?_,λi j U M hc=>?_⟩
 ·grind [Array.all_eq_true']
 ·have:=h j (List.mem_range.2 M);grind
def S5(ae:GA P w0 M0 I0)(E:List Eff)(s0:FSt)(nt:Nat)(ah:El ops (GH E)=true)(ai:Lc nt ops.toList=true)
  (aj:∀i o,ops[i]? =some o->Bz P ops o (2*(nx+4*i)) (CS ops E (List.range i) s0) (Fy E i))
  (ak:∀a w I mu,Rel w0 M0 I0 nt (frN (nx+4*ops.size)) I mu (CS ops E (List.range ops.size) s0) a w->Q .normal a w):
  ∀(Y:Nat) (C:Array Bool) (I:Nat->Prop) (mu:Nat->Option Value) (a:Act) (w:World),C.size=ops.size->Clo ops C->
   ((List.range ops.size).filter (λi=>!B1 C i)).length<=Y->Rel w0 M0 I0 nt (frS nx ops C) I mu (sg ops E s0 C) a w->wpAnyIn I0.F I0.n P .any ops Q Y C a w:=by
 obtain⟨al,ab⟩:=Sz ah;have am:∀(C:Array Bool),C.size=ops.size->Region.ready .any ops C=[]->∀i,i<ops.size->B1 C i=true:=by
  intro C U hr i
  induction i using Nat.strongRecOn with
  |_ i ih=>
   intro hi;cases hl:B1 C i with
   |true=>rfl
   |false=>
    have:i ∈ Region.ready .any ops C:=by
     rw[mem_ready];refine⟨(Hz U hi).2 hl,ops[i],(by simp_all),λe V hb=>?_⟩;have hlt:=al i _ (A31 hi) e V hb;exact ih e.on hlt (by omega)
    rw[hr] at this;cases this
 have an:∀(C:Array Bool) (I:Nat->Prop) (mu:Nat->Option Value) (a:Act) (w:World),C.size=ops.size->Region.ready .any ops C=[]->Rel w0 M0 I0 nt (frS nx ops C) I mu (sg ops E s0 C) a w->Q .normal a w:=by
  intro C I mu a w U hr r;have hs:sg ops E s0 C=CS ops E (List.range ops.size) s0:=by
   unfold sg;rw[A3Q.2 λi hi=>am C U hr i (List.mem_range.1 hi)]
  rw[hs] at r;exact ak a w I mu (r.free λb hb=>.inl hb)
 intro Y
 induction Y with
 |zero=>
  intro C I mu a w U a1 hf r;have hr:Region.ready .any ops C=[]:=by
   apply List.eq_nil_iff_forall_not_mem.2;intro i hi;rw[mem_ready] at hi;obtain⟨h0,o,O,_⟩:=hi;have hlt:=(A2H.1 O).1;have:i ∈ (List.range ops.size).filter (λi=>!B1 C i):=A2U.2 ⟨List.mem_range.2 hlt,by simp[B1,(Hz U hlt).1 h0]⟩;have:=List.length_pos_of_mem this;omega
  exact⟨hr,an C I mu a w U hr r⟩
 |succ Y ih=>
  intro C I mu a w U a1 hf r;refine⟨(by grind),λi hi=>?_⟩;rw[mem_ready] at hi;obtain⟨h0,o,O,a3⟩:=hi;have hlt:=(A2H.1 O).1;have a4:B1 C i=false:=(Hz U hlt).1 h0;have b4:∀j,j<i->Q9 ops (GH E) j i=true->B1 C j=true:=by
   intro j M hc;have a5:=ab j i M hlt hc;cases hn:ops.size with
   |zero=>omega
   |succ m=>
    rw[hn] at a5;simp only[UD,O,Array.any_eq_true',A2i,A40,beq_iff_eq] at a5;rcases a5 with⟨e,V,h1,hb⟩|⟨e,V,⟨_,hb⟩,h1⟩
    ·have ao:=a3 e V hb;rw[<-h1];exact ao
    ·exact a1.reach _ _ _ h1 (a3 e V hb)
  have a6:∀j,i<j->j<ops.size->B1 C j=true->Q9 ops (GH E) i j=false:=by
   intro j M N hl;cases hc:Q9 ops (GH E) i j with
   |false=>rfl
   |true=>
    have:=a1.reach _ _ _ (ab i j M N hc) hl;have h2:C.getD i false=false:=a4;rw[this] at h2;cases h2
  have a7:sg ops E s0 C=CS ops E ((List.range' (i+1) (ops.size-i-1)).filter (B1 C)) (CS ops E ((List.range i).filter (B1 C)) s0):=by
   unfold sg CS;rw[Jn hlt,A3y,List.filter_cons_of_neg (by simp[a4]),A41]
  have a8:∀j,j≠i->B1 (C.setIfInBounds i true) j=B1 C j:=λj M=>getD_set_ne false (Ne.symm M);have ac:B1 (C.setIfInBounds i true) i=true:=by simp[B1,Array.getD,U,hlt]
  have ap:sg ops E s0 (C.setIfInBounds i true)=Ev ops E (sg ops E s0 C) i:=by
   rw[a7];unfold sg;rw[Jn hlt,A3y,List.filter_cons_of_pos (by exact ac)];have e1:(List.range i).filter (B1 (C.setIfInBounds i true))=(List.range i).filter (B1 C):=
    List.filter_congr λj M=>a8 j (by have:=List.mem_range.1 M;omega)
   have e2:(List.range' (i+1) (ops.size-i-1)).filter (B1 (C.setIfInBounds i true))=(List.range' (i+1) (ops.size-i-1)).filter (B1 C):=
    List.filter_congr (by grind)
   rw[e1,e2];have aq:∀(l:List Nat) (s:FSt),(∀j ∈ l,i<j/\j<ops.size/\B1 C j=true)->CS ops E l (Ev ops E s i)=Ev ops E (CS ops E l s) i:=by
    intro l
    induction l with
    |nil=>intro s _;rfl
    |cons j l ar=>
     intro s hl;obtain⟨au,N,Z⟩:=hl j A36;have hc:=a6 j au N Z;obtain⟨a0,ad,_⟩:=FY O (A31 N) hc;have hd:=(Oper.apart_spec a0).2.1;have b5:=Wo (ops:=ops) (E:=E) (i:=i) (j:=j) s (λt ht=>by
       grind [Tc,Array.getElem?_eq_getElem])
      (λb hb=>by
       grind [NT])
     have:=ar (Ev ops E s j) λj' av=>hl j' (A2V _ av);grind [CS]
   have:=aq ((List.range' (i+1) (ops.size-i-1)).filter (B1 C)) (CS ops E ((List.range i).filter (B1 C)) s0) (by grind);grind [CS]
  have aw:∀t ∈ o.looksAt ops,(sg ops E s0 C).env t=(CS ops E (List.range i) s0).env t:=by
   intro t ht;rw[a7,Mp,Mp,Mp];rw[PG _ _ _ λj M y=>?_,PE _ _ _ _ λj M hp y=>?_]
   ·refine if_neg λhd=>?_;have a9:=List.mem_range.1 M;have N:j<ops.size:=by omega
    have hc:Q9 ops (GH E) j i=true:=by
     cases hc:Q9 ops (GH E) j i with
     |true=>rfl
     |false=>
      obtain⟨a0,_⟩:=FY (A31 N) O hc;grind [Tc,Array.getElem?_eq_getElem,absurd,Oper.apart_spec]
    simp_all
   ·refine if_neg λhd=>?_;obtain⟨h1,h2⟩:=A2U.1 M;have a9:=List.mem_range'_1.1 h1;have N:j<ops.size:=by omega
    obtain⟨a0,_⟩:=FY O (A31 N) (a6 j (by omega) N h2);grind [Tc,Array.getElem?_eq_getElem,absurd,Oper.apart_spec]
  have ax:∀b ∈ (Fy E i).rd,(sg ops E s0 C).hp b=(CS ops E (List.range i) s0).hp b:=by
   intro b hb;rw[a7,PJ,PJ,PJ];rw[PG _ _ _ λj M y=>?_,PE _ _ _ _ λj M hp y=>?_]
   ·have a9:=List.mem_range.1 M;have N:j<ops.size:=by omega
    refine FB (λp ay az=>?_) y;have hc:Q9 ops (GH E) j i=true:=by
     cases hc:Q9 ops (GH E) j i with
     |true=>rfl
     |false=>
      obtain⟨_,ad,_⟩:=FY (A31 N) O hc;grind [NT,absurd]
    simp_all
   ·obtain⟨h1,h2⟩:=A2U.1 M;have a9:=List.mem_range'_1.1 h1;have N:j<ops.size:=by omega
    refine FB (λp ay az=>?_) y;obtain⟨_,_,ad⟩:=FY O (A31 N) (a6 j (by omega) N h2);grind [NT,absurd]
  have b3:o ∈ ops.toList:=by
   grind
  unfold wpOpIn;rw[O];refine aj i o O w0 M0 I0 nt (frS nx ops C) I mu (sg ops E s0 C) a w ae r (λj M=>.inr ⟨i,j,hlt,h0,M,rfl⟩) (Xl ai o b3) aw ax _ Q ?_;intro a' w' I' mu' r';have a0:(sg ops E s0 C).app o.dst (Fy E i)=sg ops E s0 (C.setIfInBounds i true):=by
   rw[ap];simp[Ev,Tc,O,Option.bind_some]
  rw[a0] at r';refine ih (C.setIfInBounds i true) I' mu' a' w' (by simp[U]) ?_ ?_ (r'.free λb hb=>?_)
  ·intro j o' M aa e V hb;by_cases a2:j=i
   ·subst a2;obtain rfl:o=o':=by rw[O] at aa;exact Option.some.inj aa
    exact getD_set_true (a3 e V hb)
   ·rw[getD_set_ne false (Ne.symm a2)] at M;exact getD_set_true (a1 j o' M aa e V hb)
  ·have b6:((List.range ops.size).filter (λj=>!B1 C j)).length=((List.range ops.size).filter (λj=>!B1 (C.setIfInBounds i true) j)).length+1:=by
    rw[Jn hlt,A3y,A3y,List.filter_cons_of_pos (by simp[a4]),List.filter_cons_of_neg (by simp[ac])];have e1:(List.range i).filter (λj=>!B1 (C.setIfInBounds i true) j)=(List.range i).filter (λj=>!B1 C j):=
     List.filter_congr λj M=>by rw[a8 j (by have:=List.mem_range.1 M;omega)]
    have e2:(List.range' (i+1) (ops.size-i-1)).filter (λj=>!B1 (C.setIfInBounds i true) j)=(List.range' (i+1) (ops.size-i-1)).filter (λj=>!B1 C j):=
     List.filter_congr λj M=>by rw[a8 j (by have:=List.mem_range'_1.1 M;omega)]
    rw[e1,e2];simp;omega
   omega
  ·rcases hb with hb|⟨j,q,M,Z,hq,rfl⟩
   ·exact⟨.inl hb,λq hq=>by have:=hb.2;omega⟩
   ·have a2:j≠i:=by
     rintro rfl;simp at Z
    rw[getD_set_ne true (Ne.symm a2)] at Z;exact⟨.inr ⟨j,q,M,Z,hq,rfl⟩,λq' b7=>by omega⟩
end
section
variable{P:Program}{nt:Nat}{Q:AE->St->Prop}{s:St}
def AWp.region{id:Nat}{l:List Oper}(O:Lc nt l=true)(h:Run P l.toArray s.nx l 0 [] s (λE s'=>Nk l E (Q .normal ⟨s'.env,s'.hp,s.nx+4*l.length⟩) (UT Q (s.nx+4*l.length) s'))):AWp P nt (.region id l.toArray false) Q s:=λw0 M0 I0 g I mu a w r=>by
 refine wpIn_region ?_;have:=Run.ops_seq (Q:=ZP w0 M0 I0 nt Q) g _ ?_ l 0 [] s I mu a w h rfl (by simp) (λj=>by simp) O (r.free λb hb=>hb) ?_
 ·rw[A2A,List.range_eq_range'];exact this
 ·intro n d s' U w' I' mu' v hn C N V Y hz;have hl:∃o M,l=o::M:=by
   cases l with
   |nil=>simp_all
   |cons o M=>simp_all
  obtain⟨o,M,rfl⟩:=hl;simp[Nk,UT] at C;refine⟨.panic d,_,I',mu',?_,⟨v,rfl,Y⟩,(N.free λb hb=>?_).pan d (s.nx+4*(o::M).length)⟩
  ·simpa[Env.get] using C
  ·simp at V;exact⟨hb.1,by have:=hb.2;grind⟩
 ·intro E s' U w' I' mu' hE C N;have Z:Q .normal ⟨s'.env,s'.hp,s.nx+4*l.length⟩:=by
   cases E with
   |nil=>cases l with
    |nil=>exact C
    |cons o M=>simp at hE
   |cons e E=>cases l<;>exact C
  exact⟨.normal,_,I',mu',Z,trivial,N.free λb hb=>by simp_all⟩
def AWp.region_draw{id:Nat}{l:List Oper}(hm:P.follows .mixedOrders=true)(Y:Lc nt l=true)
  (h:Run P l.toArray s.nx l 0 [] s (λE s'=>El l.toArray (GH E)=true/\Q .normal ⟨s'.env,s'.hp,s.nx+4*l.length⟩)):AWp P nt (.region id l.toArray true) Q s:=λw0 M0 I0 g I mu a w r=>by
 refine wpIn_region_any hm ?_;rcases Run.out l 0 [] s s _ h rfl (by simp) (λj=>by simp) rfl with⟨E,s',hb,C,_⟩|⟨E,s',h1,_,Z,N,h5,C,O⟩
 ·rw[UU hb] at C;cases C
 refine S5 (nx:=s.nx) g E s.fs nt C (by omega) (by simp_all) ?_ _ _ I mu a _ (by simp) ?_ ?_ ?_
 ·intro a' w' I' mu' M;rw[<-N] at M;exact⟨.normal,_,I',mu',O,trivial,M.free λb hb=>by omega⟩
 ·intro i o hi;simp[Array.getD] at hi
 ·grind
 ·have U:sg l.toArray E s.fs (Array.replicate l.toArray.size false)=s.fs:=by
   unfold sg;rw[List.filter_eq_nil_iff.2 λi hi=>by simp[B1,Array.getD]];rfl
  rw[U];exact⟨r.size,r.defers,λt=>(r.env t).mono (λ_ _=>rfl) (λ_ h=>h) (λ_ _ h=>h),⟨λb x hb=>(r.w.blk b x hb).mono (λ_ _=>rfl) (λ_ h=>h) (λ_ _ h=>h) (λ_ _ _ _=>rfl),r.w.loc,r.w.inj,λb hb=>r.w.fresh b (by
   rcases hb with hb|⟨i,j,_,_,_,rfl⟩
   ·exact⟨hb.1,by have:=hb.2;omega⟩
   ·exact⟨by omega,by omega⟩),r.w.lt,r.w.os,r.w.tape,r.w.output,r.w.grown,r.w.old,r.w.iold,r.w.inew,r.w.keep,λb x V hb=>r.w.used b x V (by
   rcases hb with hb|⟨i,j,_,_,_,rfl⟩
   ·exact⟨hb.1,by have:=hb.2;omega⟩
   ·exact⟨by omega,by omega⟩)⟩⟩
end
def AQ(P:Program)(o:Oper)(id:Nat)(ev:Operand->D)(hp:Nat->Option Blk)(e:Eff):Prop:=
 ∀w0 M0 I0 fr I mu h (a:Act) w,GA P w0 M0 I0->AA w0 M0 I0 fr I mu h w->(∀j,j<4->fr (id+2*j))->(∀x ∈ o.op.operands,Rep w I mu (ev x) (a.eval x))->(∀b ∈ e.rd,h b=hp b)->
  ∀K Q,(∀v w' I' mu',Ext I mu w I' mu' w'->AA w0 M0 I0 (λb=>fr b/\∀j,j<4->b≠id+2*j) I' mu' (λb=>AZ b (h b) e.up) w'->Rep w' I' mu' e.d v->K (a.put o.dst v) w')->o.wpIn I0.F I0.n P a w K Q
def Ma{o:Oper}{w:World}{x:Next}(h:(execOp a.eval o).run P w=.ok x w')(M:∀d,x≠ .defer d):∀c,o.op≠ .defer c:=by
 intro c hc;simp[execOp,hc,A2u] at h;cases hr:(resolve a.eval c o.type).run P w with
 |ok d C=>
  grind [Result.andThen,Result.ok.injEq]
 |halt e C=>simp_all
def CT{G:Gh}{o:Oper}{w:World}(h:(execOp a.eval o).run P w=.ok (.value v) w')(k:K (a.put o.dst v) w'):o.wpIn G.F G.n P a w K Q:=
 ⟨λf _=>G.fn f,by rw[Oper.semAt_eq _ _ _ (Ma h (λ_ h=>by cases h)),h];exact k⟩
def Wx{G:Gh}{o:Oper}{w:World}(h:(execOp a.eval o).run P w=.ok .skip w')(k:K (a.put o.dst undef) w'):o.wpIn G.F G.n P a w K Q:=
 ⟨λf _=>G.fn f,by rw[Oper.semAt_eq _ _ _ (Ma h (λ_ h=>by cases h)),h];exact k⟩
def Qh{G:Gh}{n:Nat}{f:FuncId}{args:Array Value}{w:World}{R:Ending->World->Prop}(h:Calls P f args w R):CallsIn G.F n P f args w R:=by
 have C:=(callsIn_wide (n:=n)).2 h;rcases G.hF with e|⟨l,e⟩<;>rw [e]<;>exact C
def Ci{G:Gh}{o:Oper}{w:World}{f:FuncId}{args:Array Value}(h:(execOp a.eval o).run P w=.ok (.enter f args) w')
  (k:Calls P f args w' fun
   |.returned v,w''=>K (a.put o.dst v) w''
   |.panicked chain,w''=>Q (.panic chain) a w''
   |.outgrown,_=>LetsOut Q):o.wpIn G.F G.n P a w K Q:=
 ⟨λf _=>G.fn f,by rw[Oper.semAt_eq _ _ _ (Ma h (λ_ h=>by cases h)),h];exact⟨λh=>(by rw[G.depth] at h;cases h),Qh k⟩⟩
def Lu{w:World}{env:Nat->D}{tmps:Array Value}{dst:Option Nat}{d:D}(hs:tmps.size=nt)(M:∀t,dst=some t->t<nt)
  (h:∀t,Rep w I mu (env t) (tmps.getD t undef)) (N:Rep w I mu d v) (a:Act) (O:a.tmps=tmps) (t:Nat):Rep w I mu (if dst=some t then d else env t) ((a.put dst v).tmps.getD t undef):=by
 subst O;cases dst with
 |none=>simpa [Act.put] using h t
 |some k=>
  simp only[Act.put,A2j];by_cases C:k=t
  ·subst C;have:k<a.tmps.size:=by rw[hs];exact M k rfl
   simp[if_true,Array.getD,Array.size_setIfInBounds,this,dite_true];simpa using N
  ·rw[if_neg C];have:=h t;simp[Array.getElem?_setIfInBounds_ne C] at this|-;exact this
def FM(a:Act)(dst:Option Nat)(v:Value):(a.put dst v).tmps.size=a.tmps.size:=by cases dst<;>simp [Act.put]
def EF(a:Act)(dst:Option Nat)(v:Value):(a.put dst v).defers=a.defers:=by cases dst<;>rfl
def Rt{o:Oper}{env env':Nat->D}(h:∀t ∈ o.looksAt ops,env t=env' t){x:Operand}(C:x ∈ o.op.operands):evO P env x=evO P env' x:=by
 cases x with
 |tmp t=>exact h t (List.mem_append_left _ (List.mem_filterMap.2 ⟨.tmp t,by simp_all,rfl⟩))
 |_=>rfl
def Bz.plain{o:Oper}{id:Nat}{s0:FSt}{e:Eff}(N:o.guard=none)(h:AQ P o id (evO P s0.env) s0.hp e):Bz P ops o id s0 e:=by
 intro w0 M0 I0 nt fr I mu s a w C r O U ht hb K Q V;rw[if_pos (by simp[Region.wanted,N])];refine h w0 M0 I0 fr I mu s.hp a w C r.w O (λx Y=>?_) hb K Q λv w' I' mu' M Z hv=>V _ _ I' mu' ⟨?_,?_,?_,Z⟩
 ·rw[<-Rt ht Y];exact Ei (C.at r.w) r.env x
 ·rw[FM];exact r.size
 ·rw[EF];exact r.defers.ext M
 ·exact Lu r.size U (λt=>(r.env t).ext M) hv a rfl
def gOf(d:D)(want:Bool):Option Bool:=
 match d with
 |.val (.bool b)=>some (b==want)
 |.cond g (.val (.bool b))=>some (g&&(b==want))
 |_=>none
def NL{w:World}{o:Oper}{t:Nat}{U g:Bool}{d:D}(N:o.guard=some (j,U))(ht:(ops[j]?).bind (·.dst)=some t)
  (hr:Rep w I mu d (a.tmps.getD t undef)) (C:gOf d U=some g):Region.wanted o (yielded ops a.tmps)=g:=by
 have O:∀x,a.tmps.getD t undef=x->yielded ops a.tmps j=match x with|.bool b=>some b|_=>none:=by
  intro x Y;unfold yielded;rw[ht];simp;rcases A2z t a.tmps.size with hlt|hge
  ·have:a.tmps[t]? =some x:=by
    simp_all
   grind
  ·have h1:a.tmps[t]? =none:=by simp_all
   have h2:x=undef:=by
    simp_all
   rw[h1,h2];rfl
 unfold gOf at C;split at C
 ·rename_i b;have M:=hr.val_inv;have:=O _ M;simp at C;simp[Region.wanted,N,this];simp_all
 ·rename_i V b;simp at C;subst C;cases hr with
  |cond _ _ _ h1 h2=>
   cases V with
   |true=>
    have M:=(h1 rfl).val_inv;have:=O _ M;simp only[Region.wanted,N,this];simp_all
   |false=>
    have M:=h2 rfl;have:=O _ M;simp only[Region.wanted,N,this,undef];rfl
 simp_all
def Bz.guard_true{o:Oper}{id:Nat}{s0:FSt}{e:Eff}{t:Nat}{C:Bool}(O:o.guard=some (j,C))(ht:(ops[j]?).bind (·.dst)=some t)(U:gOf (s0.env t) C=some true)
  (h:AQ P o id (evO P s0.env) s0.hp e):Bz P ops o id s0 e:=by
 intro w0 M0 I0 nt fr I mu s a w M r V Y hl hb K Q Z;have a0:t ∈ o.looksAt ops:=List.mem_append_right _ (by simp_all);rw[NL O ht (r.env t) (by rw[hl t a0];exact U),if_pos rfl];refine h w0 M0 I0 fr I mu s.hp a w M r.w V (λx hx=>?_) hb K Q λv w' I' mu' N hw hv=>Z _ _ I' mu' ⟨?_,?_,?_,hw⟩
 ·rw[<-Rt hl hx];exact Ei (M.at r.w) r.env x
 ·rw[FM];exact r.size
 ·rw[EF];exact r.defers.ext N
 ·exact Lu r.size Y (λt=>(r.env t).ext N) hv a rfl
def Bz.guard_false{o:Oper}{id:Nat}{s0:FSt}{t:Nat}{C:Bool}(M:o.guard=some (j,C))(ht:(ops[j]?).bind (·.dst)=some t)(N:gOf (s0.env t) C=some false):
  Bz P ops o id s0 ⟨.cond false (.val (.bool false)),[],[]⟩:=by
 intro w0 M0 I0 nt fr I mu s a w Z r a0 O hl hb K Q U;have V:t ∈ o.looksAt ops:=List.mem_append_right _ (by simp_all);rw[NL M ht (r.env t) (by rw[hl t V];exact N),if_neg (by simp)];refine⟨λf _=>I0.fn f,?_⟩;refine U _ _ I mu ⟨by rw[FM];exact r.size,by rw[EF];exact r.defers,Lu r.size O r.env (.cond _ _ _ (λh=>by cases h) (λ_=>rfl)) a rfl,⟨r.w.blk,r.w.loc,r.w.inj,λb hb=>r.w.fresh b hb.1,r.w.lt,r.w.os,r.w.tape,r.w.output,r.w.grown,r.w.old,r.w.iold,r.w.inew,r.w.keep,λb x Y hb=>r.w.used b x Y hb.1⟩⟩
def AQ.quiet{o:Oper}{id:Nat}{ev:Operand->D}{hp:Nat->Option Blk}{d:D}{rd:List Nat}
  (h:∀w0 M0 I0 fr I mu h (a:Act) w,AA w0 M0 I0 fr I mu h w->(∀x ∈ o.op.operands,Rep w I mu (ev x) (a.eval x))->(∀b ∈ rd,h b=hp b)->∃v,(execOp a.eval o).run P w=.ok (.value v) w/\Rep w I mu d v):AQ P o id ev hp ⟨d,[],rd⟩:=by
 intro w0 M0 I0 fr I mu hh a w V C Y M hb K Q N;obtain⟨v,O,U⟩:=h w0 M0 I0 fr I mu hh a w C M hb;refine CT O ?_;exact N v w I mu (Ext.refl _ _ _) ⟨C.blk,C.loc,C.inj,λb hb=>C.fresh b hb.1,C.lt,C.os,C.tape,C.output,C.grown,C.old,C.iold,C.inew,C.keep,λb x M hb=>C.used b x M hb.1⟩ U
section plain
variable{P:Program}{id:Nat}{ev:Operand->D}{hp:Nat->Option Blk}{dst:Option Tmp}{T:TypeId}{pos:String}{af:Array Edge}{gd:Option (Nat×Bool)}
def A1i(x:Operand):AQ P ⟨dst,.move x,T,pos,af,gd⟩ id ev hp ⟨ev x,[],[]⟩:=
 AQ.quiet λ_ _ _ _ I mu _ a w _ C _=>⟨a.eval x,by simp[execOp],C x (by simp[Op.operands])⟩
def VH(x:Operand):AQ P ⟨dst,.assign x,T,pos,af,gd⟩ id ev hp ⟨ev x,[],[]⟩:=
 AQ.quiet λ_ _ _ _ I mu _ a w _ C _=>⟨a.eval x,by simp[execOp],C x (by simp[Op.operands])⟩
theorem Kq(c x y:Operand)(b:Bool)(hc:ev c=.val (.bool b)):AQ P ⟨dst,.pick c x y,T,pos,af,gd⟩ id ev hp ⟨if b=true then ev x else ev y,[],[]⟩:=
 AQ.quiet λ_ _ _ _ I mu _ a w _ C _=>by
  have h1:=C c (by simp[Op.operands]);rw[hc] at h1;have:=h1.val_inv;refine⟨if b=true then a.eval x else a.eval y,by simp[execOp,this,asBool],?_⟩;grind [Op.operands]
def Mn(op:BinOp)(k:IntKind)(a:Int)(k':IntKind)(b:Int):Option (Value×Prop):=
 match op with
 |.add=>if k=k' then some (.int k (k.wrap (a+b)),True) else none
 |.sub=>if k=k' then some (.int k (k.wrap (a-b)),True) else none
 |.mul=>if k=k' then some (.int k (k.wrap (a*b)),True) else none
 |.quo=>if k=k' then some (.int k (k.wrap (a.tdiv b)),b≠0) else none
 |.rem=>if k=k' then some (.int k (a.tmod b),b≠0) else none
 |.shl=>some (.int k (k.wrap (a*2^(min b.toNat k.bits))),0<=b)
 |.shr=>some (.int k (a.fdiv (2^(min b.toNat k.bits))),0<=b)
 |.and=>if k=k' then some (.int k (bits .and k a b),True) else none
 |.or=>if k=k' then some (.int k (bits .or k a b),True) else none
 |.xor=>if k=k' then some (.int k (bits .xor k a b),True) else none
 |.eql=>if k=k' then some (.bool (a==b),True) else none
 |.neq=>if k=k' then some (.bool (a !=b),True) else none
 |.lss=>if k=k' then some (.bool (decide (a<b)),True) else none
 |.leq=>if k=k' then some (.bool (decide (a<=b)),True) else none
 |.gtr=>if k=k' then some (.bool (decide (b<a)),True) else none
 |.geq=>if k=k' then some (.bool (decide (b<=a)),True) else none
 |_=>none
def X7{C:IntKind}{a b:Int}(h:Mn op k a C b=some (r,c))(hc:c)(T:TypeId)(w:World):(binOp op T (.int k a) (.int C b)).run P w=.ok r w:=by
 cases op<;>simp only[Mn] at h<;>first
  |(split at h
    ·simp only[A2j,A2B] at h;obtain⟨rfl,rfl⟩:=h;rename_i M;subst M;simp[binOp,Op.intArith,Op.intCmp,Op.intDiv,intBits_and,intBits_or,intBits_xor,hc]
    ·cases h)
  |(simp only[A2j,A2B] at h;obtain⟨rfl,rfl⟩:=h;simp[binOp,Op.shift,Int.not_lt.2 hc])
  |cases h
def A15{M:IntKind}{a b:Int}(h:Mn op k a M b=some (r,c))(hc:c)(C:okP (.int k a)):okP r:=by
 cases op<;>simp only[Mn] at h<;>first
  |(split at h
    ·simp only[A2j,A2B] at h;obtain⟨rfl,rfl⟩:=h;rename_i N;subst N;first
      |exact trivial
      |exact Gc _ _
      |(unfold bits;exact Gc _ _)
      |(simp [okP] at C|-
        have h1:(a.tmod b).natAbs<=a.natAbs:=by rw[Int.natAbs_tmod];exact Nat.mod_le _ _
        have h2:0<=a->0<=a.tmod b:=λh=>Int.tmod_nonneg b h;have O:a<=0->a.tmod b<=0:=λh=>by
         have:=Int.tmod_nonneg b (show 0<= -a by omega);simp_all
        have:DJ k<=0:=by cases k<;>simp [DJ]
        have:0<=DK k:=by cases k<;>simp [DK]
        omega)
    ·cases h)
  |(simp only[A2j,A2B] at h;obtain⟨rfl,rfl⟩:=h
    first
     |exact Gc _ _
     |(simp [okP] at C|-
       have hp:(0:Int)<2^(min b.toNat k.bits):=Int.pow_pos (by decide);have:DJ k<=0:=by cases k<;>simp [DJ]
       have:0<=DK k:=by cases k<;>simp [DK]
       rw[Int.fdiv_eq_ediv_of_nonneg _ (Int.le_of_lt hp)];by_cases h0:0<=a
       ·have h1:=Int.ediv_nonneg h0 (Int.le_of_lt hp);have h2:a/2^(min b.toNat k.bits)<=a:=Int.ediv_le_self _ h0;omega
       ·have h1:a/2^(min b.toNat k.bits)<0:=Int.ediv_neg_of_neg_of_pos (by omega) hp;have h2:a<=a/2^(min b.toNat k.bits):=by
         rw[Int.le_ediv_iff_mul_le hp];have:a*2^(min b.toNat k.bits)<=a*1:=Int.mul_le_mul_of_nonpos_left (by omega) (by omega);omega
        omega))
  |cases h
def LN(op:BinOp)(a b:Baa):Option (Value×Prop):=
 match op with
 |.add=>some (.string (a++b),a.size+b.size<=9223372036854775807)
 |.eql=>some (.bool (a.toList==b.toList),True)
 |.neq=>some (.bool (!(a.toList==b.toList)),True)
 |.lss=>some (.bool (Op.bytesLess a.toList b.toList),True)
 |.leq=>some (.bool (Op.bytesLess a.toList b.toList ||a.toList==b.toList),True)
 |.gtr=>some (.bool (!(Op.bytesLess a.toList b.toList ||a.toList==b.toList)),True)
 |.geq=>some (.bool (!Op.bytesLess a.toList b.toList),True)
 |_=>none
def X6{a b:Baa}(h:LN op a b=some (r,c))(hc:c)(T:TypeId)(w:World):(binOp op T (.string a) (.string b)).run P w=.ok r w:=by
 cases op<;>simp only[LN] at h<;>first
  |(simp only[A2j,A2B] at h;obtain⟨rfl,rfl⟩:=h;simp[binOp,Op.stringOp];try omega)
  |cases h
def A04{a b:Baa}(h:LN op a b=some (r,c))(hc:c):okP r:=by
 cases op<;>simp only[LN] at h<;>first
  |(simp only[A2j,A2B] at h;obtain⟨rfl,rfl⟩:=h
    first
     |exact trivial
     |(simp[okP,A2R];exact hc))
  |cases h
end plain
inductive Sh where
 |bool|int (k:IntKind)|str|struct (fs:List (Nat×Nat×Bool))|slice (e:TypeId)|ptr (e:TypeId)|map (k e:TypeId)|arr (n:Nat) (e:TypeId)|func|iface|other
structure TI where
 sz:Nat
 ag:Bool
 zero:List Value
 bytes:Nat
 sh:Sh
def S0:TypeDesc->Bool
 |.struct _=>true
 |.array _ _=>true
 |_=>false
def JY(P:Program)(f:Field):Option (Nat×Nat×Bool):=
 match P.info? f.type,P.underlying f.type with
 |some i,some d=>some (f.offset,i.size,S0 d)
 |_,_=>none
def NW(P:Program):TypeDesc->Sh
 |.bool=>.bool
 |.int k=>.int k
 |.string=>.str
 |.struct fs=>match fs.toList.mapM (JY P) with
  |some l=>.struct l
  |none=>.other
 |.slice e=>.slice e
 |.pointer e=>.ptr e
 |.map k e=>.map k e
 |.array n e=>.arr n e
 |.func _ _ _=>.func
 |.interface _=>.iface
 |_=>.other
def zOk:Value->Bool->Bool
 |.agg _,b=>b
 |_,b=>!b
def Au(P:Program)(t:TypeId):Option TI:=
 match P.info? t,P.underlying t with
 |some i,some d=>match i.zero with
  |some z=>bif zOk z (S0 d) then some ⟨i.size,S0 d,z.cells.toList,i.bytes,NW P d⟩ else none
  |none=>none
 |_,_=>none
def Bw{ti:TI}(h:Au P t=some ti):∃i d z,P.info? t=some i/\P.underlying t=some d/\i.zero=some z/\i.size=ti.sz/\S0 d=ti.ag/\z.cells.toList=ti.zero/\i.bytes=ti.bytes/\NW P d=ti.sh/\zOk z ti.ag=true:=by
 unfold Au at h;grind
def Ps{α β:Type}{g:α->Option β}:∀ {l:List α} {r:List β},l.mapM g=some r->∀(i:Nat) (y:β),r[i]? =some y->∃x,l[i]? =some x/\g x=some y
 |[],r,h,i,y,hy=>by simp_all
 |a::l,r,h,i,y,hy=>by
  simp only[List.mapM_cons,Option.bind_eq_bind,Option.bind_eq_some_iff] at h;obtain⟨b,hb,M,C,h⟩:=h;simp at h;subst h;cases i with
  |zero=>simp at hy;subst hy;exact⟨a,by simp,hb⟩
  |succ i=>simp at hy;simpa using Ps C i y hy
theorem N0{P:Program}:∀ {l:List Field} {r:List (Nat×Nat×Bool)},l.mapM (JY P)=some r->l.mapM (λf=>(P.info? f.type).map λi=>(f.offset,i.size))=some (r.map λx=>(x.1,x.2.1))
 |[],r,h=>by simp_all
 |a::l,r,h=>by
  simp only[List.mapM_cons,Option.bind_eq_bind,Option.bind_eq_some_iff] at h;obtain⟨b,hb,M,C,h⟩:=h;simp at h;subst h;unfold JY at hb;split at hb
  ·rename_i i d hi N;simp at hb;subst hb;simp[List.mapM_cons,hi,N0 C]
  ·cases hb
section runs
variable{P:Program}{t:TypeId}{ti:TI}(h:Au P t=some ti)(w:World)
include h
theorem P3:(isAgg t).run P w=.ok ti.ag w:=by
 obtain⟨i,d,z,h1,h2,M,N,C,O,U,h8,V⟩:=Bw h;rw[<-C];simp[isAgg,A2o,run_underlying h2,Result.andThen];cases d<;>rfl
theorem Bf:(sizeOf t).run P w=.ok ti.sz w:=by
 obtain⟨i,d,z,h1,h2,M,C,N,O,U,h8,V⟩:=Bw h;simp[sizeOf,typeInfo,h1,C]
theorem Eg:∃z,(zeroValue t).run P w=.ok z w/\z.cells.toList=ti.zero/\zOk z ti.ag=true:=by
 obtain⟨i,d,z,h1,h2,C,O,U,M,V,h8,N⟩:=Bw h;exact⟨z,by simp[zeroValue,typeInfo,h1,C],M,N⟩
theorem AC(C:ti.sh=.slice e):P.underlying t=some (.slice e):=by
 obtain⟨i,d,z,h1,h2,M,N,O,U,V,h8,Y⟩:=Bw h;rw[C] at h8;cases d<;>simp [NW] at h8<;>first|(cases h8;exact h2)|(cases h8;done)|(split at h8<;>cases h8)
theorem U4(C:ti.sh=.slice e):P.underlying t=some (.slice e):=by
 obtain⟨i,d,z,h1,h2,M,N,O,U,V,h8,Y⟩:=Bw h;rw[C] at h8;cases d<;>simp [NW] at h8<;>first|(cases h8;exact h2)|(cases h8;done)|(split at h8<;>cases h8)
theorem ti_ptr(C:ti.sh=.ptr e):P.underlying t=some (.pointer e):=by
 obtain⟨i,d,z,h1,h2,M,N,O,U,V,h8,Y⟩:=Bw h;rw[C] at h8;cases d<;>simp [NW] at h8<;>first|(cases h8;exact h2)|(cases h8;done)|(split at h8<;>cases h8)
theorem J8{k:TypeId}(C:ti.sh=.map k e):P.underlying t=some (.map k e):=by
 obtain⟨i,d,z,h1,h2,M,N,O,U,V,h8,Y⟩:=Bw h;rw[C] at h8;cases d<;>simp only[NW] at h8<;>first|(cases h8;exact h2)|(cases h8;done)|(split at h8<;>cases h8)
theorem ti_arr{n:Nat}(C:ti.sh=.arr n e):P.underlying t=some (.array n e):=by
 obtain⟨i,d,z,h1,h2,M,N,O,U,V,h8,Y⟩:=Bw h;rw[C] at h8;cases d<;>simp only[NW] at h8<;>first|(cases h8;exact h2)|(cases h8;done)|(split at h8<;>cases h8)
theorem Yx(C:ti.sh=.bool):P.underlying t=some .bool:=by
 obtain⟨i,d,z,h1,h2,M,N,O,U,V,h8,Y⟩:=Bw h;rw[C] at h8;cases d<;>simp [NW] at h8<;>first|exact h2|(cases h8;done)|(split at h8<;>cases h8)
theorem LM(C:ti.sh=.str):P.underlying t=some .string:=by
 obtain⟨i,d,z,h1,h2,M,N,O,U,V,h8,Y⟩:=Bw h;rw[C] at h8;cases d<;>simp [NW] at h8<;>first|exact h2|(cases h8;done)|(split at h8<;>cases h8)
theorem S8(C:ti.sh=.int k):P.underlying t=some (.int k):=by
 obtain⟨i,d,z,h1,h2,M,N,O,U,V,h8,Y⟩:=Bw h;rw[C] at h8;cases d<;>simp [NW] at h8<;>first|(cases h8;done)|(cases h8;exact h2)|(split at h8<;>cases h8)
theorem LL{fs:List (Nat×Nat×Bool)}(C:ti.sh=.struct fs):∃l:Array Field,P.underlying t=some (.struct l)/\l.toList.mapM (JY P)=some fs:=by
 obtain⟨i,d,z,h1,h2,M,N,O,U,V,h8,Y⟩:=Bw h;rw[C] at h8;cases d<;>simp [NW] at h8<;>first
  |(cases h8;done)
  |(rename_i l
    split at h8
    ·simp_all
    ·cases h8)
end runs
theorem Ca(k o n:Nat):(⟨k,o,none⟩:Addr).add n=⟨k,o+n,none⟩:=by
 unfold Addr.add;simp_all
def AI{α:Type}(xs:List α)(off:Nat)(ys:List α):List α:=xs.take off++(ys++xs.drop (off+ys.length))
theorem BC{C:List α}{M:List α}(h:off+M.length<=C.length):(AI C off M).length=C.length:=by
 grind [AI]
def GJ{C:List α}{M:List α}(h:off+M.length<=C.length)(i:Nat):(AI C off M)[i]? =if i<off then C[i]? else if i<off+M.length then M[i-off]? else C[i]?:=by
 simp[AI];by_cases h1:i<off
 ·grind
 grind
def AV:D->Bool
 |.val v=>v.oneCell'
 |.slice _ _=>true
 |.ptr _ _=>true
 |.ref _ _ _ _=>true
 |.sref _ _ _ _ _=>true
 |.gref _ _=>true
 |.mref _=>true
 |.func _ _ _=>true
 |.iface _ _=>true
 |.gel _ _ _ _=>true
 |.gsub _ _ _ _=>true
 |_=>false
def Rep.one{w:World}{d:D}(h:Rep w I mu d v)(C:AV d=true):v.oneCell'=true:=by
 cases h<;>first|exact C|rfl|(simp[AV] at C)
def A1o(h:v.oneCell'=true):v.cells=#[v]:=by cases v<;>first|rfl|(simp[Value.oneCell'] at h)
def HL:D->Option (List D)
 |.agg cs=>if cs.all AV then some cs else none
 |d=>if AV d then some [d] else none
def Rep.cells{w:World}{I:Nat->Prop}{mu:Nat->Option Value}{d:D}{v:Value}{cs:List D}(h:Rep w I mu d v)(hc:HL d=some cs):
  ∃us:List Value,v.cells.toList=us/\us.length=cs.length/\(∀i,i<cs.length->Rep w I mu (nd cs i) (nv us i))/\∀u ∈ us,u.oneCell'=true:=by
 have M:AV d=true->cs=[d]->∃us:List Value,v.cells.toList=us/\us.length=cs.length/\(∀i,i<cs.length->Rep w I mu (nd cs i) (nv us i))/\∀u ∈ us,u.oneCell'=true:=by
  intro h1 h2;subst h2;have:=h.one h1;refine⟨[v],by rw[A1o this],rfl,λi hi=>?_,λu C=>?_⟩
  ·simp at hi;obtain rfl:i=0:=by omega
   exact h
  simp_all
 cases d with
 |agg l=>
  simp only[HL] at hc;split at hc
  ·rename_i N;simp at hc;subst hc;obtain⟨us,rfl,hl,hr⟩:=h.agg_inv;refine⟨us,by simp[Value.cells],hl,hr,λu C=>?_⟩;obtain⟨i,hi,rfl⟩:=A2W.1 C;have h1:=hr i (by omega);have h2:nv us i=us[i]:=by simp[nv,List.getD,hi]
   rw[h2] at h1;refine h1.one ?_;grind [nd]
  ·cases hc
 |_=>
  grind [HL]
def AM(mu:Nat->Option Value)(id:Nat)(v:Value):Nat->Option Value:=λb=>if b=id then some v else mu b
def BN{id:Nat}(h:mu id=none):∀b x,mu b=some x->AM mu id v b=some x:=by
 unfold AM;grind
section worlds
variable{w0:World}{M0:Nat->Prop}{I0:Gh}{fr I:Nat->Prop}{mu:Nat->Option Value}{hp:Nat->Option Blk}{w:World}
theorem Bt(w:World)(o:Obj){k:Nat}(h:k<w.heap.size):(w.alloc o).heap[k]? =w.heap[k]?:=Below.heap_alloc w o k h
def AA.new(h:AA w0 M0 I0 fr I mu hp w){id:Nat}(a2:fr id)(o:Obj)(v:Value)(hv:Al v=some w.heap.size)(x:Blk)(hb:DQ (w.alloc o) I (AM mu id v) id x):
  AA w0 M0 I0 (λb=>fr b/\b≠id) I (AM mu id v) (λb=>AZ b (hp b) [(id,some x)]) (w.alloc o)/\Ext I mu w I (AM mu id v) (w.alloc o):=by
 have a3:=h.fresh id a2;have hm:=BN (v:=v) a3;have Z:∀b,AZ b (hp b) [(id,some x)]=if b=id then some x else hp b:=by
  grind [AZ,id]
 have a1:Ext I mu w I (AM mu id v) (w.alloc o):=⟨λ_ h=>h,hm,λk M=>Bt w o (h.lt k M)⟩
 refine⟨⟨λb y C=>?_,λb y u k C N M=>?_,λb c y z u u' k C Y N U M a0=>?_,λb hb=>?_,λk M=>?_,h.os,h.tape,h.output,?_,λk M a4=>?_,h.iold,h.inew,λb x hb hn=>hm b x (h.keep b x hb hn),λb y C hb=>?_⟩,a1⟩
 ·rw[Z] at C;by_cases O:b=id
  ·simp_all
  ·rw[if_neg O] at C;exact(h.blk b y C).mono a1.w a1.i hm λu k N M=>Bt w o (h.loc b y u k C N M).2.2
 ·rw[Z] at C;by_cases O:b=id
  ·rw[if_pos O] at C;simp[AM,if_pos O,A2j] at N;subst N;rw[hv] at M;cases M;exact⟨.inr h.grown,λhI=>Nat.lt_irrefl _ (h.lt _ hI),by simp⟩
  ·rw[if_neg O] at C;simp[AM,if_neg O] at N;have:=h.loc b y u k C N M;exact⟨this.1,this.2.1,by simp;omega⟩
 ·rw[Z] at C Y;by_cases O:b=id
  ·by_cases V:c=id
   ·omega
   ·exfalso;rw[if_neg V] at Y;simp[AM,if_pos O,if_neg V,A2j] at N U;subst N;rw[hv] at M;cases M;have:=(h.loc c z u' _ Y U a0).2.2;omega
  ·by_cases V:c=id
   ·exfalso;rw[if_neg O] at C;simp[AM,if_pos V,if_neg O,A2j] at N U;subst U;rw[hv] at a0;cases a0;have:=(h.loc b y u _ C N M).2.2;omega
   ·rw[if_neg O] at C;rw[if_neg V] at Y;simp[AM,if_neg V,if_neg O] at N U;exact h.inj b c y z u u' k C Y N U M a0
 ·simp[AM,if_neg hb.2];exact h.fresh b hb.1
 ·have:=h.lt k M;simp;omega
 ·have:=h.grown;simp;omega
 ·rw[Bt w o (by have:=h.grown;omega)];exact h.old k M a4
 ·rw[Z,if_neg hb.2] at C;exact h.used b y C hb.1
structure HZ(k:Nat)(w w':World):Prop where
 os:w'.os=w.os
 tape:w'.tape=w.tape
 output:w'.output=w.output
 size:w'.heap.size=w.heap.size
 other:∀j,j≠k->w'.heap[j]? =w.heap[j]?
theorem HZ.refl(k:Nat)(w:World):HZ k w w:=⟨rfl,rfl,rfl,rfl,λ_ _=>rfl⟩
def HZ.trans{k:Nat}{a b c:World}(h:HZ k a b)(g:HZ k b c):HZ k a c:=⟨g.os.trans h.os,g.tape.trans h.tape,g.output.trans h.output,g.size.trans h.size,λj C=>(g.other j C).trans (h.other j C)⟩
def AA.wrote(h:AA w0 M0 I0 fr I mu hp w){b:Nat}{x:Blk}{k:Nat}{id:Nat}(Z:hp b=some x)(hv:mu b=some v)(hk:Al v=some k)(N:HZ k w w')(O:Blk)(hb:DQ w' I mu b O):
  AA w0 M0 I0 (λb=>fr b/\b≠id) I mu (λc=>AZ c (hp c) [(b,some O)]) w'/\Ext I mu w I mu w':=by
 have hl:=h.loc b x v k Z hv hk;have V:∀c,AZ c (hp c) [(b,some O)]=if c=b then some O else hp c:=by
  grind [AZ]
 have Y:Ext I mu w I mu w':=⟨λ_ h=>h,λ_ _ h=>h,λj M=>N.other j (by grind)⟩
 refine⟨⟨λc y C=>?_,λc y u j C U M=>?_,λc c' y z u u' j C hz U a1 M a2=>?_,λc hc=>h.fresh c hc.1,λj M=>by rw[N.size];exact h.lt j M,N.os.trans h.os,N.tape.trans h.tape,N.output.trans h.output,by rw[N.size];exact h.grown,λj M a3=>?_,h.iold,h.inew,h.keep,λc y C hc=>?_⟩,Y⟩
 ·rw[V] at C;by_cases hc:c=b
  ·simp_all
  ·rw[if_neg hc] at C;refine(h.blk c y C).mono Y.w Y.i Y.m λu j U M=>N.other j ?_;rintro rfl;exact hc (h.inj c b y x u v j C Z U hv M hk)
 ·rw[V] at C;rw[N.size];by_cases hc:c=b
  ·simp_all
  ·rw[if_neg hc] at C;exact h.loc c y u j C U M
 ·rw[V] at C hz;have key:∀c y,(if c=b then some O else hp c)=some y->∃y',hp c=some y':=by
   grind
  obtain⟨y',a4⟩:=key c y C;obtain⟨z',a5⟩:=key c' z hz;exact h.inj c c' y' z' u u' j a4 a5 U a1 M a2
 ·rw[N.other j ?_]
  ·exact h.old j M a3
  grind
 ·rw[V] at C;by_cases a0:c=b
  ·subst a0;exact h.used c x Z hc.1
  ·rw[if_neg a0] at C;exact h.used c y C hc.1
end worlds
def C0{P:Program}{k:Nat}{T:TypeId}:∀(vs:List Value) (i o:Nat) (us:List Value) (w:World),w.heap[k]? =some (.cells us.toArray T (0,0))->o+i+vs.length<=us.length->(∀v ∈ vs,v.oneCell'=true)->
  ∃w',(storeCells ⟨k,o,none⟩ vs i).run P w=.ok () w'/\w'.heap[k]? =some (.cells (AI us (o+i) vs).toArray T (0,0))/\HZ k w w'
 |[],i,o,us,w,h,_,_=>⟨w,by simp[storeCells],by simpa[AI] using h,HZ.refl k w⟩
 |v::vs,i,o,us,w,h,hl,h1=>by
  simp at hl;have M:w.cell? ⟨k,o+i,none⟩=some us[o+i]:=by
   simp[World.cell?,h,(by omega)]
  have N:w.frozen? ⟨k,o+i,none⟩=false:=by simp[World.frozen?,h]
  have O:(w.setCell ⟨k,o+i,none⟩ v).heap[k]? =some (.cells (us.set (o+i) v).toArray T (0,0)):=by
   simp[World.setCell,Array.getElem?_modify,h]
  obtain⟨w',U,hh,V⟩:=C0 vs (i+1) o (us.set (o+i) v) (w.setCell ⟨k,o+i,none⟩ v) O (by simp;omega) (by simp_all);refine⟨w',?_,?_,HZ.trans (b:=w.setCell ⟨k,o+i,none⟩ v) ⟨rfl,rfl,rfl,by simp,λj Y=>Below.heap_setCell w ⟨k,o+i,none⟩ v j Y⟩ V⟩
  ·simp[storeCells,Ca,A2o,run_store P w _ v .plain (h1 v A36),M,N,Result.andThen];exact U
  ·rw[hh];congr 3;apply A3F;intro j;rw[GJ (by simp;omega),GJ (by simp;omega)];simp[A2l,List.getElem?_set];by_cases h2:j<o+i
   ·rw[if_pos (by omega),if_pos h2,if_neg (by omega)]
   ·rw[if_neg h2];by_cases Z:j=o+i
    ·subst Z;rw[if_pos (by omega),if_pos rfl,if_pos (by omega),if_pos (by omega)];simp
    ·rw[if_neg (by omega)];by_cases C:j<o+(i+1)+vs.length
     ·rw[if_pos C,if_pos (by omega)];have:j-(o+i)=(j-(o+(i+1)))+1:=by omega
      rw[this];rfl
     ·rw[if_neg C,if_neg (by omega),if_neg (by omega)]
abbrev Res:=Option (Eff×Prop)
def pv(d:D):Res:=some (⟨d,[],[]⟩,True)
def pvc(d:D)(c:Prop):Res:=some (⟨d,[],[]⟩,c)
def AT(P:Program)(s:World->Result Value)(id:Nat)(d:D)(up:List (Nat×Option Blk))(w0:World)(M0:Nat->Prop)(I0:Gh)(fr I:Nat->Prop)(mu:Nat->Option Value)(h:Nat->Option Blk)(w:World):Prop:=
 ∃v w' I' mu',s w=.ok v w'/\Ext I mu w I' mu' w'/\AA w0 M0 I0 (λb=>fr b/\b≠id) I' mu' (λb=>AZ b (h b) up) w'/\Rep w' I' mu' d v
def AA.less{I0:Gh}{fr':Nat->Prop}{h:Nat->Option Blk}{w:World}(r:AA w0 M0 I0 fr I mu h w)(hf:∀b,fr' b->fr b):AA w0 M0 I0 fr' I mu h w:=
 ⟨r.blk,r.loc,r.inj,λb hb=>r.fresh b (hf b hb),r.lt,r.os,r.tape,r.output,r.grown,r.old,r.iold,r.inew,r.keep,λb x C hb=>r.used b x C (hf b hb)⟩
theorem AT.same{s:World->Result Value}{id:Nat}{d:D}{I0:Gh}{h:Nat->Option Blk}{w:World}(r:AA w0 M0 I0 fr I mu h w)(v:Value)(hs:s w=.ok v w)(C:Rep w I mu d v):AT P s id d [] w0 M0 I0 fr I mu h w:=
 ⟨v,w,I,mu,hs,Ext.refl _ _ _,r.less λb hb=>hb.1,C⟩
def AQ.of_runs{o:Oper}{id:Nat}{ev:Operand->D}{hp:Nat->Option Blk}{e:Eff}(s:(Operand->Value)->Sem Value)
  (hs:∀(a:Act) w,(execOp a.eval o).run P w=((s a.eval).run P w).andThen λv w'=>.ok (.value v) w')
  (h:∀w0 M0 I0 fr I mu h (a:Act) w,AA w0 M0 I0 fr I mu h w->fr id->(∀x ∈ o.op.operands,Rep w I mu (ev x) (a.eval x))->(∀b ∈ e.rd,h b=hp b)->AT P (λw=>(s a.eval).run P w) id e.d e.up w0 M0 I0 fr I mu h w):AQ P o id ev hp e:=by
 intro w0 M0 I0 fr I mu hh a w a1 C M N hb K Q O;obtain⟨v,w',I',mu',U,V,Y,Z⟩:=h w0 M0 I0 fr I mu hh a w C (by simpa using M 0 (by decide)) N hb;have a0:(s a.eval).run P w=.ok v w':=U;refine CT (by rw[hs,a0];rfl) ?_;exact O v w' I' mu' V (Y.less λb hb=>⟨hb.1,by simpa using hb.2 0 (by decide)⟩) Z
def AQ.of_runs_u{o:Oper}{id:Nat}{ev:Operand->D}{hp:Nat->Option Blk}{up:List (Nat×Option Blk)}{rd:List Nat}(s:(Operand->Value)->Sem Unit)
  (hs:∀(a:Act) w,(execOp a.eval o).run P w=((s a.eval).run P w).andThen λ_ w'=>.ok .skip w')
  (h:∀w0 M0 I0 fr I mu h (a:Act) w,AA w0 M0 I0 fr I mu h w->fr id->(∀x ∈ o.op.operands,Rep w I mu (ev x) (a.eval x))->(∀b ∈ rd,h b=hp b)->
   ∃w' I' mu',(s a.eval).run P w=.ok () w'/\Ext I mu w I' mu' w'/\AA w0 M0 I0 (λb=>fr b/\b≠id) I' mu' (λb=>AZ b (h b) up) w'):AQ P o id ev hp ⟨.any,up,rd⟩:=by
 intro w0 M0 I0 fr I mu hh a w Z C M N hb K Q O;obtain⟨w',I',mu',U,V,Y⟩:=h w0 M0 I0 fr I mu hh a w C (by simpa using M 0 (by decide)) N hb;refine Wx (by rw[hs,U];rfl) ?_;exact O undef w' I' mu' V (Y.less λb hb=>⟨hb.1,by simpa using hb.2 0 (by decide)⟩) (.any _)
section
variable{P:Program}{w0:World}{M0:Nat->Prop}{I0:Gh}{fr I:Nat->Prop}{mu:Nat->Option Value}{h:Nat->Option Blk}{w:World}
def Kl(ti:TI)(hp:Nat->Option Blk):D->Res
 |.ptr cs off=>bif ti.ag then pvc (.agg ((cs.drop off).take ti.sz)) (off+ti.sz<=cs.length) else pvc (nd cs off) (off<cs.length)
 |.ref b i off sz=>match hp b with
  |some (.rows es sz')=>bif ti.ag then some (⟨.agg (((nr es i).drop off).take ti.sz),[],[b]⟩,i<es.length/\sz=sz'/\off+ti.sz<=sz) else some (⟨nd (nr es i) off,[],[b]⟩,i<es.length/\sz=sz'/\off<sz)
  |_=>none
 |.gel b i off sz=>match hp b with
  |some (.grow es sz')=>bif ti.ag then some (⟨.agg (((nr es i).drop off).take ti.sz),[],[b]⟩,i<es.length/\sz=sz'/\off+ti.sz<=sz) else some (⟨nd (nr es i) off,[],[b]⟩,i<es.length/\sz=sz'/\off<sz)
  |_=>none
 |_=>none
def Cx{ti:TI}(ht:Au P t=some ti)(w:World)(k o:Nat)(cs:List D)(u:Nat->Value)(M:∀j,j<cs.length->w.cell? ⟨k,o+j,none⟩=some (u j))(hr:∀j,j<cs.length->Rep w I mu (nd cs j) (u j))(off:Nat):
  (ti.ag=true->off+ti.sz<=cs.length->∃v,(loadVar t ⟨k,o+off,none⟩).run P w=.ok v w/\Rep w I mu (.agg ((cs.drop off).take ti.sz)) v)/\
  (ti.ag=false->off<cs.length->∃v,(loadVar t ⟨k,o+off,none⟩).run P w=.ok v w/\Rep w I mu (nd cs off) v):=by
 constructor
 ·intro C N;have hl:=run_loadCells (P:=P) w ⟨k,o+off,none⟩ ti.sz (λj=>u (off+j)) (λj O=>by grind [Ca]);refine⟨.agg ((List.range ti.sz).map λj=>u (off+j)).toArray,?_,.agg _ _ (by simp;omega) λi hi=>?_⟩
  ·simp[loadVar,P3 ht,C,Bf ht,hl]
  grind [nd,nv]
 simp_all [loadVar,P3]
def A0m{ti:TI}(ht:Au P t=some ti){hp:Nat->Option Blk}{d:D}{e:Eff}(C:Kl ti hp d=some (e,c))(hc:c)(hr:AA w0 M0 I0 fr I mu h w)(V:Rep w I mu d v)(hb:∀b ∈ e.rd,h b=hp b)(id:Nat):
  AT P (λw=>(Instr.loadAt t v).run P w) id e.d e.up w0 M0 I0 fr I mu h w:=by
 cases d with
 |ptr cs off=>
  cases V with
  |ptr _ _ k o u hI a0 a1=>
   have hl:=Cx ht w k o cs u a0 a1 off;cases M:ti.ag<;>simp only[Kl,M,A2B] at C<;>obtain ⟨rfl,rfl⟩:=C
   ·obtain⟨v,h1,h2⟩:=hl.2 M hc;exact AT.same hr v (by simp[Instr.loadAt,Instr.sureAddr,h1]) h2
   ·obtain⟨v,h1,h2⟩:=hl.1 M hc;exact AT.same hr v (by simp[Instr.loadAt,Instr.sureAddr,h1]) h2
 |ref b i off sz=>
  simp[Kl] at C;split at C
  ·rename_i es N O;cases V with
   |ref _ _ _ _ k Y=>
    have U:h b=some (.rows es N)->i<es.length->sz=N->(∀off,(ti.ag=true->off+ti.sz<=sz->∃v,(loadVar t ⟨k,i*sz+off,none⟩).run P w=.ok v w/\Rep w I mu (.agg (((nr es i).drop off).take ti.sz)) v)/\
      (ti.ag=false->off<sz->∃v,(loadVar t ⟨k,i*sz+off,none⟩).run P w=.ok v w/\Rep w I mu (nd (nr es i) off) v)):=by
     intro Z hi a2 off;obtain⟨k',T,us,h1,h2,h3,h4,h5⟩:=hr.blk b _ Z;rw[Y] at h1;simp at h1;have a3:=h4 i hi;have a4:i*sz+sz<=es.length*sz:=by rw[<-A2M];exact A2n _ hi
     have:=Cx (I:=I) (mu:=mu) ht w k (i*sz) (nr es i) (λj=>nv us (i*sz+j)) (λj hj=>by
       simp[World.cell?,h2,A3I,nv];grind)
     simp_all
    cases M:ti.ag<;>simp only[M,cond_true,A2B] at C<;>obtain ⟨rfl,rfl⟩:=C
    ·obtain⟨v,h1,h2⟩:=(U ((hb b (by simp)).trans O) hc.1 hc.2.1 off).2 M hc.2.2;exact AT.same hr v (by simp[Instr.loadAt,Instr.sureAddr,h1]) h2
    ·obtain⟨v,h1,h2⟩:=(U ((hb b (by simp)).trans O) hc.1 hc.2.1 off).1 M hc.2.2;exact AT.same hr v (by simp[Instr.loadAt,Instr.sureAddr,h1]) h2
  ·cases C
 |gel b i off sz=>
  simp[Kl] at C;split at C
  ·rename_i es N O;cases V with
   |gel _ _ _ _ k a6 a5 Y=>
    have U:h b=some (.grow es N)->i<es.length->sz=N->(∀off,(ti.ag=true->off+ti.sz<=sz->∃v,(loadVar t ⟨k,i*sz+off,none⟩).run P w=.ok v w/\Rep w I mu (.agg (((nr es i).drop off).take ti.sz)) v)/\
      (ti.ag=false->off<sz->∃v,(loadVar t ⟨k,i*sz+off,none⟩).run P w=.ok v w/\Rep w I mu (nd (nr es i) off) v)):=by
     intro Z hi a2 off;obtain⟨A,cap,T,us,h1,h2,h3,h4⟩:=hr.blk b _ Z;rw[Y] at h1;obtain⟨rfl,a7,rfl⟩:=h1;rcases h4 with⟨_,rfl⟩|⟨k',q0,q1,q2,q3,q4,q5⟩
     ·simp at hi
     simp at q1;have a3:=h2 i hi;have a4:i*sz+sz<=a5*sz:=by rw[<-A2M];exact A2n _ (by omega)
     have:=Cx (I:=I) (mu:=mu) ht w k (i*sz) (nr es i) (λj=>nv us (i*sz+j)) (λj hj=>by
       simp[World.cell?,q2,A3I,nv];grind)
     simp_all
    cases M:ti.ag<;>simp only[M,cond_true,A2B] at C<;>obtain ⟨rfl,rfl⟩:=C
    ·obtain⟨v,h1,h2⟩:=(U ((hb b (by simp)).trans O) hc.1 hc.2.1 off).2 M hc.2.2;exact AT.same hr v (by simp[Instr.loadAt,Instr.sureAddr,h1]) h2
    ·obtain⟨v,h1,h2⟩:=(U ((hb b (by simp)).trans O) hc.1 hc.2.1 off).1 M hc.2.2;exact AT.same hr v (by simp[Instr.loadAt,Instr.sureAddr,h1]) h2
  ·cases C
 |_=>simp [Kl] at C
def Kx(ti:TI)(hp:Nat->Option Blk)(a d:D):Res:=
 match a with
 |.ref b i off sz=>match hp b with
  |some (.rows es sz')=>match HL d with
   |some ns=>some (⟨.any,[(b,some (.rows (es.set i (AI (nr es i) off ns)) sz'))],[b]⟩,i<es.length/\sz=sz'/\off+ns.length<=sz/\ns.length=ti.sz)
   |none=>none
  |_=>none
 |.gel b i off sz=>match hp b with
  |some (.grow es sz')=>match HL d with
   |some ns=>some (⟨.any,[(b,some (.grow (es.set i (AI (nr es i) off ns)) sz'))],[b]⟩,i<es.length/\sz=sz'/\off+ns.length<=sz/\ns.length=ti.sz)
   |none=>none
  |_=>none
 |_=>none
def SJ{C M:List D}(h:off+M.length<=C.length)(i:Nat):nd (AI C off M) i=if i<off then nd C i else if i<off+M.length then nd M (i-off) else nd C i:=by
 simp[nd,A29,GJ h];grind
theorem Hw{C M:List Value}(h:off+M.length<=C.length)(i:Nat):nv (AI C off M) i=if i<off then nv C i else if i<off+M.length then nv M (i-off) else nv C i:=by
 simp[nv,A29,GJ h];grind
theorem M8{es:List (List D)}{r:List D}(hi:i<es.length)(j:Nat):nr (es.set i r) j=if i=j then r else nr es j:=by
 grind [nr]
def WW{ti:TI}(ht:Au P t=some ti){hp:Nat->Option Blk}{a d:D}{e:Eff}(M:Kx ti hp a d=some (e,c))(hc:c)(hr:AA w0 M0 I0 fr I mu h w){x:Value}(hv:Rep w I mu a v)(hx:Rep w I mu d x)(hb:∀b ∈ e.rd,h b=hp b)(id:Nat):
  e.d=.any/\∃w' I' mu',(Instr.storeAt t v x).run P w=.ok () w'/\Ext I mu w I' mu' w'/\AA w0 M0 I0 (λb=>fr b/\b≠id) I' mu' (λb=>AZ b (h b) e.up) w':=by
 cases a with
 |ref b i off sz=>
  simp[Kx] at M;split at M
  ·rename_i es a8 hh;split at M
   ·rename_i Z a3;obtain⟨rfl,rfl⟩:=M;obtain⟨hi,rfl,a9,aa⟩:=hc;have a0:=(hb b (by simp)).trans hh;refine⟨rfl,?_⟩;obtain⟨Y,ab,ac,a4,a5⟩:=hx.cells a3;obtain⟨k,T,us,h1,h2,h3,h4,O⟩:=hr.blk b _ a0;cases hv with
    |ref _ _ _ _ k' hk=>
     rw[h1] at hk;simp at hk;have ad:=h4 i hi;have ae:i*sz+sz<=es.length*sz:=by rw[<-A2M];exact A2n _ hi
     obtain⟨w',ah,a2,a1⟩:=C0 (P:=P) Y 0 (i*sz+off) us w h2 (by omega) a5;have a6:∀j,j<es.length->i≠j->∀l,l<sz->¬(i*sz+off<=j*sz+l/\j*sz+l<i*sz+off+Y.length):=by
      intro j C U l hl;rcases Nat.lt_or_gt_of_ne U with h6|h6
      ·have:i*sz+sz<=j*sz:=by rw[<-A2M];exact A2n _ h6
       omega
      ·have:j*sz+sz<=i*sz:=by rw[<-A2M];exact A2n _ h6
       omega
     have ai:¬I k:=(hr.loc b _ _ k a0 h1 rfl).2.1;have V:∀j,I j->w'.heap[j]? =w.heap[j]?:=λj C=>a1.other j (by grind);have:=hr.wrote (id:=id) a0 h1 rfl a1 (.rows (es.set i (AI (nr es i) off Z)) sz) ⟨k,T,AI us (i*sz+off) Y,h1,a2,by
       rw[BC (by omega),h3,A3l],λj C=>by
       grind [M8,BC],λj l C hl=>by
       rw[A3l] at C;rw[M8 hi,Hw (by omega)];by_cases U:i=j
       ·subst U;rw[if_pos rfl,SJ (by omega)];have c1:(i*sz+l<i*sz+off)↔l<off:=by omega
        have c2:(i*sz+l<i*sz+off+Y.length)↔l<off+Z.length:=by omega
        have e1:i*sz+l-(i*sz+off)=l-off:=by omega
        simp[c1,c2,e1];by_cases N:l<off
        ·simp[if_pos N];exact(O i l C hl).mono V (λ_ h=>h) (λ_ _ h=>h)
        ·simp[if_neg N];by_cases g2:l<off+Z.length
         ·simp[if_pos g2];exact(a4 (l-off) (by omega)).mono V (λ_ h=>h) (λ_ _ h=>h)
         ·simp[if_neg g2];exact(O i l C hl).mono V (λ_ h=>h) (λ_ _ h=>h)
       ·rw[if_neg U];have:=a6 j C U l hl;by_cases N:j*sz+l<i*sz+off
        ·rw[if_pos N];exact(O j l C hl).mono V (λ_ h=>h) (λ_ _ h=>h)
        ·rw[if_neg N,if_neg (by omega)];exact(O j l C hl).mono V (λ_ h=>h) (λ_ _ h=>h)⟩
     refine⟨w',I,mu,?_,this.2,this.1⟩;have aj:x.cells.size=ti.sz:=by
      grind
     simp_all [Instr.storeAt,Instr.sureAddr,storeVar,Bf]
   ·cases M
  ·cases M
 |gel b i off sz=>
  simp[Kx] at M;split at M
  ·rename_i es a8 hh;split at M
   ·rename_i Z a3;simp only[A2j,A2B] at M;obtain⟨rfl,rfl⟩:=M;obtain⟨hi,rfl,a9,aa⟩:=hc;have a0:=(hb b (by simp)).trans hh;refine⟨rfl,?_⟩;obtain⟨Y,ab,ac,a4,a5⟩:=hx.cells a3;obtain⟨A,cap,T,us,h1,h4,h3,O⟩:=hr.blk b _ a0;cases hv with
    |gel _ _ _ _ k ak al hk=>
     rcases O with⟨_,rfl⟩|⟨k',q0,q1,h2,q3,q4,O⟩
     ·simp at hi
     subst q1;rw[h1] at hk;simp at hk;obtain⟨rfl,am,rfl⟩:=hk;have ad:=h4 i hi;have ae:i*sz+sz<=cap*sz:=by rw[<-A2M];exact A2n _ (by omega)
     obtain⟨w',ah,a2,a1⟩:=C0 (P:=P) Y 0 (i*sz+off) us w h2 (by omega) a5;simp at a2;have a6:∀j,j<es.length->i≠j->∀l,l<sz->¬(i*sz+off<=j*sz+l/\j*sz+l<i*sz+off+Y.length):=by
      intro j C U l hl;rintro⟨N,g2⟩;rcases Nat.lt_or_gt_of_ne U with h6|h6
      ·have:i*sz+sz<=j*sz:=by rw[<-A2M];exact A2n _ h6
       omega
      ·have:j*sz+sz<=i*sz:=by rw[<-A2M];exact A2n _ h6
       omega
     have a7:Al (.slice (some ⟨k',0,none⟩) es.length cap)=some k':=by simp[Al];omega
     have ai:¬I k':=(hr.loc b _ _ k' a0 h1 a7).2.1;have V:∀j,I j->w'.heap[j]? =w.heap[j]?:=λj C=>a1.other j (by grind);have:=hr.wrote (id:=id) a0 h1 a7 a1 (.grow (es.set i (AI (nr es i) off Z)) sz) ⟨some ⟨k',0,none⟩,cap,T,AI us (i*sz+off) Y,by simp_all,λj C=>by
       grind [M8,BC],h3,.inr ⟨k',q0,rfl,a2,by simp_all,by rw[BC (by omega),q4],λj l C hl=>by
       rw[A3l] at C;rw[M8 hi,Hw (by omega)];by_cases U:i=j
       ·subst U;rw[if_pos rfl,SJ (by omega)];have c1:(i*sz+l<i*sz+off)↔l<off:=by omega
        have c2:(i*sz+l<i*sz+off+Y.length)↔l<off+Z.length:=by omega
        have e1:i*sz+l-(i*sz+off)=l-off:=by omega
        simp[c1,c2,e1];by_cases N:l<off
        ·simp[if_pos N];exact(O i l C hl).mono V (λ_ h=>h) (λ_ _ h=>h)
        ·simp[if_neg N];by_cases g2:l<off+Z.length
         ·simp[if_pos g2];exact(a4 (l-off) (by omega)).mono V (λ_ h=>h) (λ_ _ h=>h)
         ·simp[if_neg g2];exact(O i l C hl).mono V (λ_ h=>h) (λ_ _ h=>h)
       ·rw[if_neg U];have:=a6 j C U l hl;by_cases N:j*sz+l<i*sz+off
        ·rw[if_pos N];exact(O j l C hl).mono V (λ_ h=>h) (λ_ _ h=>h)
        ·rw[if_neg N,if_neg (by omega)];exact(O j l C hl).mono V (λ_ h=>h) (λ_ _ h=>h)⟩⟩
     refine⟨w',I,mu,?_,this.2,this.1⟩;have aj:x.cells.size=ti.sz:=by
      grind
     simp_all [Instr.storeAt,Instr.sureAddr,storeVar,Bf]
   ·cases M
  ·cases M
 |_=>simp [Kx] at M
def MR{elem:TypeId}(us:List Value)(cs:List D)(hl:us.length=cs.length)(M:∀i,i<cs.length->Rep w I mu (nd cs i) (nv us i))(hr:AA w0 M0 I0 fr I mu h w){id:Nat}(C:fr id)(sz:Nat)(N:cs.length=sz):
  ∃mu',(newRow elem us.toArray).run P w=.ok ⟨w.heap.size,0,none⟩ (w.alloc (.cells us.toArray elem))/\Ext I mu w I mu' (w.alloc (.cells us.toArray elem))/\
   AA w0 M0 I0 (λb=>fr b/\b≠id) I mu' (λb=>AZ b (h b) [(id,some (.rows [cs] sz))]) (w.alloc (.cells us.toArray elem))/\mu' id=some (.pointer (some ⟨w.heap.size,0,none⟩)):=by
 have O:=hr.fresh id C;have:=hr.new C (.cells us.toArray elem) (.pointer (some ⟨w.heap.size,0,none⟩)) rfl (.rows [cs] sz) ⟨w.heap.size,elem,us,by simp[AM],heap_alloc_new w _,by simp;omega,λi hi=>by
   simp at hi;obtain rfl:i=0:=by omega
   simpa[nr] using N,λi j hi V=>by
   simp at hi;obtain rfl:i=0:=by omega
   simp;have:nr [cs] 0=cs:=rfl;exact(M j (by omega)).mono (λk U=>Bt w _ (hr.lt k U)) (λ_ h=>h) (BN O)⟩
 exact⟨_,by simp[newRow],this.2,this.1,by simp[AM]⟩
def Yl(id:Nat)(ti:TI):Res:=some (⟨.ref id 0 0 ti.sz,[(id,some (.rows [ti.zero.map ofV] ti.sz))],[]⟩,ti.zero.length=ti.sz)
def X4{ti:TI}(ht:Au P t=some ti){id:Nat}{e:Eff}(C:Yl id ti=some (e,c))(hc:c)(hr:AA w0 M0 I0 fr I mu h w)(M:fr id):
  AT P (λw=>(Instr.alloc t true (.tuple #[])).run P w) id e.d e.up w0 M0 I0 fr I mu h w:=by
 obtain⟨rfl,rfl⟩:=C;obtain⟨z,U,V,_⟩:=Eg ht w;obtain⟨mu',h1,h2,N,O⟩:=MR (P:=P) ti.zero (ti.zero.map ofV) (by simp) (λi hi=>by
   grind [nd,ofV,nv,Ht]) hr M ti.sz (by simp_all)
 have Y:z.cells=ti.zero.toArray:=by grind
 refine⟨.pointer (some ⟨w.heap.size,0,none⟩),_,I,mu',?_,h2,N,by simpa using Rep.ref (w:=w.alloc (.cells ti.zero.toArray t)) id 0 0 ti.sz _ O⟩;simp_all [Instr.alloc,newVar,A2u]
def boxE(id:Nat)(d:D):Res:=
 match HL d with
 |some ns=>some (⟨.ref id 0 0 ns.length,[(id,some (.rows [ns] ns.length))],[]⟩,True)
 |none=>none
def runs_box{id:Nat}{d:D}{e:Eff}(C:boxE id d=some (e,c))(hr:AA w0 M0 I0 fr I mu h w)(N:fr id)(O:Rep w I mu d v):
  AT P (λw=>(Instr.box t v).run P w) id e.d e.up w0 M0 I0 fr I mu h w:=by
 unfold boxE at C;split at C
 ·rename_i M U;obtain⟨rfl,rfl⟩:=C;obtain⟨us,a0,hl,V,a1⟩:=O.cells U;obtain⟨mu',h1,h2,Y,Z⟩:=MR (P:=P) us M hl V hr N M.length rfl;have a2:v.cells=us.toArray:=by grind
  refine⟨.pointer (some ⟨w.heap.size,0,none⟩),_,I,mu',?_,h2,Y,by simpa using Rep.ref (w:=w.alloc (.cells us.toArray t)) id 0 0 M.length _ Z⟩;grind [Instr.box,newVar,Sem.run_bind,Result.andThen,Sem.run_pure]
 ·cases C
end
end Go.Ab
