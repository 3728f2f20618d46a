/- The program is walked: part 13 of 18. -/
import Derived.Test.YtmobnaefbcegbaaGreatDoorV11
import Derived.Lib.Builder
import Derived.Lib.AppendStr
import Derived.Shelf.Strconv.ParseIntPublic10
import Derived.Shelf.Small.Bits
set_option maxHeartbeats 4000000
set_option maxRecDepth 20000
set_option linter.all false
namespace Go.Ab
open Go.RowKit
variable{g off i len:Nat}{v:Value}{u C t M Te:TypeId}{y a:Operand}{ti:TI}{r:D}{ts:Array TypeId}{tx:Lua}
def s01(v u:Value):D->Value->Prop
 |.val x,y=>y=x/\okP x
 |.ref 0 i off sz,y=>∃k,v=.pointer (some ⟨k,0,none⟩)/\y=.pointer (some ⟨k,i*sz+off,none⟩)
 |.gref 1 len,y=>y=u/\∃A cap,u=.slice A len cap
 |_,_=>False
def Fr(b g:Nat):D->D
 |.ref 0 i off sz=>.ref b i off sz
 |.gref 1 len=>.gref g len
 |d=>d
def is01:D->Prop
 |.val _=>True
 |.ref 0 _ _ _=>True
 |.gref 1 _=>True
 |_=>False
def isG:D->Bool
 |.gref _ _=>true
 |_=>false
theorem s01_out{w:World}{I:Nat->Prop}{mu:Nat->Option Value}{b:Nat}{u:Value}(C:mu b=some v)(M:mu g=some u){d:D}{y:Value}(h:s01 v u d y):Rep w I mu (Fr b g d) y:=by
 unfold s01 at h;split at h
 ·obtain⟨rfl,h⟩:=h;exact .val _ h
 ·obtain⟨k,rfl,rfl⟩:=h;exact .ref _ _ _ _ k C
 ·obtain⟨rfl,A,cap,rfl⟩:=h;exact .gref _ _ A cap M
 simp_all
def s01_in{w:World}{I:Nat->Prop}{mu:Nat->Option Value}{b:Nat}{u:Value}(N:mu b=some v)(O:mu g=some u){d:D}{y:Value}(M:is01 d)(h:Rep w I mu (Fr b g d) y):s01 v u d y:=by
 unfold is01 at M;split at M
 ·exact⟨h.val_inv,h.val_ok⟩
 ·simp[Fr] at h;cases h with
  |ref _ _ _ _ k C=>rw [N] at C;cases C;exact⟨k,rfl,rfl⟩
 ·simp[Fr] at h;cases h with
  |gref _ _ A cap C=>rw [O] at C;cases C;exact⟨rfl,A,cap,rfl⟩
 simp_all
theorem A0h{u C:Value}{d:D}{y:Value}(M:isG d=false)(h:s01 v u d y):s01 v C d y:=by
 unfold s01 at h|-;split at h<;>first|exact h|(simp[isG] at M)
def oneD_out(b g:Nat)(d:D):AV (Fr b g d)=AV d:=by
 unfold Fr;split<;>rfl
def prR(T:TypeId)(es:List D)(v u:Value)(o:Option Obj):Prop:=
 ∃(k:Nat) (us:List Value),v=.pointer (some ⟨k,0,none⟩)/\o=some (.cells us.toArray T (0,0))/\us.length=es.length/\∀i,i<es.length->s01 v u (nd es i) (nv us i)
def prG(T:TypeId)(t:Lua)(v _u:Value)(o:Option Obj):Prop:=
 (v=.slice none 0 0/\t=[])\/∃(g cap:Nat) (cur:Array Value),v=.slice (some ⟨g,0,none⟩) t.length cap/\0<cap/\o=some (.cells cur T (0,0))/\t.length<=cap/\cap<=maxLen/\cur.size=cap/\cur.toList.take t.length=Lib.byteCells t
section
variable{P:Program}{ops:Array Oper}{nx:Nat}{dst:Option Tmp}{T:TypeId}{ps:String}{af:Array Edge}{gd:Option (Nat×Bool)}{l:List Oper}{pos:Nat}{acc:List Eff}{s:St}{K:List Eff->St->Prop}{op:Op}{id:Nat}{ev:Operand->D}{hp:Nat->Option Blk}{e:Eff}
def A5.of_does(M:AQ P ⟨dst,op,T,ps,af,gd⟩ (2*(nx+4*pos)) (evO P s.env.get) (Ak s.hp) e)(C:DO ops s gd)
  (N:GoS P ops nx l (pos+1) (e::acc) (s.app dst e) K):A5 P ops nx (⟨dst,op,T,ps,af,gd⟩::l) pos acc s K:=by
 rw[BA];rw[Cu] at N;unfold BT;refine .inl ⟨_,?_,by have:=Go.run N;unfold BT at this;exact this⟩;rcases C with rfl|⟨j,want,t,rfl,ht,C⟩
 ·exact Bz.plain rfl M
 ·exact Bz.guard_true rfl ht C M
def XN{b sz:Nat}{es:List D}(ht:Au P t=some ti)(N:ti.ag=false)(O:ev a=.ref b 0 off sz)(hb:hp b=some (.pr g (prR C es)))(ho:off<es.length)(hr:Fr b g (nd es off)=r):
  AQ P ⟨dst,.load t a,T,ps,af,gd⟩ id ev hp ⟨r,[],[b]⟩:=by
 refine AQ.of_runs (λρ=>Instr.loadAt t (ρ a)) (λa w=>CG _ w) λw0 M0 I0 fr I mu h U w V a0 Y Z=>?_;have M:=Y a (by simp[Op.operands]);rw[O] at M;obtain⟨v,u,h1,h2,_,_,k,us,rfl,h4,h5,h6⟩:=V.blk b _ ((Z b Sq').trans hb);generalize U.eval a=va at*;cases M with
 |ref _ _ _ _ k' hk=>
  rw[h1] at hk;have a1:w.heap[k]? =some (.cells us.toArray C (0,0)):=h4;have hl:=(Cx (I:=I) (mu:=mu) ht w k 0 (es.map (Fr b g)) (λj=>nv us j) (λj hj=>by
    simp_all [World.cell?,nv,if_neg]) (λj hj=>by
    grind [s01_out,nd,Fr]) off).2 N (by simp_all)
  grind [nd,Fr,AT.same,Instr.loadAt,Instr.sureAddr]
def VB{x:Operand}{b M sz:Nat}{O:TypeId}{es:List D}{d:D}(ht:Au P t=some ti)(a3:ti.sz=1)(ae:ti.ag=false)(ha:ev a=.ref b 0 off sz)(hb:hp b=some (.pr g (prR O es)))(ho:off<es.length)
  (hx:ev x=Fr b M d) (V:is01 d) (a4:AV d=true) (Y:M=g\/(isG d=true/\∀i,i≠off->i<es.length->isG (nd es i)=false)):
  AQ P ⟨dst,.store t a x,T,ps,af,gd⟩ id ev hp ⟨.any,[(b,some (.pr M (prR O (es.set off d))))],[b]⟩:=by
 refine AQ.of_runs_u (λρ=>Instr.storeAt t (ρ a) (ρ x)) (λa w=>Ur _ w) λw0 M0 I0 fr I mu h Z w hw ah a0 a5=>?_;have a1:=a0 a (by simp[Op.operands]);have U:=a0 x (by simp[Op.operands]);rw[ha] at a1;rw[hx] at U;have a2:=(a5 b Sq').trans hb;obtain⟨v,u,h1,h2,a6,ai,k,us,rfl,h4,h5,h6⟩:=hw.blk b _ a2;generalize Z.eval a=va at*;generalize Z.eval x=C at*;have a7:w.heap[k]? =some (.cells us.toArray O (0,0)):=h4;obtain⟨N,hu',hu'0,hall⟩:∃N,mu M=some N/\N≠undef/\∀i,i≠off->i<es.length->s01 (.pointer (some ⟨k,0,none⟩)) N (nd es i) (nv us i):=by
  rcases Y with rfl|⟨hgd,Y⟩
  ·simp_all
  ·cases d<;>simp [isG] at hgd;unfold is01 at V;split at V
   ·simp_all
   ·simp_all
   ·rename_i a8;cases a8;cases U with
    |gref _ _ A cap hk=>grind [undef,A0h]
   simp_all
 have aj:=s01_in h1 hu' V U;have a9:C.oneCell'=true:=U.one (by rw[oneD_out];exact a4);cases a1 with
 |ref _ _ _ _ k' hk=>
  rw[h1] at hk;have aa:C.cells.toList=[C]:=by cases C<;>first|rfl|(simp[Value.oneCell'] at a9)
  obtain⟨w',ak,ab,ad⟩:=C0 (P:=P) [C] 0 off us w a7 So' (by simp_all);have al:C.cells.size=ti.sz:=by rw[a3,<-A3G,aa];rfl
  have:=hw.wrote (id:=id) a2 h1 rfl ad (.pr M (prR O (es.set off d))) ⟨_,N,h1,hu',a6,hu'0,k,AI us off [C],rfl,by simpa[Al] using ab,by
   rw[BC So',A3l];exact h5,λi hi=>by
   rw[Hw So'];by_cases am:i=off
   ·simp_all [if_neg,if_pos,nd,nv]
   ·have e1:nd (es.set off d) i=nd es i:=by grind [nd]
    grind⟩
  refine⟨w',I,mu,?_,this.2,this.1⟩;simp_all [Instr.storeAt,Instr.sureAddr,storeVar,Bf]
def VG{C:Array (Nat×Operand)}{vs:List (Nat×Value)}{us:Array Value}(N:∀a:Act,(C.toList.map λp=>(p.1,a.eval p.2))=vs)(hb:P.built t vs=some us):
  AQ P ⟨dst,.build t C,T,ps,af,gd⟩ id ev hp ⟨.val (.agg us),[],[]⟩:=by
 refine AQ.of_runs (λρ=>Instr.build t (C.toList.map λp=>(p.1,ρ p.2)).toArray) (λa w=>?_) λw0 M0 I0 fr I mu h O w M U V Y=>?_
 ·have:(C.map λ(i,x)=>(i,a.eval x))=(C.toList.map λp=>(p.1,a.eval p.2)).toArray:=by grind
  simp[execOp];simp_all
 ·refine AT.same M (.agg us) ?_ (.val _ trivial);simp_all [run_build]
def Na(ht:Au P t=some ti)(C:∀x ∈ ti.zero,okP x):AQ P ⟨dst,.alloc t,T,ps,af,gd⟩ id ev hp ⟨.ref id 0 0 ti.sz,[(id,some (.pr id (prR t (ti.zero.map .val))))],[]⟩:=by
 refine AQ.of_runs (λ_=>Instr.alloc t true (.tuple #[])) (λa w=>CG _ w) λw0 M0 I0 fr I mu h U w M N V Y=>?_;obtain⟨z,Z,a0,_⟩:=Eg ht w;have a1:z.cells=ti.zero.toArray:=by grind
 have hn:(w.alloc (.cells ti.zero.toArray t)).heap[w.heap.size]? =some (.cells ti.zero.toArray t):=by show(w.heap.push _)[_]? =_;simp
 have:=M.new N (.cells ti.zero.toArray t) (.pointer (some ⟨w.heap.size,0,none⟩)) rfl (.pr id (prR t (ti.zero.map .val))) ⟨.pointer (some ⟨w.heap.size,0,none⟩),.pointer (some ⟨w.heap.size,0,none⟩),by simp[AM],by simp[AM],by simp[undef],by simp[undef],w.heap.size,ti.zero,rfl,hn,Sq',λi hi=>by
  simp at hi;have O:nd (ti.zero.map D.val) i=.val (nv ti.zero i):=by simp[nd,nv,A29,hi]
  rw[O];refine⟨rfl,C _ ?_⟩;simp[nv,A29,hi]⟩
 refine⟨.pointer (some ⟨w.heap.size,0,none⟩),_,I,_,?_,this.2,this.1,by simpa using Rep.ref (w:=w.alloc (.cells ti.zero.toArray t)) id 0 0 ti.sz w.heap.size (by simp[AM])⟩;simp_all [newRow,Instr.alloc,newVar,A2o,A2u]
def VA{x:Operand}{b sz:Nat}{es es':List D}{us:List Value}(ht:Au P t=some ti)(aa:ti.sz=us.length)(ha:ev a=.ref b 0 0 sz)(hb:hp b=some (.pr g (prR C es)))(hl:es.length=us.length)(ab:es'.length=us.length)
  (hx:ev x=.val (.agg us.toArray)) (a4:∀v ∈ us,v.oneCell'=true) (hs:∀v i,i<us.length->s01 v (.slice none 0 0) (nd es' i) (nv us i)):
  AQ P ⟨dst,.store t a x,T,ps,af,gd⟩ id ev hp ⟨.any,[(id,some (.pr id (prG Te []))),(b,some (.pr id (prR C es')))],[b]⟩:=by
 refine AQ.of_runs_u (λρ=>Instr.storeAt t (ρ a) (ρ x)) (λa w=>Ur _ w) λw0 M0 I0 fr I mu h ac w N V Y a5=>?_;have Z:=Y a (by simp[Op.operands]);have a0:=Y x (by simp[Op.operands]);rw[ha] at Z;rw[hx] at a0;have ad:=a0.val_inv;have O:=(a5 b Sq').trans hb;obtain⟨v,u,h1,h2,a6,ae,k,U,rfl,h4,h5,h6⟩:=N.blk b _ O;generalize ac.eval a=va at*;have a7:w.heap[k]? =some (.cells U.toArray C (0,0)):=h4;cases Z with
 |ref _ _ _ _ k' M=>
  rw[h1] at M;have a1:=N.put (b0:=none) V w (.slice none 0 0) (.pr id (prG Te [])) (λk M=>by simp[Al] at M) (A2e _) (λ_ _ _=>rfl) rfl rfl rfl ⟨.slice none 0 0,.slice none 0 0,by simp[AM],by simp[AM],by simp[undef],by simp[undef],.inl ⟨rfl,rfl⟩⟩;have a2:b≠id:=λe=>N.used b _ O (e▸V);have a3:AM mu id (.slice none 0 0) b=some (.pointer (some ⟨k,0,none⟩)):=by simp[AM,a2,h1]
  obtain⟨w',ah,a8,a9⟩:=C0 (P:=P) us 0 0 U w a7 Om a4;have:=a1.1.wrote (id:=id) (by rw[if_neg a2];simpa using O) a3 rfl a9 (.pr id (prR C es')) ⟨_,.slice none 0 0,a3,by simp[AM],a6,by simp[undef],k,AI U 0 us,rfl,by simpa[Al] using a8,by
   rw[BC Om];omega,λi hi=>by
   simp_all [Hw,if_neg,if_pos]⟩
  refine⟨w',I,_,?_,⟨λ_ h=>h,a1.2.m,λk M=>this.2.w k M⟩,?_⟩
  ·simp_all [Instr.storeAt,Instr.sureAddr,storeVar,Bf,Value.cells]
  ·have h2:=this.1.less (fr':=λb=>fr b/\b≠id) (λb hb=>⟨⟨hb.1,hb.2⟩,hb.2⟩);have e1:(λc=>AZ c (if c=id then some (Blk.pr id (prG Te [])) else if(none:Option Nat)=some c then none else h c) [(b,some (.pr id (prR C es')))])=λc=>AZ c (h c) [(id,some (.pr id (prG Te []))),(b,some (.pr id (prR C es')))]:=by
    grind [AZ,id]
   simp_all
def XO{x:Operand}{b sz:Nat}{es:List D}(U:ev x=.ref b i off sz)(hb:hp b=some (.pr g (prR M es)))
  (hc:∀(w:World) (k:Nat) (us:Array Value),w.heap[k]? =some (.cells us M (0,0))->us.size=es.length->(convert t C (.pointer (some ⟨k,i*sz+off,none⟩))).run P w=.ok (.pointer (some ⟨k,i*sz+off,none⟩)) w):
  AQ P ⟨dst,.convert t C x,T,ps,af,gd⟩ id ev hp ⟨.ref b i off sz,[],[b]⟩:=by
 refine AQ.of_runs (λρ=>convert t C (ρ x)) (λa w=>CG _ w) λw0 M0 I0 fr I mu h V w N a0 Y Z=>?_;have O:=Y x (by simp[Op.operands]);rw[U] at O;obtain⟨v,u,h1,h2,_,_,k,us,rfl,h4,h5,h6⟩:=N.blk b _ ((Z b Sq').trans hb);have a1:w.heap[k]? =some (.cells us.toArray M (0,0)):=h4;generalize V.eval x=va at*;cases O with
 |ref _ _ _ _ k' hk=>
  rw[h1] at hk;exact AT.same N _ (by simp_all) (.ref b i off sz k h1)
def does_usd{ts:Array TypeId}{x:Operand}{O:Nat}(U:ev x=.gref g len)(hb:hp g=some (.pr O (prG Te tx)))(ht:tx≠[]):
  AQ P ⟨dst,.call {callee:=.builtin .unsafeSliceData,args:=#[x],argTypes:=ts},T,ps,af,gd⟩ id ev hp ⟨.gel g 0 0 1,[],[g]⟩:=by
 refine AQ.of_runs (λρ=>Builtin.unsafeSliceData_ ts T #[ρ x]) (λa w=>?_) λw0 M0 I0 fr I mu h V w C a0 Y Z=>?_
 ·refine Eq.trans ?_ (CG (Builtin.unsafeSliceData_ ts T #[a.eval x]) w);simp only[execOp,resolve,A2o,A2u,Result.andThen,invoke];rw[show ∀cs,builtin .unsafeSliceData ts T cs (#[x].map a.eval)=(do pure (.value (<-Builtin.unsafeSliceData_ ts T (#[x].map a.eval)))) from λ_=>rfl];grind [Sem.run_bind,Sem.run_pure,Result.andThen]
 ·have M:=Y x (by simp[Op.operands,Call.operands]);rw[U] at M;obtain⟨v,u,h1,h2,_,_,hp⟩:=C.blk g _ ((Z g Sq').trans hb);generalize V.eval x=va at*;rcases hp with⟨_,rfl⟩|⟨k,cap,a1,rfl,a2,_⟩
  ·simp_all
  ·cases M with
   |gref _ _ A cap' N=>
    rw[h1] at N;cases N;exact AT.same C _ (Lib.run_unsafeSliceData_row w ts T ⟨k,0,none⟩ _ _ Om) (by simpa using Rep.gel g 0 0 1 k _ _ h1)
def A1g{M:TypeId}{x n:Operand}{g0:Nat}(a1:P.underlying C=some (.pointer Te))(a2:P.cellsOf Te=1)(hx:ev x=.gel g 0 0 1)(hn:ev n=iD tx.length)(hb:hp g=some (.pr g0 (prG Te tx)))(ht:tx≠[])(hl:tx.length<=1073741824):
  AQ P ⟨dst,.call {callee:=.builtin .unsafeString,args:=#[x,n],argTypes:=#[C,M]},T,ps,af,gd⟩ id ev hp ⟨.val (.string ⟨tx.toArray⟩),[(g,none),(id,some .junk)],[g]⟩:=by
 refine AQ.of_runs (λρ=>Builtin.unsafeString_ #[C,M] T #[ρ x,ρ n]) (λa w=>?_) λw0 M0 I0 fr I mu h ac w V a3 Y a4=>?_
 ·refine Eq.trans ?_ (CG (Builtin.unsafeString_ #[C,M] T #[a.eval x,a.eval n]) w);simp only[execOp,resolve,A2o,A2u,Result.andThen,invoke];rw[show ∀cs,builtin .unsafeString #[C,M] T cs (#[x,n].map a.eval)=(do pure (.value (<-Builtin.unsafeString_ #[C,M] T (#[x,n].map a.eval)))) from λ_=>rfl];grind [Sem.run_bind,Sem.run_pure,Result.andThen]
 ·have Z:=Y x (by simp[Op.operands,Call.operands]);have a0:=Y n (by simp[Op.operands,Call.operands]);rw[hx] at Z;rw[hn] at a0;have a5:=a0.val_inv;have hg:=(a4 g Sq').trans hb;obtain⟨v,u,h1,h2,_,_,hp⟩:=V.blk g _ hg;rw[a5];generalize ac.eval x=va at*;rcases hp with⟨_,rfl⟩|⟨k,cap,O,rfl,aa,ho,ab,ad,ae,a6⟩
  ·simp_all
  ·have a7:Al (.slice (some ⟨k,0,none⟩) tx.length cap)=some k:=by simp[Al];omega
   rw[a7] at ho;have a8:w.heap[k]? =some (.cells O Te (0,0)):=ho;cases Z with
   |gel _ _ _ _ k' ah cap' N=>
    rw[h1] at N;cases N;have ai:=Lib.run_unsafeString_row w C M T Te a1 a2 k O.size (by simp[World.shape?,a8]) tx ht Om Om (λj y hj=>by
     have h7:(O.toList.take tx.length)[j]? =some (.int .u8 y.toNat):=by rw[a6,Lib.byteCells,A2X,hj];rfl
     grind [Addr.add,World.cell?])
    have U:(w.freeze ⟨k,0,none⟩ tx.length).heap.size=w.heap.size/\(∀j,j≠k->(w.freeze ⟨k,0,none⟩ tx.length).heap[j]? =w.heap[j]?)/\(w.freeze ⟨k,0,none⟩ tx.length).os=w.os/\(w.freeze ⟨k,0,none⟩ tx.length).tape=w.tape/\(w.freeze ⟨k,0,none⟩ tx.length).output=w.output:=by
     unfold World.freeze;grind
    have a9:=V.put (b0:=some g) a3 (w.freeze ⟨k,0,none⟩ tx.length) (.slice none 0 0) .junk (λk N=>by simp[Al] at N) Om (by grind) U.2.2.1 U.2.2.2.1 U.2.2.2.2 trivial;refine⟨_,_,I,_,Om,a9.2,?_,.val _ (by show _<=_;simp[ByteArray.size];omega)⟩;have e1:(λc=>if c=id then some Blk.junk else if(some g:Option Nat)=some c then none else h c)=λc=>AZ c (h c) [(g,none),(id,some .junk)]:=by
     funext c;simp[AZ,A2Q,A3k,A2j];grind
    simp_all
def run_appG{ty e:TypeId}{i:TypeInfo}(ht:P.underlying t=some (.slice e))(Y:P.underlying u=some .string)(hi:P.info? e=some i)(hz:i.zero=some (.int .u8 0))(a0:i.size=1)(a1:i.bytes=1)
  {w:World} {q:Value}  (hv:prG e tx v q ((Al v).bind λk=>w.heap[k]?)) (s:Baa) (a5:tx++s.data.toList≠[]) (hl:tx.length+s.size<=1073741824):
  ∃M w',(Builtin.append_ #[t,u] ty #[v,.string s]).run P w=.ok M w'/\(∀V,prG e (tx++s.data.toList) M V ((Al M).bind λk=>w'.heap[k]?))/\M≠undef/\
   (∀k,Al M=some k->(w.heap.size<=k/\k<w'.heap.size)\/Al v=some k)/\w.heap.size<=w'.heap.size/\(∀j,j<w.heap.size->Al v≠some j->w'.heap[j]? =w.heap[j]?)/\w'.os=w.os/\w'.tape=w.tape/\w'.output=w.output/\∃A cap,M=.slice A (tx.length+s.size) cap:=by
 have a2:(tx++s.data.toList).length=tx.length+s.size:=by simp_all
 have aj:0<tx.length+s.size:=by grind
 have ak:(Lib.byteCells (tx++s.data.toList)).length=tx.length+s.size:=by rw[Lib.byteCells_length,a2]
 have fin:∀(g cap:Nat) (w':World) (C:Array Value),w'.heap[g]? =some (.cells C e (0,0))->tx.length+s.size<=cap->cap<=maxLen->C.size=cap->C.toList.take (tx.length+s.size)=Lib.byteCells (tx++s.data.toList)->
   (∀V,prG e (tx++s.data.toList) (.slice (some ⟨g,0,none⟩) (tx.length+s.size) cap) V ((Al (.slice (some ⟨g,0,none⟩) (tx.length+s.size) cap)).bind λk=>w'.heap[k]?)):=λg cap w' C h1 h2 h3 h4 h5 V=>by
  refine .inr ⟨g,cap,C,by rw[a2],Om,?_,Om,h3,h4,by simp_all⟩;grind [Al]
 rcases hv with⟨rfl,rfl⟩|⟨g,cap,C,rfl,al,ho,am,Z,a6,a7⟩
 ·obtain⟨M,w',a8,a9,N,an⟩:=Lib.run_append_own_string w w.heap.size t u ty e i ht Y hi hz a0 a1 (.slice none 0 0) 0 [] (World.ownsRow_nil _ _ _ _) s (by simp[maxLen];omega) Om (A2e _);simp at*;rcases a9.2 with⟨rfl,h0⟩|⟨g,cap,C,rfl,ao,aa,ab,Z,a6,ac⟩
  ·omega
  ·refine⟨_,w',a8,fin g cap w' C aa ab Z Om (by simpa[Lib.strCells_eq] using ac),by simp[undef],λk O=>?_,N.size,λj U _=>N.block j U (by simp[Value.ownBlock]),N.os,N.tape,N.output,_,_,rfl⟩;have:k=g:=by
    simp[Al] at O;simp_all
   grind
 ·have ad:Al (.slice (some ⟨g,0,none⟩) tx.length cap)=some g:=by simp[Al];omega
  rw[ad] at ho;have a3:w.heap[g]? =some (.cells C e (0,0)):=ho;have e2:C.toList.take tx.length++Lib.strCells s=Lib.byteCells (tx++s.data.toList):=by rw[a7,Lib.byteCells_append];rfl
  by_cases a4:tx.length+s.size<=cap
  ·have hr:=Lib.run_append_room_string w t u ty e i ht Y hi a0 g tx.length cap C a3 s a4 Om;refine⟨_,_,hr,fin g cap _ _ (setRow_heap w g C _ e _ a3) a4 Z ?_ ?_,by simp[undef],λk O=>.inr ?_,Sq',λj U a5=>setRow_other w g j _ (by grind),rfl,rfl,rfl,_,_,rfl⟩
   ·simp_all
   ·simp_all
   ·have:k=g:=by
     simp[Al] at O;simp_all
    simp_all
  ·have ae:∀j u,(Lib.byteCells tx)[j]? =some u->w.cell? ((⟨g,0,none⟩:Addr).add j)=some u:=λj u U=>by
    grind [Addr.add,World.cell?]
   have hr:=Lib.run_append_grow_string w t u ty e i (.int .u8 0) ht Y hi hz ⟨g,0,none⟩ tx.length cap (Lib.byteCells tx) (by grind) ae s Om Om (by rw[a1];exact growslice_fits Om Om);have ah:=grownCap_ge w (tx.length+s.size) cap e;have ai:grownCap w (tx.length+s.size) cap e<=maxLen:=grownCap_le_maxLen w (tx.length+s.size) cap e (by simp[maxLen];omega);refine⟨_,_,hr,fin w.heap.size _ _ _ (heap_alloc_new w.drew _) ah ai ?_ ?_,by simp[undef],λk O=>.inl ?_,Sq',λj U _=>Bt w.drew _ U,rfl,rfl,rfl,_,_,rfl⟩
   ·have ap:(Value.int IntKind.u8 0).cells.size=1:=rfl;grind [Array.size_append,size_zeroCells,Lib.byteCells_length,Lib.strCells_length]
   ·simp_all
   ·have:k=w.heap.size:=by
     simp[Al] at O;simp_all
    simp_all
def A1j{e:TypeId}{ti:TypeInfo}{x:Operand}{g0:Nat}{s:Baa}(ht:P.underlying t=some (.slice e))(hu:P.underlying u=some .string)(hi:P.info? e=some ti)(hz:ti.zero=some (.int .u8 0))(a0:ti.size=1)(a1:ti.bytes=1)
  (hx:ev x=.gref g len) (hy:ev y=sD s) (hb:hp g=some (.pr g0 (prG e tx))) (a2:tx++s.data.toList≠[]) (hl:tx.length+s.size<=1073741824):
  AQ P ⟨dst,.call {callee:=.builtin .append,args:=#[x,y],argTypes:=#[t,u]},T,ps,af,gd⟩ id ev hp ⟨.gref id (tx.length+s.size),[(g,none),(id,some (.pr id (prG e (tx++s.data.toList))))],[g]⟩:=by
 refine AQ.of_runs (λρ=>Builtin.append_ #[t,u] T #[ρ x,ρ y]) (λa w=>?_) λw0 M0 I0 fr I mu h ac w M a3 N a4=>?_
 ·refine Eq.trans ?_ (CG (Builtin.append_ #[t,u] T #[a.eval x,a.eval y]) w);simp only[execOp,resolve,A2o,A2u,Result.andThen,invoke];rw[show ∀cs,builtin .append #[t,u] T cs (#[x,y].map a.eval)=(do pure (.value (<-Builtin.append_ #[t,u] T (#[x,y].map a.eval)))) from λ_=>rfl];grind [Sem.run_bind,Sem.run_pure,Result.andThen]
 ·have O:=N x (by simp[Op.operands,Call.operands]);have U:=N y (by simp[Op.operands,Call.operands]);rw[hx] at O;rw[hy] at U;have a5:=U.val_inv;have hg:=(a4 g Sq').trans hb;obtain⟨v,q,h1,h2,_,_,hp⟩:=M.blk g _ hg;rw[a5];generalize ac.eval x=va at*;have a6:va=v:=by
   cases O with
   |gref _ _ A cap hk=>simp_all
  subst a6;obtain⟨C,w',a7,a8,V,hk,a9,ae,aa,ab,ad,A,cap,Y⟩:=run_appG ht hu hi hz a0 a1 hp s a2 hl;have Z:=M.put (b0:=some g) a3 w' C (.pr id (prG e (tx++s.data.toList))) (by simp_all) a9 (by simp_all) aa ab ad ⟨C,C,by simp[AM],by simp[AM],V,V,a8 C⟩;refine⟨C,w',I,_,a7,Z.2,?_,?_⟩
  ·have h2:=Z.1;have e1:(λc=>if c=id then some (Blk.pr id (prG e (tx++s.data.toList))) else if(some g:Option Nat)=some c then none else h c)=λc=>AZ c (h c) [(g,none),(id,some (.pr id (prG e (tx++s.data.toList))))]:=by
    funext c;simp[AZ,A2Q,A3k,A2j];grind
   simp_all
  ·rw[Y];exact .gref id _ A cap (by simp[AM,Y])
end
def AWp.regX{P:Program}{nt id:Nat}{l:List Oper}{Q:AE->St->Prop}{s:St}(C:Lc nt l=true)(h:A5 P l.toArray s.nx l 0 [] s (λE s'=>Nk l E (Q .normal ⟨s'.env,s'.hp,s.nx+4*l.length⟩) (UT Q (s.nx+4*l.length) s'))):AWp P nt (.region id l.toArray false) Q s:=by
 rw[BA] at h;have hr:=h.out;refine AWp.postW (AWp.same (AWp.region C (Run.mono (λE t h=>?_) hr)));obtain⟨s',h1,h2⟩:=h;refine QQ h2 (λh2=>⟨⟨s'.env,s'.hp,s.nx+4*l.length⟩,h1,rfl,_,Aq.refl _,h2⟩) λh2=>?_;have M:s'.env.get BF=t.env.get BF:=congrFun (congrArg FSt.env h1) BF;refine⟨⟨(BF,.any)::s'.env,s'.hp,s.nx+4*l.length⟩,?_,rfl,?_⟩
 ·have:=FSt.app_eq h1 (some BF) ⟨.any,[],[]⟩;simpa[St.app,F0,St.fs] using this
 ·rw[<-M];exact h2
section
variable{P:Program}{ops:Array Oper}{nx:Nat}{dst:Option Tmp}{T:TypeId}{ps:String}{af:Array Edge}{gd:Option (Nat×Bool)}{l:List Oper}{pos:Nat}{acc:List Eff}{s:St}{K:List Eff->St->Prop}
def A5.loadR{b sz:Nat}{es:List D}(ht:Au P t=some ti)(M:ti.ag=false)(N:evO P s.env.get a=.ref b 0 off sz)(hb:Ak s.hp b=some (.pr g (prR C es)))(O:off<es.length)(hr:Fr b g (nd es off)=r)
  (U:DO ops s gd) (V:GoS P ops nx l (pos+1) (⟨r,[],[b]⟩::acc) (s.app dst ⟨r,[],[b]⟩) K):A5 P ops nx (⟨dst,.load t a,T,ps,af,gd⟩::l) pos acc s K:=
 .of_does (XN ht M N hb O hr) U V
def A5.storeR(d:D)(C:Nat){x:Operand}{b sz:Nat}{es:List D}(ht:Au P t=some ti)(N:ti.sz=1)(O:ti.ag=false)(U:evO P s.env.get a=.ref b 0 off sz)(hb:Ak s.hp b=some (.pr g (prR M es)))(V:off<es.length)
  (Y:evO P s.env.get x=Fr b C d) (Z:is01 d) (a0:AV d=true) (a1:C=g\/(isG d=true/\(es.set off (bD true)).any isG=false))
  (hg:DO ops s gd) (hk:GoS P ops nx l (pos+1) (⟨.any,[(b,some (.pr C (prR M (es.set off d))))],[b]⟩::acc) (s.app dst ⟨.any,[(b,some (.pr C (prR M (es.set off d))))],[b]⟩) K):
  A5 P ops nx (⟨dst,.store t a x,T,ps,af,gd⟩::l) pos acc s K:=
 .of_does (VB ht N O U hb V Y Z a0 (a1.imp (λh=>h) λh=>⟨h.1,λi h1 h2=>by
  have h3:=List.any_eq_false.1 h.2 (nd es i) (List.mem_of_getElem? (i:=i) (by grind [nd]));simp_all⟩)) hg hk
def A5.convR{x:Operand}{b sz:Nat}{es:List D}(N:evO P s.env.get x=.ref b i off sz)(hb:Ak s.hp b=some (.pr g (prR M es)))
  (hc:∀(w:World) (k:Nat) (us:Array Value),w.heap[k]? =some (.cells us M (0,0))->us.size=es.length->(convert t C (.pointer (some ⟨k,i*sz+off,none⟩))).run P w=.ok (.pointer (some ⟨k,i*sz+off,none⟩)) w)
  (O:DO ops s gd) (U:GoS P ops nx l (pos+1) (⟨.ref b i off sz,[],[b]⟩::acc) (s.app dst ⟨.ref b i off sz,[],[b]⟩) K):A5 P ops nx (⟨dst,.convert t C x,T,ps,af,gd⟩::l) pos acc s K:=
 .of_does (XO N hb hc) O U
def A5.neSame{N:TypeId}{ti:TypeInfo}{x:Operand}{b sz:Nat}{V:TypeId}(ht:P.underlying C=some (.pointer N))(a1:P.info? N=some ti)(Y:evO P s.env.get x=.ref b i off sz)(Z:evO P s.env.get y=.ref b i off sz)
  (hg:DO ops s gd) (M:GoS P ops nx l (pos+1) (⟨bD false,[],[]⟩::acc) (s.app dst ⟨bD false,[],[]⟩) K):A5 P ops nx (⟨dst,.binOp .neq C x y V,T,ps,af,gd⟩::l) pos acc s K:=by
 refine .of_does (e:=⟨bD false,[],[]⟩) ?_ hg M;refine AQ.of_runs (λρ=>do eqGuard .neq C x y (ρ x) (ρ y);binOp .neq C (ρ x) (ρ y)) (λa w=>CG _ w) λw0 M0 I0 fr I mu h O w hw a2 U a3=>?_;have h1:=U x (by simp[Op.operands]);have h2:=U y (by simp[Op.operands]);rw[Y] at h1;rw[Z] at h2;generalize O.eval x=vx at*;generalize O.eval y=vy at*;cases h1 with
 |ref _ _ _ _ k M=>
  cases h2 with
  |ref _ _ _ _ k' a0=>
   rw[M] at a0;refine AT.same hw _ ?_ (.val (.bool false) trivial);grind [Lib.run_neq_ptr_same,Sem.run_bind,eqGuard,Result.andThen]
def A5.usd{ts:Array TypeId}{x:Operand}{C:Nat}(ht:tx≠[])(M:evO P s.env.get x=.gref g len)(hb:Ak s.hp g=some (.pr C (prG Te tx)))
  (N:DO ops s gd) (O:GoS P ops nx l (pos+1) (⟨.gel g 0 0 1,[],[g]⟩::acc) (s.app dst ⟨.gel g 0 0 1,[],[g]⟩) K):
  A5 P ops nx (⟨dst,.call {callee:=.builtin .unsafeSliceData,args:=#[x],argTypes:=ts},T,ps,af,gd⟩::l) pos acc s K:=
 .of_does (does_usd M hb ht) N O
def A5.ustr{M:TypeId}{x n:Operand}{N:Nat}(O:P.underlying C=some (.pointer Te))(U:P.cellsOf Te=1)(ht:tx≠[])(hl:tx.length<=1073741824)(V:evO P s.env.get x=.gel g 0 0 1)(hn:evO P s.env.get n=iD tx.length)(hb:Ak s.hp g=some (.pr N (prG Te tx)))
  (Y:DO ops s gd) (Z:GoS P ops nx l (pos+1) (⟨.val (.string ⟨tx.toArray⟩),[(g,none),(2*(nx+4*pos),some .junk)],[g]⟩::acc) (s.app dst ⟨.val (.string ⟨tx.toArray⟩),[(g,none),(2*(nx+4*pos),some .junk)],[g]⟩) K):
  A5 P ops nx (⟨dst,.call {callee:=.builtin .unsafeString,args:=#[x,n],argTypes:=#[C,M]},T,ps,af,gd⟩::l) pos acc s K:=
 .of_does (A1g O U V hn hb ht hl) Y Z
def A5.appG{e:TypeId}{ti:TypeInfo}{x:Operand}{M:Nat}{C:Baa}(ht:P.underlying t=some (.slice e))(N:P.underlying u=some .string)(hi:P.info? e=some ti)(O:ti.zero=some (.int .u8 0))(U:ti.size=1)(V:ti.bytes=1)(Y:tx++C.data.toList≠[])(hl:tx.length+C.size<=1073741824)
  (Z:evO P s.env.get x=.gref g len) (hy:evO P s.env.get y=sD C) (hb:Ak s.hp g=some (.pr M (prG e tx)))
  (hg:DO ops s gd) (hk:GoS P ops nx l (pos+1) (⟨.gref (2*(nx+4*pos)) (tx.length+C.size),[(g,none),(2*(nx+4*pos),some (.pr (2*(nx+4*pos)) (prG e (tx++C.data.toList))))],[g]⟩::acc) (s.app dst ⟨.gref (2*(nx+4*pos)) (tx.length+C.size),[(g,none),(2*(nx+4*pos),some (.pr (2*(nx+4*pos)) (prG e (tx++C.data.toList))))],[g]⟩) K):
  A5 P ops nx (⟨dst,.call {callee:=.builtin .append,args:=#[x,y],argTypes:=#[t,u]},T,ps,af,gd⟩::l) pos acc s K:=
 .of_does (A1j ht N hi O U V Z hy hb Y hl) hg hk
def A5.of_doesX{op:Op}{e:Eff}(N:AQ P ⟨dst,op,T,ps,af,gd⟩ (2*(nx+4*pos)) (evO P s.env.get) (Ak s.hp) e)(C:DO ops s gd)
  (M:A5 P ops nx l (pos+1) (e::acc) (s.app dst e) K):A5 P ops nx (⟨dst,op,T,ps,af,gd⟩::l) pos acc s K:=by
 rw[BA] at M|-;unfold BT at M|-;refine .inl ⟨_,?_,M⟩;rcases C with rfl|⟨j,want,t,rfl,ht,C⟩
 ·exact Bz.plain rfl N
 ·exact Bz.guard_true rfl ht C N
end
def A0C(b g:Nat)(x:Value):Fr b g (.val x)=.val x:=rfl
def A0D(b g i off sz:Nat):Fr b g (.ref 0 i off sz)=.ref b i off sz:=rfl
def Xk(b g len:Nat):Fr b g (.gref 1 len)=.gref g len:=rfl
attribute [push_cast] List.set_cons_zero List.set_cons_succ A0C A0D Xk
def Q4{P:Program}{id:Nat}{ev:Operand->D}{hp:Nat->Option Blk}{dst:Option Tmp}{T:TypeId}{pos:String}{af:Array Edge}{gd:Option (Nat×Bool)}{f:FuncId}{args:Array Operand}{ts:Array TypeId}{ds:List D}(O:Hp)
  (hq:KW hp O) (ha:loL ((args.toList.map ev).map (frz (Ak O) 4)) ds) (aa:An ds=true) (hc:A0 P f ds r):
  AQ P ⟨dst,.call {callee:=.value (.func f),args:=args,argTypes:=ts},T,pos,af,gd⟩ id ev hp ⟨r,(O.map (·.1)).map λc=>(c,none),O.map (·.1)⟩:=by
 intro w0 M0 I0 fr I mu h a w ab M al ac hb K Q hK;have a5:=Bo.args (w:=w) (I:=I) (mu:=mu) (ev:=ev) (a:=a) (args:=args) λy hy=>ac y (by simp[Op.operands,Call.operands];exact .inr (by simpa using hy));have hs:∀b x,Ak O b=some x->b ∈ O.map (·.1)/\h b=some x:=λb x C=>by
  obtain⟨h1,h2⟩:=Kv hq b x C;exact⟨h1,(hb b h1).trans h2⟩
 generalize O.map (·.1)=bs at*;let V:Nat->Option Blk:=λb=>if b ∈ bs then h b else none
 have a1:∀b x,V b=some x->h b=some x/\b ∈ bs:=by
  intro b x C;simp only[V] at C;split at C
  ·rename_i hm;exact⟨C,hm⟩
  ·cases C
 have a6:AA w0 M0 I0 fr I mu V w:=M.sub λb x C=>(a1 b x C).1;have ad:AA w0 M0 I0 fr I mu (Ak O) w:=M.sub λb x C=>(hs b x C).2;let J:Nat->Prop:=λk=>I k\/∃b x v,V b=some x/\mu b=some v/\Al v=some k;have a2:∀k,I k->J k:=λk N=>.inl N;have hJ:∀b x v k,Ak O b=some x->mu b=some v->Al v=some k->J k:=λb x v k h1 h2 Y=>.inr ⟨b,x,v,by simp only[V,if_pos (hs b x h1).1];exact(hs b x h1).2,h2,Y⟩;have ae:∀k,J k->k<w.heap.size:=by
  rintro k (N|⟨b,x,v,h1,h2,Y⟩)
  ·exact M.lt k N
  ·exact(a6.loc b x v k h1 h2 Y).2.2
 have ah:Bo w J mu ds (args.toList.map a.eval):=by
  obtain⟨l1,l2⟩:=C3 ha;refine⟨by rw[<-l1];simpa using a5.1,λi hi=>?_⟩;rw[<-l1] at hi;have a7:i<(args.toList.map ev).length:=by simpa using hi
  have:=l2 i hi;rw[Dq a7] at this;exact(Rep.frz ad a2 hJ 4 _ _ (a5.2 i a7)).lo this
 have a8:=ah.unmu (mu':=λ_=>none) aa;unfold A0 at hc;have ai:=hc.2 w J _ ((ab.at M).mono a2) ae a8.1 a8.2;have aj:(execOp a.eval ⟨dst,.call {callee:=.value (.func f),args:=args,argTypes:=ts},T,pos,af,gd⟩).run P w=.ok (.enter f (args.toList.map a.eval).toArray) w:=by
  have e1:args.map a.eval=(args.toList.map a.eval).toArray:=by apply Array.ext';simp
  simp only[execOp,resolve,Act.eval,Deferred.ofValue,A2o,A2u,Result.andThen,invoke];have e2:#[]++args.map a.eval++ #[]=(args.toList.map a.eval).toArray:=by rw[e1];simp
  exact(congrArg (λz=>(callFunc f z).run P w) e2).trans (Bj hc.1 _ w)
 refine Ci aj ?_;refine ai.mono λe w' ⟨v,I',he,hv,h1,h2,Y,U⟩=>?_;subst he;have a3:∀k,k<w.heap.size->w'.heap[k]? =w.heap[k]?:=λk N=>U.block k N;have a9:∀k,I k->I' k:=λk N=>h1 k (a2 k N);have a0:Ext I mu w I' mu w':=⟨a9,λ_ _ h=>h,λk N=>a3 k (M.lt k N)⟩
 have Z:∀b x,AZ b (h b) (bs.map λc=>(c,none))=some x->h b=some x/\b ∉ bs:=by
  intro b x C;rw[JO] at C;split at C
  ·cases C
  ·rename_i hm;exact⟨C,hm⟩
 refine hK v w' I' mu a0 ⟨λb x C=>?_,λb x u k C hu N=>?_,λb c x y u u' k C hy=>M.inj b c x y u u' k (Z b x C).1 (Z c y hy).1,λb a4=>M.fresh b a4.1,Y,U.os.trans M.os,U.tape.trans M.tape,U.output.trans M.output,A2N M.grown U.size,λk N ak=>(a3 k (by have:=M.grown;omega)).trans (M.old k N ak),λk N=>a9 k (M.iold k N),λk N=>?_,M.keep,λb x C a4=>M.used b x (Z b x C).1 a4.1⟩ (hv.mono (λ_ _=>rfl) (λ_ h=>h) (λ_ _ h=>by cases h))
 ·obtain⟨g1,g2⟩:=Z b x C;exact(M.blk b x g1).mono a0.w a0.i a0.m λu k hu N=>a3 k (M.loc b x u k g1 hu N).2.2
 ·obtain⟨g1,g2⟩:=Z b x C;have g3:=M.loc b x u k g1 hu N;refine⟨g3.1,λhI=>?_,A3K g3.2.2 U.size⟩;rcases h2 k hI with(h5|⟨c,y,v',q1,q2,q3⟩)|h5
  ·exact g3.2.1 h5
  ·have:=M.inj b c x y u v' k g1 (a1 c y q1).1 hu q2 N q3;exact g2 (this▸(a1 c y q1).2)
  ·omega
 ·rcases h2 k N with(h5|⟨c,y,v',q1,q2,q3⟩)|h5
  ·exact M.inew k h5
  ·exact .inr (a6.loc c y v' k q1 q2 q3).1
  ·exact .inr (.inr (A2N M.grown h5))
noncomputable section
variable{P:Program}{ops:Array Oper}{nx:Nat}{dst:Option Tmp}{T:TypeId}{ps:String}{af:Array Edge}{gd:Option (Nat×Bool)}{f:FuncId}{args:Array Operand}{ts:Array TypeId}{ds:List D}{r:D}{l:List Oper}{pos:Nat}{acc:List Eff}{s:St}{K:List Eff->St->Prop}
def A5.giveF(C:Hp)(bs:List Nat)(Y:C.map (·.1)=bs)(hc:A0 P f ds r)(M:DO ops s gd)(N:KW (Ak s.hp) C)(O:loL ((args.toList.map (evO P s.env.get)).map (frz (Ak C) 4)) ds)(U:An ds=true)
  (V:GoS P ops nx l (pos+1) (⟨r,bs.map λc=>(c,none),bs⟩::acc) (s.app dst ⟨r,bs.map λc=>(c,none),bs⟩) K):A5 P ops nx (⟨dst,.call {callee:=.value (.func f),args:=args,argTypes:=ts},T,ps,af,gd⟩::l) pos acc s K:=by
 subst Y;rw[Cu] at V;rw[BA];unfold BT;refine .inl ⟨_,?_,by have:=Go.run V;unfold BT at this;exact this⟩;rcases M with rfl|⟨j,want,t,rfl,ht,M⟩
 ·exact Bz.plain rfl (Q4 C N O U hc)
 ·exact Bz.guard_true rfl ht M (Q4 C N O U hc)
end
end Go.Ab
namespace Go.Ab
open Go.Proofs Go.Proofs.Tryz
variable{i:Nat}{r y:Lua}{c:UInt8}
abbrev qgB(a g n:Nat):Blk:=.rows [[uD' a,.gref g n]] 2
abbrev qgH(a g n:Nat)(X:LLa):Hp:=[(3,qgB a g n),(g,.grow X 20)]
abbrev quH(a o n:Nat)(X:LLa):Hp:=[(3,quB a o n),(5,.grow X 20)]
def Dz{y:List D}(C:An y=true):∀ {X:LLa},Aa X=true->Aa (X++[y])=true
 |[],_=>by simp[Aa,C]
 |x::X,h=>by simp only[Aa,A2i] at h;simp only[A2d,Aa,h.1,Dz C h.2,A2L]
def Zz(a n:Nat)(X:LLa)(m:GM)(hm:SmU m)(M:Aa X=true)(hl:X.length=n)(hn:a+n<4611686018427387903)(a0:n<=1048576):
  A4 prog 33 [.ref 3 0 0 2,.agg (Ai m)] (qgH a 5 n X) (.tup [uD' ((a:Int)+n+1),iD 0]) (qgH a 0 (n+1) (X++[uD' ((a:Int)+n+1)::Ai m])):=by
 have N:=HO a X false Om;rw[hl] at N;have Z:=Tm ((a:Int)+n+1) m hm;have O:=Ax m;have V:=AB m;have tU:=BQ m;have Y:=C4 m;have aU:=A2q.1 Y;have c1:decide ((4611686018427387903:Int)<(a:Int)+n+1)=false:=Df';have oS:=Dz (y:=uD' ((a:Int)+n+1)::Ai m) (by simp only[An,D.pure,O,A2L]) M;generalize Ai m=U at*;refine Zd [] ?_
 (have z:=Za M<|Za hl<|Za O<|Za V<|Za tU<|Za Y c1;push_cast[z]<;>repeat' (first|refine A5.lendZ (qgH a 5 n X) N ?_|refine Zc Z ?_|exact Zo|apply Za)<;>push_cast[z])
 all_goals first|omega|(intro y C;cases A2b.1 C;exact List.forall_mem_cons.2 ⟨rfl,aU⟩)|(intro y C;cases A2b.1 C;simp[V])|skip
 apply Zr [(0,168)] rfl<;>push_cast [oS]
def c_qAdd(a n:Nat)(X:LLa)(u:SMu)(C:Aa X=true)(hl:X.length=n)(hn:a+n<=1048576):
  A4 prog 33 [.ref 3 0 0 2,.agg (Ai u.m)] (qgH a 5 n X) (.tup [uD' ((a:Int)+n+1),iD 0]) (qgH a 0 (n+1) (X++[C2 (a+n+1,u)])):=by
 have M:C2 (a+n+1,u)=uD' ((a:Int)+n+1)::Ai u.m:=by rw[Hr];simp
 rw[M];exact Zz a n X u.m (LQ u) C hl Om Om
def CW:∀(n:Nat) (X:LLa),Aa X=true->Aa (X.take n)=true
 |0,_,_=>by simp[Aa]
 |n+1,[],_=>by simp[Aa]
 |n+1,x::X,h=>by
  simp only[Aa,A2i,A3i] at h|-;exact⟨h.1,CW n X h.2⟩
def CX:∀(n:Nat) (X:LLa),Aa X=true->Aa (X.drop n)=true
 |0,X,h=>by simpa using h
 |n+1,[],_=>by simp[Aa]
 |n+1,x::X,h=>by
  simp only[Aa,A2i] at h;rw[List.drop_succ_cons];exact CX n X h.2
def F7:∀ {a b:LLa},Aa a=true->Aa b=true->Aa (a++b)=true
 |[],_,_,h=>h
 |x::a,b,h,k=>by simp only[Aa,A2i,A2d] at h|-;exact⟨h.1,F7 h.2 k⟩
def c_qCut(a o n d:Nat)(X:LLa)(C:Aa X=true)(hl:o+n<=X.length)(hn:a+X.length<=1048576)(U:d<=n):
  A4 prog 44 [.ref 3 0 0 2,uD' ((a:Int)+d)] (quH a o n X) (iD 0) (quH (a+d) (o+d) (n-d) (AI X o (List.replicate d Ew))):=by
 have M:=HO a ((X.drop o).take n) false So';have V:((X.drop o).take n).length=n:=So';rw[V] at M;have c1:decide ((a:Int)+d<a)=false:=Df';have c2:decide ((a:Int)+n+1<=(a:Int)+d)=false:=Df';have N:IntKind.u64.wrap ((a:Int)+d-a)=(d:Int):=by rw[show(a:Int)+d-a=d by omega];exact TX Om Om
 have O:IntKind.i64.wrap (d:Int)=(d:Int):=A9 Om Om;have Y:(AI X o (List.replicate d Ew)).length=X.length:=BC So';have Z:Aa (AI X o (List.replicate d Ew))=true:=by
  unfold AI;refine F7 (CW _ _ C) (F7 ?_ (CX _ _ C));clear Y U c1 c2 N O
  induction d with
  |zero=>rfl
  |succ d ih=>simp only[A3R,Aa,ih,A3M];rfl
 refine Zd [] ?_;have oN:=CW n _ (CX o X C)
 (have z:=Za C<|Za hl<|Za oN<|Za c1<|Za c2<|Za N O;push_cast[z]<;>repeat' (first|refine A5.lendZ (quH a o n X) M ?_|apply Za)<;>push_cast[z])
 all_goals first|omega|(show o+n<=(AI X o (List.replicate d Ew)).length;omega)|(show(o:Int)+n<=(AI X o (List.replicate d Ew)).length;omega)|skip
 apply Zw<;>push_cast [Z]
abbrev clB(c k s:Nat)(B H:D):Blk:=.rows [[uD' c,uD' k,uD' s,B,H,.ref 3 0 0 2]] 6
abbrev clH(c k s:Nat)(B H:D):Hp:=[(1,clB c k s B H)]
abbrev clN(c:Nat):D:=.ptr [uD' c,.any,.any,.any,.any,.any] 0
abbrev clF(c k:Nat)(q:D):D:=.ptr [uD' c,uD' k,.any,.any,.any,q] 0
def NA(c:Nat)(hc:0<c)(C M N O U:D):A0 prog 31 [.ptr [uD' c,C,M,N,O,U] 0] (bD false):=by
 have b1:((c:Int)==0)=false:=So';refine Zf [] ?_
 (have z:=b1;push_cast[z]<;>repeat' apply Za)
def HP(c:Nat)(hc:0<c):A0 prog 31 [clN c] (bD false):=NA c hc _ _ _ _ _
abbrev rsD(c b k l:Nat)(P:D):D:=.agg [uD' c,uD' b,uD' k,uD' l,P]
def c_fits(c k C a l:Nat)(X:LLa)(M:Aa X=true)(P:D)(hP:P.pure=true)(h1:AV P=true)(V:k<C)(Y:C<=1048576)(Z:a<=l)(hl:l<=a+X.length)(hn:a+X.length<=1048576):
  A0 prog 42 [clF c k (.ptr [uD' a,.slice X false] 0),rsD c k C l P] (iD 0):=by
 have N:=HO a X false Om;have O:=Tp a (.slice X false);have c1:decide ((4611686018427387903:Int)<(C:Int))=false:=Df';have c2:decide ((C:Int)<=k)=false:=Df';have c3:decide ((l:Int)<a)=false:=Df';have U:decide ((a:Int)+X.length+1<=l)=false:=Df';refine Zf [] ?_
 (have z:=Za M<|Za hP<|Za h1<|Za c1<|Za c2<|Za c3 U;push_cast[z]<;>repeat' (first|refine Zc O ?_|refine Zc N ?_|exact Zo|apply Za)<;>push_cast[z])
def c_clNew(c:Nat)(hc:0<c)(C:c<=1048576):A4 prog 9 [uD' c] [] (.tup [.ref 0 0 0 6,iD 0]) [(0,.rows [[uD' c,uD' 0,uD' 1,.val (.pointer none),.val (.pointer none),.ref 2 0 0 2]] 6),(2,.rows [[uD' 0,.slice [] true]] 2)]:=by
 have b1:((c:Int)==0)=false:=So';have c1:decide ((4611686018427387903:Int)<(c:Int))=false:=Df';refine Zd [] ?_
 (have z:=Za b1 c1;push_cast[z]<;>repeat' apply Za)
 apply Zr [(0,104),(2,88)] rfl<;>push_cast
def c_hd1(e:Int):A0 prog 56 [iD e] (.tup []):=by
 refine Zf [] ?_
 (push_cast<;>repeat' apply Za)
def c_rHead0(T:GT):A0 prog 23 [AF T,.slice [] true] (AF T):=by
 have C:=A6 T;have M:=Bg T;simp only[AF] at*;generalize Ah T=N at*;have O:A0 prog 55 [.agg [N],.slice [] true,.func (.func 56) [] []] (.agg [N]):=by
  refine Zf [] ?_
  (have z:=Za C M;push_cast[z]<;>repeat' (first|apply Zi<;>intro _|exact Zo|with_reducible apply Za)<;>push_cast[z])<;>try omega
  refine AWp.loopI mixed Kq' (ι:=Unit) (λ_=>True) (λ_=>⟨[(13,iD 0),(12,iD 0),(11,.slice [] true),(6,.ref 8 0 0 1),(3,.ref 0 0 0 1),(2,.func (.func 56) [] [])],[(0,.rows [[N]] 1),(8,.rows [[.any]] 1)],68⟩) (λ_=>0) () trivial ?_ λi hi=>?_
  ·apply Zw<;>push_cast [C]
  ·(have z:=Za C M;push_cast[z]<;>repeat' (first|apply Zi<;>intro _|exact Zo|with_reducible apply Za)<;>push_cast[z])
 refine Zf [] ?_
 (have z:=Za C M;push_cast[z]<;>repeat' (first|apply Zi<;>intro _|refine Zc O ?_|exact Zo|with_reducible apply Za)<;>push_cast[z])
abbrev rdB(s:Baa)(i:Nat):Blk:=.rows [[sD s,iD i,.mref 3]] 3
def rdF(f:Nat):D:=.func (.func f) [.ref 1 0 0 3] []
def rdF_eq(f:Nat):rdF f=.func (.func f) [.ref 1 0 0 3] []:=rfl
def At(s:Baa)(i:Nat)(x r:Lua):Prop:=(bl s).drop i=x++r/\i+x.length+r.length=s.size
def At.strAt{s:Baa}{x:Lua}(h:At s i x r){j:Nat}(C:x[j]? =some c):BZ s ((i+j:Nat):Int)=(c.toNat:Int):=by
 rw[Ud];have h1:(bl s).getD (i+j) 0=c:=by
  have:(bl s)[i+j]? =some c:=by
   rw[<-A3J,h.1];rw[A3d (List.getElem?_eq_some_iff.1 C).1];exact C
  rw[A29,this];rfl
 rw[h1]
def At.str0{s:Baa}{x:Lua}(h:At s i (c::x) r):Go.Ab.BZ s i=(c.toNat:Int):=h.strAt (j:=0) rfl
def At.lt{s:Baa}{x:Lua}(h:At s i (c::x) r):i<s.size:=by
 have:=h.2;simp only[A2l] at this;omega
def At.tail{s:Baa}{x:Lua}(h:At s i (x++y) r):At s (i+x.length) y r:=by
 refine⟨?_,by have:=h.2;simp only[A2a] at this;omega⟩;rw[<-A3N,h.1,A2c,List.drop_left]
def At.head{s:Baa}{x:Lua}(h:At s i (x++y) r):At s i x (y++r):=⟨by rw[h.1,A2c],by have:=h.2;simp only[A2a] at this|-;omega⟩
def At.tail1{s:Baa}(h:At s i (c::y) r):At s (i+1) y r:=At.tail (x:=[c]) h
def nbl(c:Int):Prop:=c≠9/\c≠10/\c≠13/\c≠32
def Tn(s:Baa)(i:Nat)(hs:i<s.size)(hb:nbl (BZ s i)):A4 prog 199 [.ref 1 0 0 3] [(1,rdB s i)] (.tup []) [(1,rdB s i)]:=by
 obtain⟨h1,h2,C,M⟩:=hb;have b0:decide ((i:Int)<s.size)=true:=Dt';have b1:(BZ s i==9)=false:=by simpa using h1
 have b2:(BZ s i==10)=false:=by simpa using h2
 have N:(BZ s i==13)=false:=by simpa using C
 have O:(BZ s i==32)=false:=by simpa using M
 refine Zd [] ?_
 (push_cast<;>repeat' apply Za)
 refine Zl (λi=>True) (λ_=>⟨[(0,.ref 1 0 0 3)],[(1,rdB s i)],4⟩) (λi=>0) 0 trivial ?_ λ_ _=>?_
 ·apply Zw<;>push_cast
 ·(have z:=Za b0<|Za b1<|Za b2<|Za N O;push_cast[z]<;>repeat' (first|exact Zo|apply Za))<;>try omega
  apply Zw<;>push_cast
def c_skipE(s:Baa):A4 prog 199 [.ref 1 0 0 3] [(1,rdB s s.size)] (.tup []) [(1,rdB s s.size)]:=by
 refine Zd [] ?_
 (push_cast<;>repeat' apply Za)
 refine Zl (λi=>True) (λ_=>⟨[(0,.ref 1 0 0 3)],[(1,rdB s s.size)],4⟩) (λi=>0) 0 trivial ?_ λ_ _=>?_
 ·apply Zw<;>push_cast
 ·have b0:decide ((s.size:Int)<s.size)=false:=Df'
  (have z:=b0;push_cast[z]<;>repeat' (first|exact Zo|apply Za))
  apply Zw<;>push_cast
def G1(s:Baa)(i:Nat)(c:Int)(hs:i<s.size)(N:s.size<=1048576)(hc:BZ s i=c)(hb:nbl c):A4 prog 355 [.ref 1 0 0 3,.val (.int .u8 c)] [(1,rdB s i)] (bD true) [(1,rdB s (i+1))]:=by
 have C:=Tn s i hs (by rw[hc];exact hb);have b0:((i:Int)==s.size)=false:=beq_false_of_ne Om;have b1:(BZ s i !=c)=false:=by simpa using hc
 have M:IntKind.i64.wrap (↑i+1)=↑i+1:=A9 Om Om;refine Zd [] ?_
 (have z:=Za b0<|Za b1 M;push_cast[z]<;>repeat' (first|refine Zs [(1,1)] C ?_|exact Zo|apply Za)<;>push_cast[z])<;>try omega
 apply Zw<;>push_cast
def LC(s:Baa)(i:Nat)(c:Int)(hs:i<s.size)(hc:BZ s i≠c)(hb:nbl (BZ s i)):A4 prog 355 [.ref 1 0 0 3,.val (.int .u8 c)] [(1,rdB s i)] (bD false) [(1,rdB s i)]:=by
 have C:=Tn s i hs hb;have b0:((i:Int)==s.size)=false:=beq_false_of_ne Om;have b1:(BZ s i !=c)=true:=by simpa using hc
 refine Zd [] ?_
 (have z:=Za b0 b1;push_cast[z]<;>repeat' (first|refine Zs [(1,1)] C ?_|exact Zo|apply Za)<;>push_cast[z])<;>try omega
 apply Zw<;>push_cast
def Cj(x:Lua):Prop:=x≠[]/\∀c ∈ x,32<=c.toNat/\c.toNat<128/\c.toNat≠34/\c.toNat≠92
def txt(x:Lua):Lua:=34::(x++[34])
def NO(x:Lua):(txt x).length=x.length+2:=by simp[txt]
def Kt:Prop:=∀(s:Baa) (i:Nat) (x r:Lua),Cj x->s.size<=1048576->At s i (txt x) r->A0 prog 390 [sD s,iD i] (.tup [.val (.string ⟨x.toArray⟩),iD ((i+(txt x).length:Nat):Int),iD 0])
def Zx(hU:Kt)(s:Baa)(i:Nat)(x r:Lua)(C:Cj x)(M:s.size<=1048576)(h:At s i (txt x) r):
  A4 prog 354 [.ref 1 0 0 3] [(1,rdB s i)] (.val (.string ⟨x.toArray⟩)) [(1,rdB s (i+(txt x).length))]:=by
 have N:=hU s i x r C M h;refine Zd [] ?_
 (have z:=trivial;push_cast<;>repeat' (first|refine Zc (N ..) ?_|exact Zp|apply Za)<;>push_cast)
 apply Zw<;>push_cast
def N4:∀(x r:Lua),Lib.hasPrefix (x++r) x=true
 |[],r=>by cases r<;>rfl
 |c::x,r=>by
  have:=N4 x r;simp only[A2d];unfold Lib.hasPrefix;simp[this]
def c_word(s:Baa)(i:Nat)(x r:Lua)(O:s.size<=1048576)(h:At s i x r):
  A4 prog 353 [.ref 1 0 0 3,.val (.string ⟨x.toArray⟩)] [(1,rdB s i)] (.tup []) [(1,rdB s (i+x.length))]:=by
 have hl:=h.2;have hP:=Ng (s.extract i s.size) ⟨x.toArray⟩;have C:Lib.hasPrefix (s.extract i s.size).data.toList (ByteArray.mk x.toArray).data.toList=true:=by
  have:(s.extract i s.size).data.toList=x++r:=by
   rw[<-h.1,A3E,A3O];show(s.data.toList.drop i).take (s.size-i)=_;rw[A2g (by rw[A2t];exact A2e _)];rfl
  rw[this];exact N4 x r
 rw[C] at hP;have M:IntKind.i64.wrap (↑i+↑x.length)=↑i+↑x.length:=A9 Om Om;have N:(ByteArray.mk x.toArray).size=x.length:=by show x.toArray.size=_;simp
 refine Zd [] ?_
 (have z:=Za M N;push_cast[z]<;>repeat' (first|refine Zc hP ?_|exact Zo|apply Za)<;>push_cast[z])<;>try omega
 apply Zw<;>push_cast
def Rm(c:Int):Option Nat:=
 if c=110 then some 274 else if c=102 then some 275 else if c=116 then some 276 else if c=34 then some 277
 else if c=91 then some 278 else if c=123 then some 279 else if c=45 then some 280 else if 48<=c/\c<=57 then some 280 else none
def Ml:List (Int×Nat×Nat):=[(110,0,274),(102,1,275),(116,2,276),(34,3,277),(91,4,278),(123,5,279),
 (45,6,280),(48,7,280),(49,8,280),(50,9,280),(51,10,280),(52,11,280),
 (53,12,280),(54,13,280),(55,14,280),(56,15,280),(57,16,280)]
def E0(b:Nat)(n:Nat):List (Value×Nat×D):=(Ml.take n).map λp=>(.int .u8 p.1,p.2.1,.func (.func p.2.2) [.ref b 0 0 3] [])
def Dg:List (Value×Nat×D):=E0 1 17
def Xy(c:Int)(f:Nat)(h:Rm c=some f):∃i,Ez (.int .u8) (.int .u8 c) Dg 0=some (some (i,rdF f)):=by
 unfold Rm at h;simp only[Dg,E0,Ml,A3i,List.take_nil,A2m,A2E,Ez,keq,if_true,rdF]
 repeat' split at h
 all_goals first
  |(cases h;rename_i hc;subst hc;exact⟨_,rfl⟩)
  |(cases h;rename_i hc
    have:c=48\/c=49\/c=50\/c=51\/c=52\/c=53\/c=54\/c=55\/c=56\/c=57:=by omega
    rcases this with rfl|rfl|rfl|rfl|rfl|rfl|rfl|rfl|rfl|rfl<;>exact ⟨_,rfl⟩)
  |cases h
def A10(r:Nat->Nat)(h:r 1=1):(Dg.map λp=>(p.1,p.2.1,Bu r p.2.2))=Dg:=by
 simp only[Dg,E0,A30];refine A3s λp _=>?_;simp[Function.comp,Bu,Co,h]
def kinds_lt(n:Nat):(Dg.all λp=>ltD n p.2.2)=true:=by
 simp only[Dg,E0,List.all_map,A2q];intro p _;simp[ltD,ltL,okN]
def A11(F:D->D)(h:∀f,F (rdF f)=rdF f):(Dg.map λp=>(p.1,p.2.1,F p.2.2))=Dg:=by
 simp only[Dg,E0,A30];refine A3s λp _=>?_;have:=h p.2.2;unfold rdF at this;simp[Function.comp,this]
def A12(hp:Nat->Option Blk)(n:Nat)(h:hp 1=none):(Dg.map λp=>(p.1,p.2.1,frz hp n p.2.2))=Dg:=A11 _ λf=>by
 cases n with
 |zero=>rfl
 |succ n=>cases n<;>simp [rdF,Go.Ab.frz,h]
def kinds_fz(b:Nat)(x:Blk)(n:Nat)(h:(1==b)=false):(Dg.map λp=>(p.1,p.2.1,frz (Ld b x) n p.2.2))=Dg:=A12 _ _ (by simp[Ld,h])
attribute [irreducible] Dg
attribute [push_cast] A10 kinds_lt kinds_fz
abbrev kB:Blk:=.map Dg 17
def stopL(r:Lua):Prop:=∀c ∈ r.head?,c.toNat=44\/c.toNat=93\/c.toNat=125
def EA(n:Nat)(x:Lua)(v:GV):Prop:=(∃c y,x=c::y/\nbl (c.toNat:Int)/\c.toNat≠93/\c.toNat≠125)/\
 ∀(s:Baa) (i:Nat) (r:Lua) (d:Nat),At s i x r->stopL r->s.size<=1048576->d+n<=64->
  A4 prog 198 [.ref 1 0 0 3,iD d] [(1,rdB s i),(3,kB)] (.agg (A7 v)) [(1,rdB s (i+x.length)),(3,kB)]
def MH(n f:Nat)(x:Lua)(v:GV):Prop:=
 ∀(s:Baa) (i:Nat) (r:Lua) (d:Nat),At s i x r->stopL r->s.size<=1048576->d+n<=64->
  A4 prog f [.ref 1 0 0 3,iD d] [(1,rdB s i),(3,kB)] (.agg (A7 v)) [(1,rdB s (i+x.length)),(3,kB)]
def E4(n f:Nat)(c:UInt8)(y:Lua)(v:GV)(hf:Rm (c.toNat:Int)=some f)(h:MH n f (c::y) v):EA n (c::y) v:=by
 have hb:nbl (c.toNat:Int)/\c.toNat≠93/\c.toNat≠125:=by
  unfold Rm at hf;unfold nbl
  repeat' split at hf
  all_goals first|omega|cases hf
 refine⟨⟨c,y,rfl,hb⟩,λs i r d C hr Y Z=>?_⟩;have hk:=h s i r d C hr Y Z;have hc:=C.str0;have hlt:=C.lt;have hS:=Tn s i hlt (by rw[hc];exact hb.1);obtain⟨j,M⟩:=Xy _ _ hf;rw[rdF_eq] at M;have b0:((i:Int)==s.size)=false:=beq_false_of_ne Om;have b1:decide ((64:Int)<d)=false:=Df';obtain⟨N,O,U,x4⟩:=Az v;generalize(c::y).length=m at*;generalize A7 v=V at*;refine Zd [] ?_
 (have z:=Za b0<|Za b1<|Za hc<|Za M<|Za N<|Za O<|Za U x4;push_cast[z]<;>repeat' (first|refine Zs [(1,1)] hS ?_|refine Zt [(1,1),(3,3)] (hk ..) ?_|exact Zo|apply Za)<;>push_cast[z])<;>try omega
 apply Zw<;>push_cast [N,O,U]
def digs(l:Lua):Prop:=∀c ∈ l,48<=c.toNat/\c.toNat<=57
def E9(u:Nat):digs (Lib.decDigits u)/\Lib.decDigits u≠[]:=by
 induction u using Nat.strongRecOn with
 |ind u C=>
  rw[Lib.decDigits];split
  ·rename_i h;refine⟨λc hc=>?_,Sq'⟩;cases A2b.1 hc;have:(UInt8.ofNat (48+u)).toNat=48+u:=So';omega
  ·rename_i h;obtain⟨h1,h2⟩:=C (u/10) Om;refine⟨λc hc=>?_,Sq'⟩;rcases A2Y.1 hc with hc|hc
   ·exact h1 c hc
   ·cases A2b.1 hc;have:(UInt8.ofNat (48+u%10)).toNat=48+u%10:=So';omega
def RL(u:Nat):∀c r,Lib.decDigits u=c::r->c.toNat=48->u=0/\r=[]:=by
 induction u using Nat.strongRecOn with
 |ind u C=>
  intro c r h hc;rw[Lib.decDigits] at h;split at h
  ·rename_i M;cases h;have:(UInt8.ofNat (48+u)).toNat=48+u:=So';exact⟨Om,rfl⟩
  ·rename_i M;cases h2:Lib.decDigits (u/10) with
   |nil=>exact absurd h2 (E9 _).2
   |cons d q=>
    rw[h2] at h;simp only[A2d,List.cons.injEq] at h;obtain⟨rfl,_⟩:=h;have:=(C (u/10) Om d q h2 hc).1;omega
def Kh(M:Nat):∀(l r:Lua) (acc:Nat),Lib.parseUintM M acc (l++r)=(match Lib.parseUintM M acc l with|.ok a=>Lib.parseUintM M a r|e=>e)
 |[],r,acc=>rfl
 |c::l,r,acc=>by
  simp only[A2d,Lib.parseUintM];split
  ·split
   ·rfl
   ·split
    ·rfl
    ·exact Kh M l r _
  ·rfl
def Pf(M:Nat)(N:M<=18446744073709551615)(u:Nat)(O:u<=M):Lib.parseUintM M 0 (Lib.decDigits u)=.ok u:=by
 induction u using Nat.strongRecOn with
 |ind u C=>
  rw[Lib.decDigits];split
  ·rename_i h;have e:(UInt8.ofNat (48+u)).toNat=48+u:=So';simp only[Lib.parseUintM,e];rw[if_pos Om,if_neg Om,if_neg Om];congr 1;omega
  ·rename_i h;have e:(UInt8.ofNat (48+u%10)).toNat=48+u%10:=So';rw[Kh,C (u/10) Om Om];simp only[Lib.parseUintM,e];rw[if_pos Om,if_neg Om,if_neg Om];congr 1;omega
def Xi(n:Int)(h0: -9223372036854775808<=n)(h1:n<=9223372036854775807):Lib.parseIntB 64 (Lib.itoa n)=.ok n:=by
 unfold Lib.itoa;by_cases hn:n<0
 ·rw[if_pos hn];have C:=E9 n.natAbs;simp only[Lib.parseIntB,Lib.parseUintB];have M:(45:UInt8).toNat=45:=rfl;simp only[M,or_true,if_true,if_neg C.2];rw[Pf _ Dq' _ Om];simp only[not_true,false_and,if_false,true_and];rw[if_neg Om];congr 1;omega
 ·rw[if_neg hn];have C:=E9 n.toNat;cases h:Lib.decDigits n.toNat with
  |nil=>exact absurd h C.2
  |cons c r=>
   have hc:=C.1 c (by rw[h];simp);simp only[Lib.parseIntB,Lib.parseUintB];rw[if_neg (show ¬(c.toNat=43\/c.toNat=45) by omega),if_neg Sq',<-h,Pf _ Dq' _ Om];simp only;have e:¬c.toNat=45:=Om;simp only[e,false_and,if_false,not_false_eq_true,true_and];rw[if_neg Om];congr 1;omega
section
variable{P:Program}{ops:Array Oper}{nx:Nat}{l:List Oper}{pos:Nat}{acc:List Eff}{s:St}{K:List Eff->St->Prop}
def A5.nilNe{dst:Option Tmp}{x y:Operand}{T C M:TypeId}{ps:String}{af:Array Edge}(V:evO P s.env.get x=.val .nilIface)(Y:evO P s.env.get y=.val .nilIface)(hr:∀(a:Act) w,a.eval x=.nilIface->a.eval y=.nilIface->(execOp a.eval ⟨dst,.binOp .neq C x y M,T,ps,af,none⟩).run P w=.ok (.value (.bool false)) w)
  (Z:GoS P ops nx l (pos+1) (⟨bD false,[],[]⟩::acc) (s.app dst ⟨bD false,[],[]⟩) K):A5 P ops nx (⟨dst,.binOp .neq C x y M,T,ps,af,none⟩::l) pos acc s K:=by
 refine A5.does (AQ.quiet λ_ _ _ _ I mu _ a w _ N _=>?_) Z;have O:=N x (by simp[Op.operands]);have U:=N y (by simp[Op.operands]);rw[V] at O;rw[Y] at U;exact⟨.bool false,hr a w O.val_inv U.val_inv,.val _ trivial⟩
end
def TP:Prop:=∀n:Int,-9223372036854775808<=n->n<=9223372036854775807->A0 prog 359 [.val (.string ⟨(Lib.itoa n).toArray⟩),iD 10,iD 64] (.tup [iD n,.val .nilIface])
def k_null(n:Nat):MH n 274 [110,117,108,108] BU:=by
 intro s i r d h hr C N;have M:=c_word s i _ r C h;rw[Vu];refine Zd [] ?_
 (have z:=trivial;push_cast<;>repeat' (first|refine Zs [(1,1)] (M ..) ?_|apply Za)<;>push_cast)
 apply Zw<;>push_cast
def k_quoted(hU:Kt)(n:Nat)(x:Lua)(C:Cj x):MH n 277 (txt x) (vT ⟨x.toArray⟩):=by
 intro s i r d h hr M O;have N:=Zx hU s i x r C M h;rw[Rv];refine Zd [] ?_
 (have z:=trivial;push_cast<;>repeat' (first|refine Zs [(1,1)] (N ..) ?_|apply Za)<;>push_cast)
 apply Zw<;>push_cast
abbrev zB:Blk:=.rows [[iD 0,bD false,iD 0,sD bea,.slice [] true,.slice [] true]] 6
def k_number(hP:TP)(k:Nat)(n:Int)(h0: -9223372036854775808<=n)(h1:n<=9223372036854775807):MH k 280 (Lib.itoa n) (vI n):=by
 intro s i r d h hr hz M;have hp:=hP n h0 h1;obtain⟨p,ds,e,hds,hp1⟩:∃(p ds:Lua),Lib.itoa n=p++ds/\(digs ds/\ds≠[]/\∀c q,ds=c::q->c.toNat=48->q=[]/\p=[])/\(p=[]\/p=[45]):=by
  unfold Lib.itoa;by_cases hn:n<0
  ·rw[if_pos hn];refine⟨[45],Lib.decDigits n.natAbs,rfl,⟨(E9 _).1,(E9 _).2,λc q C hc=>?_⟩,.inr rfl⟩;have:=(RL _ c q C hc).1;omega
  ·rw[if_neg hn];exact⟨[],Lib.decDigits n.toNat,rfl,⟨(E9 _).1,(E9 _).2,λc q C hc=>⟨(RL _ c q C hc).2,rfl⟩⟩,.inl rfl⟩
 obtain⟨Z,g2,g3⟩:=hds;rw[e] at h;have hl:=h.2;simp only[A2a] at hl;have O:=h.tail;have e3:s.extract i (i+p.length+ds.length)=⟨(Lib.itoa n).toArray⟩:=by
  apply ByteArray.ext;rw[A3E];apply Array.ext';rw[A3O];show(s.data.toList.drop i).take (i+p.length+ds.length-i)=_;have:=h.1;unfold bl at this;rw[this,e,show i+p.length+ds.length-i=(p++ds).length by rw[A2a];omega,List.take_left]
 have key:∀j,j<ds.length->decide ((48:Int)<=BZ s ((i+p.length+j:Nat):Int))=true/\decide (BZ s ((i+p.length+j:Nat):Int)<=57)=true:=λj hj=>by
  have hc:=O.strAt (j:=j) (c:=ds[j]) (A2f hj);have:=Z ds[j] (A3H hj);rw[hc];exact⟨Dt',Dt'⟩
 have U:(BZ s ((i+p.length:Nat):Int)==48)=true->ds.length=1/\p=[]:=λhc=>by
  cases M:ds with
  |nil=>exact absurd M g2
  |cons c q=>
   rw[M] at O;have:=O.str0;rw[this] at hc;obtain⟨rfl,rfl⟩:=g3 c q M (by have:(c.toNat:Int)=48:=by simpa using hc
                                                                        omega)
   exact⟨rfl,rfl⟩
 have N:i+p.length+ds.length=s.size\/(i+p.length+ds.length<s.size/\(decide ((48:Int)<=BZ s ((i+p.length+ds.length:Nat):Int))=false\/decide (BZ s ((i+p.length+ds.length:Nat):Int)<=57)=false)):=by
  cases V:r with
  |nil=>rw [V] at hl;exact .inl (by simpa[Nat.add_assoc] using hl)
  |cons c q=>
   have h2:At s (i+p.length+ds.length) (c::q) []:=by
    have:=h.tail;refine⟨?_,by rw[V] at hl;simp at hl|-;omega⟩;have hh:=h.1;rw[V] at hh;rw[Nat.add_assoc,<-A2a,<-A3N,hh,List.drop_left,A2y]
   have h3:=h2.str0;have Y:=hr c (by rw[V];rfl);refine .inr ⟨h2.lt,?_⟩;rw[h3];rcases Y with Y|Y|Y
   ·exact .inl (Df')
   ·exact .inr (Df')
   ·exact .inr (Df')
 have a5:0<ds.length:=A3S.2 g2;have a9:i<s.size:=Om;have a0:(BZ s (i:Int)==45)=(p==[45]):=by
  rcases hp1 with rfl|rfl
  ·cases M:ds with
   |nil=>exact absurd M g2
   |cons c q=>
    rw[M] at h;have:=h.str0;have hc:=Z c (by rw[M];simp);rw[this];have:((c.toNat:Int)==45)=false:=beq_false_of_ne Om;rw[this];rfl
  ·have:=h.str0 (c:=45);rw[this];rfl
 have e4:(Lib.itoa n).length=p.length+ds.length:=by rw[e,A2a]
 rw[e4];rw[<-e3] at hp;clear e3 e O Z g3 e4;obtain⟨f,hf⟩:∃f,f=i+p.length:=⟨_,rfl⟩
 obtain⟨L,hL⟩:∃L,L=ds.length:=⟨_,rfl⟩
 rw[<-Nat.add_assoc,<-hf,<-hL];rw[<-hf,<-hL] at hp N;rw[<-hf] at U;simp only[<-hf,<-hL] at key U;rw[<-hL] at a5 hl;push_cast at key N;have aa:p.length<=1:=by rcases hp1 with rfl|rfl<;>simp
 have a1:(p==[45])=true->f=i+1:=λhh=>by
  have:p=[45]:=by simpa using hh
  rw[hf,this];rfl
 have a2:(p==[45])=false->f=i:=λhh=>by
  rcases hp1 with rfl|rfl
  ·simpa using hf
  ·simp at hh
 have a6:(BZ s (f:Int)==48)=true->L=1/\f=i:=λhh=>by
  obtain⟨q1,q2⟩:=U hh;exact⟨q1,by rw[hf,q2];rfl⟩
 have ab:i<=f:=Om;have ac:f+L<=s.size:=Om;clear U hp1 h;rw[N6];generalize(p==[45])=neg at*;refine Zd [] ?_
 (have z:=a0;push_cast[z]<;>repeat' (first|apply Zi<;>intro _|exact Zo|apply Za)<;>push_cast[z])<;>try omega
 all_goals
  refine Zl (λj=>j<=L) (λj=>⟨[(6,iD f),(5,iD i),(0,.ref 1 0 0 3),(4,.ref 8 0 0 6)],[(1,rdB s (f+j)),(8,zB),(3,kB)],120⟩) (λj=>L-j) 0 Sq' ?_ λj hj=>?_
 case k.k.h.refine_1=>
  have e5:=a1 (by assumption);apply Zw<;>push_cast;all_goals(rw[A9 Om Om];omega)
 case k.k.k.refine_1=>
  have e5:=a2 (by assumption);subst e5;apply Zw<;>push_cast
 all_goals
  clear a1 a2 a0;by_cases a3:j<L
  ·obtain⟨k1,k2⟩:=key j a3;have b0:decide ((↑f+↑j:Int)<↑s.size)=true:=Dt';have w1:IntKind.i64.wrap (↑f+↑j+1)=↑f+↑j+1:=A9 Om Om
   (have z:=Za b0<|Za k1<|Za k2 w1;push_cast[z]<;>repeat' (first|apply Zi<;>intro _|exact Zo|apply Za)<;>push_cast[z])<;>try omega
   refine⟨j+1,a3,Om,?_⟩;apply Zw<;>push_cast;omega
  ·obtain rfl:j=L:=Om;have b1:((↑f+↑j:Int)==↑f)=false:=beq_false_of_ne Om;have w2:IntKind.i64.wrap (↑f+1)=↑f+1:=A9 Om Om;have a7:((BZ s (f:Int)==48)=true/\decide ((↑f+1:Int)<↑f+↑j)=false/\decide ((i:Int)<f)=false)\/((BZ s (f:Int)==48)=false/\True/\True):=by
    cases b2:(BZ s (f:Int)==48) with
    |true=>
     obtain⟨q1,q2⟩:=a6 b2;exact .inl ⟨rfl,Df',Df'⟩
    |false=>exact .inr ⟨rfl,trivial,trivial⟩
   have a8:(decide ((↑f+↑j:Int)<↑s.size)=false/\True/\True)\/(decide ((↑f+↑j:Int)<↑s.size)=true/\decide ((48:Int)<=BZ s (↑f+↑j))=false/\f+j<s.size)\/(decide ((↑f+↑j:Int)<↑s.size)=true/\decide (BZ s (↑f+↑j)<=57)=false/\f+j<s.size):=by
    rcases N with N|⟨N,C|C⟩
    ·exact .inl ⟨Df',trivial,trivial⟩
    ·exact .inr (.inl ⟨Dt',C,N⟩)
    ·exact .inr (.inr ⟨Dt',C,N⟩)
   clear N key;rcases a7 with⟨b2,b3,b4⟩|⟨b2,b3,b4⟩<;>rcases a8 with⟨b0,C,a4⟩|⟨b0,C,a4⟩|⟨b0,C,a4⟩;all_goals
    (have z:=Za b0<|Za b1<|Za w2<|Za b2<|Za b3<|Za b4 C;push_cast[z]<;>repeat' (first|apply Zi<;>intro _|refine Zc (hp ..) ?_|exact Zo|apply Za)<;>push_cast[z])<;>try omega
    all_goals
     refine A5.nilNe (by push_cast) (by push_cast) (λa w h1 h2=>?_) ?_
     ·have u:=run_underlying (P:=prog) underlying347;simp only[execOp,h1,h2,eqGuard,binOp];unfold Op.equal Op.maxDepth Op.equalIn;simp[u]
     ·(push_cast<;>repeat' (first|apply Zi<;>intro _|exact Zp|apply Za)<;>push_cast)<;>try omega
      apply Zw<;>push_cast;all_goals omega
def Gl:List (Lua)->Lua
 |[]=>[93]
 |y::l=>44::(y++Gl l)
def Qy:List (Lua)->Lua
 |[]=>[91,93]
 |x::l=>91::(x++Gl l)
def FN:∀(a b:LLa),Aa (a++b)=(Aa a&&Aa b)
 |[],b=>by simp[Aa]
 |x::a,b=>by simp[Aa,FN a b,Bool.and_assoc]
def one1{V:List D}(h:V.all AV=true):∀y ∈ [V],∀d ∈ y,AV d=true:=λy C d M=>by
 cases A2b.1 C;exact A2q.1 h d M
abbrev vB(k:Int)(x y:D):Blk:=.rows [[iD k,bD false,iD 0,sD bea,x,y]] 6
def lsS(s:Baa)(d:Nat)(L:List GV)(a:Nat×Nat):St:=match a.1 with
 |0=>⟨[(0,.ref 1 0 0 3),(1,iD d),(4,.ref 8 0 0 6),(5,.ref 24 0 0 6)],[(1,rdB s a.2),(3,kB),(8,vB 0 (.slice [] true) (.slice [] true)),(24,vB 5 (.slice [] true) (.slice [] true))],1000⟩
 |j+1=>⟨[(0,.ref 1 0 0 3),(1,iD d),(4,.ref 8 0 0 6),(5,.ref 24 0 0 6)],[(1,rdB s a.2),(3,kB),(8,vB 0 (.slice [] true) (.slice [] true)),(24,vB 5 (.gref 48 (j+1)) (.slice [] true)),(48,.grow ((L.take (j+1)).map A7) 6)],1000⟩
def Pw(s:Baa)(d:Nat)(L:List GV)(q:Nat):lsS s d L (0,q)=⟨[(0,.ref 1 0 0 3),(1,iD d),(4,.ref 8 0 0 6),(5,.ref 24 0 0 6)],[(1,rdB s q),(3,kB),(8,vB 0 (.slice [] true) (.slice [] true)),(24,vB 5 (.slice [] true) (.slice [] true))],1000⟩:=rfl
def Lg(s:Baa)(d:Nat)(L:List GV)(j q:Nat):lsS s d L (j+1,q)=⟨[(0,.ref 1 0 0 3),(1,iD d),(4,.ref 8 0 0 6),(5,.ref 24 0 0 6)],[(1,rdB s q),(3,kB),(8,vB 0 (.slice [] true) (.slice [] true)),(24,vB 5 (.gref 48 (j+1)) (.slice [] true)),(48,.grow ((L.take (j+1)).map A7) 6)],1000⟩:=rfl
def k_list(n:Nat)(l:List (Lua×GV))(hl:l.length<=1048576)(h:∀p ∈ l,EA n p.1 p.2):MH (n+1) 278 (Qy (l.map (·.1))) (vL (l.map (·.2))):=by
 intro s i r d Z hr hz hd;have w0:IntKind.i64.wrap (↑i+1)=↑i+1:=A9 (by have:=Z.2;omega) (by have:=Z.2;omega);rw[enc_L];cases l with
 |nil=>
  have hT:=G1 s (i+1) 93 (At.lt (x:=[]) Z.tail1) hz (At.str0 (x:=[]) Z.tail1) (by unfold nbl;omega);refine Zd [] ?_
  (push_cast<;>repeat' (first|exact Zp|apply Za)<;>push_cast)
  refine AWp.scope (Zy ?_)
  (have z:=w0;push_cast[z]<;>repeat' (first|refine Zs [(1,1)] hT ?_|exact Zo|apply Za)<;>push_cast[z])
  simp only[A2E,Qy];apply Zw<;>push_cast
 |cons p l=>
  obtain⟨⟨c,y,a2,a7,aj,ak⟩,hv⟩:=h p Sq';have a5:=Z;simp only[A2m,Qy] at a5;have Y:=a5.tail1;have hF:=LC s (i+1) 93 (by rw[a2] at Y;exact Y.lt) (by rw[a2] at Y;rw[At.str0 Y];omega) (by rw[a2] at Y;rw[At.str0 Y];exact a7);have al:i+(Qy ((p::l).map (·.1))).length+r.length=s.size:=Z.2;generalize hm:(Qy ((p::l).map (·.1))).length=m at*;clear Z a5 a2 a7 hv;generalize hL:p::l=L at*;have ab:∃z zs,L.drop 0=z::zs/\At s (i+1) (z.1++Gl (zs.map (·.1))) r:=⟨p,l,by rw[<-hL];rfl,Y⟩
  clear hL Y hm;refine Zd [] ?_
  (push_cast<;>repeat' (first|exact Zp|apply Za)<;>push_cast)
  refine AWp.scope (Zy ?_)
  (have z:=w0;push_cast[z]<;>repeat' (first|refine Zs [(1,1)] hF ?_|exact Zo|apply Za)<;>push_cast[z])
  refine AWp.loopI mixed Kq' (ι:=Nat×Nat) (λa=>∃z zs,L.drop a.1=z::zs/\At s a.2 (z.1++Gl (zs.map (·.1))) r) (lsS s d (L.map (·.2))) (λa=>L.length-a.1) (0,i+1) ab ?_ λa hi=>?_
  ·rw[Pw];apply Zw<;>push_cast
  ·obtain⟨j,q⟩:=a;obtain⟨z,zs,a0,hq⟩:=hi;simp only at a0 hq;have am:j<L.length:=by
    have:=congrArg List.length a0;rw[A2t,A2l] at this;omega
   have ac:z ∈ L:=A32 (by rw[a0];simp);obtain⟨ad,hv⟩:=h z ac;have a3:=hv s q (Gl (zs.map (·.1))++r) (d+1) hq.head (by
    intro c hc;cases zs with
    |nil=>cases hc;exact .inr (.inl rfl)
    |cons w ws=>cases hc;exact .inl rfl) hz Om
   obtain⟨O,C,N,x4⟩:=Az z.2;have a4:((L.map (·.2)).take (j+1)).map A7=((L.map (·.2)).take j).map A7++[A7 z.2]:=by
    have:(L.map (·.2))[j]? =some z.2:=by
     have h2:L[j]? =some z:=by
      have:=congrArg (·[0]?) a0;simpa[A3J] using this
     simp[h2]
    rw[A3j,this,A2F];rfl
   have oT:=E8 ((L.map (·.2)).take j);have lT:(((L.map (·.2)).take j).map A7).length=j:=by rw[A2k,A2x,A2k];omega
   have aT:∀y ∈ ((L.map (·.2)).take j).map A7,y.length=6:=λy hy=>by obtain⟨x,_,rfl⟩:=A2p.1 hy;exact AH x
   have M:=hq.tail;have wd:IntKind.i64.wrap (↑d+1)=↑d+1:=A9 Om Om;generalize an:z.1.length=m1 at*;generalize A7 z.2=V at*;generalize ae:L.map (·.2)=LV at*;clear h hv ad;cases zs with
   |cons w ws=>
    have a6:Gl ((w::ws).map (·.1))=44::(w.1++Gl (ws.map (·.1))):=rfl;rw[a6] at M;have a1:=G1 s (q+m1) 44 M.lt hz M.str0 (by unfold nbl;omega);have hn:∃z zs,L.drop (j+1)=z::zs/\At s (q+m1+1) (z.1++Gl (zs.map (·.1))) r:=⟨w,ws,by rw[<-A3N,a0];rfl,M.tail1⟩
    cases j with
    |zero=>
     rw[Pw]
     (have z:=Za O<|Za C<|Za N<|Za x4 wd;push_cast[z]<;>repeat' (first|refine Zs [(1,1),(3,3)] (a3 ..) ?_|refine Zs [(1,1)] a1 ?_|exact Zo|apply Za)<;>push_cast[z])
     all_goals first|omega|(simp[C];done)|skip
     refine⟨(1,q+m1+1),hn,Om,?_⟩;rw[Lg,a4];apply Zr [(48,2056)] rfl<;>push_cast [O,C,N,x4]
    |succ j=>
     rw[Lg];generalize((LV.take (j+1)).map A7)=T at*
     (have z:=Za O<|Za C<|Za N<|Za x4<|Za wd<|Za oT lT;push_cast[z]<;>repeat' (first|refine Zs [(1,1),(3,3)] (a3 ..) ?_|refine Zs [(1,1)] a1 ?_|exact Zo|apply Za)<;>push_cast[z])
     all_goals first|omega|(simp[C];done)|exact aT|exact one1 N|skip
     refine⟨(j+1+1,q+m1+1),hn,Om,?_⟩;rw[Lg,a4];apply Zr [(48,2056)] rfl<;>push_cast [O,C,N,x4,oT,lT]
   |nil=>
    have a6:Gl ((([]:List (Lua×GV))).map (·.1))=93::[]:=rfl;rw[a6] at M;have a8:=LC s (q+m1) 44 M.lt (by rw[M.str0];decide) (by rw[M.str0];unfold nbl;decide);have a1:=G1 s (q+m1) 93 M.lt hz M.str0 (by unfold nbl;omega);have ah:LV.take (j+1)=LV:=A2g (by
     have:=congrArg List.length a0;rw[A2t,A2l,A2r] at this;rw[<-ae,A2k];omega)
    have ai:i+m=q+m1+1:=by
     have:=M.2;simp at this;omega
    rw[ah] at a4;rw[a4,ai];cases j with
    |zero=>
     rw[Pw]
     (have z:=Za O<|Za C<|Za N<|Za x4 wd;push_cast[z]<;>repeat' (first|refine Zs [(1,1),(3,3)] (a3 ..) ?_|refine Zs [(1,1)] a8 ?_|refine Zs [(1,1)] a1 ?_|exact Zo|apply Za)<;>push_cast[z])
     all_goals first|omega|(simp[C];done)|skip
     refine Aq.trans (Aq.fzB (b:=2056) (x:=.grow ([]++[V]) 6) rfl) ?_;push_cast[O,C,N];apply Zw<;>push_cast [O,C,N]
    |succ j=>
     rw[Lg];generalize((LV.take (j+1)).map A7)=T at*
     (have z:=Za O<|Za C<|Za N<|Za x4<|Za wd<|Za oT lT;push_cast[z]<;>repeat' (first|refine Zs [(1,1),(3,3)] (a3 ..) ?_|refine Zs [(1,1)] a8 ?_|refine Zs [(1,1)] a1 ?_|exact Zo|apply Za)<;>push_cast[z])
     all_goals first|omega|(simp[C];done)|exact aT|exact one1 N|skip
     refine Aq.trans (Aq.fzB (b:=2056) (x:=.grow (T++[V]) 6) rfl) ?_;have a9:Aa (T++[V])=true:=by rw[FN,oT];simp[Aa,O]
     have aa:(T++[V]).length=j+1+1:=by rw[A2a,lT];rfl
     generalize T++[V]=U at*;push_cast[a9,aa];apply Zw<;>push_cast [a9,aa]
end Go.Ab
namespace Go.Proofs
open Go.Proofs Go.Proofs.Tryz Go.RowKit Go.Shelf
def Tryz.sLen_ren:Go.Shelf.Ren:=⟨fun|125=>238|128=>309|129=>310|n=>n,fun|46=>305|3=>3|51=>265|53=>22|4=>4|5=>5|9=>9|n=>n,fun|n=>n⟩
def Tryz.sLen:Go.Proofs.Lays.n125 prog Tryz.sLen_ren:= {
 mixed:=Kq'
 f125:=func238.trans (congrArg some Kq')
 f128:=func309.trans (congrArg some Kq')
 f129:=func310.trans (congrArg some Kq')
 t3:=underlying3
 a3:=isAgg3
 z3:=sizeOf3
 v3:=zeroValue3
 t4:=underlying4
 a4:=isAgg4
 z4:=sizeOf4
 v4:=zeroValue4
 t5:=underlying5
 a5:=isAgg5
 z5:=sizeOf5
 v5:=zeroValue5
 t9:=underlying9
 a9:=isAgg9
 z9:=sizeOf9
 v9:=zeroValue9
 t46:=underlying305
 a46:=isAgg305
 z46:=sizeOf305
 v46:=zeroValue305
 t51:=underlying265
 a51:=isAgg265
 z51:=sizeOf265
 v51:=zeroValue265
 t53:=underlying22
 a53:=isAgg22
 z53:=sizeOf22
 v53:=zeroValue22}
end Go.Proofs
namespace Go.Ab
open Go.Proofs Go.Proofs.Tryz Go.RowKit Go.Shelf
def Qm:A0 prog 238 [uD' 2] (iD 2):=
 A0.of_vals (us:=[.int .u64 2]) Kq' rfl λw I N O=>⟨.int .i64 2,λ_=>Hs (by simp only[okP,DJ,DK];omega),by
  have h2:(Lib.bitLen (2:Int).toNat:Int)=2:=Dq';have:=Any.bits_Len Tryz.sLen 2 w Om Om;rw[h2] at this;exact this.mono λe w' ⟨C,M⟩=>⟨C,by subst M;exact Below.refl _ _⟩⟩
def c_cmpM(a b:Baa×GV):A0 prog 358 [.agg (A8 a),.agg (A8 b)] (iD (CO a.1 b.1)):=by
 obtain⟨C,M,N,O⟩:=Az a.2;obtain⟨Y,Z,y3,y4⟩:=Az b.2;rw[Aj,Aj];generalize A7 a.2=V at*;generalize A7 b.2=U at*;have hc:=ET a.1 b.1;refine Zf [0] ?_
 (have z:=Za C<|Za M<|Za N<|Za O<|Za Y<|Za Z<|Za y3 y4;push_cast[z]<;>repeat' (first|refine Zc (hc ..) ?_|apply Za)<;>push_cast[z])
def TW:IntKind.i64.wrap 0=0/\IntKind.i64.wrap 1=1/\IntKind.i64.wrap 2=2:=Dq'
def c_ins2(a b:Baa×GV)(a0:CO b.1 a.1=1):A0 prog 407 [.slice [A8 a,A8 b] false,iD 0,iD 2,.func (.func 358) [] []] (.tup []):=by
 have hc:=c_cmpM b a;rw[a0] at hc;have C:=Ap a;have M:=Ap b;have N:=BW a;have O:=BW b;have Y:(A8 a).length=7:=by rw[Aj,A2l,AH]
 have Z:(A8 b).length=7:=by rw[Aj,A2l,AH]
 have x4:=CI a;have y4:=CI b;generalize A8 a=V at*;generalize A8 b=U at*;obtain⟨w0,w1,w2⟩:=TW;refine Zf [] ?_
 (have z:=Za C<|Za M<|Za Y<|Za Z<|Za N<|Za O<|Za x4 y4;push_cast[z]<;>repeat' apply Za<;>push_cast[z])
 refine Zl (λi=>i=1\/i=2) (λi=>⟨[(8,iD i),(0,.slice [V,U] false),(1,iD 0),(2,iD 2),(3,.func (.func 358) [] [])],[],400⟩) (λi=>2-i) 1 Sq' ?_ λi hi=>?_
 ·apply Zw<;>push_cast [C,M];all_goals decide
 ·rcases hi with rfl|rfl
  ·(have z:=Za C<|Za M<|Za Y<|Za Z<|Za N<|Za O<|Za x4 y4;push_cast[z]<;>repeat' apply Za<;>push_cast[z])
   refine Zl (λ_=>True) (λ_=>⟨[(9,iD 1),(8,iD 1),(0,.slice [V,U] false),(1,iD 0),(2,iD 2),(3,.func (.func 358) [] [])],[],600⟩) (λ_=>0) 0 trivial ?_ λ_ _=>?_
   ·apply Zw<;>push_cast [C,M]
   ·(have z:=Za C<|Za M<|Za Y<|Za Z<|Za N<|Za O<|Za x4<|Za y4<|Za w0<|Za w1 w2;push_cast[z]<;>repeat' (first|refine Zv (hc ..) ?_|exact Zo|apply Za)<;>push_cast[z])
    refine⟨2,.inr rfl,Om,?_⟩;apply Zw<;>push_cast [C,M,w0,w1,w2]
  ·(have z:=Za C<|Za M<|Za Y<|Za Z<|Za N<|Za O<|Za x4 y4;push_cast[z]<;>repeat' apply Za)
def c_pdq2(a b:Baa×GV)(N:CO b.1 a.1=1)(n:Int):A0 prog 391 [.slice [A8 a,A8 b] false,iD 0,iD 2,iD n,.func (.func 358) [] []] (.tup []):=by
 have hc:=c_ins2 a b N;have C:=Ap a;have M:=Ap b;generalize A8 a=V at*;generalize A8 b=U at*;obtain⟨w0,Y,O⟩:=TW;refine Zf [] ?_
 (have z:=Za C M;push_cast[z]<;>repeat' apply Za)
 refine Zl (λ_=>True) (λ_=>⟨[(0,.slice [V,U] false),(1,iD 0),(2,iD 2),(4,.func (.func 358) [] [])],[],400⟩) (λ_=>0) 0 trivial ?_ λ_ _=>?_
 ·apply Zw<;>push_cast [C,M]
 ·(have z:=Za C<|Za M O;push_cast[z]<;>repeat' (first|refine Zc (hc ..) ?_|apply Za)<;>push_cast[z])
def c_sort2(a b:Baa×GV)(C:CO b.1 a.1=1):A0 prog 357 [.slice [A8 a,A8 b] false,.func (.func 358) [] []] (.tup []):=by
 have hc:=c_pdq2 a b C 2;have hb:=Qm;have M:=Ap a;have N:=Ap b;generalize A8 a=V at*;generalize A8 b=U at*;have O:IntKind.u64.wrap 2=2:=Dq';refine Zf [] ?_
 (have z:=Za M<|Za N O;push_cast[z]<;>repeat' (first|refine Zc (hb ..) ?_|refine Zc (hc ..) ?_|apply Za)<;>push_cast[z])
def c_key(hU:Kt)(s:Baa)(i:Nat)(x r:Lua)(es:List (Value×Nat×D))(ck:Nat)(C:Cj x)(M:s.size<=1048576)(h:At s i (txt x) r)(hf:Ez .str (.string ⟨x.toArray⟩) es 0=some none)(N:∀r:Nat->Nat,(es.map λp=>(p.1,p.2.1,Bu r p.2.2))=es)(hl:∀n,(es.all λp=>ltD n p.2.2)=true):
  A4 prog 356 [.ref 1 0 0 3,.mref 5] [(1,rdB s i),(5,.map es ck)] (.val (.string ⟨x.toArray⟩)) [(1,rdB s (i+(txt x).length)),(5,.map (es++[(.string ⟨x.toArray⟩,ck,.agg [])]) (ck+1))]:=by
 have O:=Zx hU s i x r C M h;have U:=Tn s i (At.lt (x:=x++[34]) h) (by rw[At.str0 (x:=x++[34]) h];unfold nbl;decide);refine Zd [] ?_
 (have z:=hf;push_cast[z]<;>repeat' (first|refine Zs [(1,1)] U ?_|refine Zs [(1,1)] (O ..) ?_|apply Za)<;>push_cast[z])
 apply Zw<;>push_cast [N,hl,A2F,List.all_append]
def RP:∀a:Lua,BD a a=0
 |[]=>rfl
 |c::a=>by simp[BD,RP a]
def Xp(k x l y:Lua):Lua:=123::(txt k++(58::(x++(44::(txt l++(58::(y++[125])))))))
def k_object(hU:Kt)(n:Nat)(k l x y:Lua)(v u:GV)(hk:Cj k)(hl:Cj l)(a0:CO ⟨l.toArray⟩ ⟨k.toArray⟩=1)(hv:EA n x v)(hw:EA n y u):
  MH (n+1) 279 (Xp k x l y) (vO [(⟨k.toArray⟩,v),(⟨l.toArray⟩,u)]):=by
 intro s i r d ha hr C hd;have w0:IntKind.i64.wrap (↑i+1)=↑i+1:=A9 (by have:=ha.2;omega) (by have:=ha.2;omega);have wd:IntKind.i64.wrap (↑d+1)=↑d+1:=A9 Om Om;have hm:i+(Xp k x l y).length=i+1+(txt k).length+1+x.length+1+(txt l).length+1+y.length+1:=by
  simp only[Xp,A2l,A2a,A2r];omega
 have M:=ha.tail1;have a2:=M.tail;have a3:=a2.tail1;have a4:=a3.tail;have a5:=a4.tail1;have a6:=a5.tail;have a7:=a6.tail1;have N:=a7.tail;rw[hm];have f1:=LC s (i+1) 125 (At.lt (x:=k++[34]) M.head) (by rw[At.str0 (x:=k++[34]) M.head];decide) (by rw[At.str0 (x:=k++[34]) M.head];unfold nbl;decide);have k1:=c_key hU s (i+1) k _ [] 0 hk C M.head rfl (λ_=>rfl) (λ_=>rfl);have t1:=G1 s _ 58 a2.lt C a2.str0 (by unfold nbl;decide);have v1:=hv.2 s _ _ (d+1) a3.head (by intro c hc;cases hc;exact .inl rfl) C Om;have t2:=G1 s _ 44 a4.lt C a4.str0 (by unfold nbl;decide);have k2:=c_key hU s _ l _ [(.string ⟨k.toArray⟩,0,.agg [])] 1 hl C a5.head (by
  have:¬(ByteArray.mk l.toArray)=⟨k.toArray⟩:=λe=>by
   rw[e] at a0;simp only[CO,RP] at a0;omega
  have t2:¬(ByteArray.mk k.toArray)=⟨l.toArray⟩:=λe=>this e.symm;simp[Ez,keq,this,t2]) (λ_=>rfl) (λ_=>rfl)
 have t3:=G1 s _ 58 a6.lt C a6.str0 (by unfold nbl;decide);have v2:=hw.2 s _ _ (d+1) a7.head (by intro c hc;cases hc;exact .inr (.inr rfl)) C Om;have f2:=LC s _ 44 N.lt (by rw[N.str0];decide) (by rw[N.str0];unfold nbl;decide);have t4:=G1 s _ 125 N.lt C N.str0 (by unfold nbl;decide);have hs:=c_sort2 (⟨k.toArray⟩,v) (⟨l.toArray⟩,u) a0;rw[Aj,Aj] at hs;obtain⟨Y,O,Z,x4⟩:=Az v;obtain⟨y1,y2,y3,y4⟩:=Az u;rw[PQ];simp only[A2m,A2E,Aj];generalize A7 v=V at*;generalize A7 u=U at*;clear ha M a2 a3 a4 a5 a6 a7 N hv hw hm;refine Zd [] ?_
 (push_cast<;>repeat' apply Za<;>push_cast)
 refine AWp.scope (Zy ?_)
 (have z:=w0;push_cast[z]<;>repeat' (first|refine Zs [(1,1)] (f1 ..) ?_|apply Za)<;>push_cast[z])
 generalize a9:i+1+(txt k).length+1+x.length+1=q2 at*;refine AWp.loopI mixed Kq' (ι:=Bool) (λ_=>True) (λb=>match b with
  |false=>⟨[(0,.ref 1 0 0 3),(1,iD d),(4,.ref 8 0 0 6),(5,.ref 24 0 0 6),(6,.mref 120)],[(1,rdB s (i+1)),(3,kB),(8,vB 0 (.slice [] true) (.slice [] true)),(24,vB 6 (.slice [] true) (.slice [] true)),(120,.map [] 0)],1000⟩
  |true=>⟨[(0,.ref 1 0 0 3),(1,iD d),(4,.ref 8 0 0 6),(5,.ref 24 0 0 6),(6,.mref 120)],[(1,rdB s q2),(3,kB),(8,vB 0 (.slice [] true) (.slice [] true)),(24,vB 6 (.slice [] true) (.gref 48 1)),(48,.grow [.val (.string ⟨k.toArray⟩)::V] 7),(120,.map [(.string ⟨k.toArray⟩,0,.agg [])] 1)],1000⟩) (λb=>if b then 0 else 1) false trivial ?_ λb _=>?_
 ·apply Zw<;>push_cast
 ·cases b with
  |false=>
   simp only
   (have z:=Za wd<|Za Y<|Za O<|Za Z x4;push_cast[z]<;>repeat' (first|refine Zs [(1,1),(5,120)] k1 ?_|refine Zs [(1,1)] (t1 ..) ?_|refine Zs [(1,1),(3,3)] (v1 ..) ?_|refine Zs [(1,1)] (t2 ..) ?_|exact Zo|apply Za)<;>push_cast[z])
   all_goals first|omega|(simp[O];done)|skip
   refine⟨true,Dq',?_⟩;simp only;apply Zr [(48,2128)] rfl<;>push_cast [Y,O,Z,x4]
  |true=>
   simp only
   (have z:=Za wd<|Za Y<|Za O<|Za Z<|Za x4<|Za y1<|Za y2<|Za y3 y4;push_cast[z]<;>repeat' (first|refine Zs [(1,1),(5,120)] k2 ?_|refine Zs [(1,1)] (t3 ..) ?_|refine Zs [(1,1),(3,3)] (v2 ..) ?_|refine Zs [(1,1)] (f2 ..) ?_|refine Zs [(1,1)] (t4 ..) ?_|refine Zq (hs ..) ?_ ?_|exact Zo|apply Za)<;>push_cast[z])
   all_goals first|omega|(simp[y2];done)|skip
   ·intro z C d hd;cases A2b.1 C;rcases A2s.1 hd with rfl|hd
    ·rfl
    ·exact A2q.1 y3 d hd
   ·refine Aq.trans (Aq.fzB (b:=2128) (x:=.grow ([.val (.string ⟨k.toArray⟩)::V]++[.val (.string ⟨l.toArray⟩)::U]) 7) rfl) ?_;push_cast[Y,O,Z,y1,y2,y3];apply Zw<;>push_cast [Y,O,Z,y1,y2,y3]
def ED:List (Lua)->Lua
 |[]=>[]
 |x::l=>x++l.flatMap (44:: ·)
def A0e(l:List (Lua))(x:Lua):ED (l++[x])=ED l++(if l=[] then [] else [44])++x:=by
 cases l with
 |nil=>simp [ED]
 |cons y l=>simp [ED]
abbrev F4(s:Baa):Lua:=(Dk s).data.toList
mutual
def tv:GV->Lua
 |.mk k b n s l o=>if k=3 then Lib.itoa n else if k=4 then F4 s else if k=5 then 91::(ED (tvs l)++[93]) else if k=6 then 123::(ED (tvo o)++[125]) else [110,117,108,108]
def tvs:List GV->List (Lua)
 |[]=>[]
 |v::l=>tv v::tvs l
def tvo:List (Baa×GV)->List (Lua)
 |[]=>[]
 |(k,v)::l=>(F4 k++58::tv v)::tvo l
end
def Yv:∀l:List GV,tvs l=l.map tv
 |[]=>rfl
 |v::l=>by simp[tvs,Yv l]
def tvm(p:Baa×GV):Lua:=F4 p.1++58::tv p.2
def Yw:∀l:List (Baa×GV),tvo l=l.map tvm
 |[]=>rfl
 |(k,v)::l=>by simp[tvo,Yw l,tvm]
def J6(v:GV):tv v=if v.kind=3 then Lib.itoa v.n else if v.kind=4 then F4 v.s else if v.kind=5 then 91::(ED (v.list.map tv)++[93]) else if v.kind=6 then 123::(ED (v.obj.map tvm)++[125]) else [110,117,108,108]:=by
 cases v;rw[tv];simp[Yv,Yw];rfl
def QJ{α:Type}(f:α->Lua)(l:List α)(i:Nat)(h:i<l.length):ED ((l.take (i+1)).map f)=ED ((l.take i).map f)++(if i=0 then [] else [44])++f (l[i]'h):=by
 rw[A2J h,A2F,List.map_singleton,A0e];by_cases hi:i=0
 ·simp_all
 ·rw[if_neg hi,if_neg];intro e;simp_all
def Um{α:Type}(f:α->Lua)(l:List α)(i:Nat):(ED ((l.take i).map f)).length<=(ED (l.map f)).length:=by
 rcases A2z i l.length with h|h
 ·conv=>rhs;rw[<-A2O i l,A2F]
  cases C:(l.take i).map f with
  |nil=>simp [ED]
  |cons y m=>simp [ED]
 ·rw[A2g h];omega
def F3:F4 tNx=txt [110]/\F4 tK=txt [107]/\F4 Jc=txt [105,110,99]/\F4 Ja=txt [112,117,116]/\F4 tBy=txt [98,121]/\F4 CZ=txt [107,101,121]/\F4 Dc=txt [118,97,108,117,101]/\F4 Fp=txt [97,114,103,115]/\F4 Fo=txt [110,97,109,101]/\
  F4 tId=txt [105,100]/\F4 DL=txt [109,117,116,97,116,111,114]/\F4 Ed=txt [99,108,105,101,110,116]/\F4 Jb=txt [108,105,115,116]:=by
 refine⟨?_,?_,?_,?_,?_,?_,?_,?_,?_,?_,?_,?_,?_⟩<;>kernel_rfl
def tv_N:tv BU=[110,117,108,108]:=by rw[J6];rfl
def tv_I(n:Int):tv (vI n)=Lib.itoa n:=by rw[J6];rfl
def tv_T(s:Baa)(x:Lua)(h:F4 s=txt x):tv (vT s)=txt x:=by rw[J6];exact h
def ZU(k l:Baa)(v u:GV)(x y:Lua)(C:F4 k=txt x)(hl:F4 l=txt y):tv (vO [(k,v),(l,u)])=Xp x (tv v) y (tv u):=by
 show 123::(ED [tvm (k,v),tvm (l,u)]++[125])=_;simp[ED,tvm,C,hl,Xp]
def tv_L(l:List GV):tv (vL l)=Qy (l.map tv):=by
 rw[J6];show 91::(ED (l.map tv)++[93])=_;have C:∀m:List (Lua),m.flatMap (44:: ·)++[93]=Gl m:=by
  intro m
  induction m with
  |nil=>rfl
  |cons y m M=>grind [Gl]
 cases l with
 |nil=>rfl
 |cons v l=>simp [ED,Qy,C]
def v_N(n:Nat):EA n (tv BU) BU:=by
 exact E4 n _ 110 _ _ Dq' (k_null n)
def v_T(hU:Kt)(n:Nat)(x:Lua)(h:F4 ⟨x.toArray⟩=txt x)(C:Cj x):EA n (tv (vT ⟨x.toArray⟩)) (vT ⟨x.toArray⟩):=by
 rw[tv_T _ _ h];exact E4 n _ 34 _ _ Dq' (k_quoted hU n x C)
def v_O(hU:Kt)(n:Nat)(x y:Lua)(v u:GV)(h:F4 ⟨x.toArray⟩=txt x)(C:F4 ⟨y.toArray⟩=txt y)(M:Cj x)(N:Cj y)(O:CO ⟨y.toArray⟩ ⟨x.toArray⟩=1)(U:EA n (tv v) v)(V:EA n (tv u) u):EA (n+1) (tv (vO [(⟨x.toArray⟩,v),(⟨y.toArray⟩,u)])) (vO [(⟨x.toArray⟩,v),(⟨y.toArray⟩,u)]):=by
 rw[ZU _ _ v u x y h C];exact E4 (n+1) _ 123 _ _ Dq' (k_object hU n x y (tv v) (tv u) v u M N O U V)
def v_L(n:Nat)(l:List GV)(hl:l.length<=1048576)(h:∀v ∈ l,EA n (tv v) v):EA (n+1) (tv (vL l)) (vL l):=by
 rw[tv_L];have C:=k_list n (l.map λv=>(tv v,v)) (by simp_all) (by simp_all);rw[A30,A30] at C;have N:((λx=>x.1) ∘ λv=>(tv v,v))=tv:=rfl;have M:((λx=>x.2) ∘ λv:GV=>(tv v,v))=id:=rfl;rw[M,List.map_id] at C;cases l with
 |nil=>exact E4 (n+1) _ 91 _ _ Dq' C
 |cons v l=>exact E4 (n+1) _ 91 _ _ Dq' C
def v_I(hP:TP)(n:Nat)(k:Int)(h0: -9223372036854775808<=k)(h1:k<=9223372036854775807):EA n (tv (vI k)) (vI k):=by
 rw[tv_I];have C:=k_number hP n k h0 h1;obtain⟨c,y,e,hc⟩:∃c y,Lib.itoa k=c::y/\Rm (c.toNat:Int)=some 280:=by
  unfold Lib.itoa;by_cases hn:k<0
  ·rw[if_pos hn];exact⟨45,Lib.decDigits k.natAbs,rfl,Dq'⟩
  ·rw[if_neg hn];obtain⟨h1,h2⟩:=E9 k.toNat;cases M:Lib.decDigits k.toNat with
   |nil=>simp_all
   |cons c y=>
    have:=h1 c (by simp_all);unfold Rm;grind
 rw[e] at C|-;exact E4 n _ c y _ hc C
section
variable(hU:Kt)(hP:TP)
include hU hP
theorem v_args(m:SMu)(hm:m.ok):EA 1 (tv m.args) m.args:=by
 obtain⟨M,N,V,Y,O,C,U,Z,q9,a0,a1,a2,a3⟩:=F3;cases m with
 |inc n=>exact v_O hU 0 [98,121] [107,101,121] (vI n) (vT tNx) O C (by unfold Cj;decide) (by unfold Cj;decide) Dq' (v_I hP 0 n hm.1 hm.2) (v_T hU 0 [110] M (by unfold Cj;decide))
 |put=>exact v_O hU 0 [107,101,121] [118,97,108,117,101] (vT tK) BU C U (by unfold Cj;decide) (by unfold Cj;decide) Dq' (v_T hU 0 [107] N (by unfold Cj;decide)) (v_N 0)
theorem v_o(m:SMu)(hm:m.ok):EA 2 (tv m.o) m.o:=by
 obtain⟨U,V,C,M,Y,Z,q7,N,O,a0,a1,a2,a3⟩:=F3;refine v_O hU 1 [97,114,103,115] [110,97,109,101] m.args (vT m.name) N O (by unfold Cj;decide) (by unfold Cj;decide) Dq' (v_args hU hP m hm) ?_;cases m with
 |inc n=>exact v_T hU 1 [105,110,99] C (by unfold Cj;decide)
 |put=>exact v_T hU 1 [112,117,116] M (by unfold Cj;decide)
theorem v_snO(x:SN)(h1:Ex x.1)(h2:x.2.ok):EA 3 (tv (snO x)) (snO x):=by
 obtain⟨N,O,U,V,Y,Z,q7,q8,q9,C,M,a0,a1⟩:=F3;exact v_O hU 2 [105,100] [109,117,116,97,116,111,114] (vI x.1) x.2.o C M (by unfold Cj;decide) (by unfold Cj;decide) Dq' (v_I hP 2 x.1 Om (by have:=h1.2;omega)) (v_o hU hP x.2 h2)
theorem v_puO(c:Nat)(l:List SN)(h:KU c l):EA 5 (tv (puO c l)) (puO c l):=by
 obtain⟨U,V,Y,Z,q5,q6,q7,q8,q9,a0,a1,M,N⟩:=F3;refine v_O hU 4 [99,108,105,101,110,116] [108,105,115,116] (vI c) (vL (l.map snO)) M N (by unfold Cj;decide) (by unfold Cj;decide) Dq' (v_I hP 4 c Om (by have:=h.1.2;omega)) ?_;refine v_L 3 _ (by have:=h.2.1;simp;omega) λv O=>?_;obtain⟨x,C,rfl⟩:=A2p.1 O;exact v_snO hU hP x (h.2.2 x C).1 (h.2.2 x C).2
end
def ZD(n:Nat)(h:Ex n):A0 prog 79 [uD' n] (bD true):=by
 obtain⟨h1,h2⟩:=h;have b1:decide ((0:Int)<n)=true:=Dt';have b2:decide ((n:Int)<=4611686018427387903)=true:=Dt';refine Zf [] ?_
 (have z:=Za b1 b2;push_cast[z]<;>repeat' apply Za)
def Wb(n:Nat)(h:Ex n):A0 prog 112 [uD' n] (.agg (A7 (vI n))):=by
 obtain⟨h1,h2⟩:=h;have C:IntKind.i64.wrap (n:Int)=n:=A9 Om Om;rw[N6];refine Zf [] ?_
 (have z:=C;push_cast[z]<;>repeat' apply Za)
def VX(b:Bool)(c:Int):A0 prog 193 [bD b,iD c] (iD (if b then 0 else c)):=by
 cases b<;>refine Zf [] ?_<;>(push_cast<;>repeat' apply Za)
def Wd:A0 prog 115 [.val (.int .u8 1)] (iD 0):=by
 have h:=VX true 2;refine Zf [] ?_
 (have z:=trivial;push_cast<;>repeat' (first|refine Zc h ?_|apply Za)<;>push_cast)
def c_like1:A0 prog 121 [.val (.int .u8 1),.val (.int .u8 1)] (iD 0):=by
 have h:=VX true 13;refine Zf [] ?_
 (have z:=trivial;push_cast<;>repeat' (first|refine Zc h ?_|apply Za)<;>push_cast)
def c_joined(l:Lua)(hl:l.length<=1048576)(h0:0<l.length):A0 prog 118 [.slice (l.map byD) false,.val (.int .u8 1)] (.slice ((1::l).map byD) false):=by
 have C:=B9 l;have M:(l.map byD).length=l.length:=A2k byD;have b1:decide (1+l.length<=1)=false:=Df';refine Zf [] ?_
 (have z:=Za C<|Za b1 M;push_cast[z]<;>repeat' apply Za)
 all_goals first|omega|exact LE _|skip
 rw[if_pos Om];exact Av _
abbrev Ask:=FuncId×List D×List D
def TC(x:Ask):List D:=[.func (.func x.1) x.2.1 x.2.2]
def AskOk(x:Ask):Prop:=A0 prog x.1 (x.2.1++x.2.2) (iD 0)/\An x.2.1=true/\An x.2.2=true
def ZF(l:List Ask)(hl:l.length<=1048576)(h:∀x ∈ l,AskOk x):A0 prog 116 [.slice (l.map TC) false] (iD 0):=by
 have C:Aa (l.map TC)=true:=by
  induction l with
  |nil=>rfl
  |cons x l V=>
   obtain⟨_,h1,h2⟩:=h x Sq';simp only[A2m,Aa,TC,An,D.pure,h1,h2,V (by simp at hl;omega) λy Y=>h y (by simp[Y]),A2L]
 have Z:(l.map TC).length=l.length:=A2k TC;refine Zf [] ?_
 (have z:=Za C Z;push_cast[z]<;>repeat' apply Za)
 refine Zl (λi=>i<=l.length) (λi=>⟨[(8,iD i),(7,iD l.length),(6,.slice (l.map TC) false)],[],400⟩) (λi=>l.length-i) 0 Sq' ?_ λi hi=>?_
 ·apply Zw<;>push_cast [C]
 ·push_cast;refine Ad (λN=>?_) (λN=>?_)
  ·have M:i<l.length:=by simpa using N
   have O:nr (l.map TC) i=TC (l.getD i (0,[],[])):=DT _ M;have hx:=h _ (Ae (d:=(0,[],[])) M);generalize l.getD i (0,[],[])=x at*;obtain⟨f,fs,cs⟩:=x;obtain⟨h1,h2,U⟩:=hx;simp only at h1 h2 U;have e2:TC (f,fs,cs)=[.func (.func f) fs cs]:=rfl;rw[e2] at O;have w1:IntKind.i64.wrap (↑i+1)=↑i+1:=A9 Om Om
   (have z:=Za O<|Za C<|Za w1<|Za h2<|Za U @Ej;push_cast[z]<;>repeat' (first|refine Zv h1 ?_|apply Za)<;>push_cast[z])<;>try omega
   refine⟨i+1,M,Om,?_⟩;apply Zw<;>push_cast [C]
  ·have M:i=l.length:=by simp at N;omega
   subst M
   (have z:=C;push_cast[z]<;>repeat' apply Za)
end Go.Ab
