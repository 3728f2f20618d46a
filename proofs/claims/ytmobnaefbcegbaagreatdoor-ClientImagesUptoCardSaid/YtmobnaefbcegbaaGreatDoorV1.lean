/- The program is walked: part 2 of 18. -/
import Derived.Test.YtmobnaefbcegbaaGreatDoorV0
import Derived.WalkSpells
import Derived.Maps.RangeRun
set_option maxHeartbeats 4000000
set_option maxRecDepth 20000
set_option linter.all false
namespace Go.Ab
abbrev LLa:=List (List D)
open Go.RowKit
variable{C ti M tm:TI}{vs:List Value}{t e' T ty tk:TypeId}{e:Eff}{c:Prop}{i cap:Nat}{v y k kv:Value}{hp:Nat->Option Blk}{op:BinOp}{N dm dk:D}{ts:Array TypeId}{A:Option Addr}
section
variable{P:Program}{w0:World}{M0:Nat->Prop}{I0:Gh}{fr I:Nat->Prop}{mu:Nat->Option Value}{h:Nat->Option Blk}{w:World}
def Qq(fs:List (Nat×Nat×Bool)):List D->List (Nat×D)->Option (List D×Prop)
 |cs,[]=>some (cs,True)
 |cs,(i,d)::r=>match fs[i]?,HL d with
  |some (off,sz,_),some ns=>match Qq fs (AI cs off ns) r with
   |some (x,c)=>some (x,ns.length=sz/\off+ns.length<=cs.length/\c)
   |none=>none
  |_,_=>none
def Tw(ti:TI)(ps:List (Nat×D)):Res:=
 match ti.sh with
 |.struct fs=>match Qq fs (ti.zero.map ofV) ps with
  |some (cs,c)=>pvc (.agg cs) c
  |none=>none
 |_=>none
def Mr(off:Nat):∀(vs:List Value) (j:Nat) (us:List Value),off+j+vs.length<=us.length->
  ((vs.zipIdx j).foldl (λ(cs:Array Value) (p:Value×Nat)=>cs.setIfInBounds (off+p.2) p.1) us.toArray)=(AI us (off+j) vs).toArray
 |[],j,us,_=>by simp[AI]
 |v::vs,j,us,hl=>by
  simp at hl;simp;rw[Mr off vs (j+1) (us.set (off+j) v) (by simp;omega)];congr 1;apply A3F;intro i;rw[GJ (by simp;omega),GJ (by simp;omega)];grind
def rep_setL{cs C:List D}{us:List Value}{off:Nat}(hl:us.length=cs.length)(N:vs.length=C.length)(M:off+C.length<=cs.length)(h1:∀i,i<cs.length->Rep w I mu (nd cs i) (nv us i))(h2:∀i,i<C.length->Rep w I mu (nd C i) (nv vs i)):
  ∀i,i<(AI cs off C).length->Rep w I mu (nd (AI cs off C) i) (nv (AI us off vs) i):=by
 intro i hi;rw[BC M] at hi;rw[SJ M,Hw (by omega),N];grind
def Us{fs:List (Nat×Nat×Bool)}:∀(ds:List (Nat×D)) (vs:List (Nat×Value)) (cs:List D) (us:List Value) (x:List D) (c:Prop),Qq fs cs ds=some (x,c)->c->vs.length=ds.length->
  (∀(i:Nat) (p:Nat×D) (q:Nat×Value),ds[i]? =some p->vs[i]? =some q->p.1=q.1/\Rep w I mu p.2 q.2)->us.length=cs.length->(∀i,i<cs.length->Rep w I mu (nd cs i) (nv us i))->
  ∃C,Instr.fill (λi=>(fs.map λy=>(y.1,y.2.1))[i]?) us.toArray vs=some C.toArray/\C.length=x.length/\∀i,i<x.length->Rep w I mu (nd x i) (nv C i)
 |[],[],cs,us,x,c,hb,_,_,_,hl,hr=>by
  obtain⟨rfl,_⟩:=hb;exact⟨us,by simp[Instr.fill],hl,hr⟩
 |[],_::_,_,_,_,_,_,_,hv,_,_,_=>by simp at hv
 |_::_,[],_,_,_,_,_,_,hv,_,_,_=>by simp at hv
 |(i,d)::ds,(i',v)::vs,cs,us,x,c,hb,hc,hv,hp,hl,hr=>by
  simp[Qq] at hb;split at hb
  ·rename_i off sz ag O U V;split at hb
   ·rename_i y Y Z;simp only[A2j,A2B] at hb;obtain⟨rfl,rfl⟩:=hb;obtain⟨a7,N,a0⟩:=hc;obtain⟨he,a1⟩:=hp 0 (i,d) (i',v) rfl rfl;subst he;obtain⟨M,a2,a3,a4,_⟩:=a1.cells V;have a5:v.cells.size=sz:=by
     grind
    obtain⟨C,h1,h2,h3⟩:=Us ds vs (AI cs off O) (AI us off M) y Y Z a0 (by grind) (λj p q a8 a9=>hp (j+1) p q (by grind) (by grind))
     (by rw[BC (by omega),BC N,hl]) (rep_setL hl a3 N hr a4)
    have a6:(fs.map λy=>(y.1,y.2.1))[i]? =some (off,sz):=by simp[U]
    simp[Instr.fill,a6,a5,ne_eq,not_true_eq_false,decide_false,A42,A2A];have hz:(v.cells.zipIdx.foldl (λ(cs:Array Value) (p:Value×Nat)=>cs.setIfInBounds (off+p.2) p.1) us.toArray)=(AI us off M).toArray:=by
     rw[<-Array.foldl_toList,Array.toList_zipIdx,a2];have:=Mr off M 0 us (by omega);omega
    grind
   ·cases hb
  ·cases hb
def X3(ht:Au P t=some ti){ds:List (Nat×D)}(C:Tw ti ds=some (e,c))(hc:c)(hr:AA w0 M0 I0 fr I mu h w)(vs:List (Nat×Value))(N:vs.length=ds.length)
  (hp:∀(i:Nat) (p:Nat×D) (q:Nat×Value),ds[i]? =some p->vs[i]? =some q->p.1=q.1/\Rep w I mu p.2 q.2) (id:Nat):
  AT P (λw=>(Instr.build t vs.toArray).run P w) id e.d e.up w0 M0 I0 fr I mu h w:=by
 unfold Tw at C;split at C
 ·rename_i fs O;split at C
  ·rename_i cs U hb;simp only[pvc,A2j,A2B] at C;obtain⟨rfl,rfl⟩:=C;obtain⟨l,a0,a1⟩:=LL ht O;obtain⟨i,d,z,h1,h2,h3,h4,h5,V,h7,h8,h9⟩:=Bw ht;obtain⟨M,g1,Y,Z⟩:=Us ds vs (ti.zero.map ofV) ti.zero cs U hb hc N hp (by simp) (λi hi=>by
    grind [nd,ofV,nv,Ht])
   refine AT.same hr (.agg M.toArray) (run_build w t vs.toArray M.toArray ?_) (.agg _ _ Y Z);have a2:z.cells=ti.zero.toArray:=by rw[<-V]
   grind [N0,Instr.fill,Program.built]
  ·cases C
 ·cases C
def PP(ti:TI)(i:Nat):D->Res
 |.agg cs=>match ti.sh with
  |.struct fs=>match fs[i]? with
   |some (off,sz,ag)=>bif ag then pvc (.agg ((cs.drop off).take sz)) (off+sz<=cs.length) else pvc (nd cs off) (off<cs.length)
   |none=>none
  |_=>none
 |_=>none
def X0(ht:Au P t=some ti){d:D}(C:PP ti i d=some (e,c))(hc:c)(hr:AA w0 M0 I0 fr I mu h w)(hv:Rep w I mu d v)(id:Nat):
  AT P (λw=>(Instr.field t v i).run P w) id e.d e.up w0 M0 I0 fr I mu h w:=by
 cases d with
 |agg cs=>
  simp[PP] at C;split at C
  ·rename_i fs a0;split at C
   ·rename_i off sz ag a1;obtain⟨l,V,a2⟩:=LL ht a0;obtain⟨f,a7,N⟩:=Ps a2 i _ a1;obtain⟨us,rfl,a8,a3⟩:=hv.agg_inv;have Y:l[i]? =some f:=by simp_all
    unfold JY at N;split at N
    ·rename_i Z O a4 a5;obtain⟨rfl,rfl,rfl⟩:=N;have M:(isAgg f.type).run P w=.ok (S0 O) w:=by
      simp[isAgg,A2o,run_underlying a5,Result.andThen];cases O<;>rfl
     have a6:(sizeOf f.type).run P w=.ok Z.size w:=by simp[sizeOf,typeInfo,a4]
     cases U:S0 O<;>simp only[U,cond_true,A2B] at C<;>obtain ⟨rfl,rfl⟩:=C
     ·rw[U] at M;refine AT.same hr (nv us f.offset) ?_ (a3 _ hc);simp[Instr.field,A2o,run_underlying V,Result.andThen,Y,asAgg,A2u,part,M];simp_all [nv]
     ·rw[U] at M;refine AT.same hr (.agg ((us.drop f.offset).take Z.size).toArray) ?_ (.agg _ _ (by simp;omega) λj hj=>?_)
      ·simp[Instr.field,A2o,run_underlying V,Result.andThen,Y,asAgg,A2u,part,M];simp[a6]
      grind [nd,nv]
    simp_all
   ·cases C
  ·cases C
 |_=>simp [PP] at C
def HI(ti:TI)(i:Nat)(d:D):Res:=
 match ti.sh with
 |.struct fs=>match fs[i]? with
  |some (off,sz,_)=>match d with
   |.ptr cs o=>pvc (.ptr cs (o+off)) (sz≠0)
   |.ref b r o s=>pvc (.ref b r (o+off) s) (sz≠0)
   |.gel b r o s=>pvc (.gel b r (o+off) s) (sz≠0)
   |_=>none
  |none=>none
 |_=>none
def P0(ht:Au P t=some ti){d:D}(C:HI ti i d=some (e,c))(hc:c)(hr:AA w0 M0 I0 fr I mu h w)(M:Rep w I mu d v)(id:Nat):
  AT P (λw=>(Instr.fieldAt t v i).run P w) id e.d e.up w0 M0 I0 fr I mu h w:=by
 unfold HI at C;split at C
 ·rename_i fs V;split at C
  ·rename_i off sz ag Y;obtain⟨l,a3,Z⟩:=LL ht V;obtain⟨f,a4,N⟩:=Ps Z i _ Y;unfold JY at N;split at N
   ·rename_i U a5 a0 a6;obtain⟨rfl,rfl,rfl⟩:=N;have a7:(sizeOf f.type).run P w=.ok U.size w:=by simp[sizeOf,typeInfo,a0]
    have run:∀k o,U.size≠0->(Instr.fieldAt t (.pointer (some ⟨k,o,none⟩)) i).run P w=.ok (.pointer (some ⟨k,o+f.offset,none⟩)) w:=by
     simp_all [Instr.fieldAt,run_underlying,Instr.sureAddr,fieldPlace,Ca]
    split at C
    ·rename_i cs o;obtain⟨rfl,rfl⟩:=C;cases M with
     |ptr _ _ k b u hI a1 a2=>
      exact AT.same hr _ (run k (b+o) hc) (by rw[Nat.add_assoc];exact .ptr cs (o+f.offset) k b u hI a1 a2)
    ·rename_i b r o s;obtain⟨rfl,rfl⟩:=C;cases M with
     |ref _ _ _ _ k O=>exact AT.same hr _ (run k (r*s+o) hc) (by rw[Nat.add_assoc];exact .ref b r (o+f.offset) s k O)
    ·rename_i b r o s;obtain⟨rfl,rfl⟩:=C;cases M with
     |gel _ _ _ _ k len cap O=>exact AT.same hr _ (run k (r*s+o) hc) (by rw[Nat.add_assoc];exact .gel b r (o+f.offset) s k len cap O)
    ·cases C
   simp_all
  ·cases C
 ·cases C
def HE(hp:Nat->Option Blk)(te:TI):D->D->Res
 |.slice es _,.val (.int _ n)=>pvc (.ptr (nr es n.toNat) 0) (0<=n/\n<es.length/\(nr es n.toNat).length=te.sz)
 |.sref b i len _ sz,.val (.int _ n)=>pvc (.ref b (i+n.toNat) 0 sz) (0<=n/\n<len/\sz=te.sz)
 |.gref b len,.val (.int _ n)=>match hp b with
  |some (.grow es _)=>some (⟨.gel b n.toNat 0 te.sz,[],[b]⟩,0<=n/\n<len/\len=es.length)
  |_=>none
 |.gsub b i len sz,.val (.int _ n)=>match hp b with
  |some (.grow es _)=>some (⟨.gel b (i+n.toNat) 0 sz,[],[b]⟩,0<=n/\n<len/\sz=te.sz/\i+len<=es.length)
  |_=>none
 |_,_=>none
def NZ{U:TI}(ht:Au P t=some ti)(hs:ti.sh=.slice e')(Z:Au P e'=some U){d i:D}(C:HE hp U d i=some (e,c))(hc:c)(hr:AA w0 M0 I0 fr I mu h w){x:Value}(hv:Rep w I mu d v)(hx:Rep w I mu i x)(hb:∀b ∈ e.rd,h b=hp b)(id:Nat):
  AT P (λw=>(Instr.indexAt t v x).run P w) id e.d e.up w0 M0 I0 fr I mu h w:=by
 have hu:=AC ht hs;unfold HE at C;split at C
 ·rename_i es tg k n;obtain⟨rfl,rfl⟩:=C;obtain⟨h0,h1,h2⟩:=hc;have N:=hx.val_inv;subst N;cases hv with
  |slice _ _ A M o sz cap u hA a8 a9 hm a1 a2 a3=>
   have a4:0<es.length:=by omega
   obtain⟨rfl,hI⟩:=hA a4;have hn:n.toNat<es.length:=by omega
   have a5:sz=U.sz:=by simp_all
   refine AT.same hr (.pointer (some ⟨M,o+n.toNat*sz+0,none⟩)) ?_ (.ptr _ 0 M (o+n.toNat*sz) (λj=>u n.toNat j) (λh=>hI (by omega)) (λj V=>?_) λj V=>?_)
   ·subst a5;simp[Instr.indexAt,asIntOf,run_underlying hu,Bf Z,h0,h1,Ca]
   ·rw[a1 _ hn] at V;rw[Nat.add_assoc];exact a2 _ j hn V
   ·rw[a1 _ hn] at V;exact a3 _ j hn V
 ·rename_i b i len cap sz k n;obtain⟨rfl,rfl⟩:=C;obtain⟨h0,h1,h2⟩:=hc;have N:=hx.val_inv;subst N;cases hv with
  |sref _ _ _ _ _ M O=>
   refine AT.same hr (.pointer (some ⟨M,(i+n.toNat)*sz+0,none⟩)) ?_ (.ref b (i+n.toNat) 0 sz M O);subst h2;simp[Instr.indexAt,asIntOf,run_underlying hu,Bf Z,h0,h1,Ca,A3p]
 ·rename_i b len k n;split at C
  ·rename_i es a6 a0;obtain⟨rfl,rfl⟩:=C;obtain⟨h0,h1,h2⟩:=hc;have N:=hx.val_inv;subst N;obtain⟨A,cap,T,us,Y,g2,g3,g4⟩:=hr.blk b _ ((hb b (by simp)).trans a0);cases hv with
   |gref _ _ A' cap' O=>
    rw[Y] at O;obtain⟨rfl,hl,rfl⟩:=O;rcases g4 with⟨_,rfl⟩|⟨M,q0,rfl,q2,q3,q4,q5⟩
    ·grind
    refine AT.same hr (.pointer (some ⟨M,n.toNat*U.sz+0,none⟩)) ?_ (.gel b n.toNat 0 U.sz M es.length cap Y);simp[Instr.indexAt,asIntOf,run_underlying hu,Bf Z,h0,h1,Ca]
  ·cases C
 ·rename_i b i len sz k n;split at C
  ·rename_i es a6 a0;obtain⟨rfl,rfl⟩:=C;obtain⟨h0,h1,h2,h3⟩:=hc;have N:=hx.val_inv;subst N;obtain⟨A,cap,T,us,Y,g2,g3,g4⟩:=hr.blk b _ ((hb b (by simp)).trans a0);cases hv with
   |gsub _ _ _ _ A' B n' cap' O aa hB=>
    rw[Y] at O;obtain⟨rfl,hl,rfl⟩:=O;rcases g4 with⟨_,rfl⟩|⟨M,q0,rfl,q2,q3,q4,q5⟩
    ·omega
    have a7:=hB (.inl (by omega));subst a7;refine AT.same hr (.pointer (some ⟨M,(i+n.toNat)*sz+0,none⟩)) ?_ (.gel b (i+n.toNat) 0 sz M es.length cap Y);subst h2;simp[Instr.indexAt,asIntOf,run_underlying hu,Bf Z,h0,h1,Ca,A3p]
  ·cases C
 ·cases C
def BZ(s:Baa)(n:Int):Int:=((s.data.toList.getD n.toNat 0).toNat:Int)
def strAt_ok(s:Baa)(n:Int):okP (.int .u8 (BZ s n)):=by
 have:=(s.data.toList.getD n.toNat 0).toNat_lt;simp only[okP,BZ,DJ,DK];omega
def SV(ti:TI):D->D->Res
 |.val (.string s),.val (.int _ n)=>match ti.sh with
  |.str=>pvc (.val (.int .u8 (BZ s n))) (0<=n/\n<s.size)
  |_=>none
 |_,_=>none
def WZ(ht:Au P t=some ti){d i:D}(C:SV ti d i=some (e,c))(hc:c)(hr:AA w0 M0 I0 fr I mu h w){x:Value}(M:Rep w I mu d v)(N:Rep w I mu i x)(id:Nat):
  AT P (λw=>(Instr.index t v x).run P w) id e.d e.up w0 M0 I0 fr I mu h w:=by
 unfold SV at C;split at C
 ·rename_i s k n;split at C
  ·rename_i O;obtain⟨rfl,rfl⟩:=C;have U:=N.val_inv;have V:=M.val_inv;subst U V;obtain⟨h0,h1⟩:=hc;have hlt:n.toNat<s.size:=by omega
   refine AT.same hr _ ?_ (.val _ (strAt_ok _ _));have:s[n.toNat]? =some s[n.toNat]:=by simp_all
   have hb:s[n.toNat]=s.data.toList.getD n.toNat 0:=by
    have Y:n.toNat<s.data.size:=hlt;simp[A29,Array.getElem?_toList,A31 Y,A2P];rfl
   simp[Instr.index,asIntOf,A2o,A2u,Result.andThen,run_underlying (LM ht O),h0,if_true,this,BZ,hb]
  ·cases C
 ·cases C
end
section
variable{P:Program}{w0:World}{M0:Nat->Prop}{I0:Gh}{fr I:Nat->Prop}{mu:Nat->Option Value}{h:Nat->Option Blk}{w:World}
def nilD:D->Option Bool
 |.val (.pointer none)=>some true
 |.ptr _ _=>some false
 |.ref _ _ _ _=>some false
 |_=>none
def QY{d:D}{b:Bool}(C:nilD d=some b)(M:Rep w I mu d v):∃a:Option Addr,v=.pointer a/\a.isNone=b:=by
 unfold nilD at C;split at C
 ·simp at C;subst C;exact⟨none,M.val_inv,rfl⟩
 ·simp at C;subst C;cases M;simp_all
 ·simp at C;subst C;cases M;simp_all
 ·cases C
def binE(P:Program)(op:BinOp)(T:TypeId)(x y:D):Res:=
 match x,y with
 |.val (.int k a),.val (.int k' b)=>match Mn op k a k' b with
  |some (r,c)=>pvc (.val r) c
  |none=>none
 |.val (.string a),.val (.string b)=>match LN op a b with
  |some (r,c)=>pvc (.val r) c
  |none=>none
 |.val (.bool a),.val (.bool b)=>match Au P T with
  |some ti=>match ti.sh,op with
   |.bool,.eql=>pv (.val (.bool (a==b)))
   |.bool,.neq=>pv (.val (.bool (!(a==b))))
   |_,_=>none
  |none=>none
 |x,y=>match nilD x,nilD y,Au P T with
  |some a,some b,some ti=>match ti.sh,op with
   |.ptr _,.eql=>bif a then pv (.val (.bool b)) else bif b then pv (.val (.bool false)) else none
   |.ptr _,.neq=>bif a then pv (.val (.bool (!b))) else bif b then pv (.val (.bool true)) else none
   |_,_=>none
  |_,_,_=>none
def Cg(op:BinOp)(t:TypeId)(x y:Operand)(a b:Value)(h1:∀z,a≠ .agg z)(h2:a≠ .nilIface):(eqGuard op t x y a b).run P w=.ok () w:=by
 simp_all [eqGuard]
def Nj(d:Nat){e:TypeId}(C:P.underlying T=some (.pointer e))(p q:Option Addr)(M:p.isNone=true\/q.isNone=true):(Op.equalIn (d+1) T (.pointer p) (.pointer q)).run P w=.ok (p.isNone&&q.isNone) w:=by
 cases p<;>cases q<;>simp at M<;>simp [Op.equalIn,run_underlying C]
theorem Kg{e:TypeId}(C:P.underlying T=some (.pointer e))(p q:Option Addr)(M:p.isNone=true\/q.isNone=true):(Op.equal T (.pointer p) (.pointer q)).run P w=.ok (p.isNone&&q.isNone) w:=Nj 9999 C p q M
def runs_bin{U V:D}(C:binE P op T U V=some (e,c))(hc:c)(hr:AA w0 M0 I0 fr I mu h w){Y Z:Operand}{x:Value}(N:Rep w I mu U x)(O:Rep w I mu V y)(id:Nat):
  AT P (λw=>(do eqGuard op T Y Z x y;binOp op T x y:Sem Value).run P w) id e.d e.up w0 M0 I0 fr I mu h w:=by
 unfold binE at C;split at C
 ·rename_i k a k' b;split at C
  ·rename_i r c' hb;obtain⟨rfl,rfl⟩:=C;have:=N.val_inv;have:=O.val_inv;subst x y;exact AT.same hr r (by simp[Cg,X7 hb hc]) (.val _ (A15 hb hc N.val_ok))
  ·cases C
 ·rename_i a b;split at C
  ·rename_i r c' hb;obtain⟨rfl,rfl⟩:=C;have:=N.val_inv;have:=O.val_inv;subst x y;exact AT.same hr r (by simp[Cg,X6 hb hc]) (.val _ (A04 hb hc))
  ·cases C
 ·rename_i a b;have:=N.val_inv;have:=O.val_inv;subst x y;split at C
  ·rename_i ti ht;split at C
   ·rename_i M;obtain⟨rfl,rfl⟩:=C;exact AT.same hr _ (by simp[Cg,run_eql_bool w T a b (Yx ht M)]) (.val _ trivial)
   ·rename_i M;obtain⟨rfl,rfl⟩:=C;exact AT.same hr _ (by simp[Cg,run_neq_bool w T a b (Yx ht M)]) (.val _ trivial)
   ·cases C
  ·cases C
 ·split at C
  ·rename_i a b ti ha hb ht;obtain⟨p,rfl,hp⟩:=QY ha N;obtain⟨q,rfl,hq⟩:=QY hb O;split at C
   ·rename_i e' M;have hu:=ti_ptr ht M;have run:(p.isNone=true\/q.isNone=true)->(binOp .eql T (.pointer p) (.pointer q)).run P w=.ok (.bool (p.isNone&&q.isNone)) w:=by
     grind [binOp,Sem.run_bind,Kg,Result.andThen,Sem.run_pure]
    cases a<;>cases b<;>simp at C<;>obtain ⟨rfl,rfl⟩:=C<;>
     exact AT.same hr _ (by simp[Cg];simp_all) (.val _ trivial)
   ·rename_i e' M;have hu:=ti_ptr ht M;have run:(p.isNone=true\/q.isNone=true)->(binOp .neq T (.pointer p) (.pointer q)).run P w=.ok (.bool (!(p.isNone&&q.isNone))) w:=by
     grind [binOp,Sem.run_bind,Kg,Result.andThen,Sem.run_pure]
    cases a<;>cases b<;>simp at C<;>obtain ⟨rfl,rfl⟩:=C<;>
     exact AT.same hr _ (by simp[Cg];simp_all) (.val _ trivial)
   ·cases C
  ·cases C
def YO(P:Program)(op:BinOp)(T:TypeId):D->Res
 |.slice es _=>match Au P T with
  |some ti=>match ti.sh,op with
   |.slice _,.eql=>pv (.abool es.length true)
   |.slice _,.neq=>pv (.abool es.length false)
   |_,_=>none
  |none=>none
 |_=>none
def HV(d:Nat){k e:TypeId}(C:P.underlying T=some (.map k e))(m:Option Nat):(Op.equalIn (d+1) T (.map m) (.map none)).run P w=.ok m.isNone w:=by
 unfold Op.equalIn;simp[A2o,run_underlying C,Result.andThen];cases m<;>rfl
def nilMD:D->Option Bool
 |.mref _=>some false
 |.val (.map none)=>some true
 |_=>none
def YP(P:Program)(op:BinOp)(T:TypeId)(d:D):Res:=
 match nilMD d,Au P T with
 |some b,some ti=>match ti.sh,op with
  |.map _ _,.eql=>pv (.val (.bool b))
  |.map _ _,.neq=>pv (.val (.bool (!b)))
  |_,_=>none
 |_,_=>none
def A0j(C:YP P op T N=some (e,c))(hr:AA w0 M0 I0 fr I mu h w){U V:Operand}{x:Value}(O:Rep w I mu N x)(id:Nat):
  AT P (λw=>(do eqGuard op T U V x (.map none);binOp op T x (.map none):Sem Value).run P w) id e.d e.up w0 M0 I0 fr I mu h w:=by
 unfold YP at C;split at C
 ·rename_i b ti hb ht;have key:∃m:Option Nat,x=.map m/\m.isNone=b:=by
   unfold nilMD at hb;split at hb
   ·simp at hb;subst hb;cases O with|mref _ k hk=>simp_all
   ·simp at hb;subst hb;exact⟨none,O.val_inv,rfl⟩
   ·cases hb
  obtain⟨m,rfl,rfl⟩:=key;have run:∀ {k e':TypeId},P.underlying T=some (.map k e')->(Op.equal T (.map m) (.map none)).run P w=.ok m.isNone w:=by
   intro k e' Y;exact HV 9999 Y m
  split at C
  ·rename_i k e' M;obtain⟨rfl,rfl⟩:=C;exact AT.same hr (.bool m.isNone) (by simp[Cg];simp[binOp,A2o,run (J8 ht M),A2u]) (.val _ trivial)
  ·rename_i k e' M;obtain⟨rfl,rfl⟩:=C;exact AT.same hr (.bool (!m.isNone)) (by simp[Cg];simp only[binOp,A2o,run (J8 ht M),A2u];simp) (.val _ trivial)
  ·cases C
 ·cases C
def binX(P:Program)(op:BinOp)(T:TypeId)(dx:D)(y:Operand)(dy:D):Res:=
 match y with
 |.const (.slice none 0 0)=>YO P op T dx
 |.const (.map none)=>YP P op T dx
 |_=>binE P op T dx dy
def A0i{M:D}(C:YO P op T M=some (e,c))(hr:AA w0 M0 I0 fr I mu h w){N O:Operand}{x:Value}(U:Rep w I mu M x)(id:Nat):
  AT P (λw=>(do eqGuard op T N O x (.slice none 0 0);binOp op T x (.slice none 0 0):Sem Value).run P w) id e.d e.up w0 M0 I0 fr I mu h w:=by
 unfold YO at C;split at C
 ·rename_i es t;split at C
  ·rename_i ti ht;have key:∃A n cap,x=.slice A n cap/\(A.isNone=true->es.length=0):=by
    cases U with
    |slice _ _ A k o sz cap u Y=>
     grind
   obtain⟨A,n,cap,rfl,hn⟩:=key;split at C
   ·rename_i e' V;obtain⟨rfl,rfl⟩:=C;exact AT.same hr (.bool A.isNone) (by simp_all [Cg,Lib.run_eql_slice_nil,U4]) (.abool _ _ _ hn)
   ·rename_i e' V;obtain⟨rfl,rfl⟩:=C;exact AT.same hr (.bool (!A.isNone)) (by simp_all [run_neq_slice_nil_any,U4,Cg]) (.abool _ _ _ λh=>hn (by simp_all))
   ·cases C
  ·cases C
 ·cases C
def unE(op:UnOp):D->Res
 |.val (.bool b)=>match op with
  |.not=>pv (.val (.bool (!b)))
  |_=>none
 |.val (.int k n)=>match op with
  |.neg=>pv (.val (.int k (k.wrap (0-n))))
  |.xor=>pv (.val (.int k (bits .xor k (if k.signed then-1 else k.max) n)))
  |_=>none
 |.abool n pos=>match op with
  |.not=>pv (.abool n (!pos))
  |_=>none
 |_=>none
def runs_un{op:UnOp}{d:D}(C:unE op d=some (e,c))(hr:AA w0 M0 I0 fr I mu h w)(M:Rep w I mu d v)(id:Nat):AT P (λw=>(Op.unary op v).run P w) id e.d e.up w0 M0 I0 fr I mu h w:=by
 unfold unE at C;split at C
 ·have:=M.val_inv;subst v;split at C
  ·simp only[pv,A2j,A2B] at C;obtain⟨rfl,rfl⟩:=C;exact AT.same hr _ (by simp[Op.unary]) (.val _ trivial)
  ·cases C
 ·have:=M.val_inv;subst v;split at C
  ·simp at C;obtain⟨rfl,rfl⟩:=C;exact AT.same hr _ (by simp[Op.unary,Op.intArith]) (.val _ (Gc _ _))
  ·simp only[pv,A2j,A2B] at C;obtain⟨rfl,rfl⟩:=C;exact AT.same hr _ (by simp[Op.unary,intBits_xor]) (.val _ (by unfold bits;exact Gc _ _))
  ·cases C
 ·cases M with
  |abool _ _ b hb=>
  split at C
  ·simp only[pv,A2j,A2B] at C;obtain⟨rfl,rfl⟩:=C;exact AT.same hr (.bool (!b)) (by simp[Op.unary]) (.abool _ _ _ λh=>hb (by simp_all))
  ·cases C
 ·cases C
def Ze(ts td:TI):D->Res
 |.val (.int k n)=>match td.sh with
  |.int k'=>pv (.val (.int k' (k'.wrap n)))
  |_=>none
 |.val (.string s)=>match td.sh with
  |.str=>pv (.val (.string s))
  |_=>none
 |_=>none
def A0o{src dst:TypeId}{ts:TI}(hs:Au P src=some ts)(ht:Au P dst=some M){d:D}(C:Ze ts M d=some (e,c))(hr:AA w0 M0 I0 fr I mu h w)(N:Rep w I mu d v)(id:Nat):
  AT P (λw=>(convert src dst v).run P w) id e.d e.up w0 M0 I0 fr I mu h w:=by
 obtain⟨i,ds,z,_,U,_⟩:=Bw hs;unfold Ze at C;split at C
 ·have:=N.val_inv;subst v;split at C
  ·rename_i O;obtain⟨rfl,rfl⟩:=C;exact AT.same hr _ (by simp[convert,run_underlying U,run_underlying (S8 ht O),Conv.intToInt]) (.val _ (Gc _ _))
  ·cases C
 ·have:=N.val_inv;subst v;split at C
  ·rename_i O;obtain⟨rfl,rfl⟩:=C;simp_all [AT.same,convert,run_underlying,LM]
  ·cases C
 ·cases C
def Lt(i:Nat):D->Res
 |.tup cs=>pvc (nd cs i) (i<cs.length)
 |_=>none
def Si{d:D}(C:Lt i d=some (e,c))(hc:c)(hr:AA w0 M0 I0 fr I mu h w)(M:Rep w I mu d v)(id:Nat):AT P (λw=>(Instr.extract v i).run P w) id e.d e.up w0 M0 I0 fr I mu h w:=by
 cases d with
 |tup cs=>
  obtain⟨rfl,rfl⟩:=C;obtain⟨us,rfl,hl,N⟩:=M.tup_inv;simp_all [AT.same,nv,Instr.extract]
 |_=>simp [Lt] at C
def lenE(hp:Nat->Option Blk)(ti:TI):D->Res
 |.slice es _=>match ti.sh with
  |.slice _=>pv (.val (.int .i64 es.length))
  |_=>none
 |.sref _ _ len _ _=>match ti.sh with
  |.slice _=>pvc (.val (.int .i64 len)) (len<=9223372036854775807)
  |_=>none
 |.gref _ len=>match ti.sh with
  |.slice _=>pvc (.val (.int .i64 len)) (len<=9223372036854775807)
  |_=>none
 |.gsub _ _ len _=>match ti.sh with
  |.slice _=>pvc (.val (.int .i64 len)) (len<=9223372036854775807)
  |_=>none
 |.val (.string s)=>match ti.sh with
  |.str=>pv (.val (.int .i64 s.size))
  |_=>none
 |.mref b=>match ti.sh,hp b with
  |.map _ _,some (.map es _)=>some (⟨.val (.int .i64 es.length),[],[b]⟩,es.length<=9223372036854775807)
  |_,_=>none
 |.val (.map none)=>match ti.sh with
  |.map _ _=>pv (.val (.int .i64 0))
  |_=>none
 |_=>none
theorem runs_len(ht:Au P t=some ti){d:D}(C:lenE hp ti d=some (e,c))(hc:c)(hr:AA w0 M0 I0 fr I mu h w)(N:Rep w I mu d v)(hb:∀b ∈ e.rd,h b=hp b)(id:Nat):
  AT P (λw=>(Builtin.len_ #[t] ty #[v]).run P w) id e.d e.up w0 M0 I0 fr I mu h w:=by
 unfold lenE at C;split at C
 ·split at C
  ·rename_i M;obtain⟨rfl,rfl⟩:=C;cases N with
   |slice es _ A k o sz cap u hA a0 _ a1=>exact AT.same hr _ (by simp[Builtin.len_,run_underlying (AC ht M),goInt]) (.val _ (by grind [okP,DJ,DK,maxLen]))
  ·cases C
 ·split at C
  ·rename_i M;obtain⟨rfl,rfl⟩:=C;cases N with
   |sref _ _ _ _ _ k O=>exact AT.same hr _ (by simp[Builtin.len_,run_underlying (AC ht M),goInt]) (.val _ (by simp[okP,DJ,DK];omega))
  ·cases C
 ·split at C
  ·rename_i M;obtain⟨rfl,rfl⟩:=C;cases N with
   |gref _ _ A cap O=>exact AT.same hr _ (by simp[Builtin.len_,run_underlying (AC ht M),goInt]) (.val _ (by simp[okP,DJ,DK];omega))
  ·cases C
 ·split at C
  ·rename_i M;obtain⟨rfl,rfl⟩:=C;cases N with
   |gsub _ _ _ _ A B n cap O a2 hB=>exact AT.same hr _ (by simp[Builtin.len_,run_underlying (AC ht M),goInt]) (.val _ (by simp[okP,DJ,DK];omega))
  ·cases C
 ·split at C
  ·rename_i M;obtain⟨rfl,rfl⟩:=C;have U:=N.val_ok;have:=N.val_inv;subst v;exact AT.same hr _ (by simp[Builtin.len_,run_underlying (LM ht M),goInt]) (.val _ (by simp[okP,DJ,DK] at U|-;omega))
  ·cases C
 ·rename_i b;split at C
  ·rename_i k e' es ck M V;obtain⟨rfl,rfl⟩:=C;have Y:=(hb b (by simp)).trans V;obtain⟨k,l,h1,h2,Z,h4,h5⟩:=hr.blk b _ Y;cases N with
   |mref _ k' O=>
    rw[h1] at O;simp at O;subst O;have hl:l.length=es.length:=by have:=congrArg List.length Z;grind
    exact AT.same hr _ (by
     simp[Builtin.len_,run_underlying (J8 ht M),goInt,getObj,Sem.run,h2,hl]) (.val _ (by simp[okP,DJ,DK];omega))
  ·cases C
 ·split at C
  ·rename_i M;obtain⟨rfl,rfl⟩:=C;have:=N.val_inv;subst v;exact AT.same hr _ (by simp[Builtin.len_,run_underlying (J8 ht M),goInt]) (.val _ (by simp[okP,DJ,DK]))
  ·cases C
 ·cases C
def minE:D->D->Res
 |.val (.int k x),.val (.int k' y)=>if k'=k then pv (.val (.int k (if y<x then y else x))) else none
 |_,_=>none
def maxE:D->D->Res
 |.val (.int k x),.val (.int k' y)=>if k'=k then pv (.val (.int k (if y>x then y else x))) else none
 |_,_=>none
theorem runs_min{M:D}(C:minE M N=some (e,c))(hr:AA w0 M0 I0 fr I mu h w){x:Value}(O:Rep w I mu M x)(U:Rep w I mu N y)(id:Nat):AT P (λw=>(Builtin.min_ ts t #[x,y]).run P w) id e.d e.up w0 M0 I0 fr I mu h w:=by
 unfold minE at C;split at C
 ·split at C
  case isFalse=>cases C
  rename_i V;obtain⟨rfl,rfl⟩:=C;have:=O.val_inv;have:=U.val_inv;subst x y;exact AT.same hr _ (run_min_int2 w ts t _ _ _ _) (by grind)
 ·cases C
theorem runs_max{M:D}(C:maxE M N=some (e,c))(hr:AA w0 M0 I0 fr I mu h w){x:Value}(O:Rep w I mu M x)(U:Rep w I mu N y)(id:Nat):AT P (λw=>(Builtin.max_ ts t #[x,y]).run P w) id e.d e.up w0 M0 I0 fr I mu h w:=by
 unfold maxE at C;split at C
 ·split at C
  case isFalse=>cases C
  rename_i V;obtain⟨rfl,rfl⟩:=C;have:=O.val_inv;have:=U.val_inv;subst x y;exact AT.same hr _ (run_max_int2 w ts t _ _ _ _) (by grind)
 ·cases C
end
section
variable{P:Program}{w0:World}{M0:Nat->Prop}{I0:Gh}{fr I:Nat->Prop}{mu:Nat->Option Value}{h:Nat->Option Blk}{w:World}
def bnd:Option D->Int->Option Int
 |none,d=>some d
 |some (.val (.int _ n)),_=>some n
 |some _,_=>none
def G9(w:World)(I:Nat->Prop)(mu:Nat->Option Value):Option D->Option Value->Prop
 |none,none=>True
 |some x,some y=>Rep w I mu x y
 |_,_=>False
def LR(ti:TI)(te:TI)(x:D)(lo hi:Option D):Res:=
 match x with
 |.val (.string s)=>match ti.sh with
  |.str=>match bnd lo 0,bnd hi s.size with
   |some l,some r=>pvc (.val (.string (s.extract l.toNat r.toNat))) (0<=l/\l<=r/\r<=s.size)
   |_,_=>none
  |_=>none
 |.slice es t=>match ti.sh with
  |.slice _=>match bnd lo 0,bnd hi es.length with
   |some l,some r=>pvc (.slice ((es.drop l.toNat).take (r.toNat-l.toNat)) (t&&hi.isNone)) (0<=l/\l<=r/\r<=es.length/\∀x ∈ es,x.length=te.sz)
   |_,_=>none
  |_=>none
 |.sref b i len cap sz=>match ti.sh with
  |.slice _=>match bnd lo 0,bnd hi len with
   |some l,some r=>pvc (bif l.toNat==0 ||decide (l.toNat<cap) then .sref b (i+l.toNat) (r.toNat-l.toNat) (cap-l.toNat) sz else .slice [] true) (0<=l/\l<=r/\r<=cap/\sz=te.sz/\len<=cap)
   |_,_=>none
  |_=>none
 |_=>none
def DB{o:Option D}{v:Option Value}{d n:Int}(hb:bnd o d=some n)(C:G9 w I mu o v):
  (o=none/\v=none/\n=d)\/(∃k,v=some (.int k n)/\o.isNone=false):=by
 cases o with
 |none=>cases v with
  |none=>simp [bnd,A2j] at hb;simp_all
  |some y=>exact C.elim
 |some x=>cases v with
  |none=>exact C.elim
  |some y=>
   have hr:Rep w I mu x y:=C;cases x<;>simp [bnd] at hb<;>try (cases hb;done)
   rename_i z;cases z<;>simp at hb;subst hb;exact .inr ⟨_,by rw[hr.val_inv],rfl⟩
def Hk(O:P.underlying t=some (.slice e'))(U:Au P e'=some M)(A:Option Addr)(len cap:Nat)(lo hi:Option Value)(l r:Int)(h0:0<=l)(h1:l<=r)(h2:r<=cap)
  (hl:(lo=none/\l=0)\/∃k,lo=some (.int k l)) (hr:(hi=none/\r=len)\/∃k,hi=some (.int k r)) (Y:len<=cap):
  (Instr.sliceAt t (.slice A len cap) lo hi none).run P w=.ok (.slice (if cap=l.toNat then A else A.map (·.add (l.toNat*M.sz))) (r.toNat-l.toNat) (cap-l.toNat)) w:=by
 have V:P.elem t=e':=by simp[Program.elem,O]
 have C:P.underlying t=some (.slice (P.elem t)):=by simp_all
 rw[run_sliceAt_slice w t _ _ _ _ C];have hs:(sizeOf (P.elem t)).run P w=.ok M.sz w:=by rw[V];exact Bf U w
 rcases hl with⟨rfl,rfl⟩|⟨k,rfl⟩<;>rcases hr with⟨rfl,rfl⟩|⟨N,rfl⟩
 ·rw[run_slice_all w t A len cap C,hs];simp[sliced]
 ·rw[run_slice_h w t A len cap C N r h1 h2,hs];simp[sliced]
 ·rw[run_slice_l w t A len cap C k l h0 h1,hs];simp[sliced]
 ·rw[run_slice_lh w t A len cap C k N l r h0 h1 h2,hs];simp[sliced]
def KC{Y:TI}(ht:Au P t=some ti)(N:(∃s,ti.sh=s/\s=.str)\/(ti.sh=.slice e'/\Au P e'=some Y)){x:D}{lo hi:Option D}(C:LR ti Y x lo hi=some (e,c))(hc:c)(hr:AA w0 M0 I0 fr I mu h w){Z vh:Option Value}
  (hv:Rep w I mu x v) (hl:G9 w I mu lo Z) (hh:G9 w I mu hi vh) (id:Nat):
  AT P (λw=>(Instr.sliceAt t v Z vh none).run P w) id e.d e.up w0 M0 I0 fr I mu h w:=by
 unfold LR at C;split at C
 ·rename_i s;split at C
  case h_2=>cases C
  rename_i a3;split at C
  ·rename_i l r U O;obtain⟨rfl,rfl⟩:=C;obtain⟨h0,h1,h2⟩:=hc;have ah:=hv.val_ok;have a4:=hv.val_inv;subst a4;have M:=LM ht a3;refine AT.same hr (.string (s.extract l.toNat r.toNat)) ?_ (.val _ (by grind [okP,ByteArray.size_extract]));rw[run_sliceAt_string w t _ _ _ _ M];rcases DB U hl with⟨rfl,rfl,rfl⟩|⟨k,rfl,a1⟩<;>rcases DB O hh with⟨rfl,rfl,rfl⟩|⟨k',rfl,ai⟩
   ·have:=run_slice_string_all w t s M;simp_all
   ·exact run_slice_string_h w t s M k' r h1 h2
   ·grind [run_slice_string_l]
   ·have eh:(r.toNat:Int)=r:=by omega
    simp[Instr.slice,run_underlying M,Instr.sliceBounds,run_sliceBound,h0,h1,h2,(by omega:0<=r),eh]
  ·cases C
 ·rename_i es tg;split at C
  case h_2=>cases C
  rcases N with⟨s,V,a5⟩|⟨V,N⟩
  ·simp_all
  have M:=AC ht V;split at C
  ·rename_i l r U O;obtain⟨rfl,rfl⟩:=C;obtain⟨h0,h1,h2,a6⟩:=hc;cases hv with
   |slice _ _ A k o sz cap u hA a7 a8 hm aj a9 aa=>
    have run:=Hk (w:=w) M N A es.length cap Z vh l r h0 h1 (by omega) (by
      rcases DB U hl with⟨rfl,rfl,rfl⟩|⟨k,rfl,_⟩
      ·exact .inl ⟨rfl,rfl⟩
      ·exact .inr ⟨k,rfl⟩) (by
      rcases DB O hh with⟨rfl,rfl,rfl⟩|⟨k,rfl,_⟩
      ·exact .inl ⟨rfl,rfl⟩
      ·exact .inr ⟨k,rfl⟩) a7
    refine AT.same hr _ run ?_;have a0:((es.drop l.toNat).take (r.toNat-l.toNat)).length=r.toNat-l.toNat:=by simp;omega
    have ab:∀i,i<r.toNat-l.toNat->nr ((es.drop l.toNat).take (r.toNat-l.toNat)) i=nr es (l.toNat+i):=by
     grind [nr]
    have key:Rep w I mu (.slice ((es.drop l.toNat).take (r.toNat-l.toNat)) (tg&&hi.isNone)) (.slice (if cap=l.toNat then A else A.map (·.add (l.toNat*Y.sz))) ((es.drop l.toNat).take (r.toNat-l.toNat)).length (cap-l.toNat)):=?_
    ·simp_all
    refine .slice _ _ _ k (o+l.toNat*sz) sz (cap-l.toNat) (λi j=>u (l.toNat+i) j) (λac=>?_) (by omega) (λa2=>?_) (by omega) (λi hi=>?_) (λi j hi hj=>?_) (λi j hi hj=>?_)
    ·rw[a0] at ac;have ak:sz=Y.sz:=by grind [nr]
     grind [Ca]
    ·rw[a0];simp at a2;have:=a8 a2.1;rcases DB O hh with⟨_,_,rfl⟩|⟨k,_,a1⟩
     ·omega
     ·rw[a2.2] at a1;cases a1
    ·grind
    ·rw[a0] at hi;have:=a9 (l.toNat+i) j (by omega) hj;rw[<-this];congr 2;rw[A3p];omega
    ·rw[a0] at hi;rw[ab i hi];exact aa _ j (by omega) hj
  ·cases C
 ·rename_i b i len cap sz;split at C
  case h_2=>cases C
  rename_i al a3;rcases N with⟨s,V,a5⟩|⟨V,N⟩
  ·simp_all
  have M:=AC ht V;split at C
  ·rename_i l r U O;simp only[pvc,A2j,A2B] at C;obtain⟨rfl,rfl⟩:=C;obtain⟨h0,h1,h2,a6,ad⟩:=hc;cases hv with
   |sref _ _ _ _ _ k hk=>
    have run:=Hk (w:=w) M N (some ⟨k,i*sz,none⟩) len cap Z vh l r h0 h1 h2 (by
      rcases DB U hl with⟨rfl,rfl,rfl⟩|⟨k,rfl,_⟩
      ·exact .inl ⟨rfl,rfl⟩
      ·exact .inr ⟨k,rfl⟩) (by
      rcases DB O hh with⟨rfl,rfl,rfl⟩|⟨k,rfl,_⟩
      ·exact .inl ⟨rfl,rfl⟩
      ·exact .inr ⟨k,rfl⟩) ad
    refine AT.same hr _ run ?_;cases ae:(l.toNat==0 ||decide (l.toNat<cap)) with
    |false=>
     simp at ae;simp;have e1:r.toNat-l.toNat=0:=by omega
     have e2:cap-l.toNat=0:=by omega
     rw[e1,e2];exact .slice [] true _ 0 0 0 0 (λ_ _=>.nilFunc) (by simp_all) (A2e _) (λ_=>rfl) (A2w _) (by simp_all) (by omega) (by omega)
    |true=>
    have h3:l=0\/l<cap:=by
     grind
    simp;have:=Rep.sref (w:=w) (I:=I) b (i+l.toNat) (r.toNat-l.toNat) (cap-l.toNat) sz k hk;grind [Ca]
  ·cases C
 ·cases C
def B3(w:World)(I:Nat->Prop)(mu:Nat->Option Value)(es:LLa)(sz:Nat)(us:List Value):Prop:=
 us.length=es.length*sz/\(∀i,i<es.length->(nr es i).length=sz)/\∀i j,i<es.length->j<sz->Rep w I mu (nd (nr es i) j) (nv us (i*sz+j))
def B3.mono{w w':World}{I I':Nat->Prop}{mu mu':Nat->Option Value}{es:LLa}{sz:Nat}{us:List Value}(h:B3 w I mu es sz us)(e:Ext I mu w I' mu' w'):B3 w' I' mu' es sz us:=
 ⟨h.1,h.2.1,λi j hi C=>(h.2.2 i j hi C).ext e⟩
def B3.append{es fs:LLa}{sz:Nat}{us:List Value}(h:B3 w I mu es sz us)(k:B3 w I mu fs sz vs):B3 w I mu (es++fs) sz (us++vs):=by
 refine⟨by rw[A2a,h.1,k.1,A2a,A3p],λi hi=>?_,λi j hi N=>?_⟩
 ·rw[A2a] at hi;by_cases g:i<es.length
  ·have:nr (es++fs) i=nr es i:=by grind [nr]
   rw[this];exact h.2.1 i g
  ·have:nr (es++fs) i=nr fs (i-es.length):=by grind [nr]
   rw[this];exact k.2.1 _ (by omega)
 ·rw[A2a] at hi;by_cases g:i<es.length
  ·have C:nr (es++fs) i=nr es i:=by grind [nr]
   have hb:i*sz+j<us.length:=by
    rw[h.1];have:i*sz+sz<=es.length*sz:=by rw[<-A2M];exact A2n _ g
    omega
   have M:nv (us++vs) (i*sz+j)=nv us (i*sz+j):=by grind [nv]
   rw[C,M];exact h.2.2 i j g N
  ·have C:nr (es++fs) i=nr fs (i-es.length):=by grind [nr]
   have O:i*sz+j-us.length=(i-es.length)*sz+j:=by
    rw[h.1,Nat.sub_mul];have:es.length*sz<=i*sz:=A2n _ (Nat.le_of_not_lt g);omega
   have hb:us.length<=i*sz+j:=by
    rw[h.1];have:es.length*sz<=i*sz:=A2n _ (Nat.le_of_not_lt g);omega
   have M:nv (us++vs) (i*sz+j)=nv vs ((i-es.length)*sz+j):=by grind [nv]
   rw[C,M];exact k.2.2 _ j (by omega) N
def B3.set{es:LLa}{sz:Nat}{us vs:List Value}{M:List D}(h:B3 w I mu es sz us){i:Nat}(hi:i<es.length)(hl:vs.length=M.length)(V:M.length=sz)(hr:∀j,j<M.length->Rep w I mu (nd M j) (nv vs j)):
  B3 w I mu (es.set i M) sz (AI us (i*sz) vs):=by
 have Y:i*sz+sz<=es.length*sz:=by rw[<-A2M];exact A2n _ hi
 have h1:=h.1;refine⟨by rw[BC (by omega),A3l];exact h1,λj C=>?_,λj l C N=>?_⟩
 ·rw[A3l] at C;rw[M8 hi];split
  ·exact V
  ·exact h.2.1 j C
 ·rw[A3l] at C;rw[M8 hi,Hw (by omega)];by_cases O:i=j
  ·grind
  ·rw[if_neg O];have Z:¬(i*sz<=j*sz+l/\j*sz+l<i*sz+vs.length):=by
    rcases Nat.lt_or_gt_of_ne O with h6|h6
    ·have:i*sz+sz<=j*sz:=by rw[<-A2M];exact A2n _ h6
     omega
    ·have:j*sz+sz<=i*sz:=by rw[<-A2M];exact A2n _ h6
     omega
   by_cases U:j*sz+l<i*sz
   ·rw[if_pos U];exact h.2.2 j l C N
   ·rw[if_neg U,if_neg (by omega)];exact h.2.2 j l C N
def V2{es:LLa}{sz:Nat}{us:List Value}(C:B3 w I mu es sz us)(hr:AA w0 M0 I0 fr I mu h w){id:Nat}(M:fr id):
  ∃mu',Ext I mu w I mu' (w.alloc (.cells us.toArray T))/\AA w0 M0 I0 (λb=>fr b/\b≠id) I mu' (λb=>AZ b (h b) [(id,some (.rows es sz))]) (w.alloc (.cells us.toArray T))/\mu' id=some (.pointer (some ⟨w.heap.size,0,none⟩)):=by
 have N:=hr.fresh id M;have:=hr.new M (.cells us.toArray T) (.pointer (some ⟨w.heap.size,0,none⟩)) rfl (.rows es sz) ⟨w.heap.size,T,us,by simp[AM],heap_alloc_new w _,C.1,C.2.1,λi j hi O=>
   (C.2.2 i j hi O).mono (λk U=>Bt w _ (hr.lt k U)) (λ_ h=>h) (BN N)⟩
 exact⟨_,this.2,this.1,by simp[AM]⟩
def YT(id:Nat)(te:TI):D->D->Res
 |.val (.int _ l),.val (.int _ c)=>some (⟨.sref id 0 l.toNat c.toNat te.sz,[(id,some (.rows (List.replicate c.toNat (te.zero.map ofV)) te.sz))],[]⟩,0<=l/\l<=c/\(te.bytes:Int)*c<=281474976710656/\c<=9223372036854775807/\te.zero.length=te.sz)
 |_,_=>none
def A0k(ht:Au P t=some ti)(hs:ti.sh=.slice e')(U:Au P e'=some C){id:Nat}{dl O:D}(M:YT id C dl O=some (e,c))(hc:c)(hr:AA w0 M0 I0 fr I mu h w)(V:fr id){N vc:Value}(hl:Rep w I mu dl N)(Y:Rep w I mu O vc):
  AT P (λw=>(Instr.makeSlice t N vc).run P w) id e.d e.up w0 M0 I0 fr I mu h w:=by
 unfold YT at M;split at M
 ·rename_i Z l kc c;obtain⟨rfl,rfl⟩:=M;obtain⟨h0,h1,h2,h3,h4⟩:=hc;have:=hl.val_inv;have:=Y.val_inv;subst N vc;obtain⟨i,d,z,g1,g2,g3,g4,g5,g6,g7,g8,g9⟩:=Bw U;have hu:=AC ht hs;have run:=run_make w t e' i z hu g1 g3 Z kc l c h0 h1 (by simp_all) h3;have a0:z.cells=C.zero.toArray:=by rw[<-g6]
  have a1:madeCells z.cells (c.toNat*i.size)=((List.range (c.toNat*C.sz)).map λn=>nv C.zero (n%C.sz)).toArray:=by
   rw[g4,a0];apply Array.ext';simp only[madeCells,Array.toList_map,Array.toList_range];refine A3s λn hn=>?_;have a2:0<C.sz:=by grind
   have hlt:n%C.sz<C.zero.length:=by rw[h4];exact Nat.mod_lt _ a2
   grind [nv]
  rw[a1] at run;have a3:B3 w I mu (List.replicate c.toNat (C.zero.map ofV)) C.sz ((List.range (c.toNat*C.sz)).map λn=>nv C.zero (n%C.sz)):=by
   refine⟨by simp,λi hi=>?_,λi j hi hj=>?_⟩
   ·grind [nr,ofV]
   ·simp only[List.length_replicate] at hi;have e1:nr (List.replicate c.toNat (C.zero.map ofV)) i=C.zero.map ofV:=by simp[nr,A29,hi]
    have hlt:i*C.sz+j<c.toNat*C.sz:=by
     have:i*C.sz+C.sz<=c.toNat*C.sz:=by rw[<-A2M];exact A2n _ hi
     omega
    have e2:nv ((List.range (c.toNat*C.sz)).map λn=>nv C.zero (n%C.sz)) (i*C.sz+j)=nv C.zero j:=by
     have e3:(i*C.sz+j)%C.sz=j:=by rw[Nat.add_comm,Nat.add_mul_mod_self_right,Nat.mod_eq_of_lt hj]
     grind [nv]
    grind [nd,ofV,nv,Ht]
  obtain⟨mu',x1,x2,x3⟩:=V2 a3 hr V;exact⟨_,_,I,mu',run,x1,x2,by simpa using Rep.sref (w:=w.alloc (.cells ((List.range (c.toNat*C.sz)).map λn=>nv C.zero (n%C.sz)).toArray e')) id 0 l.toNat c.toNat C.sz _ x3⟩
 ·cases M
end
section
variable{P:Program}{w0:World}{M0:Nat->Prop}{I0:Gh}{fr I:Nat->Prop}{mu:Nat->Option Value}{h:Nat->Option Blk}{w:World}
def LF(sz:Nat):LLa->List (Nat×D)->Option (LLa×Prop)
 |es,[]=>some (es,True)
 |es,(i,d)::r=>match HL d with
  |some ns=>match LF sz (es.set i ns) r with
   |some (x,c)=>some (x,ns.length=sz/\i<es.length/\c)
   |none=>none
  |none=>none
def NF(id:Nat)(te:TI)(n:Nat)(ps:List (Nat×D)):Res:=
 match LF te.sz (List.replicate n (te.zero.map ofV)) ps with
 |some (es,c)=>some (⟨.sref id 0 n n te.sz,[(id,some (.rows es te.sz))],[]⟩,c/\n*te.sz<=16777216/\te.zero.length=te.sz)
 |none=>none
def QP(sz:Nat):∀(ds:List (Nat×D)) (vs:List (Nat×Value)) (es:LLa) (us:List Value) (x:LLa) (c:Prop),LF sz es ds=some (x,c)->c->vs.length=ds.length->
  (∀(i:Nat) (p:Nat×D) (q:Nat×Value),ds[i]? =some p->vs[i]? =some q->p.1=q.1/\Rep w I mu p.2 q.2)->B3 w I mu es sz us->
  ∃C,Instr.fill (λi=>some (i*sz,sz)) us.toArray vs=some C.toArray/\B3 w I mu x sz C/\x.length=es.length
 |[],[],es,us,x,c,hb,_,_,_,hr=>by
  obtain⟨rfl,_⟩:=hb;exact⟨us,by simp[Instr.fill],hr,rfl⟩
 |[],_::_,_,_,_,_,_,_,hv,_,_=>by simp at hv
 |_::_,[],_,_,_,_,_,_,hv,_,_=>by simp at hv
 |(i,d)::ds,(i',v)::vs,es,us,x,c,hb,hc,hv,hp,hr=>by
  simp[LF] at hb;split at hb
  ·rename_i N O;split at hb
   ·rename_i y U V;simp only[A2j,A2B] at hb;obtain⟨rfl,rfl⟩:=hb;obtain⟨Y,hi,Z⟩:=hc;obtain⟨he,a0⟩:=hp 0 (i,d) (i',v) rfl rfl;subst he;obtain⟨M,a1,a2,a3,_⟩:=a0.cells O;have a4:v.cells.size=sz:=by
     grind
    obtain⟨C,h1,h2,h3⟩:=QP sz ds vs (es.set i N) (AI us (i*sz) M) y U V Z (by grind) (λj p q a5 a6=>hp (j+1) p q (by grind) (by grind)) (hr.set hi a2 Y a3);have a7:i*sz+sz<=es.length*sz:=by rw[<-A2M];exact A2n _ hi
    have a8:=hr.1;simp[Instr.fill,a4,ne_eq,not_true_eq_false,decide_false,A42,A2A];have hz:(v.cells.zipIdx.foldl (λ(cs:Array Value) (p:Value×Nat)=>cs.setIfInBounds (i*sz+p.2) p.1) us.toArray)=(AI us (i*sz) M).toArray:=by
     rw[<-Array.foldl_toList,Array.toList_zipIdx,a1];have:=Mr (i*sz) M 0 us (by omega);omega
    grind
   ·cases hb
  ·cases hb
def Ku(M:C.zero.length=C.sz)(n:Nat)(z:Array Value)(O:z=C.zero.toArray):((Array.range (n*C.sz)).map (z[· %z.size]!))=((List.range (n*C.sz)).map λm=>nv C.zero (m%C.sz)).toArray:=by
 apply Array.ext';simp only[Array.toList_map,Array.toList_range];refine A3s λm hn=>?_;have N:0<C.sz:=by grind
 have hlt:m%C.sz<C.zero.length:=by rw[M];exact Nat.mod_lt _ N
 grind [nv]
def LJ(N:C.zero.length=C.sz)(n:Nat):B3 w I mu (List.replicate n (C.zero.map ofV)) C.sz ((List.range (n*C.sz)).map λm=>nv C.zero (m%C.sz)):=by
 refine⟨by simp,λi hi=>?_,λi j hi M=>?_⟩
 ·grind [nr,ofV]
 ·simp at hi;have O:nr (List.replicate n (C.zero.map ofV)) i=C.zero.map ofV:=by simp[nr,A29,hi]
  have hlt:i*C.sz+j<n*C.sz:=by
   have:i*C.sz+C.sz<=n*C.sz:=by rw[<-A2M];exact A2n _ hi
   omega
  have U:nv ((List.range (n*C.sz)).map λm=>nv C.zero (m%C.sz)) (i*C.sz+j)=nv C.zero j:=by
   have V:(i*C.sz+j)%C.sz=j:=by rw[Nat.add_comm,Nat.add_mul_mod_self_right,Nat.mod_eq_of_lt M]
   grind [nv]
  grind [nd,ofV,nv,Ht]
def Uq(ht:Au P t=some ti)(hs:ti.sh=.slice e')(N:Au P e'=some C){id n:Nat}{ds:List (Nat×D)}(M:NF id C n ds=some (e,c))(hc:c)(hr:AA w0 M0 I0 fr I mu h w)(Z:fr id)(vs:List (Nat×Value))(hv:vs.length=ds.length)
  (hp:∀(i:Nat) (p:Nat×D) (q:Nat×Value),ds[i]? =some p->vs[i]? =some q->p.1=q.1/\Rep w I mu p.2 q.2):
  AT P (λw=>(Instr.buildSlice t n vs.toArray).run P w) id e.d e.up w0 M0 I0 fr I mu h w:=by
 unfold NF at M;split at M
 ·rename_i es c' hb;obtain⟨rfl,rfl⟩:=M;obtain⟨a0,a5,O⟩:=hc;obtain⟨i,d,z,U,g2,g3,g4,g5,g6,g7,g8,g9⟩:=Bw N;have V:=AC ht hs;have a1:z.cells=C.zero.toArray:=by rw[<-g6]
  obtain⟨Y,f1,f2,f3⟩:=QP C.sz ds vs _ _ es c' hb a0 hv hp (LJ O n);obtain⟨mu',x1,x2,x3⟩:=V2 f2 hr Z;refine⟨.slice (some ⟨w.heap.size,0,none⟩) n n,_,I,mu',?_,x1,x2,by simpa using Rep.sref (w:=w.alloc (.cells Y.toArray e')) id 0 n n C.sz _ x3⟩;have hn:¬(16777216<n*C.sz):=by omega
  by_cases h0:n*C.sz=0
  ·have a2:Array.range 0=#[]:=rfl;have a3:(List.range (n*C.sz)).map (λm=>nv C.zero (m%C.sz))=[]:=by grind
   rw[a3] at f1;simp[Instr.buildSlice,run_underlying V,sizeOf,typeInfo,U,g4,h0,a2,f1,newRow]
  ·have a6:=Ku O n z.cells a1;simp[Instr.buildSlice,A2o,run_underlying V,Result.andThen,Bf N,gt_iff_lt];have a4:Instr.fill (λi=>some (i*C.sz,C.sz)) (Array.map (λx=>z.cells[x%z.cells.size]!) (Array.range (n*C.sz))) vs=some Y.toArray:=by grind
   simp[hn,h0,zeroValue,typeInfo,U,g3,a4,newRow]
 ·cases M
def FQ(hp:Nat->Option Blk):D->Option (LLa×List Nat×Prop)
 |.slice es _=>some (es,[],True)
 |.sref b i len _ sz=>match hp b with
  |some (.rows es sz')=>some ((es.drop i).take len,[b],sz=sz'/\i+len<=es.length)
  |_=>none
 |.gref b len=>match hp b with
  |some (.grow es _)=>some (es,[b],len=es.length)
  |_=>none
 |_=>none
def GB(w:World)(A:Option Addr)(us:List Value):Prop:=us=[]\/∃k o,A=some ⟨k,o,none⟩/\∀j u,us[j]? =some u->w.cell? ⟨k,o+j,none⟩=some u
def XF{es:LLa}{sz:Nat}{u:Nat->Nat->Value}{k o:Nat}(C:0<sz)(M:∀i j,i<es.length->j<sz->w.cell? ⟨k,o+(i*sz+j),none⟩=some (u i j)):
  ∀m,m<es.length*sz->w.cell? ⟨k,o+m,none⟩=some (u (m/sz) (m%sz)):=by
 intro m hm;have h1:m/sz<es.length:=(Nat.div_lt_iff_lt_mul C).2 hm;have h2:m%sz<sz:=Nat.mod_lt _ C;have:=M (m/sz) (m%sz) h1 h2;have e:m/sz*sz+m%sz=m:=by rw[Nat.mul_comm];exact Nat.div_add_mod m sz
 simp_all
def CB{d:D}{es:LLa}{rd:List Nat}(hn:FQ hp d=some (es,rd,c))(hc:c)(hr:AA w0 M0 I0 fr I mu h w)(Z:Rep w I mu d v)(hb:∀b ∈ rd,h b=hp b){sz:Nat}(a2:0<sz)(a5:∀x ∈ es,x.length=sz):
  ∃A cap us,v=.slice A es.length cap/\B3 w I mu es sz us/\GB w A us:=by
 have Y:∀i,i<es.length->(nr es i).length=sz:=λi hi=>a5 _ (by simp[nr,A29,hi]);unfold FQ at hn;split at hn
 ·rename_i V aa;simp only[A2j,A2B] at hn;obtain⟨rfl,rfl,rfl⟩:=hn;cases Z with
  |slice _ _ A k o M cap u hA ab ac hm a3 a6 a7=>
   by_cases h0:V.length=0
   ·have:V=[]:=A2D h0;subst this;exact⟨A,cap,[],rfl,⟨by simp,λi hi=>by simp at hi,λi j hi=>by simp at hi⟩,.inl rfl⟩
   ·have hs:M=sz:=by rw[<-a3 0 (by omega)];exact Y 0 (by omega)
    subst hs;obtain⟨rfl,hI⟩:=hA (by omega);refine⟨_,cap,(List.range (V.length*M)).map λm=>u (m/M) (m%M),rfl,⟨by simp,a3,λi j hi O=>?_⟩,.inr ⟨k,o,rfl,λj x N=>?_⟩⟩
    ·have hlt:i*M+j<V.length*M:=by
      have:i*M+M<=V.length*M:=by rw[<-A2M];exact A2n _ hi
      omega
     have e1:(i*M+j)/M=i:=by rw[Nat.add_comm,Nat.add_mul_div_right _ _ a2,Nat.div_eq_of_lt O];omega
     have e2:(i*M+j)%M=j:=by rw[Nat.add_comm,Nat.add_mul_mod_self_right,Nat.mod_eq_of_lt O]
     have e3:nv ((List.range (V.length*M)).map λm=>u (m/M) (m%M)) (i*M+j)=u i j:=by simp[nv,A29,hlt,e1,e2]
     rw[e3];exact a7 i j hi O
    ·simp only[A2X,Option.map_eq_some_iff] at N;obtain⟨m,a8,rfl⟩:=N;obtain⟨hlt,rfl⟩:=List.getElem?_eq_some_iff.1 a8;simp only[List.length_range] at hlt;simp only[List.getElem_range];exact XF a2 a6 j hlt
 ·rename_i b i len cap C;split at hn
  ·rename_i es' M N;simp only[A2j,A2B] at hn;obtain⟨rfl,rfl,rfl⟩:=hn;obtain⟨rfl,a9⟩:=hc;obtain⟨k,T,us,h1,h2,h3,h4,h5⟩:=hr.blk b _ ((hb b (by simp)).trans N);cases Z with
   |sref _ _ _ _ _ k' U=>
    rw[h1] at U;simp only[A2j,Value.pointer.injEq,Addr.mk.injEq,and_true] at U;subst U;have a0:((es'.drop i).take len).length=len:=by simp;omega
    have a4:∀j,j<len->nr ((es'.drop i).take len) j=nr es' (i+j):=by
     intro j O;simp only[nr,A29];rw[A3w O,A3J]
    have hz:0<len->C=sz:=λa1=>by
     have:=Y 0 (by omega);rw[a4 0 a1] at this;rw[<-this];exact(h4 (i+0) (by omega)).symm
    have key:Value.slice (some ⟨k,i*C,none⟩) len cap=.slice (some ⟨k,i*C,none⟩) ((es'.drop i).take len).length cap:=by rw[a0]
    refine⟨_,cap,(us.drop (i*C)).take (len*C),key,⟨?_,Y,λj l O hl=>?_⟩,.inr ⟨k,i*C,rfl,λj x N=>?_⟩⟩
    ·rw[a0];by_cases a1:0<len
     ·rw[<-hz a1];have:(i+len)*C<=es'.length*C:=A2n _ a9;rw[A3p] at this;simp only[A2x,A2t];omega
     ·have:len=0:=by omega
      subst this;simp
    ·rw[a0] at O;have hs:=hz (by omega);subst hs;rw[a4 j O];have hlt:j*C+l<len*C:=by
      have:j*C+C<=len*C:=by rw[<-A2M];exact A2n _ O
      omega
     have e:nv ((us.drop (i*C)).take (len*C)) (j*C+l)=nv us ((i+j)*C+l):=by
      simp only[nv,A29];rw[A3w hlt,A3J];congr 2;rw[A3p];omega
     rw[e];exact h5 (i+j) l (by omega) hl
    ·rw[List.getElem?_take] at N;split at N
     ·rw[A3J] at N;simp[World.cell?,h2,N]
     ·cases N
  ·cases hn
 ·rename_i b len;split at hn
  ·rename_i es' C N;simp only[A2j,A2B] at hn;obtain⟨rfl,rfl,rfl⟩:=hn;subst hc;obtain⟨A,cap,T,us,h1,h2,h3,h4⟩:=hr.blk b _ ((hb b (by simp)).trans N);cases Z with
   |gref _ _ A' cap' U=>
    rw[h1] at U;simp only[A2j,Value.slice.injEq,true_and] at U;obtain⟨rfl,rfl⟩:=U;rcases h4 with⟨rfl,rfl⟩|⟨k,g0,rfl,g1,g2,g3,g4⟩
    ·exact⟨A,0,[],rfl,⟨by simp,λi hi=>by simp at hi,λi j hi=>by simp at hi⟩,.inl rfl⟩
    ·by_cases h0:es'.length=0
     ·have:es'=[]:=A2D h0;subst this;exact⟨_,cap,[],rfl,⟨by simp,λi hi=>by simp at hi,λi j hi=>by simp at hi⟩,.inl rfl⟩
     ·have hs:C=sz:=by rw[<-h2 0 (by omega)];exact Y 0 (by omega)
      subst hs;have ad:es'.length*C<=cap*C:=A2n _ g2;refine⟨_,cap,us.take (es'.length*C),rfl,⟨by simp;omega,h2,λi j hi O=>?_⟩,.inr ⟨k,0,rfl,λj x N=>?_⟩⟩
      ·have hlt:i*C+j<es'.length*C:=by
        have:i*C+C<=es'.length*C:=by rw[<-A2M];exact A2n _ hi
        omega
       have e:nv (us.take (es'.length*C)) (i*C+j)=nv us (i*C+j):=by
        simp only[nv,A29];rw[A3w hlt]
       rw[e];exact g4 i j hi O
      ·rw[List.getElem?_take] at N;split at N
       ·simp[World.cell?,g1,N]
       ·cases N
  ·cases hn
 ·cases hn
def AA.put{b0:Option Nat}{id:Nat}(hr:AA w0 M0 I0 fr I mu h w)(ae:fr id)(w':World)(v:Value)(x:Blk)
  (hk:∀k,Al v=some k->(w.heap.size<=k/\k<w'.heap.size)\/∃b N C,b0=some b/\h b=some N/\mu b=some C/\Al C=some k)
  (a9:w.heap.size<=w'.heap.size) (a6:∀j,j<w.heap.size->(∀b N C,b0=some b->h b=some N->mu b=some C->Al C≠some j)->w'.heap[j]? =w.heap[j]?)
  (ah:w'.os=w.os) (ai:w'.tape=w.tape) (aj:w'.output=w.output) (hb:DQ w' I (AM mu id v) id x):
  AA w0 M0 I0 (λb=>fr b/\b≠id) I (AM mu id v) (λc=>if c=id then some x else if b0=some c then none else h c) w'/\Ext I mu w I (AM mu id v) w':=by
 have ak:=hr.fresh id ae;have hm:=BN (v:=v) ak;have aa:∀k,I k->w'.heap[k]? =w.heap[k]?:=λk hk=>a6 k (hr.lt k hk) λb N C _ V Y hl=>(hr.loc b N C k V Y hl).2.1 hk;have al:Ext I mu w I (AM mu id v) w':=⟨λ_ h=>h,hm,aa⟩
 have a0:∀c y,c≠id->(if c=id then some x else if b0=some c then none else h c)=some y->h c=some y/\b0≠some c:=by
  simp_all
 have a1:∀c,c≠id->AM mu id v c=mu c:=λc hc=>by simp[AM,hc]
 have ab:∀c y u k b N C,b0≠some c->h c=some y->mu c=some u->Al u=some k->b0=some b->h b=some N->mu b=some C->Al C≠some k:=by
  intro c y u k b N C a2 U M O a3 V Y hl;have:=hr.inj c b y N u C k U V M Y O hl;simp_all
 refine⟨⟨λc y U=>?_,λc y u k U M O=>?_,λc c' y z u u' k U hz M a4 O a7=>?_,λb hb=>?_,λk O=>A3K (hr.lt k O) a9,ah.trans hr.os,ai.trans hr.tape,aj.trans hr.output,A2N hr.grown a9,λj hj ac=>?_,hr.iold,hr.inew,λb x hb hn=>hm b x (hr.keep b x hb hn),λc y U hc=>hr.used c y (a0 c y hc.2 U).1 hc.1⟩,al⟩
 ·by_cases hc:c=id
  ·grind
  ·obtain⟨Z,a2⟩:=a0 c y hc U;exact(hr.blk c y Z).mono aa (λ_ h=>h) hm λu k M O=>a6 k (hr.loc c y u k Z M O).2.2 λb N C a3 V Y=>ab c y u k b N C a2 Z M O a3 V Y
 ·by_cases hc:c=id
  ·subst hc;simp[AM,if_pos,A2j] at M;subst M;rcases hk k O with⟨g1,g2⟩|⟨b,N,C,_,V,Y,hl⟩
   ·exact⟨.inr (A2N hr.grown g1),λhI=>by grind,g2⟩
   ·have:=hr.loc b N C k V Y hl;grind
  ·obtain⟨Z,a2⟩:=a0 c y hc U;rw[a1 c hc] at M;have:=hr.loc c y u k Z M O;grind
 ·have one:∀c y u,c≠id->(if c=id then some x else if b0=some c then none else h c)=some y->AM mu id v c=some u->Al u=some k->Al v=some k->False:=by
   intro c y u hc U M ad am;obtain⟨Z,a2⟩:=a0 c y hc U;rw[a1 c hc] at M;rcases hk k am with⟨g1,g2⟩|⟨b,N,C,a3,V,Y,hl⟩
   ·have:=(hr.loc c y u k Z M ad).2.2;omega
   ·exact ab c y u k b N C a2 Z M ad a3 V Y hl
  by_cases hc:c=id<;>by_cases a5:c'=id
  ·omega
  ·exfalso;have a8:v=u:=by simpa[AM,hc] using M
   exact one c' z u' a5 hz a4 a7 (a8▸O)
  ·exfalso;have a8:v=u':=by simpa[AM,a5] using a4
   exact one c y u hc U M O (a8▸a7)
  ·obtain⟨Z,_⟩:=a0 c y hc U;obtain⟨an,_⟩:=a0 c' z a5 hz;rw[a1 c hc] at M;rw[a1 c' a5] at a4;exact hr.inj c c' y z u u' k Z an M a4 O a7
 ·rw[a1 b hb.2];exact hr.fresh b hb.1
 ·rw[a6 j (by have:=hr.grown;omega) λb N C a3 V Y hl=>?_]
  ·exact hr.old j hj ac
  ·rcases(hr.loc b N C j V Y hl).1 with h1|h1
   ·exact ac h1
   ·omega
def D5{size n:Nat}{us:List Value}(hl:us.length=n*size)(hh:GB w A us):(Builtin.firstCells size n (.slice A n cap)).run P w=.ok us.toArray w:=by
 rcases hh with rfl|⟨k,o,rfl,hc⟩
 ·cases A with
  |none=>simp [Builtin.firstCells]
  |some a=>grind [run_firstCells_some]
 grind [run_firstCells_some,Ca]
def Eh{i:TypeInfo}{z:Value}(C:P.underlying t=some (.slice e'))(hi:P.info? e'=some i)(U:i.zero=some z){B:Option Addr}{n m cap':Nat}{us:List Value}
  (V:us.length=n*i.size) (hvs:vs.length=m*i.size) (Y:GB w A us) (M:GB w B vs) (a6:n<=cap) (a7:n+m<=9223372036854775807) (Z:(n+m)*i.bytes<=140737488355328):
  (n+m<=cap->(Builtin.append_ #[t,t] ty #[.slice A n cap,.slice B m cap']).run P w=((match A with|some a=>(storeCells (a.add (n*i.size)) vs).run P w|none=>.ok () w)).andThen λ_ w'=>.ok (.slice A (n+m) cap) w')/\
  (cap<n+m->(Builtin.append_ #[t,t] ty #[.slice A n cap,.slice B m cap']).run P w=.ok (.slice (some ⟨w.heap.size,0,none⟩) (n+m) (grownCap w (n+m) cap e'))
   (w.drew.alloc (.cells (us.toArray++vs.toArray++Builtin.zeroCells z.cells (grownCap w (n+m) cap e'-(n+m))) e'))):=by
 have N:=D5 (P:=P) (size:=i.size) (n:=m) (A:=B) (cap:=cap') hvs M;constructor
 ·intro O;cases A with
  |none=>simp [Builtin.append_,run_underlying C,sizeOf,typeInfo,hi,Builtin.lenOf,O,N]
  |some a=>simp [Builtin.append_,run_underlying C,sizeOf,typeInfo,hi,Builtin.lenOf,O,N]
 ·intro hg;have a0:GB w.drew A us:=by
   rcases Y with rfl|⟨k,o,rfl,hc⟩
   ·exact .inl rfl
   ·exact .inr ⟨k,o,rfl,λj u hj=>by simp_all⟩
  have a1:GB w.drew B vs:=by
   rcases M with rfl|⟨k,o,rfl,hc⟩
   ·exact .inl rfl
   ·exact .inr ⟨k,o,rfl,λj u hj=>by simp_all⟩
  have a2:=D5 (P:=P) (w:=w.drew) (size:=i.size) (n:=n) (A:=A) (cap:=cap) V a0;have a3:=D5 (P:=P) (w:=w.drew) (size:=i.size) (n:=m) (A:=B) (cap:=cap') hvs a1;have hn:¬(n+m<=cap):=by omega
  have a4:¬(9223372036854775807<((n:Int)+(m:Int))):=by omega
  have a8:=growslice_fits (need:=n+m) (old:=cap) (bytes:=i.bytes) hg Z;have a5:¬(281474976710656<Builtin.nextslicecap (n+m) cap*i.bytes):=by omega
  simp[Builtin.append_,run_underlying C,sizeOf,typeInfo,zeroValue,hi,U,Builtin.lenOf,hn,a4,a5,Question.forced,a2,a3,newRow,grownCap];grind
end
section
variable{P:Program}{w0:World}{M0:Nat->Prop}{I0:Gh}{fr I:Nat->Prop}{mu:Nat->Option Value}{h:Nat->Option Blk}{w:World}
def NS(hp:Nat->Option Blk)(ti te:TI):D->Option D->Option D->Res
 |.val v,lo,hi=>LR ti te (.val v) lo hi
 |.slice es t,lo,hi=>LR ti te (.slice es t) lo hi
 |.sref b i len cap sz,lo,hi=>LR ti te (.sref b i len cap sz) lo hi
 |.gref b len,lo,hi=>match ti.sh with
  |.slice _=>match hp b with
   |some (.grow es sz)=>match bnd lo 0,bnd hi len with
    |some l,some r=>some (⟨.gsub b l.toNat (r.toNat-l.toNat) sz,[],[b]⟩,0<=l/\l<=r/\r<=len/\len=es.length/\sz=te.sz)
    |_,_=>none
   |_=>none
  |_=>none
 |.gsub b i len sz,lo,hi=>match ti.sh with
  |.slice _=>match hp b with
   |some (.grow es sz')=>match bnd lo 0,bnd hi len with
    |some l,some r=>some (⟨.gsub b (i+l.toNat) (r.toNat-l.toNat) sz,[],[b]⟩,0<=l/\l<=r/\(i:Int)+r<=es.length/\i+len<=es.length/\sz=te.sz)
    |_,_=>none
   |_=>none
  |_=>none
 |_,_,_=>none
def Vh{b:Nat}{es:LLa}{sz:Nat}(hr:DQ w I mu b (.grow es sz)){n:Nat}(h:mu b=some (.slice A n cap)):n=es.length/\es.length<=cap/\cap<=maxLen:=by
 obtain⟨C,cap',T,us,M,N,O,U⟩:=hr;grind
theorem MQ{te:TI}(ht:Au P t=some ti)(M:(∃s,ti.sh=s/\s=.str)\/(ti.sh=.slice e'/\Au P e'=some te))(id:Nat){x:D}{lo hi:Option D}(C:NS hp ti te x lo hi=some (e,c))(hc:c)(hr:AA w0 M0 I0 fr I mu h w){Y Z:Option Value}
  (N:Rep w I mu x v) (hl:G9 w I mu lo Y) (hh:G9 w I mu hi Z) (hb:∀b ∈ e.rd,h b=hp b):
  AT P (λw=>(Instr.sliceAt t v Y Z none).run P w) id e.d e.up w0 M0 I0 fr I mu h w:=by
 unfold NS at C;split at C
 ·exact KC ht M C hc hr N hl hh id
 ·exact KC ht M C hc hr N hl hh id
 ·exact KC ht M C hc hr N hl hh id
 ·rename_i b len;split at C
  case h_2=>cases C
  rcases M with⟨s,O,a4⟩|⟨O,M⟩
  ·simp_all
  have hu:=AC ht O;split at C
  case h_2=>cases C
  rename_i es sz hx;split at C
  case h_2=>cases C
  rename_i l r a0 a1;obtain⟨rfl,rfl⟩:=C;obtain⟨h0,h1,h2,a5,a3⟩:=hc;have a2:=hr.blk b _ ((hb b (by simp)).trans hx);cases N with
  |gref _ _ A cap U=>
   obtain⟨_,a6,_⟩:=Vh a2 U;have run:=Hk (w:=w) hu M A len cap Y Z l r h0 h1 (by omega) (by
     rcases DB a0 hl with⟨rfl,rfl,rfl⟩|⟨k,rfl,_⟩
     ·exact .inl ⟨rfl,rfl⟩
     ·exact .inr ⟨k,rfl⟩) (by
     rcases DB a1 hh with⟨rfl,rfl,rfl⟩|⟨k,rfl,_⟩
     ·exact .inl ⟨rfl,rfl⟩
     ·exact .inr ⟨k,rfl⟩) (by omega)
   refine AT.same hr _ run (.gsub b l.toNat (r.toNat-l.toNat) sz A _ len cap U (by omega) λV=>?_);rcases V with V|V
   ·simp_all
   ·rw[V];split
    ·cases A<;>simp [Addr.add]
    ·simp
 ·rename_i b i len sz;split at C
  case h_2=>cases C
  rcases M with⟨s,O,a4⟩|⟨O,M⟩
  ·simp_all
  have hu:=AC ht O;split at C
  case h_2=>cases C
  rename_i es a8 hx;split at C
  case h_2=>cases C
  rename_i l r a0 a1;obtain⟨rfl,rfl⟩:=C;obtain⟨h0,h1,h2,a5,a3⟩:=hc;have a2:=hr.blk b _ ((hb b (by simp)).trans hx);cases N with
  |gsub _ _ _ _ A B n cap U a9 hB=>
   obtain⟨_,a6,_⟩:=Vh a2 U;have run:=Hk (w:=w) hu M B len (cap-i) Y Z l r h0 h1 (by omega) (by
     rcases DB a0 hl with⟨rfl,rfl,rfl⟩|⟨k,rfl,_⟩
     ·exact .inl ⟨rfl,rfl⟩
     ·exact .inr ⟨k,rfl⟩) (by
     rcases DB a1 hh with⟨rfl,rfl,rfl⟩|⟨k,rfl,_⟩
     ·exact .inl ⟨rfl,rfl⟩
     ·exact .inr ⟨k,rfl⟩) (by omega)
   have e1:cap-i-l.toNat=cap-(i+l.toNat):=by omega
   rw[e1] at run;refine AT.same hr _ run (.gsub b (i+l.toNat) (r.toNat-l.toNat) sz A _ n cap U (by omega) λV=>?_);by_cases hz:i+l.toNat=0
   ·have hi:i=0:=by omega
    have a7:l.toNat=0:=by omega
    rw[a7];simp_all [Addr.add]
   rw[if_neg (by omega),hB (.inl (by omega)),Option.map_map,<-a3];congr 1;funext a;unfold Addr.add;grind
 ·cases C
def LH(id:Nat)(hp:Nat->Option Blk)(te:TI)(b x:D):Res:=
 match FQ hp x with
 |none=>none
 |some (news,rd,c)=>match b with
  |.slice es true=>some (⟨.gref id (es.length+news.length),[(id,some (.grow (es++news) te.sz))],rd⟩,
    c/\(es=[]\/news.length≠0)/\(es.length+news.length)*te.bytes<=140737488355328/\es.length+news.length<=1073741824/\0<te.sz/\te.zero.length=te.sz/\(∀y ∈ es,y.length=te.sz)/\∀y ∈ news,y.length=te.sz)
  |.gref g len=>match hp g with
   |some (.grow es sz)=>some (⟨.gref id (es.length+news.length),[(g,none),(id,some (.grow (es++news) sz))],g::rd⟩,
     c/\len=es.length/\sz=te.sz/\g≠id/\(es.length+news.length)*te.bytes<=140737488355328/\es.length+news.length<=1073741824/\0<te.sz/\te.zero.length=te.sz/\(∀y ∈ news,y.length=te.sz)/\∀y ∈ news,∀d ∈ y,AV d=true)
   |_=>none
  |_=>none
def Lq{es:LLa}{sz:Nat}{us:List Value}{A:Option Addr}{mu':Nat->Option Value}{id k:Nat}{w':World}(M:mu' id=some (.slice (some ⟨k,0,none⟩) es.length cap))(N:0<cap)(O:cap<=maxLen)(U:es.length<=cap)
  (V:w'.heap[k]? =some (.cells (us++vs).toArray T (0,0))) (Z:us.length+vs.length=cap*sz) (C:B3 w' I mu' es sz us):DQ w' I mu' id (.grow es sz):=by
 refine⟨some ⟨k,0,none⟩,cap,T,us++vs,M,C.2.1,O,.inr ⟨k,N,rfl,V,U,by simp_all,λi j hi Y=>?_⟩⟩;have hlt:i*sz+j<us.length:=by
  rw[C.1];have:i*sz+sz<=es.length*sz:=by rw[<-A2M];exact A2n _ hi
  omega
 have:nv (us++vs) (i*sz+j)=nv us (i*sz+j):=by grind [nv]
 rw[this];exact C.2.2 i j hi Y
theorem MS(ht:Au P t=some ti)(hs:ti.sh=.slice e')(ax:Au P e'=some M){id:Nat}{db dx:D}(Z:LH id hp M db dx=some (e,c))(hc:c)
  (hr:AA w0 M0 I0 fr I mu h w) (a0:fr id) {vb vx:Value} (a9:Rep w I mu db vb) (an:Rep w I mu dx vx) (hb:∀b ∈ e.rd,h b=hp b):AT P (λw=>(Builtin.append_ #[t,t] ty #[vb,vx]).run P w) id e.d e.up w0 M0 I0 fr I mu h w:=by
 obtain⟨bh,d,z,g1,g2,g3,g4,g5,g6,g7,g8,g9⟩:=Bw ax;have hu:=AC ht hs;have ao:z.cells.size=M.zero.length:=by rw[<-g6];simp
 unfold LH at Z;split at Z
 ·cases Z
 ·rename_i C rd c' ap;split at Z
  ·rename_i es;obtain⟨rfl,rfl⟩:=Z;obtain⟨ad,ay,aq,az,a1,ae,ah,aa⟩:=hc;obtain⟨B,a6,vs,rfl,O,hB⟩:=CB ap ad hr an hb a1 aa;have ai:FQ hp (.slice es true)=some (es,[],True):=rfl;obtain⟨A,cap,us,rfl,a2,hA⟩:=CB (hp:=hp) ai trivial hr a9 (λb hb=>by simp at hb) a1 ah;have b3:cap=es.length:=by cases a9 with|slice _ _ _ k o sz cap u hA hcp htg hm hlen hcell hrep=>exact htg rfl
   subst b3;have run:=Eh (w:=w) (ty:=ty) (cap:=es.length) (cap':=a6) hu g1 g3 (us:=us) (n:=es.length) (by rw[g4];exact a2.1) (by rw[g4];exact O.1) hA hB (A2e _) (by omega) (by rw[g7];exact aq);by_cases h0:C.length=0
   ·have b4:es=[]:=ay.resolve_right (by simp[h0]);have aj:C=[]:=A2D h0;subst b4 aj;have ak:vs=[]:=A2D (by simpa using O.1);subst ak;have r1:=run.1 (by simp);have a7:=hr.fresh id a0;have:=hr.put (b0:=none) a0 w (.slice A 0 0) (.grow [] M.sz) (λk U=>by cases A<;>simp [Al] at U) (A2e _) (λ_ _ _=>rfl) rfl rfl rfl ⟨A,0,e',[],by simp[AM],λi hi=>by simp at hi,A2w _,.inl ⟨rfl,rfl⟩⟩;refine⟨.slice A 0 0,w,I,AM mu id (.slice A 0 0),?_,this.2,?_,.gref id 0 A 0 (by simp[AM])⟩
    ·simp at r1|-;rw[r1];cases A<;>simp [storeCells]
    ·have h2:=this.1;have e1:(λc=>if c=id then some (Blk.grow [] M.sz) else if(none:Option Nat)=some c then none else h c)=λb=>AZ b (h b) [(id,some (.grow ([]++[]) M.sz))]:=by
      funext b;simp[AZ,A2Q,A3k,A2y];by_cases a3:b=id
      ·subst a3;simp
      ·have:¬id=b:=λh=>a3 h.symm;simp[a3,this]
     rw[e1] at h2;exact h2
   ·have r1:=run.2 (by omega);generalize ab:grownCap w (es.length+C.length) es.length e'=N at r1;have b5:es.length+C.length<=N:=by rw[<-ab];exact grownCap_ge w _ _ _
    have al:N<=maxLen:=by rw[<-ab];exact grownCap_le_maxLen w _ _ _ (by simp only[maxLen];omega)
    have ar:(us++vs).toArray++Builtin.zeroCells z.cells (N-(es.length+C.length))=((us++vs)++(Builtin.zeroCells z.cells (N-(es.length+C.length))).toList).toArray:=by
     apply Array.ext';simp
    have r2:(Builtin.append_ #[t,t] ty #[.slice A es.length es.length,.slice B C.length a6]).run P w=.ok (.slice (some ⟨w.heap.size,0,none⟩) (es.length+C.length) N) (w.drew.alloc (.cells ((us++vs)++(Builtin.zeroCells z.cells (N-(es.length+C.length))).toList).toArray e')):=by
     rw[<-ar,<-A38 us vs];exact r1
    generalize Y:w.drew.alloc (.cells ((us++vs)++(Builtin.zeroCells z.cells (N-(es.length+C.length))).toList).toArray e')=w' at r2;have a8:∀j,j<w.heap.size->w'.heap[j]? =w.heap[j]?:=λj V=>by rw[<-Y];exact Bt w.drew _ V
    have b6:w'.heap.size=w.heap.size+1:=by rw[<-Y];simp
    have a7:=hr.fresh id a0;have hm:=BN (v:=.slice (some ⟨w.heap.size,0,none⟩) (es.length+C.length) N) a7;have ac:(es++C).length=es.length+C.length:=A2a;have:=hr.put (b0:=none) a0 w' (.slice (some ⟨w.heap.size,0,none⟩) (es.length+C.length) N) (.grow (es++C) M.sz) (λk U=>by
      simp only[Al] at U;rw[if_neg (by omega)] at U;cases U;exact .inl ⟨A2e _,by omega⟩) (by omega) (λj V _=>a8 j V) (by rw[<-Y];rfl) (by rw[<-Y];rfl) (by rw[<-Y];rfl)
     (Lq (A:=none) (us:=us++vs) (T:=e') (k:=w.heap.size) (cap:=N) (by simp[AM,ac]) (by omega) al (by omega) (by rw[<-Y];exact heap_alloc_new w.drew _) (by
       have q3:(Builtin.zeroCells z.cells (N-(es.length+C.length))).toList.length=(N-(es.length+C.length))*M.sz:=by rw[A3G,size_zeroCells,ao,ae]
       rw[A2a,a2.1,O.1,q3,<-A3p,<-A3p];simp_all)
      ((a2.append O).mono ⟨λ_ h=>h,hm,λk U=>a8 k (hr.lt k U)⟩))
    refine⟨_,w',I,_,r2,this.2,?_,.gref id _ _ N (by simp[AM])⟩;have h2:=this.1;have e1:(λc=>if c=id then some (Blk.grow (es++C) M.sz) else if(none:Option Nat)=some c then none else h c)=λb=>AZ b (h b) [(id,some (.grow (es++C) M.sz))]:=by
     funext b;simp[AZ,A2Q,A3k];by_cases a3:b=id
     ·subst a3;simp
     ·have:¬id=b:=λh=>a3 h.symm;simp[a3,this]
    rw[e1] at h2;exact h2
  ·rename_i g len;split at Z
   ·rename_i es sz hx;simp only[A2j,A2B] at Z;obtain⟨rfl,rfl⟩:=Z;obtain⟨ad,rfl,rfl,bi,aq,az,a1,ae,aa,b7⟩:=hc;have hg:h g=some (.grow es M.sz):=(hb g (by simp)).trans hx;obtain⟨B,a6,vs,rfl,O,hB⟩:=CB ap ad hr an (λb au=>hb b (by simp[au])) a1 aa;obtain⟨A,cap,T,a4,h1,h2,h3,h4⟩:=hr.blk g _ hg;have ah:∀y ∈ es,y.length=M.sz:=by
     intro y hy;obtain⟨i,hi,rfl⟩:=A2W.1 hy;have:=h2 i hi;simpa[nr,A29,hi] using this
    have ai:FQ h (.gref g es.length)=some (es,[g],es.length=es.length):=by simp[FQ,hg]
    obtain⟨A',cap',us,am,a2,hA⟩:=CB ai rfl hr a9 (λb au=>rfl) a1 ah;have av:vb=.slice A es.length cap:=by
     cases a9 with
     |gref _ _ bj bm U=>
      simp_all
    rw[av] at am;simp at am;obtain⟨rfl,rfl⟩:=am;subst av;have b8:es.length<=cap:=by
     rcases h4 with⟨rfl,rfl⟩|⟨k,_,_,_,h5,_⟩
     ·simp
     ·exact h5
    have run:=Eh (P:=P) (w:=w) (ty:=ty) (cap:=cap) (cap':=a6) hu g1 g3 (us:=us) (vs:=vs) (n:=es.length) (m:=C.length) (by rw[g4];exact a2.1) (by rw[g4];exact O.1) hA hB b8 (by omega) (by simp_all);have a7:=hr.fresh id a0;have ac:(es++C).length=es.length+C.length:=A2a;have e1:(λc=>if c=id then some (Blk.grow (es++C) M.sz) else if(some g:Option Nat)=some c then none else h c)=λb=>AZ b (h b) [(g,none),(id,some (.grow (es++C) M.sz))]:=by
     funext b;simp only[AZ,A2Q,A3k,A2j];grind
    by_cases aw:es.length+C.length<=cap
    ·have r1:=run.1 aw;rcases h4 with⟨rfl,rfl⟩|⟨k,b9,rfl,h5,h6,h7,h8⟩
     ·
      have aj:C=[]:=A2D (by omega);subst aj;have ak:vs=[]:=A2D (by simpa using O.1);subst ak;have:=hr.put (b0:=some g) a0 w (.slice A 0 0) (.grow ([]++[]) M.sz) (λk U=>by simp_all) (A2e _) (λ_ _ _=>rfl) rfl rfl rfl ⟨A,0,e',[],by simp[AM],λi hi=>by simp at hi,A2w _,.inl ⟨rfl,rfl⟩⟩;refine⟨.slice A 0 0,w,I,AM mu id (.slice A 0 0),?_,this.2,by simp_all,.gref id 0 A 0 (by simp[AM])⟩
      ·simp at r1|-;rw[r1];cases A<;>simp [storeCells]
     ·
      have ba:Al (.slice (some ⟨k,0,none⟩) es.length cap)=some k:=by simp[Al];omega
      have bn:=hr.loc g _ _ k hg h1 ba;have bb:(es.length+C.length)*M.sz<=cap*M.sz:=A2n _ aw;rw[A3p] at bb;have bc:∀u ∈ vs,u.oneCell'=true:=by
       intro u hu;obtain⟨m,hm,rfl⟩:=A2W.1 hu;have bd:m<C.length*M.sz:=by rw[<-O.1];exact hm
       have q1:m/M.sz<C.length:=(Nat.div_lt_iff_lt_mul a1).2 bd;have q2:m%M.sz<M.sz:=Nat.mod_lt _ a1;have q3:=O.2.2 _ _ q1 q2;have q4:m/M.sz*M.sz+m%M.sz=m:=by rw[Nat.mul_comm];exact Nat.div_add_mod m M.sz
       rw[q4] at q3;have q5:nv vs m=vs[m]:=by simp[nv,A29,hm]
       rw[q5] at q3;refine q3.one ?_;have q6:nr C (m/M.sz)=C[m/M.sz]:=by simp[nr,A29,q1]
       have q7:=aa _ (A3H q1);rw[q6];have q8:nd C[m/M.sz] (m%M.sz)=C[m/M.sz][m%M.sz]'(by omega):=by grind [nd]
       rw[q8];exact b7 _ (A3H q1) _ (A3H _)
      obtain⟨w',bo,be,a5⟩:=C0 (P:=P) (T:=T) vs 0 (es.length*M.sz) a4 w h5 (by rw[O.1];omega) bc;simp at be;have hm:=BN (v:=.slice (some ⟨k,0,none⟩) (es.length+C.length) cap) a7;have bf:∀j,I j->w'.heap[j]? =w.heap[j]?:=λj V=>a5.other j (by grind);have bp:AI a4 (es.length*M.sz) vs=(a4.take (es.length*M.sz)++vs)++a4.drop (es.length*M.sz+vs.length):=by simp[AI]
      have bg:B3 w I mu es M.sz (a4.take (es.length*M.sz)):=by
       refine⟨by simp;omega,h2,λi j hi V=>?_⟩;have hlt:i*M.sz+j<es.length*M.sz:=by
        have:i*M.sz+M.sz<=es.length*M.sz:=by rw[<-A2M];exact A2n _ hi
        omega
       grind [nv]
      have:=hr.put (b0:=some g) a0 w' (.slice (some ⟨k,0,none⟩) (es.length+C.length) cap) (.grow (es++C) M.sz) (λj V=>by
        simp[Al] at V;grind) (by rw[a5.size];omega) (λj _ V=>a5.other j (λbq=>V g _ _ rfl hg h1 (by simp_all))) a5.os a5.tape a5.output
       (Lq (A:=none) (T:=T) (k:=k) (cap:=cap) (us:=a4.take (es.length*M.sz)++vs) (vs:=a4.drop (es.length*M.sz+vs.length)) (by simp[AM,ac]) b9 h3 (by omega) (by simp_all) (by
         have:=O.1;simp_all)
        ((bg.append O).mono ⟨λ_ h=>h,hm,bf⟩))
      refine⟨.slice (some ⟨k,0,none⟩) (es.length+C.length) cap,w',I,_,?_,this.2,by simp_all,.gref id _ _ cap (by simp[AM])⟩;have r2:=r1;simp only[Ca,A3T,g4] at r2;simp_all
    ·have r1:=run.2 (by omega);generalize ab:grownCap w (es.length+C.length) cap e'=N at r1;have b5:es.length+C.length<=N:=by rw[<-ab];exact grownCap_ge w _ _ _
     have al:N<=maxLen:=by grind [grownCap_le_maxLen,maxLen]
     have ar:(us++vs).toArray++Builtin.zeroCells z.cells (N-(es.length+C.length))=((us++vs)++(Builtin.zeroCells z.cells (N-(es.length+C.length))).toList).toArray:=by
      simp_all
     have r2:(Builtin.append_ #[t,t] ty #[.slice A es.length cap,.slice B C.length a6]).run P w=.ok (.slice (some ⟨w.heap.size,0,none⟩) (es.length+C.length) N) (w.drew.alloc (.cells ((us++vs)++(Builtin.zeroCells z.cells (N-(es.length+C.length))).toList).toArray e')):=by
      simp_all
     generalize Y:w.drew.alloc (.cells ((us++vs)++(Builtin.zeroCells z.cells (N-(es.length+C.length))).toList).toArray e')=w' at r2;have a8:∀j,j<w.heap.size->w'.heap[j]? =w.heap[j]?:=λj V=>by rw[<-Y];exact Bt w.drew _ V
     have b6:w'.heap.size=w.heap.size+1:=by simp_all
     have hm:=BN (v:=.slice (some ⟨w.heap.size,0,none⟩) (es.length+C.length) N) a7;have:=hr.put (b0:=some g) a0 w' (.slice (some ⟨w.heap.size,0,none⟩) (es.length+C.length) N) (.grow (es++C) M.sz) (λk U=>by
       simp only[Al] at U;simp_all) (by omega) (λj V _=>a8 j V) (by rw[<-Y];rfl) (by simp_all) (by rw[<-Y];rfl)
      (Lq (A:=none) (us:=us++vs) (T:=e') (k:=w.heap.size) (cap:=N) (by simp[AM,ac]) (by omega) al (by omega) (by rw[<-Y];exact heap_alloc_new w.drew _) (by
        have q3:(Builtin.zeroCells z.cells (N-(es.length+C.length))).toList.length=(N-(es.length+C.length))*M.sz:=by rw[A3G,size_zeroCells,ao,ae]
        rw[A2a,a2.1,O.1,q3,<-A3p,<-A3p];simp_all)
       ((a2.append O).mono ⟨λ_ h=>h,hm,λk U=>a8 k (hr.lt k U)⟩))
     exact⟨_,w',I,_,r2,this.2,by simp_all,.gref id _ _ N (by simp[AM])⟩
   ·cases Z
  ·cases Z
end
def zD(ti:TI):Option D:=bif ti.ag then some (.agg (ti.zero.map ofV)) else match ti.zero with
 |[x]=>some (ofV x)
 |_=>none
def ba_beq(a b:Baa):(a==b)=decide (a=b):=by
 cases a with|mk x=>cases b with|mk y=>
 have h:((⟨x⟩:Baa)==⟨y⟩)=(x==y):=rfl;grind
def keq:Sh->Value->Value->Option Bool
 |.int _,.int k a,.int k' b=>if k=k' then some (decide (a=b)) else none
 |.str,.string a,.string b=>some (decide (a=b))
 |_,_,_=>none
def Ez(sh:Sh)(k:Value):List (Value×Nat×D)->Nat->Option (Option (Nat×D))
 |[],_=>some none
 |e::es,i=>match keq sh k e.1 with
  |some true=>some (some (i,e.2.2))
  |some false=>Ez sh k es (i+1)
  |none=>none
def Gk:Sh->Bool
 |.int _=>true
 |.str=>true
 |_=>false
def UY(ok:Bool)(d:D)(b:Bool):D:=bif ok then .tup [d,.val (.bool b)] else d
def YV(hp:Nat->Option Blk)(sh:Sh)(te:TI)(ok:Bool)(m k:D):Res:=
 match m,k with
 |.val (.map none),.val _=>match zD te with
  |some z=>pvc (UY ok z false) (Gk sh=true)
  |none=>none
 |.mref b,.val kv=>match hp b with
  |some (.map es _)=>match Ez sh kv es 0 with
   |some (some (_,d))=>some (⟨UY ok d true,[],[b]⟩,Gk sh=true)
   |some none=>match zD te with
    |some z=>some (⟨UY ok z false,[],[b]⟩,Gk sh=true)
    |none=>none
   |none=>none
  |_=>none
 |_,_=>none
def NY(es:List (Value×Nat×D))(i:Nat)(d:D):List (Value×Nat×D):=es.modify i λe=>(e.1,e.2.1,d)
def WA(hp:Nat->Option Blk)(sh:Sh)(m k d:D):Res:=
 match m,k with
 |.mref b,.val kv=>match hp b with
  |some (.map es ck)=>match Ez sh kv es 0 with
   |some (some (i,_))=>some (⟨.any,[(b,some (.map (NY es i d) ck))],[b]⟩,Gk sh=true)
   |some none=>some (⟨.any,[(b,some (.map (es++[(kv,ck,d)]) (ck+1)))],[b]⟩,Gk sh=true)
   |none=>none
  |_=>none
 |_,_=>none
def delE(hp:Nat->Option Blk)(sh:Sh)(m k:D):Res:=
 match m,k with
 |.mref b,.val kv=>match hp b with
  |some (.map es ck)=>match Ez sh kv es 0 with
   |some (some (i,_))=>some (⟨.any,[(b,some (.map (es.eraseIdx i) ck))],[b]⟩,Gk sh=true)
   |some none=>some (⟨.any,[(b,some (.map es ck))],[b]⟩,Gk sh=true)
   |none=>none
  |_=>none
 |_,_=>none
def mapE(id:Nat):Res:=some (⟨.mref id,[(id,some (.map [] 0))],[]⟩,True)
def Sq(id:Nat)(hp:Nat->Option Blk):D->Res
 |.mref b=>match hp b with
  |some (.map _ ck)=>some (⟨.ref id 0 0 1,[(id,some (.iter b ck [] ck))],[b]⟩,True)
  |_=>none
 |.val (.map none)=>some (⟨.ref id 0 0 1,[(id,some (.obj (.mapIter none 0 #[] 0)))],[]⟩,True)
 |_=>none
def PO(born:Nat):List (Value×Nat×D)->Option (Value×D)
 |[]=>none
 |e::es=>bif e.2.1==born then some (e.1,e.2.2) else PO born es
def T8(hp:Nat->Option Blk):D->Res
 |.ref b 0 0 _=>match hp b with
  |some (.iter m _ seen last)=>match hp m with
   |some (.map es ck)=>match seen.getLast? with
    |some born=>match PO born es with
     |some (k,d)=>some (⟨.tup [.val k,d],[],[b,m]⟩,ck=last/\okP k)
     |none=>none
    |none=>none
   |_=>none
  |_=>none
 |_=>none
section
variable{P:Program}{w0:World}{M0:Nat->Prop}{I0:Gh}{fr I:Nat->Prop}{mu:Nat->Option Value}{h:Nat->Option Blk}{w:World}
def zD_rep(ht:Au P t=some ti){d:D}(C:zD ti=some d):∃z,(zeroValue t).run P w=.ok z w/\Rep w I mu d z:=by
 obtain⟨z,h1,h2,M⟩:=Eg ht w;refine⟨z,h1,?_⟩;unfold zD at C;cases N:ti.ag with
 |true=>
  simp[N,cond_true,A2j] at C;subst C;rw[N] at M;cases z with
  |agg cs=>
   have hc:cs.toList=ti.zero:=h2;have:=Rep.agg (w:=w) (I:=I) (mu:=mu) (ti.zero.map ofV) cs.toList (by simp[hc]) λi hi=>by
    grind [nd,ofV,nv,Ht]
   omega
  |_=>simp [zOk] at M
 |false=>
  simp[N,cond_false] at C;split at C
  ·rename_i x O;simp at C;subst C;have U:z=x:=by
    rw[N] at M;rw[O] at h2;cases z<;>simp [Value.cells,zOk] at h2 M<;>exact h2
   rw[U];exact Ht _ _ _ _
  ·cases C
def T7(es:List (Value×Nat×D))(l:List MapEntry)(kv:Value)(i:Nat):Option (Nat×D)->Option (Nat×Value)->Prop
 |none,none=>True
 |some (j,d),some (j',v)=>j=j'/\i<=j/\∃x y,l[j-i]? =some x/\es[j-i]? =some y/\d=y.2.2/\v=x.val/\y.1=kv/\Instr.sameBits 10000 x.key kv=true
 |_,_=>False
def Rs{sh:Sh}{N:TypeDesc}{kv:Value}(O:Gk sh=true)(U:∀k,sh=.int k->N=.int k)(hs:sh=.str->N=.string):∀(es:List (Value×Nat×D)) (l:List MapEntry) (i:Nat) (r:Option (Nat×D)),l.map (·.key)=es.map (·.1)->Ez sh kv es i=some r->
  ∃M,Instr.findNow N kv l i=some M/\T7 es l kv i r M
 |[],[],i,r,_,hf=>by
  simp[Ez,A2j] at hf;subst hf;exact⟨none,rfl,trivial⟩
 |[],_::_,i,r,h,_=>by simp at h
 |_::_,[],i,r,h,_=>by simp at h
 |e::es,x::l,i,r,hl,hf=>by
  simp at hl;have V:Instr.sameNow N kv x.key=keq sh kv e.1:=by
   rw[hl.1];cases sh with
   |int k=>
    rw[U k rfl];unfold Instr.sameNow keq;grind
   |str=>
    rw[hs rfl];unfold Instr.sameNow keq;cases kv<;>cases e.1<;>first|rfl|(simp[ba_beq])
   |_=>cases O
  simp[Ez] at hf;simp[Instr.findNow,V];cases C:keq sh kv e.1 with
  |none=>simp_all
  |some b=>
   rw[C] at hf;cases b with
   |true=>
    simp at hf;subst hf;refine⟨some (i,x.val),rfl,rfl,A2e _,x,e,by simp,by simp,rfl,rfl,?_,?_⟩
    ·unfold keq at C;grind
    ·unfold keq at C;split at C
     ·split at C
      ·rename_i Y;subst Y;simp at C;subst C;simp_all [Instr.sameBits]
      ·cases C
     ·simp at C;subst C;simp_all [Instr.sameBits,ba_beq]
     ·cases C
   |false=>
    obtain⟨M,h1,h2⟩:=Rs O U hs es l (i+1) r hl.2 hf;refine⟨M,h1,?_⟩
    match r,M,h2 with
    |none,none,_=>trivial
    |some (j,d),some (j',v),h2=>
     obtain⟨Z,g2,x',y,g3,g4,g5⟩:=h2;have e1:j-i=(j-(i+1))+1:=by omega
     exact⟨Z,by omega,x',y,by simp_all,by simp_all,g5⟩
def CV{empty:Bool}{n:Nat}(ht:Au P t=some ti)(C:Gk ti.sh=true)(k:Value):(Instr.checkKey empty (n+1) t k).run P w=.ok () w:=by
 have:(∃k,P.underlying t=some (.int k))\/P.underlying t=some .string:=by
  cases hs:ti.sh with
  |int k=>exact .inl ⟨k,S8 ht hs⟩
  |str=>exact .inr (LM ht hs)
  |_=>rw [hs] at C;cases C
 rcases this with⟨k,M⟩|M
 ·simp_all [Instr.checkKey,A2o,run_underlying,Result.andThen]
 simp_all [Instr.checkKey,A2o,run_underlying,Result.andThen]
def Gf(ht:Au P t=some ti)(M:Gk ti.sh=true){es:List (Value×Nat×D)}{l:List MapEntry}{r:Option (Nat×D)}(hl:l.map (·.key)=es.map (·.1))(hf:Ez ti.sh kv es 0=some r):
  ∃N,(Instr.findKey t kv l).run P w=.ok N w/\T7 es l kv 0 r N:=by
 obtain⟨C,hu,h1,h2⟩:∃C,P.underlying t=some C/\(∀k,ti.sh=.int k->C=.int k)/\(ti.sh=.str->C=.string):=by
  cases hs:ti.sh with
  |int k=>exact ⟨_,S8 ht hs,λO h=>(by simp_all),λh=>(by cases h)⟩
  |str=>exact ⟨_,LM ht hs,λO h=>(by cases h),λ_=>rfl⟩
  |_=>rw [hs] at M;cases M
 obtain⟨N,U,V⟩:=Rs M h1 h2 es l 0 r hl hf;simp_all [Instr.findKey,A2o,run_underlying,Result.andThen,A2u]
def lookRel(w:World)(I:Nat->Prop)(mu:Nat->Option Value):Option (Nat×D)->Option (Nat×Value)->Prop
 |none,none=>True
 |some (_,d),some (_,v)=>Rep w I mu d v
 |_,_=>False
def A0l{te:TI}(ht:Au P t=some tm)(hs:tm.sh=.map tk e')(Y:Au P tk=some ti)(a2:Au P e'=some te){ok:Bool}(C:YV hp ti.sh te ok dm dk=some (e,c))(hc:c)
  (hr:AA w0 M0 I0 fr I mu h w) {m:Value} (hm:Rep w I mu dm m) (hk:Rep w I mu dk k) (hb:∀b ∈ e.rd,h b=hp b) (id:Nat):AT P (λw=>(Instr.lookup t m k ok).run P w) id e.d e.up w0 M0 I0 fr I mu h w:=by
 have hu:=J8 ht hs;have fin:∀ {d:D} {v:Value} {b:Bool},Rep w I mu d v->Rep w I mu (UY ok d b) (if ok=true then .tuple #[v,.bool b] else v):=by
  intro d v b hv;cases ok with
  |false=>exact hv
  |true=>
   refine .tup [d,.val (.bool b)] [v,.bool b] rfl λi hi=>?_
   match i,hi with
   |0,_=>exact hv
   |1,_=>exact .val _ trivial
 unfold YV at C;split at C
 ·split at C
  ·rename_i z hz;obtain⟨rfl,rfl⟩:=C;have a5:=hm.val_inv;subst a5;obtain⟨z',Z,V⟩:=zD_rep a2 hz;obtain⟨N,O,M⟩:=Gf (w:=w) (kv:=k) (es:=[]) (l:=[]) Y hc rfl rfl
   match N,M with
   |none,_=>
    refine AT.same hr _ ?_ (fin V);simp_all [Instr.lookup,A2o,run_underlying,Result.andThen,A2u,CV]
  ·cases C
 ·rename_i b kv;have a3:=hk.val_inv;rw[a3] at hk|-;clear a3;split at C
  case h_2=>cases C
  rename_i es ck hx;have a4:b ∈ e.rd->Gk ti.sh=true->∀r,Ez ti.sh kv es 0=some r->∃(U:Nat) (l:List MapEntry),m=.map (some U)/\w.heap[U]? =some (.map l.toArray ck)/\∃N,(Instr.findKey tk kv l).run P w=.ok N w/\lookRel w I mu r N:=by
   intro a6 a7 r a8;obtain⟨U,l,h1,h2,h3,h4,h5⟩:=hr.blk b _ ((hb b a6).trans hx);cases hm with
   |mref _ a9 a0=>
    rw[h1] at a0;simp at a0;subst a0;obtain⟨N,O,M⟩:=Gf Y a7 h3 a8;refine⟨U,l,rfl,h2,N,O,?_⟩
    match r,N,M with
    |none,none,_=>trivial
    |some (j,d),some (j',v),M=>
     obtain⟨_,_,x,y,Z,V,rfl,rfl,_⟩:=M;exact h5 j x y Z V
  split at C
  ·rename_i j d a1;obtain⟨rfl,rfl⟩:=C;obtain⟨U,l,rfl,h2,N,O,M⟩:=a4 (by simp) hc _ a1
   match N,M with
   |some (j',v),M=>
    refine AT.same hr _ ?_ (fin M);simp[Instr.lookup,A2o,run_underlying hu,Result.andThen,getObj,Sem.run,h2,A2u,CV Y hc,O]
  ·rename_i a1;split at C
   ·rename_i z hz;obtain⟨rfl,rfl⟩:=C;obtain⟨U,l,rfl,h2,N,O,M⟩:=a4 (by simp) hc _ a1;obtain⟨z',Z,V⟩:=zD_rep (w:=w) (I:=I) (mu:=mu) a2 hz
    match N,M with
    |none,M=>
     refine AT.same hr _ ?_ (fin V);simp[Instr.lookup,A2o,run_underlying hu,Result.andThen,getObj,Sem.run,h2,A2u,CV Y hc,O,Z]
   ·cases C
  ·cases C
 ·cases C
def Nn{l:List MapEntry}{x:MapEntry}{v:Value}(C:l[i]? =some x)(M:x.key=kv):(l.modify i λe=> {e with key:=kv,val:=v}).map (·.key)=l.map (·.key):=by
 apply A3F;grind
def QI{α:Type}{es:List (Value×Nat×D)}{d:D}(f:Value×Nat×D->α)(hf:∀k n d C,f (k,n,d)=f (k,n,C)):(NY es i d).map f=es.map f:=by
 apply A3F;grind [NY]
def Sg{a:Value}(h:Instr.sameBits 10000 a kv=true)(w:World):(Instr.keyThatStays a kv).run P w=.ok kv w:=by
 simp[Instr.keyThatStays,h]
def updRel(l:List MapEntry)(kv:Value):Option (Nat×D)->Option (Nat×Value)->Prop
 |none,none=>True
 |some (j,_),some (j',_)=>j=j'/\∃x,l[j]? =some x/\x.key=kv/\Instr.sameBits 10000 x.key kv=true
 |_,_=>False
def Uo(ht:Au P t=some tm)(hs:tm.sh=.map tk e')(a0:Au P tk=some ti){d:D}(N:WA hp ti.sh dm dk d=some (e,c))(hc:c)
  (hr:AA w0 M0 I0 fr I mu h w) {m:Value} (hm:Rep w I mu dm m) (hk:Rep w I mu dk k) (hv:Rep w I mu d v) (hb:∀b ∈ e.rd,h b=hp b) (id:Nat):
  e.d=.any/\∃w' I' mu',(Instr.mapUpdate t m k v).run P w=.ok () w'/\Ext I mu w I' mu' w'/\AA w0 M0 I0 (λb=>fr b/\b≠id) I' mu' (λb=>AZ b (h b) e.up) w':=by
 have hu:=J8 ht hs;unfold WA at N;split at N
 case h_2=>cases N
 rename_i b kv;have a3:=hk.val_inv;rw[a3] at hk|-;clear a3;split at N
 case h_2=>cases N
 rename_i es ck hx;have wr:∀ {C:Nat} {l:List MapEntry} (V:List MapEntry) (Z:Nat) (es':List (Value×Nat×D)),h b=some (.map es ck)->mu b=some (.map (some C))->w.heap[C]? =some (.map l.toArray ck)->V.map (·.key)=es'.map (·.1)->V.map (·.born)=es'.map (·.2.1)->
   (∀(i:Nat) (x:MapEntry) (y:Value×Nat×D),V[i]? =some x->es'[i]? =some y->Rep w I mu y.2.2 x.val)->
   Ext I mu w I mu {w with heap:=w.heap.setIfInBounds C (.map V.toArray Z)}/\AA w0 M0 I0 (λb=>fr b/\b≠id) I mu (λc=>AZ c (h c) [(b,some (.map es' Z))]) {w with heap:=w.heap.setIfInBounds C (.map V.toArray Z)}:=by
  intro C l V Z es' M h1 h2 O h4 h5;have hlt:=(hr.loc b _ _ C M h1 rfl).2.2;have a7:HZ C w {w with heap:=w.heap.setIfInBounds C (.map V.toArray Z)}:=⟨rfl,rfl,rfl,by simp,λj hj=>by grind⟩
  have ac:¬I C:=(hr.loc b _ _ C M h1 rfl).2.1;have a8:∀j,I j->({w with heap:=w.heap.setIfInBounds C (.map V.toArray Z)}:World).heap[j]? =w.heap[j]?:=by grind
  have:=hr.wrote (id:=id) M h1 rfl a7 (.map es' Z) ⟨C,V,h1,by simp[hlt],O,h4,λi x y hx hy=>(h5 i x y hx hy).mono a8 (λ_ h=>h) (λ_ _ h=>h)⟩;simp_all
 have a4:b ∈ e.rd->Gk ti.sh=true->∀r,Ez ti.sh kv es 0=some r->∃(C:Nat) (l:List MapEntry),m=.map (some C)/\h b=some (.map es ck)/\mu b=some (.map (some C))/\w.heap[C]? =some (.map l.toArray ck)/\l.map (·.key)=es.map (·.1)/\l.map (·.born)=es.map (·.2.1)/\
   (∀(i:Nat) (x:MapEntry) (y:Value×Nat×D),l[i]? =some x->es[i]? =some y->Rep w I mu y.2.2 x.val)/\∃Y,(Instr.findKey tk kv l).run P w=.ok Y w/\updRel l kv r Y:=by
  intro a9 aa r ab;have M:=(hb b a9).trans hx;obtain⟨C,l,h1,h2,O,h4,h5⟩:=hr.blk b _ M;cases hm with
  |mref _ ad a1=>
   rw[h1] at a1;simp at a1;subst a1;obtain⟨Y,q1,U⟩:=Gf a0 aa O ab;refine⟨C,l,rfl,M,h1,h2,O,h4,h5,Y,q1,?_⟩
   match r,Y,U with
   |none,none,_=>trivial
   |some (j,d),some (j',v),U=>
    obtain⟨g0,_,x,y,g1,g2,rfl,rfl,g3,g4⟩:=U;refine⟨g0,x,g1,?_,g4⟩;have:=congrArg (λz=>z[j]?) O;grind
 split at N
 ·rename_i j d' a2;obtain⟨rfl,rfl⟩:=N;obtain⟨C,l,rfl,M,h1,h2,O,h4,h5,Y,q1,U⟩:=a4 (by simp) hc _ a2;refine⟨rfl,?_⟩
  match Y,U with
  |some (j',v'),U=>
   obtain⟨rfl,x,g1,g2,g3⟩:=U;have:=wr (l.modify j λe=> {e with key:=kv,val:=v}) ck (NY es j d) M h1 h2 (by rw[Nn g1 g2,QI _ (λ_ _ _ _=>rfl),O]) (by
     rw[QI _ (λ_ _ _ _=>rfl),<-h4];apply A3F;intro i;grind) (λi x' y' a5 a6=>by
     simp[NY,List.getElem?_modify] at a5 a6;by_cases h:j=i
     ·grind
     grind)
   refine⟨_,I,mu,?_,this.1,this.2⟩;have hlt:=(hr.loc b _ _ C M h1 rfl).2.2;have e1:(l.toArray.modify j λe=> {e with key:=kv,val:=v})=(l.modify j λe=> {e with key:=kv,val:=v}).toArray:=by simp
   simp[Instr.mapUpdate,A2o,run_underlying hu,Result.andThen,getObj,Sem.run,h2,CV a0 hc,q1,A37,g1,A3g,A2P,Sg g3,setObj,e1]
 ·rename_i a2;simp only[A2j,A2B] at N;obtain⟨rfl,rfl⟩:=N;obtain⟨C,l,rfl,M,h1,h2,O,h4,h5,Y,q1,U⟩:=a4 (by simp) hc _ a2;refine⟨rfl,?_⟩
  match Y,U with
  |none,U=>
   have ae:l.length=es.length:=by have:=congrArg List.length O;grind
   have:=wr (l++[{key:=kv,val:=v,born:=ck}]) (ck+1) (es++[(kv,ck,d)]) M h1 h2 (by simp[O]) (by simp[h4]) (λi x' y' a5 a6=>by
     rcases Nat.lt_trichotomy i l.length with hlt|heq|hgt
     ·grind
     ·grind
     grind)
   refine⟨_,I,mu,?_,this.1,this.2⟩;have e1:l.toArray.push ({key:=kv,val:=v,born:=ck}:MapEntry)=(l++[({key:=kv,val:=v,born:=ck}:MapEntry)]).toArray:=by simp
   simp[Instr.mapUpdate,A2o,run_underlying hu,Result.andThen,getObj,Sem.run,h2,CV a0 hc,q1,setObj,e1]
 ·cases N
def Db{α β:Type}(f:α->β):∀(l:List α) (i:Nat),(l.eraseIdx i).map f=(l.map f).eraseIdx i
 |[],i=>by simp
 |x::l,0=>by simp
 |x::l,i+1=>by simp[Db f l i]
def runs_del(ht:Au P t=some tm)(hs:tm.sh=.map tk e')(a0:Au P tk=some ti)(M:delE hp ti.sh dm dk=some (e,c))(hc:c)
  (hr:AA w0 M0 I0 fr I mu h w) {m:Value}  (a2:ts[0]? =some t) (hm:Rep w I mu dm m) (hk:Rep w I mu dk k) (hb:∀b ∈ e.rd,h b=hp b) (id:Nat):
  AT P (λw=>(Builtin.delete_ ts ty #[m,k]).run P w) id e.d e.up w0 M0 I0 fr I mu h w:=by
 have hu:=J8 ht hs;unfold delE at M;split at M
 case h_2=>cases M
 rename_i b kv;have a3:=hk.val_inv;rw[a3] at hk|-;clear a3;split at M
 case h_2=>cases M
 rename_i es ck hx;have wr:∀ {C:Nat} {l:List MapEntry} (N:List MapEntry) (es':List (Value×Nat×D)),h b=some (.map es ck)->mu b=some (.map (some C))->w.heap[C]? =some (.map l.toArray ck)->N.map (·.key)=es'.map (·.1)->N.map (·.born)=es'.map (·.2.1)->
   (∀(i:Nat) (x:MapEntry) (y:Value×Nat×D),N[i]? =some x->es'[i]? =some y->Rep w I mu y.2.2 x.val)->
   Ext I mu w I mu {w with heap:=w.heap.setIfInBounds C (.map N.toArray ck)}/\AA w0 M0 I0 (λb=>fr b/\b≠id) I mu (λc=>AZ c (h c) [(b,some (.map es' ck))]) {w with heap:=w.heap.setIfInBounds C (.map N.toArray ck)}:=by
  intro C l N es' O h1 h2 U Z h5;have hlt:=(hr.loc b _ _ C O h1 rfl).2.2;have a6:HZ C w {w with heap:=w.heap.setIfInBounds C (.map N.toArray ck)}:=⟨rfl,rfl,rfl,by simp,λj hj=>by grind⟩
  have ab:¬I C:=(hr.loc b _ _ C O h1 rfl).2.1;have a7:∀j,I j->({w with heap:=w.heap.setIfInBounds C (.map N.toArray ck)}:World).heap[j]? =w.heap[j]?:=by grind
  have:=hr.wrote (id:=id) O h1 rfl a6 (.map es' ck) ⟨C,N,h1,by simp[hlt],U,Z,λi x y hx hy=>(h5 i x y hx hy).mono a7 (λ_ h=>h) (λ_ _ h=>h)⟩;simp_all
 have a4:b ∈ e.rd->Gk ti.sh=true->∀r,Ez ti.sh kv es 0=some r->∃(C:Nat) (l:List MapEntry),m=.map (some C)/\h b=some (.map es ck)/\mu b=some (.map (some C))/\w.heap[C]? =some (.map l.toArray ck)/\l.map (·.key)=es.map (·.1)/\l.map (·.born)=es.map (·.2.1)/\
   (∀(i:Nat) (x:MapEntry) (y:Value×Nat×D),l[i]? =some x->es[i]? =some y->Rep w I mu y.2.2 x.val)/\∃V,(Instr.findKey tk kv l).run P w=.ok V w/\T7 es l kv 0 r V:=by
  intro a8 a9 r aa;have O:=(hb b a8).trans hx;obtain⟨C,l,h1,h2,U,Z,h5⟩:=hr.blk b _ O;cases hm with
  |mref _ ac a5=>
   rw[h1] at a5;simp at a5;obtain⟨V,q1,Y⟩:=Gf (w:=w) a0 a9 U aa;grind
 split at M
 ·rename_i j d' a1;obtain⟨rfl,rfl⟩:=M;obtain⟨C,l,rfl,O,h1,h2,U,Z,h5,V,q1,Y⟩:=a4 (by simp) hc _ a1
  match V,Y with
  |some (j',v'),Y=>
   obtain⟨rfl,_⟩:=Y;have:=wr (l.eraseIdx j) (es.eraseIdx j) O h1 h2 (by rw[Db,Db,U]) (by rw[Db,Db,Z]) (λi x' y' ad ae=>by
     grind)
   refine⟨.tuple #[],_,I,mu,?_,this.1,this.2,.any _⟩;have e1:l.toArray.eraseIdxIfInBounds j=(l.eraseIdx j).toArray:=by
    grind
   simp[Builtin.delete_,a2,A2o,run_underlying hu,Result.andThen,getObj,Sem.run,h2,CV a0 hc,q1,setObj,e1,A37,A2Z,A3B,A2u]
 ·rename_i a1;obtain⟨rfl,rfl⟩:=M;obtain⟨C,l,rfl,O,h1,h2,U,Z,h5,V,q1,Y⟩:=a4 (by simp) hc _ a1
  match V,Y with
  |none,Y=>
   have:=wr l es O h1 h2 U Z h5;refine⟨.tuple #[],_,I,mu,?_,this.1,this.2,.any _⟩;simp[Builtin.delete_,a2,A2o,run_underlying hu,Result.andThen,getObj,Sem.run,h2,CV a0 hc,q1,setObj,A37,A2Z,A3B,A2u]
 ·cases M
def WY{id:Nat}(C:mapE id=some (e,c))(hr:AA w0 M0 I0 fr I mu h w)(M:fr id):AT P (λw=>(Instr.makeMap t none).run P w) id e.d e.up w0 M0 I0 fr I mu h w:=by
 obtain⟨rfl,rfl⟩:=C;have:=hr.new M (.map #[] 0) (.map (some w.heap.size)) rfl (.map [] 0) ⟨w.heap.size,[],by simp[AM],World.alloc_heap_new w _,rfl,rfl,(by simp_all)⟩;exact⟨.map (some w.heap.size),_,I,_,by simp[Instr.makeMap,newObj,Sem.run],this.2,this.1,.mref id _ (by simp[AM])⟩
def WX{Z:TypeId}{O:TI}(ht:Au P t=some O)(hs:O.sh=.map Z e'){id:Nat}{d:D}(C:Sq id hp d=some (e,c))(hr:AA w0 M0 I0 fr I mu h w)(M:fr id)(U:Rep w I mu d v)(hb:∀b ∈ e.rd,h b=hp b):
  AT P (λw=>(Instr.range t v).run P w) id e.d e.up w0 M0 I0 fr I mu h w:=by
 have V:=J8 ht hs;have a0:=hr.fresh id M;unfold Sq at C;split at C
 ·rename_i b;split at C
  ·rename_i es ck hx;obtain⟨rfl,rfl⟩:=C;obtain⟨Y,l,h1,h2,h3,h4,h5⟩:=hr.blk b _ ((hb b (by simp)).trans hx);cases U with
   |mref _ a2 N=>
    rw[h1] at N;simp at N;subst N;have:=hr.new M (.mapIter (some Y) ck #[] ck) (.pointer (some ⟨w.heap.size,0,none⟩)) rfl (.iter b ck [] ck) ⟨w.heap.size,Y,by simp[AM],BN a0 b _ h1,World.alloc_heap_new w _⟩;exact⟨.pointer (some ⟨w.heap.size,0,none⟩),_,I,_,by simp[Instr.range,run_underlying V,newObj,Sem.run,getObj,h2],this.2,this.1,.ref id 0 0 1 w.heap.size (by simp[AM])⟩
  ·cases C
 ·simp only[A2j,A2B] at C;obtain⟨rfl,rfl⟩:=C;have a1:=U.val_inv;subst a1;have:=hr.new M (.mapIter none 0 #[] 0) (.pointer (some ⟨w.heap.size,0,none⟩)) rfl (.obj (.mapIter none 0 #[] 0)) ⟨w.heap.size,by simp[AM],World.alloc_heap_new w _⟩;exact⟨.pointer (some ⟨w.heap.size,0,none⟩),_,I,_,by simp[Instr.range,run_underlying V,newObj,Sem.run],this.2,this.1,.ref id 0 0 1 w.heap.size (by simp[AM])⟩
 ·cases C
def PM{born:Nat}:∀ {es:List (Value×Nat×D)} {l:List MapEntry} {k:Value} {d:D},PO born es=some (k,d)->l.map (·.key)=es.map (·.1)->l.map (·.born)=es.map (·.2.1)->
  ∃(i:Nat) (x:MapEntry) (y:Value×Nat×D),l.find? (λe=>e.born==born)=some x/\l[i]? =some x/\es[i]? =some y/\x.key=k/\d=y.2.2
 |[],l,k,d,h,_,_=>by cases h
 |e::es,[],k,d,h,h1,_=>by simp at h1
 |e::es,x::l,k,d,h,h1,h2=>by
  simp at h1 h2;simp[PO] at h;cases C:(e.2.1==born) with
  |true=>
   simp[C,cond_true,A2B] at h;exact⟨0,x,e,by simp_all,by simp,by simp,by simp_all,h.2.symm⟩
  |false=>
   simp[C,cond_false] at h;obtain⟨i,M,y,U,V,Y,N,O⟩:=PM h h1.2 h2.2;exact⟨i+1,M,y,by simp_all,by simp_all,by simp_all,N,O⟩
def X1{d:D}(C:T8 hp d=some (e,c))(hc:c)(hr:AA w0 M0 I0 fr I mu h w)(O:Rep w I mu d v)(hb:∀b ∈ e.rd,h b=hp b)(id:Nat):
  AT P (λw=>(Instr.entry v).run P w) id e.d e.up w0 M0 I0 fr I mu h w:=by
 unfold T8 at C;split at C
 case h_2=>cases C
 rename_i b sz;split at C
 case h_2=>cases C
 rename_i m a2 seen last U;split at C
 case h_2=>cases C
 rename_i es ck hm;split at C
 case h_2=>cases C
 rename_i born a3;split at C
 case h_2=>cases C
 rename_i k d' V;obtain⟨rfl,rfl⟩:=C;obtain⟨Y,Z⟩:=hc;subst Y;obtain⟨ki,km,h1,h2,h3⟩:=hr.blk b _ ((hb b (by simp)).trans U);obtain⟨a4,l,M,g2,g3,g4,g5⟩:=hr.blk m _ ((hb m (by simp)).trans hm);rw[h2] at M;simp at M;subst M;cases O with
 |ref _ _ _ _ kv N=>
  rw[h1] at N;simp at N;subst N;obtain⟨i,x,y,q1,q2,q3,q4,q5⟩:=PM V g3 g4;subst q5;refine AT.same hr (.tuple #[x.key,x.val]) ?_ (.tup [.val k,y.2.2] [x.key,x.val] rfl λj hj=>?_)
  ·have a0:seen.toArray.back? =some born:=by
    simp_all
   have a1:l.toArray.find? (λe=>e.born==born)=some x:=by
    simp_all
   simp[Instr.entry,getObj,Sem.run,h3,g2,a0,a1]
  ·match j,hj with
   |0,_=>show Rep w I mu (.val k) x.key;rw[q4];exact .val k Z
   |1,_=>exact g5 i x y q2 q3
end
end Go.Ab
