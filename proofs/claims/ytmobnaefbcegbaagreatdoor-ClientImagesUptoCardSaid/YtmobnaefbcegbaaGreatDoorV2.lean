/- The program is walked: part 3 of 18. -/
import Derived.Test.YtmobnaefbcegbaaGreatDoorV1
import Derived.Lib.AppendZerosOnto
set_option maxHeartbeats 4000000
set_option maxRecDepth 20000
set_option linter.all false
namespace Go.Ab
open Go.RowKit
variable{C:LLa}{vs:List Value}{i nx:Nat}{w':World}{r:D}{hp:Nat->Option Blk}{v:Value}{t ty e' T:TypeId}{ti:TI}{e:Eff}{c:Prop}{ts:Array TypeId}{ds cs:List D}{P:Program}{I:Nat->Prop}{mu:Nat->Option Value}{dst:Option Tmp}{pos:String}{af:Array Edge}{gd:Option (Nat×Bool)}{ops:Array Oper}{f:FuncId}{ev:Operand->D}{l:List Oper}{acc:List Eff}{K:List Eff->St->Prop}
section
variable{P:Program}{w0:World}{M0:Nat->Prop}{I0:Gh}{fr I:Nat->Prop}{mu:Nat->Option Value}{h:Nat->Option Blk}{w:World}
def B3.take{es:LLa}{sz:Nat}{us:List Value}(h:B3 w I mu es sz us){n:Nat}(hn:n<=es.length):B3 w I mu (es.take n) sz (us.take (n*sz)):=by
 have N:n*sz<=es.length*sz:=A2n _ hn;have C:∀i,i<n->nr (es.take n) i=nr es i:=by
  grind [nr]
 have hl:(es.take n).length=n:=by simp;omega
 refine⟨by rw[hl,A2x,h.1];omega,λi hi=>?_,λi j hi M=>?_⟩
 ·rw[hl] at hi;rw[C i hi];exact h.2.1 i (by omega)
 ·rw[hl] at hi;have hlt:i*sz+j<n*sz:=by
   have:i*sz+sz<=n*sz:=by rw[<-A2M];exact A2n _ hi
   omega
  have e:nv (us.take (n*sz)) (i*sz+j)=nv us (i*sz+j):=by grind [nv]
  rw[C i hi,e];exact h.2.2 i j (by omega) M
def B3.drop{es:LLa}{sz:Nat}{us:List Value}(h:B3 w I mu es sz us)(n:Nat):B3 w I mu (es.drop n) sz (us.drop (n*sz)):=by
 have C:∀i,nr (es.drop n) i=nr es (n+i):=by
  grind [nr]
 refine⟨by simp[A2t,h.1,Nat.sub_mul],λi hi=>?_,λi j hi M=>?_⟩
 ·simp at hi;rw[C i];exact h.2.1 _ (by omega)
 ·simp at hi;have e:nv (us.drop (n*sz)) (i*sz+j)=nv us ((n+i)*sz+j):=by
   simp[nv,A29];grind
  rw[C i,e];exact h.2.2 _ j (by omega) M
def B3.over{es:LLa}{sz:Nat}{us:List Value}(h:B3 w I mu es sz us)(k:B3 w I mu C sz vs)(hi:i+C.length<=es.length):B3 w I mu (AI es i C) sz (AI us (i*sz) vs):=by
 have e:i*sz+vs.length=(i+C.length)*sz:=by rw[k.1,A3p]
 unfold AI;rw[e];exact(h.take (by omega)).append (k.append (h.drop _))
def Ut{sz:Nat}(U:0<sz)(N:B3 w I mu C sz vs)(Y:∀y ∈ C,∀d ∈ y,AV d=true):∀u ∈ vs,u.oneCell'=true:=by
 intro u Z;obtain⟨m,hm,rfl⟩:=A2W.1 Z;have a0:m<C.length*sz:=by rw[<-N.1];exact hm
 have M:m/sz<C.length:=(Nat.div_lt_iff_lt_mul U).2 a0;have q2:m%sz<sz:=Nat.mod_lt _ U;have O:=N.2.2 _ _ M q2;have q4:m/sz*sz+m%sz=m:=by rw[Nat.mul_comm];exact Nat.div_add_mod m sz
 rw[q4] at O;have q5:nv vs m=vs[m]:=by simp[nv,A29,hm]
 rw[q5] at O;refine O.one ?_;have V:nr C (m/sz)=C[m/sz]:=by simp[nr,A29,M]
 have q7:C[m/sz].length=sz:=by rw[<-V];exact N.2.1 _ M
 rw[V];have q8:nd C[m/sz] (m%sz)=C[m/sz][m%sz]'(by omega):=by grind [nd]
 rw[q8];exact Y _ (A3H M) _ (A3H _)
def GB.take{A:Option Addr}{us:List Value}(h:GB w A us)(n:Nat):GB w A (us.take n):=by
 rcases h with rfl|⟨k,o,rfl,hc⟩
 ·exact .inl (by simp)
 ·refine .inr ⟨k,o,rfl,λj u C=>?_⟩;grind
def Uu{es:LLa}{sz:Nat}{us:List Value}(h:B3 w I mu es sz us)(C:∀j,I j->w'.heap[j]? =w.heap[j]?):B3 w' I mu es sz us:=⟨h.1,h.2.1,λi j hi M=>(h.2.2 i j hi M).mono C (λ_ h=>h) (λ_ _ h=>h)⟩
def MW(r:Bool)(es:LLa)(sz:Nat):Blk:=bif r then .rows es sz else .grow es sz
def KF{b sz:Nat}{r:Bool}{es:LLa}(hr:AA w0 M0 I0 fr I mu h w)(M:h b=some (MW r es sz))(N:B3 w I mu C sz vs)(hi:i+C.length<=es.length)(a4:∀u ∈ vs,u.oneCell'=true)(a8:0<C.length)(id:Nat):
  ∃(k:Nat) (v:Value) (T:TypeId) (us:List Value),mu b=some v/\Al v=some k/\w.heap[k]? =some (.cells us.toArray T (0,0))/\es.length*sz<=us.length/\∃w',(storeCells ⟨k,i*sz,none⟩ vs).run P w=.ok () w'/\Ext I mu w I mu w'/\
   AA w0 M0 I0 (λb=>fr b/\b≠id) I mu (λc=>AZ c (h c) [(b,some (MW r (AI es i C) sz))]) w':=by
 have a9:i*sz+C.length*sz<=es.length*sz:=by rw[<-A3p];exact A2n _ hi
 cases r
 case true=>
  obtain⟨k,T,us,h1,h2,Z,h4,V⟩:=hr.blk b _ M;have hl:=hr.loc b _ _ k M h1 rfl;obtain⟨w',a0,a1,U⟩:=C0 vs 0 (i*sz) us w h2 (by rw[N.1];omega) a4;have a2:∀j,I j->w'.heap[j]? =w.heap[j]?:=λj hj=>U.other j (by grind);have O:=Uu ((show B3 w I mu es sz us from⟨Z,h4,V⟩).over N hi) a2;have:=hr.wrote (id:=id) M h1 rfl U (.rows (AI es i C) sz) ⟨k,T,AI us (i*sz) vs,h1,a1,O.1,O.2.1,O.2.2⟩;exact⟨k,_,T,us,h1,rfl,h2,by omega,w',a0,this.2,this.1⟩
 case false=>
  obtain⟨A,cap,T,us,h1,h4,Z,V⟩:=hr.blk b _ M;rcases V with⟨_,rfl⟩|⟨k,q0,rfl,h2,q3,q4,V⟩
  ·simp_all
  have a3:Al (.slice (some ⟨k,0,none⟩) es.length cap)=some k:=by simp[Al];omega
  have hl:=hr.loc b _ _ k M h1 a3;have aa:es.length*sz<=cap*sz:=A2n _ q3;obtain⟨w',a0,a1,U⟩:=C0 vs 0 (i*sz) us w h2 (by rw[N.1];omega) a4;have a2:∀j,I j->w'.heap[j]? =w.heap[j]?:=λj hj=>U.other j (by grind);have a5:B3 w I mu es sz (us.take (es.length*sz)):=by
   refine⟨by simp;omega,h4,λa c Y hc=>?_⟩;have hlt:a*sz+c<es.length*sz:=by
    have:a*sz+sz<=es.length*sz:=by rw[<-A2M];exact A2n _ Y
    omega
   grind [nv]
  have O:=Uu (a5.over N hi) a2;have a6:(AI es i C).length=es.length:=BC hi;have a7:∀m,m<es.length*sz->nv (AI us (i*sz) vs) m=nv (AI (us.take (es.length*sz)) (i*sz) vs) m:=by
   have ab:=N.1;grind [Hw,nv]
  have:=hr.wrote (id:=id) M h1 a3 U (.grow (AI es i C) sz) ⟨_,cap,T,AI us (i*sz) vs,by simp_all,O.2.1,Z,.inr ⟨k,q0,rfl,a1,by omega,by rw[BC (by rw[N.1];omega),q4],λa c Y hc=>by
   rw[a6] at Y;have hlt:a*sz+c<es.length*sz:=by
    have:a*sz+sz<=es.length*sz:=by rw[<-A2M];exact A2n _ Y
    omega
   rw[a7 _ hlt];exact O.2.2 a c (by omega) hc⟩⟩
  exact⟨k,_,T,us,h1,a3,h2,by omega,w',a0,this.2,this.1⟩
def US(hp:Nat->Option Blk):D->Option (Nat×Nat×Nat×LLa×Nat×Bool)
 |.sref b i len _ sz=>match hp b with
  |some (.rows es sz')=>bif sz==sz' then some (b,i,len,es,sz,true) else none
  |_=>none
 |.gsub b i len sz=>match hp b with
  |some (.grow es sz')=>bif sz==sz' then some (b,i,len,es,sz,false) else none
  |_=>none
 |_=>none
def Pe{d:D}{b len sz:Nat}{es:LLa}{r:Bool}(C:US hp d=some (b,i,len,es,sz,r))(hr:AA w0 M0 I0 fr I mu h w)(Y:Rep w I mu d v)(hb:h b=hp b)(a3:i+len<=es.length):
  h b=some (MW r es sz)/\∃A cap,v=.slice A len cap/\(0<len->∀k u,mu b=some u->Al u=some k->A=some ⟨k,i*sz,none⟩):=by
 unfold US at C;split at C
 ·rename_i b' i' a1 cap' N;split at C
  ·rename_i es' O U;cases M:(N==O) with
   |false=>simp_all
   |true=>
    rw[M] at C;obtain⟨rfl,rfl,rfl,rfl,rfl,rfl⟩:=C;have V:=beq_iff_eq.1 M;subst V;refine⟨hb.trans U,?_⟩;cases Y with
    |sref _ _ _ _ _ k Z=>
     grind [Al]
  ·cases C
 ·rename_i b' i' a1 N;split at C
  ·rename_i es' O U;cases M:(N==O) with
   |false=>simp_all
   |true=>
    rw[M] at C;obtain⟨rfl,rfl,rfl,rfl,rfl,rfl⟩:=C;have V:=beq_iff_eq.1 M;subst V;have a0:=hb.trans U;refine⟨a0,?_⟩;cases Y with
    |gsub _ _ _ _ A B n cap Z a4 hB=>
     refine⟨_,_,rfl,λa5 k' u hu hl=>?_⟩;have a2:=hr.blk _ _ a0;obtain⟨A',cap',T,us,g1,g2,g3,g4⟩:=a2;rw[Z] at g1 hu;obtain⟨rfl,_,rfl⟩:=g1;rcases g4 with⟨_,rfl⟩|⟨k,q0,rfl,_⟩
     ·omega
     ·cases hu;simp[Al] at hl;grind [Ca]
  ·cases C
 ·cases C
def capE(ti:TI):D->Res
 |.sref _ _ _ cap _=>match ti.sh with
  |.slice _=>pvc (.val (.int .i64 cap)) (cap<=9223372036854775807)
  |_=>none
 |_=>none
theorem runs_cap(ht:Au P t=some ti){d:D}(C:capE ti d=some (e,c))(hc:c)(hr:AA w0 M0 I0 fr I mu h w)(M:Rep w I mu d v)(id:Nat):
  AT P (λw=>(Builtin.cap_ #[t] ty #[v]).run P w) id e.d e.up w0 M0 I0 fr I mu h w:=by
 unfold capE at C;split at C
 ·split at C
  ·rename_i N;obtain⟨rfl,rfl⟩:=C;cases M with
   |sref _ _ _ _ _ k O=>exact AT.same hr _ (by simp[Builtin.cap_,run_underlying (AC ht N),goInt]) (.val _ (by simp[okP,DJ,DK];omega))
  ·cases C
 ·cases C
def Z9(hp:Nat->Option Blk)(te:TI)(dst src:D):Res:=
 match FQ hp src,US hp dst with
 |some (news,rd,c),some (b,i,len,es,sz,r)=>some (⟨.val (.int .i64 (min news.length len:Nat)),[(b,some (MW r (AI es i (news.take (min news.length len))) sz))],b::rd⟩,
   c/\sz=te.sz/\0<sz/\i+len<=es.length/\len<=9223372036854775807/\(∀y ∈ news,y.length=te.sz)/\∀y ∈ news.take (min news.length len),∀d ∈ y,AV d=true)
 |_,_=>none
def Ef{α:Type}(C:List α)(i:Nat):AI C i []=C:=by simp[AI]
def A0n{C:TI}(ht:Au P t=some ti)(hs:ti.sh=.slice e')(U:Au P e'=some C)(V:ts[0]? =some t){Y ds:D}(N:Z9 hp C Y ds=some (e,c))(hc:c)
  (hr:AA w0 M0 I0 fr I mu h w) {x:Value} (hv:Rep w I mu Y v) (hx:Rep w I mu ds x) (hb:∀b ∈ e.rd,h b=hp b) (id:Nat):AT P (λw=>(Builtin.copy_ ts ty #[v,x]).run P w) id e.d e.up w0 M0 I0 fr I mu h w:=by
 have Z:=AC ht hs;unfold Z9 at N;split at N
 case h_2=>cases N
 rename_i M rd c' b i len es sz r hn hd;obtain⟨rfl,rfl⟩:=N;obtain⟨a7,a8,a0,a9,aj,aa,a1⟩:=hc;subst a8;obtain⟨B,a2,vs,rfl,ab,hB⟩:=CB hn a7 hr hx (by simp_all) a0 aa;obtain⟨ac,A,cap,rfl,hA⟩:=Pe hd hr hv (hb b (by simp)) a9;generalize hm:min M.length len=m at a1|-;have ad:(M.take m).length=m:=by simp;omega
 have O:=ab.take (n:=m) (by omega);have ae:=D5 (P:=P) (cap:=a2) (us:=vs.take (m*C.sz)) (by rw[O.1,ad]) (hB.take _);have a3:(Builtin.firstCells C.sz m (.slice B M.length a2)).run P w=.ok (vs.take (m*C.sz)).toArray w:=by
  cases B<;>exact ae
 have a4:Nat.min M.length len=m:=hm;have a5:Rep w I mu (.val (.int .i64 (m:Nat))) (.int .i64 (m:Nat)):=.val _ (by simp[okP,DJ,DK];omega);by_cases h0:m=0
 ·subst h0;have e1:(λc=>AZ c (h c) [(b,some (MW r (AI es i (M.take 0)) C.sz))])=h:=by
   simp[AZ,A2Q,A3k,A3V,Ef];grind
  refine⟨.int .i64 0,w,I,mu,?_,Ext.refl _ _ _,?_,a5⟩
  ·have hz:C.sz*0=0:=Nat.mul_zero _;simp[Builtin.copy_,V,A2o,run_underlying Z,Result.andThen,Builtin.lenOf,A2u,a4,Bf U,a3,A37,A2Z,A3B];cases A<;>simp [storeCells,goInt]
  ·have:=hr.less (fr':=λb=>fr b/\b≠id) λb hb=>hb.1;simp_all
 ·have ah:∀u ∈ vs.take (m*C.sz),u.oneCell'=true:=Ut a0 O a1;obtain⟨k,u,T,us,g1,g2,g3,g4,w',ai,a6,ak⟩:=KF (P:=P) (i:=i) hr ac O (by omega) ah (by omega) id;refine⟨.int .i64 m,w',I,mu,?_,a6,?_,a5.ext a6⟩
  ·rw[hA (by omega) k u g1 g2];simp[Builtin.copy_,V,A2o,run_underlying Z,Result.andThen,Builtin.lenOf,A2u,a4,Bf U,a3,ai,goInt,A37,A2Z,A3B]
  omega
def Ti(hp:Nat->Option Blk)(te:TI)(dst:D):Res:=
 match US hp dst with
 |some (b,i,len,es,sz,r)=>some (⟨.any,[(b,some (MW r (AI es i (List.replicate len (te.zero.map ofV))) sz))],[b]⟩,sz=te.sz/\0<sz/\te.zero.length=te.sz/\(te.zero.all λv=>v.oneCell')=true/\i+len<=es.length)
 |none=>none
def X2{C:TI}(ht:Au P t=some ti)(hs:ti.sh=.slice e')(Y:Au P e'=some C)(U:ts[0]? =some t){V:D}(M:Ti hp C V=some (e,c))(hc:c)
  (hr:AA w0 M0 I0 fr I mu h w)  (Z:Rep w I mu V v) (hb:∀b ∈ e.rd,h b=hp b) (id:Nat):AT P (λw=>(Builtin.clear_ ts ty #[v]).run P w) id e.d e.up w0 M0 I0 fr I mu h w:=by
 have N:=AC ht hs;unfold Ti at M;split at M
 case h_2=>cases M
 rename_i b i len es sz r hd;obtain⟨rfl,rfl⟩:=M;obtain⟨a0,a1,O,aa,a2⟩:=hc;subst a0;obtain⟨a3,A,cap,rfl,hA⟩:=Pe hd hr Z (hb b (by simp)) a2;by_cases h0:len=0
 ·subst h0;have e1:(λc=>AZ c (h c) [(b,some (MW r (AI es i (List.replicate 0 (C.zero.map ofV))) C.sz))])=h:=by
   simp[AZ,A2Q,A3k,List.replicate_zero,Ef];grind
  refine⟨.tuple #[],w,I,mu,?_,Ext.refl _ _ _,?_,.any _⟩
  ·simp[Builtin.clear_,U,A2o,run_underlying N,Result.andThen,A37,A2Z];cases A<;>simp
  ·have:=hr.less (fr':=λb=>fr b/\b≠id) λb hb=>hb.1;simp_all
 ·have a4:=LJ (w:=w) (I:=I) (mu:=mu) O len;have hl:(List.replicate len (C.zero.map ofV)).length=len:=by simp
  have a5:∀u ∈ (List.range (len*C.sz)).map λm=>nv C.zero (m%C.sz),u.oneCell'=true:=by
   intro u N;obtain⟨m,hm,rfl⟩:=A2p.1 N;have hlt:m%C.sz<C.zero.length:=by rw[O];exact Nat.mod_lt _ a1
   grind [nv]
  obtain⟨k,u,T,us,g1,g2,g3,g4,w',a6,a7,ab⟩:=KF (P:=P) (i:=i) hr a3 a4 (by omega) a5 (by omega) id;obtain⟨z,hz,ac,_⟩:=Eg Y w;have a8:z.cells=C.zero.toArray:=by grind
  have a9:(Builtin.zeroCells z.cells len).toList=(List.range (len*C.sz)).map λm=>nv C.zero (m%C.sz):=by
   have:=Ku O len z.cells a8;grind [Builtin.zeroCells]
  refine⟨.tuple #[],w',I,mu,?_,a7,?_,.any _⟩
  ·rw[hA (by omega) k u g1 g2];simp[Builtin.clear_,U,A2o,run_underlying N,Result.andThen,A37,A2Z,hz,a9,a6,A2u]
  omega
def NI(id:Nat)(hp:Nat->Option Blk)(te:TI)(g i len cap sz:Nat)(x:D):Res:=
 match FQ hp x,hp g with
 |some (news,rd,c),some (.rows es sz')=>
  bif decide (len+news.length<=cap) then some (⟨.sref g i (len+news.length) cap sz,[(g,some (.rows (AI es (i+len) news) sz))],g::rd⟩,
   c/\sz=sz'/\sz=te.sz/\0<sz/\len<=cap/\i+len+news.length<=es.length/\(len+news.length)*te.bytes<=140737488355328/\len+news.length<=1073741824/\(∀y ∈ news,y.length=te.sz)/\∀y ∈ news,∀d ∈ y,AV d=true)
  else some (⟨.gref id (len+news.length),[(id,some (.grow ((es.drop i).take len++news) sz))],g::rd⟩,
   c/\sz=sz'/\sz=te.sz/\0<sz/\len<=cap/\i+len<=es.length/\te.zero.length=te.sz/\(len+news.length)*te.bytes<=140737488355328/\len+news.length<=1073741824/\∀y ∈ news,y.length=te.sz)
 |_,_=>none
def Vg{id cap:Nat}{es:LLa}{sz:Nat}{us zs:List Value}(hr:AA w0 M0 I0 fr I mu h w)(M:fr id)(O:0<cap)(U:cap<=maxLen)(V:es.length<=cap)(Y:us.length+zs.length=cap*sz)(Z:B3 w I mu es sz us):
  ∃mu',Ext I mu w I mu' (w.drew.alloc (.cells (us++zs).toArray T))/\mu' id=some (.slice (some ⟨w.heap.size,0,none⟩) es.length cap)/\AA w0 M0 I0 (λb=>fr b/\b≠id) I mu' (λc=>AZ c (h c) [(id,some (.grow es sz))]) (w.drew.alloc (.cells (us++zs).toArray T)):=by
 have a0:=hr.fresh id M;generalize C:w.drew.alloc (.cells (us++zs).toArray T)=w';have a1:∀j,j<w.heap.size->w'.heap[j]? =w.heap[j]?:=λj hj=>by rw[<-C];exact Bt w.drew _ hj
 have a2:w'.heap.size=w.heap.size+1:=by rw[<-C];simp
 have hm:=BN (v:=.slice (some ⟨w.heap.size,0,none⟩) es.length cap) a0;have:=hr.put (b0:=none) M w' (.slice (some ⟨w.heap.size,0,none⟩) es.length cap) (.grow es sz) (λk N=>by
   simp_all [Al,if_neg]) (by omega) (by simp_all) (by rw[<-C];rfl) (by rw[<-C];rfl) (by rw[<-C];rfl)
  (Lq (A:=none) (k:=w.heap.size) (by simp[AM]) O U V (by rw[<-C];exact heap_alloc_new w.drew _) Y (Z.mono ⟨λ_ h=>h,hm,λk N=>a1 k (hr.lt k N)⟩))
 have e1:(λc=>if c=id then some (Blk.grow es sz) else if(none:Option Nat)=some c then none else h c)=λb=>AZ b (h b) [(id,some (.grow es sz))]:=by
  funext b;grind [AZ,id]
 grind [AM]
theorem L3{C:TI}(ht:Au P t=some ti)(hs:ti.sh=.slice e')(an:Au P e'=some C){id:Nat}{g len cap sz:Nat}{dx:D}(N:NI id hp C g i len cap sz dx=some (e,c))(hc:c)
  (hr:AA w0 M0 I0 fr I mu h w) (ao:fr id) {vb vx:Value} (a2:Rep w I mu (.sref g i len cap sz) vb) (ae:Rep w I mu dx vx) (hb:∀b ∈ e.rd,h b=hp b):AT P (λw=>(Builtin.append_ #[t,t] ty #[vb,vx]).run P w) id e.d e.up w0 M0 I0 fr I mu h w:=by
 obtain⟨ap,d,z,g1,g2,g3,g4,g5,g6,g7,g8⟩:=Bw an;have hu:=AC ht hs;have aq:z.cells.size=C.zero.length:=by rw[<-g6];simp
 unfold NI at N;split at N
 case h_2=>cases N
 rename_i M rd c' es b6 hn hx;cases a3:decide (len+M.length<=cap) with
 |true=>
  rw[a3] at N;have ah:=of_decide_eq_true a3;simp only[cond_true,A2j,A2B] at N;obtain⟨rfl,rfl⟩:=N;obtain⟨a5,rfl,rfl,a0,a6,ai,a7,ar,a8,au⟩:=hc;have U:h g=some (.rows es C.sz):=(hb g (by simp)).trans hx;have a9:∀y ∈ (es.drop i).take len,y.length=C.sz:=by
   obtain⟨k,T,us,q1,V,q3,q4,q5⟩:=hr.blk g _ U;intro y hy;obtain⟨j,hj,rfl⟩:=A2W.1 (A32 (A34 hy));have:=q4 j hj;simpa[nr,A29,hj] using this
  obtain⟨B,aa,vs,rfl,Y,hB⟩:=CB hn a5 hr ae (λb ab=>hb b (by simp[ab])) a0 a8;have ac:FQ h (.sref g i len cap C.sz)=some ((es.drop i).take len,[g],C.sz=C.sz/\i+len<=es.length):=by simp[FQ,U]
  obtain⟨A',cap',us,Z,a4,hA⟩:=CB ac ⟨rfl,by omega⟩ hr a2 (λb _=>rfl) a0 a9;have a1:((es.drop i).take len).length=len:=by simp;omega
  rw[a1] at Z;cases a2 with
  |sref _ _ _ _ _ k hk=>
   simp only[Value.slice.injEq,true_and] at Z;obtain⟨rfl,rfl⟩:=Z;have run:=(Eh (P:=P) (w:=w) (ty:=ty) (cap:=cap) (cap':=aa) hu g1 g3 (us:=us) (vs:=vs) (n:=len) (m:=M.length) (by rw[g4,a4.1,a1]) (by rw[g4];exact Y.1) hA hB a6 (by omega) (by rw[g7];exact a7)).1 ah;have ea:((⟨k,i*C.sz,none⟩:Addr).add (len*ap.size))=⟨k,(i+len)*C.sz,none⟩:=by rw[Ca,g4,A3p]
   simp only[ea] at run;have aj:∀w',Ext I mu w I mu w'->Rep w' I mu (.sref g i (len+M.length) cap C.sz) (.slice (some ⟨k,i*C.sz,none⟩) (len+M.length) cap):=λw' _=>.sref _ _ _ _ _ k hk;by_cases h0:M.length=0
   ·have av:M=[]:=A2D h0;subst av;have aw:vs=[]:=A2D (by simpa using Y.1);subst aw;have e1:(λc=>AZ c (h c) [(g,some (Blk.rows (AI es (i+len) []) C.sz))])=h:=by
     funext c;simp only[AZ,A2Q,A3k,Ef];by_cases hc:g=c
     ·subst hc;rw[if_pos rfl,U]
     ·rw[if_neg hc]
    refine⟨_,w,I,mu,?_,Ext.refl _ _ _,?_,aj w (Ext.refl _ _ _)⟩
    ·show(Builtin.append_ #[t,t] ty #[_,_]).run P w=_;rw[run];simp[storeCells,Result.andThen]
    ·have:=hr.less (fr':=λb=>fr b/\b≠id) λb hb=>hb.1;rw[<-e1] at this;exact this
   ·obtain⟨k',u,T,b7,q1,V,q3,q4,w',ax,ak,ay⟩:=KF (P:=P) (r:=true) (i:=i+len) (es:=es) (sz:=C.sz) hr U Y (by omega) (Ut a0 Y au) (by omega) id;rw[hk] at q1;cases q1;simp only[Al,A2j] at V;subst V;refine⟨_,w',I,mu,?_,ak,ay,aj w' ak⟩;show(Builtin.append_ #[t,t] ty #[_,_]).run P w=_;rw[run,ax];rfl
 |false=>
  rw[a3] at N;have ah:=of_decide_eq_false a3;simp only[cond_false,A2j,A2B] at N;obtain⟨rfl,rfl⟩:=N;obtain⟨a5,rfl,rfl,a0,a6,ai,az,a7,ar,a8⟩:=hc;have U:h g=some (.rows es C.sz):=(hb g (by simp)).trans hx;have a9:∀y ∈ (es.drop i).take len,y.length=C.sz:=by
   obtain⟨k,T,us,q1,V,q3,q4,q5⟩:=hr.blk g _ U;intro y hy;obtain⟨j,hj,rfl⟩:=A2W.1 (A32 (A34 hy));have:=q4 j hj;simpa[nr,A29,hj] using this
  obtain⟨B,aa,vs,rfl,Y,hB⟩:=CB hn a5 hr ae (λb ab=>hb b (by simp[ab])) a0 a8;have ac:FQ h (.sref g i len cap C.sz)=some ((es.drop i).take len,[g],C.sz=C.sz/\i+len<=es.length):=by simp[FQ,U]
  obtain⟨A',cap',us,Z,a4,hA⟩:=CB ac ⟨rfl,ai⟩ hr a2 (λb _=>rfl) a0 a9;have a1:((es.drop i).take len).length=len:=by simp;omega
  rw[a1] at Z;cases a2 with
  |sref _ _ _ _ _ k hk=>
   simp only[Value.slice.injEq,true_and] at Z;obtain⟨rfl,rfl⟩:=Z;have r1:=(Eh (P:=P) (w:=w) (ty:=ty) (cap:=cap) (cap':=aa) hu g1 g3 (us:=us) (vs:=vs) (n:=len) (m:=M.length) (by rw[g4,a4.1,a1]) (by rw[g4];exact Y.1) hA hB a6 (by omega) (by rw[g7];exact a7)).2 (by omega);generalize al:grownCap w (len+M.length) cap e'=O at r1;have b3:len+M.length<=O:=by rw[<-al];exact grownCap_ge w _ _ _
   have b4:O<=maxLen:=by rw[<-al];exact grownCap_le_maxLen w _ _ _ (by simp only[maxLen];omega)
   have am:=a4.append Y;have ad:((es.drop i).take len++M).length=len+M.length:=by rw[A2a,a1]
   obtain⟨mu',q1,V,q3⟩:=Vg (T:=e') (zs:=(Builtin.zeroCells z.cells (O-(len+M.length))).toList) hr ao (by omega) b4 (by rw[ad];exact b3) (by
    have q3:(Builtin.zeroCells z.cells (O-(len+M.length))).toList.length=(O-(len+M.length))*C.sz:=by rw[A3G,size_zeroCells,aq,az]
    rw[am.1,ad,q3,<-A3p];exact congrArg (· *C.sz) (by omega)) am
   have b5:us.toArray++vs.toArray++Builtin.zeroCells z.cells (O-(len+M.length))=((us++vs)++(Builtin.zeroCells z.cells (O-(len+M.length))).toList).toArray:=by
    apply Array.ext';simp
   rw[b5] at r1;rw[ad] at V;exact⟨_,_,I,mu',r1,q1,q3,.gref id _ _ O V⟩
def NH(id:Nat)(hp:Nat->Option Blk)(te:TI):D->D->Res
 |.sref g i len cap sz,.val (.int _ m)=>match hp g with
  |some (.rows es sz')=>some (⟨.gref id (len+m.toNat),[(id,some (.grow ((es.drop i).take len++List.replicate m.toNat (te.zero.map ofV)) sz))],[g]⟩,
   sz=sz'/\sz=te.sz/\0<sz/\len<=cap/\i+len<=es.length/\te.zero.length=te.sz/\0<m/\(cap:Int)<len+m/\(len+m.toNat)*te.bytes<=140737488355328/\len+m.toNat<=1073741824)
  |_=>none
 |_,_=>none
theorem Sj{V:TypeId}{C a0:TI}{kn:IntKind}(ht:Au P t=some ti)(hs:ti.sh=.slice e')(a7:Au P e'=some C)(a8:Au P V=some a0)(a9:a0.sh=.int kn){id:Nat}{db dx:D}(O:NH id hp C db dx=some (e,c))(hc:c)
  (hr:AA w0 M0 I0 fr I mu h w) (aa:fr id) {vb vx:Value} (a1:Rep w I mu db vb) (ab:Rep w I mu dx vx) (hb:∀b ∈ e.rd,h b=hp b):AT P (λw=>(Builtin.append_ #[t,V] ty #[vb,vx]).run P w) id e.d e.up w0 M0 I0 fr I mu h w:=by
 obtain⟨Y,d,z,g1,g2,g3,g4,g5,g6,g7,g8⟩:=Bw a7;have hu:=AC ht hs;have ac:z.cells.size=C.zero.length:=by grind
 unfold NH at O;split at O
 case h_2=>cases O
 rename_i g i len cap sz kq m;split at O
 case h_2=>cases O
 rename_i es ar hx;obtain⟨rfl,rfl⟩:=O;obtain⟨rfl,rfl,ad,au,ae,Z,hm,av,aw,ax⟩:=hc;have hg:h g=some (.rows es C.sz):=(hb g (by simp)).trans hx;have ah:=ab.val_inv;subst ah;have ai:∀y ∈ (es.drop i).take len,y.length=C.sz:=by
  obtain⟨k,T,us,q1,q2,U,q4,q5⟩:=hr.blk g _ hg;intro y hy;obtain⟨j,hj,rfl⟩:=A2W.1 (A32 (A34 hy));grind [nr]
 have aj:FQ h (.sref g i len cap C.sz)=some ((es.drop i).take len,[g],C.sz=C.sz/\i+len<=es.length):=by simp[FQ,hg]
 obtain⟨A',cap',us,a2,a3,hA⟩:=CB aj ⟨rfl,ae⟩ hr a1 (λb _=>rfl) ad ai;have a4:((es.drop i).take len).length=len:=by simp;omega
 rw[a4] at a2;obtain⟨M,rfl⟩:∃M:Nat,m=M:=⟨m.toNat,by omega⟩
 cases a1 with
 |sref _ _ _ _ _ k hk=>
  obtain⟨rfl,rfl⟩:=a2;have ak:GB w.drew (some ⟨k,i*C.sz,none⟩) us:=by
   rcases hA with rfl|⟨k,o,hko,hc⟩
   ·exact .inl rfl
   ·exact .inr ⟨k,o,hko,λj u hj=>by simp_all⟩
  have al:=D5 (P:=P) (size:=Y.size) (cap:=cap) (by rw[g4,a3.1,a4]) ak;have ay:=growslice_fits (need:=len+M) (old:=cap) (bytes:=Y.bytes) (by omega) (by simp_all);have r1:=Lib.run_append_grow_zeros w t V ty e' Y z kq kn hu (S8 a8 a9) g1 g3 (some ⟨k,i*C.sz,none⟩) len cap us al M (by omega) (by omega) (by omega) (by omega) (by grind) (by omega);generalize am:grownCap w (len+M) cap e'=N at r1;have az:len+M<=N:=by rw[<-am];exact grownCap_ge w _ _ _
  have an:N<=maxLen:=by grind [grownCap_le_maxLen,maxLen]
  have ao:=LJ (w:=w) (I:=I) (mu:=mu) Z M;have a5:=a3.append ao;have a6:((es.drop i).take len++List.replicate M (C.zero.map ofV)).length=len+M:=by simp_all
  have ap:z.cells=C.zero.toArray:=by grind
  have b3:Builtin.zeroCells z.cells M=((List.range (M*C.sz)).map λm=>nv C.zero (m%C.sz)).toArray:=by
   have:=Ku Z M z.cells ap;grind [Builtin.zeroCells]
  obtain⟨mu',q1,q2,U⟩:=Vg (zs:=(Builtin.zeroCells z.cells (N-(len+M))).toList) hr aa (by omega) an (by omega) (by
   have U:(Builtin.zeroCells z.cells (N-(len+M))).toList.length=(N-(len+M))*C.sz:=by rw[A3G,size_zeroCells,ac,Z]
   rw[a5.1,a6,U,<-A3p];simp_all) a5
  have aq:us.toArray++Builtin.zeroCells z.cells M++Builtin.zeroCells z.cells (N-(len+M))=((us++(List.range (M*C.sz)).map λm=>nv C.zero (m%C.sz))++(Builtin.zeroCells z.cells (N-(len+M))).toList).toArray:=by
   simp_all
  rw[aq] at r1;rw[a6] at q2;exact⟨_,_,I,mu',r1,q1,U,.gref id _ _ N q2⟩
def Se(hp:Nat->Option Blk)(ti:TI):D->Option D->Option D->D->Res
 |.sref _ _ len cap _,lo,hi,.val (.int _ m)=>match ti.sh,bnd lo 0,bnd hi len with
  |.slice _,some l,some r=>pvc .any (0<=l/\l<=r/\r<=m/\m<=cap/\hi.isSome=true)
  |_,_,_=>none
 |_,_,_,_=>none
theorem Up{O:TI}(ht:Au P t=some ti)(hs:ti.sh=.slice e')(U:Au P e'=some O){x m:D}{lo hi:Option D}(C:Se hp ti x lo hi m=some (e,c))(hc:c)(hr:AA w0 M0 I0 fr I mu h w){V:Value}{M N:Option Value}
  (hv:Rep w I mu x v) (hl:G9 w I mu lo M) (hh:G9 w I mu hi N) (hm:Rep w I mu m V) (id:Nat):
  AT P (λw=>(Instr.sliceAt t v M N (some V)).run P w) id e.d e.up w0 M0 I0 fr I mu h w:=by
 have Y:=AC ht hs;unfold Se at C;split at C
 case h_2=>cases C
 rename_i b i len cap sz km Z;split at C
 case h_2=>cases C
 rename_i a5 l r a6 a0 a1;obtain⟨rfl,rfl⟩:=C;obtain⟨h0,h1,h2,h3,h4⟩:=hc;have a2:=hm.val_inv;subst a2;cases hv with
 |sref _ _ _ _ _ k hk=>
  obtain⟨ln,rfl⟩:∃n:Nat,l=n:=⟨l.toNat,by omega⟩
  obtain⟨rn,rfl⟩:∃n:Nat,r=n:=⟨r.toNat,by omega⟩
  obtain⟨mn,rfl⟩:∃n:Nat,Z=n:=⟨Z.toNat,by omega⟩
  have a3:∃k,N=some (.int k rn):=by
   rcases DB a1 hh with⟨q,_,_⟩|⟨k,q,_⟩
   ·rw[q] at h4;cases h4
   ·exact⟨k,q⟩
  obtain⟨kh,rfl⟩:=a3;have a4:M=none/\ln=0\/∃k,M=some (.int k ln):=by
   rcases DB a0 hl with⟨_,q2,q1⟩|⟨k,q,_⟩
   ·exact .inl ⟨q2,by omega⟩
   ·exact .inr ⟨k,q⟩
  refine AT.same hr (.slice (if mn=ln then some ⟨k,i*sz,none⟩ else some (Addr.add ⟨k,i*sz,none⟩ (ln*O.sz))) (rn-ln) (mn-ln)) ?_ (.any _);rcases a4 with⟨rfl,rfl⟩|⟨kl,rfl⟩
  ·simp[Instr.sliceAt,Instr.slice,run_underlying Y,Instr.sliceBounds,run_sliceBound,Bf U,h1,h2,h3]
  ·simp[Instr.sliceAt,Instr.slice,run_underlying Y,Instr.sliceBounds,run_sliceBound,Bf U,h1,h2,h3]
end
def nilE:D->Res
 |.ptr cs off=>pv (.ptr cs off)
 |.ref b i off sz=>pv (.ref b i off sz)
 |.func (.func f) fs cs=>pv (.func (.func f) fs cs)
 |_=>none
def tq(P:Program)(t:TypeId)(k:TI->Res):Res:=
 match Au P t with
 |some ti=>k ti
 |none=>none
def Kp(P:Program)(t:TypeId)(k:TI->TI->Res):Res:=tq P t λti=>match ti.sh with
 |.slice e=>tq P e λte=>k ti te
 |_=>none
theorem Cb{k:TI->Res}(h:tq P t k=some (e,c)):∃ti,Au P t=some ti/\k ti=some (e,c):=by
 grind [tq]
def Dt{k:TI->TI->Res}(h:Kp P t k=some (e,c)):∃ti C e',Au P t=some ti/\ti.sh=.slice e'/\Au P e'=some C/\k ti C=some (e,c):=by
 obtain⟨ti,h1,h2⟩:=Cb h;grind [Cb]
def Xr(P:Program)(t:TypeId)(k:TI->TI->Res):Res:=tq P t λtm=>match tm.sh with
 |.map tk e=>tq P tk λti=>tq P e λte=>k ti te
 |_=>none
def H1{k:TI->TI->Res}(h:Xr P t k=some (e,c)):∃C ti M N e',Au P t=some C/\C.sh=.map N e'/\Au P N=some ti/\Au P e'=some M/\k ti M=some (e,c):=by
 obtain⟨C,h1,h2⟩:=Cb h;grind [Cb]
def arrQ(P:Program)(t:TypeId)(k:Nat->TI->Res)(d:Res):Res:=match Au P t with
 |some ti=>match ti.sh with
  |.arr n e=>tq P e (k n)
  |_=>d
 |none=>d
def A24{k:Nat->TI->Res}{d:Res}(h:arrQ P t k d=some (e,c)):d=some (e,c)\/∃ti C n e',Au P t=some ti/\ti.sh=.arr n e'/\Au P e'=some C/\k n C=some (e,c):=by
 grind [arrQ,Cb]
def arrE(n:Nat)(te:TI):D->D->Res
 |.ref b i off sz,.val (.int _ k)=>pvc (.ref b i (off+k.toNat*te.sz) sz) (0<=k/\k<n)
 |.ptr cs off,.val (.int _ k)=>pvc (.ptr cs (off+k.toNat*te.sz)) (0<=k/\k<n)
 |_,_=>none
def runs_arr{w0:World}{M0:Nat->Prop}{I0:Gh}{fr:Nat->Prop}{h:Nat->Option Blk}{w:World}{M:TI}{n:Nat}(ht:Au P t=some ti)(hs:ti.sh=.arr n e')(U:Au P e'=some M){d i:D}(C:arrE n M d i=some (e,c))(hc:c)
  (hr:AA w0 M0 I0 fr I mu h w) {x:Value} (V:Rep w I mu d v) (Y:Rep w I mu i x) (id:Nat):AT P (λw=>(Instr.indexAt t v x).run P w) id e.d e.up w0 M0 I0 fr I mu h w:=by
 have Z:=ti_arr ht hs;unfold arrE at C;split at C
 ·rename_i b j off sz kk k;obtain⟨rfl,rfl⟩:=C;obtain⟨h0,h1⟩:=hc;have N:=Y.val_inv;subst N;cases V with
  |ref _ _ _ _ O hk=>
   have:=Rep.ref (w:=w) (I:=I) b j (off+k.toNat*M.sz) sz O hk;refine AT.same hr _ ?_ this;simp[Instr.indexAt,asIntOf,run_underlying Z,Bf U,h0,h1,Ca,Instr.sureAddr,Result.andThen]
 ·rename_i cs off kk k;obtain⟨rfl,rfl⟩:=C;obtain⟨h0,h1⟩:=hc;have N:=Y.val_inv;subst N;cases V with
  |ptr _ _ O o u hI a0 a1=>
   have:=Rep.ptr cs (off+k.toNat*M.sz) O o u hI a0 a1;refine AT.same hr _ ?_ this;simp[Instr.indexAt,asIntOf,run_underlying Z,Bf U,h0,h1,Ca,Instr.sureAddr,Result.andThen]
 ·cases C
def A25{C e:TypeId}(h:P.underlying t=some (.slice e))(M:P.underlying C=some (.slice e'))(x y:Value)(w:World):(Builtin.append_ #[t,C] ty #[x,y]).run P w=(Builtin.append_ #[t,t] ty #[x,y]).run P w:=by
 cases x<;>simp [Builtin.append_,run_underlying h,run_underlying M,Result.andThen]
def LG(id:Nat)(hp:Nat->Option Blk)(te:TI):D->D->Res
 |.sref g i len cap sz,x=>NI id hp te g i len cap sz x
 |.slice es t,x=>LH id hp te (.slice es t) x
 |.gref g len,x=>LH id hp te (.gref g len) x
 |_,_=>none
def Zh(P:Program)(id:Nat)(ev:Operand->D)(hp:Nat->Option Blk)(b:Builtin)(args:List Operand)(ts:List TypeId):Res:=
 match b,args,ts with
 |.len,[x],[t]=>tq P t λti=>lenE hp ti (ev x)
 |.min,[x,y],_=>minE (ev x) (ev y)
 |.max,[x,y],_=>maxE (ev x) (ev y)
 |.append,[x,y],[t,t']=>if t=t' then Kp P t λ_ te=>LG id hp te (ev x) (ev y) else Kp P t λ_ te=>tq P t' λtn=>match tn.sh with
  |.int _=>NH id hp te (ev x) (ev y)
  |.slice _=>LG id hp te (ev x) (ev y)
  |_=>none
 |.copy,[x,y],[t,_]=>Kp P t λ_ te=>Z9 hp te (ev x) (ev y)
 |.clear,[x],[t]=>Kp P t λ_ te=>Ti hp te (ev x)
 |.cap,[x],[t]=>tq P t λti=>capE ti (ev x)
 |.delete,[x,y],[t,_]=>Xr P t λti _=>delE hp ti.sh (ev x) (ev y)
 |_,_,_=>none
def Yy(P:Program)(id:Nat)(ev:Operand->D)(hp:Nat->Option Blk)(op:Op):Res:=
 match op with
 |.move x=>pv (ev x)
 |.assign x=>pv (ev x)
 |.alloc t=>tq P t λti=>Yl id ti
 |.box _ x=>boxE id (ev x)
 |.build t ps=>tq P t λti=>Tw ti (ps.toList.map λp=>(p.1,ev p.2))
 |.buildSlice t n ps=>Kp P t λ_ te=>NF id te n (ps.toList.map λp=>(p.1,ev p.2))
 |.load t a=>tq P t λti=>Kl ti hp (ev a)
 |.store t a x=>tq P t λti=>Kx ti hp (ev a) (ev x)
 |.nilCheck x=>nilE (ev x)
 |.binOp op T x y _=>binX P op T (ev x) y (ev y)
 |.unOp op _ x=>unE op (ev x)
 |.convert s d x=>tq P s λts=>tq P d λtd=>Ze ts td (ev x)
 |.field t x i=>tq P t λti=>PP ti i (ev x)
 |.fieldAddr t x i=>tq P t λti=>HI ti i (ev x)
 |.indexAddr t x i=>arrQ P t (λn te=>arrE n te (ev x) (ev i)) (Kp P t λ_ te=>HE hp te (ev x) (ev i))
 |.index t x i=>tq P t λti=>SV ti (ev x) (ev i)
 |.slice t x lo hi none=>tq P t λti=>match ti.sh with
  |.str=>NS hp ti ti (ev x) (lo.map ev) (hi.map ev)
  |.slice e=>tq P e λte=>NS hp ti te (ev x) (lo.map ev) (hi.map ev)
  |_=>none
 |.slice t x lo hi (some m)=>Kp P t λti te=>Se hp ti (ev x) (lo.map ev) (hi.map ev) (ev m)
 |.extract x i=>Lt i (ev x)
 |.makeSlice t l c=>Kp P t λ_ te=>YT id te (ev l) (ev c)
 |.makeFunc fn fs cs=>pv (.func fn (fs.toList.map ev) (cs.toList.map ev))
 |.makeInterface t x=>pvc (.iface t (ev x)) (P.concrete t=true)
 |.makeMap _ none=>mapE id
 |.lookup t x i ok=>Xr P t λti te=>YV hp ti.sh te ok (ev x) (ev i)
 |.mapUpdate t m k x=>Xr P t λti _=>WA hp ti.sh (ev m) (ev k) (ev x)
 |.insert t m k x=>Xr P t λti _=>WA hp ti.sh (ev m) (ev k) (ev x)
 |.range t x=>Xr P t λ_ _=>Sq id hp (ev x)
 |.entry x=>T8 hp (ev x)
 |.call c=>match c.callee with
  |.builtin b=>Zh P id ev hp b c.args.toList c.argTypes.toList
  |_=>none
 |_=>none
def CG(s:Sem Value)(w:World):(do pure (Next.value (<-s)):Sem Next).run P w=(s.run P w).andThen λv w'=>.ok (.value v) w':=by simp
def Ur(s:Sem Unit)(w:World):(do s;pure Next.skip:Sem Next).run P w=(s.run P w).andThen λ_ w'=>.ok .skip w':=by simp
section
variable{P:Program}{id:Nat}{ev:Operand->D}{hp:Nat->Option Blk}{dst:Option Tmp}{T:TypeId}{pos:String}{af:Array Edge}{gd:Option (Nat×Bool)}{e:Eff}{c:Prop}
def QT{w:World}{ps:Array (Nat×Operand)}{a:Act}(C:∀x,x ∈ (ps.toList.map (·.2)).toArray->Rep w I mu (ev x) (a.eval x)):
  (ps.toList.map λp=>(p.1,a.eval p.2)).length=(ps.toList.map λp=>(p.1,ev p.2)).length/\
  ∀(i:Nat) (p:Nat×D) (q:Nat×Value),(ps.toList.map λp=>(p.1,ev p.2))[i]? =some p->(ps.toList.map λp=>(p.1,a.eval p.2))[i]? =some q->p.1=q.1/\Rep w I mu p.2 q.2:=by
 refine⟨by simp,λi p q hp M=>?_⟩;grind
theorem A1q{b:Builtin}{args:Array Operand}(C:Zh P id ev hp b args.toList ts.toList=some (e,c))(hc:c):AQ P ⟨dst,.call {callee:=.builtin b,args:=args,argTypes:=ts},T,pos,af,gd⟩ id ev hp e:=by
 have a4:∀x,x ∈ args.toList->x ∈ (Op.call {callee:=.builtin b,args:=args,argTypes:=ts}).operands:=λx O=>by simpa[Op.operands,Call.operands] using O
 have V:∀(a:Act) (w:World) (F:Array Value->Sem Value),(∀cs,builtin b ts T cs (args.map a.eval)=do pure (.value (<-F (args.map a.eval))))->
   (execOp a.eval ⟨dst,.call {callee:=.builtin b,args:=args,argTypes:=ts},T,pos,af,gd⟩).run P w=((F (args.map a.eval)).run P w).andThen λv w'=>.ok (.value v) w':=by
  simp_all [execOp,resolve,A2o,A2u,Result.andThen,invoke]
 unfold Zh at C;split at C
 ·rename_i x t M a2;obtain⟨ti,ht,C⟩:=Cb C;refine AQ.of_runs (λρ=>Builtin.len_ ts T (args.map ρ)) (λa w=>V a w (λvs=>Builtin.len_ ts T vs) λ_=>rfl) ?_;intro w0 M0 I0 fr I mu h a w U _ O hb;have N:args.map a.eval=#[a.eval x]:=by apply Array.ext';simp[M]
  have Y:ts=#[t]:=by grind
  grind [runs_len,id]
 ·rename_i x y M;refine AQ.of_runs (λρ=>Builtin.min_ ts T (args.map ρ)) (λa w=>V a w (λvs=>Builtin.min_ ts T vs) λ_=>rfl) ?_;intro w0 M0 I0 fr I mu h a w U _ O hb;have N:args.map a.eval=#[a.eval x,a.eval y]:=by apply Array.ext';simp[M]
  grind [runs_min,id]
 ·rename_i x y M;refine AQ.of_runs (λρ=>Builtin.max_ ts T (args.map ρ)) (λa w=>V a w (λvs=>Builtin.max_ ts T vs) λ_=>rfl) ?_;intro w0 M0 I0 fr I mu h a w U _ O hb;have N:args.map a.eval=#[a.eval x,a.eval y]:=by apply Array.ext';simp[M]
  grind [runs_max,id]
 ·rename_i x y t Z M a2;split at C
  ·rename_i a5;subst a5;obtain⟨ti,te,e',ht,hs,a0,C⟩:=Dt C;refine AQ.of_runs (λρ=>Builtin.append_ ts T (args.map ρ)) (λa w=>V a w (λvs=>Builtin.append_ ts T vs) λ_=>rfl) ?_;intro w0 M0 I0 fr I mu h a w U a1 O hb;have N:args.map a.eval=#[a.eval x,a.eval y]:=by apply Array.ext';simp[M]
   have Y:ts=#[t,t]:=by grind
   unfold LG at C;grind [L3,MS]
  ·obtain⟨ti,te,e',ht,hs,a0,C⟩:=Dt C;obtain⟨tn,a6,C⟩:=Cb C;split at C
   ·rename_i kn a3;refine AQ.of_runs (λρ=>Builtin.append_ ts T (args.map ρ)) (λa w=>V a w (λvs=>Builtin.append_ ts T vs) λ_=>rfl) ?_;intro w0 M0 I0 fr I mu h a w U a1 O hb;have N:args.map a.eval=#[a.eval x,a.eval y]:=by apply Array.ext';simp[M]
    have Y:ts=#[t,Z]:=by grind
    grind [Sj]
   ·rename_i en a3;refine AQ.of_runs (λρ=>Builtin.append_ ts T (args.map ρ)) (λa w=>V a w (λvs=>Builtin.append_ ts T vs) λ_=>rfl) ?_;intro w0 M0 I0 fr I mu h a w U a1 O hb;have N:args.map a.eval=#[a.eval x,a.eval y]:=by apply Array.ext';simp[M]
    have Y:ts=#[t,Z]:=by grind
    rw[N,Y];have e3:∀w,(Builtin.append_ #[t,Z] T #[a.eval x,a.eval y]).run P w=(Builtin.append_ #[t,t] T #[a.eval x,a.eval y]).run P w:=λw=>A25 (AC ht hs) (AC a6 a3) _ _ w;simp[e3];have a8:=O x (a4 x (by simp[M]));unfold LG at C;grind [L3,MS]
   ·cases C
 ·rename_i x y t Z M a2;obtain⟨ti,te,e',ht,hs,a0,C⟩:=Dt C;refine AQ.of_runs (λρ=>Builtin.copy_ ts T (args.map ρ)) (λa w=>V a w (λvs=>Builtin.copy_ ts T vs) λ_=>rfl) ?_;intro w0 M0 I0 fr I mu h a w U a1 O hb;have N:args.map a.eval=#[a.eval x,a.eval y]:=by apply Array.ext';simp[M]
  have Y:ts=#[t,Z]:=by grind
  rw[N];exact A0n ht hs a0 (by simp_all) C hc U (by simp_all) (by simp_all) hb id
 ·rename_i x t M a2;obtain⟨ti,te,e',ht,hs,a0,C⟩:=Dt C;refine AQ.of_runs (λρ=>Builtin.clear_ ts T (args.map ρ)) (λa w=>V a w (λvs=>Builtin.clear_ ts T vs) λ_=>rfl) ?_;intro w0 M0 I0 fr I mu h a w U a1 O hb;have N:args.map a.eval=#[a.eval x]:=by apply Array.ext';simp[M]
  have Y:ts=#[t]:=by grind
  rw[N];exact X2 ht hs a0 (by simp_all) C hc U (by simp_all) hb id
 ·rename_i x t M a2;obtain⟨ti,ht,C⟩:=Cb C;refine AQ.of_runs (λρ=>Builtin.cap_ ts T (args.map ρ)) (λa w=>V a w (λvs=>Builtin.cap_ ts T vs) λ_=>rfl) ?_;intro w0 M0 I0 fr I mu h a w U a1 O hb;have N:args.map a.eval=#[a.eval x]:=by apply Array.ext';simp[M]
  have Y:ts=#[t]:=by grind
  grind [runs_cap,id]
 ·rename_i x y t Z M a2;obtain⟨tm,ti,te,tk,e',ht,hs,a7,a0,C⟩:=H1 C;refine AQ.of_runs (λρ=>Builtin.delete_ ts T (args.map ρ)) (λa w=>V a w (λvs=>Builtin.delete_ ts T vs) λ_=>rfl) ?_;intro w0 M0 I0 fr I mu h a w U a1 O hb;have N:args.map a.eval=#[a.eval x,a.eval y]:=by apply Array.ext';simp[M]
  have Y:ts=#[t,Z]:=by grind
  rw[N];exact runs_del ht hs a7 C hc U (by simp_all) (by simp_all) (by simp_all) hb id
 ·cases C
theorem KH{w:World}{o:Option Operand}{a:Act}(h:∀x,o=some x->Rep w I mu (ev x) (a.eval x)):G9 w I mu (o.map ev) (o.map a.eval):=by
 cases o with
 |none=>trivial
 |some x=>exact h x rfl
def WP{op:Op}(C:Yy P id ev hp op=some (e,c))(hc:c):AQ P ⟨dst,op,T,pos,af,gd⟩ id ev hp e:=by
 cases op<;>simp [Yy] at C<;>try (cases C;done)
 case move x=>simp only[pv,A2j,A2B] at C;obtain⟨rfl,rfl⟩:=C;exact A1i x
 case assign x=>simp only[pv,A2j,A2B] at C;obtain⟨rfl,rfl⟩:=C;exact VH x
 case alloc t=>
  obtain⟨ti,ht,C⟩:=Cb C;exact AQ.of_runs (λ_=>Instr.alloc t true (.tuple #[])) (λa w=>CG _ w) λw0 M0 I0 fr I mu h a w N O M hb=>X4 ht C hc N O
 case box t x=>
  exact AQ.of_runs (λρ=>Instr.box t (ρ x)) (λa w=>CG _ w) λw0 M0 I0 fr I mu h a w N O M hb=>runs_box C N O (M x (by simp[Op.operands]))
 case build t ps=>
  obtain⟨ti,ht,C⟩:=Cb C;refine AQ.of_runs (λρ=>Instr.build t (ps.toList.map λp=>(p.1,ρ p.2)).toArray) (λa w=>?_) λw0 M0 I0 fr I mu h a w N O M hb=>?_
  ·have:(ps.map λ(i,x)=>(i,a.eval x))=(ps.toList.map λp=>(p.1,a.eval p.2)).toArray:=by grind
   simp[execOp];simp_all
  ·have:=QT (λx Y=>M x (by simpa[Op.operands] using Y));exact X3 ht C hc N _ this.1 this.2 id
 case buildSlice t n ps=>
  obtain⟨ti,V,e',ht,hs,U,C⟩:=Dt C;refine AQ.of_runs (λρ=>Instr.buildSlice t n (ps.toList.map λp=>(p.1,ρ p.2)).toArray) (λa w=>?_) λw0 M0 I0 fr I mu h a w N O M hb=>?_
  ·have:(ps.map λ(i,x)=>(i,a.eval x))=(ps.toList.map λp=>(p.1,a.eval p.2)).toArray:=by grind
   simp[execOp];simp_all
  ·have:=QT (λx Y=>M x (by simpa[Op.operands] using Y));exact Uq ht hs U C hc N O _ this.1 this.2
 case load t x=>
  obtain⟨ti,ht,C⟩:=Cb C;exact AQ.of_runs (λρ=>Instr.loadAt t (ρ x)) (λa w=>CG _ w) λw0 M0 I0 fr I mu h a w N O M hb=>A0m ht C hc N (M x (by simp[Op.operands])) hb id
 case store t x y=>
  obtain⟨ti,ht,C⟩:=Cb C;have hd:e.d=.any:=by
   unfold Kx at C;grind
  have a0:e=⟨.any,e.up,e.rd⟩:=by cases e;simp_all
  rw[a0];exact AQ.of_runs_u (λρ=>Instr.storeAt t (ρ x) (ρ y)) (λa w=>Ur _ w) λw0 M0 I0 fr I mu h a w N O M hb=>(WW ht C hc N (M x (by simp[Op.operands])) (M y (by simp[Op.operands])) hb id).2
 case nilCheck x=>
  unfold nilE at C;split at C<;>first|(cases C;done)|skip
  all_goals
   rename_i hd;simp only[pv,A2j,A2B] at C;obtain⟨rfl,rfl⟩:=C;refine AQ.quiet λ_ _ _ _ I mu _ a w _ M _=>⟨a.eval x,?_,?_⟩
   ·have Y:=M x (by simp[Op.operands]);rw[hd] at Y;simp[execOp];generalize a.eval x=v at Y|-;cases Y<;>rfl
   ·grind [Op.operands]
 case binOp op t x y t'=>
  unfold binX at C;split at C
  ·exact AQ.of_runs (λρ=>do eqGuard op t x (.const (.slice none 0 0)) (ρ x) (.slice none 0 0);binOp op t (ρ x) (.slice none 0 0)) (λa w=>CG _ w) λw0 M0 I0 fr I mu h a w N O M hb=>A0i C N (M x (by simp[Op.operands])) id
  ·exact AQ.of_runs (λρ=>do eqGuard op t x (.const (.map none)) (ρ x) (.map none);binOp op t (ρ x) (.map none)) (λa w=>CG _ w) λw0 M0 I0 fr I mu h a w N O M hb=>A0j C N (M x (by simp[Op.operands])) id
  ·exact AQ.of_runs (λρ=>do eqGuard op t x y (ρ x) (ρ y);binOp op t (ρ x) (ρ y)) (λa w=>CG _ w) λw0 M0 I0 fr I mu h a w N O M hb=>runs_bin C hc N (M x (by simp[Op.operands])) (M y (by simp[Op.operands])) id
 case unOp op t x=>
  exact AQ.of_runs (λρ=>Op.unary op (ρ x)) (λa w=>CG _ w) λw0 M0 I0 fr I mu h a w N O M hb=>runs_un C N (M x (by simp[Op.operands])) id
 case convert s d x=>
  obtain⟨ts,a1,C⟩:=Cb C;obtain⟨td,a2,C⟩:=Cb C;exact AQ.of_runs (λρ=>convert s d (ρ x)) (λa w=>CG _ w) λw0 M0 I0 fr I mu h a w N O M hb=>A0o a1 a2 C N (M x (by simp[Op.operands])) id
 case field t x i=>
  obtain⟨ti,ht,C⟩:=Cb C;exact AQ.of_runs (λρ=>Instr.field t (ρ x) i) (λa w=>CG _ w) λw0 M0 I0 fr I mu h a w N O M hb=>X0 ht C hc N (M x (by simp[Op.operands])) id
 case fieldAddr t x i=>
  obtain⟨ti,ht,C⟩:=Cb C;exact AQ.of_runs (λρ=>Instr.fieldAt t (ρ x) i) (λa w=>CG _ w) λw0 M0 I0 fr I mu h a w N O M hb=>P0 ht C hc N (M x (by simp[Op.operands])) id
 case indexAddr t x i=>
  rcases A24 C with C|⟨ti,V,n,e',ht,hs,U,C⟩;rotate_left
  ·exact AQ.of_runs (λρ=>Instr.indexAt t (ρ x) (ρ i)) (λa w=>CG _ w) λw0 M0 I0 fr I mu h a w N O M hb=>runs_arr ht hs U C hc N (M x (by simp[Op.operands])) (M i (by simp[Op.operands])) id
  obtain⟨ti,V,e',ht,hs,U,C⟩:=Dt C;exact AQ.of_runs (λρ=>Instr.indexAt t (ρ x) (ρ i)) (λa w=>CG _ w) λw0 M0 I0 fr I mu h a w N O M hb=>NZ ht hs U C hc N (M x (by simp[Op.operands])) (M i (by simp[Op.operands])) hb id
 case index t x i=>
  obtain⟨ti,ht,C⟩:=Cb C;exact AQ.of_runs (λρ=>Instr.index t (ρ x) (ρ i)) (λa w=>CG _ w) λw0 M0 I0 fr I mu h a w N O M hb=>WZ ht C hc N (M x (by simp[Op.operands])) (M i (by simp[Op.operands])) id
 case slice t x lo hi mx=>
  cases mx with
  |some m=>
   simp only at C;obtain⟨ti,V,e',ht,hs,U,C⟩:=Dt C;refine AQ.of_runs (λρ=>Instr.sliceAt t (ρ x) (lo.map ρ) (hi.map ρ) (some (ρ m))) (λa w=>CG _ w) λw0 M0 I0 fr I mu h a w N O M hb=>?_;grind [G9,KH,Op.operands,Up,id]
  |none=>
   simp only at C;obtain⟨ti,ht,C⟩:=Cb C;refine AQ.of_runs (λρ=>Instr.sliceAt t (ρ x) (lo.map ρ) (hi.map ρ) none) (λa w=>CG _ w) λw0 M0 I0 fr I mu h a w N O M hb=>?_;have a3:G9 w I mu (lo.map ev) (lo.map a.eval):=KH λy hy=>M y (by simp[Op.operands,hy]);have a4:G9 w I mu (hi.map ev) (hi.map a.eval):=KH λy hy=>M y (by simp[Op.operands,hy]);split at C
   ·rename_i a5;exact MQ (e':=0) ht (.inl ⟨_,rfl,a5⟩) id C hc N (M x (by simp[Op.operands])) a3 a4 hb
   ·grind [Cb,MQ,id,Op.operands]
   ·cases C
 case extract x i=>
  exact AQ.of_runs (λρ=>Instr.extract (ρ x) i) (λa w=>CG _ w) λw0 M0 I0 fr I mu h a w N O M hb=>Si C hc N (M x (by simp[Op.operands])) id
 case makeSlice t l n=>
  obtain⟨ti,V,e',ht,hs,U,C⟩:=Dt C;exact AQ.of_runs (λρ=>Instr.makeSlice t (ρ l) (ρ n)) (λa w=>CG _ w) λw0 M0 I0 fr I mu h a w N O M hb=>A0k ht hs U C hc N O (M l (by simp[Op.operands])) (M n (by simp[Op.operands]))
 case makeFunc fn fs cs=>
  simp only[pv,A2j,A2B] at C;obtain⟨rfl,rfl⟩:=C;refine AQ.quiet λ_ _ _ _ I mu _ a w _ M _=>⟨.func fn (fs.map a.eval) (cs.map a.eval),by simp[execOp,Instr.makeFunc],?_⟩
  have e1:fs.map a.eval=(fs.toList.map a.eval).toArray:=by grind
  have e2:cs.map a.eval=(cs.toList.map a.eval).toArray:=by grind
  rw[e1,e2];refine .func fn _ _ _ _ (by simp) (by simp) (λi hi=>?_) λi hi=>?_
  ·simp at hi;have h1:nd (fs.toList.map ev) i=ev fs[i]:=by simp[nd,A29,hi]
   have h2:nv (fs.toList.map a.eval) i=a.eval fs[i]:=by simp[nv,A29,hi]
   rw[h1,h2];exact M _ (by simp[Op.operands])
  ·simp at hi;have h1:nd (cs.toList.map ev) i=ev cs[i]:=by simp[nd,A29,hi]
   have h2:nv (cs.toList.map a.eval) i=a.eval cs[i]:=by simp[nv,A29,hi]
   rw[h1,h2];exact M _ (by simp[Op.operands])
 case makeInterface t x=>
  simp only[pvc,A2j,A2B] at C;obtain⟨rfl,rfl⟩:=C;exact AQ.quiet λ_ _ _ _ I mu _ a w _ M _=>⟨.iface t (a.eval x),by simp[execOp,run_makeInterface w t (a.eval x) hc],.iface t _ _ (M x (by simp[Op.operands]))⟩
 case makeMap t o=>
  cases o with
  |some r=>cases C
  |none=>exact AQ.of_runs (λ_=>Instr.makeMap t none) (λa w=>CG _ w) λw0 M0 I0 fr I mu h a w N O M hb=>WY C N O
 case lookup t x i ok=>
  obtain⟨tm,ti,V,tk,e',ht,hs,Z,U,C⟩:=H1 C;exact AQ.of_runs (λρ=>Instr.lookup t (ρ x) (ρ i) ok) (λa w=>CG _ w) λw0 M0 I0 fr I mu h a w N O M hb=>A0l ht hs Z U C hc N (M x (by simp[Op.operands])) (M i (by simp[Op.operands])) hb id
 case mapUpdate t m k x=>
  obtain⟨tm,ti,V,tk,e',ht,hs,Z,U,C⟩:=H1 C;have hd:e.d=.any:=by
   unfold WA at C;grind
  have a0:e=⟨.any,e.up,e.rd⟩:=by cases e;simp_all
  rw[a0];exact AQ.of_runs_u (λρ=>Instr.mapUpdate t (ρ m) (ρ k) (ρ x)) (λa w=>Ur _ w) λw0 M0 I0 fr I mu h a w N O M hb=>(Uo ht hs Z C hc N (M m (by simp[Op.operands])) (M k (by simp[Op.operands])) (M x (by simp[Op.operands])) hb id).2
 case insert t m k x=>
  obtain⟨tm,ti,V,tk,e',ht,hs,Z,U,C⟩:=H1 C;have hd:e.d=.any:=by
   unfold WA at C;grind
  have a0:e=⟨.any,e.up,e.rd⟩:=by cases e;simp_all
  rw[a0];exact AQ.of_runs_u (λρ=>Instr.mapUpdate t (ρ m) (ρ k) (ρ x)) (λa w=>Ur _ w) λw0 M0 I0 fr I mu h a w N O M hb=>(Uo ht hs Z C hc N (M m (by simp[Op.operands])) (M k (by simp[Op.operands])) (M x (by simp[Op.operands])) hb id).2
 case range t x=>
  obtain⟨tm,ti,V,tk,e',ht,hs,Z,U,C⟩:=H1 C;exact AQ.of_runs (λρ=>Instr.range t (ρ x)) (λa w=>CG _ w) λw0 M0 I0 fr I mu h a w N O M hb=>WX ht hs C N O (M x (by simp[Op.operands])) hb
 case entry x=>
  exact AQ.of_runs (λρ=>Instr.entry (ρ x)) (λa w=>CG _ w) λw0 M0 I0 fr I mu h a w N O M hb=>X1 C hc N (M x (by simp[Op.operands])) hb id
 case call k=>
  obtain⟨callee,args,ts⟩:=k;grind [A1q]
end
def pickL(P:Program)(env:Nat->D)(c x y:Operand):Res:=
 match evO P env c with
 |.val (.bool true)=>pv (evO P env x)
 |.val (.bool false)=>pv (evO P env y)
 |_=>none
def Xa(P:Program)(id:Nat)(env:Nat->D)(hp:Nat->Option Blk)(op:Op):Res:=
 match op with
 |.pick c x y=>pickL P env c x y
 |op=>Yy P id (evO P env) hp op
def KK(ops:Array Oper)(j:Nat):Option Nat:=(ops[j]?).bind (·.dst)
abbrev DO(ops:Array Oper)(s:St)(gd:Option (Nat×Bool)):Prop:=gd=none\/∃j want t,gd=some (j,want)/\KK ops j=some t/\gOf (s.env.get t) want=some true
section
variable{P:Program}{ops:Array Oper}{id:Nat}{s0:FSt}{e:Eff}{c:Prop}
def A0v{env:Nat->D}{op:Op}(C:Xa P id env hp op=some (e,c))(hc:c):AQ P ⟨dst,op,T,pos,af,gd⟩ id (evO P env) hp e:=by
 unfold Xa at C;split at C
 ·rename_i x y z;unfold pickL at C;split at C
  ·rename_i M;simp only[pv,A2j,A2B] at C;obtain⟨rfl,rfl⟩:=C;grind [Kq,id]
  ·rename_i M;simp only[pv,A2j,A2B] at C;obtain⟨rfl,rfl⟩:=C;grind [Kq,id]
  ·cases C
 ·exact WP C hc
end
def BT(P:Program)(ops:Array Oper)(nx:Nat)(l:List Oper)(pos:Nat)(acc:List Eff)(s:St)(K:List Eff->St->Prop):Prop:=Run P ops nx l pos acc s (λE s=>∃s',s'.fs=s.fs/\K E s')
def Fj(b:Bool)(x y:Prop):Prop:=(b=true->x)/\(b=false->y)
def Gw(ops:Array Oper)(g:Option (Nat×Bool))(s:St)(go skip:St->Prop)(stuck:Prop):Prop:=
 match g with
 |none=>go s
 |some (j,want)=>match KK ops j with
  |none=>stuck
  |some t=>match s.env.get t with
   |.val (.bool b)=>Fj b (bif want then go ⟨(t,.val (.bool true))::s.env,s.hp,s.nx⟩ else skip ⟨(t,.val (.bool true))::s.env,s.hp,s.nx⟩) (bif want then skip ⟨(t,.val (.bool false))::s.env,s.hp,s.nx⟩ else go ⟨(t,.val (.bool false))::s.env,s.hp,s.nx⟩)
   |.cond false (.val (.bool _))=>skip s
   |_=>stuck
def Go(P:Program)(ops:Array Oper)(nx:Nat):List Oper->Nat->List Eff->St->(List Eff->St->Prop)->Prop
 |[],_,acc,s,K=>K acc.reverse s
 |o::r,pos,acc,s,K=>Gw ops o.guard s
   (λs=>match Xa P (2*(nx+4*pos)) s.env.get (Ak s.hp) o.op with
    |some (e,c)=>c/\Go P ops nx r (pos+1) (e::acc) (s.app o.dst e) K
    |none=>BT P ops nx (o::r) pos acc s K)
   (λs=>Go P ops nx r (pos+1) (⟨.cond false (.val (.bool false)),[],[]⟩::acc) (s.app o.dst ⟨.cond false (.val (.bool false)),[],[]⟩) K)
   (BT P ops nx (o::r) pos acc s K)
def FSt.app_eq{s s':St}(h:s'.fs=s.fs)(dst:Option Nat)(e:Eff):(s'.app dst e).fs=(s.app dst e).fs:=by
 rw[St.app_fs,St.app_fs,h]
theorem Run.same{P:Program}{ops:Array Oper}{nx:Nat}{K:List Eff->St->Prop}:∀ {l:List Oper} {pos:Nat} {acc:List Eff} {s s':St},s'.fs=s.fs->BT P ops nx l pos acc s' K->BT P ops nx l pos acc s K
 |[],_,_,_,_,h,⟨s'',h1,h2⟩=>⟨s'',h1.trans h,h2⟩
 |o::_,_,_,_,_,h,.inl ⟨e,h1,h2⟩=>.inl ⟨e,h▸h1,Run.same (FSt.app_eq h o.dst e) h2⟩
 |o::_,_,_,_,_,h,.inr (.inl ⟨F,he,h1,h2⟩)=>.inr (.inl ⟨F,he,h▸h1,λe hF=>Run.same (FSt.app_eq h o.dst e) (h2 e hF)⟩)
 |o::_,_,_,s,s',h,.inr (.inr ⟨d,h1,s'',h2,h3⟩)=>.inr (.inr ⟨d,h▸h1,s'',h2.trans (by
   have:=FSt.app_eq h (some BF) ⟨d,[],[]⟩;simpa[St.app,F0] using this),h3⟩)
def JR{s:St}{t:Nat}{d:D}(h:s.env.get t=d):(⟨(t,d)::s.env,s.hp,s.nx⟩:St).fs=s.fs:=by
 unfold St.fs;congr 1;grind [Env.get]
def Vc{o:Oper}{s:St}{go skip:St->Prop}{stuck:Prop}(h:Gw ops o.guard s go skip stuck):
  stuck\/(∃s',s'.fs=s.fs/\(o.guard=none\/∃j C t,o.guard=some (j,C)/\KK ops j=some t/\gOf (s'.env.get t) C=some true)/\go s')\/
  (∃s',s'.fs=s.fs/\(∃j C t,o.guard=some (j,C)/\KK ops j=some t/\gOf (s'.env.get t) C=some false)/\skip s'):=by
 unfold Gw at h;split at h
 ·grind
 ·rename_i j C M;split at h
  ·simp_all
  ·rename_i t ht;split at h
   ·rename_i b hb;cases C<;>cases b
    ·exact .inr (.inl ⟨_,JR hb,.inr ⟨j,_,t,M,ht,by simp[Env.get,gOf]⟩,h.2 rfl⟩)
    ·exact .inr (.inr ⟨_,JR hb,⟨j,_,t,M,ht,by simp[Env.get,gOf]⟩,h.1 rfl⟩)
    ·exact .inr (.inr ⟨_,JR hb,⟨j,_,t,M,ht,by simp[Env.get,gOf]⟩,h.2 rfl⟩)
    ·exact .inr (.inl ⟨_,JR hb,.inr ⟨j,_,t,M,ht,by simp[Env.get,gOf]⟩,h.1 rfl⟩)
   ·rename_i hb;exact .inr (.inr ⟨s,rfl,⟨j,_,t,M,ht,by rw[hb];rfl⟩,h⟩)
   simp_all
def Go.run{P:Program}{ops:Array Oper}{nx:Nat}:∀ {l:List Oper} {pos:Nat} {acc:List Eff} {s:St} {K:List Eff->St->Prop},Go P ops nx l pos acc s K->BT P ops nx l pos acc s K
 |[],_,_,s,_,h=>⟨s,rfl,h⟩
 |⟨dst,op,T,ps,af,gd⟩::r,pos,acc,s,K,h=>by
  have M:=Vc h;rcases M with h|⟨s',hs,hg,h⟩|⟨s',hs,⟨j,want,t,hg,ht,hf⟩,h⟩
  ·exact h
  ·split at h
   ·rename_i e c N;refine Run.same hs (.inl ⟨e,?_,Go.run h.2⟩);have C:=A0v (dst:=dst) (T:=T) (pos:=ps) (af:=af) (gd:=gd) N h.1;rcases hg with hg|⟨j,want,t,hg,ht,hf⟩
    ·exact Bz.plain hg C
    ·exact Bz.guard_true hg ht hf C
   ·exact Run.same hs h
  ·exact Run.same hs (.inl ⟨_,Bz.guard_false hg ht hf,Go.run h⟩)
def By(P:Program)(f:FuncId):Bool:=
 match P.funcs[f]? with
 |some fn=>!(fn.name== "runtime.NumGoroutine")&& !fn.body.isNone
 |none=>false
def A0(P:Program)(f:FuncId)(ds:List D)(r:D):Prop:=
 By P f=true/\∀(w:World) (I:Nat->Prop) (vs:List Value),GIn P w I->(∀k,I k->k<w.heap.size)->vs.length=ds.length->(∀i,i<ds.length->Rep w I (λ_=>none) (nd ds i) (nv vs i))->
  Calls P f vs.toArray w λe w'=>∃v I',e=.returned v/\Rep w' I' (λ_=>none) r v/\(∀k,I k->I' k)/\(∀k,I' k->I k\/w.heap.size<=k)/\(∀k,I' k->k<w'.heap.size)/\Below w.heap.size w w'
def Bj(hf:By P f=true)(args:Array Value)(w:World):(callFunc f args).run P w=.ok (.enter f args) w:=by
 unfold By at hf;split at hf
 ·rename_i fn C;simp only[A2i,A3u] at hf;simp only[callFunc,A2o,run_program,Result.andThen,C,hf.1,hf.2,A2G,if_false,A2u]
 ·cases hf
def RI{id:Nat}{hp:Nat->Option Blk}{T:TypeId}{pos:String}{af:Array Edge}{gd:Option (Nat×Bool)}{args:Array Operand}{ts:Array TypeId}
  (ha:args.toList.map ev=ds) (a0:An ds=true) (hc:A0 P f ds r):AQ P ⟨dst,.call {callee:=.value (.func f),args:=args,argTypes:=ts},T,pos,af,gd⟩ id ev hp ⟨r,[],[]⟩:=by
 intro w0 M0 I0 fr I mu h a w a1 C a6 N hb K Q hK;subst ha;have a2:∀i,i<(args.toList.map ev).length->Rep w I (λ_=>none) (nd (args.toList.map ev) i) (nv (args.toList.map a.eval) i):=by
  intro i hi;simp at hi;have h1:nd (args.toList.map ev) i=ev args[i]:=by simp[nd,A29,hi]
  have h2:nv (args.toList.map a.eval) i=a.eval args[i]:=by simp[nv,A29,hi]
  have V:=N args[i] (by simp[Op.operands,Call.operands]);have O:=CK a0 i;rw[h1] at O;rw[h1,h2];exact V.unmu O
 have a3:=hc.2 w I (args.toList.map a.eval) (a1.at C) C.lt (by simp) a2;have a4:(execOp a.eval ⟨dst,.call {callee:=.value (.func f),args:=args,argTypes:=ts},T,pos,af,gd⟩).run P w=.ok (.enter f (args.toList.map a.eval).toArray) w:=by
  have e1:args.map a.eval=(args.toList.map a.eval).toArray:=by grind
  have e2:#[]++args.map a.eval++ #[]=(args.toList.map a.eval).toArray:=by simp_all
  exact(congrArg (λz=>(callFunc f z).run P w) e2).trans (Bj hc.1 _ w)
 refine Ci a4 ?_;refine a3.mono λe w' ⟨v,I',he,hv,h1,h2,V,O⟩=>?_;subst he;have Y:∀k,k<w.heap.size->w'.heap[k]? =w.heap[k]?:=λk M=>O.block k M;have U:Ext I mu w I' mu w':=⟨h1,λ_ _ h=>h,λk M=>Y k (C.lt k M)⟩
 refine hK v w' I' mu U ⟨λb x N=>(C.blk b x N).mono U.w U.i U.m λu k Z M=>Y k (C.loc b x u k N Z M).2.2,λb x u k N Z M=>?_,C.inj,λb hb=>C.fresh b hb.1,V,O.os.trans C.os,O.tape.trans C.tape,O.output.trans C.output,A2N C.grown O.size,λk M a5=>(Y k (by have:=C.grown;omega)).trans (C.old k M a5),λk M=>h1 k (C.iold k M),λk M=>?_,C.keep,λb x N hb=>C.used b x N hb.1⟩ (hv.mono (λ_ _=>rfl) (λ_ h=>h) (λ_ _ h=>by cases h))
 ·have:=C.loc b x u k N Z M;grind
 ·rcases h2 k M with h5|h5
  ·exact C.inew k h5
  ·exact .inr (.inr (A2N C.grown h5))
def BT.call{P:Program}{ops:Array Oper}{nx:Nat}{dst:Option Tmp}{T:TypeId}{ps:String}{af:Array Edge}{gd:Option (Nat×Bool)}{f:FuncId}{args:Array Operand}{ts:Array TypeId}{ds:List D}{r:D}{l:List Oper}{pos:Nat}{acc:List Eff}{s:St}{K:List Eff->St->Prop}
  (hc:A0 P f ds r) (C:DO ops s gd) (M:args.toList.map (evO P s.env.get)=ds) (N:An ds=true)
  (O:Go P ops nx l (pos+1) (⟨r,[],[]⟩::acc) (s.app dst ⟨r,[],[]⟩) K):BT P ops nx (⟨dst,.call {callee:=.value (.func f),args:=args,argTypes:=ts},T,ps,af,gd⟩::l) pos acc s K:=by
 refine .inl ⟨_,?_,Go.run O⟩;rcases C with rfl|⟨j,want,t,rfl,ht,C⟩
 ·exact Bz.plain rfl (RI M N hc)
 ·exact Bz.guard_true rfl ht C (RI M N hc)
def BT.go{pos:Nat}{s:St}(h:Go P ops nx l pos acc s K):BT P ops nx l pos acc s K:=Go.run h
def BT.out{pos:Nat}{s:St}(h:BT P ops nx l pos acc s K):Run P ops nx l pos acc s (λE s=>∃s',s'.fs=s.fs/\K E s'):=h
attribute [irreducible] BT
def frz(hp:Nat->Option Blk):Nat->D->D
 |0,d=>d
 |n+1,.ref b i off sz=>match hp b with
  |some (.rows es sz')=>if sz=sz'/\i<es.length then .ptr ((nr es i).map (frz hp n)) off else .ref b i off sz
  |_=>.ref b i off sz
 |n+1,.sref b i len cap sz=>match hp b with
  |some (.rows es sz')=>if sz=sz'/\i+len<=es.length/\len<=cap/\cap<=9223372036854775807 then .slice (bif Aa es then(es.drop i).take len else((es.drop i).take len).map λr=>r.map (frz hp n)) (decide (cap=len)) else .sref b i len cap sz
  |_=>.sref b i len cap sz
 |_+1,.gref b len=>match hp b with
  |some (.grow es _)=>if len=es.length/\Aa es=true then .slice es false else .gref b len
  |_=>.gref b len
 |_+1,.gsub b i len sz=>match hp b with
  |some (.grow es sz')=>if sz=sz'/\i+len<=es.length/\Aa es=true then .slice ((es.drop i).take len) false else .gsub b i len sz
  |_=>.gsub b i len sz
 |n+1,.agg cs=>.agg (cs.map (frz hp n))
 |n+1,.tup cs=>.tup (cs.map (frz hp n))
 |n+1,.iface t d=>.iface t (frz hp n d)
 |n+1,.func fn fs cs=>.func fn (fs.map (frz hp n)) (cs.map (frz hp n))
 |_+1,d=>d
theorem Dq{f:D->D}(hi:i<cs.length):nd (cs.map f) i=f (nd cs i):=by simp[nd,A29,hi]
theorem Rep.frz{w0:World}{M0:Nat->Prop}{I0:Gh}{fr I J:Nat->Prop}{mu:Nat->Option Value}{hp:Nat->Option Blk}{w:World}(hr:AA w0 M0 I0 fr I mu hp w)(a3:∀k,I k->J k)(Z:∀b x v k,hp b=some x->mu b=some v->Al v=some k->J k):
  ∀(n:Nat) (d:D) (v:Value),Rep w I mu d v->Rep w J mu (frz hp n d) v:=by
 have mono:∀d v,Rep w I mu d v->Rep w J mu d v:=λd v h=>h.mono (λ_ _=>rfl) a3 (λ_ _ h=>h);intro n
 induction n with
 |zero=>intro d v h;exact mono d v h
 |succ n ih=>
  intro d v h;cases d with
  |any=>exact mono _ _ h
  |abool n pos=>exact mono _ _ h
  |val x=>exact mono _ _ h
  |cond g d=>exact mono _ _ h
  |slice es t=>exact mono _ _ h
  |ptr cs off=>exact mono _ _ h
  |mref b=>exact mono _ _ h
  |yld b=>exact mono _ _ h
  |gel b i off sz=>exact mono _ _ h
  |gsub b i len sz=>
   simp[Go.Ab.frz];split
   ·rename_i es a0 M;split
    ·rename_i N;obtain⟨rfl,a7,a1⟩:=N;obtain⟨A,cap,T,us,h1,h2,U,Y⟩:=hr.blk b _ M;cases h with
     |gsub _ _ _ _ A' B n cap' C a8 hB=>
      rw[h1] at C;obtain⟨rfl,rfl,rfl⟩:=C;have a4:((es.drop i).take len).length=len:=by simp;omega
      rcases A2K len with h0|hpos
      ·subst h0;exact .slice [] false B 0 0 0 (cap-i) (λ_ _=>.nilFunc) (by simp_all) (A2w _) (λh=>by cases h) (by omega) (by simp_all) (by omega) (by omega)
      rcases Y with⟨rfl,rfl⟩|⟨k,g0,rfl,g1,g2,g3,g4⟩
      ·omega
      have a5:∀j,j<len->nr ((es.drop i).take len) j=nr es (i+j):=by
       grind [nr]
      have a6:B=some ⟨k,i*sz,none⟩:=by rw[hB (.inl (by omega))];simp[Ca]
      have:Rep w J mu (.slice ((es.drop i).take len) false) (.slice B ((es.drop i).take len).length (cap-i)):=by
       refine .slice _ _ _ k (i*sz) sz (cap-i) (λj l=>nv us ((i+j)*sz+l)) (λ_=>⟨a6,λ_=>Z b _ _ k M h1 (by simp[Al];omega)⟩) (by omega) (λh=>by cases h) (by omega) (λj O=>by grind) (λj l O hl=>?_) λj l O hl=>by grind
       have hlt:(i+j)*sz+l<us.length:=by
        have:(i+j)*sz+sz<=cap*sz:=by rw[<-A2M];exact A2n _ (by omega)
        omega
       have e:i*sz+(j*sz+l)=(i+j)*sz+l:=by grind
       simp_all [World.cell?,nv,if_neg]
      simp_all
    simp_all
   simp_all
  |func fn fs cs=>
   cases h with
   |func _ _ _ us vs hl C h1 h2=>
   refine .func fn _ _ us vs (by simp_all) (by simp_all) (λi hi=>?_) λi hi=>?_
   ·simp at hi;rw[Dq hi];exact ih _ _ (h1 i hi)
   ·simp at hi;rw[Dq hi];exact ih _ _ (h2 i hi)
  |agg cs=>
   obtain⟨us,rfl,hl,a2⟩:=h.agg_inv;refine .agg _ us (by simp_all) λi hi=>?_;grind [Dq]
  |tup cs=>
   obtain⟨us,rfl,hl,a2⟩:=h.tup_inv;refine .tup _ us (by simp_all) λi hi=>?_;grind [Dq]
  |iface t d=>
   cases h with
   |iface _ _ u hu=>exact .iface t _ u (ih _ _ hu)
  |ref b i off sz=>
   simp[Go.Ab.frz];split
   ·rename_i es a0 M;split
    ·rename_i N;obtain⟨rfl,hi⟩:=N;obtain⟨k,T,us,h1,h2,U,Y,h5⟩:=hr.blk b _ M;cases h with
     |ref _ _ _ _ k' C=>
      rw[h1] at C;simp at C;subst C;have a9:i*sz+sz<=es.length*sz:=by rw[<-A2M];exact A2n _ hi
      refine .ptr _ off k (i*sz) (λj=>nv us (i*sz+j)) (λ_=>Z b _ _ k M h1 rfl) (λj O=>?_) λj O=>?_
      ·simp at O;simp[World.cell?,h2,A3I,nv];grind
      grind [Dq]
    simp_all
   simp_all
  |sref b i len cap sz=>
   simp only[Go.Ab.frz];split
   ·rename_i es a0 M;split
    ·rename_i N;obtain⟨rfl,hi,aa,ab⟩:=N;obtain⟨k,T,us,h1,h2,U,Y,h5⟩:=hr.blk b _ M;cases h with
     |sref _ _ _ _ _ k' C=>
      rw[h1] at C;simp at C;subst C;have a4:((es.drop i).take len).length=len:=by simp;omega
      have a5:∀j,j<len->nr ((es.drop i).take len) j=nr es (i+j):=by
       grind [nr]
      have ac:∀L:LLa,L.length=len->(∀j,j<len->(nr L j).length=sz)->(∀j l,j<len->l<sz->Rep w J mu (nd (nr L j) l) (nv us ((i+j)*sz+l)))->Rep w J mu (.slice L (decide (cap=len))) (.slice (some ⟨k,i*sz,none⟩) len cap):=by
       intro L hL hz a2;have:Rep w J mu (.slice L (decide (cap=len))) (.slice (some ⟨k,i*sz,none⟩) L.length cap):=by
        refine .slice L _ _ k (i*sz) sz cap (λj l=>nv us ((i+j)*sz+l)) (λ_=>⟨rfl,λ_=>Z b _ _ k M h1 rfl⟩) (by omega) (λh=>by simp_all) (by simp[maxLen];omega) (by simp_all) (λj l O hl=>?_) (by simp_all);have hlt:(i+j)*sz+l<us.length:=by
         rw[U];have:(i+j)*sz+sz<=es.length*sz:=by rw[<-A2M];exact A2n _ (by omega)
         omega
        have e:i*sz+(j*sz+l)=(i+j)*sz+l:=by grind
        simp_all [World.cell?,nv,if_neg]
       simp_all
      cases a1:Aa es with
      |true=>
       grind
      |false=>
       simp only[cond_false];grind [nr,Go.Ab.frz,Dq]
    simp_all
   simp_all
  |gref b len=>
   simp[Go.Ab.frz];split
   ·rename_i es V M;split
    ·rename_i N;obtain⟨rfl,a1⟩:=N;obtain⟨A,cap,T,us,h1,h2,U,Y⟩:=hr.blk b _ M;cases h with
     |gref _ _ A' cap' C=>
      rw[h1] at C;simp at C;obtain⟨rfl,rfl⟩:=C;rcases Y with⟨rfl,rfl⟩|⟨k,g0,rfl,g1,g2,g3,g4⟩
      ·exact .slice [] false A 0 0 0 0 (λ_ _=>.nilFunc) (by simp_all) (A2e _) (λh=>by cases h) U (by simp_all) (by omega) (by omega)
      ·refine .slice es false _ k 0 V cap (λi j=>nv us (i*V+j)) (λ_=>⟨rfl,λ_=>Z b _ _ k M h1 (by simp[Al];omega)⟩) g2 (λh=>by cases h) U h2 (λi j hi O=>?_) (by simp_all);have hlt:i*V+j<us.length:=by
        rw[g3];have:i*V+V<=cap*V:=by rw[<-A2M];exact A2n _ (by omega)
        omega
       simp_all [World.cell?,nv,if_neg]
    simp_all
   simp_all
def LX(P:Program)(s:St):ResultVar->Option D
 |.tmp t=>some (s.env.get t)
 |.cell a T=>match Au P T with
  |some ti=>match s.env.get a,Kl ti (Ak s.hp) (s.env.get a) with
   |.ref b i off sz,some (e,_)=>match Ak s.hp b with
    |some (.rows es sz')=>if sz=sz'/\i<es.length/\off+ti.sz<=sz/\0<ti.sz then some e.d else none
    |_=>none
   |_,_=>none
  |none=>none
def KD(P:Program)(s:St):List ResultVar->Option D
 |[x]=>LX P s x
 |l=>match l.mapM (LX P s) with
  |some ds=>some (.tup ds)
  |none=>none
def BB:Nat->List D->Env
 |_,[]=>[]
 |k,d::r=>(k,d)::BB (k+1) r
mutual
def lo:D->D->Prop
 |.slice es t,.slice es' t'=>EM es es'/\(t'=true->t=true)
 |.agg cs,.agg cs'=>loL cs cs'
 |.tup cs,.tup cs'=>loL cs cs'
 |.iface t d,.iface t' d'=>t=t'/\lo d d'
 |.ptr cs o,.ptr cs' o'=>o=o'/\loL cs cs'
 |.func f fs cs,.func f' fs' cs'=>f=f'/\loL fs fs'/\loL cs cs'
 |d,r=>r=.any\/d=r
def loL:List D->List D->Prop
 |[],[]=>True
 |d::l,d'::l'=>lo d d'/\loL l l'
 |[],_::_=>False
 |_::_,[]=>False
def EM:LLa->LLa->Prop
 |[],[]=>True
 |d::l,d'::l'=>loL d d'/\EM l l'
 |[],_::_=>False
 |_::_,[]=>False
end
mutual
def Av:∀d:D,lo d d
 |.slice es t=>by simp only[lo];exact⟨Bp es,id⟩
 |.agg cs=>by simp only[lo];exact B0 cs
 |.tup cs=>by simp only[lo];exact B0 cs
 |.iface t d=>by simp only[lo];exact⟨trivial,Av d⟩
 |.ptr cs o=>by simp only[lo];exact⟨trivial,B0 cs⟩
 |.any=>by simp[lo]
 |.val _=>by simp[lo]
 |.cond _ _=>by simp[lo]
 |.func f fs cs=>by simp only[lo];exact⟨trivial,B0 fs,B0 cs⟩
 |.ref _ _ _ _=>by simp[lo]
 |.sref _ _ _ _ _=>by simp[lo]
 |.gref _ _=>by simp[lo]
 |.mref _=>by simp[lo]
 |.yld _=>by simp[lo]
 |.abool _ _=>by simp[lo]
 |.gel _ _ _ _=>by simp[lo]
 |.gsub _ _ _ _=>by simp[lo]
def B0:∀l:List D,loL l l
 |[]=>by simp[loL]
 |d::l=>by simp only[loL];exact⟨Av d,B0 l⟩
def Bp:∀l:LLa,EM l l
 |[]=>by simp[EM]
 |d::l=>by simp only[EM];exact⟨B0 d,Bp l⟩
end
theorem C3:∀ {l C:List D},loL l C->l.length=C.length/\∀i,i<l.length->lo (nd l i) (nd C i)
 |[],[],_=>by simp
 |[],_::_,h=>by simp[loL] at h
 |_::_,[],h=>by simp[loL] at h
 |d::l,d'::C,h=>by
  obtain⟨h1,h2⟩:=C3 h.2;refine⟨by simp[h1],λi hi=>?_⟩;cases i with
  |zero=>simpa [nd] using h.1
  |succ i=>have:=h2 i (by simpa using hi);simpa[nd] using this
def JW:∀ {l C:LLa},EM l C->l.length=C.length/\∀i,i<l.length->loL (nr l i) (nr C i)
 |[],[],_=>by simp
 |[],_::_,h=>by simp[EM] at h
 |_::_,[],h=>by simp[EM] at h
 |d::l,d'::C,h=>by
  obtain⟨h1,h2⟩:=JW h.2;refine⟨by simp[h1],λi hi=>?_⟩;cases i with
  |zero=>simpa [nr] using h.1
  |succ i=>have:=h2 i (by simpa using hi);simpa[nr] using this
def Rep.lo{w:World}{I:Nat->Prop}{mu:Nat->Option Value}{d:D}{v:Value}(h:Rep w I mu d v):∀ {r:D},lo d r->Rep w I mu r v:=by
 induction h with
 |any v=>intro r h;cases r<;>simp [Go.Ab.lo] at h;exact .any v
 |val v ok=>intro r h;cases r<;>simp [Go.Ab.lo] at h;exact .any v;subst h;exact .val v ok
 |cond g d v h1 h2 M=>intro r h;cases r<;>simp [Go.Ab.lo] at h;exact .any v;obtain⟨rfl,rfl⟩:=h;exact .cond _ _ v h1 h2
 |agg cs us hl h1 M=>
  intro r h;cases r<;>simp [Go.Ab.lo] at h;exact .any _;obtain⟨h2,C⟩:=C3 h;exact .agg _ us (by omega) (by simp_all)
 |tup cs us hl h1 M=>
  intro r h;cases r<;>simp [Go.Ab.lo] at h;exact .any _;obtain⟨h2,C⟩:=C3 h;exact .tup _ us (by omega) (by simp_all)
 |slice es tight A k o sz cap u O hc ht hm a0 U h1 M=>
  intro r h;cases r<;>simp [Go.Ab.lo] at h;exact .any _;obtain⟨h,a1⟩:=h;obtain⟨h2,C⟩:=JW h;rename_i es' V;have:=Rep.slice es' V A k o sz cap u (λh=>O (by omega)) (by omega) (λh=>by simp_all) hm (λi hi=>by grind [C3]) (by simp_all) (λi j hi Y=>M i j (by omega) Y ((C3 (C i (by omega))).2 j (by simp_all)));simp_all
 |ptr cs off k o u N U h1 M=>
  intro r h;cases r<;>simp [Go.Ab.lo] at h;exact .any _;obtain⟨rfl,h⟩:=h;obtain⟨h2,C⟩:=C3 h;exact .ptr _ _ k o u (λh=>N (by omega)) (by simp_all) (by simp_all)
 |ref b i off sz k h1=>intro r h;cases r<;>simp [Go.Ab.lo] at h;exact .any _;obtain⟨rfl,rfl,rfl,rfl⟩:=h;exact .ref _ _ _ _ k h1
 |sref b i len cap sz k h1=>intro r h;cases r<;>simp [Go.Ab.lo] at h;exact .any _;obtain⟨rfl,rfl,rfl,rfl,rfl⟩:=h;exact .sref _ _ _ _ _ k h1
 |gref b len A cap h1=>intro r h;cases r<;>simp [Go.Ab.lo] at h;exact .any _;obtain⟨rfl,rfl⟩:=h;exact .gref _ _ A cap h1
 |mref b k h1=>intro r h;cases r<;>simp [Go.Ab.lo] at h;exact .any _;subst h;exact .mref _ k h1
 |yld b k h1=>intro r h;cases r<;>simp [Go.Ab.lo] at h;exact .any _;subst h;exact .yld _ k h1
 |abool n pos b h1=>intro r h;cases r<;>simp [Go.Ab.lo] at h;exact .any _;obtain⟨rfl,rfl⟩:=h;exact .abool _ _ b h1
 |gel b i off sz k len cap h1=>intro r h;cases r<;>simp [Go.Ab.lo] at h;exact .any _;obtain⟨rfl,rfl,rfl,rfl⟩:=h;exact .gel _ _ _ _ k len cap h1
 |gsub b i len sz A B n cap h1 h2 C=>intro r h;cases r<;>simp [Go.Ab.lo] at h;exact .any _;obtain⟨rfl,rfl,rfl,rfl⟩:=h;exact .gsub _ _ _ _ A B n cap h1 h2 C
 |func fn fs cs us vs hl N h1 h2 a2 a3=>
  intro r h;cases r<;>simp [Go.Ab.lo] at h;exact .any _;obtain⟨rfl,C,Z⟩:=h;obtain⟨g1,g2⟩:=C3 C;obtain⟨g3,g4⟩:=C3 Z;exact .func _ _ _ us vs (by omega) (by omega) (by simp_all) (by simp_all)
 |iface t d v h1 M=>
  intro r h;cases r<;>simp [Go.Ab.lo] at h;exact .any _;obtain⟨rfl,h⟩:=h;exact .iface _ _ v (M h)
def loB:Blk->Blk->Prop
 |_,.junk=>True
 |.rows es sz,.rows es' sz'=>EM es es'/\sz=sz'
 |.grow es sz,.grow es' sz'=>EM es es'/\sz=sz'
 |x,y=>x=y
def Ag(x:Blk):loB x x:=by cases x<;>simp [loB,Bp]
def DQ.lo{w:World}{I:Nat->Prop}{mu:Nat->Option Value}{b:Nat}{x y:Blk}(h:DQ w I mu b x)(hl:loB x y):DQ w I mu b y:=by
 by_cases C:y=.junk
 ·subst C;trivial
 cases x with
 |rows es sz=>
  cases y<;>simp [loB] at hl C;obtain⟨hl,rfl⟩:=hl;obtain⟨k,T,us,h1,h2,N,O,U⟩:=h;obtain⟨V,M⟩:=JW hl;exact⟨k,T,us,h1,h2,by simp_all,λi hi=>by grind [C3],λi j hi C=>(U i j (by omega) C).lo ((C3 (M i (by omega))).2 j (by simp_all))⟩
 |grow es sz=>
  cases y<;>simp [loB] at hl C;obtain⟨hl,rfl⟩:=hl;obtain⟨A,cap,T,us,h1,h2,N,O⟩:=h;obtain⟨V,M⟩:=JW hl;refine⟨A,cap,T,us,by simp_all,λi hi=>by grind [C3],N,?_⟩;rcases O with⟨U,h6⟩|⟨k,Y,Z,q2,q3,q4,q5⟩
  ·grind
  ·exact .inr ⟨k,Y,Z,q2,by omega,q4,λi j hi C=>(q5 i j (by omega) C).lo ((C3 (M i (by omega))).2 j (by simp_all))⟩
 |map es ck=>
  cases y<;>simp [loB] at hl C;simp_all
 |iter m a0 seen last=>
  cases y<;>simp [loB] at hl C;simp_all
 |obj o=>
  cases y<;>simp [loB] at hl C;simp_all
 |loop env nt st pd ps a c=>
  cases y<;>simp [loB] at hl C;simp_all
 |pr g p=>
  cases y<;>simp [loB] at hl C;simp_all
 |junk=>
  cases y<;>simp [loB] at hl C
def Yn(P:Program)(rs:List ResultVar)(r:D):AE->St->Prop
 |.ret,s|.normal,s=>∃d,KD P s rs=some d/\lo (frz (Ak s.hp) 6 d) r/\r.pure=true
 |_,_=>False
def G7:∀(ds:List D) (k t:Nat),(BB k ds).get t=if k<=t/\t<k+ds.length then nd ds (t-k) else .any
 |[],k,t=>by simp[BB,Env.get];omega
 |d::ds,k,t=>by
  simp only[BB,Env.get,G7 ds (k+1) t,A2l];by_cases h:k=t
  ·subst h;simp[nd]
  ·have:(k==t)=false:=by simp[h]
   by_cases h1:k+1<=t/\t<k+1+ds.length
   ·rw[if_pos h1,if_pos (by omega)];grind [nd]
   grind
def Jk(tmps:Array Value)(x:ResultVar):Sem Value:=
 match x with
 |.tmp t=>pure (tmps.getD t undef)
 |.cell b t=>do loadVar t (<-asAddr (tmps.getD b undef))
section
variable{P:Program}{w0:World}{M0:Nat->Prop}{I0:Gh}{fr I:Nat->Prop}{mu:Nat->Option Value}{w:World}{s:St}{a:Act}{nt:Nat}
def load_ref(ht:Au P T=some ti)(hr:AA w0 M0 I0 fr I mu hp w){b off sz:Nat}{C:Value}(N:Rep w I mu (.ref b i off sz) C){es:LLa}(M:hp b=some (.rows es sz))(hi:i<es.length)(Y:off+ti.sz<=sz)(Z:0<ti.sz)(O:Kl ti hp (.ref b i off sz)=some (e,c)):
  ∃v k o,C=.pointer (some ⟨k,o,none⟩)/\(loadVar T ⟨k,o,none⟩).run P w=.ok v w/\Rep w I mu e.d v:=by
 cases N with
 |ref _ _ _ _ k U=>
  obtain⟨k',T',us,h1,h2,h3,V,h5⟩:=hr.blk b _ M;rw[U] at h1;simp at h1;have a0:=V i hi;have a1:i*sz+sz<=es.length*sz:=by rw[<-A2M];exact A2n _ hi
  have hl:=Cx (I:=I) (mu:=mu) ht w k (i*sz) (nr es i) (λj=>nv us (i*sz+j)) (λj hj=>by
    simp[World.cell?,h2,A3I,nv];grind)
  simp[Kl,M] at O;grind
def P5(r:Rel w0 M0 I0 nt fr I mu s.fs a w){x:ResultVar}{d:D}(h:LX P s x=some d):
  ∃v,(Jk a.tmps x).run P w=.ok v w/\Rep w I mu d v:=by
 cases x with
 |tmp t=>
  simp[LX,A2j] at h;subst h;exact⟨_,rfl,r.env t⟩
 |cell b T=>
  simp[LX] at h;split at h
  ·rename_i ti ht;split at h
   ·rename_i C i off sz e c M N;split at h
    ·rename_i es a0 O;split at h
     ·rename_i U;obtain⟨rfl,hi,V,Y⟩:=U;simp at h;subst h;have hv:=r.env b;have Z:Rep w I mu (.ref C i off sz) (a.tmps.getD b undef):=by
       have:s.fs.env b=s.env.get b:=rfl;simp_all
      obtain⟨v,k,o,h1,h2,h3⟩:=load_ref ht r.w Z O hi V Y (by rw[<-M];exact N);refine⟨v,?_,h3⟩;show(do loadVar T (<-asAddr (a.tmps.getD b undef)):Sem Value).run P w=_;rw[h1];simpa[asAddr] using h2
     ·cases h
    ·cases h
   ·cases h
  ·cases h
def MU(fn:Func)(tmps:Array Value):∀(rs:List ResultVar) (vs:List Value),rs.length=vs.length->(∀(i:Nat) x v,rs[i]? =some x->vs[i]? =some v->(Jk tmps x).run P w=.ok v w)->
  (rs.mapM (Jk tmps)).run P w=.ok vs w
 |[],[],_,_=>by simp
 |[],_::_,h,_=>by simp at h
 |_::_,[],h,_=>by simp at h
 |x::rs,v::vs,hl,h=>by
  have h0:=h 0 x v rfl rfl;have C:=MU fn tmps rs vs (by simp_all) λi y u M N=>h (i+1) y u (by simp_all) (by simp_all);simp_all
def QZ{α β:Type}{g:α->Option β}:∀ {l:List α} {r:List β},l.mapM g=some r->r.length=l.length/\∀(i:Nat) (x:α),l[i]? =some x->∃y,r[i]? =some y/\g x=some y
 |[],r,h=>by simp_all
 |a::l,r,h=>by
  simp only[List.mapM_cons,Option.bind_eq_bind,Option.bind_eq_some_iff] at h;obtain⟨b,hb,N,M,h⟩:=h;simp at h;subst h;obtain⟨h1,h2⟩:=QZ M;refine⟨by simp[h1],λi x C=>?_⟩;cases i with
  |zero=>simp at C;subst C;exact⟨b,by simp,hb⟩
  |succ i=>simpa using(by simp_all)
def Jl(r:Rel w0 M0 I0 nt fr I mu s.fs a w)(fn:Func){d:D}(h:KD P s fn.results.toList=some d):∃v,(results fn a.tmps).run P w=.ok v w/\Rep w I mu d v:=by
 have M:∀vs:List Value,(fn.results.toList.mapM (Jk a.tmps)).run P w=.ok vs w->
   (results fn a.tmps).run P w=.ok (if h:vs.toArray.size=1 then vs.toArray[0] else .tuple vs.toArray) w:=by
  intro vs hvs;have N:∀F:ResultVar->Sem Value,(∀x,F x=Jk a.tmps x)->(do let vs <-fn.results.mapM F;pure (if h:vs.size=1 then vs[0] else .tuple vs):Sem Value).run P w=.ok (if h:vs.toArray.size=1 then vs.toArray[0] else .tuple vs.toArray) w:=by
   intro F hF;obtain rfl:F=Jk a.tmps:=funext hF;grind [Array.mapM_eq_mapM_toList,Sem.run_bind,Sem.run_map,Result.andThen,Sem.run_pure]
  exact N _ λx=>by cases x<;>rfl
 unfold KD at h;split at h
 ·rename_i x C;obtain⟨v,h1,h2⟩:=P5 r h;simp_all
 ·rename_i l a0;split at h
  ·rename_i ds O;simp at h;subst h;obtain⟨hl,U⟩:=QZ O;have V:∃vs:List Value,vs.length=fn.results.toList.length/\∀(i:Nat) x,fn.results.toList[i]? =some x->(Jk a.tmps x).run P w=.ok (nv vs i) w/\Rep w I mu (nd ds i) (nv vs i):=by
    have:∀(i:Nat),∃v,∀x,fn.results.toList[i]? =some x->(Jk a.tmps x).run P w=.ok v w/\Rep w I mu (nd ds i) v:=by
     intro i;cases C:fn.results.toList[i]? with
     |none=>simp_all
     |some x=>
      obtain⟨y,a1,Y⟩:=U i x C;obtain⟨v,h1,h2⟩:=P5 r Y;simp_all [nd]
    refine⟨(List.range fn.results.toList.length).map λi=>Classical.choose (this i),by simp,λi x C=>?_⟩;grind [nv,Classical.choose,Classical.choose_spec]
   obtain⟨vs,hvl,hv⟩:=V;have:=M vs (MU fn a.tmps _ vs hvl.symm λi x u C hu=>by
    grind [nv])
   have Z:¬vs.toArray.size=1:=by
    intro h1;rw[A2A,hvl] at h1
    match hll:fn.results.toList,h1 with
    |[x],_=>simp_all
   rw[dif_neg Z] at this;refine⟨_,this,.tup ds vs (by omega) λi hi=>?_⟩;simp_all
  ·cases h
def Qg{w:World}{k o:Nat}{u:Value}(h:w.cell? ⟨k,o,none⟩=some u):∃us T fz,w.heap[k]? =some (.cells us T fz):=by
 grind [World.cell?]
def Rep.shut{w:World}{I I':Nat->Prop}{mu:Nat->Option Value}(U:∀k,I k->(∃us T fz,w.heap[k]? =some (.cells us T fz))->I' k/\w'.heap[k]? =w.heap[k]?){d:D}(h:Rep w I mu d v):Rep w' I' mu d v:=by
 induction h with
 |any v=>exact .any v
 |val v ok=>exact .val v ok
 |cond g d v _ V C=>exact .cond g d v C V
 |agg cs us hl _ C=>exact .agg cs us hl C
 |tup cs us hl _ C=>exact .tup cs us hl C
 |slice es tight A k o sz cap u hA hc ht hm Y N _ C=>
  have key:∀i j,i<es.length->j<sz->I' k/\w'.heap[k]? =w.heap[k]?:=λi j hi M=>U k (by grind) (Qg (N i j hi M));refine .slice es tight A k o sz cap u (by grind) hc ht hm Y (λi j hi M=>?_) C;grind [FA]
 |ptr cs off k o u O N _ C=>
  have key:∀j,j<cs.length->I' k/\w'.heap[k]? =w.heap[k]?:=λj M=>U k (O (by omega)) (Qg (N j M));refine .ptr cs off k o u (λh=>(key 0 h).1) (λj M=>?_) C;rw[FA (key j M).2];simp_all
 |ref b i off sz k h=>exact .ref b i off sz k h
 |sref b i len cap sz k h=>exact .sref b i len cap sz k h
 |gref b len A cap h=>exact .gref b len A cap h
 |mref b k h=>exact .mref b k h
 |yld b k h=>exact .yld b k h
 |func fn fs cs us vs hl O _ _ C Z=>exact .func fn fs cs us vs hl O C Z
 |iface t d v _ C=>exact .iface t d v C
 |abool n pos b h=>exact .abool n pos b h
 |gel b i off sz k len cap h=>exact .gel b i off sz k len cap h
 |gsub b i len sz A B n cap h a0 hB=>exact .gsub b i len sz A B n cap h a0 hB
def DQ.shut{w w':World}{I I':Nat->Prop}{mu:Nat->Option Value}(O:∀k,I k->(∃us T fz,w.heap[k]? =some (.cells us T fz))->I' k/\w'.heap[k]? =w.heap[k]?){b:Nat}{x:Blk}(h:DQ w I mu b x)
  (hb:∀v k,mu b=some v->Al v=some k->w'.heap[k]? =w.heap[k]?):DQ w' I' mu b x:=by
 cases x with
 |rows es sz=>
  obtain⟨k,T,us,h1,h2,C,M,N⟩:=h;exact⟨k,T,us,h1,by rw[hb _ k h1 rfl];exact h2,C,M,λi j hi U=>(N i j hi U).shut O⟩
 |grow es sz=>
  obtain⟨A,cap,T,us,h1,h2,C,M⟩:=h;refine⟨A,cap,T,us,h1,h2,C,?_⟩;rcases M with M|⟨k,h0,hA,N,h6,h7,h8⟩
  ·simp_all
  ·exact .inr ⟨k,h0,hA,by rw[hb _ k h1 (by rw[hA];simp[Al];omega)];exact N,h6,h7,λi j hi U=>(h8 i j hi U).shut O⟩
 |map es a0=>
  obtain⟨k,l,h1,h2,C,M,N⟩:=h;exact⟨k,l,h1,by rw[hb _ k h1 rfl];exact h2,C,M,λi x y V Y=>(N i x y V Y).shut O⟩
 |iter m a1 seen last=>
  obtain⟨k,Z,h1,h2,C⟩:=h;exact⟨k,Z,h1,h2,by rw[hb _ k h1 rfl];exact C⟩
 |obj o=>
  obtain⟨k,h1,h2⟩:=h;exact⟨k,h1,by rw[hb _ k h1 rfl];exact h2⟩
 |loop env nt st pd ps a c=>
  obtain⟨k,fn,tmps,kd,h1,h2,C,M⟩:=h;exact⟨k,fn,tmps,kd,h1,by rw[hb _ k h1 rfl];exact h2,C,λt=>(M t).shut O⟩
 |pr g p=>
  obtain⟨v,u,h1,h2,C,M,N⟩:=h;exact⟨v,u,h1,h2,C,M,by rw[obAt h1 hb];exact N⟩
 |junk=>trivial
def Ee(rs:List Nat)(w:World):World:=rs.foldl (λw r=>w.putObj r (.deferred none)) w
theorem Hm:∀(rs:List Nat) (w:World),(Ee rs w).heap.size=w.heap.size
 |[],_=>rfl
 |r::rs,w=>(Hm rs _).trans (by simp)
def NV:∀(rs:List Nat) (w:World),(Ee rs w).os=w.os/\(Ee rs w).tape=w.tape/\(Ee rs w).output=w.output
 |[],_=>⟨rfl,rfl,rfl⟩
 |r::rs,w=>NV rs (w.putObj r (.deferred none))
theorem Hn:∀(rs:List Nat) (w:World) (k:Nat),k ∉ rs->(Ee rs w).heap[k]? =w.heap[k]?
 |[],_,_,_=>rfl
 |r::rs,w,k,h=>by
  simp at h;exact(Hn rs _ k h.2).trans (World.putObj_heap_other h.1)
def HA{F:Fence}{n:Nat}{fn:Func}{tmps:Array Value}{R:Ending->World->Prop}{u:FrameMode}(C:u≠ .run){dl:List Deferred}:∀(rs:List Nat) (w:World),rs.Nodup->(∀r ∈ rs,w.heap[r]? =some (.deferred (some [])))->
  LeavesInM F n P fn tmps R dl u (Ee rs w)->LeavesInM F n P fn tmps R (rs.map (λr=> {target:=.collected r,args:=#[]})++dl) u w
 |[],_,_,_,h=>h
 |r::rs,w,hn,hr,h=>by
  simp at hn;refine⟨C,.inl ⟨r,_,rfl,run_takeDeferred (hr r A36),HA C rs _ hn.2 (λk M=>?_) h⟩⟩;rw[World.putObj_heap_other (by grind)];simp_all
def AA.shut{G:Gh}{hp:Nat->Option Blk}(h:AA w0 M0 G fr I mu hp w)(Z:∀k,G k->k<w0.heap.size){rs:List Nat}(hr:∀r ∈ rs,I r/\w0.heap.size<=r/\w.heap[r]? =some (.deferred (some []))):
  AA w0 M0 G fr (λk=>I k/\k ∉ rs) mu hp (Ee rs w)/\∀d v,Rep w I mu d v->Rep (Ee rs w) (λk=>I k/\k ∉ rs) mu d v:=by
 have O:∀k,I k->(∃us T fz,w.heap[k]? =some (.cells us T fz))->(I k/\k ∉ rs)/\(Ee rs w).heap[k]? =w.heap[k]?:=by
  grind [Hn]
 have U:∀b x v k,hp b=some x->mu b=some v->Al v=some k->k ∉ rs:=λb x v k N M C hm=>(h.loc b x v k N M C).2.1 (hr k hm).1;obtain⟨s1,s2,V⟩:=NV rs w;refine⟨⟨λb x N=>(h.blk b x N).shut O λv k M C=>Hn rs w k (U b x v k N M C),λb x v k N M C=>?_,h.inj,h.fresh,λk C=>by rw[Hm];exact h.lt k C.1,s1.trans h.os,s2.trans h.tape,V.trans h.output,by rw[Hm];exact h.grown,λk C Y=>?_,λk C=>⟨h.iold k C,λhm=>?_⟩,λk C=>h.inew k C.1,h.keep,h.used⟩,λd v M=>M.shut O⟩
 ·have:=h.loc b x v k N M C;grind [Hm]
 ·rw[Hn rs w k λhm=>by grind];exact h.old k C Y
 grind
def Rel.leave{G:Gh}{F:Fence}{n:Nat}{fn:Func}{d:D}{R:Ending->World->Prop}(r:Rel w0 M0 G nt fr I mu s.fs a w)(M:∀k,G k->k<w0.heap.size)(N:G.dl=[])(O:KD P s fn.results.toList=some d)
  (k:∀v w' I',(∀k,I' k->I k)->AA w0 M0 G fr I' mu s.fs.hp w'->Rep w' I' mu d v->R (.returned v) w'):LeavesInM F n P fn a.tmps R a.defers .returning w:=by
 obtain⟨rs,_,h1,h2,U⟩:=r.defers;obtain⟨C,V⟩:=r.w.shut M U;rw[h1,N];refine HA (by simp) rs w h2 (by simp_all) ?_;obtain⟨v,Y,Z⟩:=Jl (I0:=⟨G.st,G.nm,a.defers,G.F,G.n,G.hF⟩)
  ⟨r.size,C8.refl _ _ _ _,λt=>V _ _ (r.env t),⟨C.blk,C.loc,C.inj,C.fresh,C.lt,C.os,C.tape,C.output,C.grown,C.old,C.iold,C.inew,C.keep,C.used⟩⟩ fn O
 exact⟨v,Y,k v _ _ (λ_ h=>h.1) C Z⟩
def A0.of_awp{fn:Func}{c:Code}(hf:P.funcs[f]? =some fn)(hb:fn.body=some c)(hn:fn.ntmps=nt)(a2:By P f=true)(a5:ds.length<=nt){rs:List ResultVar}(a3:fn.results.toList=rs)
  (h:AWp P nt c (Yn P rs r) ⟨BB 0 ds,[],0⟩):A0 P f ds r:=by
 subst a3;refine⟨a2,λw I vs Y Z hl a6=>?_⟩;let G:Gh:=⟨I,λ_=>none,[],Fence.wide,0,.inl rfl⟩
 refine callsIn_wide.1 (callsIn_of_wp_marks hf hb trivial (wpIn_mono (h w (λ_=>False) G (λg l hl=>⟨(Y g l hl).1,Z g (Y g l hl).1,λh=>h,(Y g l hl).2⟩) I (λ_=>none) _ w ⟨?_,C8.refl _ _ _ _,λt=>?_,⟨λb x N=>by simp[St.fs,Ak] at N,(by simp_all),(by simp_all),λ_ _=>rfl,Z,rfl,rfl,rfl,A2e _,λ_ _ _=>rfl,λ_ h=>h,λ_ h=>.inl h,(by simp_all),λb x N=>by simp[St.fs,Ak] at N⟩⟩) ?_))
 ·simp_all
 ·have a1:=G7 ds 0 t;simp at a1;show Rep w I (λ_=>none) ((BB 0 ds).get t) _;rw[a1];by_cases ht:t<ds.length
  ·rw[if_pos ht];have e:(vs.toArray++Array.replicate (fn.ntmps-vs.toArray.size) undef).getD t undef=nv vs t:=by
    simp_all [nv,A3z,Array.getElem?_append_left]
   simp_all
  ·rw[if_neg ht];exact .any _
 ·rintro e a' w' ⟨x,s',I',mu',hq,he,r'⟩;have fin:∀d,KD P s' fn.results.toList=some d->lo (frz (Ak s'.hp) 6 d) r->r.pure=true->LeavesInM Fence.wide 0 P fn a'.tmps (λe w'=>∃v I',e=.returned v/\Rep w' I' (λ_=>none) r v/\(∀k,I k->I' k)/\(∀k,I' k->I k\/w.heap.size<=k)/\(∀k,I' k->k<w'.heap.size)/\Below w.heap.size w w') a'.defers .returning w':=by
   intro d O U V;refine r'.leave Z rfl O λv w2 I2 _ M h2=>?_;have a0:=Rep.frz (J:=λk=>I2 k\/(w.heap.size<=k/\k<w2.heap.size)) M (λk C=>.inl C) (λb x v k N hv C=>.inr (by
     have:=M.loc b x v k N hv C;simp_all)) 6 d v h2
   have a4:Go.Ab.lo (Go.Ab.frz s'.fs.hp 6 d) r:=U;have a0:=a0.lo a4;refine⟨v,_,rfl,a0.unmu V,λk C=>.inl (M.iold k C),λk C=>?_,λk C=>?_,⟨M.os,M.tape,M.output,M.grown,λk C=>M.old k C (λh=>h)⟩⟩
   ·rcases C with C|C
    ·rcases M.inew k C with h3|h3|h3
     ·exact .inl h3
     ·exact h3.elim
     ·exact .inr h3
    omega
   ·rcases C with C|C
    ·exact M.lt k C
    omega
  cases x<;>cases e<;>simp [He] at he<;>simp [Yn] at hq
  case normal.normal=>
   obtain⟨d,O,U,V⟩:=hq;exact fin d O U V
  case ret.ret=>
   obtain⟨d,O,U,V⟩:=hq;exact fin d O U V
end
attribute [irreducible] A0
def Bo(w:World)(I:Nat->Prop)(mu:Nat->Option Value)(ds:List D)(vs:List Value):Prop:=vs.length=ds.length/\∀i,i<ds.length->Rep w I mu (nd ds i) (nv vs i)
def Bo.append{w:World}{es:List D}{us:List Value}(h:Bo w I mu ds vs)(k:Bo w I mu es us):Bo w I mu (ds++es) (vs++us):=by
 refine⟨by simp[h.1,k.1],λi hi=>?_⟩;by_cases hlt:i<ds.length
 ·have C:nd (ds++es) i=nd ds i:=by grind [nd]
  have M:nv (vs++us) i=nv vs i:=by simp[nv,A29,A3d (show i<vs.length by rw[h.1];exact hlt)]
  rw[C,M];exact h.2 i hlt
 ·have N:ds.length<=i:=Nat.le_of_not_lt hlt;have C:nd (ds++es) i=nd es (i-ds.length):=by grind [nd]
  have M:nv (vs++us) i=nv us (i-ds.length):=by
   have:vs.length<=i:=by rw[h.1];exact N
   simp[nv,A29,A3a this,h.1]
  rw[C,M];exact k.2 _ (by grind)
theorem Bo.args{w:World}{I:Nat->Prop}{mu:Nat->Option Value}{ev:Operand->D}{a:Act}{args:Array Operand}(h:∀x ∈ args.toList,Rep w I mu (ev x) (a.eval x)):Bo w I mu (args.toList.map ev) (args.toList.map a.eval):=by
 refine⟨by simp,λi hi=>?_⟩;simp_all [nd,nv]
def Bo.unmu{w:World}{I:Nat->Prop}{mu mu':Nat->Option Value}{ds:List D}{vs:List Value}(h:Bo w I mu ds vs)(hp:An ds=true):Bo w I mu' ds vs:=
 ⟨h.1,λi hi=>(h.2 i hi).unmu (CK hp i)⟩
def AA.below{w0 w:World}{M0:Nat->Prop}{I0:Gh}{fr I':Nat->Prop}{h:Nat->Option Blk}(C:AA w0 M0 I0 fr I mu h w)(h1:∀k,I k->I' k)(h2:∀k,I' k->I k\/w.heap.size<=k)(Z:∀k,I' k->k<w'.heap.size)(N:Below w.heap.size w w'):AA w0 M0 I0 fr I' mu h w':=by
 have U:∀k,k<w.heap.size->w'.heap[k]? =w.heap[k]?:=λk M=>N.block k M;have V:Ext I mu w I' mu w':=⟨h1,λ_ _ h=>h,λk M=>U k (C.lt k M)⟩
 refine⟨λb x O=>(C.blk b x O).mono V.w V.i V.m λu k Y M=>U k (C.loc b x u k O Y M).2.2,λb x u k O Y M=>?_,C.inj,C.fresh,Z,N.os.trans C.os,N.tape.trans C.tape,N.output.trans C.output,A2N C.grown N.size,λk M a0=>(U k (by have:=C.grown;omega)).trans (C.old k M a0),λk M=>h1 k (C.iold k M),λk M=>?_,C.keep,C.used⟩
 ·have:=C.loc b x u k O Y M;grind
 ·rcases h2 k M with h5|h5
  ·exact C.inew k h5
  ·exact .inr (.inr (A2N C.grown h5))
def Q5{id:Nat}{hp:Nat->Option Blk}{T:TypeId}{pos:String}{af:Array Edge}{gd:Option (Nat×Bool)}{x:Operand}{args:Array Operand}{ts:Array TypeId}{fs:List D}
  (Z:ev x=.func (.func f) fs cs) (ha:fs++args.toList.map ev++cs=ds) (a0:An ds=true) (hc:A0 P f ds r):AQ P ⟨dst,.call {callee:=.value x,args:=args,argTypes:=ts},T,pos,af,gd⟩ id ev hp ⟨r,[],[]⟩:=by
 intro w0 M0 I0 fr I mu h a w a1 C a6 U hb K Q hK;subst ha;have M:=U x (by simp[Op.operands,Call.operands]);rw[Z] at M;have a2:=Bo.args (args:=args) λy hy=>U y (by grind [Op.operands,Call.operands]);generalize N:a.eval x=fv at M;cases M with
 |func _ _ _ us vs hl O h1 h2=>
 have V:=((Bo.append (Bo.append ⟨hl,h1⟩ a2) ⟨O,h2⟩).unmu (mu':=λ_=>none) a0)
 unfold A0 at hc;have a3:=hc.2 w I _ (a1.at C) C.lt V.1 V.2;have a4:(execOp a.eval ⟨dst,.call {callee:=.value x,args:=args,argTypes:=ts},T,pos,af,gd⟩).run P w=.ok (.enter f (us++args.toList.map a.eval++vs).toArray) w:=by
  have e1:us.toArray++args.map a.eval++vs.toArray=(us++args.toList.map a.eval++vs).toArray:=by apply Array.ext';simp
  simp only[execOp,resolve,N,Deferred.ofValue,A2o,A2u,Result.andThen,invoke];exact(congrArg (λz=>(callFunc f z).run P w) e1).trans (Bj hc.1 _ w)
 refine Ci a4 ?_;refine a3.mono λe w' ⟨v,I',N,hv,h1,h2,h3,Y⟩=>?_;subst N;have a5:Ext I mu w I' mu w':=⟨h1,λ_ _ h=>h,λk O=>Y.block k (C.lt k O)⟩
 exact hK v w' I' mu a5 ((C.below h1 h2 h3 Y).less λb hb=>hb.1) (hv.mono (λ_ _=>rfl) (λ_ h=>h) (λ_ _ h=>by cases h))
def BT.callV{T:TypeId}{ps:String}{af:Array Edge}{x:Operand}{args:Array Operand}{ts:Array TypeId}{fs:List D}{pos:Nat}{s:St}
  (M:evO P s.env.get x=.func (.func f) fs cs) (hc:A0 P f ds r) (C:DO ops s gd) (N:fs++args.toList.map (evO P s.env.get)++cs=ds) (O:An ds=true)
  (U:Go P ops nx l (pos+1) (⟨r,[],[]⟩::acc) (s.app dst ⟨r,[],[]⟩) K):BT P ops nx (⟨dst,.call {callee:=.value x,args:=args,argTypes:=ts},T,ps,af,gd⟩::l) pos acc s K:=by
 unfold BT;refine .inl ⟨_,?_,by have:=Go.run U;unfold BT at this;exact this⟩;rcases C with rfl|⟨j,want,t,rfl,ht,C⟩
 ·exact Bz.plain rfl (Q5 M N O hc)
 ·exact Bz.guard_true rfl ht C (Q5 M N O hc)
def MF(P:Program)(f:FuncId)(ds:List D)(r:D):Prop:=
 ∀(w:World) (I:Nat->Prop) (mu:Nat->Option Value) (vs:List Value),Bo w I mu ds vs->∃v,(callFunc f vs.toArray).run P w=.ok (.value v) w/\Rep w I mu r v
def VF{id:Nat}{hp:Nat->Option Blk}{T:TypeId}{pos:String}{af:Array Edge}{gd:Option (Nat×Bool)}{args:Array Operand}{ts:Array TypeId}
  (C:args.toList.map ev=ds) (hc:MF P f ds r):AQ P ⟨dst,.call {callee:=.value (.func f),args:=args,argTypes:=ts},T,pos,af,gd⟩ id ev hp ⟨r,[],[]⟩:=by
 subst C;refine AQ.quiet λ_ _ _ _ I mu _ a w O M _=>?_;have N:=Bo.args (args:=args) λy U=>M y (by grind [Op.operands,Call.operands]);obtain⟨v,h1,h2⟩:=hc w I mu _ N;have V:args.map a.eval=(args.toList.map a.eval).toArray:=by grind
 simp[execOp,resolve,Act.eval,Deferred.ofValue,A2o,A2u,Result.andThen,invoke];simp_all
def BT.ext{T:TypeId}{ps:String}{af:Array Edge}{args:Array Operand}{ts:Array TypeId}{pos:Nat}{s:St}
  (hc:MF P f ds r) (C:DO ops s gd) (M:args.toList.map (evO P s.env.get)=ds)
  (N:Go P ops nx l (pos+1) (⟨r,[],[]⟩::acc) (s.app dst ⟨r,[],[]⟩) K):BT P ops nx (⟨dst,.call {callee:=.value (.func f),args:=args,argTypes:=ts},T,ps,af,gd⟩::l) pos acc s K:=by
 unfold BT;refine .inl ⟨_,?_,by have:=Go.run N;unfold BT at this;exact this⟩;rcases C with rfl|⟨j,want,t,rfl,ht,C⟩
 ·exact Bz.plain rfl (VF M hc)
 ·exact Bz.guard_true rfl ht C (VF M hc)
def MF.of{k:FuncId}{fn:Func}{e:Array Value->Sem Value}(hf:P.funcs[k]? =some fn)(hn:(fn.name== "runtime.NumGoroutine")=false)(hb:fn.body.isNone=true)(h1:Extern.findNext fn=none)(h2:Extern.find fn=some e)
  (h:∀(w:World) (I:Nat->Prop) (mu:Nat->Option Value) (vs:List Value),Bo w I mu ds vs->∃v,(e vs.toArray).run P w=.ok v w/\Rep w I mu r v):MF P k ds r:=by
 intro w I mu vs hr;obtain⟨v,C,M⟩:=h w I mu vs hr;simp_all [callFunc,Result.andThen]
def Bo.two{w:World}{d e:D}(h:Bo w I mu [d,e] vs):∃v u,vs=[v,u]/\Rep w I mu d v/\Rep w I mu e u:=by
 obtain⟨h1,h2⟩:=h
 match vs,h1 with
 |[v,u],_=>exact ⟨v,u,rfl,h2 0 (by simp),h2 1 (by simp)⟩
end Go.Ab
namespace Go.Ab
noncomputable section
open Go.RowKit
universe u
def YB{α:Sort u}(x:α):∃y:α,y=x:=⟨x,rfl⟩
def Sf{α:Sort u}(x:α):α:=Classical.choose (YB x)
def LS{α:Sort u}(x:α):Sf x=x:=Classical.choose_spec (YB x)
def GoS:Program->Array Oper->Nat->List Oper->Nat->List Eff->St->(List Eff->St->Prop)->Prop:=Sf Go
def Cu:GoS=Go:=LS Go
def A5:Program->Array Oper->Nat->List Oper->Nat->List Eff->St->(List Eff->St->Prop)->Prop:=Sf BT
def BA:A5=BT:=LS BT
def GoS_nil(P:Program)(ops:Array Oper)(nx pos:Nat)(acc:List Eff)(s:St)(K:List Eff->St->Prop):GoS P ops nx [] pos acc s K=K acc.reverse s:=by rw[Cu];rfl
def T3(r:Option (Eff×Prop))(go:Eff->Prop)(stuck:Prop):Prop:=
 match r with
 |some (e,c)=>c/\go e
 |none=>stuck
def A18(e:Eff)(c:Prop)(go:Eff->Prop)(stuck:Prop):T3 (some (e,c)) go stuck=(c/\go e):=by unfold T3;exact tick0 _
where tick0 (p:Prop):p=p:=congrArg (λx=>x) rfl
def A19(go:Eff->Prop)(stuck:Prop):T3 none go stuck=stuck:=by unfold T3;exact congrArg (λx=>x) rfl
def Ws(P:Program)(ops:Array Oper)(nx:Nat)(o:Oper)(r:List Oper)(pos:Nat)(acc:List Eff)(s:St)(K:List Eff->St->Prop):GoS P ops nx (o::r) pos acc s K=
  Gw ops o.guard s
   (λs=>T3 (Xa P (2*(nx+4*pos)) s.env.get (Ak s.hp) o.op) (λe=>GoS P ops nx r (pos+1) (e::acc) (s.app o.dst e) K) (A5 P ops nx (o::r) pos acc s K))
   (λs=>GoS P ops nx r (pos+1) (⟨.cond false (.val (.bool false)),[],[]⟩::acc) (s.app o.dst ⟨.cond false (.val (.bool false)),[],[]⟩) K)
   (A5 P ops nx (o::r) pos acc s K):=by
 rw[Cu,BA];show Go P ops nx (o::r) pos acc s K=_;simp only[Go];congr 1
def PZ(b:Bool)(d:D)(r:Env)(t:Nat):D:=bif b then d else Env.get r t
def XL(d:D)(r:Env)(t:Nat):PZ true d r t=d:=by unfold PZ;exact congrArg (λx=>x) rfl
def Vz(d:D)(r:Env)(t:Nat):PZ false d r t=Env.get r t:=by unfold PZ;exact congrArg (λx=>x) rfl
def TR(k:Nat)(d:D)(r:Env)(t:Nat):Env.get ((k,d)::r) t=PZ (k==t) d r t:=congrArg (λx=>x) rfl
def Kn(want:Bool)(go skip:St->Prop)(s:St):Prop:=cond want (go s) (skip s)
def XC(go skip:St->Prop)(s:St):Kn true go skip s=go s:=by unfold Kn;exact congrArg (λx=>x) rfl
def Vk(go skip:St->Prop)(s:St):Kn false go skip s=skip s:=by unfold Kn;exact congrArg (λx=>x) rfl
def Lp(x:Option (Nat×D))(want:Bool)(s:St)(go skip:St->Prop)(stuck:Prop):Prop:=
 match x with
 |some (t,.val (.bool b))=>Fj b (Kn want go skip ⟨(t,.val (.bool true))::s.env,s.hp,s.nx⟩) (Kn (!want) go skip ⟨(t,.val (.bool false))::s.env,s.hp,s.nx⟩)
 |some (_,.cond false (.val (.bool _)))=>skip s
 |_=>stuck
def A16(t:Nat)(b C:Bool)(s:St)(go skip:St->Prop)(stuck:Prop):Lp (some (t,.val (.bool b))) C s go skip stuck=
  Fj b (Kn C go skip ⟨(t,.val (.bool true))::s.env,s.hp,s.nx⟩) (Kn (!C) go skip ⟨(t,.val (.bool false))::s.env,s.hp,s.nx⟩):=by unfold Lp;exact congrArg (λx=>x) rfl
def A17(t:Nat)(b C:Bool)(s:St)(go skip:St->Prop)(stuck:Prop):Lp (some (t,.cond false (.val (.bool b)))) C s go skip stuck=skip s:=by unfold Lp;exact congrArg (λx=>x) rfl
def gD(ops:Array Oper)(s:St)(j:Nat):Option (Nat×D):=(KK ops j).map λt=>(t,s.env.get t)
def Vd(ops:Array Oper)(j:Nat)(C:Bool)(s:St)(go skip:St->Prop)(stuck:Prop):Gw ops (some (j,C)) s go skip stuck=Lp (gD ops s j) C s go skip stuck:=by
 unfold Gw Lp gD;rcases h:KK ops j with _|t
 ·simp only[h,Option.map_none]
 ·simp only[h,A3g];rcases M:s.env.get t with _|v|⟨g,d⟩
  ·rfl
  ·cases v<;>first|rfl|(cases C<;>rfl)
  ·cases g
   ·cases d<;>first|rfl|(rename_i v;cases v<;>rfl)
   ·rfl
  all_goals rfl
def Ve(ops:Array Oper)(s:St)(go skip:St->Prop)(stuck:Prop):Gw ops none s go skip stuck=go s:=by unfold Gw;exact congrArg (λx=>x) rfl
section
variable(P:Program)(ops:Array Oper)(nx:Nat)(dst:Option Tmp)(op:Op)(T:TypeId)(ps:String)(af:Array Edge)(r:List Oper)(pos:Nat)(acc:List Eff)(s:St)(K:List Eff->St->Prop)
def GoS_none:GoS P ops nx (⟨dst,op,T,ps,af,none⟩::r) pos acc s K=
  T3 (Xa P (2*(nx+4*pos)) s.env.get (Ak s.hp) op) (λe=>GoS P ops nx r (pos+1) (e::acc) (s.app dst e) K) (A5 P ops nx (⟨dst,op,T,ps,af,none⟩::r) pos acc s K):=by
 rw[Ws,Ve]
def GoS_some(j:Nat)(C:Bool):GoS P ops nx (⟨dst,op,T,ps,af,some (j,C)⟩::r) pos acc s K=
  Lp (gD ops s j) C s (λs=>T3 (Xa P (2*(nx+4*pos)) s.env.get (Ak s.hp) op) (λe=>GoS P ops nx r (pos+1) (e::acc) (s.app dst e) K) (A5 P ops nx (⟨dst,op,T,ps,af,some (j,C)⟩::r) pos acc s K))
   (λs=>GoS P ops nx r (pos+1) (⟨.cond false (.val (.bool false)),[],[]⟩::acc) (s.app dst ⟨.cond false (.val (.bool false)),[],[]⟩) K)
   (A5 P ops nx (⟨dst,op,T,ps,af,some (j,C)⟩::r) pos acc s K):=by
 rw[Ws,Vd]
end
section
variable{P:Program}{ops:Array Oper}{nx:Nat}{dst:Option Tmp}{T:TypeId}{ps:String}{af:Array Edge}{gd:Option (Nat×Bool)}{f:FuncId}{x:Operand}{args:Array Operand}{ts:Array TypeId}{fs cs ds:List D}{r:D}{l:List Oper}{pos:Nat}{acc:List Eff}{s:St}{K:List Eff->St->Prop}
def A5.go(h:GoS P ops nx l pos acc s K):A5 P ops nx l pos acc s K:=by rw[Cu] at h;rw[BA];exact BT.go h
def A5.call(hc:A0 P f ds r)(M:DO ops s gd)(N:args.toList.map (evO P s.env.get)=ds)(O:An ds=true)
  (C:GoS P ops nx l (pos+1) (⟨r,[],[]⟩::acc) (s.app dst ⟨r,[],[]⟩) K):A5 P ops nx (⟨dst,.call {callee:=.value (.func f),args:=args,argTypes:=ts},T,ps,af,gd⟩::l) pos acc s K:=by
 rw[Cu] at C;rw[BA];exact BT.call hc M N O C
def A5.callV(M:evO P s.env.get x=.func (.func f) fs cs)(hc:A0 P f ds r)(N:DO ops s gd)(O:fs++args.toList.map (evO P s.env.get)++cs=ds)(U:An ds=true)
  (C:GoS P ops nx l (pos+1) (⟨r,[],[]⟩::acc) (s.app dst ⟨r,[],[]⟩) K):A5 P ops nx (⟨dst,.call {callee:=.value x,args:=args,argTypes:=ts},T,ps,af,gd⟩::l) pos acc s K:=by
 rw[Cu] at C;rw[BA];exact BT.callV M hc N O U C
def A5.ext(hc:MF P f ds r)(M:DO ops s gd)(N:args.toList.map (evO P s.env.get)=ds)
  (C:GoS P ops nx l (pos+1) (⟨r,[],[]⟩::acc) (s.app dst ⟨r,[],[]⟩) K):A5 P ops nx (⟨dst,.call {callee:=.value (.func f),args:=args,argTypes:=ts},T,ps,af,gd⟩::l) pos acc s K:=by
 rw[Cu] at C;rw[BA];exact BT.ext hc M N C
end
end
end Go.Ab
