/- The program is walked: part 19 of 19. -/
import Derived.Test.YtijpiigcgkeepaaGreatDoorV17
set_option maxHeartbeats 4000000
set_option maxRecDepth 20000
set_option linter.all false
namespace Go.Ab
open Go.Proofs Go.Proofs.Tryz Go.RowKit
variable{α:Type}{l:List α}{g:Nat}{t:TypeId}
section
variable{P:Program}{w:World}
def A4c:∀ {l:List (String×DataW Unit)} {ps:List MemPlace},DataW.LaidVars P w l ps->∀n d,(n,d) ∈ l->∃g t cs C p,P.globalNamed n=some g/\(P.globals[g]?).map (·.type)=some t/\w.var? P n=some cs/\DataW.trod (λ_=>()) P w 0 (λ_=>true) false C t cs.toList=some (d,p)
 |[],_,_,n,d,h=>by simp at h
 |(n',d')::r,ps,⟨g,t,cs,C,p,q,h1,h2,h3,h4,h5,_⟩,n,d,h=>by
  rw[A2s] at h;rcases h with h|h
  ·cases h;exact⟨g,t,cs,C,p,h1,h2,h3,h4⟩
  ·exact A4c h5 n d h
def A4e{n:String}{cs:Array Value}(C:P.globalNamed n=some g)(h:w.var? P n=some cs):∃T fz,w.heap[g]? =some (.cells cs T fz):=by
 unfold World.var? at h;rw[C] at h;simp only[Option.bind_some] at h;split at h
 ·rename_i M T fz hh;cases h;exact⟨T,fz,hh⟩
 ·cases h
def Held(w:World)(g:Nat)(l:List Value):Prop:=∃T fz,w.heap[g]? =some (.cells l.toArray T fz)
def A4b{C:List (String×DataW Unit)}{name:String}{d:DataW Unit}{l:List Value}(hm:laidMet P C w){i:Nat}(N:C[i]? =some (name,d))
  (O:P.globalNamed name=some g) (U:(P.globals[g]?).map (·.type)=some t) (hc:∀(M:Nat) (cs:List Value) (p:List MemPlace),DataW.trod (λ_=>()) P w 0 (λ_=>true) false M t cs=some (d,p)->cs=l):Held w g l:=by
 obtain⟨ps,hl,_⟩:=hm;obtain⟨Z,t',cs,M,p,h1,h2,V,Y⟩:=A4c hl _ _ (List.mem_of_getElem? N);obtain rfl:=Option.some.inj (O.symm.trans h1);obtain rfl:=Option.some.inj (U.symm.trans h2);obtain⟨T,fz,hb⟩:=A4e h1 V;have:=hc _ _ _ Y;refine⟨T,fz,?_⟩;rw[<-this];simpa using hb
def ZQ7{C:List (String×DataW Unit)}{name:String}{k:IntKind}{zs:List Int}{e:TypeId}{n:Nat}(hm:laidMet P C w)(i:Nat)(M:C[i]? =some (name,(Lib.tabData k zs:DataW Unit)))
  (N:P.globalNamed name=some g) (O:(P.globals[g]?).map (·.type)=some t) (ht:P.underlying t=some (.array n e)) (U:P.underlying e=some (.int k)) (V:P.cellsOf e=1) (Y:P.cellsOf t=n):Held w g (zs.map λz=>Value.int k z):=
 A4b hm M N O λ_ _ _ h=>Lib.cells_of_tab ht U V Y h
def A49{k:IntKind}:∀(zs:List (Int×Int)) (cs:List Value),cs.length=2*zs.length->(∀(i:Nat) z,zs[i]? =some z->(cs.drop (i*2)).take 2=[.int k z.1,.int k z.2])->cs=zs.flatMap λz=>[.int k z.1,.int k z.2]
 |[],cs,h,_=>by simpa using h
 |z::zs,cs,h,hh=>by
  match cs,h with
  |[],h=>simp at h
  |[_],h=>simp at h;omega
  |a::b::cs,h=>
   have h0:=hh 0 z rfl;simp at h0;obtain⟨rfl,rfl⟩:=h0;have:=A49 zs cs (by simp at h;omega) λi y C=>by
    have:=hh (i+1) y (by simpa using C);rwa[show(i+1)*2=i*2+2 from by omega,List.drop_succ_cons,List.drop_succ_cons] at this
   simp[<-this]
def A4d{M:List (String×DataW Unit)}{name:String}{k:IntKind}{zs:List (Int×Int)}{e u:TypeId}{n:Nat}{f0 f1:Field}(hm:laidMet P M w)(i:Nat)(a4:M[i]? =some (name,.agg (zs.map λz=>.agg [.lit (.int k z.1),.lit (.int k z.2)])))
  (hg:P.globalNamed name=some g) (a5:(P.globals[g]?).map (·.type)=some t) (ht:P.underlying t=some (.array n e)) (he:P.underlying e=some (.struct #[f0,f1])) (N:P.underlying u=some (.int k)) (O:f0.type=u/\f0.offset=0) (U:f1.type=u/\f1.offset=1) (V:P.cellsOf u=1) (Y:P.cellsOf e=2) (a6:P.cellsOf t=2*n):Held w g (zs.flatMap λz=>[Value.int k z.1,Value.int k z.2]):=by
 refine A4b hm a4 hg a5 λa7 cs p h=>?_;obtain⟨Z,m,rfl,hx,hl,a8,hf⟩:=DataW.trod_array ht h;have a2:Z.map (·.1)=zs.map λz=>(DataW.agg [.lit (.int k z.1),.lit (.int k z.2)]:DataW Unit):=by
  have:=congrArg Prod.fst hx;simpa using this.symm
 have a9:zs.length=n:=by
  have:=congrArg List.length a2;simp at this;omega
 refine A49 zs cs Om λi z hz=>?_;have hi:i<n:=by have:=(List.getElem?_eq_some_iff.1 hz).1;omega
 have h1:=hf i hi;rw[Y] at h1;generalize(cs.drop (i*2)).take 2=c at h1;rw[A2f Om] at h1;obtain⟨y0,y1,m',hy,a3,a0,a1⟩:=ChangeShapes.trod_struct2 he h1;rw[O.1,O.2,V] at a0;rw[U.1,U.2,V] at a1;obtain⟨n0,c0,rfl,_⟩:=DataW.trod_int N a0;obtain⟨n1,c1,rfl,_⟩:=DataW.trod_int N a1;have C:(zs.map λz=>(DataW.agg [.lit (.int k z.1),.lit (.int k z.2)]:DataW Unit))[i]? =some (Z[i].1):=by rw[<-a2,A2X,A2f Om];rfl
 rw[A2X,hz,hy] at C;simp only[A3g,A2j,DataW.agg.injEq,List.cons.injEq,DataW.lit.injEq,Lit.int.injEq,true_and,and_true] at C;obtain⟨rfl,rfl⟩:=C;rw[Y] at a3
 match c,a3 with
 |[a,b],_=>
  simp at c0 c1;rw[c0,c1]
def gin_of(h:∀p ∈ gTabs,∀g,P.globalNamed p.1=some g->Held w g p.2):GIn P w λk=>k<w.heap.size:=by
 intro g l hl;unfold No at hl;rw[Option.map_eq_some_iff] at hl;obtain⟨p,hp,rfl⟩:=hl;have h1:=List.find?_some hp;simp at h1;obtain⟨T,fz,hh⟩:=h p (List.mem_of_find?_eq_some hp) g h1;exact⟨(A2H.1 hh).1,T,fz,hh⟩
end
end Go.Ab
namespace Go.Ab
open Go.Proofs Go.Proofs.Tryz Go.Proofs.YtijpiigcgkeepaaGreatDoor Go.RowKit
variable{P:Program}
def gnum{n:String}{g k:Nat}(h:P.globalNamed n=some k)(C:P.globalNamed n=some g):g=k:=Option.some.inj (C.symm.trans h)
def A4a{w:World}{H:Type}{enc:TypeId×Value->H}{base:Nat}{sp:Nat->Bool}{held:Bool}{C:Nat}{t e:TypeId}{n:Nat}{cs:List Value}{zs:List (Lua)}{p:List MemPlace}
  (ht:P.underlying t=some (.array n e)) (Y:P.underlying e=some .string) (Z:P.cellsOf e=1) (a0:P.cellsOf t=n)
  (h:DataW.trod enc P w base sp held C t cs=some (.agg (zs.map λz=>.lit (.string z)),p)):cs=zs.map λz=>Value.string ⟨⟨z⟩⟩:=by
 cases C with
 |zero=>simp [DataW.trod] at h
 |succ C=>
  simp only[DataW.trod,ht,Z,a0,Nat.mul_one] at h;split at h
  ·rename_i hl;obtain⟨M,hm,hx⟩:=Option.map_eq_some_iff.1 h;have N:M.map (·.1)=zs.map λz=>(DataW.lit (.string z):DataW H):=by
    have:=congrArg Prod.fst hx;simpa using this
   have a3:M.length=n:=by simpa using Lib.mapM_length hm
   have a4:zs.length=n:=by
    have:=congrArg List.length N;simp at this;omega
   apply A3F;intro i;by_cases hi:i<n
   ·obtain⟨b,hb,hf⟩:=Lib.mapM_at hm i i (by simp[hi]);have h2:(M.map (·.1))[i]? =some b.1:=by simp[hb]
    rw[N] at h2;simp only[A2X,Option.map_eq_some_iff] at h2;obtain⟨O,a1,U⟩:=h2;have V:i<cs.length:=Om;have a2:(cs.drop i).take 1=[cs[i]]:=by
     rw[List.drop_eq_getElem_cons V];rfl
    rw[a2] at hf;have h1:cs[i]=.string ⟨⟨O⟩⟩:=by
     cases C with
     |zero=>simp [DataW.trod] at hf
     |succ C=>
      generalize cs[i]=c at hf;cases c<;>simp only[DataW.trod,Y] at hf<;>first|(cases hf;done)|skip
      rename_i s;split at hf
      ·cases hf;simp only[DataW.lit.injEq,Lit.string.injEq] at U;obtain⟨⟨s⟩⟩:=s;have:O=s:=U;rw[this]
      ·cases hf
    simp[a1,A2f V,h1]
   ·rw[List.getElem?_eq_none Om,List.getElem?_eq_none So']
  ·cases h
def A4f{w:World}{C:List (String×DataW Unit)}{name:String}{zs:List (Lua)}{g:Nat}{t e:TypeId}{n:Nat}(hm:laidMet P C w)(i:Nat)(M:C[i]? =some (name,(.agg (zs.map λz=>.lit (.string z)):DataW Unit)))
  (N:P.globalNamed name=some g) (O:(P.globals[g]?).map (·.type)=some t) (ht:P.underlying t=some (.array n e)) (U:P.underlying e=some .string) (V:P.cellsOf e=1) (Y:P.cellsOf t=n):Held w g (zs.map λz=>Value.string ⟨⟨z⟩⟩):=
 A4b hm M N O λ_ _ _ h=>A4a ht U V Y h
set_option maxRecDepth 100000 in
def gin8{W:World}(M:laidMet prog [("math/bits.deBruijn32tab",Rows.laid_math_bits_deBruijn32tab),("math/bits.deBruijn64tab",Rows.laid_math_bits_deBruijn64tab),("internal/strconv.uint64pow10",Rows.laid_internal_strconv_uint64pow10),("unicode/utf8.acceptRanges",Rows.laid_unicode_utf8_acceptRanges),("strconv.ErrRange",Rows.laid_strconv_ErrRange),("strconv.ErrSyntax",Rows.laid_strconv_ErrSyntax),("commonplace/mutator.names",Rows.laid_commonplace_mutator_names),("unicode/utf8.first",Rows.laid_unicode_utf8_first)] W):GIn prog W λk=>k<W.heap.size:=by
 refine gin_of λp hp g C=>?_;simp only[gTabs,A2s,A3b,or_false] at hp;rcases hp with rfl|rfl|rfl|rfl|rfl|rfl
 ·obtain rfl:=gnum (k:=1) Kq' C;exact ZQ7 (t:=363) (e:=5) (n:=256) (k:=.u8) (zs:=List.replicate 128 (240:Int)++List.replicate 66 241++List.replicate 30 2++[19]++List.replicate 12 3++[35,3,3,52,4,4,4,68]++List.replicate 11 241) M 7 Kq' C Kq' Kq' Kq' Kq' Kq'
 ·obtain rfl:=gnum (k:=2) Kq' C;have h:=A4d (t:=366) (e:=365) (u:=5) (n:=16) (k:=.u8) (zs:=[((128:Int),(191:Int)),(160,191),(128,159),(144,191),(128,143)]++List.replicate 11 (0,0)) M 3 Kq' C Kq' Kq' underlying365 Kq' ⟨rfl,rfl⟩ ⟨rfl,rfl⟩ Kq' Kq' Kq';exact(show(([((128:Int),(191:Int)),(160,191),(128,159),(144,191),(128,143)]++List.replicate 11 (0,0)).flatMap λz:Int×Int=>[Value.int .u8 z.1,Value.int .u8 z.2])=EB by kernel_rfl)▸h
 ·obtain rfl:=gnum (k:=4) Kq' C;exact ZQ7 (t:=446) (e:=22) (n:=20) (k:=.u64) (zs:=[1,10,100,1000,10000,100000,1000000,10000000,100000000,1000000000,10000000000,100000000000,1000000000000,10000000000000,100000000000000,1000000000000000,10000000000000000,100000000000000000,1000000000000000000,10000000000000000000]) M 2 Kq' C Kq' Kq' Kq' Kq' Kq'
 ·obtain rfl:=gnum (k:=5) Kq' C;exact ZQ7 (t:=482) (e:=5) (n:=32) (k:=.u8) (zs:=[0,1,28,2,29,14,24,3,30,22,20,15,25,17,4,8,31,27,13,23,21,19,16,7,26,12,18,6,11,5,10,9]) M 0 Kq' C Kq' Kq' Kq' Kq' Kq'
 ·obtain rfl:=gnum (k:=6) Kq' C;exact ZQ7 (t:=483) (e:=5) (n:=64) (k:=.u8) (zs:=[0,1,56,2,57,49,28,3,61,58,42,50,38,29,17,4,62,47,59,36,45,43,51,22,53,39,33,30,24,18,12,5,63,55,48,27,60,41,37,16,46,35,44,21,52,32,23,11,54,26,40,15,34,20,31,10,25,14,19,9,13,8,7,6]) M 1 Kq' C Kq' Kq' Kq' Kq' Kq'
 ·obtain rfl:=gnum (k:=0) Kq' C;exact A4f (t:=318) (e:=9) (n:=8) (zs:=[[],[112,117,116],[100,101,108],[105,110,99],[99,97,115],[97,112,112,101,110,100],[109,111,118,101],[115,101,113]]) M 6 Kq' C Kq' Kq' Kq' Kq' Kq'
end Go.Ab
namespace Go.Ab
noncomputable section
open Go.ChangeAt Go.ChangeShapes Go.RowKit Go.WideShapes
section
variable{H:Type}{enc:TypeId×Value->H}{P:Program}{W W':World}
def ZQ8{base:Nat}{M:Nat->Bool}{held:Bool}:∀ {ts:List TypeId} {vs:List Value} {ds:List (DataW H)} {ps:List MemPlace},DataW.TrodAll enc P W base M held ts vs ds ps->(∀x ∈ ps,W.sameAt W' x)->DataW.TrodAll enc P W' base M held ts vs ds ps
 |[],[],[],_,h,_=>h
 |_::_,_::_,_::_,_,⟨p,q,⟨n,hn⟩,h2,e⟩,hs=>⟨p,q,⟨n,DataW.trod_carry n _ _ _ hn λx C=>hs x (by rw[e];exact List.mem_append_left _ C)⟩,ZQ8 h2 λx C=>hs x (by rw[e];exact List.mem_append_right _ C),e⟩
def post_true{f:Func}{s:ChangeSpec}{apart fresh a6 a7:Bool}{args:Array Value}{ds O:List (DataW H)}{a8:List MemPlace}{U:TypeId}(K:Kids P (· <P.types.size))(hz:∀t e,t<P.types.size->P.underlying t=some (.slice e)->0<P.cellsOf e)
  (a9:∀t ∈ f.params.toList,t<P.types.size) (V:s.vars=[]) (Y:f.resultTypes=#[U]) (Z:P.underlying U=some .bool) (M:s.fn H (ds++O)= {results:=[.lit (.bool true)],args:=ds})
  (hW:DataW.Whole enc P f.params.toList s.vars apart W args.toList ds O a8) (hb:Below W.heap.size W W'):s.post enc P f apart fresh a6 a7 W args (.bool true) W':=by
 have a0:=hW;obtain⟨p,q,hA,hV,rfl,aa,ab⟩:=hW;have a1:=hV;rw[V] at a1;obtain⟨rfl,rfl⟩:=trodVars_none a1;have N:∀x ∈ p,x.block<W.heap.size:=λx C=>a0.lt x (by simpa using C);have ac:=ZQ8 (W':=W') hA λx C=>hb.same (N x C);have a2:∀sp:Nat->Bool,(∀x ∈ p,sp x.block=true)->DataW.TrodAll enc P W' 0 sp true f.params.toList args.toList ds p:=λsp ad=>DataW.TrodAll.respare K hz a9 ac ad;have a3:∀(b:Nat) (sp:Nat->Bool) (hd:Bool),DataW.TrodAll enc P W' b sp hd f.resultTypes.toList ((Value.bool true).resultList f.resultTypes.size) [.lit (.bool true)] []:=by
  intro b sp hd;rw[Y];exact trodAll_mk1 ⟨1,by simp[DataW.trod,Value.cells,Z]⟩
 have a4:∀sp:Nat->Bool,DataW.TrodVars enc P W' sp s.vars [] []:=by
  intro sp;rw[V];rfl
 refine⟨ds,[],p++[],[],p,[],a0,?_,?_,?_,hb.frame _,λ_=>?_⟩
 ·rw[M];exact a3 _ _ _
 ·rw[M];exact a2 _ λx C=>by simpa using N x C
 ·rw[M];exact a4 _
 ·refine⟨ok_one Y rfl (okWide_bool_mk Z _),_,_,([]++p)++[],⟨[]++p,[],trodAll_append (a2 _ (λ_ _=>rfl)) (a3 _ _ _),a4 _,rfl,?_,?_⟩,?_⟩
  ·intro b off hp;have a5:MemPlace.cell b off ∈ p:=by simpa using hp
   rw[hb.frozen (N _ a5)];exact aa b off (by simpa using a5)
  ·intro ha;have:=ab ha;simpa using this
  ·intro x C _;simpa using C
end
mutual
def flatW:DataW Unit->List Value
 |.lit l=>[l.value]
 |.agg ps=>flatWs ps
 |_=>[]
def flatWs:List (DataW Unit)->List Value
 |[]=>[]
 |d::l=>flatW d++flatWs l
end
def layOne(P:Program)(ty:String->Option TypeId)(h:Array Obj)(x:String×DataW Unit):Array Obj:=match P.globalNamed x.1 with
 |some g=>(match x.2 with
  |.iface n (.ptr d)=>(match ty n with
   |some u=>(match P.underlying u with
    |some (.pointer e)=>(h.push (.cells (flatW d).toArray e (0,0))).modify g fun
     |.cells _ t frozen=>.cells #[.iface u (.pointer (some ⟨h.size,0,none⟩))] t frozen
     |o=>o
    |_=>h)
   |none=>h)
  |d=>h.modify g fun
   |.cells _ t frozen=>.cells (flatW d).toArray t frozen
   |o=>o)
 |none=>h
def laidWorldE(P:Program)(ty:String->Option TypeId)(laid:List (String×DataW Unit))(os:Os):World:=
 {World.holding P os ⟨#[],#[],[]⟩ with heap:=laid.foldl (layOne P ty) (World.holding P os ⟨#[],#[],[]⟩).heap}
end
end Go.Ab
