/- The program is walked: part 16 of 18. -/
import Derived.Test.YtmobnaefbcegbaaGreatDoorV14
set_option maxHeartbeats 4000000
set_option maxRecDepth 20000
set_option linter.all false
namespace Go.Ab
open Go.RowKit
variable{n:Nat}{P:Program}
def TellsL(n:Nat)(P:Program)(g:Nat)(lb:Array Value)(enc:Nat->Array Value)(m:Nat)(Kw:World->Prop):Prop:=
 ∀(l:Nat) (J:Nat->World->Prop) (Jx:World->Prop),(∀s W,J s W->Kw W)->(∀s W W',J s W->Below W.heap.size W W'->J s W')->
  (∀s W,J s W->s<m->YieldAt Fence.wide (n-1) P l (enc s) W λe W'=>e=.returned (.bool true)/\J (s+1) W')->
  (∀W,J m W->YieldAt Fence.wide (n-1) P l (enc m) W λe W'=>e=.returned (.bool false)/\Jx W')->
  ∀W,J 0 W->CallsIn Fence.wide n P g (#[.func (.yield l) #[] #[]]++lb) W λe W'=>(∃v,e=.returned v)/\Jx W'
def ZS{g:Operand}{ps:Array Tmp}{assign body:Code}{Q:Exit->Act->World->Prop}{a:Act}{w:World}
  {gf:Nat} {lb:Array Value} (hg:a.eval g=.func (.func gf) #[] lb) (eg:∀args w,(callFunc gf args).run P w=.ok (.enter gf args) w)
  {enc:Nat->Array Value} {m:Nat} {Kw:World->Prop} (a7:TellsL (n-1) P gf lb enc m Kw) (ai:∀s,(enc s).size=ps.size)
  (I:Nat->World->Prop) (M:World->Prop) (hK:∀s W,I s W->Kw W) (Y:∀s W W',I s W->Below W.heap.size W W'->I s W') (a4:∀s W l r o,w.heap.size<=l->W.heap[l]? =some (.loop r)->I s W->I s (W.putObj l o))
  (aj:∀W l r o,w.heap.size<=l->W.heap[l]? =some (.loop r)->M W->M (W.putObj l o)) (h0:I 0 w) (Z:Nat->Act)
  (a5:∀(l:Nat) (s:Nat) (W:World) (K:Act->World->Prop),K (Z s) W->
   assign.wpIn (Fence.wide.inRound l) (n-1-1) P (Exit.then K (λ_ _ _=>False)) {tmps:=(ps.zip (enc s)).foldl (λt (p,v)=>t.setIfInBounds p v) a.tmps,defers:=[]} W)
  (a8:∀(l:Nat) (s:Nat) (W:World),I s W->s<m->body.wpIn (Fence.wide.inRound l) (n-1-1) P (λe _ W'=>e=.normal/\KeepsOthers W W'/\I (s+1) W') (Z s) W)
  (a9:∀(l:Nat) (W:World),I m W->body.wpIn (Fence.wide.inRound l) (n-1-1) P (λe _ W'=>e=.ret/\KeepsOthers W W'/\M W') (Z m) W)
  (aa:∀(D:Nat) (W:World),w.heap.size<=D->M W->W.heap[D]? =some (.deferred (some []))->Q .ret {a with defers:= {target:=.collected D,args:=#[]}::a.defers} W):
  (Code.rangeFunc g ps assign body).wpIn Fence.wide n P Q a w:=by
 refine wpIn_rangeFunc ?_;intro fn a6;obtain⟨rec,hrec⟩:∃rec:LoopState->Option Code->Loop,rec=λst pe=> {state:=st,pending:=pe,fn,tmps:=a.tmps,params:=ps,assign,body,defers:=w.heap.size}:=⟨_,rfl⟩
 obtain⟨C,hW1⟩:∃C,(w.alloc (.deferred (some []))).alloc (.loop (rec .ready none))=C:=⟨_,rfl⟩
 have ab:C.heap[w.heap.size+1]? =some (.loop (rec .ready none)):=by
  grind [World.alloc_heap_new,World.size_alloc]
 have ac:C.heap[w.heap.size]? =some (.deferred (some [])):=by
  rw[<-hW1];exact(Below.heap_alloc _ _ _ Sq').trans (World.alloc_heap_new w _)
 have ad:I 0 C:=by rw[<-hW1];exact Y _ _ _ (Y _ _ _ h0 ((Below.refl _ w).alloc (A2e _) _)) ((Below.refl _ _).alloc (A2e _) _)
 refine⟨w.heap.size+1,[{target:=.collected w.heap.size,args:=#[]}],C,{target:=.fn (.func gf) lb,args:=#[.func (.yield (w.heap.size+1)) #[] #[]]},C,gf,
  #[.func (.yield (w.heap.size+1)) #[] #[]]++lb,C,?_,?_,?_,?_,λh=>(by cases h),?_⟩
 ·rw[<-hW1,hrec];exact run_enterLoop_outer _ _ _ _ _
 ·simp[resolve,hg];simp[go_sem]
 ·intro f' _;trivial
 ·simp[invoke,go_sem,eg]
 ·refine(a7 (w.heap.size+1) (λs W=>I s W/\W.heap[w.heap.size+1]? =some (.loop (rec .ready none))/\W.heap[w.heap.size]? =some (.deferred (some [])))
   (λW=>M W/\W.heap[w.heap.size+1]? =some (.loop (rec .done (some .ret)))/\W.heap[w.heap.size]? =some (.deferred (some [])))
   (λs W h=>hK s W h.1) (λs W W' h hb=>⟨Y _ _ _ h.1 hb,(hb.block _ (by grind)).trans h.2.1,(hb.block _ (by grind)).trans h.2.2⟩) ?_ ?_ C ⟨ad,ab,ac⟩).mono ?_
  ·rintro s W ⟨hi,hl,N⟩ ae;have O:=run_yield (P:=P) (args:=enc s) hl (by simp_all);rw[hrec] at O;refine⟨fn,_,assign,body,O,roundIn_of_wpIn a6 (a5 _ s W _ ⟨_,run_beginRound hl (by rw[hrec]),?_⟩)⟩;have hlt:w.heap.size+1<W.heap.size:=by grind
   have a0:(W.putObj (w.heap.size+1) (.loop {rec .ready none with state:=.busy})).heap[w.heap.size+1]? =some (.loop {rec .ready none with state:=.busy}):=World.putObj_heap_same hlt;have a1:(W.putObj (w.heap.size+1) (.loop {rec .ready none with state:=.busy})).heap[w.heap.size]? =some (.deferred (some [])):=(World.putObj_heap_other Om).trans N;refine wpIn_mono (a8 _ s _ (a4 _ _ _ _ _ Om hl hi) ae) ?_;rintro e a3 W3 ⟨rfl,U,ah⟩;have V:=U.same _ _ a0 rfl;have hr:=run_endRound (P:=P) none V;have a2:=(A2H.1 V).1;refine⟨_,_,hr,rfl,(by simp_all),?_,(World.putObj_heap_other Om).trans (U.same _ _ a1 rfl)⟩;rw[World.putObj_heap_same a2,hrec];rfl
  ·rintro W ⟨hi,hl,N⟩;have O:=run_yield (P:=P) (args:=enc m) hl (by simp_all);rw[hrec] at O;refine⟨fn,_,assign,body,O,roundIn_of_wpIn a6 (a5 _ m W _ ⟨_,run_beginRound hl (by rw[hrec]),?_⟩)⟩;have hlt:w.heap.size+1<W.heap.size:=by grind
   have a0:(W.putObj (w.heap.size+1) (.loop {rec .ready none with state:=.busy})).heap[w.heap.size+1]? =some (.loop {rec .ready none with state:=.busy}):=World.putObj_heap_same hlt;have a1:(W.putObj (w.heap.size+1) (.loop {rec .ready none with state:=.busy})).heap[w.heap.size]? =some (.deferred (some [])):=(World.putObj_heap_other Om).trans N;refine wpIn_mono (a9 _ _ (a4 _ _ _ _ _ Om hl hi)) ?_;rintro e a3 W3 ⟨rfl,U,ah⟩;have V:=U.same _ _ a0 rfl;have hr:=run_endRound (P:=P) (some .ret) V;have a2:=(A2H.1 V).1;refine⟨_,_,hr,rfl,(by simp_all),?_,(World.putObj_heap_other Om).trans (U.same _ _ a1 rfl)⟩;rw[World.putObj_heap_same a2,hrec];rfl
  ·rintro e W2 ⟨⟨v,rfl⟩,hi,hl,N⟩;refine⟨some .ret,_,by have:=run_endLoop (P:=P) hl (by simp_all);rw[hrec] at this;exact this,wpIn_ret (aa _ _ (A2e _) (by simp_all) ((World.putObj_heap_other Om).trans N))⟩
end Go.Ab
namespace Go.Proofs
open Go.Ab Go.Proofs Go.Proofs.Tryz Go.RowKit Go.Shelf
attribute [local go_sem] Oper.semAt_some
theorem Tf(b:UInt8)(t:Lua)(h:b.toNat<128):Lib.decodeL (b::t)=(b.toNat,1):=by
 have e:(ByteArray.get! ⟨(b::t).toArray⟩ (0+0))=b:=rfl;simp_all [Lib.decodeL,Utf8.decode,if_pos]
def asc(s:Baa)(m:Nat):Prop:=∀p,p<=m->∃(c:UInt8) (r:Lua),s.data.toList.drop p=c::r/\c.toNat<128
def Yk{s:Baa}{m:Nat}(h:asc s m){p:Nat}(hp:p<=m):p<s.size:=by
 obtain⟨c,r,h1,_⟩:=h p hp;have:=congrArg List.length h1;have hl:s.data.toList.length=s.size:=rfl;grind
def Yj{s:Baa}{m:Nat}(h:asc s m){p:Nat}(hp:p<=m):∃c:Nat,rnA s p=(c,1)/\c<128:=by
 obtain⟨c,r,h1,h2⟩:=h p hp;grind [rnA,Tf]
set_option maxRecDepth 100000 in
set_option maxHeartbeats 1000000 in
def c_runesL(n:Nat)(s:Baa)(hs:s.size<=1048576)(m:Nat)(hm:asc s m)(bx:Nat)(w0:World)(hT:∀W,Below w0.heap.size w0 W->Lib.Utf8Tabs (Tryz.sDecode_ren.g 3) (Tryz.sDecode_ren.g 4) W):
  TellsL n prog 385 #[.pointer (some ⟨bx,0,none⟩)] (P4 s) m (λW=>Below w0.heap.size w0 W/\W.cell? ⟨bx,0,none⟩=some (.string s)):=by
 intro l J Jx hK hJb hY hX W h0;refine callsIn_of_wp func385 rfl trivial ?_;simp only[ntmps385,A2A,A2l,A2r,Nat.reduceAdd,Nat.reduceSub,A3e,A3f,A3v,A38,A2h,A2d]
 gi_wp2
 gi_loopw [3] (λp wr=>∃q:Nat,p=.int .i64 q/\q<=m/\J q wr) (λp wr=>s.size-(intOf p).toNat)
 case atStart=>grind
 case round=>
  obtain⟨q,rfl,hqm,hJ⟩:=hrel;obtain⟨k1,k2⟩:=hK _ _ hJ;have hq:=Yk hm hqm;obtain⟨c,hc,hc2⟩:=Yj hm hqm;have hsl:=Uv s q hq;have hD:=Any.utf8_DecodeRuneInString Tryz.sDecode (s.extract q s.size) wr (hT wr k1);rw[hsl,hc] at hD;have hY2:=hY q;unfold P4 at hY2;rw[hc] at hY2;have hcr:¬((c:Int)=65533):=Om
  gi_wp2
  refine⟨trivial,λh=>(by cases h),(callsIn_wide.2 hD).mono ?_⟩;rintro e w2 ⟨rfl,hb⟩;rcases A2z q m with hlt|hge
  ·obtain⟨fn,tmps,assign,body,hy,hR⟩:=hY2 w2 (hJb q wr w2 hJ hb) hlt
   gi_wp2
   refine⟨λh=>(by cases h),hR.mono ?_⟩;rintro e w3 ⟨rfl,hJ3⟩
   gi_wp2
   go_roundw
   case rel=>grind
   case measure=>simp only[intOf];omega
  ·obtain rfl:q=m:=Om;have hX2:=hX w2 (hJb q wr w2 hJ hb);unfold P4 at hX2;rw[hc] at hX2;obtain⟨fn,tmps,assign,body,hy,hR⟩:=hX2
   gi_wp2
   refine⟨λh=>(by cases h),hR.mono ?_⟩;rintro e w3 ⟨rfl,hJ3⟩
   gi_wp2
   refine bodyPost_ret (results_none rfl _ _ _) rfl ?_;simp_all
set_option maxHeartbeats 1000000 in
def A1t(n:Nat)(r:Nat)(hr:r<128)(w:World):
  CallsIn Fence.wide n prog 425 #[.int .i32 r] w λe w'=>e=.returned (.int .i64 1)/\w'=w:=by
 refine callsIn_of_wp func425 rfl trivial ?_;simp only[ntmps425,A2A,A2l,A2r,Nat.reduceAdd,Nat.reduceSub,A3e,A3f,A3v,A38,A2h,A2d]
 gi_wp2
 go_ret
 exact⟨rfl,rfl⟩
def Sb(r:Nat):Prop:=32<=r/\r≠34/\r≠92
structure PlI(s:ByteArray)(w0:World)(b2 b3 bx:Nat)(p:Nat)(W:World):Prop where
 below:Below w0.heap.size w0 W
 c2:W.heap[b2]? =some (.cells #[.int .i64 0] 3 (0,0))
 c3:W.heap[b3]? =some (.cells #[.int .i64 p] 3 (0,0))
 cx:W.heap[bx]? =some (.cells #[.string s] 9 (0,0))
structure PlX(w0:World)(b2 m:Nat)(W:World):Prop where
 below:Below w0.heap.size w0 W
 c2:W.heap[b2]? =some (.cells #[.int .i64 m] 3 (0,0))
def PlI.keepL{s:Baa}{w0:World}{b2 M N p:Nat}{W W':World}(h:PlI s w0 b2 M N p W)(C:Dx W W')(hb:Below w0.heap.size w0 W'):PlI s w0 b2 M N p W':=⟨hb,Cm C h.c2,Cm C h.c3,Cm C h.cx⟩
def PlX.keepL{w0:World}{b2 m:Nat}{W W':World}(h:PlX w0 b2 m W)(C:Dx W W')(hb:Below w0.heap.size w0 W'):PlX w0 b2 m W':=⟨hb,Cm C h.c2⟩
def L1(W:World)(b k:Nat)(v:Value)(h:k≠b):(W.setCell ⟨b,0,none⟩ v).heap[k]? =W.heap[k]?:=Below.heap_setCell _ _ _ _ h
def L0{W:World}{b:Nat}{u v:Value}{T:TypeId}(h:W.heap[b]? =some (.cells #[u] T (0,0))):(W.setCell ⟨b,0,none⟩ v).heap[b]? =some (.cells #[v] T (0,0)):=by
 simp[World.setCell,Array.getElem?_modify,h]
set_option maxRecDepth 100000 in
set_option maxHeartbeats 4000000 in
def w_plain(n:Nat)(s:Baa)(hs:s.size<=1048576)(m:Nat)(hm:asc s m)(hp:∀p,p<m->Sb (rnA s p).1)(hq:¬Sb (rnA s m).1)(w0:World)(hT:∀W,Below w0.heap.size w0 W->Lib.Utf8Tabs (Tryz.sDecode_ren.g 3) (Tryz.sDecode_ren.g 4) W):
  CallsIn Fence.wide n prog 405 #[.string s] w0 λe w'=>e=.returned (.int .i64 m)/\Below w0.heap.size w0 w':=by
 refine callsIn_of_wp_marks func405 rfl trivial ?_;simp only[ntmps405,A2A,A2l,A2r,Nat.reduceAdd,Nat.reduceSub,A3e,A3f,A3v,A38,A2h,A2d]
 gi_wp2
 obtain⟨b2,hb2⟩:∃b2,b2=w0.heap.size:=⟨_,rfl⟩
 have e2:((w0.alloc (.cells #[.int .i64 0] 3)).alloc (.cells #[.int .i64 0] 3)).heap[w0.heap.size]? =some (.cells #[.int .i64 0] 3 (0,0)):=
  (Below.heap_alloc _ _ _ Sq').trans (World.alloc_heap_new w0 _)
 have e3:((w0.alloc (.cells #[.int .i64 0] 3)).alloc (.cells #[.int .i64 0] 3)).heap[w0.heap.size+1]? =some (.cells #[.int .i64 0] 3 (0,0)):=by
  have:=World.alloc_heap_new (w0.alloc (.cells #[.int .i64 0] 3)) (.cells #[.int .i64 0] 3);rwa[World.size_alloc] at this
 have hb0:Below w0.heap.size w0 ((w0.alloc (.cells #[.int .i64 0] 3)).alloc (.cells #[.int .i64 0] 3)):=((Below.refl _ w0).alloc (A2e _) _).alloc Sq' _;generalize(w0.alloc (.cells #[.int .i64 0] 3)).alloc (.cells #[.int .i64 0] 3)=w1 at*;rw[<-hb2] at e2 e3|-;have hlo:w0.heap.size<=b2:=Om;clear hb2;refine⟨trivial,λh=>(by cases h),(Zn (n-1) s w1).mono ?_⟩;rintro e w2 ⟨rfl,hw2⟩;obtain⟨bx,hbx⟩:∃bx,bx=w1.heap.size:=⟨_,rfl⟩
 have k2:Dx w1 w2:=by subst hw2;exact Dx.below ((Below.refl _ _).alloc (A2e _) _)
 have hb1:Below w0.heap.size w0 w2:=by subst hw2;exact hb0.alloc hb0.size _
 have hx2:w2.heap[bx]? =some (.cells #[.string s] 9 (0,0)):=by subst hw2;rw[hbx];exact World.alloc_heap_new w1 _
 have hne:bx≠b2/\bx≠b2+1:=by
  have h2:=(A2H.1 e2).1;have h3:=(A2H.1 e3).1;omega
 rw[<-hbx];have hI:PlI s w0 b2 (b2+1) bx 0 w2:=⟨hb1,Cm k2 e2,Cm k2 e3,hx2⟩
 clear hw2 hbx
 gi_wp2
 refine ZS (gf:=385) (lb:=#[.pointer (some ⟨bx,0,none⟩)]) rfl (enters_of func385 Kq' rfl) (c_runesL (n-1) s hs m hm bx w0 hT) (λ_=>rfl) (PlI s w0 b2 (b2+1) bx) (PlX w0 b2 m)
  (λp W h=>⟨h.below,by simp[World.cell?,h.cx]⟩)
  (λp W W' h hb=>h.keepL (Dx.below hb) (h.below.trans (hb.mono h.below.size)))
  (λp W l r o hl hr h=>h.keepL (Dx.put o hr) (h.below.trans ((Below.refl _ W).grown (grownBy_putObj' W l o) (by have:=h.below.size;omega) (λk e=>by cases e;have:=hb1.size;omega))))
  (λW l r o hl hr h=>h.keepL (Dx.put o hr) (h.below.trans ((Below.refl _ W).grown (grownBy_putObj' W l o) (by have:=h.below.size;omega) (λk e=>by cases e;have:=hb1.size;omega))))
  hI
  (λp=> {tmps:=#[.string s,undef,.pointer (some ⟨b2,0,none⟩),.pointer (some ⟨b2+1,0,none⟩),.int .i64 p,.int .i32 (rnA s p).1,.string s,.func (.func 385) #[] #[.pointer (some ⟨bx,0,none⟩)],.int .i64 p,.int .i32 (rnA s p).1,undef,undef,undef,undef,undef,undef,undef,undef,undef],defers:=[]}) ?assign ?body ?last ?done
 case assign=>
  intro l p W K hK;unfold P4
  gi_wp2
  exact hK
 case body=>
  intro l p W hI hp';obtain⟨i1,i2,i3,i4⟩:=hI;have hst:=hp p hp';obtain⟨c,hc,hc2⟩:=Yj hm (Nat.le_of_lt hp');rw[hc] at hst|-;simp only at hst|-
  gi_wp2
  refine⟨trivial,λh=>(by cases h),CallsIn.inRound l ((Qi (n-1-1-1) c W).mono ?_)⟩;rintro e w' ⟨rfl,rfl⟩;rw[decide_eq_true (show 32<=c/\c≠34/\c≠92 from hst)]
  gi_wp2
  refine⟨trivial,λh=>(by cases h),CallsIn.inRound l ((A1t (n-1-1-1) c hc2 w').mono ?_)⟩;rintro e w'' ⟨rfl,rfl⟩;have c3:w''.cell? ⟨b2+1,0,none⟩=some (.int .i64 p):=by simp[World.cell?,i3]
  have z3:w''.frozen? ⟨b2+1,0,none⟩=false:=by simp[World.frozen?,i3]
  gi_wp2
  rw[show RowKit.wrap64 ((p:Int)+1)=(p:Int)+1 from by have:=Yk hm (Nat.le_of_lt hp');unfold RowKit.wrap64;omega];refine⟨KeepsOthers.setCell _ _ _,?_,?_,?_,?_⟩
  ·exact i1.setCell (p:=⟨b2+1,0,none⟩) (by show w0.heap.size<=b2+1;omega) _
  ·exact(L1 _ _ _ _ Om).trans i2
  ·exact L0 i3
  ·exact(L1 _ _ _ _ hne.2).trans i4
 case last=>
  intro l W hI;obtain⟨i1,i2,i3,i4⟩:=hI;obtain⟨c,hc,hc2⟩:=Yj hm (A2e m);rw[hc] at hq|-;simp only at hq|-
  gi_wp2
  refine⟨trivial,λh=>(by cases h),CallsIn.inRound l ((Qi (n-1-1-1) c W).mono ?_)⟩;rintro e w' ⟨rfl,rfl⟩;rw[decide_eq_false (show ¬(32<=c/\c≠34/\c≠92) from hq)];have c2:w'.cell? ⟨b2,0,none⟩=some (.int .i64 0):=by simp[World.cell?,i2]
  have z2:w'.frozen? ⟨b2,0,none⟩=false:=by simp[World.frozen?,i2]
  gi_wp2
  refine⟨KeepsOthers.setCell _ _ _,?_,?_⟩
  ·exact i1.setCell (p:=⟨b2,0,none⟩) hlo _
  ·exact L0 i2
 case done=>
  intro D W hD hX hK;obtain⟨i1,i2⟩:=hX;refine(show Exit.inBlock 0 _ _ _ _ from ?_);simp only[Exit.inBlock,Exit.then];refine⟨Sq',.inl ⟨_,_,rfl,run_takeDeferred hK,?_⟩⟩;have cD:(W.putObj D (.deferred none)).heap[b2]? =some (.cells #[.int .i64 m] 3 (0,0)):=(World.putObj_heap_other (λh=>by subst h;rw[i2] at hK;cases hK)).trans i2;refine⟨.int .i64 m,?_,rfl,?_⟩
  ·have c2:(W.putObj D (.deferred none)).cell? ⟨b2,0,none⟩=some (.int .i64 m):=by simp[World.cell?,cD]
   have ha:=isAgg3;have hr:f405.results=#[.cell 2 3]:=rfl;simp[results,hr,loadVar,asAddr,c2,ha,go_sem]
  ·exact i1.grown (grownBy_putObj' W D _) (by have:=i1.size;omega) (λk e=>by cases e;have:=hb1.size;omega)
end Go.Proofs
namespace Go.Ab
open Go.Proofs Go.Proofs.Tryz Go.RowKit
abbrev tBl:TypeId:=191
abbrev bdB(a:D)(g len:Nat):Blk:=.pr g (prR tBl [a,.gref 1 len])
abbrev Wn:D:=.ref 0 0 0 2
def conv_toB(w:World)(k:Nat)(us:Array Value)(h:w.heap[k]? =some (.cells us tBl (0,0)))(C:us.size=2):(convert 189 336 (.pointer (some ⟨k,0*2+0,none⟩))).run prog w=.ok (.pointer (some ⟨k,0*2+0,none⟩)) w:=by
 obtain⟨j,hj,hj2⟩:∃j,prog.info? 191=some j/\j.size=2:=⟨_,rfl,Kq'⟩
 exact Lib.run_to_unsafe w _ underlying189 underlying336 hj Om (by simp[World.shape?,h];exact⟨rfl,rfl⟩) (by show 0*2+0<us.size;omega)
def XT(w:World)(k:Nat)(us:Array Value)(h:w.heap[k]? =some (.cells us tBl (0,0)))(C:us.size=2):(convert 336 189 (.pointer (some ⟨k,0*2+0,none⟩))).run prog w=.ok (.pointer (some ⟨k,0*2+0,none⟩)) w:=by
 obtain⟨j,hj,hj2⟩:∃j,prog.info? 191=some j/\j.size=2:=⟨_,rfl,Kq'⟩
 exact Lib.run_from_unsafe w _ underlying336 underlying189 hj (cells:=2) (e:=tBl) (by simp[World.shape?,h,C]) Kq'
abbrev bdH(a:D)(t:Lua):Hp:=[(1,bdB a 4 t.length),(4,byB 4 t)]
def c_ccNilB(t:Lua):A4 prog 341 [.ref 1 0 0 2] (bdH TF t) (.tup []) (bdH Wn t):=by
 have C:=NJ (.ref 1 0 0 2);unfold bdH;generalize t.length=len at*;refine Zd [] ?_
 (have z:=trivial;push_cast<;>repeat' (first|with_reducible apply Za|(refine A5.loadR Pc' rfl Pc' Pc' Sq' (by first|rfl|(push_cast;rfl)) Gda ?_)|(refine A5.convR Pc' Pc' (by exact conv_toB) Gda ?_)|(with_reducible show A5 _ _ _ _ _ _ _ _;refine A5.ext (by(try push_cast);exact C ..) Gda rfl ?_)|(refine A5.convR Pc' Pc' (by exact XT) Gda ?_)|(refine A5.storeR (.ref 0 0 0 2) 4 Pc' rfl rfl Pc' Pc' Sq' (by first|(push_cast;done)|rfl|(push_cast;rfl)) trivial (by first|rfl|(push_cast;rfl)) (by first|exact .inl rfl|exact .inr ⟨rfl,rfl⟩) Gda ?_)|fail)<;>push_cast)
 apply Zw<;>push_cast
def CcOkB(a:D):Prop:=∀t,A4 prog 341 [.ref 1 0 0 2] (bdH a t) (.tup []) (bdH Wn t)
def Qn(a:D)(hc:CcOkB a)(t:Lua)(s:Baa)(C:t++s.data.toList≠[])(hl:t.length+s.size<=1073741824):A4 prog 268 [.ref 1 0 0 2,sD s] (bdH a t) (.tup [iD s.size,.val .nilIface]) (bdH Wn (t++s.data.toList)):=by
 have hc:=hc t;obtain⟨j,M,N,O,U⟩:=Yt;have V:=underlying49;have Y:=underlying9;unfold bdH at*;have Z:(t++s.data.toList).length=t.length+s.size:=by rw[A2a];rfl
 rw[Z];refine Zd [] ?_
 (have z:=trivial;push_cast<;>repeat' (first|refine Zs [(1,1),(4,4)] (hc ..) ?_|with_reducible apply Za|(refine A5.loadR Pc' rfl Pc' Pc' Sq' (by first|rfl|(push_cast;rfl)) Gda ?_)|(refine A5.appG V Y M N O U C hl Pc' Pc' Pc' Gda ?_)|(refine A5.storeR (.gref 1 (t.length+s.size)) 88 Pc' rfl rfl Pc' Pc' Sq' (by first|(push_cast;done)|rfl|(push_cast;rfl)) trivial (by first|rfl|(push_cast;rfl)) (by first|exact .inl rfl|exact .inr ⟨rfl,rfl⟩) Gda ?_)|fail)<;>push_cast)
 apply Zr [(4,88)] rfl<;>push_cast
def A1T(t:Lua)(C:t≠[])(hl:t.length<=1073741824):A4 prog 114 [.ref 1 0 0 2] (bdH Wn t) (.val (.string ⟨t.toArray⟩)) []:=by
 have hp:=underlying263;have M:prog.cellsOf 5=1:=Kq';unfold bdH;refine Zd [] ?_
 (have z:=trivial;push_cast<;>repeat' (first|exact Zp|with_reducible apply Za|(refine A5.loadR Pc' rfl Pc' Pc' Sq' (by first|rfl|(push_cast;rfl)) Gda ?_)|(refine A5.usd C Pc' Pc' Gda ?_)|(refine A5.ustr hp M C hl Pc' Pc' Pc' Gda ?_)|fail)<;>push_cast)
 ·omega
 ·apply Zw<;>push_cast
end Go.Ab
namespace Go.Ab
open Go.Proofs Go.Proofs.Tryz Go.RowKit Go.Shelf
def Aq.nilgrowB{env:Env}{hp:Hp}{nx b:Nat}{T Te:TypeId}:Aq ⟨env,(b,.pr b (prR T [.val (.pointer none),.val (.slice none 0 0)]))::hp,nx⟩ ⟨env,(2*nx,.pr (2*nx) (prG Te []))::(b,.pr (2*nx) (prR T [.val (.pointer none),.gref 1 0]))::hp,nx+1⟩:=by
 intro w0 M0 I0 nt I mu a w r;have a2:mu (2*nx)=none:=r.w.fresh _ ⟨by show 2*nx%2=0;omega,A2e _⟩;have a3:(⟨env,(b,.pr b (prR T [.val (.pointer none),.val (.slice none 0 0)]))::hp,nx⟩:St).fs.hp b=some (.pr b (prR T [.val (.pointer none),.val (.slice none 0 0)])):=by simp[St.fs,Ak]
 obtain⟨v0,u0,b1,_,a6,_,k0,a4,b3,b4,b5,b6⟩:=r.w.blk b _ a3;have U:=BN (v:=.slice none 0 0) a2;have a8:b≠2*nx:=λe=>by rw[e,a2] at b1;cases b1
 have N:∀c z,Ak ((2*nx,Blk.pr (2*nx) (prG Te []))::(b,.pr (2*nx) (prR T [.val (.pointer none),.gref 1 0]))::hp) c=some z->(c=2*nx/\z=.pr (2*nx) (prG Te []))\/(c≠2*nx/\∃C,(⟨env,(b,.pr b (prR T [.val (.pointer none),.val (.slice none 0 0)]))::hp,nx⟩:St).fs.hp c=some C/\((c=b/\z=.pr (2*nx) (prR T [.val (.pointer none),.gref 1 0]))\/z=C)):=by
  intro c z h;simp only[Ak] at h;by_cases hc:2*nx=c
  ·have:(2*nx==c)=true:=by simp[hc]
   rw[this,cond_true] at h;exact .inl ⟨hc.symm,(Option.some.inj h).symm⟩
  ·have:(2*nx==c)=false:=by simp[hc]
   rw[this,cond_false] at h;refine .inr ⟨λh=>hc h.symm,?_⟩;by_cases Z:b=c
   ·have:(b==c)=true:=by simp[Z]
    rw[this,cond_true] at h;subst Z;exact⟨_,a3,.inl ⟨rfl,(Option.some.inj h).symm⟩⟩
   ·have:(b==c)=false:=by simp[Z]
    rw[this,cond_false] at h;exact⟨z,by simp[St.fs,Ak,this,h],.inr rfl⟩
 have a0:∀j,Al (.slice none 0 0)≠some j:=by intro j;simp[Al]
 have V:∀c,c≠2*nx->AM mu (2*nx) (.slice none 0 0) c=mu c:=λc hc=>by simp[AM,hc]
 refine⟨I,AM mu (2*nx) (.slice none 0 0),r.size,r.defers,λt'=>(r.env t').mono (λ_ _=>rfl) (λ_ h=>h) U,⟨λc z h=>?_,λc z v j h M O=>?_,λc c' z C v v' j h h' M Y O a5=>?_,λc hc=>?_,r.w.lt,r.w.os,r.w.tape,r.w.output,r.w.grown,r.w.old,r.w.iold,r.w.inew,λc v hc hn=>U c v (r.w.keep c v hc hn),λc z h hc=>?_⟩⟩
 ·rcases N c z h with⟨rfl,rfl⟩|⟨h1,C,h2,h3⟩
  ·exact⟨.slice none 0 0,.slice none 0 0,by simp[AM],by simp[AM],by simp[undef],by simp[undef],.inl ⟨rfl,rfl⟩⟩
  ·rcases h3 with⟨rfl,rfl⟩|rfl
   ·refine⟨v0,.slice none 0 0,U _ _ b1,by simp[AM],a6,by simp[undef],k0,a4,b3,b4,b5,λi hi=>?_⟩;have h6:=b6 i hi
    match i,hi with
    |0,_=>exact h6
    |1,_=>
     obtain⟨e1,_⟩:=h6;rw[show nv a4 1=Value.slice none 0 0 from e1];exact⟨rfl,none,0,rfl⟩
   ·exact(r.w.blk c z h2).mono (λ_ _=>rfl) (λ_ h=>h) U (λ_ _ _ _=>rfl)
 ·rcases N c z h with⟨rfl,rfl⟩|⟨h1,C,h2,_⟩
  ·simp only[AM,if_true,A2j] at M;subst M;exact(a0 j O).elim
  ·rw[V c h1] at M;exact r.w.loc c C v j h2 M O
 ·rcases N c z h with⟨rfl,rfl⟩|⟨h1,z1,h2,_⟩
  ·simp only[AM,if_true,A2j] at M;subst M;exact(a0 j O).elim
  ·rcases N c' C h' with⟨rfl,rfl⟩|⟨a7,z2,a1,_⟩
   ·simp only[AM,if_true,A2j] at Y;subst Y;exact(a0 j a5).elim
   ·rw[V c h1] at M;rw[V c' a7] at Y;exact r.w.inj c c' z1 z2 v v' j h2 a1 M Y O a5
 ·obtain⟨h1,h2⟩:=hc;have a1:2*(nx+1)<=c:=h2;rw[V c Om];exact r.w.fresh c ⟨h1,by show 2*nx<=c;omega⟩
 ·obtain⟨h1,h2⟩:=hc;have a1:2*(nx+1)<=c:=h2;rcases N c z h with⟨rfl,rfl⟩|⟨h3,C,h5,_⟩
  ·omega
  ·exact r.w.used c C h5 ⟨h1,by show 2*nx<=c;omega⟩
def c_plain(s:Baa)(hs:s.size<=1048576)(m:Nat)(hm:asc s m)(hp:∀p,p<m->Sb (rnA s p).1)(C:¬Sb (rnA s m).1):A0 prog 405 [sD s] (iD m):=
 A0.of_vals (us:=[.string s]) Kq' rfl λw I M N=>⟨.int .i64 m,λ_=>Hs (by have:=Yk hm (A2e m);simp only[okP,DJ,DK];omega),
  callsIn_wide.1 (w_plain 0 s hs m hm hp C w (λW hb=>Gd Kq' Kq' (M.below hb)))⟩
def c_plainA(s:Baa)(i:Nat)(x r:Lua)(O:∀c ∈ x,32<=c.toNat/\c.toNat<128/\c.toNat≠34/\c.toNat≠92)(V:s.size<=1048576)(h:At s i (x++[34]) r):
  A0 prog 405 [sD (s.extract i s.size)] (iD x.length):=by
 have hl:=h.2;have N:(s.extract i s.size).data.toList=x++[34]++r:=by
  rw[<-h.1,A3E,A3O];show(s.data.toList.drop i).take (s.size-i)=_;rw[A2g (by rw[A2t];exact A2e _)];rfl
 have U:(s.extract i s.size).size<=1048576:=by
  have:(s.extract i s.size).size=(s.extract i s.size).data.toList.length:=rfl;rw[this,N];simp only[A2a,A3x] at hl|-;omega
 have C:∀p,p<=x.length->∃c t,(s.extract i s.size).data.toList.drop p=c::t/\c.toNat<128/\(p<x.length->32<=c.toNat/\c.toNat≠34/\c.toNat≠92)/\(p=x.length->c=34):=by
  intro p hp;rw[N];rcases A2z p x.length with hlt|hge
  ·have hc:=O x[p] (A3H hlt);refine⟨x[p],x.drop (p+1)++[34]++r,?_,hc.2.1,λ_=>⟨hc.1,hc.2.2⟩,λe=>Om⟩;rw[A2c,List.drop_append_of_le_length Om,List.drop_eq_getElem_cons hlt];simp only[A2d,A2c]
  ·obtain rfl:p=x.length:=Om;refine⟨34,r,?_,Dq',λh=>Om,λ_=>rfl⟩;rw[A2c,List.drop_append_of_le_length (A2e _),List.drop_length];rfl
 refine c_plain _ U x.length (λp hp=>?_) (λp hp=>?_) ?_
 ·obtain⟨c,t,h1,h2,_⟩:=C p hp;exact⟨c,t,h1,h2⟩
 ·obtain⟨c,t,h1,h2,M,_⟩:=C p (Nat.le_of_lt hp);unfold rnA;rw[h1,Tf c t h2];have:=M hp;exact⟨this.1,this.2.1,this.2.2⟩
 ·obtain⟨c,t,h1,h2,_,M⟩:=C x.length (A2e _);unfold rnA;rw[h1,Tf c t h2,M rfl];rintro⟨_,h,_⟩;exact h rfl
def bl_ok:∀x ∈ [Value.pointer none,.slice none 0 0],okP x:=by
 intro x C;simp only[A2s,A3b,or_false] at C;rcases C with rfl|rfl<;>trivial
def unq_ok:Kt:=by
 intro s i x r N Z h;obtain⟨M,N⟩:=N;have hl:=h.2;rw[NO] at hl;have ht:At s (i+1) (x++[34]) r:=At.tail1 h;have V:=c_plainA s (i+1) x r N Z ht;have s0:BZ s (i:Int)=34:=h.strAt (j:=0) (c:=34) rfl;have s2:=ht.strAt (j:=x.length) (c:=34) Sq';obtain⟨c0,hc0⟩:∃c:UInt8,x[0]? =some c:=by
  cases x with
  |nil=>exact absurd rfl M
  |cons c x=>exact ⟨c,rfl⟩
 have s1:=ht.strAt (j:=0) (c:=c0) (by rw[A3d (by rcases x with _|_;exact absurd rfl M;simp)];exact hc0);have hc:=N c0 (List.mem_of_getElem? hc0);have a1:0<x.length:=A3S.2 M;have U:s.extract (i+1) (i+1+x.length)=⟨x.toArray⟩:=by
  apply ByteArray.ext;rw[A3E];apply Array.ext';rw[A3O];show((bl s).drop (i+1)).take (i+1+x.length-(i+1))=x;rw[ht.1,A2c,show i+1+x.length-(i+1)=x.length from by omega,List.take_left]
 obtain⟨p,hp⟩:∃p,p=i+1:=⟨_,rfl⟩
 obtain⟨C,hp2⟩:∃C,C=p+x.length:=⟨_,rfl⟩
 have O:=Qn TF c_ccNilB [] ⟨x.toArray⟩ (by simpa using M) (by show 0+x.toArray.size<=_;rw[A2A];omega);have Y:=A1T x M Om;rw[A2h] at O;rw[Nat.add_zero] at s1;rw[<-hp] at V s1 s2 U;rw[<-hp2] at s2 U;have et:(⟨x.toArray⟩:Baa).data.toList=x:=rfl;have es:(⟨x.toArray⟩:Baa).size=x.length:=by show x.toArray.size=_;simp
 rw[et,es] at O;unfold bdH at O Y;rw[NO,show i+(x.length+2)=C+1 from by omega];generalize(⟨x.toArray⟩:Baa)=X at*;have b0:decide ((i:Int)<0)=false:=Df';have b1:decide ((s.size:Int)<i)=false:=Df';have b2:((i:Int)==s.size)=false:=So';have w1:IntKind.i64.wrap ((i:Int)+1)=(p:Int):=by rw[A9 Om Om];omega
 have w2:IntKind.i64.wrap ((p:Int)+x.length)=(C:Int):=by rw[A9 Om Om];omega
 have w3:IntKind.i64.wrap ((C:Int)+1)=(C:Int)+1:=A9 Om Om;have b3:decide ((p:Int)<s.size)=true:=Dt';have b4:decide ((C:Int)<s.size)=true:=Dt';have b5:((C:Int)==s.size)=false:=So';have b6:(((c0.toNat:Nat):Int)==34)=false:=So';have b7:(((c0.toNat:Nat):Int)==92)=false:=So';have b8:((x.length:Int)==0)=false:=So';have a0:BZ s (C:Int)=34:=s2;generalize((c0.toNat:Nat):Int)=k0 at*;refine Zf [] ?_
 (push_cast<;>repeat' apply Za<;>push_cast)
 refine AWp.scope ?_;refine AWp.seq (Zy ?_)
 (have z:=Za b0<|Za b1<|Za b2 s0;push_cast[z]<;>repeat' apply Za<;>push_cast[z])<;>try omega
 refine AWp.seq (Zy ?_)
 (have z:=Za b0<|Za b1<|Za b2 s0;push_cast[z]<;>repeat' apply Za<;>push_cast[z])<;>try omega
 refine AWp.seq (Zy ?_)
 (push_cast<;>repeat' apply Za<;>push_cast)
 refine AWp.seq (AWp.regX Kq' ?_);refine A5.of_doesX (Na ti191 bl_ok) (.inl rfl) ?_;refine A5.go ?_;push_cast;refine Zy ?_
 (have z:=w1;push_cast[z]<;>repeat' apply Za<;>push_cast[z])
 refine AWp.loopI mixed Kq' (ι:=Bool) (λ_=>True) (λb=>⟨[(9,iD (if b then(C:Int) else p)),(8,.ref 176 0 0 2),(0,sD s)],[(208,byB 208 (if b then x else [])),(176,bdB (if b then Wn else TF) 208 (if b then x.length else 0))],105⟩) (λb=>if b then 0 else 1) false trivial ?_ λb _=>?_
 ·refine Aq.trans ?_ (Aq.trans (Aq.nilgrowB (T:=tBl) (Te:=5) (env:=[(9,iD p),(8,.ref 176 0 0 2),(0,sD s)]) (hp:=[]) (nx:=104) (b:=176)) ?_)
  ·apply Zw<;>push_cast
  ·apply Zw<;>push_cast
 ·cases b with
  |false=>
   push_cast
   (have z:=Za b3<|Za b6<|Za b7<|Za b8<|Za s1<|Za w2 @U;push_cast[z]<;>repeat' (first|refine Zc (V ..) ?_|refine Zs [(1,176),(4,208)] O ?_|apply Za)<;>push_cast[z])<;>try omega
   refine⟨true,Dq',?_⟩;apply Zr [(208,406)] rfl<;>push_cast
  |true=>
   push_cast
   (have z:=Za b4<|Za b5<|Za a0 w3;push_cast[z]<;>repeat' (first|refine Zs [(1,176),(4,208)] Y ?_|apply Za)<;>push_cast[z])<;>try omega
def A1K(c:Nat)(l:List SN)(h:KU c l):A0 prog 13 [.slice ((puF c l).map byD) false] (.tup [.agg [uD' c,.slice (l.map C2) false],iD 0]):=by
 have C:=c_Decode unq_ok of_ok c l h;unfold HW at C;rw[A30] at C;exact C
def Vf(b c sz:Nat){d:D}(h:d.pure=true):gsG b c sz d=d:=by
 cases d with
 |gref C n=>simp [D.pure] at h
 |_=>rfl
def c_clMutS(c k s a n:Nat)(C:D)(T M:GT)(u:SMu)(N:C.pure=true)(b1:AV C=true)(X:LLa)(O:Aa X=true)(hl:X.length=n)(hc:0<c)(hn:a+n<=1000000)
  (Y:A0 prog 34 [AF T,.agg (Ai u.m)] (.tup [AF M,iD 0])):
  A4 prog 10 [.ref 1 0 0 6,.agg (Ai u.m)] ((1,clB c k s C (Ah T))::qgH a 6 n X) (.tup [uD' ((a:Int)+n+1),iD 0])
   ([(1,clB c k s C (Ah M)),(3,.rows [[uD' a,.gsub 0 0 (n+1) 20]] 2),(0,.grow (X++[C2 (a+n+1,u)]) 20)]):=by
 have Z:=HP c hc;have V:=Qj HG u.m (LQ u) (by have:=Wv u;omega) (by rw[NU];omega);rw[SM Ao Mq u] at V;have hA:=c_qAdd a n X u O hl Om;have oT:=A6 T;have o1:=Bg T;have U:=A6 M;have a0:=Bg M;have oU:=Ax u.m;have oS:=Dz (GK (a+n+1,u)) O;simp only[AF] at*;generalize Ah T=th at*;generalize Ah M=a1 at*;rw[T9] at*;generalize u.m=m at*;refine Zd [] ?_
 (have z:=Za O<|Za hl<|Za N<|Za b1<|Za oT<|Za o1<|Za U<|Za a0 oU;push_cast[z]<;>repeat' (first|refine A5.lendZ (clH c k s C th) Z ?_|refine Zc V ?_|refine Zs [(3,3),(5,6)] hA ?_|refine Zc (Y ..) ?_|exact Zo|apply Za)<;>push_cast[z])
 refine Aq.trans (Aq.toSub (b:=128) (sz:=20) (es:=X++[C2 (a+n+1,u)]) rfl) ?_;have g1:=Vf 128 376 20 N;have g2:=Vf 128 376 20 U;have g3:∀v,gsG 128 376 20 (.val v)=.val v:=λ_=>rfl;have g4:∀l,gsG 128 376 20 (.tup l)=.tup l:=λ_=>rfl;have g5:gsG 128 376 20 (.ref 3 0 0 2)=.ref 3 0 0 2:=rfl;have g6:∀k,gsG 128 376 20 (.gref 128 k)=.gsub 376 0 k 20:=λ_=>rfl;apply Zr [(0,376)] rfl<;>push_cast [g1,g2,g3,g4,g5,g6,oS,N,U]
abbrev cnH(c:Nat):Hp:=[(1,clB c 0 1 (.val (.pointer none)) (.val (.pointer none))),(3,.rows [[uD' 0,.slice [] true]] 2)]
def c_clMutN(c:Nat)(C:GT)(u:SMu)(hc:0<c)
  (N:A0 prog 34 [AF .nil,.agg (Ai u.m)] (.tup [AF C,iD 0])):
  A4 prog 10 [.ref 1 0 0 6,.agg (Ai u.m)] (cnH c) (.tup [uD' 1,iD 0])
   [(1,clB c 0 1 (.val (.pointer none)) (Ah C)),(3,.rows [[uD' 0,.gsub 0 0 1 20]] 2),(0,.grow [C2 (1,u)] 20)]:=by
 have h:=c_clMutS c 0 1 0 0 (.val (.pointer none)) .nil C u rfl rfl [] rfl rfl hc Om N;rw[Bl] at h;refine A4.weakIn rfl ?_ h;have M:=Ax u.m;have w:Aq ⟨BB 0 [.ref 1 0 0 6,.agg (Ai u.m)],cnH c,4⟩ ⟨BB 0 [.ref 1 0 0 6,.agg (Ai u.m)],[(3,.rows [[uD' 0,.slice [] true]] 2),(1,clB c 0 1 (.val (.pointer none)) (.val (.pointer none)))],4⟩:=by
  apply Zw<;>push_cast [M]
 refine Aq.trans w (Aq.trans (Aq.nilgrowN (sz:=20) [uD' 0]) ?_);apply Zr [(6,8)] rfl<;>push_cast [M]
def A1N(c k s a o n:Nat)(C M:D)(O:C.pure=true)(b1:AV C=true)(U:M.pure=true)(h1:AV M=true)(X:LLa)(N:Aa X=true)(hl:o+n<=X.length)(hc:0<c)(hn:a+n<=1048576):
  A4 prog 12 [.ref 1 0 0 6] ((1,clB c k s C M)::quH a o n X) (.tup []) ((1,clB c k (a+n+1) C M)::quH a o n X):=by
 have Y:=HP c hc;have Z:((X.drop o).take n).length=n:=So';have oN:=CW n _ (CX o X N);have V:=HO a ((X.drop o).take n) false Om;rw[Z] at V;refine Zd [] ?_
 (have z:=Za N<|Za hl<|Za oN<|Za O<|Za b1<|Za U h1;push_cast[z]<;>repeat' (first|refine A5.lendZ (clH c k s C M) Y ?_|refine A5.lendZ (quH a o n X) V ?_|apply Za)<;>push_cast[z])
 apply Zw<;>push_cast [N,O,U]
def A1P(c k s:Nat)(M C:D)(N:M.pure=true)(b1:AV M=true)(O:C.pure=true)(h1:AV C=true)(hc:0<c):
  A4 prog 18 [.ref 1 0 0 6] [(1,clB c k s M C)] (.agg [C]) [(1,clB c k s M C)]:=by
 have U:=HP c hc;refine Zd [] ?_
 (have z:=Za N<|Za b1<|Za O h1;push_cast[z]<;>repeat' (first|refine A5.lendZ (clH c k s M C) U ?_|apply Za)<;>push_cast[z])
 apply Zw<;>push_cast [O,N]
def Wj{X:LLa}{a o n:Nat}{L:List SN}(h:Kd X o n L)(C k M s d:Nat)(m:Int)(T N U:GT)(O:D)(V:O.pure=true)(h1:AV O=true)(Y:0<C)
  (Z:k<M) (a0:M<=1048576) (hd:d<=n) (hn:a+X.length<=1048576)
  (hA:A0 prog 43 [AF T,.slice [opR m] true] (.tup [AF N,iD 0]))
  (hR:A0 prog 23 [AF N,.slice ((L.drop d).map C2) true] (AF U)):
  A4 prog 15 [.ref 1 0 0 6,rsD C k M (a+d) (.sref 7 0 1 1 8)] ((7,.rows [opR m] 8)::(1,clB C k s (Ah T) O)::quH a o n X) (iD 0)
   ((1,clB C M s (Ah N) (Ah U))::quH (a+d) (o+d) (n-d) (AI X o (List.replicate d Ew))):=by
 have hS:=Y9 h C k M s d (.slice [opR m] true) T N U O V h1 Y (by simp[D.pure,Aa,An]) rfl Z a0 hd hn hA hR;have oX:=h.pure;have oT:=A6 T;refine A4.weakIn (ds:=[.ref 1 0 0 6,rsD C k M (a+d) (.slice [opR m] true)]) rfl (Aq.trans (Aq.fzB (b:=7) rfl) ?_) hS;generalize Ah T=tb at*;apply Zw<;>push_cast [oX,oT,V]
def Z1:Kd [C2 (1,.inc 1)] 0 1 [(1,.inc 1)]:=by
 refine⟨CA [(1,.inc 1)],Sq',rfl,Om,λi hi=>?_⟩;obtain rfl:i=0:=Om;rfl
def kq_pu:KU 7 [(1,.inc 1)]:=by
 refine⟨by unfold Ex;omega,Dq',λx C=>?_⟩;cases A2b.1 C;exact⟨by unfold Ex;simp,by simp[SMu.ok]⟩
abbrev irQ:LLa:=[uD' 1::[iD 3,sD tNx,sD bea,iD 1,bD false,iD 0,bD false,iD 0,sD bea,.slice [] true,.slice [] true,bD false,iD 0,bD false,iD 0,sD bea,.slice [] true,.slice [] true,.slice [] true]]
abbrev eeR:LLa:=[[sD tNx,iD 3,bD false,iD 5,sD bea,.slice [] true,.slice [] true]]
abbrev seH(b:Nat)(Y:LLa):Hp:=[(b,.rows Y 20)]
abbrev eeH(b:Nat)(Y:LLa):Hp:=[(b,.rows Y 7)]
abbrev incR(n:Int):List D:=[iD 3,sD tNx,sD bea,iD n,bD false,iD 0,bD false,iD 0,sD bea,.slice [] true,.slice [] true,bD false,iD 0,bD false,iD 0,sD bea,.slice [] true,.slice [] true,.slice [] true]
def inc_lo(n:Int):loL [.ref 1 0 0 6,.agg (incR n)] [.ref 1 0 0 6,.agg (Ai (SMu.inc n).m)]:=by
 simp[SMu.m,Ai,N7,A7,JB,JC,zV,loL,Mi,Fa,EM,Av]
abbrev irR:List D:=uD' 1::incR 1
def same_lo:loL [.slice [C2 (1,.inc 1)] false,.slice [irR] true] [.slice [C2 (1,.inc 1)] false,.slice [C2 (1,.inc 1)] false]:=by
 simp only[loL,Av,Fa,and_true,true_and];refine⟨?_,Sq'⟩;simp[snN,AN,SMu.m,Ai,N7,A7,JB,JC,zV,loL,Mi,Fa,EM,Av]
def has_lo(C:D):loL [.agg [C],.slice eeR true] [.agg [C],.slice ([(tNx,vI 5)].map A8) false]:=by
 simp only[A2m,A2E,Aj,N6];simp[loL,Mi,Fa,EM,Av]
abbrev kiH(X:LLa)(th:D):Hp:=[(8,.rows [[uD' 7,uD' 3,uD' 2,th,th,.ref 10 0 0 2]] 6),(10,.rows [[uD' 1,.gsub 144 1 0 20]] 2),(144,.grow X 20)]
def RY:A0 prog 4 [] (bD true):=by
 obtain⟨T,h0,hT⟩:=trI 1 Om;have a0:=(hT 0 Om).2;rw[h0,show SMu.inc (((1:Nat):Int)+((0:Nat):Int))=SMu.inc 1 from rfl] at a0;have hN:=c_clNew 7 Dq' Dq';have V:=c_clMutN 7 (T 1) (.inc 1) Dq' a0;have V:=V.lo (inc_lo 1);have M:=A6 (T 1);have N:=Bg (T 1);have a1:=A1M (a:=0) Z1 7 0 1 (.val (.pointer none)) (Ah (T 1)) rfl rfl M N Dq' 5 5 rfl (λ_ _=>Dq');have hK:=A1N 7 0 1 0 0 1 (.val (.pointer none)) (Ah (T 1)) rfl rfl M N [C2 (1,.inc 1)] (CA [(1,.inc 1)]) Sq' Dq' Om;have hlt:∀i:Nat,i<1->(i:Int)<5/\([(1,SMu.inc 1)].getD i (0,SMu.put)).1<2:=λi hi=>by
  obtain rfl:i=0:=Om;exact⟨Dq',Dq'⟩
 have hP:=c_clPush (a:=0) Z1 7 0 2 (.val (.pointer none)) (Ah (T 1)) rfl rfl M N Dq' 5 5 rfl 1 (A2e 1) Nat.zero_lt_one hlt (λ_ h=>absurd h (Nat.lt_irrefl 1)) kq_pu;have hD:=A1K 7 [(1,.inc 1)] kq_pu;have Y:=c_same24 (1,.inc 1);have Y:=Y.lo same_lo;have oR:=GK (1,.inc 1);have hU:=c_num 5;obtain⟨C,hA,Z⟩:=A1B 5 Dq' true (T:=.nil) (l:=[]) (.inl ⟨rfl,rfl⟩) Sq';change Dw C [(tNx,vI 5)] at Z;have hR:=c_rHead0 C;have O:=A6 C;have U:=Bg C;have hC:=Wj (a:=0) Z1 7 0 3 2 1 5 .nil C C (Ah (T 1)) M N Dq' Dq' Dq' Dq' (Nat.le_of_ble_eq_true rfl) hA hR;rw[Bl] at hC;have hH:=A1P 7 3 2 (Ah C) (Ah C) O U O U Dq';have hE:=c_has C [(tNx,vI 5)] Z Sq';have hI:=Y8 7 3 2 1 Dq' C [(tNx,vI 5)] Z Sq' (Ah C) O U [] ⟨Sq',Sq',Sq',Sq'⟩ Sq';simp only[imD,clP] at hI;have oF:=B9 (puF 7 [(1,.inc 1)]);change A4 _ _ _ _ (.tup [.slice ((puF 7 [(1,.inc 1)]).map byD) false,_]) _ at hP;simp only[AF] at*;generalize Ah (T 1)=th at*;generalize Ah C=a2 at*;generalize(puF 7 [(1,.inc 1)]).map byD=F at*;have hE:=hE.lo (has_lo _);have oX:Aa (AI [C2 (1,.inc 1)] 0 (List.replicate 1 Ew))=true:=rfl;have lX:(AI [C2 (1,.inc 1)] 0 (List.replicate 1 Ew)).length=1:=rfl;generalize AI [C2 (1,.inc 1)] 0 (List.replicate 1 Ew)=X0 at*;refine Zf [] ?_
 (have z:=Za M<|Za N<|Za O<|Za U<|Za oF<|Za oR<|Za oX lX;push_cast[z]<;>repeat' (first|apply Zi<;>intro _|refine Zs [] hN ?_|refine Zs [(1,8),(3,10)] V ?_|refine Zs [(1,8),(3,10),(5,144)] a1 ?_|refine Zs [(1,8),(3,10),(5,144)] hK ?_|refine Zs [(1,8),(3,10),(5,144)] hP ?_|refine Zc hD ?_|refine A5.lendZ (seH 600 irQ) Y ?_|refine Zc hU ?_|refine Zs [(1,8),(3,10),(5,144),(7,656)] hC ?_|refine Zs [(1,8),(3,10)] hH ?_|refine A5.lendZ (eeH 744 eeR) hE ?_|exact Zo|with_reducible apply Za|((with_reducible show A5 _ _ _ _ _ _ _ _);refine A5.giveF (kiH X0 a2) _ rfl (by exact hI ..) Gda ?_ ?_ ?_ ?_;(· push_cast[z]<;>(with_unfolding_all exact Ag _));(· push_cast[z]<;>first|exact λ_=>trivial|(with_unfolding_all exact Ag _));(· push_cast[z]);try push_cast[z])|fail)<;>push_cast[z])
end Go.Ab
namespace Go.Proofs
open Go.Ab Go.Proofs Go.Proofs.Tryz Go.RowKit Go.Shelf
attribute [local go_sem] Oper.semAt_some
def Mt(w:World)(l:Lua):(convert 49 9 (.slice (some ⟨w.heap.size,0,none⟩) l.length l.length)).run prog (w.alloc (.cells (Lib.byteCells l).toArray 5))=.ok (.string ⟨l.toArray⟩) (w.alloc (.cells (Lib.byteCells l).toArray 5)):=by
 refine run_convert_bytes_back _ 49 9 5 _ _ l underlying49 underlying5 underlying9 λj C=>?_;have e:(⟨w.heap.size,0,none⟩:Addr).add j=⟨w.heap.size,j,none⟩:=by unfold Addr.add;split<;>simp_all
 rw[e];simp only[World.cell?,World.alloc_heap_new w (.cells (Lib.byteCells l).toArray 5)];simp[Lib.byteCells,C]
set_option maxRecDepth 1000000 in
set_option maxHeartbeats 2000000 in
def w_Bytes(n:Nat)(r:Nat)(hr:r<=1114111)(hs:¬(55296<=r/\r<=57343))(w:World):
  CallsIn Fence.wide n prog 154 #[.int .i64 r] w λe w'=>e=.returned (.string ⟨(Lib.encodeRune r).toArray⟩)/\Below w.heap.size w w':=by
 refine callsIn_of_wp func154 rfl trivial ?_;simp only[ntmps154,A2A,A2l,A2r,Nat.reduceAdd,Nat.reduceSub,A3e,A3f,A3v,A38,A2h,A2d];have e:=Lib.byteCells_encodeRune (r:Int);have hcv:=Mt w (Lib.encodeRune r);rw[e] at hcv;have hln:(Lib.encodeRune (r:Int)).length=(Lib.runeCells (r:Int)).length:=by rw[<-e,Lib.byteCells_length]
 rw[hln] at hcv;unfold Lib.runeCells at hcv;clear hln e;generalize(⟨(Lib.encodeRune (r:Int)).toArray⟩:Baa)=q at*;by_cases c1:r<128
 ·have:(r:Int)<128:=Om;rw[Lib.encodeRuneZ_one Om Om] at hcv;simp only[A2m,A2E,A2l,A2r] at hcv
  gi_wp2
  go_ret
  exact⟨rfl,(Below.refl _ w).alloc (A2e _) _⟩
 ·by_cases c2:r<2048
  ·rw[Lib.encodeRuneZ_two Om Om] at hcv;simp only[A2m,A2E,A2l,A2r] at hcv
   gi_wp2
   go_ret
   exact⟨rfl,(Below.refl _ w).alloc (A2e _) _⟩
  ·by_cases c3:r<65536
   ·rw[Lib.encodeRuneZ_three Om] at hcv;simp only[A2m,A2E,A2l,A2r] at hcv
    gi_wp2
    go_ret
    exact⟨rfl,(Below.refl _ w).alloc (A2e _) _⟩
   ·rw[Lib.encodeRuneZ_four Om Om] at hcv;simp only[A2m,A2E,A2l,A2r] at hcv
    gi_wp2
    go_ret
    exact⟨rfl,(Below.refl _ w).alloc (A2e _) _⟩
end Go.Proofs
namespace Go.Ab
open Go.Proofs Go.Proofs.Tryz Go.RowKit Go.Shelf
def r_Bytes(r:Nat)(hr:r<=1114111)(hs:¬(55296<=r/\r<=57343)):A0 prog 154 [iD r] (.val (.string ⟨(Lib.encodeRune r).toArray⟩)):=
 A0.of_vals (us:=[.int .i64 r]) Kq' rfl λw I C M=>⟨.string ⟨(Lib.encodeRune r).toArray⟩,λ_=>Hs (by
  show(Lib.encodeRune r).toArray.size<=_;have h:(Lib.encodeRune r).length<=4:=by
   unfold Lib.encodeRune Lib.encodeRuneZ
   repeat' split
   all_goals simp
  rw[A2A];omega),callsIn_wide.1 (w_Bytes 0 r hr hs w)⟩
def VN:List Nat:=[34,92,47,8,12,10,13,9]
def r_Code(i:Nat)(hi:i<8):A0 prog 153 [iD i] (iD (VN.getD i 0)):=by
 have:i=0\/i=1\/i=2\/i=3\/i=4\/i=5\/i=6\/i=7:=Om;rcases this with rfl|rfl|rfl|rfl|rfl|rfl|rfl|rfl;all_goals
  refine Zf [] ?_
  (push_cast<;>repeat' apply Za)
  all_goals rfl
def Gu:Nat->Lua->List Nat
 |0,_=>[]
 |n+1,l=>if l=[] then [] else(Lib.decodeL l).1::Gu n (l.drop (Lib.decodeL l).2)
def K9(n:Nat):List D:=[iD n]
def Ro(l:List Nat):Aa (l.map K9)=true:=Aw (λ_=>rfl) l
attribute [push_cast] Ro
def Ho(n:Nat):Gu n []=[]:=by cases n<;>simp [Gu]
def Jh:∀(n m:Nat) (l:Lua),l.length<=n->l.length<=m->Gu n l=Gu m l
 |0,m,l,h,_=>by
  have:l=[]:=A3c.1 Om;subst this;rw[Ho,Ho]
 |n+1,0,l,_,h=>by
  have:l=[]:=A3c.1 Om;subst this;rw[Ho,Ho]
 |n+1,m+1,l,h,k=>by
  simp only[Gu];have h1:=Lib.decodeL_width l;split
  ·rfl
  ·rename_i hn;have:0<l.length:=A3S.2 hn;rw[Jh n m _ (by rw[A2t];omega) (by rw[A2t];omega)]
def De(s:Baa)(p:Nat):List Nat:=Gu (s.size-p) (s.data.toList.drop p)
def Ji{s:Baa}{p:Nat}(h:p<s.size):De s p=(rnA s p).1::De s (p+(rnA s p).2):=by
 have hl:s.data.toList.length=s.size:=rfl;have h1:1<=(rnA s p).2:=Lib.decodeL_width _;unfold De;rw[Jh (s.size-p) (s.size-p-1+1) _ (by rw[A2t];omega) (by rw[A2t];omega)];simp only[Gu,if_neg (Gn h),A3N];rw[Jh (s.size-p-1) (s.size-(p+(rnA s p).2)) _ (by rw[A2t];unfold rnA at*;omega) (by rw[A2t];unfold rnA at*;omega)];rfl
def P1(s:Baa):De s s.size=[]:=by
 unfold De;rw[Nat.sub_self];rfl
def plN(s:Baa):Nat->Nat->List Nat
 |0,_=>[]
 |n+1,p=>if p<s.size then p::plN s n (p+(rnA s p).2) else []
def Pd(s:Baa):∀(n m p:Nat),s.size-p<=n->s.size-p<=m->plN s n p=plN s m p
 |0,0,p,_,_=>rfl
 |0,m+1,p,h,_=>by simp only[plN];rw[if_neg Om]
 |n+1,0,p,_,h=>by simp only[plN];rw[if_neg Om]
 |n+1,m+1,p,h,k=>by
  simp only[plN];have h1:1<=(rnA s p).2:=Lib.decodeL_width _;split
  ·rw[Pd s n m _ Om Om]
  ·rfl
def Fu(s:Baa)(p:Nat):List Nat:=plN s (s.size-p) p
def Sw{s:Baa}{p:Nat}(h:p<s.size):Fu s p=p::Fu s (p+(rnA s p).2):=by
 have h1:1<=(rnA s p).2:=Lib.decodeL_width _;unfold Fu;rw[Pd s (s.size-p) (s.size-p-1+1) p Om Om];simp only[plN,if_pos h];rw[Pd s (s.size-p-1) (s.size-(p+(rnA s p).2)) _ Om Om]
def UR(s:Baa):Fu s s.size=[]:=by
 unfold Fu;rw[Nat.sub_self];rfl
def r_Runes(s:Baa)(hs:s.size<=1048576)(Z:AK s=true):A4 prog 152 [sD s] [] (.tup [.gref 2 (De s 0).length,.gref 4 (Fu s 0).length]) [(2,.grow ((De s 0).map K9) 1),(4,.grow ((Fu s 0).map K9) 1)]:=by
 have hl:s.data.toList.length=s.size:=rfl;refine Zd [] ?_
 (push_cast<;>repeat' apply Za)
 refine AWp.loopI mixed Kq' (ι:=Nat×List Nat×List Nat) (λx=>x.1<=s.size/\Lib.validD (s.data.toList.drop x.1)=true/\x.2.1++De s x.1=De s 0/\x.2.2++Fu s x.1=Fu s 0/\x.2.1.length<=x.1/\x.2.2.length<=x.1)
  (λx=>⟨[(6,iD x.1),(5,.gref 50 x.2.2.length),(4,.gref 48 x.2.1.length),(0,sD s)],[(48,.grow (x.2.1.map K9) 1),(50,.grow (x.2.2.map K9) 1)],60⟩) (λx=>s.size-x.1) (0,[],[]) ⟨A2w _,by rw[A3W];exact Z,rfl,rfl,A2e _,A2e _⟩ ?_ λx hx=>?_
 ·refine Aq.trans (s':=⟨[(4,.slice [] true),(5,.slice [] true),(6,iD 0),(0,sD s)],[],24⟩) ?_ ?_
  ·apply Zw<;>push_cast
  refine Aq.trans (Aq.nilgrowE 1) ?_;refine Aq.trans (s':=⟨[(5,.slice [] true),(4,.gref 48 0),(6,iD 0),(0,sD s)],[(48,.grow [] 1)],25⟩) ?_ ?_
  ·apply Zw<;>push_cast
  refine Aq.trans (Aq.nilgrowE 1) ?_;apply Zw<;>push_cast
 ·obtain⟨i,rs,ps⟩:=x;obtain⟨h1,h2,M,N,h5,h6⟩:=hx;simp only at*;push_cast;refine Ad (λO=>?_) (λO=>?_)
  ·have C:i<s.size:=by simpa using O
   obtain⟨v1,v2,v3,v4,v5⟩:=Uw C h2;have V:=r_At s i Om Om;have a0:atR s i=rnA s i:=by rw[TB s i C];exact if_neg v1
   rw[a0] at V;have g3:=Ji C;have g4:=Sw C;rw[g3] at M;rw[g4] at N;generalize rnA s i=y at*;obtain⟨r,Y⟩:=y;simp only at*;have b1:((Y:Int)==0)=false:=So';have oR:=Aw (f:=K9) (λx=>rfl) rs;have oP:=Aw (f:=K9) (λx=>rfl) ps;have e1:rs.map K9++[[iD (r:Int)]]=(rs++[r]).map K9:=by simp[K9]
   have e2:ps.map K9++[[iD (i:Int)]]=(ps++[i]).map K9:=by simp[K9]
   (have z:=Za b1<|Za oR oP;push_cast[z]<;>repeat' (first|refine Zc V ?_|apply Za)<;>push_cast[z])
   all_goals first|omega|(intro y U;cases A2b.1 U;rfl)|(intro y U d hd;cases A2b.1 U;cases A2b.1 hd;rfl)|skip
   refine⟨(i+Y,rs++[r],ps++[i]),⟨v3,v2,by rw[A2c];exact M,by rw[A2c];exact N,by rw[A2a];simp;omega,by rw[A2a];simp;omega⟩,by simp only;omega,?_⟩;rw[e1,e2];have l1:rs.length+1=(rs++[r]).length:=Sq';have l2:ps.length+1=(ps++[i]).length:=Sq';rw[l1,l2];apply Zr [(48,256),(50,296)] rfl<;>push_cast;all_goals first|exact A9 Om Om |skip
  ·have C:i=s.size:=by simp at O;omega
   subst C;rw[P1,A2y] at M;rw[UR,A2y] at N;subst M N
   (push_cast<;>repeat' apply Za)
   apply Zr [(2,48),(4,50)] rfl<;>push_cast
def E2(r:Nat):Nat:=if r=34 then 0 else if r=92 then 1 else if r=8 then 3 else if r=12 then 4 else if r=10 then 5 else if r=13 then 6 else if r=9 then 7 else 8
def N3:Lua:=[34,92,47,98,102,110,114,116]
def Z3(r:Nat):E2 r<=8:=by unfold E2;repeat' split
                          all_goals omega
def idxC_lt{r:Nat}(h:E2 r<8):E2 r≠2/\VN.getD (E2 r) 0=r:=by
 unfold E2 at*
 repeat' split
 all_goals first|(subst_vars;exact⟨Dq',rfl⟩)|simp_all
def idxC_ne{r j:Nat}(h:j<E2 r)(h2:j≠2):VN.getD j 0≠r:=by
 have h8:=Z3 r;have:j=0\/j=1\/j=3\/j=4\/j=5\/j=6\/j=7:=Om;unfold E2 at h;intro e;rcases this with rfl|rfl|rfl|rfl|rfl|rfl|rfl<;>(simp[VN] at e;subst e;simp at h)
def A0p(l:Lua):L4 l=if E2 (Lib.decodeL l).1<8 then [92,N3.getD (E2 (Lib.decodeL l).1) 0] else if(Lib.decodeL l).1<32 then [92,117,48,48,Ka ((Lib.decodeL l).1/16),Ka ((Lib.decodeL l).1%16)] else Lib.encodeRune (Lib.decodeL l).1:=by
 unfold L4;generalize(Lib.decodeL l).1=r;rcases Decidable.em (r=34) with rfl|h1
 ·rfl
 rcases Decidable.em (r=92) with rfl|h2
 ·rfl
 rcases Decidable.em (r=8) with rfl|h3
 ·rfl
 rcases Decidable.em (r=12) with rfl|h4
 ·rfl
 rcases Decidable.em (r=10) with rfl|h5
 ·rfl
 rcases Decidable.em (r=13) with rfl|h6
 ·rfl
 rcases Decidable.em (r=9) with rfl|h7
 ·rfl
 have C:E2 r=8:=by unfold E2;simp only[h1,h2,h3,h4,h5,h6,h7,if_false]
 have M:Jw r=none:=by unfold Jw;simp only[h1,h2,h3,h4,h5,h6,h7,if_false]
 rw[C,M,if_neg (by omega:¬8<8)];by_cases h:r<32
 ·rw[if_pos h,if_neg Om]
 ·rw[if_neg h,if_pos Om]
def rn_sur(s:Baa)(p:Nat):¬(55296<=(rnA s p).1/\(rnA s p).1<=57343):=by
 unfold rnA;rw[Lib.decodeL_N];rcases Lib.decodeN_shape (s.data.toList.drop p).length ((s.data.toList.drop p).getD 0 0).toNat ((s.data.toList.drop p).getD 1 0).toNat ((s.data.toList.drop p).getD 2 0).toNat ((s.data.toList.drop p).getD 3 0).toNat with⟨c,e⟩|⟨c1,c2,c3,C,e⟩|⟨c1,c2,c3,M,C,cs,e⟩|⟨c1,c2,c3,M,N,C,O,e⟩|e;all_goals(rw[e];dsimp only;omega)
def Dv(a b:Baa):(a++b).data.toList=a.data.toList++b.data.toList:=by
 rw[A3Y,A45]
def Z4:∀i,i<16->((⟨#[48,49,50,51,52,53,54,55,56,57,97,98,99,100,101,102]⟩:Baa).extract i (i+1)).data.toList=[Ka i]:=by
 have key:∀i:Fin 16,((⟨#[48,49,50,51,52,53,54,55,56,57,97,98,99,100,101,102]⟩:Baa).extract i.val (i.val+1)).data.toList=[Ka i.val]:=Dq';exact λi h=>key ⟨i,h⟩
def letT_at:∀i,i<8->((⟨N3.toArray⟩:Baa).extract i (i+1)).data.toList=[N3.getD i 0]:=by
 have key:∀i:Fin 8,((⟨N3.toArray⟩:Baa).extract i.val (i.val+1)).data.toList=[N3.getD i.val 0]:=Dq';exact λi h=>key ⟨i,h⟩
def X5(s:Baa):(De s 0).length<=s.size:=by
 have key:∀(n:Nat) (l:Lua),(Gu n l).length<=n:=by
  intro n
  induction n with
  |zero=>intro l;exact A2e 0
  |succ n C=>
   intro l;simp only[Gu];split
   ·simp
   ·simp only[A2l];have:=C (l.drop (Lib.decodeL l).2);omega
 exact key _ _
def YG(s:Baa)(hs:s.size<=1048576):A0 prog 96 [sD s] (.tup [sD (Dk s),iD (if AK s=true then 0 else 3)]):=by
 have hl:s.data.toList.length=s.size:=rfl;have hV:=L8 s Om;cases V:AK s with
 |false=>
  rw[V] at hV;have e:Dk s=⟨#[]⟩:=by unfold Dk;rw[if_neg (by rw[V];decide)];rfl
  rw[e];refine Zf [] ?_
  (have z:=trivial;push_cast<;>repeat' (first|refine Zc hV ?_|exact Zp|apply Za)<;>push_cast)
 |true=>
  rw[V] at hV;have hR:=r_Runes s hs V;have a9:=X5 s;refine Zf [] ?_
  (have z:=trivial;push_cast<;>repeat' (first|refine Zc hV ?_|refine Zs [] hR ?_|exact Zp|apply Za)<;>push_cast)
  have hq:Dk s=⟨([34]++F5 s.data.toList.length s.data.toList++[34]).toArray⟩:=by unfold Dk;rw[if_pos V]
  have hn:∀i,i<(De s 0).length->nr ((De s 0).map K9) i=[iD ((De s 0).getD i 0:Nat)]:=λi h=>DT 0 h;have U:=Ro (De s 0);generalize a2:De s 0=C at*;refine AWp.loopI mixed Kq' (ι:=Nat×Nat×Baa) (λx=>x.1<=x.2.1/\x.2.1<=s.size/\Lib.validD (s.data.toList.drop x.2.1)=true/\C.drop x.1=De s x.2.1/\x.1<=C.length/\[34]++F5 s.data.toList.length s.data.toList=x.2.2.data.toList++F5 (s.data.toList.drop x.2.1).length (s.data.toList.drop x.2.1)/\x.2.2.size<=6*x.2.1+1)
   (λx=>⟨[(8,iD x.1),(7,.val (.string ⟨#[48,49,50,51,52,53,54,55,56,57,97,98,99,100,101,102]⟩)),(5,.gref 58 C.length),(4,sD x.2.2)],[(58,.grow (C.map K9) 1)],80⟩) (λx=>s.size-x.2.1) (0,0,⟨#[34]⟩) ⟨A2e _,A2w _,by rw[A3W];exact V,by rw[A3W,a2],A2w _,by rw[A3W],Dq'⟩ ?_ λx hx=>?_
  ·apply Zw<;>push_cast
  ·obtain⟨i,p,S⟩:=x;obtain⟨h1,h2,h3,M,h5,h6,h7⟩:=hx;simp only at*;push_cast;refine⟨Om,?_⟩;refine Ad (λha=>?_) (λha=>?_)
   ·have Y:i<C.length:=by simpa using ha
    have hp:p<s.size:=by
     rcases A2z p s.size with h|h
     ·exact h
     ·have:p=s.size:=Om;subst this;rw[P1] at M;have:=congrArg List.length M;rw[A2t,A2r] at this;omega
    obtain⟨v1,v2,v3,v4,v5⟩:=Uw hp h3;have v6:=rn_sur s p;rw[Ji hp] at M;have hg:C.getD i 0=(rnA s p).1:=by
     rw[C7 (d:=0) Y] at M;exact(List.cons.inj M).1
    have a3:C.drop (i+1)=De s (p+(rnA s p).2):=by
     rw[C7 (d:=0) Y] at M;exact(List.cons.inj M).2
    have e1:=hn i Y;rw[hg] at e1;have a0:=QR _ (Gn hp);rw[A0p,A3N] at a0;change F5 _ _=(if E2 (rnA s p).1<8 then [92,N3.getD (E2 (rnA s p).1) 0] else if(rnA s p).1<32 then [92,117,48,48,Ka ((rnA s p).1/16),Ka ((rnA s p).1%16)] else Lib.encodeRune (rnA s p).1)++F5 (s.data.toList.drop (p+(rnA s p).2)).length (s.data.toList.drop (p+(rnA s p).2)) at a0;rw[a0] at h6;generalize rnA s p=y at*;obtain⟨r,N⟩:=y;simp only at*;have i8:=Z3 r;clear a0 M v1
    (have z:=Za e1 U;push_cast[z]<;>repeat' (first|exact Zo|apply Za)<;>push_cast[z])<;>try omega
    refine Zl (λj=>j<=E2 r) (λj=>⟨[(10,iD j),(9,iD r),(8,iD i),(7,.val (.string ⟨#[48,49,50,51,52,53,54,55,56,57,97,98,99,100,101,102]⟩)),(5,.gref 58 C.length),(4,sD S)],[(58,.grow (C.map K9) 1)],160⟩) (λj=>E2 r-j) 0 (A2w _) ?_ λj hj=>?_
    ·apply Zw<;>push_cast
    ·have O:∀ {S':Baa},S'.data.toList=S.data.toList++(if E2 r<8 then [92,N3.getD (E2 r) 0] else if r<32 then [92,117,48,48,Ka (r/16),Ka (r%16)] else Lib.encodeRune r)->(i+1<=p+N/\p+N<=s.size/\Lib.validD (s.data.toList.drop (p+N))=true/\C.drop (i+1)=De s (p+N)/\i+1<=C.length/\[34]++F5 s.data.toList.length s.data.toList=S'.data.toList++F5 (s.data.toList.drop (p+N)).length (s.data.toList.drop (p+N))/\S'.size<=6*(p+N)+1)/\s.size-(p+N)<s.size-p:=λ{S'} e=>by
      refine⟨⟨Om,v3,v2,a3,Om,?_,?_⟩,Om⟩
      ·rw[h6,e,A2c]
      ·have a4:S'.size=S'.data.toList.length:=rfl;have aa:S.size=S.data.toList.length:=rfl;rw[a4,e,A2a];have:(if E2 r<8 then [92,N3.getD (E2 r) 0] else if r<32 then [92,117,48,48,Ka (r/16),Ka (r%16)] else Lib.encodeRune r).length<=6:=by
        repeat' split
        ·simp
        ·simp
        ·have:(Lib.encodeRune (r:Int)).length<=4:=by
          unfold Lib.encodeRune Lib.encodeRuneZ
          repeat' split
          all_goals simp
         omega
       omega
     rcases A2z j (E2 r) with hjl|hjl
     ·have b0:decide ((j:Int)<8)=true:=Dt';have w1:IntKind.i64.wrap (↑j+1)=↑j+1:=A9 Om Om;rcases Decidable.em (j=2) with rfl|hj2
      ·(have z:=U;push_cast[z]<;>repeat' (first|exact Zo|apply Za)<;>push_cast[z])<;>try omega
       refine⟨3,Om,Om,?_⟩;apply Zw<;>push_cast;all_goals rfl
      ·have b2:((j:Int)==2)=false:=So';have Z:=r_Code j Om;have a5:=idxC_ne hjl hj2;obtain⟨cj,hcj⟩:∃cj,VN.getD j 0=cj:=⟨_,rfl⟩
       rw[hcj] at Z a5;have b3:((cj:Int) !=(r:Int))=true:=So'
       (have z:=Za U<|Za b0<|Za b2<|Za b3 w1;push_cast[z]<;>repeat' (first|refine Zc Z ?_|exact Zo|apply Za)<;>push_cast[z])<;>try omega
       refine⟨j+1,Om,Om,?_⟩;apply Zw<;>push_cast
     ·have a1:j=E2 r:=Om;have w2:IntKind.i64.wrap (↑i+1)=↑i+1:=A9 Om Om;subst a1;rcases A2z (E2 r) 8 with h8|h8
      ·obtain⟨n2,a6⟩:=idxC_lt h8;rw[if_pos h8] at O;have Z:=r_Code (E2 r) h8;rw[a6] at Z;have hlt:=letT_at (E2 r) h8;have b0:decide ((E2 r:Int)<8)=true:=Dt';have b2:((E2 r:Int)==2)=false:=So';have w1:IntKind.i64.wrap ((E2 r:Int)+1)=((E2 r+1:Nat):Int):=by rw[A9 Om Om];omega
       generalize E2 r=j at*;have z1:(⟨#[92]⟩:Baa).size=1:=rfl;have z2:(⟨#[34,92,47,98,102,110,114,116]⟩:Baa).size=8:=rfl;have z3:((⟨#[34,92,47,98,102,110,114,116]⟩:Baa).extract j (j+1)).size=1:=congrArg List.length hlt;have t1:((j:Int)+1).toNat=j+1:=Om;have b4:((r:Int) !=(r:Int))=false:=Sq'
       (have z:=Za U<|Za b0<|Za b2<|Za b4<|Za w1<|Za z1<|Za z2<|Za z3<|Za t1 @ByteArray.size_append;push_cast[z]<;>repeat' (first|refine Zc Z ?_|exact Zo|apply Za)<;>push_cast[z])<;>try omega
       obtain⟨f1,f2⟩:=O (S':=S++⟨#[92]⟩++(⟨#[34,92,47,98,102,110,114,116]⟩:Baa).extract j (j+1)) (by rw[Dv,Dv,A2c];exact congrArg (λx=>S.data.toList++([92]++x)) hlt);refine⟨(i+1,p+N,_),f1,f2,?_⟩;apply Zw<;>push_cast;all_goals first|exact w2|skip
      ·have a1:E2 r=8:=Om;rw[if_neg Om] at O;rw[a1];by_cases hr:r<32
       ·rw[if_pos hr] at O;have b3:decide ((r:Int)<32)=true:=Dt';have q1:(r:Int).tdiv 16=((r/16:Nat):Int):=by rw[Int.tdiv_eq_ediv_of_nonneg Om];rfl
        have q2:(r:Int).tmod 16=((r%16:Nat):Int):=by rw[Int.tmod_eq_emod_of_nonneg Om];rfl
        have x1:=Z4 (r/16) Om;have x2:=Z4 (r%16) Om;obtain⟨u,hu⟩:∃u,u=r/16:=⟨_,rfl⟩
        obtain⟨v,hv2⟩:∃v,v=r%16:=⟨_,rfl⟩
        rw[<-hu] at q1 x1 O;rw[<-hv2] at q2 x2 O;have wu:IntKind.i64.wrap (u:Int)=u:=A9 Om Om;have wv:IntKind.i64.wrap (v:Int)=v:=A9 Om Om;have a7:IntKind.i64.wrap ((u:Int)+1)=(u:Int)+1:=A9 Om Om;have a8:IntKind.i64.wrap ((v:Int)+1)=(v:Int)+1:=A9 Om Om;have tu:((u:Int)+1).toNat=u+1:=Om;have tv:((v:Int)+1).toNat=v+1:=Om;have z1:(⟨#[92,117,48,48]⟩:Baa).size=4:=rfl;have z2:(⟨#[48,49,50,51,52,53,54,55,56,57,97,98,99,100,101,102]⟩:Baa).size=16:=rfl;have z3:((⟨#[48,49,50,51,52,53,54,55,56,57,97,98,99,100,101,102]⟩:Baa).extract u (u+1)).size=1:=congrArg List.length x1;have z4:((⟨#[48,49,50,51,52,53,54,55,56,57,97,98,99,100,101,102]⟩:Baa).extract v (v+1)).size=1:=congrArg List.length x2
        (have z:=Za U<|Za b3<|Za q1<|Za q2<|Za wu<|Za wv<|Za a7<|Za a8<|Za tu<|Za tv<|Za z1<|Za z2<|Za z3<|Za z4 @ByteArray.size_append;push_cast[z]<;>repeat' (first|exact Zo|apply Za)<;>push_cast[z])<;>try omega
        obtain⟨f1,f2⟩:=O (S':=S++⟨#[92,117,48,48]⟩++(⟨#[48,49,50,51,52,53,54,55,56,57,97,98,99,100,101,102]⟩:Baa).extract u (u+1)++(⟨#[48,49,50,51,52,53,54,55,56,57,97,98,99,100,101,102]⟩:Baa).extract v (v+1)) (by rw[Dv,Dv,Dv,x1,x2,A2c,A2c];rfl);refine⟨(i+1,p+N,_),f1,f2,?_⟩;apply Zw<;>push_cast;all_goals first|exact w2|skip
       ·rw[if_neg hr] at O;have b3:decide ((r:Int)<32)=false:=Df';have hB:=r_Bytes r v5 v6;have z1:(⟨(Lib.encodeRune (r:Int)).toArray⟩:Baa).size<=4:=by
         show(Lib.encodeRune (r:Int)).toArray.size<=4;rw[A2A];unfold Lib.encodeRune Lib.encodeRuneZ
         repeat' split
         all_goals simp
        obtain⟨f1,f2⟩:=O (S':=S++⟨(Lib.encodeRune (r:Int)).toArray⟩) (by rw[Dv]);generalize(⟨(Lib.encodeRune (r:Int)).toArray⟩:Baa)=E at*
        (have z:=Za U b3;push_cast[z]<;>repeat' (first|refine Zc hB ?_|exact Zo|apply Za)<;>push_cast[z])<;>try omega
        refine⟨(i+1,p+N,_),f1,f2,?_⟩;apply Zw<;>push_cast;all_goals first|exact w2|skip
   ·have Y:i=C.length:=by simp at ha;omega
    subst Y;rw[List.drop_length] at M;have hp:p=s.size:=by
     rcases A2z p s.size with h|h
     ·rw[Ji h] at M;cases M
     ·omega
    subst hp;rw[List.drop_of_length_le (show s.data.toList.length<=s.size from A2e _),GP,A2y] at h6;have z1:(⟨#[34]⟩:Baa).size=1:=rfl;have e:Dk s=S++⟨#[34]⟩:=by
     rw[hq,h6];apply ByteArray.ext;apply Array.ext';rw[A3Y,A45]
    rw[e]
    (have z:=Za U z1;push_cast[z]<;>repeat' (first|exact Zo|apply Za)<;>push_cast[z])<;>try omega
def dgs(m:Nat):Lua:=if m=0 then [] else Lib.decDigits m
def dgs_step{m:Nat}(h:m≠0):dgs m=dgs (m/10)++[UInt8.ofNat (48+m%10)]:=by
 unfold dgs;rw[if_neg h];by_cases c:m<10
 ·rw[if_pos Om,Lib.decDigits_one c,Nat.mod_eq_of_lt c];rfl
 ·rw[if_neg Om]
  conv=>lhs;rw[Lib.decDigits,dif_neg c]
def digT_at:∀i,i<10->((⟨#[48,49,50,51,52,53,54,55,56,57]⟩:Baa).extract i (i+1)).data.toList=[UInt8.ofNat (48+i)]:=by
 have key:∀i:Fin 10,((⟨#[48,49,50,51,52,53,54,55,56,57]⟩:Baa).extract i.val (i.val+1)).data.toList=[UInt8.ofNat (48+i.val)]:=Dq';exact λi h=>key ⟨i,h⟩
def r_digits(n:Int)(h0: -9223372036854775808<=n)(h1:n<=9223372036854775807):A0 prog 95 [iD n] (.val (.string ⟨(Lib.itoa n).toArray⟩)):=by
 by_cases hn:n=0
 ·subst hn;have e:Lib.itoa 0=[48]:=by unfold Lib.itoa;rw[if_neg Om];exact Lib.decDigits_one Om
  rw[e];refine Zf [] ?_
  (push_cast<;>repeat' apply Za)
 ·have b1:(n==0)=false:=by simpa using hn
  have a4:(Lib.itoa n).length<=21:=Lib.itoa_length_le n h0 h1;have Z:Lib.itoa n=(if n<0 then [45] else [])++dgs n.natAbs:=by
   unfold Lib.itoa dgs;rw[if_neg (by omega:¬n.natAbs=0)];split
   ·rfl
   ·rw[show n.toNat=n.natAbs by omega];rfl
  refine Zf [] ?_
  (have z:=b1;push_cast[z]<;>repeat' apply Za)
  refine AWp.loopI mixed Kq' (ι:=Int×Baa) (λx=>(n<0->x.1<=0)/\(0<=n->0<=x.1)/\x.1.natAbs<=n.natAbs/\dgs x.1.natAbs++x.2.data.toList=dgs n.natAbs) (λx=>⟨[(4,iD x.1),(3,sD x.2),(0,iD n)],[],60⟩) (λx=>x.1.natAbs) (n,⟨#[]⟩) ⟨λh=>Om,λh=>h,A2e _,Sq'⟩ ?_ λx hx=>?_
  ·apply Zw<;>push_cast
  ·obtain⟨z,S⟩:=x;obtain⟨g1,g2,g3,N⟩:=hx;simp only at*;have hS:S.size<=21:=by
    have:=congrArg List.length N;have h2:=congrArg List.length Z;rw[A2a] at this h2;have h3:S.size=S.data.toList.length:=rfl;omega
   by_cases hz:z=0
   ·subst hz;have e:S.data.toList=dgs n.natAbs:=by rw[<-N];rfl
    by_cases V:n<0
    ·have e2:(⟨(Lib.itoa n).toArray⟩:Baa)=⟨#[45]⟩++S:=by
      rw[Z,if_pos V,<-e];apply ByteArray.ext;apply Array.ext';rw[A3Y,A45]
     have b2:decide (n<0)=true:=decide_eq_true V;have z1:(⟨#[45]⟩:Baa).size=1:=rfl;rw[e2]
     (have z:=Za b2 z1;push_cast[z]<;>repeat' apply Za)<;>try omega
    ·have e2:(⟨(Lib.itoa n).toArray⟩:Baa)=S:=by
      rw[Z,if_neg V,<-e];rfl
     have b2:decide (n<0)=false:=decide_eq_false V;rw[e2]
     (have z:=b2;push_cast[z]<;>repeat' apply Za)<;>try omega
   ·have b3:(z !=0)=true:=by simpa using hz
    obtain⟨u,hu⟩:∃u,u=z.natAbs:=⟨_,rfl⟩
    have a2:=dgs_step (m:=u) Om;rw[<-hu,a2,A2c] at N;have hd:=digT_at (u%10) Om;obtain⟨d,hd2⟩:∃d,d=u%10:=⟨_,rfl⟩
    rw[<-hd2] at hd N;have z1:(⟨#[48,49,50,51,52,53,54,55,56,57]⟩:Baa).size=10:=rfl;have z3:((⟨#[48,49,50,51,52,53,54,55,56,57]⟩:Baa).extract d (d+1)).size=1:=congrArg List.length hd;have td:((d:Int)+1).toNat=d+1:=Om;have wd:IntKind.i64.wrap (d:Int)=d:=A9 Om Om;have a0:IntKind.i64.wrap ((d:Int)+1)=(d:Int)+1:=A9 Om Om;have a1:∀z':Int,z'.natAbs=u/10->dgs z'.natAbs++((⟨#[48,49,50,51,52,53,54,55,56,57]⟩:Baa).extract d (d+1)++S).data.toList=dgs n.natAbs:=λz' a3=>by
     rw[a3,Dv,hd];exact N
    rcases Int.lt_or_le z 0 with hs|hs
    ·have O:z= -(u:Int):=Om;have U:z.tmod 10= -(d:Int):=by rw[O,Int.neg_tmod,Int.tmod_eq_emod_of_nonneg Om];omega
     have Y:z.tdiv 10= -((u/10:Nat):Int):=by rw[O,Int.neg_tdiv,Int.tdiv_eq_ediv_of_nonneg Om];rfl
     have wn:IntKind.i64.wrap (-(d:Int))= -(d:Int):=A9 Om Om;have C:IntKind.i64.wrap (-((u:Int)/10))= -((u:Int)/10):=A9 Om Om;have nn:0- -(d:Int)=(d:Int):=Om;by_cases a5:d=0
     ·have M:decide (-(d:Int)<0)=false:=Df';have nd: -(d:Int)=d:=Om;rw[nd] at U wn M
      (have z:=Za b3<|Za U<|Za Y<|Za wn<|Za C<|Za nn<|Za M<|Za z1<|Za z3<|Za td<|Za wd<|Za a0 @ByteArray.size_append;push_cast[z]<;>repeat' apply Za)<;>try omega
      refine⟨(-((u/10:Nat):Int),_),⟨λ_=>by simp only;omega,λh=>by simp only;omega,by simp only;omega,a1 _ Om⟩,by simp only;omega,?_⟩;apply Zw<;>push_cast;all_goals first|exact C|skip
     ·have M:decide (-(d:Int)<0)=true:=Dt'
      (have z:=Za b3<|Za U<|Za Y<|Za wn<|Za C<|Za nn<|Za M<|Za z1<|Za z3<|Za td<|Za wd<|Za a0 @ByteArray.size_append;push_cast[z]<;>repeat' apply Za)<;>try omega
      refine⟨(-((u/10:Nat):Int),_),⟨λ_=>by simp only;omega,λh=>by simp only;omega,by simp only;omega,a1 _ Om⟩,by simp only;omega,?_⟩;apply Zw<;>push_cast;all_goals first|exact C|skip
    ·have O:z=(u:Int):=Om;have U:z.tmod 10=(d:Int):=by rw[O,Int.tmod_eq_emod_of_nonneg Om];omega
     have Y:z.tdiv 10=((u/10:Nat):Int):=by rw[O,Int.tdiv_eq_ediv_of_nonneg Om];rfl
     have C:IntKind.i64.wrap ((u:Int)/10)=(u:Int)/10:=A9 Om Om;have M:decide ((d:Int)<0)=false:=Df'
     (have z:=Za b3<|Za U<|Za Y<|Za C<|Za M<|Za z1<|Za z3<|Za td<|Za wd<|Za a0 @ByteArray.size_append;push_cast[z]<;>repeat' apply Za)<;>try omega
     refine⟨(((u/10:Nat):Int),_),⟨λ_=>by simp only;omega,λh=>by simp only;omega,by simp only;omega,a1 _ Om⟩,by simp only;omega,?_⟩;apply Zw<;>push_cast;all_goals first|exact C|skip
mutual
def CP:GV->Lua
 |.mk k b n s l o=>if k=1 then [110,117,108,108] else if k=2 then(if b then [116,114,117,101] else [102,97,108,115,101]) else if k=3 then Lib.itoa n else if k=4 then(Dk s).data.toList
  else if k=5 then [91]++Dl true l++[93] else [123]++Dm true o++[125]
def Dl:Bool->List GV->Lua
 |_,[]=>[]
 |f,v::l=>(if f then [] else [44])++(CP v++Dl false l)
def Dm:Bool->List (Baa×GV)->Lua
 |_,[]=>[]
 |f,(k,v)::l=>(if f then [] else [44])++((Dk k).data.toList++([58]++(CP v++Dm false l)))
end
def textV_eq(v:GV):CP v=if v.kind=1 then [110,117,108,108] else if v.kind=2 then(if v.b then [116,114,117,101] else [102,97,108,115,101]) else if v.kind=3 then Lib.itoa v.n else if v.kind=4 then(Dk v.s).data.toList
  else if v.kind=5 then [91]++Dl true v.list++[93] else [123]++Dm true v.obj++[125]:=by cases v;unfold CP;rfl
mutual
def JP:∀(v:GV) (d:Nat),Bb v d=0->(CP v).length=CN v
 |.mk k b n s l o,d,h=>by
  obtain⟨V,v2,v3,Y,Z⟩:=EK h;obtain⟨a1,a2,a3,a4,a5,a6,a7⟩:=EH V;simp only[GV.kind,GV.b,GV.n,GV.s,GV.list,GV.obj] at*;unfold CP CN;by_cases M:k=1
  ·rw[if_pos M,if_pos M];rfl
  rw[if_neg M,if_neg M];by_cases N:k=2
  ·rw[if_pos N,if_pos N];cases b<;>rfl
  rw[if_neg N,if_neg N];by_cases O:k=3
  ·rw[if_pos O,if_pos O]
  rw[if_neg O,if_neg O];by_cases U:k=4
  ·rw[if_pos U,if_pos U,<-JQ];rfl
  rw[if_neg U,if_neg U];by_cases C:k=5
  ·have:=NP true l (d+1) (Y C);rw[if_pos C,if_pos C,A2a,A2a,this];simp;omega
  ·have:=NQ true o (d+1) none (Z Om);rw[if_neg C,if_neg C,if_pos (by omega:k=6),A2a,A2a,this];simp;omega
def NP:∀(f:Bool) (l:List GV) (d:Nat),CR l d=0->(Dl f l).length=BV l+(l.length-(if f then 1 else 0))
 |f,[],_,_=>by cases f<;>simp [Dl,BV]
 |f,v::l,d,h=>by
  simp only[CR] at h;split at h
  ·rename_i h1;exact absurd h h1
  ·rename_i h1;have h2:=JP v d (by simpa using h1);have C:=NP false l d h;simp only[Dl,BV,A2a,h2,C];cases f<;>simp<;>omega
def NQ:∀(f:Bool) (l:List (Baa×GV)) (d:Nat) (p:Option Baa),Ey p l d=0->(Dm f l).length=BO l+(l.length-(if f then 1 else 0))
 |f,[],_,_,_=>by cases f<;>simp [Dm,BO]
 |f,(k,v)::l,d,p,h=>by
  rw[DZ] at h;split at h
  ·rename_i h1;exact absurd h h1
  ·rename_i h1;have h2:=JP v d (GY (by simpa using h1)).2;have C:=NQ false l d (some k) h;have M:(Dk k).data.toList.length=Nl k:=JQ k;simp only[Dm,BO,A2a,h2,C,M];cases f<;>simp<;>omega
end
def WH{l:List GV}{i:Nat}(h:i<l.length):Dl (decide (i=0)) (l.drop i)=(if i=0 then [] else [44])++(CP (l.getD i zV)++Dl (decide (i+1=0)) (l.drop (i+1))):=by
 rw[C7 (d:=zV) h];simp[Dl]
def WI{l:List (Baa×GV)}{i:Nat}(h:i<l.length):Dm (decide (i=0)) (l.drop i)=(if i=0 then [] else [44])++((Dk (l.getD i zM).1).data.toList++([58]++(CP (l.getD i zM).2++Dm (decide (i+1=0)) (l.drop (i+1))))):=by
 rw[C7 (d:=zM) h];simp[Dm]
def quoT_ba(s:Baa):(⟨(Dk s).data.toList.toArray⟩:Baa)=Dk s:=Sq'
def Xc(v:GV)(d:Nat)(hm:Bb v d=0)(hs:Sm v)(hb:CN v<=4611686018427387904):A0 prog 60 [.agg (A7 v)] (.val (.string ⟨(CP v).toArray⟩)):=by
 have O:=JP v d hm;obtain⟨v1,v2,v3,v4,v5⟩:=EK hm;obtain⟨a1,a2,a3,a4,a5,a6,a7⟩:=EH v1;have aa:=hs.list_le;have ab:=hs.obj_le;rw[textV_eq] at O|-;rw[A3];by_cases Z:v.kind=1
 ·rw[if_pos Z,Z];refine Zf [0] ?_
  (push_cast<;>repeat' (first|apply Zi<;>intro _|exact Zp|with_reducible apply Za)<;>push_cast)
 rw[if_neg Z] at O|-;by_cases k2:v.kind=2
 ·rw[if_pos k2,k2];cases ac:v.b;all_goals
   refine Zf [0] ?_
   (push_cast<;>repeat' (first|apply Zi<;>intro _|exact Zp|with_reducible apply Za)<;>push_cast)
   all_goals rfl
 rw[if_neg k2] at O|-;by_cases k3:v.kind=3
 ·rw[if_pos k3,k3];have hD:=r_digits v.n hs.int.1 hs.int.2;refine Zf [0] ?_
  (have z:=trivial;push_cast<;>repeat' (first|apply Zi<;>intro _|refine Zc hD ?_|exact Zp|with_reducible apply Za)<;>push_cast)
 rw[if_neg k3] at O|-;by_cases k4:v.kind=4
 ·rw[if_pos k4,k4,quoT_ba];have hQ:=YG v.s hs.text;refine Zf [0] ?_
  (have z:=trivial;push_cast<;>repeat' (first|apply Zi<;>intro _|refine Zc hQ ?_|exact Zp|with_reducible apply Za)<;>push_cast)
 rw[if_neg k4] at O|-;by_cases Y:v.kind=5
 ·rw[if_pos Y] at O|-;have a8:∀i,i<v.list.length->A0 prog 60 [.agg (A7 (v.list.getD i zV))] (.val (.string ⟨(CP (v.list.getD i zV)).toArray⟩)):=λi hi=>
   Xc _ (d+1) (JU (v4 Y) _ (Ae hi)) (hs.list _ (Ae hi)) (by
    rw[Ep,if_neg Z,if_neg k2,if_neg k3,if_neg k4,if_pos Y] at hb;have:=(KI hi).1;have h2:=(KI hi).2;rw[show v.list[i]=v.list.getD i zV by rw[A29,A2f hi];rfl] at this;omega)
  have a0:([91]++Dl true v.list++[93]).length<=4611686018427387904:=by rw[O];exact hb
  obtain⟨R,hR⟩:∃R:Baa,R=⟨([91]++Dl true v.list++[93]).toArray⟩:=⟨_,rfl⟩
  rw[<-hR];rw[Y];generalize v.list=l at*;have U:=Aw (f:=A7) Bn l;refine Zf [0] ?_
  (have z:=U;push_cast[z]<;>repeat' (first|apply Zi<;>intro _|exact Zo|with_reducible apply Za)<;>push_cast[z])
  refine AWp.loopI mixed Kq' (ι:=Nat×Baa) (λx=>x.1<=l.length/\x.2.data.toList++Dl (decide (x.1=0)) (l.drop x.1)=[91]++Dl true l) (λx=>⟨[(6,iD x.1),(5,sD x.2),(1,.ptr [iD 5,bD v.b,iD v.n,sD v.s,.slice (l.map A7) false,.slice (v.obj.map A8) false] 0)],[],100⟩) (λx=>l.length-x.1) (0,⟨#[91]⟩) ⟨A2w _,rfl⟩ ?_ λx hx=>?_
  ·apply Zw<;>push_cast
  ·obtain⟨i,S⟩:=x;obtain⟨g1,C⟩:=hx;simp only at*;have N:S.size+(Dl (decide (i=0)) (l.drop i)).length+1<=4611686018427387904:=by
    have:=congrArg List.length C;rw[A2a] at this;rw[A2a,<-this] at a0;exact a0
   push_cast;refine Ad (λV=>?_) (λV=>?_)
   ·have M:i<l.length:=by simpa using V
    have e1:=DU M;have hr:=a8 i M;have w1:IntKind.i64.wrap (↑i+1)=↑i+1:=A9 Om Om;rw[WH M] at C N;generalize l.getD i zV=x at*;have hz:(⟨(CP x).toArray⟩:Baa).size=(CP x).length:=by show(CP x).toArray.size=_;simp
    have hd:(⟨(CP x).toArray⟩:Baa).data.toList=CP x:=Sq';generalize CP x=T at*;generalize(⟨T.toArray⟩:Baa)=E at*;rcases A2K i with h0|h0
    ·subst h0;rw[if_pos rfl] at C N;simp only[A2a,A2r] at N
     (have z:=Za e1 U;push_cast[z]<;>repeat' (first|apply Zi<;>intro _|refine Zc (hr ..) ?_|exact Zo|with_reducible apply Za)<;>push_cast[z])<;>try omega
     refine⟨(1,S++E),⟨M,by rw[Dv,hd,A2c];exact C⟩,by simp only;omega,?_⟩;apply Zw<;>push_cast;all_goals first|exact w1|skip
    ·rw[if_neg Om] at C N;simp only[A2a,A2l,A2r] at N;have b1:decide ((0:Int)<i)=true:=Dt';have z1:(⟨#[44]⟩:Baa).size=1:=rfl
     (have z:=Za e1<|Za U<|Za b1<|Za z1 @ByteArray.size_append;push_cast[z]<;>repeat' (first|apply Zi<;>intro _|refine Zc (hr ..) ?_|exact Zo|with_reducible apply Za)<;>push_cast[z])<;>try omega
     refine⟨(i+1,S++⟨#[44]⟩++E),⟨M,by rw[Dv,Dv,hd,A2c,A2c];exact C⟩,by simp only;omega,?_⟩;apply Zw<;>push_cast;all_goals first|exact w1|skip
   ·have M:i=l.length:=by simp at V;omega
    subst M;rw[List.drop_length] at C;have g3:S.data.toList=[91]++Dl true l:=by rw[<-C];cases decide (l.length=0)<;>simp [Dl]
    have e:(⟨([91]++Dl true l++[93]).toArray⟩:Baa)=S++⟨#[93]⟩:=by
     rw[<-g3];apply ByteArray.ext;apply Array.ext';rw[A3Y,A45]
    have z1:(⟨#[93]⟩:Baa).size=1:=rfl;rw[hR.trans e]
    (have z:=Za U z1;push_cast[z]<;>repeat' (first|apply Zi<;>intro _|exact Zo|with_reducible apply Za)<;>push_cast[z])<;>try omega
 ·have k6:v.kind=6:=Om;rw[if_neg Y] at O|-;have a8:∀i,i<v.obj.length->A0 prog 60 [.agg (A7 (v.obj.getD i zM).2)] (.val (.string ⟨(CP (v.obj.getD i zM).2).toArray⟩))/\A0 prog 96 [.val (.string (v.obj.getD i zM).1)] (.tup [sD (Dk (v.obj.getD i zM).1),iD 0]):=λi hi=>by
   have a9:=JV (v5 k6) _ (Ae (d:=zM) hi);refine⟨Xc _ (d+1) a9.1 (hs.obj _ (Ae hi)) ?_,?_⟩
   ·rw[Ep,if_neg Z,if_neg k2,if_neg k3,if_neg k4,if_neg Y,if_pos k6] at hb;have:=(KJ hi).1;have h2:=(KJ hi).2;rw[show v.obj[i]=v.obj.getD i zM by rw[A29,A2f hi];rfl] at this;omega
   ·have:=YG (v.obj.getD i zM).1 (hs.key _ (Ae hi));rw[a9.2,if_pos rfl] at this;exact this
  have a0:([123]++Dm true v.obj++[125]).length<=4611686018427387904:=by rw[O];exact hb
  obtain⟨R,hR⟩:∃R:Baa,R=⟨([123]++Dm true v.obj++[125]).toArray⟩:=⟨_,rfl⟩
  rw[<-hR];rw[k6];generalize v.obj=l at*;have U:=Aw (f:=A8) Ap l;refine Zf [0] ?_
  (have z:=U;push_cast[z]<;>repeat' (first|apply Zi<;>intro _|exact Zo|with_reducible apply Za)<;>push_cast[z])
  refine AWp.loopI mixed Kq' (ι:=Nat×Baa) (λx=>x.1<=l.length/\x.2.data.toList++Dm (decide (x.1=0)) (l.drop x.1)=[123]++Dm true l) (λx=>⟨[(8,iD x.1),(7,sD x.2),(1,.ptr [iD 6,bD v.b,iD v.n,sD v.s,.slice (v.list.map A7) false,.slice (l.map A8) false] 0)],[],100⟩) (λx=>l.length-x.1) (0,⟨#[123]⟩) ⟨A2w _,rfl⟩ ?_ λx hx=>?_
  ·apply Zw<;>push_cast
  ·obtain⟨i,S⟩:=x;obtain⟨g1,C⟩:=hx;simp only at*;have N:S.size+(Dm (decide (i=0)) (l.drop i)).length+1<=4611686018427387904:=by
    have:=congrArg List.length C;rw[A2a] at this;rw[A2a,<-this] at a0;exact a0
   push_cast;refine Ad (λV=>?_) (λV=>?_)
   ·have M:i<l.length:=by simpa using V
    have e1:=Bc M;obtain⟨hr,hq⟩:=a8 i M;have w1:IntKind.i64.wrap (↑i+1)=↑i+1:=A9 Om Om;rw[WI M] at C N;generalize l.getD i zM=x at*;obtain⟨ky,x⟩:=x;simp only at*;have hz:(⟨(CP x).toArray⟩:Baa).size=(CP x).length:=by show(CP x).toArray.size=_;simp
    have hd:(⟨(CP x).toArray⟩:Baa).data.toList=CP x:=Sq';generalize CP x=T at*;generalize(⟨T.toArray⟩:Baa)=E at*;have ad:(Dk ky).size=(Dk ky).data.toList.length:=rfl;generalize Dk ky=K at*;have z2:(⟨#[58]⟩:Baa).size=1:=rfl;rcases A2K i with h0|h0
    ·subst h0;rw[if_pos rfl] at C N;simp only[A2a,A2l,A2r] at N
     (have z:=Za e1<|Za U<|Za @Aj<|Za z2 @ByteArray.size_append;push_cast[z]<;>repeat' (first|apply Zi<;>intro _|refine Zc (hq ..) ?_|refine Zc (hr ..) ?_|exact Zo|with_reducible apply Za)<;>push_cast[z])<;>try omega
     refine⟨(1,S++K++⟨#[58]⟩++E),⟨M,by rw[Dv,Dv,Dv,hd,A2c,A2c,A2c];exact C⟩,by simp only;omega,?_⟩;apply Zw<;>push_cast;all_goals first|exact w1|skip
    ·rw[if_neg Om] at C N;simp only[A2a,A2l,A2r] at N;have b1:decide ((0:Int)<i)=true:=Dt';have z1:(⟨#[44]⟩:Baa).size=1:=rfl
     (have z:=Za e1<|Za U<|Za @Aj<|Za b1<|Za z1<|Za z2 @ByteArray.size_append;push_cast[z]<;>repeat' (first|apply Zi<;>intro _|refine Zc (hq ..) ?_|refine Zc (hr ..) ?_|exact Zo|with_reducible apply Za)<;>push_cast[z])<;>try omega
     refine⟨(i+1,S++⟨#[44]⟩++K++⟨#[58]⟩++E),⟨M,by rw[Dv,Dv,Dv,Dv,hd,A2c,A2c,A2c,A2c];exact C⟩,by simp only;omega,?_⟩;apply Zw<;>push_cast;all_goals first|exact w1|skip
   ·have M:i=l.length:=by simp at V;omega
    subst M;rw[List.drop_length] at C;have g3:S.data.toList=[123]++Dm true l:=by rw[<-C];cases decide (l.length=0)<;>simp [Dm]
    have e:(⟨([123]++Dm true l++[125]).toArray⟩:Baa)=S++⟨#[125]⟩:=by
     rw[<-g3];apply ByteArray.ext;apply Array.ext';rw[A3Y,A45]
    have z1:(⟨#[125]⟩:Baa).size=1:=rfl;rw[hR.trans e]
    (have z:=Za U z1;push_cast[z]<;>repeat' (first|apply Zi<;>intro _|exact Zo|with_reducible apply Za)<;>push_cast[z])<;>try omega
termination_by SizeOf.sizeOf v
decreasing_by
 ·exact GV.list_lt (Ae hi)
 ·exact GV.obj_lt (Ae hi)
def r_bare(v:GV):A0 prog 151 [.agg (A7 v)] (bD (!Ff v)):=by
 rw[A3];refine Zk [0] λH Hb=>?_
 (push_cast<;>repeat' (first|apply Zi<;>intro _|apply Za)<;>push_cast)
 all_goals
  clear H Hb;unfold Ff;rw[V1];generalize v.s.size=z at*;generalize v.list.length=L at*;generalize v.obj.length=O at*;generalize v.kind=k at*;generalize v.n=n at*;generalize v.b=b at*;clear v;rcases A2K z with hz|hz<;>rcases A2K L with hL|hL<;>rcases A2K O with hO|hO<;>by_cases hn:n=0<;>cases b<;>first|(simp_all;done)|(simp_all;omega)|grind
def A0M{v:GV}{d:Nat}(h1:Ff v=false)(h2:d<=64):Bb v d=if AK v.s=false then 3 else if CR v.list (d+1)≠0 then CR v.list (d+1) else Ey none v.obj (d+1):=by
 obtain⟨Z,a2,a3,a4,V,U,C⟩:=EH h1;rw[DW,if_neg (by rw[h1];decide),if_neg Om];have Y:AK bea=true:=Dq';by_cases M:v.kind=4
 ·rw[if_pos M,U Om,C Om];cases AK v.s<;>simp [CR,Ey]
 ·rw[if_neg M,V M,Y];by_cases N:v.kind=5
  ·rw[if_pos N,C Om];simp only[Ey];by_cases hc:CR v.list (d+1)=0
   ·rw[hc];rfl
   ·rw[if_neg Dq',if_pos hc]
  ·rw[if_neg N,U N];by_cases O:v.kind=6
   ·rw[if_pos O];simp[CR]
   ·rw[if_neg O,C O];simp[CR,Ey]
def r_vmay(v:GV)(d:Nat)(hd:d<=65)(hs:Sm v):A0 prog 93 [.agg (A7 v),iD d] (iD (Bb v d)):=by
 have a1:∀x,SizeOf.sizeOf x<SizeOf.sizeOf v->d+1<=65->Sm x->A0 prog 93 [.agg (A7 x),iD ((d:Int)+1)] (iD (Bb x (d+1))):=λx hx h h2=>by
  have:=r_vmay x (d+1) h h2;rwa[A3m] at this
 have a6:=hs.list_le;have a7:=hs.obj_le;have V:=r_bare v;have hV:=L8 v.s (by have:=hs.text;omega);have Y:IntKind.i64.wrap (↑d+1)=↑d+1:=A9 Om Om;rw[A3] at V|-;cases ho:Ff v with
 |true=>
  rw[ho] at V;rw[DW,if_pos ho];refine Zf [0] ?_
  (have z:=trivial;push_cast<;>repeat' (first|refine Zc V ?_|exact Zp|with_reducible apply Za)<;>push_cast)
 |false=>
  rw[ho] at V;by_cases a3:64<d
  ·rw[DW,if_neg (by rw[ho];decide),if_pos a3];have b1:decide ((64:Int)<d)=true:=Dt';refine Zf [0] ?_
   (have z:=b1;push_cast[z]<;>repeat' (first|refine Zc V ?_|exact Zo|with_reducible apply Za)<;>push_cast[z])
  ·rw[A0M ho Om];have b1:decide ((64:Int)<d)=false:=Df';cases N:AK v.s with
   |false=>
    rw[N] at hV;refine Zf [0] ?_
    (have z:=b1;push_cast[z]<;>repeat' (first|refine Zc V ?_|refine Zc hV ?_|exact Zo|with_reducible apply Za)<;>push_cast[z])
   |true=>
    rw[N] at hV;rw[if_neg Dq'];have a4:∀i,i<v.list.length->A0 prog 93 [.agg (A7 (v.list.getD i zV)),iD ((d:Int)+1)] (iD (Bb (v.list.getD i zV) (d+1))):=λi hi=>a1 _ (GV.list_lt (Ae hi)) Om (hs.list _ (Ae hi));have a5:∀i,i<v.obj.length->A0 prog 93 [.agg (A7 (v.obj.getD i zM).2),iD ((d:Int)+1)] (iD (Bb (v.obj.getD i zM).2 (d+1)))/\A0 prog 57 [.val (.string (v.obj.getD i zM).1)] (bD (AK (v.obj.getD i zM).1)):=λi hi=>⟨a1 _ (GV.obj_lt (Ae hi)) Om (hs.obj _ (Ae hi)),L8 _ (by have:=hs.key _ (Ae (d:=zM) hi);omega)⟩
    refine Zf [0] ?_
    (have z:=b1;push_cast[z]<;>repeat' (first|refine Zc V ?_|refine Zc hV ?_|exact Zo|with_reducible apply Za)<;>push_cast[z])
    refine Zl (λi=>i<=v.list.length/\∀j,j<i->Bb (v.list.getD j zV) (d+1)=0) (λi=>⟨[(5,iD i),(1,iD d),(2,.ptr [iD v.kind,bD v.b,iD v.n,sD v.s,.slice (v.list.map A7) false,.slice (v.obj.map A8) false] 0)],[],400⟩) (λi=>v.list.length-i) 0 Sq' ?_ λi hi=>?_
    ·apply Zw<;>push_cast
    ·obtain⟨h1,h2⟩:=hi;push_cast;refine Ad (λZ=>?_) (λZ=>?_)
     ·have C:i<v.list.length:=by simpa using Z
      have O:=DU C;have hr:=a4 i C;have M:=Mc C h2;have w2:IntKind.i64.wrap (↑i+1)=↑i+1:=A9 Om Om;generalize hx:v.list.getD i zV=x at*;by_cases hc:Bb x (d+1)=0
      ·rw[hc] at hr
       (have z:=Za O Y;push_cast[z]<;>repeat' (first|refine Zc (hr ..) ?_|exact Zo|with_reducible apply Za)<;>push_cast[z])<;>try omega
       refine⟨i+1,⟨C,λj hj=>?_⟩,Om,?_⟩
       ·by_cases a0:j=i
        ·rw[a0,hx];exact hc
        ·exact h2 j Om
       ·apply Zw<;>push_cast;all_goals first|exact w2|skip
      ·have b3:(Bb x (d+1) !=0)=true:=by simpa using hc
       rw[M hc,if_pos hc];generalize Bb x (d+1)=c at*
       (have z:=Za O<|Za Y b3;push_cast[z]<;>repeat' (first|refine Zc (hr ..) ?_|exact Zo|with_reducible apply Za)<;>push_cast[z])<;>try omega
     ·have C:i=v.list.length:=by simp at Z;omega
      subst C;rw[Md h2,if_neg Dq']
      (push_cast<;>repeat' (first|exact Zp|with_reducible apply Za)<;>push_cast)
      refine AWp.loopI mixed Kq' (ι:=Nat×Baa) (λx=>x.1<=v.obj.length/\(0<x.1->x.2=(v.obj.getD (x.1-1) zM).1)/\∀j,j<x.1->D7 none v.obj (d+1) j=0) (λx=>⟨[(8,iD x.1),(7,sD x.2),(1,iD d),(2,.ptr [iD v.kind,bD v.b,iD v.n,sD v.s,.slice (v.list.map A7) false,.slice (v.obj.map A8) false] 0)],[],600⟩) (λx=>v.obj.length-x.1) (0,⟨#[]⟩) ⟨A2w _,λh=>absurd h (Nat.lt_irrefl 0),λj hj=>absurd hj (Nat.not_lt_zero j)⟩ ?_ λx hx=>?_
      ·apply Zw<;>push_cast
      ·obtain⟨i,q⟩:=x;obtain⟨h1,hq,h2⟩:=hx;simp only at*;push_cast;refine Ad (λZ=>?_) (λZ=>?_)
       ·have C:i<v.obj.length:=by simpa using Z
        have O:=Bc C;obtain⟨hr,U⟩:=a5 i C;have M:=Me C h2;have w2:IntKind.i64.wrap (↑i+1)=↑i+1:=A9 Om Om;have a2:D7 none v.obj (d+1) i=0->∀j,j<i+1->D7 none v.obj (d+1) j=0:=λh j hj=>by
         by_cases a0:j=i
         ·rw[a0];exact h
         ·exact h2 j Om
        have a8:∀ {k:Baa},k=(v.obj.getD i zM).1->(0<i+1->k=(v.obj.getD (i+1-1) zM).1):=λh _=>h;cases N:AK (v.obj.getD i zM).1 with
        |false=>
         rw[N] at U;have e2:D7 none v.obj (d+1) i=3:=by
          rcases A2K i with hz|hz
          ·subst hz;rw[SL,N];rfl
          ·rw[SK _ _ _ hz,N];rfl
         rw[e2] at M;rw[M Dq']
         (have z:=Za O @Aj;push_cast[z]<;>repeat' (first|refine Zc U ?_|exact Zo|with_reducible apply Za)<;>push_cast[z])<;>try omega
        |true=>
         rw[N] at U;rcases A2K i with hz|hz
         ·subst hz;have e2:D7 none v.obj (d+1) 0=Bb (v.obj.getD 0 zM).2 (d+1):=by rw[SL,N];rfl
          by_cases hc:Bb (v.obj.getD 0 zM).2 (d+1)=0
          ·rw[hc] at hr
           (have z:=Za O<|Za @Aj Y;push_cast[z]<;>repeat' (first|refine Zc U ?_|refine Zc (hr ..) ?_|exact Zo|with_reducible apply Za)<;>push_cast[z])<;>try omega
           refine⟨(1,(v.obj.getD 0 zM).1),⟨C,λ_=>rfl,a2 (by rw[e2];exact hc)⟩,by simp only;omega,?_⟩;apply Zw<;>push_cast;all_goals first|exact w2|skip
          ·rw[e2] at M;have b3:(Bb (v.obj.getD 0 zM).2 (d+1) !=0)=true:=by simpa using hc
           rw[M hc];generalize Bb (v.obj.getD 0 zM).2 (d+1)=c at*
           (have z:=Za O<|Za @Aj<|Za Y b3;push_cast[z]<;>repeat' (first|refine Zc U ?_|refine Zc (hr ..) ?_|exact Zo|with_reducible apply Za)<;>push_cast[z])<;>try omega
         ·have b4:decide ((0:Int)<i)=true:=Dt';have e0:=SK v.obj (d+1) i hz;rw[<-hq hz,N,if_neg Dq'] at e0;cases hlt:ltS q (v.obj.getD i zM).1 with
          |false=>
           rw[hlt,if_pos rfl] at e0;rw[e0] at M;rw[M Dq']
           (have z:=Za O<|Za @Aj<|Za Y<|Za b4 @hlt;push_cast[z]<;>repeat' (first|refine Zc U ?_|exact Zo|with_reducible apply Za)<;>push_cast[z])<;>try omega
          |true=>
           rw[hlt,if_neg Dq'] at e0;by_cases hc:Bb (v.obj.getD i zM).2 (d+1)=0
           ·rw[hc] at hr
            (have z:=Za O<|Za @Aj<|Za Y<|Za b4 @hlt;push_cast[z]<;>repeat' (first|refine Zc U ?_|refine Zc (hr ..) ?_|exact Zo|with_reducible apply Za)<;>push_cast[z])<;>try omega
            refine⟨(i+1,(v.obj.getD i zM).1),⟨C,λ_=>rfl,a2 (by rw[e0];exact hc)⟩,by simp only;omega,?_⟩;apply Zw<;>push_cast;all_goals first|exact w2|skip
           ·rw[e0] at M;have b3:(Bb (v.obj.getD i zM).2 (d+1) !=0)=true:=by simpa using hc
            rw[M hc];generalize Bb (v.obj.getD i zM).2 (d+1)=c at*
            (have z:=Za O<|Za @Aj<|Za Y<|Za b3<|Za b4 @hlt;push_cast[z]<;>repeat' (first|refine Zc U ?_|refine Zc (hr ..) ?_|exact Zo|with_reducible apply Za)<;>push_cast[z])<;>try omega
       ·have C:i=v.obj.length:=by simp at Z;omega
        subst C;rw[Mf h2]
        (push_cast<;>repeat' (first|exact Zp|with_reducible apply Za)<;>push_cast)
termination_by SizeOf.sizeOf v
def r_vMay(v:GV)(hs:Sm v):A0 prog 58 [.agg (A7 v)] (iD (Bb v 1)):=by
 have h:A0 prog 93 [.agg (A7 v),iD 1] (iD (Bb v 1)):=r_vmay v 1 Om hs;rw[A3] at h|-;refine Zf [0] ?_
 (have z:=trivial;push_cast<;>repeat' (first|refine Zc h ?_|apply Za)<;>push_cast)
end Go.Ab
