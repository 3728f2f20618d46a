/- The layer by which the program is walked, and what its functions do: part 12 of 15. -/
import Derived.Test.YtiobcncfjaoniaaGreatDoorV10
set_option maxHeartbeats 4000000
set_option maxRecDepth 20000
set_option linter.unusedVariables false
set_option linter.unusedSimpArgs false
set_option linter.unnecessarySimpa false
namespace Go.Proofs
open Go.Ab Go.Proofs Go.Proofs.Tryz Go.RowKit Go.Shelf
attribute [local go_sem] Oper.semAt_some
def WJ(n:Nat):UInt8:=if n<10 then(48+n).toUInt8 else(87+n).toUInt8
def Lh(l:List UInt8):List UInt8:=
 if 32<=(Lib.decodeL l).1/\(Lib.decodeL l).1≠34/\(Lib.decodeL l).1≠92 then Lib.encodeRune (Lib.decodeL l).1
 else match HQ (Lib.decodeL l).1 with
  |some c=>[92,c]
  |none=>[92,117,48,48,WJ ((Lib.decodeL l).1/16),WJ ((Lib.decodeL l).1%16)]
def FB:Nat->List UInt8->List UInt8
 |0,_=>[]
 |n+1,l=>if l=[] then [] else Lh l++FB n (l.drop (Lib.decodeL l).2)
theorem Gn(n:Nat):FB n []=[]:=by cases n<;>simp [FB]
theorem JK:∀ (n m:Nat) (l:List UInt8),l.length<=n->l.length<=m->FB n l=FB m l
 |0,m,l,h,_=>by
  have:l=[]:=A0U.1 (by omega)
  subst this;rw[Gn,Gn]
 |n+1,0,l,_,h=>by
  have:l=[]:=A0U.1 (by omega)
  subst this;rw[Gn,Gn]
 |n+1,m+1,l,h,k=>by
  simp only[FB]
  have h1:=Lib.decodeL_width l
  split
  ·rfl
  ·rename_i hn
   have:0<l.length:=A1J.2 hn
   rw[JK n m _ (by rw[A0s];omega) (by rw[A0s];omega)]
theorem W4(l:List UInt8)(h:l≠[]):FB l.length l=Lh l++FB (l.drop (Lib.decodeL l).2).length (l.drop (Lib.decodeL l).2):=by
 have h1:=Lib.decodeL_width l
 have h2:0<l.length:=A1J.2 h
 rw[JK l.length (l.length-1+1) l (by omega) (by omega)]
 simp only[FB,if_neg h]
 rw[JK (l.length-1) (l.drop (Lib.decodeL l).2).length _ (by rw[A0s];omega) (by omega)]
theorem N1(l:List UInt8)(h:l≠[])(hv:¬((Lib.decodeL l).1=65533/\(Lib.decodeL l).2=1)):(Lh l).length=Kn (Lib.decodeL l):=by
 have e:=Lib.encode_decode l h hv
 have hl:=Lib.decodeL_le l h
 unfold Lh Kn
 generalize Lib.decodeL l=x at*
 obtain⟨r,wd⟩:=x
 simp only at*
 by_cases c:32<=r/\r≠34/\r≠92
 ·rw[if_pos c,e,A0C,if_neg (by omega),if_neg (by omega)]
  omega
 ·rw[if_neg c]
  unfold HQ
  repeat' split
  all_goals first
   |rfl
   |(exfalso;simp_all;done)
   |(exfalso;omega)
   |skip
  all_goals
   rename_i hq hr
   rcases hr with rfl|rfl|rfl|rfl|rfl|rfl|rfl<;>simp at hq
theorem Rl:∀ (n:Nat) (l:List UInt8),l.length<=n->Lib.validD l=true->(FB n l).length=Hm n l
 |0,l,_,_=>rfl
 |n+1,l,h,hv=>by
  simp only[FB,Hm]
  split
  ·rfl
  ·rename_i hn
   rw[Lib.validD_step l hn] at hv
   split at hv
   ·cases hv
   ·rename_i hc
    have h1:=Lib.decodeL_width l
    have h2:0<l.length:=A1J.2 hn
    rw[A04,N1 l hn hc,Rl n _ (by rw[A0s];omega) hv]
def FA(s:ByteArray):ByteArray:=if AH s=true then⟨([34]++FB s.data.toList.length s.data.toList++[34]).toArray⟩ else ByteArray.empty
theorem N5(s:ByteArray):(FA s).size=Lp s:=by
 unfold FA Lp
 split
 ·rename_i h
  show([34]++FB s.data.toList.length s.data.toList++[34]).toArray.size=_
  rw[A0y,A04,A04,Rl _ _ (A08 _) h]
  simp;omega
 ·rfl
def CI(W W':World):Prop:=∀ (k:Nat) (o:Obj),W.heap[k]? =some o->(∀ r,o≠Obj.loop r)->W'.heap[k]? =some o
theorem CI.below{W W':World}(h:Below W.heap.size W W'):CI W W':=fun k o hk _=>(h.block k (A0l.1 hk).1).trans hk
theorem CI.put{W:World}{l:Nat}{r:Loop}(o':Obj)(h:W.heap[l]? =some (Obj.loop r)):CI W (W.putObj l o'):=fun k o hk ho=>(World.putObj_heap_other (fun e=>by subst e;rw[h] at hk;exact ho r (Option.some.inj hk).symm)).trans hk
theorem Gp{W W':World}(hk:CI W W'){B:Nat}{e:TypeId}{v:Value}{n:Nat}{xs:List Value}(h:W.ownsRowF B e 1 v n xs):W'.ownsRowF B e 1 v n xs:=by
 refine⟨h.1,?_⟩
 rcases h.2 with hn|⟨g,cap,cur,fz,hv,hbg,hg,rest⟩
 ·exact .inl hn
 ·exact .inr ⟨g,cap,cur,fz,hv,hbg,hk g _ hg (fun r e=>by cases e),rest⟩
theorem Kb{W W':World}(hk:CI W W'){B b:Nat}{l:List UInt8}(h:Tryz.bld B b l W):Tryz.bld B b l W':=by
 rcases h with⟨hB,v,hb,ho,hne⟩|⟨hB,v,hb,ho,hne⟩
 ·exact .inl ⟨hB,v,hk _ _ hb (fun r e=>by cases e),Gp hk ho,hne⟩
 ·exact .inr ⟨hB,v,hk _ _ hb (fun r e=>by cases e),Gp hk ho,hne⟩
theorem TC{W W':World}(hk:CI W W'){m:Nat}(h:LQ m W):LQ m W':=by
 obtain⟨es,c,hb,rest⟩:=h
 exact⟨es,c,hk _ _ hb (fun r e=>by cases e),rest⟩
theorem Wx{W W':World}{b:Nat}(hk:Lib.OthersKept 5 (some b) W W'){m:Nat}(hm:m≠b)(h:LQ m W):LQ m W':=by
 obtain⟨es,c,hb,rest⟩:=h
 exact⟨es,c,hk _ _ hb (fun e=>hm (Option.some.inj e)) (fun _ _ e=>by cases e),rest⟩
theorem D5{B b:Nat}{l:List UInt8}{W:World}(h:Tryz.bld B b l W):b<W.heap.size:=by
 rcases h with⟨_,v,hb,_⟩|⟨_,v,hb,_⟩<;>exact (A0l.1 hb).1
theorem letM_ne{B b:Nat}{l:List UInt8}{W:World}{m:Nat}(h:Tryz.bld B b l W)(hm:LQ m W):m≠b:=by
 obtain⟨es,c,hb,_⟩:=hm
 rcases h with⟨_,v,hb2,_⟩|⟨_,v,hb2,_⟩<;>(intro e;subst e;rw[hb] at hb2;cases hb2)
theorem Kd{W W':World}{b b4:Nat}{l:List UInt8}{B:Nat}(hB:Tryz.bld B b l W)(hk:Lib.OthersKept 5 (some b) W W')(h4:b4≠b){v:Value}(h:W.heap[b4]? =some (.cells #[v] 264 (0,0))):W'.heap[b4]? =some (.cells #[v] 264 (0,0)):=
 hk _ _ h (fun e=>h4 (Option.some.inj e)) (fun _ _ e=>by simp at e)
theorem box_kept{W W':World}{b bx:Nat}(hk:Lib.OthersKept 5 (some b) W W')(hx:bx≠b){v:Value}(h:W.heap[bx]? =some (.cells #[v] 9 (0,0))):W'.heap[bx]? =some (.cells #[v] 9 (0,0)):=
 hk _ _ h (fun e=>hx (Option.some.inj e)) (fun _ _ e=>by simp at e)
theorem Kr{W W':World}{b:Nat}{l:List UInt8}{B:Nat}(hB:Tryz.bld B b l W)(hb:Below B W W')(hk:Lib.OthersKept 5 (some b) W W'):KeepsOthers W W':=
 ⟨hb.size,fun k o hk2 ho=>hk k o hk2 (fun e=>by
  cases e
  rcases hB with⟨_,v,hb2,_⟩|⟨_,v,hb2,_⟩<;>(rw[hk2] at hb2;cases hb2;cases ho)) (fun _ _ e=>by subst e;cases ho)⟩
def MapC(b4:Nat)(W:World):Prop:=W.heap[b4]? =some (.cells #[.map none] 264 (0,0))∨∃ m,W.heap[b4]? =some (.cells #[.map (some m)] 264 (0,0))/\LQ m W
theorem MapC.keepL{W W':World}(hk:CI W W'){b4:Nat}(h:MapC b4 W):MapC b4 W':=by
 rcases h with h|⟨m,h1,h2⟩
 ·exact .inl (hk _ _ h (fun r e=>by cases e))
 ·exact .inr ⟨m,hk _ _ h1 (fun r e=>by cases e),TC hk h2⟩
theorem BV{W W':World}(hk:CI W W'){b:Nat}{v:Value}{T:TypeId}(h:W.heap[b]? =some (.cells #[v] T (0,0))):W'.heap[b]? =some (.cells #[v] T (0,0)):=hk _ _ h (fun r e=>by cases e)
structure Qu(s:ByteArray)(w0:World)(b4 b bx:Nat)(p:Nat)(W:World):Prop where
 text:∃ acc:List UInt8,Tryz.bld b b acc W/\[34]++FB s.data.toList.length s.data.toList=acc++FB (s.data.toList.drop p).length (s.data.toList.drop p)/\acc.length<=6*p+1
 below:Below w0.heap.size w0 W
 blt:w0.heap.size<=b
 ne4:b4≠b
 nex:bx≠b
 box:W.heap[bx]? =some (.cells #[.string s] 9 (0,0))
 map:MapC b4 W
 le:p<=s.size
 ok:Lib.validD (s.data.toList.drop p)=true
theorem Qu.keepL{s:ByteArray}{w0:World}{b4 b bx p:Nat}{W W':World}(h:Qu s w0 b4 b bx p W)(hk:CI W W')(hb:Below w0.heap.size w0 W'):Qu s w0 b4 b bx p W':=by
 obtain⟨⟨acc,h1,h2,h3⟩,h4,q1,q2,q3,h5,h6,h7,h8⟩:=h
 exact⟨⟨acc,Kb hk h1,h2,h3⟩,hb,q1,q2,q3,BV hk h5,h6.keepL hk,h7,h8⟩
structure MH(s:ByteArray)(w0:World)(b4 b bx:Nat)(W:World)(acc:List UInt8)(W':World):Prop where
 bld:Tryz.bld b b acc W'
 below:Below w0.heap.size w0 W'
 blt:w0.heap.size<=b
 ne4:b4≠b
 nex:bx≠b
 box:W'.heap[bx]? =some (.cells #[.string s] 9 (0,0))
 map:MapC b4 W'
 keep:KeepsOthers W W'
theorem Qu.start{s:ByteArray}{w0:World}{b4 b bx p:Nat}{W:World}(h:Qu s w0 b4 b bx p W):∃ acc:List UInt8,MH s w0 b4 b bx W acc W/\[34]++FB s.data.toList.length s.data.toList=acc++FB (s.data.toList.drop p).length (s.data.toList.drop p)/\acc.length<=6*p+1:=by
 obtain⟨⟨acc,h1,h2,h3⟩,h4,q1,q2,q3,h5,h6,h7,h8⟩:=h
 exact⟨acc,⟨h1,h4,q1,q2,q3,h5,h6,KeepsOthers.refl _⟩,h2,h3⟩
theorem MH.write{s:ByteArray}{w0:World}{b4 b bx:Nat}{W W1 W2:World}{acc acc':List UInt8}(h:MH s w0 b4 b bx W acc W1)(hB:Tryz.bld b b acc' W2)(hb:Below b W1 W2)(hk:Lib.OthersKept 5 (some b) W1 W2):MH s w0 b4 b bx W acc' W2:=by
 obtain⟨h1,h2,h3,h4,h5,h6,h7,h8⟩:=h
 refine⟨hB,h2.trans (hb.mono h3),h3,h4,h5,box_kept hk h5 h6,?_,h8.trans (Kr h1 hb hk)⟩
 rcases h7 with h7|⟨m,m1,m2⟩
 ·exact .inl (Kd h1 hk h4 h7)
 ·exact .inr ⟨m,Kd h1 hk h4 m1,Wx hk (letM_ne h1 m2) m2⟩
theorem MH.letters{s:ByteArray}{w0:World}{b4 b bx:Nat}{W W1 W2:World}{acc:List UInt8}(h:MH s w0 b4 b bx W acc W1)(h0:W1.heap[b4]? =some (.cells #[.map none] 264 (0,0)))(hb:Below W1.heap.size W1 W2){m:Nat}(hm:LQ m W2)(hx:bx≠b4)(hw4:w0.heap.size<=b4):
  MH s w0 b4 b bx W acc (W2.setCell ⟨b4,0,none⟩ (.map (some m)))/\(W2.setCell ⟨b4,0,none⟩ (.map (some m))).heap[b4]? =some (.cells #[.map (some m)] 264 (0,0))/\LQ m (W2.setCell ⟨b4,0,none⟩ (.map (some m))):=by
 obtain⟨h1,h2,h3,h4,h5,h6,h7,h8⟩:=h
 have hk:=CI.below hb
 have e4:W2.heap[b4]? =some (.cells #[.map none] 264 (0,0)):=BV hk h0
 have o:∀ k,k≠b4->(W2.setCell ⟨b4,0,none⟩ (.map (some m))).heap[k]? =W2.heap[k]?:=fun k h=>Below.heap_setCell _ _ _ _ h
 have n4:(W2.setCell ⟨b4,0,none⟩ (.map (some m))).heap[b4]? =some (.cells #[.map (some m)] 264 (0,0)):=by
  simp[World.setCell,Array.getElem?_modify,e4]
 have hm':LQ m (W2.setCell ⟨b4,0,none⟩ (.map (some m))):=by
  obtain⟨es,c,hh,rest⟩:=hm
  exact⟨es,c,(o m (fun e=>by subst e;rw[hh] at e4;cases e4)).trans hh,rest⟩
 refine⟨⟨?_,?_,h3,h4,h5,(o _ hx).trans (BV hk h6),.inr ⟨m,n4,hm'⟩,?_⟩,n4,hm'⟩
 ·have hB:=Kb hk h1
  have hgb:∀ {v:Value} {l:List Value},W2.ownsRowF b 5 1 v l.length l->(W2.setCell ⟨b4,0,none⟩ (.map (some m))).ownsRowF b 5 1 v l.length l:=fun {v l} ho=>by
   refine⟨ho.1,?_⟩
   rcases ho.2 with hn|⟨g,cap,cur,fz,hv,hbg,hg,rest⟩
   ·exact .inl hn
   ·exact .inr ⟨g,cap,cur,fz,hv,hbg,(o g (fun e=>by subst e;rw[hg] at e4;simp at e4)).trans hg,rest⟩
  rcases hB with⟨hB,v,hb,ho,hne⟩|⟨hB,v,hb,ho,hne⟩
  ·exact .inl ⟨hB,v,(o b (fun e=>h4 e.symm)).trans hb,hgb ho,hne⟩
  ·exact .inr ⟨hB,v,(o b (fun e=>h4 e.symm)).trans hb,hgb ho,hne⟩
 ·exact(h2.trans (hb.mono h2.size)).setCell (p:=⟨b4,0,none⟩) hw4 _
 ·exact(h8.trans ⟨hb.size,fun k o hk2 _=>(hb.block k (A0l.1 hk2).1).trans hk2⟩).trans (KeepsOthers.setCell _ _ _)
theorem MH.next{s:ByteArray}{w0:World}{b4 b bx p:Nat}{W W':World}{acc:List UInt8}(hp:p<s.size)(hv:Lib.validD (s.data.toList.drop p)=true)(e:[34]++FB s.data.toList.length s.data.toList=acc++FB (s.data.toList.drop p).length (s.data.toList.drop p))(hl:acc.length<=6*p+1){x:List UInt8}(hx:x=Lh (s.data.toList.drop p))(h:MH s w0 b4 b bx W (acc++x) W'):KeepsOthers W W'/\Qu s w0 b4 b bx (p+(rnA s p).2) W':=by
 obtain⟨v1,v2,v3,v4,v5⟩:=Yc hp hv
 subst hx
 obtain⟨h1,h2,h3,h4,h5,h6,h7,h8⟩:=h
 refine⟨h8,⟨⟨_,h1,?_,?_⟩,h2,h3,h4,h5,h6,h7,v3,v2⟩⟩
 ·rw[e,W4 _ (KT hp),List.drop_drop,A0c]
  rfl
 ·rw[A04,N1 _ (KT hp) v1]
  have:=(Lg (s.data.toList.drop p)).2
  unfold rnA at*
  omega
theorem Nw{m:Nat}{W:World}(h:LQ m W)(r:Nat)(hr:r<=1114111):∃ c:Int,(Instr.lookup 264 (.map (some m)) (.int .i32 r) true).run prog W=.ok (.tuple #[.int .i32 c,.bool (HQ r).isSome]) W/\∀ b,HQ r=some b->c=b.toNat:=by
 have hw:(Lit.int .i32 r).wf=true:=by simp[Lit.wf,IntKind.min,IntKind.max,IntKind.bits,IntKind.signed];omega
 obtain⟨v,ps,hrun,hv⟩:=h.look_ok (Maps.int_keyed underlying21) underlying264 (zeroValue21 W) (plainElem_int underlying21 (q:=.i32) (a:=0) (by decide)) (Maps.keyOf_int_mk underlying21 hw)
 obtain⟨c,rfl,hc,hwc⟩:=plainElem_int_inv underlying21 hv
 rw[ZA] at hrun
 exact⟨c,hrun,fun b hb=>letD_at r c (congrArg Prod.fst hc) b hb⟩
theorem V5(m:Option Nat)(w:World):(binOp .eql 264 (.map m) (.map none)).run prog w=.ok (.bool m.isNone) w:=by
 have h:(Op.equal 264 (.map m) (.map none)).run prog w=.ok m.isNone w:=FX (P:=prog) (w:=w) 9999 underlying264 m
 simp only[binOp,A0e,h,Result.andThen,A0k]
theorem and_15{r:Nat}(h:r<32):bits BinOp.and IntKind.i32 (r:Int) 15=((r%16:Nat):Int):=by
 have key:∀ i:Fin 32,bits BinOp.and IntKind.i32 (i.val:Int) 15=((i.val%16:Nat):Int):=by decide
 exact key ⟨r,h⟩
theorem PT{i:Nat}(h:i<16)(h2:i<(⟨#[48,49,50,51,52,53,54,55,56,57,97,98,99,100,101,102]⟩:ByteArray).size):(⟨#[48,49,50,51,52,53,54,55,56,57,97,98,99,100,101,102]⟩:ByteArray)[i]'h2=WJ i:=by
 have key:∀ i:Fin 16,(⟨#[48,49,50,51,52,53,54,55,56,57,97,98,99,100,101,102]⟩:ByteArray)[i.val]'(by show i.val<16;exact i.isLt)=WJ i.val:=by decide
 exact key ⟨i,h⟩
theorem RC{r:Nat}{b:UInt8}(h:HQ r=some b):Lib.encodeRune b.toNat=[b]/\b.toNat<=127:=by
 unfold HQ at h
 repeat' split at h
 all_goals first
  |(cases h;exact⟨by decide,by decide⟩)
  |cases h
theorem Nx{r:Nat}(h:HQ r=none)(hs:¬(32<=r/\r≠34/\r≠92)):r<32:=by
 unfold HQ at h
 repeat' split at h
 all_goals first
  |(cases h;done)
  |omega
set_option maxHeartbeats 1000000 in
theorem c_valid(n:Nat)(s:ByteArray)(w:World)(hs:s.size<=1048576)(hT:Lib.Utf8Tabs (Tryz.sValid_ren.g 3) (Tryz.sValid_ren.g 4) w):
  CallsIn Fence.wide n prog 108 #[.string s] w fun e w'=>e=.returned (.bool (AH s))/\Below w.heap.size w w':=by
 have hV:=Any.utf8_ValidString Tryz.sValid s w (A0M hs (by decide)) hT
 refine callsIn_of_wp func108 rfl trivial ?_
 simp only[ntmps108,A0y,A0g,A0v,Nat.reduceAdd,Nat.reduceSub,A1q,A1r,A1C,A1b,A0h,A0d]
 gi_wp2
 refine⟨trivial,fun h=>(by cases h),(callsIn_wide.2 hV).mono ?_⟩
 rintro e w2 ⟨rfl,hb⟩
 gi_wp2
 go_ret
 exact⟨rfl,hb⟩
attribute [local go_sem] Oper.semAt_some
set_option maxRecDepth 100000 in
set_option maxHeartbeats 4000000 in
theorem w_Quote(n:Nat)(s:ByteArray)(hs:s.size<=1048576)(w0:World)(hT:∀ W,Below w0.heap.size w0 W->Lib.Utf8Tabs (Tryz.sDecode_ren.g 3) (Tryz.sDecode_ren.g 4) W)(hT2:Lib.Utf8Tabs (Tryz.sValid_ren.g 3) (Tryz.sValid_ren.g 4) w0):
  CallsIn Fence.wide n prog 112 #[.string s] w0 fun e w'=>e=.returned (.tuple #[.string (FA s),.int .i64 (if AH s=true then 0 else 3)])/\Below w0.heap.size w0 w':=by
 obtain⟨cd,hcd⟩:∃ cd:Int,cd=(if AH s=true then 0 else 3):=⟨_,rfl⟩
 rw[<-hcd]
 have hV:=c_valid (n-1) s w0 hs hT2
 refine callsIn_of_wp_marks func112 rfl trivial ?_
 simp only[ntmps112,A0y,A0g,A0v,Nat.reduceAdd,Nat.reduceSub,A1q,A1r,A1C,A1b,A0h,A0d]
 gi_wp2
 refine⟨trivial,fun h=>(by cases h),hV.mono ?_⟩
 rintro e w1 ⟨rfl,hb1⟩
 cases hv:AH s with
 |false=>
  rw[if_neg (by rw[hv];decide)] at hcd
  subst hcd
  gi_wp2
  refine⟨_,results_tmp2 rfl _ _ _,?_,hb1⟩
  simp[FA,hv]
  rfl
 |true=>
  rw[if_pos hv] at hcd
  subst hcd
  gi_wp2
  have hB0:Tryz.bld (w1.heap.size+1) (w1.heap.size+1) [] ((w1.alloc (.cells #[.map none] 264)).alloc (.cells #[.pointer none,.slice none 0 0] 90)):=by
   have:=Lib.IsBuilderF.of (Lib.fresh_isBuilder 90 5 (w1.alloc (.cells #[.map none] 264)))
   rwa[World.size_alloc] at this
  have hlo:w0.heap.size<=w1.heap.size:=hb1.size
  have e4:((w1.alloc (.cells #[.map none] 264)).alloc (.cells #[.pointer none,.slice none 0 0] 90)).heap[w1.heap.size]? =some (.cells #[.map none] 264 (0,0)):=
   (Below.heap_alloc _ _ _ (by simp)).trans (World.alloc_heap_new w1 _)
  have hb2:Below w0.heap.size w0 ((w1.alloc (.cells #[.map none] 264)).alloc (.cells #[.pointer none,.slice none 0 0] 90)):=(hb1.alloc (by omega) _).alloc (by simp;omega) _
  generalize(w1.alloc (.cells #[.map none] 264)).alloc (.cells #[.pointer none,.slice none 0 0] 90)=w2 at*
  obtain⟨b4,hb4⟩:∃ b4,b4=w1.heap.size:=⟨_,rfl⟩
  obtain⟨b,hbb⟩:∃ b,b=w1.heap.size+1:=⟨_,rfl⟩
  rw[<-hbb] at hB0|-
  rw[<-hb4] at hlo hbb e4|-
  clear hb4
  refine⟨trivial,fun h=>(by cases h),(callsIn_wide.2 (Tryz.bWb b b [] 34 w2 hB0 (by simp) (by have:=D5 hB0;omega))).mono ?_⟩
  rintro e w3 ⟨rfl,hB3,bb3,kk3⟩
  have f4:=Kd hB0 kk3 (by omega) e4
  have hb3:Below w0.heap.size w0 w3:=hb2.trans (bb3.mono (by omega))
  gi_wp2
  refine⟨trivial,fun h=>(by cases h),(Vc (n-1) s w3).mono ?_⟩
  rintro e w4 ⟨rfl,hw4⟩
  obtain⟨bx,hbx⟩:∃ bx,bx=w3.heap.size:=⟨_,rfl⟩
  have hbl:=D5 hB3
  have k4:CI w3 w4:=by subst hw4;exact CI.below ((Below.refl _ _).alloc (A08 _) _)
  have hb4:Below w0.heap.size w0 w4:=by subst hw4;exact hb3.alloc hb3.size _
  have hx4:w4.heap[bx]? =some (.cells #[.string s] 9 (0,0)):=by subst hw4;rw[hbx];exact World.alloc_heap_new w3 _
  rw[<-hbx]
  have hI:Qu s w0 b4 b bx 0 w4:=⟨⟨[34],Kb k4 hB3,by rw[List.drop_zero],by simp⟩,hb4,by omega,by omega,by omega,hx4,.inl (BV k4 f4),A0J _,by rw[List.drop_zero];exact hv⟩
  have hbx4:bx≠b4:=by omega
  clear hw4 hbx
  subst hbb
  gi_wp2
  refine XF (σ:=Nat) (gf:=221) (lb:=#[.pointer (some ⟨bx,0,none⟩)]) rfl (enters_of func221 (by kernel_rfl) rfl) (c_runes1 (n-1) s hs bx w0 hT) (fun _=>rfl) (Qu s w0 b4 (b4+1) bx)
   (fun p W h=>⟨h.below,by simp[World.cell?,h.box],h.le,h.ok⟩)
   (fun p W W' h hb=>h.keepL (CI.below hb) (h.below.trans (hb.mono h.below.size)))
   (fun p W l r o hl hr h=>h.keepL (CI.put o hr) (h.below.trans ((Below.refl _ W).grown (grownBy_putObj' W l o) (by have:=h.below.size;omega) (fun k e=>by cases e;have:=hb4.size;omega))))
   hI
   (fun p=> {tmps:=#[.string s,undef,.string ⟨#[]⟩,.int .i64 0,.pointer (some ⟨b4,0,none⟩),.pointer (some ⟨b4+1,0,none⟩),undef,.int .i32 (rnA s p).1,undef,undef,.string s,.bool true,.bool false,.nilIface,.string s,
    .func (.func 221) #[] #[.pointer (some ⟨bx,0,none⟩)],.int .i64 p,.int .i32 (rnA s p).1,undef,undef,undef,undef,undef,undef,undef,undef,undef,undef,undef,undef,undef,undef,undef,undef,undef,undef,undef,undef,undef,undef,undef,undef,undef,undef,undef,undef],defers:=[]}) ?assign ?body ?done
  case assign=>
   intro l p W K hK
   unfold Lk
   gi_wp2
   exact hK
  case done=>
   intro D W hD hI hK
   obtain⟨acc,q,t1,t2⟩:=hI.start
   rw[List.drop_of_length_le (show s.data.toList.length<=s.size from A08 _),Gn,A0R] at t1
   have ql:=D5 q.bld
   refine(show Exit.inBlock 0 _ _ _ _ from ?_)
   gi_wp2
   refine⟨trivial,fun h=>(by cases h),(callsIn_wide.2 (Tryz.bWb (b4+1) (b4+1) acc 34 W q.bld (by omega) (by omega))).mono ?_⟩
   rintro e W2 ⟨rfl,B2,bb,kk⟩
   have q2:=q.write B2 bb kk
   have ql2:=D5 q2.bld
   gi_wp2
   refine⟨trivial,fun h=>(by cases h),(callsIn_wide.2 (Tryz.bSt (b4+1) (b4+1) (acc++[34]) W2 B2 (by omega))).mono ?_⟩
   rintro e W3 ⟨rfl,bb3,kk3⟩
   have hK3:=((q2.keep.trans (Kr B2 bb3 kk3))).same _ _ hK rfl
   gi_wp2
   refine⟨by simp,.inl ⟨_,_,rfl,run_takeDeferred hK3,?_⟩⟩
   refine⟨_,results_tmp2 rfl _ _ _,?_,?_⟩
   ·have e:FA s=⟨(acc++[34]).toArray⟩:=by unfold FA;rw[if_pos hv,t1]
    rw[e]
    rfl
   ·exact(q2.below.trans (bb3.mono q2.blt)).grown (grownBy_putObj' W3 D _) (by have:=q2.below.size;have:=bb3.size;omega) (fun k e=>by cases e;have:=hb4.size;omega)
  case body=>
   intro l p W hI hp
   obtain⟨acc,q,t1,t2⟩:=hI.start
   have ql:=D5 q.bld
   have hok:=hI.ok
   obtain⟨v1,v2,v3,v4,v5⟩:=Yc hp hok
   have hnx:∀ {W':World} {x:List UInt8},x=Lh (s.data.toList.drop p)->MH s w0 b4 (b4+1) bx W (acc++x) W'->KeepsOthers W W'/\Qu s w0 b4 (b4+1) bx (p+(rnA s p).2) W':=fun hx h=>MH.next hp hok t1 t2 hx h
   unfold Lh at hnx
   change ∀ {W':World} {x:List UInt8},x=(if 32<=(rnA s p).1/\(rnA s p).1≠34/\(rnA s p).1≠92 then Lib.encodeRune (rnA s p).1 else match HQ (rnA s p).1 with|some c=>[92,c]|none=>[92,117,48,48,WJ ((rnA s p).1/16),WJ ((rnA s p).1%16)])->_ at hnx
   generalize rnA s p=x at*
   obtain⟨r,wd⟩:=x
   simp only at*
   have hal:acc.length+16<=140737488355328:=by omega
   clear t1 t2 hI hok v1 v2
   gi_wp2
   refine⟨trivial,fun h=>(by cases h),CallsIn.inRound l ((Mu (n-1-1-1) r W).mono ?_)⟩
   rintro e w' ⟨rfl,rfl⟩
   by_cases st:32<=r/\r≠34/\r≠92
   ·rw[if_pos st] at hnx
    rw[decide_eq_true st]
    gi_wp2
    refine⟨trivial,fun h=>(by cases h),CallsIn.inRound l ((callsIn_wide.2 (Tryz.bWr (b4+1) (b4+1) acc r v5 w' q.bld (by omega) (by omega))).mono ?_)⟩
    rintro e W2 ⟨rfl,B2,bb,kk⟩
    gi_wp2
    exact hnx rfl (q.write B2 bb kk)
   ·rw[if_neg st] at hnx
    rw[decide_eq_false st]
    have q0:∀ w:World,(binOp .eql 264 (.map none) (.map none)).run prog w=.ok (.bool true) w:=fun w=>V5 none w
    have q1:∀ (m:Nat) (w:World),(binOp .eql 264 (.map (some m)) (.map none)).run prog w=.ok (.bool false) w:=fun m w=>V5 (some m) w
    rcases q.map with e4|⟨m,e4,hm⟩
    ·have c4:w'.cell? ⟨b4,0,none⟩=some (.map none):=by simp[World.cell?,e4]
     have z4:w'.frozen? ⟨b4,0,none⟩=false:=by simp[World.frozen?,e4]
     gi_wp2
     refine⟨trivial,fun h=>(by cases h),CallsIn.inRound l ((Xf (n-1-1-1) w').mono ?_)⟩
     rintro e W2 ⟨rfl,hm,hb⟩
     have e42:=BV (CI.below hb) e4
     have c42:W2.cell? ⟨b4,0,none⟩=some (.map none):=by simp[World.cell?,e42]
     have z42:W2.frozen? ⟨b4,0,none⟩=false:=by simp[World.frozen?,e42]
     obtain⟨q3,n4,m3⟩:=q.letters e4 hb hm hbx4 hlo
     have c43:(W2.setCell ⟨b4,0,none⟩ (.map (some w'.heap.size))).cell? ⟨b4,0,none⟩=some (.map (some w'.heap.size)):=by simp[World.cell?,n4]
     obtain⟨c,hlk,hc⟩:=Nw m3 r v5
     cases hl:HQ r with
     |some bt=>
      rw[hl] at hlk hnx
      obtain rfl:=hc bt hl
      obtain⟨le1,le2⟩:=RC hl
      simp only[Option.isSome_some] at hlk
      gi_wp2
      refine⟨trivial,fun h=>(by cases h),CallsIn.inRound l ((callsIn_wide.2 (Tryz.bWb (b4+1) (b4+1) acc 92 _ q3.bld (by omega) (by have:=D5 q3.bld;omega))).mono ?_)⟩
      rintro e W5 ⟨rfl,B5,bb5,kk5⟩
      have q5:=q3.write B5 bb5 kk5
      have l5:=D5 q5.bld
      gi_wp2
      refine⟨trivial,fun h=>(by cases h),CallsIn.inRound l ((callsIn_wide.2 (Tryz.bWr (b4+1) (b4+1) (acc++[92]) bt.toNat (by omega) _ q5.bld (by simp;omega) (by omega))).mono ?_)⟩
      rintro e W6 ⟨rfl,B6,bb6,kk6⟩
      have q6:=q5.write B6 bb6 kk6
      rw[le1,A0c] at q6
      gi_wp2
      exact hnx rfl q6
     |none=>
      rw[hl] at hlk hnx
      have hr:=Nx hl st
      have h15:=and_15 hr
      have h16:0<=bits BinOp.and IntKind.i32 (r:Int) 15/\bits BinOp.and IntKind.i32 (r:Int) 15<16:=by omega
      simp only[A1f] at hlk
      gi_wp2
      refine⟨trivial,fun h=>(by cases h),CallsIn.inRound l ((callsIn_wide.2 (Tryz.bWs (b4+1) (b4+1) acc _ _ q3.bld (by show acc.length+4<=_;omega) (by have:=D5 q3.bld;omega))).mono ?_)⟩
      rintro e W5 ⟨rfl,B5,bb5,kk5⟩
      have q5:=q3.write B5 bb5 kk5
      have l5:=D5 q5.bld
      gi_wp2
      refine⟨trivial,fun h=>(by cases h),CallsIn.inRound l ((callsIn_wide.2 (Tryz.bWb (b4+1) (b4+1) _ _ _ q5.bld (by rw[A04];show acc.length+4+1<=_;omega) (by omega))).mono ?_)⟩
      rintro e W6 ⟨rfl,B6,bb6,kk6⟩
      have q6:=q5.write B6 bb6 kk6
      have l6:=D5 q6.bld
      gi_wp2
      refine⟨trivial,fun h=>(by cases h),CallsIn.inRound l ((callsIn_wide.2 (Tryz.bWb (b4+1) (b4+1) _ _ _ q6.bld (by rw[A04,A04];show acc.length+4+1+1<=_;omega) (by omega))).mono ?_)⟩
      rintro e W7 ⟨rfl,B7,bb7,kk7⟩
      have q7:=q6.write B7 bb7 kk7
      rw[PT (by omega),PT (by omega),A0c,A0c] at q7
      gi_wp2
      refine hnx ?_ q7
      rfl
    ·have c4:w'.cell? ⟨b4,0,none⟩=some (.map (some m)):=by simp[World.cell?,e4]
     have z4:w'.frozen? ⟨b4,0,none⟩=false:=by simp[World.frozen?,e4]
     obtain⟨c,hlk,hc⟩:=Nw hm r v5
     cases hl:HQ r with
     |some bt=>
      rw[hl] at hlk hnx
      obtain rfl:=hc bt hl
      obtain⟨le1,le2⟩:=RC hl
      simp only[Option.isSome_some] at hlk
      gi_wp2
      refine⟨trivial,fun h=>(by cases h),CallsIn.inRound l ((callsIn_wide.2 (Tryz.bWb (b4+1) (b4+1) acc 92 _ q.bld (by omega) (by have:=D5 q.bld;omega))).mono ?_)⟩
      rintro e W5 ⟨rfl,B5,bb5,kk5⟩
      have q5:=q.write B5 bb5 kk5
      have l5:=D5 q5.bld
      gi_wp2
      refine⟨trivial,fun h=>(by cases h),CallsIn.inRound l ((callsIn_wide.2 (Tryz.bWr (b4+1) (b4+1) (acc++[92]) bt.toNat (by omega) _ q5.bld (by simp;omega) (by omega))).mono ?_)⟩
      rintro e W6 ⟨rfl,B6,bb6,kk6⟩
      have q6:=q5.write B6 bb6 kk6
      rw[le1,A0c] at q6
      gi_wp2
      exact hnx rfl q6
     |none=>
      rw[hl] at hlk hnx
      have hr:=Nx hl st
      have h15:=and_15 hr
      have h16:0<=bits BinOp.and IntKind.i32 (r:Int) 15/\bits BinOp.and IntKind.i32 (r:Int) 15<16:=by omega
      simp only[A1f] at hlk
      gi_wp2
      refine⟨trivial,fun h=>(by cases h),CallsIn.inRound l ((callsIn_wide.2 (Tryz.bWs (b4+1) (b4+1) acc _ _ q.bld (by show acc.length+4<=_;omega) (by have:=D5 q.bld;omega))).mono ?_)⟩
      rintro e W5 ⟨rfl,B5,bb5,kk5⟩
      have q5:=q.write B5 bb5 kk5
      have l5:=D5 q5.bld
      gi_wp2
      refine⟨trivial,fun h=>(by cases h),CallsIn.inRound l ((callsIn_wide.2 (Tryz.bWb (b4+1) (b4+1) _ _ _ q5.bld (by rw[A04];show acc.length+4+1<=_;omega) (by omega))).mono ?_)⟩
      rintro e W6 ⟨rfl,B6,bb6,kk6⟩
      have q6:=q5.write B6 bb6 kk6
      have l6:=D5 q6.bld
      gi_wp2
      refine⟨trivial,fun h=>(by cases h),CallsIn.inRound l ((callsIn_wide.2 (Tryz.bWb (b4+1) (b4+1) _ _ _ q6.bld (by rw[A04,A04];show acc.length+4+1+1<=_;omega) (by omega))).mono ?_)⟩
      rintro e W7 ⟨rfl,B7,bb7,kk7⟩
      have q7:=q6.write B7 bb7 kk7
      rw[PT (by omega),PT (by omega),A0c,A0c] at q7
      gi_wp2
      refine hnx ?_ q7
      rfl
end Go.Proofs
namespace Go.Ab
open Go.Proofs Go.Proofs.Tryz
theorem Nh{d:Nat}:∀ {l:List GV},(∀ j,j<l.length->Bj (l.getD j zV) d=0)->Ea l d=0
 |[],_=>rfl
 |v::l,h=>by
  have h0:=h 0 (by simp)
  simp only[A0H] at h0
  simp only[Ea,h0]
  simpa using Nh (l:=l) fun j hj=>by simpa using h (j+1) (by simpa using hj)
theorem Ng{d:Nat}:∀ {l:List GV} {i:Nat},i<l.length->(∀ j,j<i->Bj (l.getD j zV) d=0)->Bj (l.getD i zV) d≠0->Ea l d=Bj (l.getD i zV) d
 |v::l,0,_,_,h=>by
  simp only[A0H] at h|-
  simp only[Ea,if_pos h]
 |v::l,i+1,hi,h,hh=>by
  have h0:=h 0 (by omega)
  simp only[A0H] at h0
  simp only[Ea,h0,A1I]
  simp only[ne_eq,not_true_eq_false,if_false]
  exact Ng (by simpa using hi) (fun j hj=>by simpa using h (j+1) (by omega)) (by simpa using hh)
def N7(p:Option ByteArray)(l:List (ByteArray×GV))(j:Nat):Option ByteArray:=if j=0 then p else some (l.getD (j-1) zM).1
theorem Tq(p:Option ByteArray)(x:ByteArray×GV)(l:List (ByteArray×GV))(j:Nat):N7 p (x::l) (j+1)=N7 (some x.1) l j:=by
 unfold N7
 cases j with
 |zero=>simp
 |succ j=>simp
noncomputable def Db(p:Option ByteArray)(l:List (ByteArray×GV))(d j:Nat):Int:=LH (N7 p l j) (l.getD j zM).1 (l.getD j zM).2 d
theorem FG(p:Option ByteArray)(x:ByteArray×GV)(l:List (ByteArray×GV))(d j:Nat):Db p (x::l) d (j+1)=Db (some x.1) l d j:=by
 unfold Db
 rw[Tq,A1I]
theorem Nj{d:Nat}:∀ {p:Option ByteArray} {l:List (ByteArray×GV)},(∀ j,j<l.length->Db p l d j=0)->FY p l d=0
 |_,[],_=>rfl
 |p,(k,v)::l,h=>by
  have h0:LH p k v d=0:=h 0 (by simp)
  rw[EB,if_neg (by simp[h0])]
  exact Nj fun j hj=>by rw[<-FG p (k,v)];exact h (j+1) (by simpa using hj)
theorem Ni{d:Nat}:∀ {p:Option ByteArray} {l:List (ByteArray×GV)} {i:Nat},i<l.length->(∀ j,j<i->Db p l d j=0)->Db p l d i≠0->FY p l d=Db p l d i
 |p,(k,v)::l,0,_,_,h=>by
  have e:Db p ((k,v)::l) d 0=LH p k v d:=rfl
  rw[e] at h|-
  rw[EB,if_pos h]
 |p,(k,v)::l,i+1,hi,h,hh=>by
  have h0:LH p k v d=0:=h 0 (by omega)
  rw[EB,if_neg (by simp[h0]),FG]
  rw[FG] at hh
  exact Ni (by simpa using hi) (fun j hj=>by rw[<-FG p (k,v)];exact h (j+1) (by omega)) hh
theorem memAt_0(l:List (ByteArray×GV))(d:Nat):Db none l d 0=if AH (l.getD 0 zM).1=false then 3 else Bj (l.getD 0 zM).2 d:=by simp[Db,LH,N7]
theorem memAt_s(l:List (ByteArray×GV))(d j:Nat)(h:0<j):Db none l d j=if AH (l.getD j zM).1=false then 3 else if ltS (l.getD (j-1) zM).1 (l.getD j zM).1=false then 8 else Bj (l.getD j zM).2 d:=by
 have:j≠0:=by omega
 simp[Db,LH,N7,this]
theorem c_odd(v:GV):A0 prog 107 [.agg (A4 v)] (.val (.bool (FD v))):=by
 rw[A7]
 refine Zk [] func107 rfl ntmps107 results107 fun H Hb=>?_
 ((try push_cast)<;>repeat' (first|apply Zi<;>intro _|exact Zp|with_reducible apply Za)<;>try push_cast)
 all_goals
  clear H Hb
  unfold FD
  rw[UK]
  generalize decide (v.s=(⟨#[]⟩:ByteArray))=z at*
  generalize v.list.length=L at*
  generalize v.obj.length=O at*
  generalize v.kind=k at*
  generalize v.n=n at*
  generalize v.b=b at*
  clear v
  rcases A16 L with hL|hL<;>rcases A16 O with hO|hO<;>by_cases hn:n=0<;>cases z<;>cases b<;>first|(simp_all;done)|(simp_all;omega)|grind
theorem c_vmay(v:GV)(d:Nat)(hd:d<=65)(hs:Sm v):A0 prog 52 [.agg (A4 v),.val (.int .i64 d)] (.val (.int .i64 (Bj v d))):=by
 have hrec:∀ x,SizeOf.sizeOf x<SizeOf.sizeOf v->d+1<=65->Sm x->A0 prog 52 [.agg (A4 x),.val (.int .i64 ((d:Int)+1))] (.val (.int .i64 (Bj x (d+1)))):=fun x hx h h2=>by
  have:=c_vmay x (d+1) h h2
  rwa[A1P] at this
 have hl:=hs.list_le
 have ho':=hs.obj_le
 have hO:=c_odd v
 have hV:=FR v.s
 have w1:IntKind.i64.wrap (↑d+1)=↑d+1:=Aa (by omega) (by omega)
 rw[EV]
 rw[A7] at hO|-
 by_cases ho:FD v=true
 ·rw[if_pos ho]
  rw[ho] at hO
  refine Zf [0] func52 rfl ntmps52 results52 ?_
  (have z:=trivial;(try push_cast)<;>repeat' (first|apply Zi<;>intro _|refine Zc hO ?_|exact Zp|with_reducible apply Za)<;>try push_cast)
 ·rw[if_neg ho]
  have ho:FD v=false:=by simpa using ho
  rw[ho] at hO
  by_cases h64:64<d
  ·rw[if_pos h64]
   have b1:decide ((64:Int)<d)=true:=decide_eq_true (by omega)
   refine Zf [0] func52 rfl ntmps52 results52 ?_
   (have z:=b1;(try push_cast[z])<;>repeat' (first|apply Zi<;>intro _|refine Zc hO ?_|exact Zo|with_reducible apply Za)<;>try push_cast[z])
  ·rw[if_neg h64]
   have b1:decide ((64:Int)<d)=false:=decide_eq_false (by omega)
   by_cases k4:v.kind=4
   ·rw[if_pos k4]
    rw[k4] at hO|-
    cases hv:AH v.s with
    |true=>
     rw[hv] at hV
     refine Zf [0] func52 rfl ntmps52 results52 ?_
     (have z:=b1;(try push_cast[z])<;>repeat' (first|apply Zi<;>intro _|refine Zc hO ?_|refine Zc hV ?_|exact Zo|with_reducible apply Za)<;>try push_cast[z])
    |false=>
     rw[hv] at hV
     refine Zf [0] func52 rfl ntmps52 results52 ?_
     (have z:=b1;(try push_cast[z])<;>repeat' (first|apply Zi<;>intro _|refine Zc hO ?_|refine Zc hV ?_|exact Zo|with_reducible apply Za)<;>try push_cast[z])
   ·rw[if_neg k4]
    have e4:(v.kind==4)=false:=by simpa using k4
    by_cases k5:v.kind=5
    ·rw[if_pos k5]
     rw[k5] at hO|-
     have hrl:∀ i,i<v.list.length->A0 prog 52 [.agg (A4 (v.list.getD i zV)),.val (.int .i64 ((d:Int)+1))] (.val (.int .i64 (Bj (v.list.getD i zV) (d+1)))):=fun i hi=>hrec _ (GV.list_lt (Ak hi)) (by omega) (hs.list _ (Ak hi))
     refine Zf [0] func52 rfl ntmps52 results52 ?_
     (have z:=b1;(try push_cast[z])<;>repeat' (first|apply Zi<;>intro _|refine Zc hO ?_|exact Zo|with_reducible apply Za)<;>try push_cast[z])
     refine Zl (fun i=>i<=v.list.length/\∀ j,j<i->Bj (v.list.getD j zV) (d+1)=0) (fun i=>⟨[(30,.val (.int .i64 i)),(29,.val (.int .i64 v.list.length)),(28,.slice (v.list.map A4) false),(1,.val (.int .i64 d))],[],400⟩) (fun i=>v.list.length-i) 0 (by simp) ?_ fun i hi=>?_
     ·apply Zw<;>push_cast
     ·obtain⟨h1,h2⟩:=hi
      push_cast
      refine Al (fun ha=>?_) (fun ha=>?_)
      ·have hi':i<v.list.length:=by simpa using ha
       have e1:=FF hi'
       have hr:=hrl i hi'
       have hhit:=Ng hi' h2
       generalize hx:v.list.getD i zV=x at*
       by_cases hc:Bj x (d+1)=0
       ·rw[hc] at hr
        (have z:=Za e1 w1;(try push_cast[z])<;>repeat' (first|apply Zi<;>intro _|refine Zc (hr ..) ?_|exact Zo|with_reducible apply Za)<;>try push_cast[z])
        all_goals first|omega|skip
        refine⟨i+1,⟨hi',fun j hj=>?_⟩,by omega,?_⟩
        ·by_cases hji:j=i
         ·rw[hji,hx];exact hc
         ·exact h2 j (by omega)
        ·apply Zw<;>push_cast
         exact Aa (by omega) (by omega)
       ·have b3:(Bj x (d+1) !=0)=true:=by simpa using hc
        rw[hhit hc]
        generalize Bj x (d+1)=c at*
        (have z:=Za e1<|Za w1 b3;(try push_cast[z])<;>repeat' (first|apply Zi<;>intro _|refine Zc (hr ..) ?_|exact Zo|with_reducible apply Za)<;>try push_cast[z])
        all_goals first|omega|skip
      ·have hi':i=v.list.length:=by simp at ha;omega
       subst hi'
       rw[Nh h2]
       ((try push_cast)<;>repeat' (first|apply Zi<;>intro _|exact Zp|with_reducible apply Za)<;>try push_cast)
    ·rw[if_neg k5]
     have e5:(v.kind==5)=false:=by simpa using k5
     by_cases k6:v.kind=6
     ·rw[if_pos k6]
      rw[k6] at hO|-
      have hrl:∀ i,i<v.obj.length->A0 prog 52 [.agg (A4 (v.obj.getD i zM).2),.val (.int .i64 ((d:Int)+1))] (.val (.int .i64 (Bj (v.obj.getD i zM).2 (d+1)))):=fun i hi=>hrec _ (GV.obj_lt (Ak hi)) (by omega) (hs.obj _ (Ak hi))
      refine Zf [0] func52 rfl ntmps52 results52 ?_
      (have z:=b1;(try push_cast[z])<;>repeat' (first|apply Zi<;>intro _|refine Zc hO ?_|exact Zo|with_reducible apply Za)<;>try push_cast[z])
      refine Zl (fun i=>i<=v.obj.length/\∀ j,j<i->Db none v.obj (d+1) j=0) (fun i=>⟨[(47,.val (.int .i64 i)),(46,.val (.int .i64 v.obj.length)),(45,.slice (v.obj.map A6) false),(1,.val (.int .i64 d)),(2,.ptr [.val (.int .i64 6),.val (.bool v.b),.val (.int .i64 v.n),.val (.string v.s),.slice (v.list.map A4) false,.slice (v.obj.map A6) false] 0)],[],400⟩) (fun i=>v.obj.length-i) 0 (by simp) ?_ fun i hi=>?_
      ·apply Zw<;>push_cast
      ·obtain⟨h1,h2⟩:=hi
       push_cast
       refine Al (fun ha=>?_) (fun ha=>?_)
       ·have hi':i<v.obj.length:=by simpa using ha
        have e1:=Bv hi'
        have hr:=hrl i hi'
        have hK:=FR (v.obj.getD i zM).1
        have hhit:=Ni hi' h2
        have w2:IntKind.i64.wrap (↑i+1)=↑i+1:=Aa (by omega) (by omega)
        have hnext:Db none v.obj (d+1) i=0->∀ j,j<i+1->Db none v.obj (d+1) j=0:=fun h j hj=>by
         by_cases hji:j=i
         ·rw[hji];exact h
         ·exact h2 j (by omega)
        rcases A16 i with hz|hz
        ·subst hz
         have e0:=memAt_0 v.obj (d+1)
         cases hv:AH (v.obj.getD 0 zM).1 with
         |false=>
          rw[hv] at hK
          have e2:Db none v.obj (d+1) 0=3:=by rw[e0,hv];rfl
          rw[e2] at hhit
          rw[hhit (by decide)]
          (have z:=Za e1 @Ah;(try push_cast[z])<;>repeat' (first|apply Zi<;>intro _|refine Zc hK ?_|exact Zo|with_reducible apply Za)<;>try push_cast[z])
          all_goals first|omega|skip
         |true=>
          rw[hv] at hK
          have e2:Db none v.obj (d+1) 0=Bj (v.obj.getD 0 zM).2 (d+1):=by rw[e0,hv];rfl
          by_cases hc:Bj (v.obj.getD 0 zM).2 (d+1)=0
          ·rw[hc] at hr
           (have z:=Za e1<|Za @Ah w1;(try push_cast[z])<;>repeat' (first|apply Zi<;>intro _|refine Zc hK ?_|refine Zc (hr ..) ?_|exact Zo|with_reducible apply Za)<;>try push_cast[z])
           all_goals first|omega|skip
           refine⟨1,⟨hi',hnext (by rw[e2];exact hc)⟩,by omega,?_⟩
           apply Zw<;>push_cast
           all_goals first|exact w2|skip
          ·rw[e2] at hhit
           have b3:(Bj (v.obj.getD 0 zM).2 (d+1) !=0)=true:=by simpa using hc
           rw[hhit hc]
           generalize Bj (v.obj.getD 0 zM).2 (d+1)=c at*
           (have z:=Za e1<|Za @Ah<|Za w1 b3;(try push_cast[z])<;>repeat' (first|apply Zi<;>intro _|refine Zc hK ?_|refine Zc (hr ..) ?_|exact Zo|with_reducible apply Za)<;>try push_cast[z])
           all_goals first|omega|skip
        ·have e0:=memAt_s v.obj (d+1) i hz
         have b4:decide ((0:Int)<i)=true:=decide_eq_true (by omega)
         have e9:=Bv (l:=v.obj) (i:=i-1) (by omega)
         have w3:IntKind.i64.wrap (↑i-1)=((i-1:Nat):Int):=by rw[Aa (by omega) (by omega)];omega
         cases hv:AH (v.obj.getD i zM).1 with
         |false=>
          rw[hv] at hK
          have e2:Db none v.obj (d+1) i=3:=by rw[e0,hv];rfl
          rw[e2] at hhit
          rw[hhit (by decide)]
          (have z:=Za e1 @Ah;(try push_cast[z])<;>repeat' (first|apply Zi<;>intro _|refine Zc hK ?_|exact Zo|with_reducible apply Za)<;>try push_cast[z])
          all_goals first|omega|skip
         |true=>
          rw[hv] at hK
          cases h9:ltS (v.obj.getD (i-1) zM).1 (v.obj.getD i zM).1 with
          |false=>
           have e2:Db none v.obj (d+1) i=8:=by rw[e0,hv,h9];rfl
           rw[e2] at hhit
           rw[hhit (by decide)]
           (have z:=Za e1<|Za e9<|Za @Ah<|Za b4<|Za w3 h9;(try push_cast[z])<;>repeat' (first|apply Zi<;>intro _|refine Zc hK ?_|exact Zo|with_reducible apply Za)<;>try push_cast[z])
           all_goals first|omega|skip
          |true=>
           have e2:Db none v.obj (d+1) i=Bj (v.obj.getD i zM).2 (d+1):=by rw[e0,hv,h9];rfl
           by_cases hc:Bj (v.obj.getD i zM).2 (d+1)=0
           ·rw[hc] at hr
            (have z:=Za e1<|Za e9<|Za @Ah<|Za b4<|Za w1<|Za w3 h9;(try push_cast[z])<;>repeat' (first|apply Zi<;>intro _|refine Zc hK ?_|refine Zc (hr ..) ?_|exact Zo|with_reducible apply Za)<;>try push_cast[z])
            all_goals first|omega|skip
            refine⟨i+1,⟨hi',hnext (by rw[e2];exact hc)⟩,by omega,?_⟩
            apply Zw<;>push_cast
            all_goals first|exact w2|skip
           ·rw[e2] at hhit
            have b3:(Bj (v.obj.getD i zM).2 (d+1) !=0)=true:=by simpa using hc
            rw[hhit hc]
            generalize Bj (v.obj.getD i zM).2 (d+1)=c at*
            (have z:=Za e1<|Za e9<|Za @Ah<|Za b4<|Za w1<|Za w3<|Za b3 h9;(try push_cast[z])<;>repeat' (first|apply Zi<;>intro _|refine Zc hK ?_|refine Zc (hr ..) ?_|exact Zo|with_reducible apply Za)<;>try push_cast[z])
            all_goals first|omega|skip
       ·have hi':i=v.obj.length:=by simp at ha;omega
        subst hi'
        rw[Nj h2]
        ((try push_cast)<;>repeat' (first|apply Zi<;>intro _|exact Zp|with_reducible apply Za)<;>try push_cast)
     ·rw[if_neg k6]
      have e6:(v.kind==6)=false:=by simpa using k6
      refine Zf [0] func52 rfl ntmps52 results52 ?_
      (have z:=Za b1<|Za e4<|Za e5 e6;(try push_cast[z])<;>repeat' (first|apply Zi<;>intro _|refine Zc hO ?_|exact Zo|with_reducible apply Za)<;>try push_cast[z])
termination_by SizeOf.sizeOf v
theorem U9(v:GV)(hs:Sm v):A0 prog 26 [.agg (A4 v)] (.val (.int .i64 (Bj v 1))):=by
 have h:A0 prog 52 [.agg (A4 v),.val (.int .i64 1)] (.val (.int .i64 (Bj v 1))):=c_vmay v 1 (by omega) hs
 rw[A7] at h|-
 refine Zf [0] func26 rfl ntmps26 results26 ?_
 (have z:=trivial;(try push_cast)<;>repeat' (first|apply Zi<;>intro _|refine Zc h ?_|exact Zp|with_reducible apply Za)<;>try push_cast)
theorem S9{l:List GV}{i:Nat}(h:i<l.length):D3 (l.take (i+1))=max (D3 (l.take i)) (CW (l.getD i zV)):=by
 induction l generalizing i with
 |nil=>simp at h
 |cons x l ih=>
  cases i with
  |zero=>simp [D3]
  |succ i=>
   have:=ih (i:=i) (by simpa using h)
   simp only[A1t,D3,A1I,this]
   omega
theorem U3{l:List GV}{x:GV}(h:x ∈ l):CW x<=D3 l:=by
 induction l with
 |nil=>cases h
 |cons y l ih=>
  simp only[D3]
  rcases A0q.1 h with rfl|h
  ·omega
  ·have:=ih h;omega
theorem Sa{l:List (ByteArray×GV)}{i:Nat}(h:i<l.length):D4 (l.take (i+1))=max (D4 (l.take i)) (CW (l.getD i zM).2):=by
 induction l generalizing i with
 |nil=>simp at h
 |cons x l ih=>
  obtain⟨k,v⟩:=x
  cases i with
  |zero=>simp [D4]
  |succ i=>
   have:=ih (i:=i) (by simpa using h)
   simp only[A1t,D4,A1I,this]
   omega
theorem U4{l:List (ByteArray×GV)}{x:ByteArray×GV}(h:x ∈ l):CW x.2<=D4 l:=by
 induction l with
 |nil=>cases h
 |cons y l ih=>
  obtain⟨k,v⟩:=y
  simp only[D4]
  rcases A0q.1 h with rfl|h
  ·simp only;omega
  ·have:=ih h;omega
mutual
theorem Mh:∀ (v:GV) (d:Nat),Bj v d=0->CW v+d<=65
 |.mk k b i s l o,d,h=>by
  obtain⟨v1,v2,v3,v4,v5⟩:=HP h
  rw[Mi]
  change(if k=5 then 1+D3 l else if k=6 then 1+D4 o else 1)+d<=65
  by_cases k5:k=5
  ·have h1:=NU l (d+1) (v4 k5) (by omega)
   rw[if_pos k5];omega
  ·rw[if_neg k5]
   by_cases k6:k=6
   ·have h1:=NV none o (d+1) (v5 k6) (by omega)
    rw[if_pos k6];omega
   ·rw[if_neg k6];omega
theorem NU:∀ (l:List GV) (d:Nat),Ea l d=0->d<=65->D3 l+d<=65
 |[],d,h,hd=>by simp only[D3];omega
 |v::l,d,h,hd=>by
  simp only[Ea] at h
  split at h
  ·rename_i h1;exact absurd h h1
  ·rename_i h1
   have h2:=Mh v d (by simpa using h1)
   have h3:=NU l d h hd
   simp only[D3];omega
theorem NV:∀ (p:Option ByteArray) (l:List (ByteArray×GV)) (d:Nat),FY p l d=0->d<=65->D4 l+d<=65
 |_,[],d,h,hd=>by simp only[D4];omega
 |p,(k,v)::l,d,h,hd=>by
  rw[EB] at h
  split at h
  ·rename_i h1;exact absurd h h1
  ·rename_i h1
   have h2:=Mh v d (Nf (by simpa using h1)).2
   have h3:=NV (some k) l d h hd
   simp only[D4];omega
end
theorem YV(a b:Nat):(if(b:Int)>(a:Int) then(b:Int) else(a:Int))=((max a b:Nat):Int):=by split<;>omega
theorem c_Deep(v:GV)(hs:Sm v)(hb:CW v<=65):A0 prog 138 [.agg (A4 v)] (.val (.int .i64 (CW v:Nat))):=by
 have hl:=hs.list_le
 have ho:=hs.obj_le
 have hrec:∀ x,SizeOf.sizeOf x<SizeOf.sizeOf v->Sm x->CW x<=65->A0 prog 138 [.agg (A4 x)] (.val (.int .i64 (CW x:Nat))):=fun x hx h2 h=>c_Deep x h2 h
 rw[Mi] at hb|-
 by_cases k5:v.kind=5
 ·rw[if_pos k5] at hb|-
  have hrl:∀ i,i<v.list.length->A0 prog 138 [.agg (A4 (v.list.getD i zV))] (.val (.int .i64 (CW (v.list.getD i zV):Nat))):=fun i hi=>hrec _ (GV.list_lt (Ak hi)) (hs.list _ (Ak hi)) (by have:=U3 (Ak (d:=zV) hi);omega)
  rw[A7,k5]
  clear hrec
  refine Zf [0] func138 rfl ntmps138 results138 ?_
  ((try push_cast)<;>repeat' (first|apply Zi<;>intro _|exact Zp|with_reducible apply Za)<;>try push_cast)
  refine Zl (fun i=>i<=v.list.length) (fun i=>⟨[(15,.val (.int .i64 i)),(14,.val (.int .i64 v.list.length)),(13,.slice (v.list.map A4) false),(3,.val (.int .i64 (D3 (v.list.take i):Nat)))],[],400⟩) (fun i=>v.list.length-i) 0 (by simp) ?_ fun i hi=>?_
  ·apply Zw<;>push_cast
   all_goals simp[D3]
  ·push_cast
   refine Al (fun ha=>?_) (fun ha=>?_)
   ·have hi':i<v.list.length:=by simpa using ha
    have e1:=FF hi'
    have hr:=hrl i hi'
    have e2:=S9 hi'
    (have z:=e1;(try push_cast[z])<;>repeat' (first|apply Zi<;>intro _|refine Zc (hr ..) ?_|exact Zo|with_reducible apply Za)<;>try push_cast[z])
    all_goals first|omega|skip
    refine⟨i+1,hi',by omega,?_⟩
    apply Zw<;>push_cast
    rw[e2]
    exact⟨Aa (by omega) (by omega),YV _ _⟩
   ·have hi':i=v.list.length:=by simp at ha;omega
    subst hi'
    rw[A1j]
    ((try push_cast)<;>repeat' (first|apply Zi<;>intro _|exact Zp|with_reducible apply Za)<;>try push_cast)
    exact Aa (by omega) (by omega)
 ·rw[if_neg k5] at hb|-
  have e5:(v.kind==5)=false:=by simpa using k5
  by_cases k6:v.kind=6
  ·rw[if_pos k6] at hb|-
   have hrl:∀ i,i<v.obj.length->A0 prog 138 [.agg (A4 (v.obj.getD i zM).2)] (.val (.int .i64 (CW (v.obj.getD i zM).2:Nat))):=fun i hi=>hrec _ (GV.obj_lt (Ak hi)) (hs.obj _ (Ak hi)) (by have:=U4 (Ak (d:=zM) hi);omega)
   rw[A7,k6]
   clear hrec
   refine Zf [0] func138 rfl ntmps138 results138 ?_
   ((try push_cast)<;>repeat' (first|apply Zi<;>intro _|exact Zp|with_reducible apply Za)<;>try push_cast)
   refine Zl (fun i=>i<=v.obj.length) (fun i=>⟨[(29,.val (.int .i64 i)),(28,.val (.int .i64 v.obj.length)),(27,.slice (v.obj.map A6) false),(3,.val (.int .i64 (D4 (v.obj.take i):Nat)))],[],400⟩) (fun i=>v.obj.length-i) 0 (by simp) ?_ fun i hi=>?_
   ·apply Zw<;>push_cast
    all_goals simp[D4]
   ·push_cast
    refine Al (fun ha=>?_) (fun ha=>?_)
    ·have hi':i<v.obj.length:=by simpa using ha
     have e1:=Bv hi'
     have hr:=hrl i hi'
     have e2:=Sa hi'
     (have z:=Za e1 @Ah;(try push_cast[z])<;>repeat' (first|apply Zi<;>intro _|refine Zc (hr ..) ?_|exact Zo|with_reducible apply Za)<;>try push_cast[z])
     all_goals first|omega|skip
     refine⟨i+1,hi',by omega,?_⟩
     apply Zw<;>push_cast
     rw[e2]
     exact⟨Aa (by omega) (by omega),YV _ _⟩
    ·have hi':i=v.obj.length:=by simp at ha;omega
     subst hi'
     rw[A1j]
     ((try push_cast)<;>repeat' (first|apply Zi<;>intro _|exact Zp|with_reducible apply Za)<;>try push_cast)
     exact Aa (by omega) (by omega)
  ·rw[if_neg k6]
   have e6:(v.kind==6)=false:=by simpa using k6
   rw[A7]
   clear hrec
   refine Zf [0] func138 rfl ntmps138 results138 ?_
   (have z:=Za e5 e6;(try push_cast[z])<;>repeat' (first|apply Zi<;>intro _|exact Zo|with_reducible apply Za)<;>try push_cast[z])
   all_goals rfl
termination_by SizeOf.sizeOf v
abbrev wrB(n:Nat):Blk:=.rows [[.val (.bool false),.val (.pointer none),.slice [] true,.val (.int .i64 n)]] 4
def Ed:List ByteArray->Nat
 |[]=>0
 |s::l=>s.size+Ed l
theorem Ge:∀ (a b:List ByteArray),Ed (a++b)=Ed a+Ed b
 |[],b=>by simp[Ed]
 |x::a,b=>by simp only[A0d,Ed,Ge a b];omega
theorem Vy{l:List ByteArray}{i:Nat}(h:i<l.length):Ed (l.take (i+1))=Ed (l.take i)+(l.getD i ByteArray.empty).size/\Ed (l.take (i+1))<=Ed l:=by
 have e:l.getD i ByteArray.empty=l[i]:=by rw[A02,A0b h];rfl
 have h1:Ed (l.take (i+1))=Ed (l.take i)+(l.getD i ByteArray.empty).size:=by
  rw[A1y h,e,Ge]
  simp[Ed]
 refine⟨h1,?_⟩
 have h2:Ed l=Ed (l.take (i+1))+Ed (l.drop (i+1)):=by
  rw[<-Ge,A12]
 omega
theorem c_join(parts:List ByteArray)(n:Nat)(hn:n+Ed parts<=4611686018427387904)(hl:parts.length<=2):
  A2 prog 54 [.ref 1 0 0 4,.sref 3 0 parts.length parts.length 1] [(1,wrB n),(3,.rows (parts.map fun s=>[.val (.string s)]) 1)] (.tup []) [(1,wrB (n+Ed parts))]:=by
 have oG:A3 (parts.map fun s=>[D.val (.string s)])=true:=Ar (fun _=>rfl) parts
 refine Zd [] func54 rfl ntmps54 results54 ?_
 (have z:=oG;(try push_cast[z])<;>repeat' (first|apply Zi<;>intro _|exact Zo|with_reducible apply Za)<;>try push_cast[z])
 all_goals first|omega|skip
 refine Zl (fun i=>i<=parts.length) (fun i=>⟨[(8,.val (.int .i64 i)),(7,.val (.int .i64 parts.length)),(6,.sref 3 0 parts.length parts.length 1),(0,.ref 1 0 0 4)],[(1,wrB (n+Ed (parts.take i))),(3,.rows (parts.map fun s=>[.val (.string s)]) 1)],100⟩) (fun i=>parts.length-i) 0 (by simp) ?_ fun i hi=>?_
 ·apply Zw<;>push_cast [oG]
  all_goals try simp[Ed]
 ·push_cast[oG]
  refine Al (fun ha=>?_) (fun ha=>?_)
  ·have hi':i<parts.length:=by simpa using ha
   have e1:=GX (f:=fun s:ByteArray=>[D.val (.string s)]) ByteArray.empty hi'
   obtain⟨t1,t2⟩:=Vy hi'
   (have z:=Za e1 oG;(try push_cast[z])<;>repeat' (first|apply Zi<;>intro _|exact Zo|with_reducible apply Za)<;>try push_cast[z])
   all_goals first|omega|skip
   refine⟨i+1,hi',by omega,?_⟩
   apply Zw<;>push_cast [oG]
   ·exact Aa (by omega) (by omega)
   ·rw[t1,A1P,<-Int.add_assoc]
    exact Aa (by omega) (by omega)
  ·have hi':i=parts.length:=by simp at ha;omega
   subst hi'
   rw[A1j]
   (have z:=oG;(try push_cast[z])<;>repeat' (first|apply Zi<;>intro _|exact Zo|with_reducible apply Za)<;>try push_cast[z])
   all_goals first|omega|skip
   apply Zw<;>push_cast [oG]
theorem He(i:Nat)(hi:i<=1048576):A0 prog 61 [.val (.int .i64 i)] (.val (.string (if i=0 then⟨#[]⟩ else⟨#[44]⟩))):=by
 by_cases h:i=0
 ·subst h
  refine Zf [] func61 rfl ntmps61 results61 ?_
  ((try push_cast)<;>repeat' (first|apply Zi<;>intro _|exact Zp|with_reducible apply Za)<;>try push_cast)
  all_goals rfl
 ·have b1:((i:Int)==0)=false:=by simpa using h
  rw[if_neg h]
  refine Zf [] func61 rfl ntmps61 results61 ?_
  (have z:=b1;(try push_cast[z])<;>repeat' (first|apply Zi<;>intro _|exact Zo|with_reducible apply Za)<;>try push_cast[z])
  all_goals rfl
theorem DS(s:ByteArray)(n:Nat)(h:n+s.size<=4611686018427387904):A2 prog 54 [.ref 1 0 0 4,.sref 3 0 1 1 1] [(1,wrB n),(3,.rows [[.val (.string s)]] 1)] (.tup []) [(1,wrB (n+s.size))]:=by
 have:=c_join [s] n (by simpa[Ed] using h) (Nat.le_succ 1)
 simpa[Ed] using this
theorem c_join2(s t:ByteArray)(n:Nat)(h:n+(s.size+t.size)<=4611686018427387904):A2 prog 54 [.ref 1 0 0 4,.sref 3 0 2 2 1] [(1,wrB n),(3,.rows [[.val (.string s)],[.val (.string t)]] 1)] (.tup []) [(1,wrB (n+(s.size+t.size)))]:=by
 have:=c_join [s,t] n (by simpa[Ed] using h) (A08 2)
 simpa[Ed] using this
def Wr(f:FuncId)(caps:List D)(v:GV):Prop:=∀ n,n+Dt v<=2305843009213693952->A2 prog f (.ref 1 0 0 4::caps) [(1,wrB n)] (.tup []) [(1,wrB (n+Dt v))]
def G6(v:GV):Prop:=
 (∃ f,A0 prog 27 [.agg (A4 v)] (.func (.func f) [] [.ptr (A4 v) 0])/\Wr f [.ptr (A4 v) 0] v)∨
 (A0 prog 27 [.agg (A4 v)] (.func (.func 64) [] [])/\Wr 64 [] v)
theorem Ys(v:GV)(hk:v.kind=1):G6 v:=by
 refine .inr ⟨?_,fun n hn=>?_⟩
 ·rw[A7,hk]
  refine Zf [0] func27 rfl ntmps27 results27 ?_
  ((try push_cast)<;>repeat' (first|apply Zi<;>intro _|exact Zp|with_reducible apply Za)<;>try push_cast)
 ·have e:Dt v=4:=by rw[EX,if_pos hk]
  rw[e] at hn|-
  have hJ:=DS ⟨#[110,117,108,108]⟩ n (by show n+4<=_;omega)
  change A2 _ _ _ _ _ [(1,wrB (n+4))] at hJ
  refine Zd [] func64 rfl ntmps64 results64 ?_
  (have z:=trivial;(try push_cast)<;>repeat' (first|apply Zi<;>intro _|refine Zs [(1,1),(3,16)] hJ ?_|exact Zp|with_reducible apply Za)<;>try push_cast)
  apply Zw<;>push_cast
theorem Pc{f:FuncId}{caps:List D}{v:GV}(s:ByteArray)(e:Dt v=s.size)(h:∀ n,n+s.size<=2305843009213693952->A2 prog f (.ref 1 0 0 4::caps) [(1,wrB n)] (.tup []) [(1,wrB (n+s.size))]):Wr f caps v:=by
 intro n hn
 rw[e] at hn|-
 exact h n hn
theorem Yu(v:GV)(hk:v.kind=2):G6 v:=by
 refine .inl ⟨53,?_,?_⟩
 ·rw[A7,hk]
  refine Zf [0] func27 rfl ntmps27 results27 ?_
  ((try push_cast)<;>repeat' (first|apply Zi<;>intro _|exact Zp|with_reducible apply Za)<;>try push_cast)
 ·have hf:=Qb v.b
  have e:Dt v=(⟨(Lib.formatBool v.b).toArray⟩:ByteArray).size:=by
   rw[EX,if_neg (by omega),if_pos hk]
   cases v.b<;>rfl
  refine Pc _ e fun n hn=>?_
  generalize(⟨(Lib.formatBool v.b).toArray⟩:ByteArray)=s at*
  have hJ:=DS s n (by omega)
  rw[A7,hk]
  refine Zd [] func53 rfl ntmps53 results53 ?_
  (have z:=trivial;(try push_cast)<;>repeat' (first|apply Zi<;>intro _|refine Zc (hf ..) ?_|refine Zs [(1,1),(3,40)] hJ ?_|exact Zp|with_reducible apply Za)<;>try push_cast)
  apply Zw<;>push_cast
theorem own_int(v:GV)(hs:Sm v)(hk:v.kind=3):G6 v:=by
 refine .inl ⟨56,?_,?_⟩
 ·rw[A7,hk]
  refine Zf [0] func27 rfl ntmps27 results27 ?_
  ((try push_cast)<;>repeat' (first|apply Zi<;>intro _|exact Zp|with_reducible apply Za)<;>try push_cast)
 ·have hf:=KF v.n hs.int.1 hs.int.2
  have e:Dt v=(⟨(Lib.itoa v.n).toArray⟩:ByteArray).size:=by
   rw[EX,if_neg (by omega),if_neg (by omega),if_pos hk]
   rfl
  refine Pc _ e fun n hn=>?_
  generalize(⟨(Lib.itoa v.n).toArray⟩:ByteArray)=s at*
  have hJ:=DS s n (by omega)
  rw[A7,hk]
  refine Zd [] func56 rfl ntmps56 results56 ?_
  (have z:=trivial;(try push_cast)<;>repeat' (first|apply Zi<;>intro _|refine Zc (hf ..) ?_|refine Zs [(1,1),(3,40)] hJ ?_|exact Zp|with_reducible apply Za)<;>try push_cast)
  apply Zw<;>push_cast
def MI:Prop:=∀ s:ByteArray,s.size<=1048576->∃ q:ByteArray,q.size=Lp s/\A0 prog 59 [.val (.string s)] (.val (.string q))
theorem Yr(hQ:MI)(v:GV)(hs:Sm v)(hk:v.kind=4):G6 v:=by
 refine .inl ⟨58,?_,?_⟩
 ·rw[A7,hk]
  refine Zf [0] func27 rfl ntmps27 results27 ?_
  ((try push_cast)<;>repeat' (first|apply Zi<;>intro _|exact Zp|with_reducible apply Za)<;>try push_cast)
 ·obtain⟨s,hz,hf⟩:=hQ v.s hs.text
  have e:Dt v=s.size:=by
   rw[EX,if_neg (by omega),if_neg (by omega),if_neg (by omega),if_pos hk,hz]
  refine Pc _ e fun n hn=>?_
  have hJ:=DS s n (by omega)
  rw[A7,hk]
  refine Zd [] func58 rfl ntmps58 results58 ?_
  (have z:=trivial;(try push_cast)<;>repeat' (first|apply Zi<;>intro _|refine Zc (hf ..) ?_|refine Zs [(1,1),(3,40)] hJ ?_|exact Zp|with_reducible apply Za)<;>try push_cast)
  apply Zw<;>push_cast
theorem TE{l:List GV}{i:Nat}(h:i<l.length):BM (l.take (i+1))=BM (l.take i)+Dt (l[i]'h)/\BM (l.take (i+1))<=BM l:=by
 have ap:∀ a b:List GV,BM (a++b)=BM a+BM b:=fun a b=>by
  induction a with
  |nil=>simp [BM]
  |cons x a ih=>simp only[A0d,BM,ih];omega
 have h1:BM (l.take (i+1))=BM (l.take i)+Dt l[i]:=by
  rw[A1y h,ap]
  simp[BM]
 refine⟨h1,?_⟩
 have h2:BM l=BM (l.take (i+1))+BM (l.drop (i+1)):=by
  rw[<-ap,A12]
 omega
theorem Yt(v:GV)(hs:Sm v)(hk:v.kind=5)(ih:∀ x ∈ v.list,G6 x):G6 v:=by
 refine .inl ⟨60,?_,fun n hn=>?_⟩
 ·rw[A7,hk]
  refine Zf [0] func27 rfl ntmps27 results27 ?_
  ((try push_cast)<;>repeat' (first|apply Zi<;>intro _|exact Zp|with_reducible apply Za)<;>try push_cast)
 ·have e:Dt v=2+(v.list.length-1)+BM v.list:=by
   rw[EX,if_neg (by omega),if_neg (by omega),if_neg (by omega),if_neg (by omega),if_pos hk]
  rw[e] at hn|-
  have hll:=hs.list_le
  rw[A7,hk]
  generalize v.list=l at*
  have oL:=Ar (f:=A4) BO l
  have hJ:=DS ⟨#[91]⟩ n (by show n+1<=_;omega)
  change A2 _ _ _ _ _ [(1,wrB (n+1))] at hJ
  refine Zd [] func60 rfl ntmps60 results60 ?_
  (have z:=oL;(try push_cast[z])<;>repeat' (first|apply Zi<;>intro _|refine Zs [(1,1),(3,16)] hJ ?_|exact Zo|with_reducible apply Za)<;>try push_cast[z])
  all_goals first|omega|skip
  refine Zl (fun i=>i<=l.length) (fun i=>⟨[(11,.val (.int .i64 i)),(10,.val (.int .i64 l.length)),(9,.slice (l.map A4) false),(0,.ref 1 0 0 4)],[(1,wrB (n+1+(i-1)+BM (l.take i)))],400⟩) (fun i=>l.length-i) 0 (by simp) ?_ fun i hi=>?_
  ·apply Zw<;>push_cast
   all_goals try simp[BM]
  ·push_cast
   refine Al (fun ha=>?_) (fun ha=>?_)
   ·have hi':i<l.length:=by simpa using ha
    have e1:=FF hi'
    obtain⟨t1,t2⟩:=TE hi'
    have hx:=ih _ (Ak (d:=zV) hi')
    have ex:l.getD i zV=l[i]:=by rw[A02,A0b hi'];rfl
    rw[<-ex] at t1
    generalize l.getD i zV=x at*
    have hB:=He i (by omega)
    have w1:IntKind.i64.wrap (↑i+1)=↑i+1:=Aa (by omega) (by omega)
    have hJ2:=DS (if i=0 then⟨#[]⟩ else⟨#[44]⟩) (n+1+(i-1)+BM (l.take i)) (by
     split
     ·show _+0<=_;omega
     ·show _+1<=_;omega)
    have hz:n+1+(i-1)+BM (l.take i)+(if i=0 then(⟨#[]⟩:ByteArray) else⟨#[44]⟩).size=n+1+i+BM (l.take i):=by
     split
     ·show _+0=_;omega
     ·show _+1=_;omega
    rw[hz] at hJ2
    generalize(if i=0 then(⟨#[]⟩:ByteArray) else⟨#[44]⟩)=sep at*
    generalize n+1+(i-1)+BM (l.take i)=m1 at*
    rcases hx with⟨f,h1,h2⟩|⟨h1,h2⟩
    ·have h3:=h2 (n+1+i+BM (l.take i)) (by omega)
     (have z:=Za e1<|Za oL w1;(try push_cast[z])<;>repeat' (first|apply Zi<;>intro _|refine Zc hB ?_|refine Zs [(1,1),(3,880)] hJ2 ?_|refine Zc h1 ?_|refine Zt [(1,1)] h3 ?_|exact Zo|with_reducible apply Za)<;>try push_cast[z])
     all_goals first|omega|skip
     refine⟨i+1,hi',by omega,?_⟩
     apply Zw<;>push_cast
     rw[t1];push_cast;omega
    ·have h3:=h2 (n+1+i+BM (l.take i)) (by omega)
     (have z:=Za e1<|Za oL w1;(try push_cast[z])<;>repeat' (first|apply Zi<;>intro _|refine Zc hB ?_|refine Zs [(1,1),(3,880)] hJ2 ?_|refine Zc h1 ?_|refine Zt [(1,1)] h3 ?_|exact Zo|with_reducible apply Za)<;>try push_cast[z])
     all_goals first|omega|skip
     refine⟨i+1,hi',by omega,?_⟩
     apply Zw<;>push_cast
     rw[t1];push_cast;omega
   ·have hi':i=l.length:=by simp at ha;omega
    subst hi'
    rw[A1j]
    have hJ3:=DS ⟨#[93]⟩ (n+1+(l.length-1)+BM l) (by show _+1<=_;omega)
    change A2 _ _ _ _ _ [(1,wrB (n+1+(l.length-1)+BM l+1))] at hJ3
    (have z:=oL;(try push_cast[z])<;>repeat' (first|apply Zi<;>intro _|refine Zs [(1,1),(3,816)] hJ3 ?_|exact Zo|with_reducible apply Za)<;>try push_cast[z])
    all_goals first|omega|skip
    apply Zw<;>push_cast
    omega
theorem P4(o:List (ByteArray×GV)):A0 prog 63 [.slice (o.map A6) false] (.func (.func 113) [] [.ptr [.slice (o.map A6) false] 0]):=by
 refine Zf [0] func63 rfl ntmps63 results63 ?_
 ((try push_cast)<;>repeat' (first|apply Zi<;>intro _|exact Zp|with_reducible apply Za)<;>try push_cast)
theorem TF{l:List (ByteArray×GV)}{i:Nat}(h:i<l.length):BD (l.take (i+1))=BD (l.take i)+(Lp (l[i]'h).1+1+Dt (l[i]'h).2)/\BD (l.take (i+1))<=BD l:=by
 have ap:∀ a b:List (ByteArray×GV),BD (a++b)=BD a+BD b:=fun a b=>by
  induction a with
  |nil=>simp [BD]
  |cons x a ih=>simp only[A0d,BD,ih];omega
 have h1:BD (l.take (i+1))=BD (l.take i)+(Lp (l[i]'h).1+1+Dt (l[i]'h).2):=by
  rw[A1y h,ap]
  simp[BD]
 refine⟨h1,?_⟩
 have h2:BD l=BD (l.take (i+1))+BD (l.drop (i+1)):=by
  rw[<-ap,A12]
 omega
def Wm(a c:Code)(m:Nat):Hp:=[(7,.loop [(2,.ptr [.ref 1 0 0 4] 0)] 23 .ready none [11,12] a c),(1,wrB m)]
theorem Ug{a c:Code}(hQ:MI)(o:List (ByteArray×GV))(hol:o.length<=1048576)(hok:∀ x ∈ o,x.1.size<=1048576/\G6 x.2)(m0:Nat)(hm:m0+(o.length-1)+BD o<=2305843009213693951)
  (hY:∀ (s:ByteArray) (x:GV) (m:Nat),G6 x->m+(s.size+1)+Dt x<=2305843009213693951->∀ cs f,(cs=[.ptr (A4 x) 0]∨(cs=[]/\f=64))->Wr f cs x->Dx prog 7 [.val (.string s),.func (.func f) [] cs] (Wm a c m) (.val (.bool true)) (Wm a c (m+(s.size+1)+Dt x))):
  A2 prog 113 [.yld 7,.ptr [.slice (o.map A6) false] 0] (Wm a c m0) (.tup []) (Wm a c (m0+(o.length-1)+BD o)):=by
 have oL:=Ar (f:=A6) Aj o
 unfold Wm at*
 refine Zd [] func113 rfl ntmps113 results113 ?_
 (have z:=oL;(try push_cast[z])<;>repeat' (first|apply Zi<;>intro _|exact Zo|with_reducible apply Za)<;>try push_cast[z])
 refine Zl (fun i=>i<=o.length) (fun i=>⟨[(7,.val (.int .i64 i)),(6,.val (.int .i64 o.length)),(5,.slice (o.map A6) false),(0,.yld 7)],[(7,.loop [(2,.ptr [.ref 1 0 0 4] 0)] 23 .ready none [11,12] a c),(1,wrB (m0+(i-1)+BD (o.take i)))],400⟩) (fun i=>o.length-i) 0 (by simp) ?_ fun i hi=>?_
 ·apply Zw<;>push_cast
  all_goals try simp[BD]
 ·push_cast
  refine Al (fun ha=>?_) (fun ha=>?_)
  ·have hi':i<o.length:=by simpa using ha
   have e1:=Bv hi'
   obtain⟨t1,t2⟩:=TF hi'
   obtain⟨hks,hx⟩:=hok _ (Ak (d:=zM) hi')
   have ex:o.getD i zM=o[i]:=by rw[A02,A0b hi'];rfl
   rw[<-ex] at t1
   generalize o.getD i zM=x at*
   obtain⟨k,x⟩:=x
   obtain⟨q,hq,hq2⟩:=hQ k hks
   simp only at*
   have hB:=He i (by omega)
   have w1:IntKind.i64.wrap (↑i+1)=↑i+1:=Aa (by omega) (by omega)
   have hz:m0+(i-1)+BD (o.take i)+(if i=0 then(⟨#[]⟩:ByteArray) else⟨#[44]⟩).size=m0+i+BD (o.take i):=by
    split
    ·show _+0=_;omega
    ·show _+1=_;omega
   generalize(if i=0 then(⟨#[]⟩:ByteArray) else⟨#[44]⟩)=sep at*
   generalize hm1:m0+(i-1)+BD (o.take i)=m1 at*
   have hy:=hY (sep++q) x m1 hx (by rw[ByteArray.size_append,hq];omega)
   rw[ByteArray.size_append,hq] at hy
   rcases hx with⟨f,h1,h2⟩|⟨h1,h2⟩
   ·have h3:=hy _ f (.inl rfl) h2
    (have z:=Za e1<|Za oL<|Za w1 @Ah;(try push_cast[z])<;>repeat' (first|apply Zi<;>intro _|refine Zc hB ?_|refine Zc (hq2 ..) ?_|refine Zc h1 ?_|exact Zo|with_reducible apply Za|(with_reducible show A1 _ _ _ _ _ _ _ _;refine A1.yield 7 (BG [(7,7),(1,1)]) rfl ?_ (by(try push_cast[z]);exact h3 ..) ?_ (by first|exact .inl rfl|exact .inr ⟨_,_,_,rfl,rfl,rfl⟩) ?_ ?_ ?_ ?_;(· push_cast[z]);(· push_cast[z]<;>(with_unfolding_all exact A9 _));(· push_cast[z]<;>(with_unfolding_all exact A9 _));(· push_cast[z]<;>(with_unfolding_all exact A9 _));(· push_cast[z]<;>(with_unfolding_all exact A9 _));try push_cast[z])|fail)<;>try push_cast[z])
    all_goals first|omega|skip
    refine⟨i+1,hi',by omega,?_⟩
    apply Zw<;>push_cast
    rw[t1];push_cast;omega
   ·have h3:=hy _ _ (.inr ⟨rfl,rfl⟩) h2
    (have z:=Za e1<|Za oL<|Za w1 @Ah;(try push_cast[z])<;>repeat' (first|apply Zi<;>intro _|refine Zc hB ?_|refine Zc (hq2 ..) ?_|refine Zc h1 ?_|exact Zo|with_reducible apply Za|(with_reducible show A1 _ _ _ _ _ _ _ _;refine A1.yield 7 (BG [(7,7),(1,1)]) rfl ?_ (by(try push_cast[z]);exact h3 ..) ?_ (by first|exact .inl rfl|exact .inr ⟨_,_,_,rfl,rfl,rfl⟩) ?_ ?_ ?_ ?_;(· push_cast[z]);(· push_cast[z]<;>(with_unfolding_all exact A9 _));(· push_cast[z]<;>(with_unfolding_all exact A9 _));(· push_cast[z]<;>(with_unfolding_all exact A9 _));(· push_cast[z]<;>(with_unfolding_all exact A9 _));try push_cast[z])|fail)<;>try push_cast[z])
    all_goals first|omega|skip
    refine⟨i+1,hi',by omega,?_⟩
    apply Zw<;>push_cast
    rw[t1];push_cast;omega
  ·have hi':i=o.length:=by simp at ha;omega
   subst hi'
   rw[A1j]
   (have z:=oL;(try push_cast[z])<;>repeat' (first|apply Zi<;>intro _|exact Zo|with_reducible apply Za)<;>try push_cast[z])
   all_goals first|omega|skip
   apply Zw<;>push_cast
theorem own_obj(hQ:MI)(v:GV)(hs:Sm v)(hk:v.kind=6)(ih:∀ x ∈ v.obj,G6 x.2):G6 v:=by
 refine .inl ⟨62,?_,fun n hn=>?_⟩
 ·rw[A7,hk]
  refine Zf [0] func27 rfl ntmps27 results27 ?_
  ((try push_cast)<;>repeat' (first|apply Zi<;>intro _|exact Zp|with_reducible apply Za)<;>try push_cast)
 ·have e:Dt v=2+(v.obj.length-1)+BD v.obj:=by
   rw[EX,if_neg (by omega),if_neg (by omega),if_neg (by omega),if_neg (by omega),if_neg (by omega),if_pos hk]
  rw[e] at hn|-
  have hll:=hs.obj_le
  have hok:∀ x ∈ v.obj,x.1.size<=1048576/\G6 x.2:=fun x hx=>⟨hs.key x hx,ih x hx⟩
  rw[A7,hk]
  generalize v.obj=o at*
  have oL:=Ar (f:=A6) Aj o
  have hJ:=DS ⟨#[123]⟩ n (by show n+1<=_;omega)
  change A2 _ _ _ _ _ [(1,wrB (n+1))] at hJ
  have hM:=P4 o
  refine A2.of_awpW func62 rfl ntmps62 (by kernel_rfl) (by simp) (congrArg Array.toList results62) ?_
  refine BA.seqV [8] mixed (by kernel_rfl) ?_
  ((try push_cast)<;>repeat' (first|apply Zi<;>intro _|exact Zp|with_reducible apply Za)<;>try push_cast)
  refine BA.seqV [] mixed (by kernel_rfl) ?_
  (have z:=oL;(try push_cast[z])<;>repeat' (first|apply Zi<;>intro _|refine Zs [(1,1),(3,24)] hJ ?_|exact Zo|with_reducible apply Za)<;>try push_cast[z])
  refine BA.seq ?_
  refine BA.seqV [] mixed (by kernel_rfl) ?_
  (have z:=oL;(try push_cast[z])<;>repeat' (first|apply Zi<;>intro _|refine Zc hM ?_|exact Zo|with_reducible apply Za)<;>try push_cast[z])
  refine BA.block ?_
  refine BA.range (y:=7) (BG [(7,64),(1,1)]) (env:=[(2,.ptr [.ref 1 0 0 4] 0)]) (ds:=[.yld 7,.ptr [.slice (o.map A6) false] 0]) rfl (Ug hQ o hll hok (n+1) (by omega) ?hY) rfl rfl ?_ ?_ ?_ ?_ ?_ ?_ ?_
  case hY=>
   intro s x m hx hb cs f hcs hw
   have hJ2:=c_join2 s ⟨#[58]⟩ m (by show m+(s.size+1)<=_;omega)
   change A2 _ _ _ _ _ [(1,wrB (m+(s.size+1)))] at hJ2
   have h3:=hw (m+(s.size+1)) (by omega)
   unfold Wm
   rcases hcs with rfl|⟨rfl,rfl⟩
   ·refine Dx.of_awp (by decide) rfl (by decide) ?_
    simp only[A1D,A1M,A1i,A1K,A0h,A0d]
    refine Zy ?_
    (have z:=@Ef.eq_1;(try push_cast[z])<;>repeat' (first|apply Zi<;>intro _|exact Zo|with_reducible apply Za)<;>try push_cast[z])
    refine Zy ?_
    (have z:=@Ee.eq_1;(try push_cast[z])<;>repeat' (first|apply Zi<;>intro _|refine Zs [(1,1),(3,40)] hJ2 ?_|refine Zt [(1,1)] h3 ?_|exact Zo|with_reducible apply Za)<;>try push_cast[z])
    apply Zw<;>push_cast
   ·refine Dx.of_awp (by decide) rfl (by decide) ?_
    simp only[A1D,A1M,A1i,A1K,A0h,A0d]
    refine Zy ?_
    (have z:=@Ef.eq_1;(try push_cast[z])<;>repeat' (first|apply Zi<;>intro _|exact Zo|with_reducible apply Za)<;>try push_cast[z])
    refine Zy ?_
    (have z:=@Ee.eq_1;(try push_cast[z])<;>repeat' (first|apply Zi<;>intro _|refine Zs [(1,1),(3,40)] hJ2 ?_|refine Zt [(1,1)] h3 ?_|exact Zo|with_reducible apply Za)<;>try push_cast[z])
    apply Zw<;>push_cast
  ·push_cast
  ·push_cast
  ·push_cast[C3]
  ·push_cast[B3]
  ·push_cast
  ·push_cast
  ·have hJ3:=DS ⟨#[125]⟩ (n+1+(o.length-1)+BD o) (by show _+1<=_;omega)
   change A2 _ _ _ _ _ [(1,wrB (n+1+(o.length-1)+BD o+1))] at hJ3
   rw[show n+(2+(o.length-1)+BD o)=n+1+(o.length-1)+BD o+1 by omega]
   generalize n+1+(o.length-1)+BD o=m at*
   push_cast
   refine BA.vc [] mixed (by kernel_rfl) ?_
   (have z:=trivial;(try push_cast)<;>repeat' (first|apply Zi<;>intro _|refine Zs [(1,1),(3,88)] hJ3 ?_|exact Zp|with_reducible apply Za)<;>try push_cast)
   apply Zw<;>push_cast
theorem Ts(hQ:MI)(v:GV)(hs:Sm v):G6 v:=by
 by_cases k2:v.kind=2
 ·exact Yu v k2
 by_cases k3:v.kind=3
 ·exact own_int v hs k3
 by_cases k4:v.kind=4
 ·exact Yr hQ v hs k4
 by_cases k5:v.kind=5
 ·exact Yt v hs k5 fun x hx=>Ts hQ x (hs.list x hx)
 by_cases k6:v.kind=6
 ·exact own_obj hQ v hs k6 fun x hx=>Ts hQ x.2 (hs.obj x hx)
 by_cases k1:v.kind=1
 ·exact Ys v k1
 ·refine .inr ⟨?_,?_⟩
  ·have e2:(v.kind==2)=false:=by simpa using k2
   have e3:(v.kind==3)=false:=by simpa using k3
   have e4:(v.kind==4)=false:=by simpa using k4
   have e5:(v.kind==5)=false:=by simpa using k5
   have e6:(v.kind==6)=false:=by simpa using k6
   rw[A7]
   refine Zf [0] func27 rfl ntmps27 results27 ?_
   (have z:=Za e2<|Za e3<|Za e4<|Za e5 e6;(try push_cast[z])<;>repeat' (first|apply Zi<;>intro _|exact Zo|with_reducible apply Za)<;>try push_cast[z])
  ·refine Pc ⟨#[110,117,108,108]⟩ ?_ fun n hn=>?_
   ·rw[EX,if_neg k1,if_neg k2,if_neg k3,if_neg k4,if_neg k5,if_neg k6];rfl
   ·have hJ:=DS ⟨#[110,117,108,108]⟩ n (by omega)
    refine Zd [] func64 rfl ntmps64 results64 ?_
    (have z:=trivial;(try push_cast)<;>repeat' (first|apply Zi<;>intro _|refine Zs [(1,1),(3,16)] hJ ?_|exact Zp|with_reducible apply Za)<;>try push_cast)
    apply Zw<;>push_cast
termination_by SizeOf.sizeOf v
decreasing_by
 ·exact GV.list_lt hx
 ·exact GV.obj_lt hx
theorem c_bytes(hQ:MI)(v:GV)(hs:Sm v)(hl:Dt v<=2305843009213693951):A0 prog 139 [.agg (A4 v)] (.val (.int .i64 (Dt v))):=by
 have hO:=Ts hQ v hs
 rcases hO with⟨f,h1,h2⟩|⟨h1,h2⟩
 all_goals
  have h3:=h2 0 (by omega)
  first|rw [A7 v] at h1 h3|- |rw [A7 v] at h1|-
  refine Zf [0] func139 rfl ntmps139 results139 ?_
  (have z:=trivial;(try push_cast)<;>repeat' (first|apply Zi<;>intro _|refine Zc h1 ?_|refine Zt [(1,16)] h3 ?_|exact Zp|with_reducible apply Za)<;>try push_cast)
  all_goals skip
theorem c_Fits(hQ:MI)(v:GV)(hs:Sm v)(hw:wtV v<=2097152):A0 prog 85 [.agg (A4 v)] (.val (.int .i64 (Bi v))):=by
 have hM:=U9 v hs
 unfold Bi
 by_cases h1:Bj v 1=0
 ·rw[if_neg (by simpa using h1)]
  rw[h1] at hM
  have hd:=Mh v 1 h1
  have hD:=c_Deep v hs (by omega)
  have hlb:=TD v hs
  have hB:=c_bytes hQ v hs (by omega)
  rw[A7 v] at hM hD hB|-
  by_cases h2:16<CW v
  ·rw[if_pos h2]
   have b1:decide ((16:Int)<CW v)=true:=decide_eq_true (by omega)
   refine Zf [0] func85 rfl ntmps85 results85 ?_
   (have z:=b1;(try push_cast[z])<;>repeat' (first|apply Zi<;>intro _|refine Zc hM ?_|refine Zc hD ?_|exact Zo|with_reducible apply Za)<;>try push_cast[z])
  ·rw[if_neg h2]
   have b1:decide ((16:Int)<CW v)=false:=decide_eq_false (by omega)
   by_cases h3:1024<Dt v
   ·rw[if_pos h3]
    have b2:decide ((1024:Int)<Dt v)=true:=decide_eq_true (by omega)
    refine Zf [0] func85 rfl ntmps85 results85 ?_
    (have z:=Za b1 b2;(try push_cast[z])<;>repeat' (first|apply Zi<;>intro _|refine Zc hM ?_|refine Zc hD ?_|refine Zc hB ?_|exact Zo|with_reducible apply Za)<;>try push_cast[z])
   ·rw[if_neg h3]
    have b2:decide ((1024:Int)<Dt v)=false:=decide_eq_false (by omega)
    refine Zf [0] func85 rfl ntmps85 results85 ?_
    (have z:=Za b1 b2;(try push_cast[z])<;>repeat' (first|apply Zi<;>intro _|refine Zc hM ?_|refine Zc hD ?_|refine Zc hB ?_|exact Zo|with_reducible apply Za)<;>try push_cast[z])
 ·rw[if_pos h1]
  have b1:(Bj v 1 !=0)=true:=by simpa using h1
  rw[A7 v] at hM|-
  generalize Bj v 1=c at*
  refine Zf [0] func85 rfl ntmps85 results85 ?_
  (have z:=b1;(try push_cast[z])<;>repeat' (first|apply Zi<;>intro _|refine Zc hM ?_|exact Zo|with_reducible apply Za)<;>try push_cast[z])
end Go.Ab
namespace Go.Ab
open Go.Proofs Go.Proofs.Tryz Go.RowKit Go.Shelf
theorem GIn.below{P:Program}{w W:World}{I:Nat->Prop}(h:GIn P w I)(hb:Below w.heap.size w W):GIn P W I:=by
 intro g l hg
 obtain⟨a,T,fz,h5⟩:=h g l hg
 exact⟨a,T,fz,(hb.block g (A0l.1 h5).1).trans h5⟩
theorem okP_quo(s:ByteArray)(hs:s.size<=1048576):okP (.string (FA s)):=by
 show(FA s).size<=_
 have h:=(Pv s).2
 rw[N5]
 omega
theorem Vl(s:ByteArray)(hs:s.size<=1048576):A0 prog 112 [.val (.string s)] (.tup [.val (.string (FA s)),.val (.int .i64 (if AH s=true then 0 else 3))]):=
 A0.of_vals (us:=[.string s]) (by kernel_rfl) rfl fun w I hg ho=>⟨.tuple #[.string (FA s),.int .i64 (if AH s=true then 0 else 3)],fun _=>Rc (okP_quo s hs) (by simp only[okP,D1,D2];split<;>omega),
  callsIn_wide.1 (w_Quote 0 s hs w (fun W hb=>EO (by kernel_rfl) (by kernel_rfl) (hg.below hb)) (EO (by kernel_rfl) (by kernel_rfl) hg))⟩
theorem quo_ok:MI:=fun s hs=>⟨FA s,N5 s,by
 have h:=Vl s hs
 refine Zf [] func59 rfl ntmps59 results59 ?_
 (have z:=trivial;(try push_cast)<;>repeat' (first|apply Zi<;>intro _|refine Zc h ?_|exact Zp|with_reducible apply Za)<;>try push_cast)⟩
theorem V4(v:GV)(hs:Sm v)(hw:wtV v<=2097152):A0 prog 85 [.agg (A4 v)] (.val (.int .i64 (Bi v))):=c_Fits quo_ok v hs hw
theorem Vi(n:Nat)(h:BI n):A0 prog 21 [.val (.int .u64 n)] (.val (.bool true)):=by
 obtain⟨h1,h2⟩:=h
 have b1:decide ((0:Int)<n)=true:=decide_eq_true (by omega)
 have b2:decide ((n:Int)<=4611686018427387903)=true:=decide_eq_true (by omega)
 refine Zf [] func21 rfl ntmps21 results21 ?_
 (have z:=Za b1 b2;(try push_cast[z])<;>repeat' (first|apply Zi<;>intro _|exact Zo|with_reducible apply Za)<;>try push_cast[z])
theorem Sr(n:Nat)(h:BI n):A0 prog 25 [.val (.int .u64 n)] (.agg (A4 (vI n))):=by
 obtain⟨h1,h2⟩:=h
 have w1:IntKind.i64.wrap (n:Int)=n:=Aa (by omega) (by omega)
 rw[RW]
 refine Zf [] func25 rfl ntmps25 results25 ?_
 (have z:=w1;(try push_cast[z])<;>repeat' (first|apply Zi<;>intro _|exact Zo|with_reducible apply Za)<;>try push_cast[z])
theorem Sj(b:Bool)(c:Int):A0 prog 65 [.val (.bool b),.val (.int .i64 c)] (.val (.int .i64 (if b then 0 else c))):=by
 cases b<;>refine Zf [] func65 rfl ntmps65 results65 ?_<;>((try push_cast)<;>repeat' (first|apply Zi<;>intro _|exact Zp|with_reducible apply Za)<;>try push_cast)
theorem Su:A0 prog 29 [.val (.int .u8 1)] (.val (.int .i64 0)):=by
 have h:=Sj true 2
 refine Zf [] func29 rfl ntmps29 results29 ?_
 (have z:=trivial;(try push_cast)<;>repeat' (first|apply Zi<;>intro _|refine Zc h ?_|exact Zp|with_reducible apply Za)<;>try push_cast)
theorem c_like1:A0 prog 117 [.val (.int .u8 1),.val (.int .u8 1)] (.val (.int .i64 0)):=by
 have h:=Sj true 13
 refine Zf [] func117 rfl ntmps117 results117 ?_
 (have z:=trivial;(try push_cast)<;>repeat' (first|apply Zi<;>intro _|refine Zc h ?_|exact Zp|with_reducible apply Za)<;>try push_cast)
theorem c_joined(l:List UInt8)(hl:l.length<=1048576)(h0:0<l.length):A0 prog 32 [.slice (l.map byD) false,.val (.int .u8 1)] (.slice ((1::l).map byD) false):=by
 have oL:=AN l
 have e0:(l.map byD).length=l.length:=A07 byD
 have b1:decide (1+l.length<=1)=false:=decide_eq_false (by omega)
 refine Zf [] func32 rfl ntmps32 results32 ?_
 (have z:=Za oL<|Za b1 e0;(try push_cast[z])<;>repeat' (first|apply Zi<;>intro _|exact Zo|with_reducible apply Za)<;>try push_cast[z])
 all_goals first|omega|exact Jv _|skip
 rw[if_pos (by omega)]
 exact Am _
abbrev Ask:=FuncId×List D×List D
def Qj(x:Ask):List D:=[.func (.func x.1) x.2.1 x.2.2]
def AskOk(x:Ask):Prop:=A0 prog x.1 (x.2.1++x.2.2) (.val (.int .i64 0))/\Af x.2.1=true/\Af x.2.2=true
theorem Vk(l:List Ask)(hl:l.length<=1048576)(h:∀ x ∈ l,AskOk x):A0 prog 30 [.slice (l.map Qj) false] (.val (.int .i64 0)):=by
 have oL:A3 (l.map Qj)=true:=by
  induction l with
  |nil=>rfl
  |cons x l ih=>
   obtain⟨_,h1,h2⟩:=h x (by simp)
   simp only[A0j,A3,Qj,Af,D.pure,h1,h2,ih (by simp at hl;omega) fun y hy=>h y (by simp[hy]),A0E]
 have e0:(l.map Qj).length=l.length:=A07 Qj
 refine Zf [] func30 rfl ntmps30 results30 ?_
 (have z:=Za oL e0;(try push_cast[z])<;>repeat' (first|apply Zi<;>intro _|exact Zo|with_reducible apply Za)<;>try push_cast[z])
 refine Zl (fun i=>i<=l.length) (fun i=>⟨[(8,.val (.int .i64 i)),(7,.val (.int .i64 l.length)),(6,.slice (l.map Qj) false)],[],400⟩) (fun i=>l.length-i) 0 (by simp) ?_ fun i hi=>?_
 ·apply Zw<;>push_cast [oL]
 ·push_cast
  refine Al (fun ha=>?_) (fun ha=>?_)
  ·have hi':i<l.length:=by simpa using ha
   have e1:nr (l.map Qj) i=Qj (l.getD i (0,[],[])):=GX _ hi'
   have hx:=h _ (Ak (d:=(0,[],[])) hi')
   generalize l.getD i (0,[],[])=x at*
   obtain⟨f,fs,cs⟩:=x
   obtain⟨h1,h2,h3⟩:=hx
   simp only at h1 h2 h3
   have e2:Qj (f,fs,cs)=[.func (.func f) fs cs]:=rfl
   rw[e2] at e1
   have w1:IntKind.i64.wrap (↑i+1)=↑i+1:=Aa (by omega) (by omega)
   (have z:=Za e1<|Za oL<|Za w1<|Za h2<|Za h3 @CJ;(try push_cast[z])<;>repeat' (first|apply Zi<;>intro _|refine Zv h1 ?_|exact Zo|with_reducible apply Za)<;>try push_cast[z])
   all_goals first|omega|skip
   refine⟨i+1,hi',by omega,?_⟩
   apply Zw<;>push_cast [oL]
  ·have hi':i=l.length:=by simp at ha;omega
   subst hi'
   (have z:=oL;(try push_cast[z])<;>repeat' (first|apply Zi<;>intro _|exact Zo|with_reducible apply Za)<;>try push_cast[z])
   all_goals first|omega|skip
def MayOk:Prop:=∀ m:SMu,m.ok->A0 prog 22 [.agg (Ap m.m)] (.val (.int .i64 0))
def zS:SN:=(0,.put)
theorem c_pMay(hM:MayOk)(c:Nat)(l:List SN)(h:Hk c l):A0 prog 9 [.agg (Fl c l)] (.val (.int .i64 0)):=by
 obtain⟨hc,hl,hx⟩:=h
 have hC:=Vi c hc
 have e0:((l.map snN).map Bl).length=l.length:=by simp
 have oL:A3 ((l.map snN).map Bl)=true:=DL _
 have b0:decide ((64:Int)<l.length)=false:=decide_eq_false (by omega)
 unfold Fl
 have e1:∀ i,i<l.length->nr ((l.map snN).map Bl) i=Bl (snN (l.getD i zS)):=fun i hi=>by
  simp[nr,A02,hi]
 generalize(l.map snN).map Bl=L at*
 refine Zf [] func9 rfl ntmps9 results9 ?_
 (have z:=Za e0<|Za oL b0;(try push_cast[z])<;>repeat' (first|apply Zi<;>intro _|refine Zc hC ?_|exact Zo|with_reducible apply Za)<;>try push_cast[z])
 all_goals first|omega|skip
 refine Zl (fun i=>i<=l.length) (fun i=>⟨[(17,.val (.int .i64 i)),(16,.val (.int .i64 l.length)),(15,.slice L false)],[],400⟩) (fun i=>l.length-i) 0 (by simp) ?_ fun i hi=>?_
 ·apply Zw<;>push_cast [oL]
 ·by_cases h4:i<l.length
  ·have e2:=e1 i h4
   obtain⟨g1,g2⟩:=hx _ (Ak (d:=zS) h4)
   have hN:=Vi _ g1
   have hU:=hM _ g2
   have w1:IntKind.i64.wrap (↑i+1)=↑i+1:=Aa (by omega) (by omega)
   have b1:decide ((i:Int)<l.length)=true:=decide_eq_true (by omega)
   generalize l.getD i zS=x at*
   rw[V6] at e2
   have x1:=Au x.2.m
   have x2:=Bp x.2.m
   have x3:=Jo x.2.m
   have x4:=GH x.2.m
   change nr L i=.val (.int .u64 (x.1:Int))::Ap x.2.m at e2
   generalize Ap x.2.m=U at*
   (have z:=Za e0<|Za oL<|Za e2<|Za w1<|Za b1<|Za x1<|Za x2<|Za x3 x4;(try push_cast[z])<;>repeat' (first|apply Zi<;>intro _|refine Zc hN ?_|refine Zc hU ?_|exact Zo|with_reducible apply Za)<;>try push_cast[z])
   all_goals first|omega|skip
   refine⟨i+1,h4,by omega,?_⟩
   apply Zw<;>push_cast [oL]
  ·obtain rfl:i=l.length:=by omega
   have b1:decide ((l.length:Int)<l.length)=false:=decide_eq_false (by omega)
   (have z:=Za e0<|Za oL b1;(try push_cast[z])<;>repeat' (first|apply Zi<;>intro _|exact Zo|with_reducible apply Za)<;>try push_cast[z])
   all_goals first|omega|skip
   all_goals trace_state
abbrev rdB(s:ByteArray)(i:Nat):Blk:=.rows [[.val (.string s),.val (.int .i64 i),.mref 3]] 3
def rdF(f:Nat):D:=.func (.func f) [.ref 1 0 0 3] []
theorem rdF_eq(f:Nat):rdF f=.func (.func f) [.ref 1 0 0 3] []:=rfl
def At(s:ByteArray)(i:Nat)(x r:List UInt8):Prop:=(bl s).drop i=x++r/\i+x.length+r.length=s.size
theorem At.strAt{s:ByteArray}{i:Nat}{x r:List UInt8}(h:At s i x r){j:Nat}{c:UInt8}(hj:x[j]? =some c):BQ s ((i+j:Nat):Int)=(c.toNat:Int):=by
 rw[XR]
 have h1:(bl s).getD (i+j) 0=c:=by
  have:(bl s)[i+j]? =some c:=by
   rw[<-A10,h.1]
   rw[A0o (List.getElem?_eq_some_iff.1 hj).1]
   exact hj
  rw[A02,this];rfl
 rw[h1]
theorem At.str0{s:ByteArray}{i:Nat}{c:UInt8}{x r:List UInt8}(h:At s i (c::x) r):Go.Ab.BQ s i=(c.toNat:Int):=h.strAt (j:=0) rfl
theorem At.lt{s:ByteArray}{i:Nat}{c:UInt8}{x r:List UInt8}(h:At s i (c::x) r):i<s.size:=by
 have:=h.2
 simp only[A0g] at this
 omega
theorem At.tail{s:ByteArray}{i:Nat}{x y r:List UInt8}(h:At s i (x++y) r):At s (i+x.length) y r:=by
 refine⟨?_,by have:=h.2;simp only[A04] at this;omega⟩
 rw[<-List.drop_drop,h.1,A0c,List.drop_left]
theorem At.head{s:ByteArray}{i:Nat}{x y r:List UInt8}(h:At s i (x++y) r):At s i x (y++r):=⟨by rw[h.1,A0c],by have:=h.2;simp only[A04] at this|-;omega⟩
theorem At.tail1{s:ByteArray}{i:Nat}{c:UInt8}{y r:List UInt8}(h:At s i (c::y) r):At s (i+1) y r:=At.tail (x:=[c]) h
def nbl(c:Int):Prop:=c≠9/\c≠10/\c≠13/\c≠32
theorem Q5(s:ByteArray)(i:Nat)(hs:i<s.size)(hb:nbl (BQ s i)):A2 prog 185 [.ref 1 0 0 3] [(1,rdB s i)] (.tup []) [(1,rdB s i)]:=by
 obtain⟨h1,h2,h3,h4⟩:=hb
 have b0:decide ((i:Int)<s.size)=true:=decide_eq_true (by omega)
 have b1:(BQ s i==9)=false:=by simpa using h1
 have b2:(BQ s i==10)=false:=by simpa using h2
 have b3:(BQ s i==13)=false:=by simpa using h3
 have b4:(BQ s i==32)=false:=by simpa using h4
 refine Zd [] func185 rfl ntmps185 results185 ?_
 ((try push_cast)<;>repeat' (first|apply Zi<;>intro _|exact Zp|with_reducible apply Za)<;>try push_cast)
 refine Zl (fun i=>True) (fun _=>⟨[(0,.ref 1 0 0 3)],[(1,rdB s i)],4⟩) (fun i=>0) 0 trivial ?_ fun _ _=>?_
 ·apply Zw<;>push_cast
 ·(have z:=Za b0<|Za b1<|Za b2<|Za b3 b4;(try push_cast[z])<;>repeat' (first|apply Zi<;>intro _|exact Zo|with_reducible apply Za)<;>try push_cast[z])
  all_goals first|omega|skip
  apply Zw<;>push_cast
theorem c_skipE(s:ByteArray):A2 prog 185 [.ref 1 0 0 3] [(1,rdB s s.size)] (.tup []) [(1,rdB s s.size)]:=by
 refine Zd [] func185 rfl ntmps185 results185 ?_
 ((try push_cast)<;>repeat' (first|apply Zi<;>intro _|exact Zp|with_reducible apply Za)<;>try push_cast)
 refine Zl (fun i=>True) (fun _=>⟨[(0,.ref 1 0 0 3)],[(1,rdB s s.size)],4⟩) (fun i=>0) 0 trivial ?_ fun _ _=>?_
 ·apply Zw<;>push_cast
 ·have b0:decide ((s.size:Int)<s.size)=false:=decide_eq_false (by omega)
  (have z:=b0;(try push_cast[z])<;>repeat' (first|apply Zi<;>intro _|exact Zo|with_reducible apply Za)<;>try push_cast[z])
  apply Zw<;>push_cast
theorem EH(s:ByteArray)(i:Nat)(c:Int)(hs:i<s.size)(hz:s.size<=1048576)(hc:BQ s i=c)(hb:nbl c):A2 prog 274 [.ref 1 0 0 3,.val (.int .u8 c)] [(1,rdB s i)] (.val (.bool true)) [(1,rdB s (i+1))]:=by
 have hS:=Q5 s i hs (by rw[hc];exact hb)
 have b0:((i:Int)==s.size)=false:=beq_false_of_ne (by omega)
 have b1:(BQ s i !=c)=false:=by simpa using hc
 have w1:IntKind.i64.wrap (↑i+1)=↑i+1:=Aa (by omega) (by omega)
 refine Zd [] func274 rfl ntmps274 results274 ?_
 (have z:=Za b0<|Za b1 w1;(try push_cast[z])<;>repeat' (first|apply Zi<;>intro _|refine Zs [(1,1)] hS ?_|exact Zo|with_reducible apply Za)<;>try push_cast[z])
 all_goals first|omega|skip
 apply Zw<;>push_cast
theorem Jt(s:ByteArray)(i:Nat)(c:Int)(hs:i<s.size)(hc:BQ s i≠c)(hb:nbl (BQ s i)):A2 prog 274 [.ref 1 0 0 3,.val (.int .u8 c)] [(1,rdB s i)] (.val (.bool false)) [(1,rdB s i)]:=by
 have hS:=Q5 s i hs hb
 have b0:((i:Int)==s.size)=false:=beq_false_of_ne (by omega)
 have b1:(BQ s i !=c)=true:=by simpa using hc
 refine Zd [] func274 rfl ntmps274 results274 ?_
 (have z:=Za b0 b1;(try push_cast[z])<;>repeat' (first|apply Zi<;>intro _|refine Zs [(1,1)] hS ?_|exact Zo|with_reducible apply Za)<;>try push_cast[z])
 all_goals first|omega|skip
 apply Zw<;>push_cast
def BR(x:List UInt8):Prop:=x≠[]/\∀ c ∈ x,32<=c.toNat/\c.toNat<128/\c.toNat≠34/\c.toNat≠92
def txt(x:List UInt8):List UInt8:=34::(x++[34])
theorem L7(x:List UInt8):(txt x).length=x.length+2:=by simp[txt]
def HA:Prop:=∀ (s:ByteArray) (i:Nat) (x r:List UInt8),BR x->s.size<=1048576->At s i (txt x) r->A0 prog 312 [.val (.string s),.val (.int .i64 i)] (.tup [.val (.string ⟨x.toArray⟩),.val (.int .i64 ((i+(txt x).length:Nat):Int)),.val (.int .i64 0)])
theorem Vd(hU:HA)(s:ByteArray)(i:Nat)(x r:List UInt8)(hx:BR x)(hz:s.size<=1048576)(h:At s i (txt x) r):
  A2 prog 273 [.ref 1 0 0 3] [(1,rdB s i)] (.val (.string ⟨x.toArray⟩)) [(1,rdB s (i+(txt x).length))]:=by
 have hu:=hU s i x r hx hz h
 refine Zd [] func273 rfl ntmps273 results273 ?_
 (have z:=trivial;(try push_cast)<;>repeat' (first|apply Zi<;>intro _|refine Zc (hu ..) ?_|exact Zp|with_reducible apply Za)<;>try push_cast)
 all_goals first|omega|skip
 apply Zw<;>push_cast
theorem Kx:∀ (x r:List UInt8),Lib.hasPrefix (x++r) x=true
 |[],r=>by cases r<;>rfl
 |c::x,r=>by
  have:=Kx x r
  simp only[A0d]
  unfold Lib.hasPrefix
  simp[this]
theorem c_word(s:ByteArray)(i:Nat)(x r:List UInt8)(hz:s.size<=1048576)(h:At s i x r):
  A2 prog 272 [.ref 1 0 0 3,.val (.string ⟨x.toArray⟩)] [(1,rdB s i)] (.tup []) [(1,rdB s (i+x.length))]:=by
 have hl:=h.2
 have hP:=SA (s.extract i s.size) ⟨x.toArray⟩
 have e1:Lib.hasPrefix (s.extract i s.size).data.toList (ByteArray.mk x.toArray).data.toList=true:=by
  have:(s.extract i s.size).data.toList=x++r:=by
   rw[<-h.1,ByteArray.data_extract,Array.toList_extract]
   show(s.data.toList.drop i).take (s.size-i)=_
   rw[A05 (by rw[A0s];exact A08 _)]
   rfl
  rw[this]
  exact Kx x r
 rw[e1] at hP
 have w1:IntKind.i64.wrap (↑i+↑x.length)=↑i+↑x.length:=Aa (by omega) (by omega)
 have e2:(ByteArray.mk x.toArray).size=x.length:=by show x.toArray.size=_;simp
 refine Zd [] func272 rfl ntmps272 results272 ?_
 (have z:=Za w1 e2;(try push_cast[z])<;>repeat' (first|apply Zi<;>intro _|refine Zc hP ?_|exact Zo|with_reducible apply Za)<;>try push_cast[z])
 all_goals first|omega|skip
 apply Zw<;>push_cast
def NA(c:Int):Option Nat:=
 if c=110 then some 226 else if c=102 then some 227 else if c=116 then some 228 else if c=34 then some 229
 else if c=91 then some 230 else if c=123 then some 231 else if c=45 then some 232 else if 48<=c/\c<=57 then some 232 else none
def JX:List (Int×Nat×Nat):=[(110,0,226),(102,1,227),(116,2,228),(34,3,229),(91,4,230),(123,5,231),
 (45,6,232),(48,7,232),(49,8,232),(50,9,232),(51,10,232),(52,11,232),
 (53,12,232),(54,13,232),(55,14,232),(56,15,232),(57,16,232)]
def CZ(b:Nat)(n:Nat):List (Value×Nat×D):=(JX.take n).map fun p=>(.int .u8 p.1,p.2.1,.func (.func p.2.2) [.ref b 0 0 3] [])
def Cu:List (Value×Nat×D):=CZ 1 17
theorem TH(c:Int)(f:Nat)(h:NA c=some f):∃ i,CV (.int .u8) (.int .u8 c) Cu 0=some (some (i,rdF f)):=by
 unfold NA at h
 simp only[Cu,CZ,JX,A1t,List.take_nil,A0j,A0G,CV,keq,if_true,rdF]
 repeat' split at h
 all_goals first
  |(cases h;rename_i hc;subst hc;exact⟨_,rfl⟩)
  |(cases h;rename_i hc
    have:c=48∨c=49∨c=50∨c=51∨c=52∨c=53∨c=54∨c=55∨c=56∨c=57:=by omega
    rcases this with rfl|rfl|rfl|rfl|rfl|rfl|rfl|rfl|rfl|rfl<;>exact ⟨_,rfl⟩)
  |cases h
theorem WD(r:Nat->Nat)(h:r 1=1):(Cu.map fun p=>(p.1,p.2.1,AT r p.2.2))=Cu:=by
 simp only[Cu,CZ,A13]
 refine A14 fun p _=>?_
 simp[Function.comp,AT,BX,h]
theorem ZE(n:Nat):(Cu.all fun p=>ltD n p.2.2)=true:=by
 simp only[Cu,CZ,List.all_map,A0w]
 intro p _
 simp[ltD,ltL,okN]
theorem WE(F:D->D)(h:∀ f,F (rdF f)=rdF f):(Cu.map fun p=>(p.1,p.2.1,F p.2.2))=Cu:=by
 simp only[Cu,CZ,A13]
 refine A14 fun p _=>?_
 have:=h p.2.2
 unfold rdF at this
 simp[Function.comp,this]
theorem WF(hp:Nat->Option Blk)(n:Nat)(h:hp 1=none):(Cu.map fun p=>(p.1,p.2.1,frz hp n p.2.2))=Cu:=WE _ fun f=>by
 cases n with
 |zero=>rfl
 |succ n=>cases n<;>simp [rdF,Go.Ab.frz,h]
theorem ZF(b:Nat)(x:Blk)(n:Nat)(h:(1==b)=false):(Cu.map fun p=>(p.1,p.2.1,frz (J4 b x) n p.2.2))=Cu:=WF _ _ (by simp[J4,h])
attribute [irreducible] Cu
attribute [push_cast] WD ZE ZF
abbrev kB:Blk:=.map Cu 17
def stopL(r:List UInt8):Prop:=∀ c ∈ r.head?,c.toNat=44∨c.toNat=93∨c.toNat=125
def Dz(n:Nat)(x:List UInt8)(v:GV):Prop:=(∃ c y,x=c::y/\nbl (c.toNat:Int)/\c.toNat≠93/\c.toNat≠125)/\
 ∀(s:ByteArray) (i:Nat) (r:List UInt8) (d:Nat),At s i x r->stopL r->s.size<=1048576->d+n<=64->
  A2 prog 184 [.ref 1 0 0 3,.val (.int .i64 d)] [(1,rdB s i),(3,kB)] (.agg (A4 v)) [(1,rdB s (i+x.length)),(3,kB)]
def Ke(n f:Nat)(x:List UInt8)(v:GV):Prop:=
 ∀(s:ByteArray) (i:Nat) (r:List UInt8) (d:Nat),At s i x r->stopL r->s.size<=1048576->d+n<=64->
  A2 prog f [.ref 1 0 0 3,.val (.int .i64 d)] [(1,rdB s i),(3,kB)] (.agg (A4 v)) [(1,rdB s (i+x.length)),(3,kB)]
theorem D8(n f:Nat)(c:UInt8)(y:List UInt8)(v:GV)(hf:NA (c.toNat:Int)=some f)(h:Ke n f (c::y) v):Dz n (c::y) v:=by
 have hb:nbl (c.toNat:Int)/\c.toNat≠93/\c.toNat≠125:=by
  unfold NA at hf
  unfold nbl
  repeat' split at hf
  all_goals first|omega|cases hf
 refine⟨⟨c,y,rfl,hb⟩,fun s i r d ha hr hz hd=>?_⟩
 have hk:=h s i r d ha hr hz hd
 have hc:=ha.str0
 have hlt:=ha.lt
 have hS:=Q5 s i hlt (by rw[hc];exact hb.1)
 obtain⟨j,hj⟩:=TH _ _ hf
 rw[rdF_eq] at hj
 have b0:((i:Int)==s.size)=false:=beq_false_of_ne (by omega)
 have b1:decide ((64:Int)<d)=false:=decide_eq_false (by omega)
 obtain⟨x1,x2,x3,x4⟩:=An v
 generalize(c::y).length=m at*
 generalize A4 v=V at*
 refine Zd [] func184 rfl ntmps184 results184 ?_
 (have z:=Za b0<|Za b1<|Za hc<|Za hj<|Za x1<|Za x2<|Za x3 x4;(try push_cast[z])<;>repeat' (first|apply Zi<;>intro _|refine Zs [(1,1)] hS ?_|refine Zt [(1,1),(3,3)] (hk ..) ?_|exact Zo|with_reducible apply Za)<;>try push_cast[z])
 all_goals first|omega|skip
 apply Zw<;>push_cast [x1,x2,x3]
def EZ:List (List UInt8)->List UInt8
 |[]=>[93]
 |y::l=>44::(y++EZ l)
def MN:List (List UInt8)->List UInt8
 |[]=>[91,93]
 |x::l=>91::(x++EZ l)
theorem Ew:∀ (a b:List (List D)),A3 (a++b)=(A3 a&&A3 b)
 |[],b=>by simp[A3]
 |x::a,b=>by simp[A3,Ew a b,Bool.and_assoc]
theorem one1{V:List D}(h:V.all Bc=true):∀ y ∈ [V],∀ d ∈ y,Bc d=true:=fun y hy d hd=>by
 cases A0a.1 hy
 exact A0w.1 h d hd
abbrev vB(k:Int)(x y:D):Blk:=.rows [[.val (.int .i64 k),.val (.bool false),.val (.int .i64 0),.val (.string ByteArray.empty),x,y]] 6
def lsS(s:ByteArray)(d:Nat)(L:List GV)(a:Nat×Nat):St:=match a.1 with
 |0=>⟨[(0,.ref 1 0 0 3),(1,.val (.int .i64 d)),(4,.ref 8 0 0 6),(5,.ref 24 0 0 6)],[(1,rdB s a.2),(3,kB),(8,vB 0 (.slice [] true) (.slice [] true)),(24,vB 5 (.slice [] true) (.slice [] true))],1000⟩
 |j+1=>⟨[(0,.ref 1 0 0 3),(1,.val (.int .i64 d)),(4,.ref 8 0 0 6),(5,.ref 24 0 0 6)],[(1,rdB s a.2),(3,kB),(8,vB 0 (.slice [] true) (.slice [] true)),(24,vB 5 (.gref 48 (j+1)) (.slice [] true)),(48,.grow ((L.take (j+1)).map A4) 6)],1000⟩
theorem LM(s:ByteArray)(d:Nat)(L:List GV)(q:Nat):lsS s d L (0,q)=⟨[(0,.ref 1 0 0 3),(1,.val (.int .i64 d)),(4,.ref 8 0 0 6),(5,.ref 24 0 0 6)],[(1,rdB s q),(3,kB),(8,vB 0 (.slice [] true) (.slice [] true)),(24,vB 5 (.slice [] true) (.slice [] true))],1000⟩:=rfl
theorem J8(s:ByteArray)(d:Nat)(L:List GV)(j q:Nat):lsS s d L (j+1,q)=⟨[(0,.ref 1 0 0 3),(1,.val (.int .i64 d)),(4,.ref 8 0 0 6),(5,.ref 24 0 0 6)],[(1,rdB s q),(3,kB),(8,vB 0 (.slice [] true) (.slice [] true)),(24,vB 5 (.gref 48 (j+1)) (.slice [] true)),(48,.grow ((L.take (j+1)).map A4) 6)],1000⟩:=rfl
theorem k_list(n:Nat)(l:List (List UInt8×GV))(hl:l.length<=1048576)(h:∀ p ∈ l,Dz n p.1 p.2):Ke (n+1) 230 (MN (l.map (·.1))) (vL (l.map (·.2))):=by
 intro s i r d ha hr hz hd
 have w0:IntKind.i64.wrap (↑i+1)=↑i+1:=Aa (by have:=ha.2;omega) (by have:=ha.2;omega)
 rw[ZV]
 cases l with
 |nil=>
  have hT:=EH s (i+1) 93 (At.lt (x:=[]) ha.tail1) hz (At.str0 (x:=[]) ha.tail1) (by unfold nbl;omega)
  refine Zd [] func230 rfl ntmps230 results230 ?_
  ((try push_cast)<;>repeat' (first|apply Zi<;>intro _|exact Zp|with_reducible apply Za)<;>try push_cast)
  refine AWp.scope (Zy ?_)
  (have z:=w0;(try push_cast[z])<;>repeat' (first|apply Zi<;>intro _|refine Zs [(1,1)] hT ?_|exact Zo|with_reducible apply Za)<;>try push_cast[z])
  all_goals first|omega|skip
  simp only[A0G,MN]
  apply Zw<;>push_cast
 |cons p l=>
  obtain⟨⟨c,y,hy1,hy2,hy3,hy4⟩,hv⟩:=h p (by simp)
  have ha2:=ha
  simp only[A0j,MN] at ha2
  have hA:=ha2.tail1
  have hF:=Jt s (i+1) 93 (by rw[hy1] at hA;exact hA.lt) (by rw[hy1] at hA;rw[At.str0 hA];omega) (by rw[hy1] at hA;rw[At.str0 hA];exact hy2)
  have hend:i+(MN ((p::l).map (·.1))).length+r.length=s.size:=ha.2
  generalize hm:(MN ((p::l).map (·.1))).length=m at*
  clear ha ha2 hy1 hy2 hv
  generalize hL:p::l=L at*
  have hL0:∃ z zs,L.drop 0=z::zs/\At s (i+1) (z.1++EZ (zs.map (·.1))) r:=⟨p,l,by rw[<-hL];rfl,hA⟩
  clear hL hA hm
  refine Zd [] func230 rfl ntmps230 results230 ?_
  ((try push_cast)<;>repeat' (first|apply Zi<;>intro _|exact Zp|with_reducible apply Za)<;>try push_cast)
  refine AWp.scope (Zy ?_)
  (have z:=w0;(try push_cast[z])<;>repeat' (first|apply Zi<;>intro _|refine Zs [(1,1)] hF ?_|exact Zo|with_reducible apply Za)<;>try push_cast[z])
  all_goals first|omega|skip
  refine AWp.loopI mixed (by kernel_rfl) (ι:=Nat×Nat) (fun a=>∃ z zs,L.drop a.1=z::zs/\At s a.2 (z.1++EZ (zs.map (·.1))) r) (lsS s d (L.map (·.2))) (fun a=>L.length-a.1) (0,i+1) hL0 ?_ fun a hi=>?_
  ·rw[LM]
   apply Zw<;>push_cast
  ·obtain⟨j,q⟩:=a
   obtain⟨z,zs,hz1,hq⟩:=hi
   simp only at hz1 hq
   have hjl:j<L.length:=by
    have:=congrArg List.length hz1
    rw[A0s,A0g] at this
    omega
   have hzm:z ∈ L:=A0D (by rw[hz1];simp)
   obtain⟨hz2,hv⟩:=h z hzm
   have hv1:=hv s q (EZ (zs.map (·.1))++r) (d+1) hq.head (by
    intro c hc
    cases zs with
    |nil=>cases hc;exact .inr (.inl rfl)
    |cons w ws=>cases hc;exact .inl rfl) hz (by omega)
   obtain⟨x1,x2,x3,x4⟩:=An z.2
   have htk:((L.map (·.2)).take (j+1)).map A4=((L.map (·.2)).take j).map A4++[A4 z.2]:=by
    have:(L.map (·.2))[j]? =some z.2:=by
     have h2:L[j]? =some z:=by
      have:=congrArg (·[0]?) hz1
      simpa[A10] using this
     simp[h2]
    rw[List.take_add_one,this,A0F];rfl
   have oT:=Fm ((L.map (·.2)).take j)
   have lT:(((L.map (·.2)).take j).map A4).length=j:=by rw[A07,A0C,A07];omega
   have aT:∀ y ∈ ((L.map (·.2)).take j).map A4,y.length=6:=fun y hy=>by obtain⟨x,_,rfl⟩:=A0i.1 hy;exact AW x
   have hqt:=hq.tail
   have wd:IntKind.i64.wrap (↑d+1)=↑d+1:=Aa (by omega) (by omega)
   generalize hlen:z.1.length=m1 at*
   generalize A4 z.2=V at*
   generalize hLV:L.map (·.2)=LV at*
   clear h hv hz2
   cases zs with
   |cons w ws=>
    have hjt:EZ ((w::ws).map (·.1))=44::(w.1++EZ (ws.map (·.1))):=rfl
    rw[hjt] at hqt
    have hT2:=EH s (q+m1) 44 hqt.lt hz hqt.str0 (by unfold nbl;omega)
    have hn:∃ z zs,L.drop (j+1)=z::zs/\At s (q+m1+1) (z.1++EZ (zs.map (·.1))) r:=⟨w,ws,by rw[<-List.drop_drop,hz1];rfl,hqt.tail1⟩
    cases j with
    |zero=>
     rw[LM]
     (have z:=Za x1<|Za x2<|Za x3<|Za x4 wd;(try push_cast[z])<;>repeat' (first|apply Zi<;>intro _|refine Zs [(1,1),(3,3)] (hv1 ..) ?_|refine Zs [(1,1)] hT2 ?_|exact Zo|with_reducible apply Za)<;>try push_cast[z])
     all_goals first|omega|(simp[x2];done)|skip
     refine⟨(1,q+m1+1),hn,by omega,?_⟩
     rw[J8,htk]
     apply Zr [(48,2056)] rfl<;>push_cast [x1,x2,x3,x4]
     all_goals trace_state
    |succ j=>
     rw[J8]
     generalize((LV.take (j+1)).map A4)=T at*
     (have z:=Za x1<|Za x2<|Za x3<|Za x4<|Za wd<|Za oT lT;(try push_cast[z])<;>repeat' (first|apply Zi<;>intro _|refine Zs [(1,1),(3,3)] (hv1 ..) ?_|refine Zs [(1,1)] hT2 ?_|exact Zo|with_reducible apply Za)<;>try push_cast[z])
     all_goals first|omega|(simp[x2];done)|exact aT|exact one1 x3|skip
     refine⟨(j+1+1,q+m1+1),hn,by omega,?_⟩
     rw[J8,htk]
     apply Zr [(48,2056)] rfl<;>push_cast [x1,x2,x3,x4,oT,lT]
   |nil=>
    have hjt:EZ ((([]:List (List UInt8×GV))).map (·.1))=93::[]:=rfl
    rw[hjt] at hqt
    have hF2:=Jt s (q+m1) 44 hqt.lt (by rw[hqt.str0];decide) (by rw[hqt.str0];unfold nbl;decide)
    have hT2:=EH s (q+m1) 93 hqt.lt hz hqt.str0 (by unfold nbl;omega)
    have hjL:LV.take (j+1)=LV:=A05 (by
     have:=congrArg List.length hz1
     rw[A0s,A0g,A0v] at this
     rw[<-hLV,A07];omega)
    have hqm:i+m=q+m1+1:=by
     have:=hqt.2
     simp at this
     omega
    rw[hjL] at htk
    rw[htk,hqm]
    cases j with
    |zero=>
     rw[LM]
     (have z:=Za x1<|Za x2<|Za x3<|Za x4 wd;(try push_cast[z])<;>repeat' (first|apply Zi<;>intro _|refine Zs [(1,1),(3,3)] (hv1 ..) ?_|refine Zs [(1,1)] hF2 ?_|refine Zs [(1,1)] hT2 ?_|exact Zo|with_reducible apply Za)<;>try push_cast[z])
     all_goals first|omega|(simp[x2];done)|skip
     refine Aw.trans (Aw.fzB (b:=2056) (x:=.grow ([]++[V]) 6) rfl) ?_
     push_cast[x1,x2,x3]
     apply Zw<;>push_cast [x1,x2,x3]
     all_goals trace_state
    |succ j=>
     rw[J8]
     generalize((LV.take (j+1)).map A4)=T at*
     (have z:=Za x1<|Za x2<|Za x3<|Za x4<|Za wd<|Za oT lT;(try push_cast[z])<;>repeat' (first|apply Zi<;>intro _|refine Zs [(1,1),(3,3)] (hv1 ..) ?_|refine Zs [(1,1)] hF2 ?_|refine Zs [(1,1)] hT2 ?_|exact Zo|with_reducible apply Za)<;>try push_cast[z])
     all_goals first|omega|(simp[x2];done)|exact aT|exact one1 x3|skip
     refine Aw.trans (Aw.fzB (b:=2056) (x:=.grow (T++[V]) 6) rfl) ?_
     have oTV:A3 (T++[V])=true:=by rw[Ew,oT];simp[A3,x1]
     have lTV:(T++[V]).length=j+1+1:=by rw[A04,lT];rfl
     generalize T++[V]=U at*
     push_cast[oTV,lTV]
     apply Zw<;>push_cast [oTV,lTV]
     all_goals trace_state
end Go.Ab
