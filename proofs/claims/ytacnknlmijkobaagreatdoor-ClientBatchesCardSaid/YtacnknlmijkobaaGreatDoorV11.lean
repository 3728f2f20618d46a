/- The layer by which the program is walked, and what its functions do: part 12 of 15. -/
import Derived.Test.YtacnknlmijkobaaGreatDoorV10
import Derived.Shelf.Small.Bits
set_option maxHeartbeats 4000000
set_option maxRecDepth 20000
set_option linter.unusedVariables false
set_option linter.unusedSimpArgs false
set_option linter.unnecessarySimpa false
namespace Go.Proofs
open Go.Ab Go.Proofs Go.Proofs.Tryz Go.RowKit Go.Shelf
attribute [local go_sem] Oper.semAt_some
set_option maxRecDepth 100000 in
set_option maxHeartbeats 4000000 in
theorem w_Quote(n:Nat)(s:ByteArray)(hs:s.size<=1048576)(w0:World)(hT:∀ W,Below w0.heap.size w0 W->Lib.Utf8Tabs (Tryz.sDecode_ren.g 3) (Tryz.sDecode_ren.g 4) W)(hT2:Lib.Utf8Tabs (Tryz.sValid_ren.g 3) (Tryz.sValid_ren.g 4) w0):
  CallsIn Fence.wide n prog 211 #[.string s] w0 fun e w'=>e=.returned (.tuple #[.string (A00 s),.int .i64 (if AI s=true then 0 else 3)])/\Below w0.heap.size w0 w':=by
 obtain⟨cd,hcd⟩:∃ cd:Int,cd=(if AI s=true then 0 else 3):=⟨_,rfl⟩
 rw[<-hcd]
 have hV:=c_valid (n-1) s w0 hs hT2
 refine callsIn_of_wp_marks func211 rfl trivial ?_
 simp only[ntmps211,A0y,A0g,A0t,Nat.reduceAdd,Nat.reduceSub,A1p,A1q,A1C,A1d,A0m,A0c]
 gi_wp2
 refine⟨trivial,fun h=>(by cases h),hV.mono ?_⟩
 rintro e w1 ⟨rfl,hb1⟩
 cases hv:AI s with
 |false=>
  rw[if_neg (by rw[hv];decide)] at hcd
  subst hcd
  gi_wp2
  refine⟨_,results_tmp2 rfl _ _ _,?_,hb1⟩
  simp[A00,hv]
  rfl
 |true=>
  rw[if_pos hv] at hcd
  subst hcd
  gi_wp2
  have hB0:Tryz.bld (w1.heap.size+1) (w1.heap.size+1) [] ((w1.alloc (.cells #[.map none] 354)).alloc (.cells #[.pointer none,.slice none 0 0] 149)):=by
   have:=Lib.IsBuilderF.of (Lib.fresh_isBuilder 149 5 (w1.alloc (.cells #[.map none] 354)))
   rwa[World.size_alloc] at this
  have hlo:w0.heap.size<=w1.heap.size:=hb1.size
  have e4:((w1.alloc (.cells #[.map none] 354)).alloc (.cells #[.pointer none,.slice none 0 0] 149)).heap[w1.heap.size]? =some (.cells #[.map none] 354 (0,0)):=
   (Below.heap_alloc _ _ _ (by simp)).trans (World.alloc_heap_new w1 _)
  have hb2:Below w0.heap.size w0 ((w1.alloc (.cells #[.map none] 354)).alloc (.cells #[.pointer none,.slice none 0 0] 149)):=(hb1.alloc (by omega) _).alloc (by simp;omega) _
  generalize(w1.alloc (.cells #[.map none] 354)).alloc (.cells #[.pointer none,.slice none 0 0] 149)=w2 at*
  obtain⟨b4,hb4⟩:∃ b4,b4=w1.heap.size:=⟨_,rfl⟩
  obtain⟨b,hbb⟩:∃ b,b=w1.heap.size+1:=⟨_,rfl⟩
  rw[<-hbb] at hB0|-
  rw[<-hb4] at hlo hbb e4|-
  clear hb4
  refine⟨trivial,fun h=>(by cases h),(callsIn_wide.2 (Tryz.bWb b b [] 34 w2 hB0 (by simp) (by have:=D6 hB0;omega))).mono ?_⟩
  rintro e w3 ⟨rfl,hB3,bb3,kk3⟩
  have f4:=KA hB0 kk3 (by omega) e4
  have hb3:Below w0.heap.size w0 w3:=hb2.trans (bb3.mono (by omega))
  gi_wp2
  refine⟨trivial,fun h=>(by cases h),(Vu (n-1) s w3).mono ?_⟩
  rintro e w4 ⟨rfl,hw4⟩
  obtain⟨bx,hbx⟩:∃ bx,bx=w3.heap.size:=⟨_,rfl⟩
  have hbl:=D6 hB3
  have k4:CM w3 w4:=by subst hw4;exact CM.below ((Below.refl _ _).alloc (A0a _) _)
  have hb4:Below w0.heap.size w0 w4:=by subst hw4;exact hb3.alloc hb3.size _
  have hx4:w4.heap[bx]? =some (.cells #[.string s] 9 (0,0)):=by subst hw4;rw[hbx];exact World.alloc_heap_new w3 _
  rw[<-hbx]
  have hI:QN s w0 b4 b bx 0 w4:=⟨⟨[34],Ky k4 hB3,by rw[List.drop_zero],by simp⟩,hb4,by omega,by omega,by omega,hx4,.inl (BY k4 f4),A0D _,by rw[List.drop_zero];exact hv⟩
  have hbx4:bx≠b4:=by omega
  clear hw4 hbx
  subst hbb
  gi_wp2
  refine Y5 (σ:=Nat) (gf:=332) (lb:=#[.pointer (some ⟨bx,0,none⟩)]) rfl (enters_of func332 (by kernel_rfl) rfl) (c_runes1 (n-1) s hs bx w0 hT) (fun _=>rfl) (QN s w0 b4 (b4+1) bx)
   (fun p W h=>⟨h.below,by simp[World.cell?,h.box],h.le,h.ok⟩)
   (fun p W W' h hb=>h.keepL (CM.below hb) (h.below.trans (hb.mono h.below.size)))
   (fun p W l r o hl hr h=>h.keepL (CM.put o hr) (h.below.trans ((Below.refl _ W).grown (grownBy_putObj' W l o) (by have:=h.below.size;omega) (fun k e=>by cases e;have:=hb4.size;omega))))
   hI
   (fun p=> {tmps:=#[.string s,undef,.string ⟨#[]⟩,.int .i64 0,.pointer (some ⟨b4,0,none⟩),.pointer (some ⟨b4+1,0,none⟩),undef,.int .i32 (rnA s p).1,undef,undef,.string s,.bool true,.bool false,.nilIface,.string s,
    .func (.func 332) #[] #[.pointer (some ⟨bx,0,none⟩)],.int .i64 p,.int .i32 (rnA s p).1,undef,undef,undef,undef,undef,undef,undef,undef,undef,undef,undef,undef,undef,undef,undef,undef,undef,undef,undef,undef,undef,undef,undef,undef,undef,undef,undef,undef],defers:=[]}) ?assign ?body ?done
  case assign=>
   intro l p W K hK
   unfold LJ
   gi_wp2
   exact hK
  case done=>
   intro D W hD hI hK
   obtain⟨acc,q,t1,t2⟩:=hI.start
   rw[List.drop_of_length_le (show s.data.toList.length<=s.size from A0a _),GO,A0H] at t1
   have ql:=D6 q.bld
   refine(show Exit.inBlock 0 _ _ _ _ from ?_)
   gi_wp2
   refine⟨trivial,fun h=>(by cases h),(callsIn_wide.2 (Tryz.bWb (b4+1) (b4+1) acc 34 W q.bld (by omega) (by omega))).mono ?_⟩
   rintro e W2 ⟨rfl,B2,bb,kk⟩
   have q2:=q.write B2 bb kk
   have ql2:=D6 q2.bld
   gi_wp2
   refine⟨trivial,fun h=>(by cases h),(callsIn_wide.2 (Tryz.bSt (b4+1) (b4+1) (acc++[34]) W2 B2 (by omega))).mono ?_⟩
   rintro e W3 ⟨rfl,bb3,kk3⟩
   have hK3:=((q2.keep.trans (KM B2 bb3 kk3))).same _ _ hK rfl
   gi_wp2
   refine⟨by simp,.inl ⟨_,_,rfl,run_takeDeferred hK3,?_⟩⟩
   refine⟨_,results_tmp2 rfl _ _ _,?_,?_⟩
   ·have e:A00 s=⟨(acc++[34]).toArray⟩:=by unfold A00;rw[if_pos hv,t1]
    rw[e]
    rfl
   ·exact(q2.below.trans (bb3.mono q2.blt)).grown (grownBy_putObj' W3 D _) (by have:=q2.below.size;have:=bb3.size;omega) (fun k e=>by cases e;have:=hb4.size;omega)
  case body=>
   intro l p W hI hp
   obtain⟨acc,q,t1,t2⟩:=hI.start
   have ql:=D6 q.bld
   have hok:=hI.ok
   obtain⟨v1,v2,v3,v4,v5⟩:=YA hp hok
   have hnx:∀ {W':World} {x:List UInt8},x=LH (s.data.toList.drop p)->MZ s w0 b4 (b4+1) bx W (acc++x) W'->KeepsOthers W W'/\QN s w0 b4 (b4+1) bx (p+(rnA s p).2) W':=fun hx h=>MZ.next hp hok t1 t2 hx h
   unfold LH at hnx
   change ∀ {W':World} {x:List UInt8},x=(if 32<=(rnA s p).1/\(rnA s p).1≠34/\(rnA s p).1≠92 then Lib.encodeRune (rnA s p).1 else match Je (rnA s p).1 with|some c=>[92,c]|none=>[92,117,48,48,X6 ((rnA s p).1/16),X6 ((rnA s p).1%16)])->_ at hnx
   generalize rnA s p=x at*
   obtain⟨r,wd⟩:=x
   simp only at*
   have hal:acc.length+16<=140737488355328:=by omega
   clear t1 t2 hI hok v1 v2
   gi_wp2
   refine⟨trivial,fun h=>(by cases h),CallsIn.inRound l ((ML (n-1-1-1) r W).mono ?_)⟩
   rintro e w' ⟨rfl,rfl⟩
   by_cases st:32<=r/\r≠34/\r≠92
   ·rw[if_pos st] at hnx
    rw[decide_eq_true st]
    gi_wp2
    refine⟨trivial,fun h=>(by cases h),CallsIn.inRound l ((callsIn_wide.2 (Tryz.bWr (b4+1) (b4+1) acc r v5 w' q.bld (by omega) (by omega))).mono ?_)⟩
    rintro e W2 ⟨rfl,B2,bb,kk⟩
    gi_wp2
    exact hnx rfl (q.write B2 bb kk)
   ·rw[if_neg st] at hnx
    rw[decide_eq_false st]
    have q0:∀ w:World,(binOp .eql 354 (.map none) (.map none)).run prog w=.ok (.bool true) w:=fun w=>Vn none w
    have q1:∀ (m:Nat) (w:World),(binOp .eql 354 (.map (some m)) (.map none)).run prog w=.ok (.bool false) w:=fun m w=>Vn (some m) w
    rcases q.map with e4|⟨m,e4,hm⟩
    ·have c4:w'.cell? ⟨b4,0,none⟩=some (.map none):=by simp[World.cell?,e4]
     have z4:w'.frozen? ⟨b4,0,none⟩=false:=by simp[World.frozen?,e4]
     gi_wp2
     refine⟨trivial,fun h=>(by cases h),CallsIn.inRound l ((XC (n-1-1-1) w').mono ?_)⟩
     rintro e W2 ⟨rfl,hm,hb⟩
     have e42:=BY (CM.below hb) e4
     have c42:W2.cell? ⟨b4,0,none⟩=some (.map none):=by simp[World.cell?,e42]
     have z42:W2.frozen? ⟨b4,0,none⟩=false:=by simp[World.frozen?,e42]
     obtain⟨q3,n4,m3⟩:=q.letters e4 hb hm hbx4 hlo
     have c43:(W2.setCell ⟨b4,0,none⟩ (.map (some w'.heap.size))).cell? ⟨b4,0,none⟩=some (.map (some w'.heap.size)):=by simp[World.cell?,n4]
     obtain⟨c,hlk,hc⟩:=NN m3 r v5
     cases hl:Je r with
     |some bt=>
      rw[hl] at hlk hnx
      obtain rfl:=hc bt hl
      obtain⟨le1,le2⟩:=RV hl
      simp only[Option.isSome_some] at hlk
      gi_wp2
      refine⟨trivial,fun h=>(by cases h),CallsIn.inRound l ((callsIn_wide.2 (Tryz.bWb (b4+1) (b4+1) acc 92 _ q3.bld (by omega) (by have:=D6 q3.bld;omega))).mono ?_)⟩
      rintro e W5 ⟨rfl,B5,bb5,kk5⟩
      have q5:=q3.write B5 bb5 kk5
      have l5:=D6 q5.bld
      gi_wp2
      refine⟨trivial,fun h=>(by cases h),CallsIn.inRound l ((callsIn_wide.2 (Tryz.bWr (b4+1) (b4+1) (acc++[92]) bt.toNat (by omega) _ q5.bld (by simp;omega) (by omega))).mono ?_)⟩
      rintro e W6 ⟨rfl,B6,bb6,kk6⟩
      have q6:=q5.write B6 bb6 kk6
      rw[le1,A0b] at q6
      gi_wp2
      exact hnx rfl q6
     |none=>
      rw[hl] at hlk hnx
      have hr:=NO hl st
      have h15:=and_15 hr
      have h16:0<=bits BinOp.and IntKind.i32 (r:Int) 15/\bits BinOp.and IntKind.i32 (r:Int) 15<16:=by omega
      simp only[A1f] at hlk
      gi_wp2
      refine⟨trivial,fun h=>(by cases h),CallsIn.inRound l ((callsIn_wide.2 (Tryz.bWs (b4+1) (b4+1) acc _ _ q3.bld (by show acc.length+4<=_;omega) (by have:=D6 q3.bld;omega))).mono ?_)⟩
      rintro e W5 ⟨rfl,B5,bb5,kk5⟩
      have q5:=q3.write B5 bb5 kk5
      have l5:=D6 q5.bld
      gi_wp2
      refine⟨trivial,fun h=>(by cases h),CallsIn.inRound l ((callsIn_wide.2 (Tryz.bWb (b4+1) (b4+1) _ _ _ q5.bld (by rw[A04];show acc.length+4+1<=_;omega) (by omega))).mono ?_)⟩
      rintro e W6 ⟨rfl,B6,bb6,kk6⟩
      have q6:=q5.write B6 bb6 kk6
      have l6:=D6 q6.bld
      gi_wp2
      refine⟨trivial,fun h=>(by cases h),CallsIn.inRound l ((callsIn_wide.2 (Tryz.bWb (b4+1) (b4+1) _ _ _ q6.bld (by rw[A04,A04];show acc.length+4+1+1<=_;omega) (by omega))).mono ?_)⟩
      rintro e W7 ⟨rfl,B7,bb7,kk7⟩
      have q7:=q6.write B7 bb7 kk7
      rw[Qe (by omega),Qe (by omega),A0b,A0b] at q7
      gi_wp2
      refine hnx ?_ q7
      rfl
    ·have c4:w'.cell? ⟨b4,0,none⟩=some (.map (some m)):=by simp[World.cell?,e4]
     have z4:w'.frozen? ⟨b4,0,none⟩=false:=by simp[World.frozen?,e4]
     obtain⟨c,hlk,hc⟩:=NN hm r v5
     cases hl:Je r with
     |some bt=>
      rw[hl] at hlk hnx
      obtain rfl:=hc bt hl
      obtain⟨le1,le2⟩:=RV hl
      simp only[Option.isSome_some] at hlk
      gi_wp2
      refine⟨trivial,fun h=>(by cases h),CallsIn.inRound l ((callsIn_wide.2 (Tryz.bWb (b4+1) (b4+1) acc 92 _ q.bld (by omega) (by have:=D6 q.bld;omega))).mono ?_)⟩
      rintro e W5 ⟨rfl,B5,bb5,kk5⟩
      have q5:=q.write B5 bb5 kk5
      have l5:=D6 q5.bld
      gi_wp2
      refine⟨trivial,fun h=>(by cases h),CallsIn.inRound l ((callsIn_wide.2 (Tryz.bWr (b4+1) (b4+1) (acc++[92]) bt.toNat (by omega) _ q5.bld (by simp;omega) (by omega))).mono ?_)⟩
      rintro e W6 ⟨rfl,B6,bb6,kk6⟩
      have q6:=q5.write B6 bb6 kk6
      rw[le1,A0b] at q6
      gi_wp2
      exact hnx rfl q6
     |none=>
      rw[hl] at hlk hnx
      have hr:=NO hl st
      have h15:=and_15 hr
      have h16:0<=bits BinOp.and IntKind.i32 (r:Int) 15/\bits BinOp.and IntKind.i32 (r:Int) 15<16:=by omega
      simp only[A1f] at hlk
      gi_wp2
      refine⟨trivial,fun h=>(by cases h),CallsIn.inRound l ((callsIn_wide.2 (Tryz.bWs (b4+1) (b4+1) acc _ _ q.bld (by show acc.length+4<=_;omega) (by have:=D6 q.bld;omega))).mono ?_)⟩
      rintro e W5 ⟨rfl,B5,bb5,kk5⟩
      have q5:=q.write B5 bb5 kk5
      have l5:=D6 q5.bld
      gi_wp2
      refine⟨trivial,fun h=>(by cases h),CallsIn.inRound l ((callsIn_wide.2 (Tryz.bWb (b4+1) (b4+1) _ _ _ q5.bld (by rw[A04];show acc.length+4+1<=_;omega) (by omega))).mono ?_)⟩
      rintro e W6 ⟨rfl,B6,bb6,kk6⟩
      have q6:=q5.write B6 bb6 kk6
      have l6:=D6 q6.bld
      gi_wp2
      refine⟨trivial,fun h=>(by cases h),CallsIn.inRound l ((callsIn_wide.2 (Tryz.bWb (b4+1) (b4+1) _ _ _ q6.bld (by rw[A04,A04];show acc.length+4+1+1<=_;omega) (by omega))).mono ?_)⟩
      rintro e W7 ⟨rfl,B7,bb7,kk7⟩
      have q7:=q6.write B7 bb7 kk7
      rw[Qe (by omega),Qe (by omega),A0b,A0b] at q7
      gi_wp2
      refine hnx ?_ q7
      rfl
end Go.Proofs
namespace Go.Ab
open Go.Proofs Go.Proofs.Tryz
theorem Nz{d:Nat}:∀ {l:List GV},(∀ j,j<l.length->Bp (l.getD j zV) d=0)->Ek l d=0
 |[],_=>rfl
 |v::l,h=>by
  have h0:=h 0 (by simp)
  simp only[A0E] at h0
  simp only[Ek,h0]
  simpa using Nz (l:=l) fun j hj=>by simpa using h (j+1) (by simpa using hj)
theorem Ny{d:Nat}:∀ {l:List GV} {i:Nat},i<l.length->(∀ j,j<i->Bp (l.getD j zV) d=0)->Bp (l.getD i zV) d≠0->Ek l d=Bp (l.getD i zV) d
 |v::l,0,_,_,h=>by
  simp only[A0E] at h|-
  simp only[Ek,if_pos h]
 |v::l,i+1,hi,h,hh=>by
  have h0:=h 0 (by omega)
  simp only[A0E] at h0
  simp only[Ek,h0,A1D]
  simp only[ne_eq,not_true_eq_false,if_false]
  exact Ny (by simpa using hi) (fun j hj=>by simpa using h (j+1) (by omega)) (by simpa using hh)
def Nq(p:Option ByteArray)(l:List (ByteArray×GV))(j:Nat):Option ByteArray:=if j=0 then p else some (l.getD (j-1) zM).1
theorem TL(p:Option ByteArray)(x:ByteArray×GV)(l:List (ByteArray×GV))(j:Nat):Nq p (x::l) (j+1)=Nq (some x.1) l j:=by
 unfold Nq
 cases j with
 |zero=>simp
 |succ j=>simp
noncomputable def De(p:Option ByteArray)(l:List (ByteArray×GV))(d j:Nat):Int:=M3 (Nq p l j) (l.getD j zM).1 (l.getD j zM).2 d
theorem FV(p:Option ByteArray)(x:ByteArray×GV)(l:List (ByteArray×GV))(d j:Nat):De p (x::l) d (j+1)=De (some x.1) l d j:=by
 unfold De
 rw[TL,A1D]
theorem NB{d:Nat}:∀ {p:Option ByteArray} {l:List (ByteArray×GV)},(∀ j,j<l.length->De p l d j=0)->Gm p l d=0
 |_,[],_=>rfl
 |p,(k,v)::l,h=>by
  have h0:M3 p k v d=0:=h 0 (by simp)
  rw[ER,if_neg (by simp[h0])]
  exact NB fun j hj=>by rw[<-FV p (k,v)];exact h (j+1) (by simpa using hj)
theorem NA{d:Nat}:∀ {p:Option ByteArray} {l:List (ByteArray×GV)} {i:Nat},i<l.length->(∀ j,j<i->De p l d j=0)->De p l d i≠0->Gm p l d=De p l d i
 |p,(k,v)::l,0,_,_,h=>by
  have e:De p ((k,v)::l) d 0=M3 p k v d:=rfl
  rw[e] at h|-
  rw[ER,if_pos h]
 |p,(k,v)::l,i+1,hi,h,hh=>by
  have h0:M3 p k v d=0:=h 0 (by omega)
  rw[ER,if_neg (by simp[h0]),FV]
  rw[FV] at hh
  exact NA (by simpa using hi) (fun j hj=>by rw[<-FV p (k,v)];exact h (j+1) (by omega)) hh
theorem memAt_0(l:List (ByteArray×GV))(d:Nat):De none l d 0=if AI (l.getD 0 zM).1=false then 3 else Bp (l.getD 0 zM).2 d:=by simp[De,M3,Nq]
theorem memAt_s(l:List (ByteArray×GV))(d j:Nat)(h:0<j):De none l d j=if AI (l.getD j zM).1=false then 3 else if ltS (l.getD (j-1) zM).1 (l.getD j zM).1=false then 8 else Bp (l.getD j zM).2 d:=by
 have:j≠0:=by omega
 simp[De,M3,Nq,this]
theorem c_odd(v:GV):A0 prog 207 [.agg (A5 v)] (.val (.bool (Fh v))):=by
 rw[A4]
 refine Zk [] func207 rfl ntmps207 results207 fun H Hb=>?_
 ((try push_cast)<;>repeat' (first|apply Zi<;>intro _|exact Zp|with_reducible apply Za)<;>try push_cast)
 all_goals
  clear H Hb
  unfold Fh
  rw[V4]
  generalize decide (v.s=(⟨#[]⟩:ByteArray))=z at*
  generalize v.list.length=L at*
  generalize v.obj.length=O at*
  generalize v.kind=k at*
  generalize v.n=n at*
  generalize v.b=b at*
  clear v
  rcases A17 L with hL|hL<;>rcases A17 O with hO|hO<;>by_cases hn:n=0<;>cases z<;>cases b<;>first|(simp_all;done)|(simp_all;omega)|grind
theorem c_vmay(v:GV)(d:Nat)(hd:d<=65)(hs:Sm v):A0 prog 129 [.agg (A5 v),.val (.int .i64 d)] (.val (.int .i64 (Bp v d))):=by
 have hrec:∀ x,SizeOf.sizeOf x<SizeOf.sizeOf v->d+1<=65->Sm x->A0 prog 129 [.agg (A5 x),.val (.int .i64 ((d:Int)+1))] (.val (.int .i64 (Bp x (d+1)))):=fun x hx h h2=>by
  have:=c_vmay x (d+1) h h2
  rwa[A1U] at this
 have hl:=hs.list_le
 have ho':=hs.obj_le
 have hO:=c_odd v
 have hV:=Gc v.s
 have w1:IntKind.i64.wrap (↑d+1)=↑d+1:=A9 (by omega) (by omega)
 rw[Eu]
 rw[A4] at hO|-
 by_cases ho:Fh v=true
 ·rw[if_pos ho]
  rw[ho] at hO
  refine Zf [0] func129 rfl ntmps129 results129 ?_
  (have z:=trivial;(try push_cast)<;>repeat' (first|apply Zi<;>intro _|refine Zc hO ?_|exact Zp|with_reducible apply Za)<;>try push_cast)
 ·rw[if_neg ho]
  have ho:Fh v=false:=by simpa using ho
  rw[ho] at hO
  by_cases h64:64<d
  ·rw[if_pos h64]
   have b1:decide ((64:Int)<d)=true:=decide_eq_true (by omega)
   refine Zf [0] func129 rfl ntmps129 results129 ?_
   (have z:=b1;(try push_cast[z])<;>repeat' (first|apply Zi<;>intro _|refine Zc hO ?_|exact Zo|with_reducible apply Za)<;>try push_cast[z])
  ·rw[if_neg h64]
   have b1:decide ((64:Int)<d)=false:=decide_eq_false (by omega)
   by_cases k4:v.kind=4
   ·rw[if_pos k4]
    rw[k4] at hO|-
    cases hv:AI v.s with
    |true=>
     rw[hv] at hV
     refine Zf [0] func129 rfl ntmps129 results129 ?_
     (have z:=b1;(try push_cast[z])<;>repeat' (first|apply Zi<;>intro _|refine Zc hO ?_|refine Zc hV ?_|exact Zo|with_reducible apply Za)<;>try push_cast[z])
    |false=>
     rw[hv] at hV
     refine Zf [0] func129 rfl ntmps129 results129 ?_
     (have z:=b1;(try push_cast[z])<;>repeat' (first|apply Zi<;>intro _|refine Zc hO ?_|refine Zc hV ?_|exact Zo|with_reducible apply Za)<;>try push_cast[z])
   ·rw[if_neg k4]
    have e4:(v.kind==4)=false:=by simpa using k4
    by_cases k5:v.kind=5
    ·rw[if_pos k5]
     rw[k5] at hO|-
     have hrl:∀ i,i<v.list.length->A0 prog 129 [.agg (A5 (v.list.getD i zV)),.val (.int .i64 ((d:Int)+1))] (.val (.int .i64 (Bp (v.list.getD i zV) (d+1)))):=fun i hi=>hrec _ (GV.list_lt (Aj hi)) (by omega) (hs.list _ (Aj hi))
     refine Zf [0] func129 rfl ntmps129 results129 ?_
     (have z:=b1;(try push_cast[z])<;>repeat' (first|apply Zi<;>intro _|refine Zc hO ?_|exact Zo|with_reducible apply Za)<;>try push_cast[z])
     refine Zl (fun i=>i<=v.list.length/\∀ j,j<i->Bp (v.list.getD j zV) (d+1)=0) (fun i=>⟨[(30,.val (.int .i64 i)),(29,.val (.int .i64 v.list.length)),(28,.slice (v.list.map A5) false),(1,.val (.int .i64 d))],[],400⟩) (fun i=>v.list.length-i) 0 (by simp) ?_ fun i hi=>?_
     ·apply Zw<;>push_cast
     ·obtain⟨h1,h2⟩:=hi
      push_cast
      refine Af (fun ha=>?_) (fun ha=>?_)
      ·have hi':i<v.list.length:=by simpa using ha
       have e1:=Et hi'
       have hr:=hrl i hi'
       have hhit:=Ny hi' h2
       generalize hx:v.list.getD i zV=x at*
       by_cases hc:Bp x (d+1)=0
       ·rw[hc] at hr
        (have z:=Za e1 w1;(try push_cast[z])<;>repeat' (first|apply Zi<;>intro _|refine Zc (hr ..) ?_|exact Zo|with_reducible apply Za)<;>try push_cast[z])
        all_goals first|omega|skip
        refine⟨i+1,⟨hi',fun j hj=>?_⟩,by omega,?_⟩
        ·by_cases hji:j=i
         ·rw[hji,hx];exact hc
         ·exact h2 j (by omega)
        ·apply Zw<;>push_cast
         exact A9 (by omega) (by omega)
       ·have b3:(Bp x (d+1) !=0)=true:=by simpa using hc
        rw[hhit hc]
        generalize Bp x (d+1)=c at*
        (have z:=Za e1<|Za w1 b3;(try push_cast[z])<;>repeat' (first|apply Zi<;>intro _|refine Zc (hr ..) ?_|exact Zo|with_reducible apply Za)<;>try push_cast[z])
        all_goals first|omega|skip
      ·have hi':i=v.list.length:=by simp at ha;omega
       subst hi'
       rw[Nz h2]
       ((try push_cast)<;>repeat' (first|apply Zi<;>intro _|exact Zp|with_reducible apply Za)<;>try push_cast)
    ·rw[if_neg k5]
     have e5:(v.kind==5)=false:=by simpa using k5
     by_cases k6:v.kind=6
     ·rw[if_pos k6]
      rw[k6] at hO|-
      have hrl:∀ i,i<v.obj.length->A0 prog 129 [.agg (A5 (v.obj.getD i zM).2),.val (.int .i64 ((d:Int)+1))] (.val (.int .i64 (Bp (v.obj.getD i zM).2 (d+1)))):=fun i hi=>hrec _ (GV.obj_lt (Aj hi)) (by omega) (hs.obj _ (Aj hi))
      refine Zf [0] func129 rfl ntmps129 results129 ?_
      (have z:=b1;(try push_cast[z])<;>repeat' (first|apply Zi<;>intro _|refine Zc hO ?_|exact Zo|with_reducible apply Za)<;>try push_cast[z])
      refine Zl (fun i=>i<=v.obj.length/\∀ j,j<i->De none v.obj (d+1) j=0) (fun i=>⟨[(47,.val (.int .i64 i)),(46,.val (.int .i64 v.obj.length)),(45,.slice (v.obj.map A7) false),(1,.val (.int .i64 d)),(2,.ptr [.val (.int .i64 6),.val (.bool v.b),.val (.int .i64 v.n),.val (.string v.s),.slice (v.list.map A5) false,.slice (v.obj.map A7) false] 0)],[],400⟩) (fun i=>v.obj.length-i) 0 (by simp) ?_ fun i hi=>?_
      ·apply Zw<;>push_cast
      ·obtain⟨h1,h2⟩:=hi
       push_cast
       refine Af (fun ha=>?_) (fun ha=>?_)
       ·have hi':i<v.obj.length:=by simpa using ha
        have e1:=Bk hi'
        have hr:=hrl i hi'
        have hK:=Gc (v.obj.getD i zM).1
        have hhit:=NA hi' h2
        have w2:IntKind.i64.wrap (↑i+1)=↑i+1:=A9 (by omega) (by omega)
        have hnext:De none v.obj (d+1) i=0->∀ j,j<i+1->De none v.obj (d+1) j=0:=fun h j hj=>by
         by_cases hji:j=i
         ·rw[hji];exact h
         ·exact h2 j (by omega)
        rcases A17 i with hz|hz
        ·subst hz
         have e0:=memAt_0 v.obj (d+1)
         cases hv:AI (v.obj.getD 0 zM).1 with
         |false=>
          rw[hv] at hK
          have e2:De none v.obj (d+1) 0=3:=by rw[e0,hv];rfl
          rw[e2] at hhit
          rw[hhit (by decide)]
          (have z:=Za e1 @Ah;(try push_cast[z])<;>repeat' (first|apply Zi<;>intro _|refine Zc hK ?_|exact Zo|with_reducible apply Za)<;>try push_cast[z])
          all_goals first|omega|skip
         |true=>
          rw[hv] at hK
          have e2:De none v.obj (d+1) 0=Bp (v.obj.getD 0 zM).2 (d+1):=by rw[e0,hv];rfl
          by_cases hc:Bp (v.obj.getD 0 zM).2 (d+1)=0
          ·rw[hc] at hr
           (have z:=Za e1<|Za @Ah w1;(try push_cast[z])<;>repeat' (first|apply Zi<;>intro _|refine Zc hK ?_|refine Zc (hr ..) ?_|exact Zo|with_reducible apply Za)<;>try push_cast[z])
           all_goals first|omega|skip
           refine⟨1,⟨hi',hnext (by rw[e2];exact hc)⟩,by omega,?_⟩
           apply Zw<;>push_cast
           all_goals first|exact w2|skip
          ·rw[e2] at hhit
           have b3:(Bp (v.obj.getD 0 zM).2 (d+1) !=0)=true:=by simpa using hc
           rw[hhit hc]
           generalize Bp (v.obj.getD 0 zM).2 (d+1)=c at*
           (have z:=Za e1<|Za @Ah<|Za w1 b3;(try push_cast[z])<;>repeat' (first|apply Zi<;>intro _|refine Zc hK ?_|refine Zc (hr ..) ?_|exact Zo|with_reducible apply Za)<;>try push_cast[z])
           all_goals first|omega|skip
        ·have e0:=memAt_s v.obj (d+1) i hz
         have b4:decide ((0:Int)<i)=true:=decide_eq_true (by omega)
         have e9:=Bk (l:=v.obj) (i:=i-1) (by omega)
         have w3:IntKind.i64.wrap (↑i-1)=((i-1:Nat):Int):=by rw[A9 (by omega) (by omega)];omega
         cases hv:AI (v.obj.getD i zM).1 with
         |false=>
          rw[hv] at hK
          have e2:De none v.obj (d+1) i=3:=by rw[e0,hv];rfl
          rw[e2] at hhit
          rw[hhit (by decide)]
          (have z:=Za e1 @Ah;(try push_cast[z])<;>repeat' (first|apply Zi<;>intro _|refine Zc hK ?_|exact Zo|with_reducible apply Za)<;>try push_cast[z])
          all_goals first|omega|skip
         |true=>
          rw[hv] at hK
          cases h9:ltS (v.obj.getD (i-1) zM).1 (v.obj.getD i zM).1 with
          |false=>
           have e2:De none v.obj (d+1) i=8:=by rw[e0,hv,h9];rfl
           rw[e2] at hhit
           rw[hhit (by decide)]
           (have z:=Za e1<|Za e9<|Za @Ah<|Za b4<|Za w3 h9;(try push_cast[z])<;>repeat' (first|apply Zi<;>intro _|refine Zc hK ?_|exact Zo|with_reducible apply Za)<;>try push_cast[z])
           all_goals first|omega|skip
          |true=>
           have e2:De none v.obj (d+1) i=Bp (v.obj.getD i zM).2 (d+1):=by rw[e0,hv,h9];rfl
           by_cases hc:Bp (v.obj.getD i zM).2 (d+1)=0
           ·rw[hc] at hr
            (have z:=Za e1<|Za e9<|Za @Ah<|Za b4<|Za w1<|Za w3 h9;(try push_cast[z])<;>repeat' (first|apply Zi<;>intro _|refine Zc hK ?_|refine Zc (hr ..) ?_|exact Zo|with_reducible apply Za)<;>try push_cast[z])
            all_goals first|omega|skip
            refine⟨i+1,⟨hi',hnext (by rw[e2];exact hc)⟩,by omega,?_⟩
            apply Zw<;>push_cast
            all_goals first|exact w2|skip
           ·rw[e2] at hhit
            have b3:(Bp (v.obj.getD i zM).2 (d+1) !=0)=true:=by simpa using hc
            rw[hhit hc]
            generalize Bp (v.obj.getD i zM).2 (d+1)=c at*
            (have z:=Za e1<|Za e9<|Za @Ah<|Za b4<|Za w1<|Za w3<|Za b3 h9;(try push_cast[z])<;>repeat' (first|apply Zi<;>intro _|refine Zc hK ?_|refine Zc (hr ..) ?_|exact Zo|with_reducible apply Za)<;>try push_cast[z])
            all_goals first|omega|skip
       ·have hi':i=v.obj.length:=by simp at ha;omega
        subst hi'
        rw[NB h2]
        ((try push_cast)<;>repeat' (first|apply Zi<;>intro _|exact Zp|with_reducible apply Za)<;>try push_cast)
     ·rw[if_neg k6]
      have e6:(v.kind==6)=false:=by simpa using k6
      refine Zf [0] func129 rfl ntmps129 results129 ?_
      (have z:=Za b1<|Za e4<|Za e5 e6;(try push_cast[z])<;>repeat' (first|apply Zi<;>intro _|refine Zc hO ?_|exact Zo|with_reducible apply Za)<;>try push_cast[z])
termination_by SizeOf.sizeOf v
theorem Uu(v:GV)(hs:Sm v):A0 prog 76 [.agg (A5 v)] (.val (.int .i64 (Bp v 1))):=by
 have h:A0 prog 129 [.agg (A5 v),.val (.int .i64 1)] (.val (.int .i64 (Bp v 1))):=c_vmay v 1 (by omega) hs
 rw[A4] at h|-
 refine Zf [0] func76 rfl ntmps76 results76 ?_
 (have z:=trivial;(try push_cast)<;>repeat' (first|apply Zi<;>intro _|refine Zc h ?_|exact Zp|with_reducible apply Za)<;>try push_cast)
theorem Su{l:List GV}{i:Nat}(h:i<l.length):D4 (l.take (i+1))=max (D4 (l.take i)) (CR (l.getD i zV)):=by
 induction l generalizing i with
 |nil=>simp at h
 |cons x l ih=>
  cases i with
  |zero=>simp [D4]
  |succ i=>
   have:=ih (i:=i) (by simpa using h)
   simp only[A1j,D4,A1D,this]
   omega
theorem Uo{l:List GV}{x:GV}(h:x ∈ l):CR x<=D4 l:=by
 induction l with
 |nil=>cases h
 |cons y l ih=>
  simp only[D4]
  rcases A0s.1 h with rfl|h
  ·omega
  ·have:=ih h;omega
theorem Sv{l:List (ByteArray×GV)}{i:Nat}(h:i<l.length):D5 (l.take (i+1))=max (D5 (l.take i)) (CR (l.getD i zM).2):=by
 induction l generalizing i with
 |nil=>simp at h
 |cons x l ih=>
  obtain⟨k,v⟩:=x
  cases i with
  |zero=>simp [D5]
  |succ i=>
   have:=ih (i:=i) (by simpa using h)
   simp only[A1j,D5,A1D,this]
   omega
theorem Up{l:List (ByteArray×GV)}{x:ByteArray×GV}(h:x ∈ l):CR x.2<=D5 l:=by
 induction l with
 |nil=>cases h
 |cons y l ih=>
  obtain⟨k,v⟩:=y
  simp only[D5]
  rcases A0s.1 h with rfl|h
  ·simp only;omega
  ·have:=ih h;omega
mutual
theorem MB:∀ (v:GV) (d:Nat),Bp v d=0->CR v+d<=65
 |.mk k b i s l o,d,h=>by
  obtain⟨v1,v2,v3,v4,v5⟩:=Jd h
  rw[JN]
  change(if k=5 then 1+D4 l else if k=6 then 1+D5 o else 1)+d<=65
  by_cases k5:k=5
  ·have h1:=Pa l (d+1) (v4 k5) (by omega)
   rw[if_pos k5];omega
  ·rw[if_neg k5]
   by_cases k6:k=6
   ·have h1:=Pb none o (d+1) (v5 k6) (by omega)
    rw[if_pos k6];omega
   ·rw[if_neg k6];omega
theorem Pa:∀ (l:List GV) (d:Nat),Ek l d=0->d<=65->D4 l+d<=65
 |[],d,h,hd=>by simp only[D4];omega
 |v::l,d,h,hd=>by
  simp only[Ek] at h
  split at h
  ·rename_i h1;exact absurd h h1
  ·rename_i h1
   have h2:=MB v d (by simpa using h1)
   have h3:=Pa l d h hd
   simp only[D4];omega
theorem Pb:∀ (p:Option ByteArray) (l:List (ByteArray×GV)) (d:Nat),Gm p l d=0->d<=65->D5 l+d<=65
 |_,[],d,h,hd=>by simp only[D5];omega
 |p,(k,v)::l,d,h,hd=>by
  rw[ER] at h
  split at h
  ·rename_i h1;exact absurd h h1
  ·rename_i h1
   have h2:=MB v d (Nx (by simpa using h1)).2
   have h3:=Pb (some k) l d h hd
   simp only[D5];omega
end
theorem Zn(a b:Nat):(if(b:Int)>(a:Int) then(b:Int) else(a:Int))=((max a b:Nat):Int):=by split<;>omega
theorem c_Deep(v:GV)(hs:Sm v)(hb:CR v<=65):A0 prog 106 [.agg (A5 v)] (.val (.int .i64 (CR v:Nat))):=by
 have hl:=hs.list_le
 have ho:=hs.obj_le
 have hrec:∀ x,SizeOf.sizeOf x<SizeOf.sizeOf v->Sm x->CR x<=65->A0 prog 106 [.agg (A5 x)] (.val (.int .i64 (CR x:Nat))):=fun x hx h2 h=>c_Deep x h2 h
 rw[JN] at hb|-
 by_cases k5:v.kind=5
 ·rw[if_pos k5] at hb|-
  have hrl:∀ i,i<v.list.length->A0 prog 106 [.agg (A5 (v.list.getD i zV))] (.val (.int .i64 (CR (v.list.getD i zV):Nat))):=fun i hi=>hrec _ (GV.list_lt (Aj hi)) (hs.list _ (Aj hi)) (by have:=Uo (Aj (d:=zV) hi);omega)
  rw[A4,k5]
  clear hrec
  refine Zf [0] func106 rfl ntmps106 results106 ?_
  ((try push_cast)<;>repeat' (first|apply Zi<;>intro _|exact Zp|with_reducible apply Za)<;>try push_cast)
  refine Zl (fun i=>i<=v.list.length) (fun i=>⟨[(15,.val (.int .i64 i)),(14,.val (.int .i64 v.list.length)),(13,.slice (v.list.map A5) false),(3,.val (.int .i64 (D4 (v.list.take i):Nat)))],[],400⟩) (fun i=>v.list.length-i) 0 (by simp) ?_ fun i hi=>?_
  ·apply Zw<;>push_cast
   all_goals simp[D4]
  ·push_cast
   refine Af (fun ha=>?_) (fun ha=>?_)
   ·have hi':i<v.list.length:=by simpa using ha
    have e1:=Et hi'
    have hr:=hrl i hi'
    have e2:=Su hi'
    (have z:=e1;(try push_cast[z])<;>repeat' (first|apply Zi<;>intro _|refine Zc (hr ..) ?_|exact Zo|with_reducible apply Za)<;>try push_cast[z])
    all_goals first|omega|skip
    refine⟨i+1,hi',by omega,?_⟩
    apply Zw<;>push_cast
    rw[e2]
    exact⟨A9 (by omega) (by omega),Zn _ _⟩
   ·have hi':i=v.list.length:=by simp at ha;omega
    subst hi'
    rw[A1h]
    ((try push_cast)<;>repeat' (first|apply Zi<;>intro _|exact Zp|with_reducible apply Za)<;>try push_cast)
    exact A9 (by omega) (by omega)
 ·rw[if_neg k5] at hb|-
  have e5:(v.kind==5)=false:=by simpa using k5
  by_cases k6:v.kind=6
  ·rw[if_pos k6] at hb|-
   have hrl:∀ i,i<v.obj.length->A0 prog 106 [.agg (A5 (v.obj.getD i zM).2)] (.val (.int .i64 (CR (v.obj.getD i zM).2:Nat))):=fun i hi=>hrec _ (GV.obj_lt (Aj hi)) (hs.obj _ (Aj hi)) (by have:=Up (Aj (d:=zM) hi);omega)
   rw[A4,k6]
   clear hrec
   refine Zf [0] func106 rfl ntmps106 results106 ?_
   ((try push_cast)<;>repeat' (first|apply Zi<;>intro _|exact Zp|with_reducible apply Za)<;>try push_cast)
   refine Zl (fun i=>i<=v.obj.length) (fun i=>⟨[(29,.val (.int .i64 i)),(28,.val (.int .i64 v.obj.length)),(27,.slice (v.obj.map A7) false),(3,.val (.int .i64 (D5 (v.obj.take i):Nat)))],[],400⟩) (fun i=>v.obj.length-i) 0 (by simp) ?_ fun i hi=>?_
   ·apply Zw<;>push_cast
    all_goals simp[D5]
   ·push_cast
    refine Af (fun ha=>?_) (fun ha=>?_)
    ·have hi':i<v.obj.length:=by simpa using ha
     have e1:=Bk hi'
     have hr:=hrl i hi'
     have e2:=Sv hi'
     (have z:=Za e1 @Ah;(try push_cast[z])<;>repeat' (first|apply Zi<;>intro _|refine Zc (hr ..) ?_|exact Zo|with_reducible apply Za)<;>try push_cast[z])
     all_goals first|omega|skip
     refine⟨i+1,hi',by omega,?_⟩
     apply Zw<;>push_cast
     rw[e2]
     exact⟨A9 (by omega) (by omega),Zn _ _⟩
    ·have hi':i=v.obj.length:=by simp at ha;omega
     subst hi'
     rw[A1h]
     ((try push_cast)<;>repeat' (first|apply Zi<;>intro _|exact Zp|with_reducible apply Za)<;>try push_cast)
     exact A9 (by omega) (by omega)
  ·rw[if_neg k6]
   have e6:(v.kind==6)=false:=by simpa using k6
   rw[A4]
   clear hrec
   refine Zf [0] func106 rfl ntmps106 results106 ?_
   (have z:=Za e5 e6;(try push_cast[z])<;>repeat' (first|apply Zi<;>intro _|exact Zo|with_reducible apply Za)<;>try push_cast[z])
   all_goals rfl
termination_by SizeOf.sizeOf v
abbrev wrB(n:Nat):Blk:=.rows [[.val (.bool false),.val (.pointer none),.slice [] true,.val (.int .i64 n)]] 4
def En:List ByteArray->Nat
 |[]=>0
 |s::l=>s.size+En l
theorem GB:∀ (a b:List ByteArray),En (a++b)=En a+En b
 |[],b=>by simp[En]
 |x::a,b=>by simp only[A0c,En,GB a b];omega
theorem VT{l:List ByteArray}{i:Nat}(h:i<l.length):En (l.take (i+1))=En (l.take i)+(l.getD i ByteArray.empty).size/\En (l.take (i+1))<=En l:=by
 have e:l.getD i ByteArray.empty=l[i]:=by rw[A02,A09 h];rfl
 have h1:En (l.take (i+1))=En (l.take i)+(l.getD i ByteArray.empty).size:=by
  rw[A1y h,e,GB]
  simp[En]
 refine⟨h1,?_⟩
 have h2:En l=En (l.take (i+1))+En (l.drop (i+1)):=by
  rw[<-GB,A12]
 omega
theorem c_join(parts:List ByteArray)(n:Nat)(hn:n+En parts<=4611686018427387904)(hl:parts.length<=2):
  A2 prog 131 [.ref 1 0 0 4,.sref 3 0 parts.length parts.length 1] [(1,wrB n),(3,.rows (parts.map fun s=>[.val (.string s)]) 1)] (.tup []) [(1,wrB (n+En parts))]:=by
 have oG:A6 (parts.map fun s=>[D.val (.string s)])=true:=AF (fun _=>rfl) parts
 refine Zd [] func131 rfl ntmps131 results131 ?_
 (have z:=oG;(try push_cast[z])<;>repeat' (first|apply Zi<;>intro _|exact Zo|with_reducible apply Za)<;>try push_cast[z])
 all_goals first|omega|skip
 refine Zl (fun i=>i<=parts.length) (fun i=>⟨[(8,.val (.int .i64 i)),(7,.val (.int .i64 parts.length)),(6,.sref 3 0 parts.length parts.length 1),(0,.ref 1 0 0 4)],[(1,wrB (n+En (parts.take i))),(3,.rows (parts.map fun s=>[.val (.string s)]) 1)],100⟩) (fun i=>parts.length-i) 0 (by simp) ?_ fun i hi=>?_
 ·apply Zw<;>push_cast [oG]
  all_goals try simp[En]
 ·push_cast[oG]
  refine Af (fun ha=>?_) (fun ha=>?_)
  ·have hi':i<parts.length:=by simpa using ha
   have e1:=Ho (f:=fun s:ByteArray=>[D.val (.string s)]) ByteArray.empty hi'
   obtain⟨t1,t2⟩:=VT hi'
   (have z:=Za e1 oG;(try push_cast[z])<;>repeat' (first|apply Zi<;>intro _|exact Zo|with_reducible apply Za)<;>try push_cast[z])
   all_goals first|omega|skip
   refine⟨i+1,hi',by omega,?_⟩
   apply Zw<;>push_cast [oG]
   ·exact A9 (by omega) (by omega)
   ·rw[t1,A1U,<-Int.add_assoc]
    exact A9 (by omega) (by omega)
  ·have hi':i=parts.length:=by simp at ha;omega
   subst hi'
   rw[A1h]
   (have z:=oG;(try push_cast[z])<;>repeat' (first|apply Zi<;>intro _|exact Zo|with_reducible apply Za)<;>try push_cast[z])
   all_goals first|omega|skip
   apply Zw<;>push_cast [oG]
theorem HF(i:Nat)(hi:i<=1048576):A0 prog 138 [.val (.int .i64 i)] (.val (.string (if i=0 then⟨#[]⟩ else⟨#[44]⟩))):=by
 by_cases h:i=0
 ·subst h
  refine Zf [] func138 rfl ntmps138 results138 ?_
  ((try push_cast)<;>repeat' (first|apply Zi<;>intro _|exact Zp|with_reducible apply Za)<;>try push_cast)
  all_goals rfl
 ·have b1:((i:Int)==0)=false:=by simpa using h
  rw[if_neg h]
  refine Zf [] func138 rfl ntmps138 results138 ?_
  (have z:=b1;(try push_cast[z])<;>repeat' (first|apply Zi<;>intro _|exact Zo|with_reducible apply Za)<;>try push_cast[z])
  all_goals rfl
theorem E1(s:ByteArray)(n:Nat)(h:n+s.size<=4611686018427387904):A2 prog 131 [.ref 1 0 0 4,.sref 3 0 1 1 1] [(1,wrB n),(3,.rows [[.val (.string s)]] 1)] (.tup []) [(1,wrB (n+s.size))]:=by
 have:=c_join [s] n (by simpa[En] using h) (Nat.le_succ 1)
 simpa[En] using this
theorem c_join2(s t:ByteArray)(n:Nat)(h:n+(s.size+t.size)<=4611686018427387904):A2 prog 131 [.ref 1 0 0 4,.sref 3 0 2 2 1] [(1,wrB n),(3,.rows [[.val (.string s)],[.val (.string t)]] 1)] (.tup []) [(1,wrB (n+(s.size+t.size)))]:=by
 have:=c_join [s,t] n (by simpa[En] using h) (A0a 2)
 simpa[En] using this
def Wr(f:FuncId)(caps:List D)(v:GV):Prop:=∀ n,n+CZ v<=2305843009213693952->A2 prog f (.ref 1 0 0 4::caps) [(1,wrB n)] (.tup []) [(1,wrB (n+CZ v))]
def Gs(v:GV):Prop:=
 (∃ f,A0 prog 77 [.agg (A5 v)] (.func (.func f) [] [.ptr (A5 v) 0])/\Wr f [.ptr (A5 v) 0] v)∨
 (A0 prog 77 [.agg (A5 v)] (.func (.func 141) [] [])/\Wr 141 [] v)
theorem YP(v:GV)(hk:v.kind=1):Gs v:=by
 refine .inr ⟨?_,fun n hn=>?_⟩
 ·rw[A4,hk]
  refine Zf [0] func77 rfl ntmps77 results77 ?_
  ((try push_cast)<;>repeat' (first|apply Zi<;>intro _|exact Zp|with_reducible apply Za)<;>try push_cast)
 ·have e:CZ v=4:=by rw[Ew,if_pos hk]
  rw[e] at hn|-
  have hJ:=E1 ⟨#[110,117,108,108]⟩ n (by show n+4<=_;omega)
  change A2 _ _ _ _ _ [(1,wrB (n+4))] at hJ
  refine Zd [] func141 rfl ntmps141 results141 ?_
  (have z:=trivial;(try push_cast)<;>repeat' (first|apply Zi<;>intro _|refine Zs [(1,1),(3,16)] hJ ?_|exact Zp|with_reducible apply Za)<;>try push_cast)
  apply Zw<;>push_cast
theorem Px{f:FuncId}{caps:List D}{v:GV}(s:ByteArray)(e:CZ v=s.size)(h:∀ n,n+s.size<=2305843009213693952->A2 prog f (.ref 1 0 0 4::caps) [(1,wrB n)] (.tup []) [(1,wrB (n+s.size))]):Wr f caps v:=by
 intro n hn
 rw[e] at hn|-
 exact h n hn
theorem YR(v:GV)(hk:v.kind=2):Gs v:=by
 refine .inl ⟨130,?_,?_⟩
 ·rw[A4,hk]
  refine Zf [0] func77 rfl ntmps77 results77 ?_
  ((try push_cast)<;>repeat' (first|apply Zi<;>intro _|exact Zp|with_reducible apply Za)<;>try push_cast)
 ·have hf:=Qw v.b
  have e:CZ v=(⟨(Lib.formatBool v.b).toArray⟩:ByteArray).size:=by
   rw[Ew,if_neg (by omega),if_pos hk]
   cases v.b<;>rfl
  refine Px _ e fun n hn=>?_
  generalize(⟨(Lib.formatBool v.b).toArray⟩:ByteArray)=s at*
  have hJ:=E1 s n (by omega)
  rw[A4,hk]
  refine Zd [] func130 rfl ntmps130 results130 ?_
  (have z:=trivial;(try push_cast)<;>repeat' (first|apply Zi<;>intro _|refine Zc (hf ..) ?_|refine Zs [(1,1),(3,40)] hJ ?_|exact Zp|with_reducible apply Za)<;>try push_cast)
  apply Zw<;>push_cast
theorem own_int(v:GV)(hs:Sm v)(hk:v.kind=3):Gs v:=by
 refine .inl ⟨133,?_,?_⟩
 ·rw[A4,hk]
  refine Zf [0] func77 rfl ntmps77 results77 ?_
  ((try push_cast)<;>repeat' (first|apply Zi<;>intro _|exact Zp|with_reducible apply Za)<;>try push_cast)
 ·have hf:=L0 v.n hs.int.1 hs.int.2
  have e:CZ v=(⟨(Lib.itoa v.n).toArray⟩:ByteArray).size:=by
   rw[Ew,if_neg (by omega),if_neg (by omega),if_pos hk]
   rfl
  refine Px _ e fun n hn=>?_
  generalize(⟨(Lib.itoa v.n).toArray⟩:ByteArray)=s at*
  have hJ:=E1 s n (by omega)
  rw[A4,hk]
  refine Zd [] func133 rfl ntmps133 results133 ?_
  (have z:=trivial;(try push_cast)<;>repeat' (first|apply Zi<;>intro _|refine Zc (hf ..) ?_|refine Zs [(1,1),(3,40)] hJ ?_|exact Zp|with_reducible apply Za)<;>try push_cast)
  apply Zw<;>push_cast
def N0:Prop:=∀ s:ByteArray,s.size<=1048576->∃ q:ByteArray,q.size=LN s/\A0 prog 136 [.val (.string s)] (.val (.string q))
theorem YO(hQ:N0)(v:GV)(hs:Sm v)(hk:v.kind=4):Gs v:=by
 refine .inl ⟨135,?_,?_⟩
 ·rw[A4,hk]
  refine Zf [0] func77 rfl ntmps77 results77 ?_
  ((try push_cast)<;>repeat' (first|apply Zi<;>intro _|exact Zp|with_reducible apply Za)<;>try push_cast)
 ·obtain⟨s,hz,hf⟩:=hQ v.s hs.text
  have e:CZ v=s.size:=by
   rw[Ew,if_neg (by omega),if_neg (by omega),if_neg (by omega),if_pos hk,hz]
  refine Px _ e fun n hn=>?_
  have hJ:=E1 s n (by omega)
  rw[A4,hk]
  refine Zd [] func135 rfl ntmps135 results135 ?_
  (have z:=trivial;(try push_cast)<;>repeat' (first|apply Zi<;>intro _|refine Zc (hf ..) ?_|refine Zs [(1,1),(3,40)] hJ ?_|exact Zp|with_reducible apply Za)<;>try push_cast)
  apply Zw<;>push_cast
theorem TZ{l:List GV}{i:Nat}(h:i<l.length):BQ (l.take (i+1))=BQ (l.take i)+CZ (l[i]'h)/\BQ (l.take (i+1))<=BQ l:=by
 have ap:∀ a b:List GV,BQ (a++b)=BQ a+BQ b:=fun a b=>by
  induction a with
  |nil=>simp [BQ]
  |cons x a ih=>simp only[A0c,BQ,ih];omega
 have h1:BQ (l.take (i+1))=BQ (l.take i)+CZ l[i]:=by
  rw[A1y h,ap]
  simp[BQ]
 refine⟨h1,?_⟩
 have h2:BQ l=BQ (l.take (i+1))+BQ (l.drop (i+1)):=by
  rw[<-ap,A12]
 omega
theorem YQ(v:GV)(hs:Sm v)(hk:v.kind=5)(ih:∀ x ∈ v.list,Gs x):Gs v:=by
 refine .inl ⟨137,?_,fun n hn=>?_⟩
 ·rw[A4,hk]
  refine Zf [0] func77 rfl ntmps77 results77 ?_
  ((try push_cast)<;>repeat' (first|apply Zi<;>intro _|exact Zp|with_reducible apply Za)<;>try push_cast)
 ·have e:CZ v=2+(v.list.length-1)+BQ v.list:=by
   rw[Ew,if_neg (by omega),if_neg (by omega),if_neg (by omega),if_neg (by omega),if_pos hk]
  rw[e] at hn|-
  have hll:=hs.list_le
  rw[A4,hk]
  generalize v.list=l at*
  have oL:=AF (f:=A5) BS l
  have hJ:=E1 ⟨#[91]⟩ n (by show n+1<=_;omega)
  change A2 _ _ _ _ _ [(1,wrB (n+1))] at hJ
  refine Zd [] func137 rfl ntmps137 results137 ?_
  (have z:=oL;(try push_cast[z])<;>repeat' (first|apply Zi<;>intro _|refine Zs [(1,1),(3,16)] hJ ?_|exact Zo|with_reducible apply Za)<;>try push_cast[z])
  all_goals first|omega|skip
  refine Zl (fun i=>i<=l.length) (fun i=>⟨[(11,.val (.int .i64 i)),(10,.val (.int .i64 l.length)),(9,.slice (l.map A5) false),(0,.ref 1 0 0 4)],[(1,wrB (n+1+(i-1)+BQ (l.take i)))],400⟩) (fun i=>l.length-i) 0 (by simp) ?_ fun i hi=>?_
  ·apply Zw<;>push_cast
   all_goals try simp[BQ]
  ·push_cast
   refine Af (fun ha=>?_) (fun ha=>?_)
   ·have hi':i<l.length:=by simpa using ha
    have e1:=Et hi'
    obtain⟨t1,t2⟩:=TZ hi'
    have hx:=ih _ (Aj (d:=zV) hi')
    have ex:l.getD i zV=l[i]:=by rw[A02,A09 hi'];rfl
    rw[<-ex] at t1
    generalize l.getD i zV=x at*
    have hB:=HF i (by omega)
    have w1:IntKind.i64.wrap (↑i+1)=↑i+1:=A9 (by omega) (by omega)
    have hJ2:=E1 (if i=0 then⟨#[]⟩ else⟨#[44]⟩) (n+1+(i-1)+BQ (l.take i)) (by
     split
     ·show _+0<=_;omega
     ·show _+1<=_;omega)
    have hz:n+1+(i-1)+BQ (l.take i)+(if i=0 then(⟨#[]⟩:ByteArray) else⟨#[44]⟩).size=n+1+i+BQ (l.take i):=by
     split
     ·show _+0=_;omega
     ·show _+1=_;omega
    rw[hz] at hJ2
    generalize(if i=0 then(⟨#[]⟩:ByteArray) else⟨#[44]⟩)=sep at*
    generalize n+1+(i-1)+BQ (l.take i)=m1 at*
    rcases hx with⟨f,h1,h2⟩|⟨h1,h2⟩
    ·have h3:=h2 (n+1+i+BQ (l.take i)) (by omega)
     (have z:=Za e1<|Za oL w1;(try push_cast[z])<;>repeat' (first|apply Zi<;>intro _|refine Zc hB ?_|refine Zs [(1,1),(3,880)] hJ2 ?_|refine Zc h1 ?_|refine Zt [(1,1)] h3 ?_|exact Zo|with_reducible apply Za)<;>try push_cast[z])
     all_goals first|omega|skip
     refine⟨i+1,hi',by omega,?_⟩
     apply Zw<;>push_cast
     rw[t1];push_cast;omega
    ·have h3:=h2 (n+1+i+BQ (l.take i)) (by omega)
     (have z:=Za e1<|Za oL w1;(try push_cast[z])<;>repeat' (first|apply Zi<;>intro _|refine Zc hB ?_|refine Zs [(1,1),(3,880)] hJ2 ?_|refine Zc h1 ?_|refine Zt [(1,1)] h3 ?_|exact Zo|with_reducible apply Za)<;>try push_cast[z])
     all_goals first|omega|skip
     refine⟨i+1,hi',by omega,?_⟩
     apply Zw<;>push_cast
     rw[t1];push_cast;omega
   ·have hi':i=l.length:=by simp at ha;omega
    subst hi'
    rw[A1h]
    have hJ3:=E1 ⟨#[93]⟩ (n+1+(l.length-1)+BQ l) (by show _+1<=_;omega)
    change A2 _ _ _ _ _ [(1,wrB (n+1+(l.length-1)+BQ l+1))] at hJ3
    (have z:=oL;(try push_cast[z])<;>repeat' (first|apply Zi<;>intro _|refine Zs [(1,1),(3,816)] hJ3 ?_|exact Zo|with_reducible apply Za)<;>try push_cast[z])
    all_goals first|omega|skip
    apply Zw<;>push_cast
    omega
theorem Pm(o:List (ByteArray×GV)):A0 prog 140 [.slice (o.map A7) false] (.func (.func 212) [] [.ptr [.slice (o.map A7) false] 0]):=by
 refine Zf [0] func140 rfl ntmps140 results140 ?_
 ((try push_cast)<;>repeat' (first|apply Zi<;>intro _|exact Zp|with_reducible apply Za)<;>try push_cast)
theorem U3{l:List (ByteArray×GV)}{i:Nat}(h:i<l.length):BH (l.take (i+1))=BH (l.take i)+(LN (l[i]'h).1+1+CZ (l[i]'h).2)/\BH (l.take (i+1))<=BH l:=by
 have ap:∀ a b:List (ByteArray×GV),BH (a++b)=BH a+BH b:=fun a b=>by
  induction a with
  |nil=>simp [BH]
  |cons x a ih=>simp only[A0c,BH,ih];omega
 have h1:BH (l.take (i+1))=BH (l.take i)+(LN (l[i]'h).1+1+CZ (l[i]'h).2):=by
  rw[A1y h,ap]
  simp[BH]
 refine⟨h1,?_⟩
 have h2:BH l=BH (l.take (i+1))+BH (l.drop (i+1)):=by
  rw[<-ap,A12]
 omega
def WJ(a c:Code)(m:Nat):Hp:=[(7,.loop [(2,.ptr [.ref 1 0 0 4] 0)] 23 .ready none [11,12] a c),(1,wrB m)]
theorem UC{a c:Code}(hQ:N0)(o:List (ByteArray×GV))(hol:o.length<=1048576)(hok:∀ x ∈ o,x.1.size<=1048576/\Gs x.2)(m0:Nat)(hm:m0+(o.length-1)+BH o<=2305843009213693951)
  (hY:∀ (s:ByteArray) (x:GV) (m:Nat),Gs x->m+(s.size+1)+CZ x<=2305843009213693951->∀ cs f,(cs=[.ptr (A5 x) 0]∨(cs=[]/\f=141))->Wr f cs x->DA prog 7 [.val (.string s),.func (.func f) [] cs] (WJ a c m) (.val (.bool true)) (WJ a c (m+(s.size+1)+CZ x))):
  A2 prog 212 [.yld 7,.ptr [.slice (o.map A7) false] 0] (WJ a c m0) (.tup []) (WJ a c (m0+(o.length-1)+BH o)):=by
 have oL:=AF (f:=A7) Al o
 unfold WJ at*
 refine Zd [] func212 rfl ntmps212 results212 ?_
 (have z:=oL;(try push_cast[z])<;>repeat' (first|apply Zi<;>intro _|exact Zo|with_reducible apply Za)<;>try push_cast[z])
 refine Zl (fun i=>i<=o.length) (fun i=>⟨[(7,.val (.int .i64 i)),(6,.val (.int .i64 o.length)),(5,.slice (o.map A7) false),(0,.yld 7)],[(7,.loop [(2,.ptr [.ref 1 0 0 4] 0)] 23 .ready none [11,12] a c),(1,wrB (m0+(i-1)+BH (o.take i)))],400⟩) (fun i=>o.length-i) 0 (by simp) ?_ fun i hi=>?_
 ·apply Zw<;>push_cast
  all_goals try simp[BH]
 ·push_cast
  refine Af (fun ha=>?_) (fun ha=>?_)
  ·have hi':i<o.length:=by simpa using ha
   have e1:=Bk hi'
   obtain⟨t1,t2⟩:=U3 hi'
   obtain⟨hks,hx⟩:=hok _ (Aj (d:=zM) hi')
   have ex:o.getD i zM=o[i]:=by rw[A02,A09 hi'];rfl
   rw[<-ex] at t1
   generalize o.getD i zM=x at*
   obtain⟨k,x⟩:=x
   obtain⟨q,hq,hq2⟩:=hQ k hks
   simp only at*
   have hB:=HF i (by omega)
   have w1:IntKind.i64.wrap (↑i+1)=↑i+1:=A9 (by omega) (by omega)
   have hz:m0+(i-1)+BH (o.take i)+(if i=0 then(⟨#[]⟩:ByteArray) else⟨#[44]⟩).size=m0+i+BH (o.take i):=by
    split
    ·show _+0=_;omega
    ·show _+1=_;omega
   generalize(if i=0 then(⟨#[]⟩:ByteArray) else⟨#[44]⟩)=sep at*
   generalize hm1:m0+(i-1)+BH (o.take i)=m1 at*
   have hy:=hY (sep++q) x m1 hx (by rw[ByteArray.size_append,hq];omega)
   rw[ByteArray.size_append,hq] at hy
   rcases hx with⟨f,h1,h2⟩|⟨h1,h2⟩
   ·have h3:=hy _ f (.inl rfl) h2
    (have z:=Za e1<|Za oL<|Za w1 @Ah;(try push_cast[z])<;>repeat' (first|apply Zi<;>intro _|refine Zc hB ?_|refine Zc (hq2 ..) ?_|refine Zc h1 ?_|exact Zo|with_reducible apply Za|(with_reducible show A1 _ _ _ _ _ _ _ _;refine A1.yield 7 (BK [(7,7),(1,1)]) rfl ?_ (by(try push_cast[z]);exact h3 ..) ?_ (by first|exact .inl rfl|exact .inr ⟨_,_,_,rfl,rfl,rfl⟩) ?_ ?_ ?_ ?_;(· push_cast[z]);(· push_cast[z]<;>(with_unfolding_all exact A8 _));(· push_cast[z]<;>(with_unfolding_all exact A8 _));(· push_cast[z]<;>(with_unfolding_all exact A8 _));(· push_cast[z]<;>(with_unfolding_all exact A8 _));try push_cast[z])|fail)<;>try push_cast[z])
    all_goals first|omega|skip
    refine⟨i+1,hi',by omega,?_⟩
    apply Zw<;>push_cast
    rw[t1];push_cast;omega
   ·have h3:=hy _ _ (.inr ⟨rfl,rfl⟩) h2
    (have z:=Za e1<|Za oL<|Za w1 @Ah;(try push_cast[z])<;>repeat' (first|apply Zi<;>intro _|refine Zc hB ?_|refine Zc (hq2 ..) ?_|refine Zc h1 ?_|exact Zo|with_reducible apply Za|(with_reducible show A1 _ _ _ _ _ _ _ _;refine A1.yield 7 (BK [(7,7),(1,1)]) rfl ?_ (by(try push_cast[z]);exact h3 ..) ?_ (by first|exact .inl rfl|exact .inr ⟨_,_,_,rfl,rfl,rfl⟩) ?_ ?_ ?_ ?_;(· push_cast[z]);(· push_cast[z]<;>(with_unfolding_all exact A8 _));(· push_cast[z]<;>(with_unfolding_all exact A8 _));(· push_cast[z]<;>(with_unfolding_all exact A8 _));(· push_cast[z]<;>(with_unfolding_all exact A8 _));try push_cast[z])|fail)<;>try push_cast[z])
    all_goals first|omega|skip
    refine⟨i+1,hi',by omega,?_⟩
    apply Zw<;>push_cast
    rw[t1];push_cast;omega
  ·have hi':i=o.length:=by simp at ha;omega
   subst hi'
   rw[A1h]
   (have z:=oL;(try push_cast[z])<;>repeat' (first|apply Zi<;>intro _|exact Zo|with_reducible apply Za)<;>try push_cast[z])
   all_goals first|omega|skip
   apply Zw<;>push_cast
theorem own_obj(hQ:N0)(v:GV)(hs:Sm v)(hk:v.kind=6)(ih:∀ x ∈ v.obj,Gs x.2):Gs v:=by
 refine .inl ⟨139,?_,fun n hn=>?_⟩
 ·rw[A4,hk]
  refine Zf [0] func77 rfl ntmps77 results77 ?_
  ((try push_cast)<;>repeat' (first|apply Zi<;>intro _|exact Zp|with_reducible apply Za)<;>try push_cast)
 ·have e:CZ v=2+(v.obj.length-1)+BH v.obj:=by
   rw[Ew,if_neg (by omega),if_neg (by omega),if_neg (by omega),if_neg (by omega),if_neg (by omega),if_pos hk]
  rw[e] at hn|-
  have hll:=hs.obj_le
  have hok:∀ x ∈ v.obj,x.1.size<=1048576/\Gs x.2:=fun x hx=>⟨hs.key x hx,ih x hx⟩
  rw[A4,hk]
  generalize v.obj=o at*
  have oL:=AF (f:=A7) Al o
  have hJ:=E1 ⟨#[123]⟩ n (by show n+1<=_;omega)
  change A2 _ _ _ _ _ [(1,wrB (n+1))] at hJ
  have hM:=Pm o
  refine A2.of_awpW func139 rfl ntmps139 (by kernel_rfl) (by simp) (congrArg Array.toList results139) ?_
  refine BF.seqV [8] mixed (by kernel_rfl) ?_
  ((try push_cast)<;>repeat' (first|apply Zi<;>intro _|exact Zp|with_reducible apply Za)<;>try push_cast)
  refine BF.seqV [] mixed (by kernel_rfl) ?_
  (have z:=oL;(try push_cast[z])<;>repeat' (first|apply Zi<;>intro _|refine Zs [(1,1),(3,24)] hJ ?_|exact Zo|with_reducible apply Za)<;>try push_cast[z])
  refine BF.seq ?_
  refine BF.seqV [] mixed (by kernel_rfl) ?_
  (have z:=oL;(try push_cast[z])<;>repeat' (first|apply Zi<;>intro _|refine Zc hM ?_|exact Zo|with_reducible apply Za)<;>try push_cast[z])
  refine BF.block ?_
  refine BF.range (y:=7) (BK [(7,64),(1,1)]) (env:=[(2,.ptr [.ref 1 0 0 4] 0)]) (ds:=[.yld 7,.ptr [.slice (o.map A7) false] 0]) rfl (UC hQ o hll hok (n+1) (by omega) ?hY) rfl rfl ?_ ?_ ?_ ?_ ?_ ?_ ?_
  case hY=>
   intro s x m hx hb cs f hcs hw
   have hJ2:=c_join2 s ⟨#[58]⟩ m (by show m+(s.size+1)<=_;omega)
   change A2 _ _ _ _ _ [(1,wrB (m+(s.size+1)))] at hJ2
   have h3:=hw (m+(s.size+1)) (by omega)
   unfold WJ
   rcases hcs with rfl|⟨rfl,rfl⟩
   ·refine DA.of_awp (by decide) rfl (by decide) ?_
    simp only[A1E,A1S,A1i,A1O,A0m,A0c]
    refine Zy ?_
    (have z:=@Er.eq_1;(try push_cast[z])<;>repeat' (first|apply Zi<;>intro _|exact Zo|with_reducible apply Za)<;>try push_cast[z])
    refine Zy ?_
    (have z:=@Ep.eq_1;(try push_cast[z])<;>repeat' (first|apply Zi<;>intro _|refine Zs [(1,1),(3,40)] hJ2 ?_|refine Zt [(1,1)] h3 ?_|exact Zo|with_reducible apply Za)<;>try push_cast[z])
    apply Zw<;>push_cast
   ·refine DA.of_awp (by decide) rfl (by decide) ?_
    simp only[A1E,A1S,A1i,A1O,A0m,A0c]
    refine Zy ?_
    (have z:=@Er.eq_1;(try push_cast[z])<;>repeat' (first|apply Zi<;>intro _|exact Zo|with_reducible apply Za)<;>try push_cast[z])
    refine Zy ?_
    (have z:=@Ep.eq_1;(try push_cast[z])<;>repeat' (first|apply Zi<;>intro _|refine Zs [(1,1),(3,40)] hJ2 ?_|refine Zt [(1,1)] h3 ?_|exact Zo|with_reducible apply Za)<;>try push_cast[z])
    apply Zw<;>push_cast
  ·push_cast
  ·push_cast
  ·push_cast[C7]
  ·push_cast[Ba]
  ·push_cast
  ·push_cast
  ·have hJ3:=E1 ⟨#[125]⟩ (n+1+(o.length-1)+BH o) (by show _+1<=_;omega)
   change A2 _ _ _ _ _ [(1,wrB (n+1+(o.length-1)+BH o+1))] at hJ3
   rw[show n+(2+(o.length-1)+BH o)=n+1+(o.length-1)+BH o+1 by omega]
   generalize n+1+(o.length-1)+BH o=m at*
   push_cast
   refine BF.vc [] mixed (by kernel_rfl) ?_
   (have z:=trivial;(try push_cast)<;>repeat' (first|apply Zi<;>intro _|refine Zs [(1,1),(3,88)] hJ3 ?_|exact Zp|with_reducible apply Za)<;>try push_cast)
   apply Zw<;>push_cast
theorem TN(hQ:N0)(v:GV)(hs:Sm v):Gs v:=by
 by_cases k2:v.kind=2
 ·exact YR v k2
 by_cases k3:v.kind=3
 ·exact own_int v hs k3
 by_cases k4:v.kind=4
 ·exact YO hQ v hs k4
 by_cases k5:v.kind=5
 ·exact YQ v hs k5 fun x hx=>TN hQ x (hs.list x hx)
 by_cases k6:v.kind=6
 ·exact own_obj hQ v hs k6 fun x hx=>TN hQ x.2 (hs.obj x hx)
 by_cases k1:v.kind=1
 ·exact YP v k1
 ·refine .inr ⟨?_,?_⟩
  ·have e2:(v.kind==2)=false:=by simpa using k2
   have e3:(v.kind==3)=false:=by simpa using k3
   have e4:(v.kind==4)=false:=by simpa using k4
   have e5:(v.kind==5)=false:=by simpa using k5
   have e6:(v.kind==6)=false:=by simpa using k6
   rw[A4]
   refine Zf [0] func77 rfl ntmps77 results77 ?_
   (have z:=Za e2<|Za e3<|Za e4<|Za e5 e6;(try push_cast[z])<;>repeat' (first|apply Zi<;>intro _|exact Zo|with_reducible apply Za)<;>try push_cast[z])
  ·refine Px ⟨#[110,117,108,108]⟩ ?_ fun n hn=>?_
   ·rw[Ew,if_neg k1,if_neg k2,if_neg k3,if_neg k4,if_neg k5,if_neg k6];rfl
   ·have hJ:=E1 ⟨#[110,117,108,108]⟩ n (by omega)
    refine Zd [] func141 rfl ntmps141 results141 ?_
    (have z:=trivial;(try push_cast)<;>repeat' (first|apply Zi<;>intro _|refine Zs [(1,1),(3,16)] hJ ?_|exact Zp|with_reducible apply Za)<;>try push_cast)
    apply Zw<;>push_cast
termination_by SizeOf.sizeOf v
decreasing_by
 ·exact GV.list_lt hx
 ·exact GV.obj_lt hx
theorem c_bytes(hQ:N0)(v:GV)(hs:Sm v)(hl:CZ v<=2305843009213693951):A0 prog 107 [.agg (A5 v)] (.val (.int .i64 (CZ v))):=by
 have hO:=TN hQ v hs
 rcases hO with⟨f,h1,h2⟩|⟨h1,h2⟩
 all_goals
  have h3:=h2 0 (by omega)
  first|rw [A4 v] at h1 h3|- |rw [A4 v] at h1|-
  refine Zf [0] func107 rfl ntmps107 results107 ?_
  (have z:=trivial;(try push_cast)<;>repeat' (first|apply Zi<;>intro _|refine Zc h1 ?_|refine Zt [(1,16)] h3 ?_|exact Zp|with_reducible apply Za)<;>try push_cast)
  all_goals skip
theorem c_Fits(hQ:N0)(v:GV)(hs:Sm v)(hw:wtV v<=2097152):A0 prog 66 [.agg (A5 v)] (.val (.int .i64 (B1 v))):=by
 have hM:=Uu v hs
 unfold B1
 by_cases h1:Bp v 1=0
 ·rw[if_neg (by simpa using h1)]
  rw[h1] at hM
  have hd:=MB v 1 h1
  have hD:=c_Deep v hs (by omega)
  have hlb:=TY v hs
  have hB:=c_bytes hQ v hs (by omega)
  rw[A4 v] at hM hD hB|-
  by_cases h2:16<CR v
  ·rw[if_pos h2]
   have b1:decide ((16:Int)<CR v)=true:=decide_eq_true (by omega)
   refine Zf [0] func66 rfl ntmps66 results66 ?_
   (have z:=b1;(try push_cast[z])<;>repeat' (first|apply Zi<;>intro _|refine Zc hM ?_|refine Zc hD ?_|exact Zo|with_reducible apply Za)<;>try push_cast[z])
  ·rw[if_neg h2]
   have b1:decide ((16:Int)<CR v)=false:=decide_eq_false (by omega)
   by_cases h3:1024<CZ v
   ·rw[if_pos h3]
    have b2:decide ((1024:Int)<CZ v)=true:=decide_eq_true (by omega)
    refine Zf [0] func66 rfl ntmps66 results66 ?_
    (have z:=Za b1 b2;(try push_cast[z])<;>repeat' (first|apply Zi<;>intro _|refine Zc hM ?_|refine Zc hD ?_|refine Zc hB ?_|exact Zo|with_reducible apply Za)<;>try push_cast[z])
   ·rw[if_neg h3]
    have b2:decide ((1024:Int)<CZ v)=false:=decide_eq_false (by omega)
    refine Zf [0] func66 rfl ntmps66 results66 ?_
    (have z:=Za b1 b2;(try push_cast[z])<;>repeat' (first|apply Zi<;>intro _|refine Zc hM ?_|refine Zc hD ?_|refine Zc hB ?_|exact Zo|with_reducible apply Za)<;>try push_cast[z])
 ·rw[if_pos h1]
  have b1:(Bp v 1 !=0)=true:=by simpa using h1
  rw[A4 v] at hM|-
  generalize Bp v 1=c at*
  refine Zf [0] func66 rfl ntmps66 results66 ?_
  (have z:=b1;(try push_cast[z])<;>repeat' (first|apply Zi<;>intro _|refine Zc hM ?_|exact Zo|with_reducible apply Za)<;>try push_cast[z])
end Go.Ab
namespace Go.Ab
open Go.Proofs Go.Proofs.Tryz Go.RowKit Go.Shelf
theorem GIn.below{P:Program}{w W:World}{I:Nat->Prop}(h:GIn P w I)(hb:Below w.heap.size w W):GIn P W I:=by
 intro g l hg
 obtain⟨a,T,fz,h5⟩:=h g l hg
 exact⟨a,T,fz,(hb.block g (A0k.1 h5).1).trans h5⟩
theorem okP_quo(s:ByteArray)(hs:s.size<=1048576):okP (.string (A00 s)):=by
 show(A00 s).size<=_
 have h:=(PP s).2
 rw[Np]
 omega
theorem VF(s:ByteArray)(hs:s.size<=1048576):A0 prog 211 [.val (.string s)] (.tup [.val (.string (A00 s)),.val (.int .i64 (if AI s=true then 0 else 3))]):=
 A0.of_vals (us:=[.string s]) (by kernel_rfl) rfl fun w I hg ho=>⟨.tuple #[.string (A00 s),.int .i64 (if AI s=true then 0 else 3)],fun _=>Rw (okP_quo s hs) (by simp only[okP,D2,D3];split<;>omega),
  callsIn_wide.1 (w_Quote 0 s hs w (fun W hb=>F4 (by kernel_rfl) (by kernel_rfl) (hg.below hb)) (F4 (by kernel_rfl) (by kernel_rfl) hg))⟩
theorem quo_ok:N0:=fun s hs=>⟨A00 s,Np s,by
 have h:=VF s hs
 refine Zf [] func136 rfl ntmps136 results136 ?_
 (have z:=trivial;(try push_cast)<;>repeat' (first|apply Zi<;>intro _|refine Zc h ?_|exact Zp|with_reducible apply Za)<;>try push_cast)⟩
theorem JJ(v:GV)(hs:Sm v)(hw:wtV v<=2097152):A0 prog 66 [.agg (A5 v)] (.val (.int .i64 (B1 v))):=c_Fits quo_ok v hs hw
theorem VA(n:Nat)(h:Dd n):A0 prog 52 [.val (.int .u64 n)] (.val (.bool true)):=by
 obtain⟨h1,h2⟩:=h
 have b1:decide ((0:Int)<n)=true:=decide_eq_true (by omega)
 have b2:decide ((n:Int)<=4611686018427387903)=true:=decide_eq_true (by omega)
 refine Zf [] func52 rfl ntmps52 results52 ?_
 (have z:=Za b1 b2;(try push_cast[z])<;>repeat' (first|apply Zi<;>intro _|exact Zo|with_reducible apply Za)<;>try push_cast[z])
theorem SK(n:Nat)(h:Dd n):A0 prog 75 [.val (.int .u64 n)] (.agg (A5 (vI n))):=by
 obtain⟨h1,h2⟩:=h
 have w1:IntKind.i64.wrap (n:Int)=n:=A9 (by omega) (by omega)
 rw[KV]
 refine Zf [] func75 rfl ntmps75 results75 ?_
 (have z:=w1;(try push_cast[z])<;>repeat' (first|apply Zi<;>intro _|exact Zo|with_reducible apply Za)<;>try push_cast[z])
theorem SE(b:Bool)(c:Int):A0 prog 142 [.val (.bool b),.val (.int .i64 c)] (.val (.int .i64 (if b then 0 else c))):=by
 cases b<;>refine Zf [] func142 rfl ntmps142 results142 ?_<;>((try push_cast)<;>repeat' (first|apply Zi<;>intro _|exact Zp|with_reducible apply Za)<;>try push_cast)
theorem SM:A0 prog 79 [.val (.int .u8 1)] (.val (.int .i64 0)):=by
 have h:=SE true 2
 refine Zf [] func79 rfl ntmps79 results79 ?_
 (have z:=trivial;(try push_cast)<;>repeat' (first|apply Zi<;>intro _|refine Zc h ?_|exact Zp|with_reducible apply Za)<;>try push_cast)
theorem c_like1:A0 prog 85 [.val (.int .u8 1),.val (.int .u8 1)] (.val (.int .i64 0)):=by
 have h:=SE true 13
 refine Zf [] func85 rfl ntmps85 results85 ?_
 (have z:=trivial;(try push_cast)<;>repeat' (first|apply Zi<;>intro _|refine Zc h ?_|exact Zp|with_reducible apply Za)<;>try push_cast)
theorem c_joined(l:List UInt8)(hl:l.length<=1048576)(h0:0<l.length):A0 prog 82 [.slice (l.map byD) false,.val (.int .u8 1)] (.slice ((1::l).map byD) false):=by
 have oL:=AL l
 have e0:(l.map byD).length=l.length:=A06 byD
 have b1:decide (1+l.length<=1)=false:=decide_eq_false (by omega)
 refine Zf [] func82 rfl ntmps82 results82 ?_
 (have z:=Za oL<|Za b1 e0;(try push_cast[z])<;>repeat' (first|apply Zi<;>intro _|exact Zo|with_reducible apply Za)<;>try push_cast[z])
 all_goals first|omega|exact JT _|skip
 rw[if_pos (by omega)]
 exact Am _
abbrev Ask:=FuncId×List D×List D
def QD(x:Ask):List D:=[.func (.func x.1) x.2.1 x.2.2]
def AskOk(x:Ask):Prop:=A0 prog x.1 (x.2.1++x.2.2) (.val (.int .i64 0))/\Ag x.2.1=true/\Ag x.2.2=true
theorem VD(l:List Ask)(hl:l.length<=1048576)(h:∀ x ∈ l,AskOk x):A0 prog 80 [.slice (l.map QD) false] (.val (.int .i64 0)):=by
 have oL:A6 (l.map QD)=true:=by
  induction l with
  |nil=>rfl
  |cons x l ih=>
   obtain⟨_,h1,h2⟩:=h x (by simp)
   simp only[A0h,A6,QD,Ag,D.pure,h1,h2,ih (by simp at hl;omega) fun y hy=>h y (by simp[hy]),A0M]
 have e0:(l.map QD).length=l.length:=A06 QD
 refine Zf [] func80 rfl ntmps80 results80 ?_
 (have z:=Za oL e0;(try push_cast[z])<;>repeat' (first|apply Zi<;>intro _|exact Zo|with_reducible apply Za)<;>try push_cast[z])
 refine Zl (fun i=>i<=l.length) (fun i=>⟨[(8,.val (.int .i64 i)),(7,.val (.int .i64 l.length)),(6,.slice (l.map QD) false)],[],400⟩) (fun i=>l.length-i) 0 (by simp) ?_ fun i hi=>?_
 ·apply Zw<;>push_cast [oL]
 ·push_cast
  refine Af (fun ha=>?_) (fun ha=>?_)
  ·have hi':i<l.length:=by simpa using ha
   have e1:nr (l.map QD) i=QD (l.getD i (0,[],[])):=Ho _ hi'
   have hx:=h _ (Aj (d:=(0,[],[])) hi')
   generalize l.getD i (0,[],[])=x at*
   obtain⟨f,fs,cs⟩:=x
   obtain⟨h1,h2,h3⟩:=hx
   simp only at h1 h2 h3
   have e2:QD (f,fs,cs)=[.func (.func f) fs cs]:=rfl
   rw[e2] at e1
   have w1:IntKind.i64.wrap (↑i+1)=↑i+1:=A9 (by omega) (by omega)
   (have z:=Za e1<|Za oL<|Za w1<|Za h2<|Za h3 @Dr;(try push_cast[z])<;>repeat' (first|apply Zi<;>intro _|refine Zv h1 ?_|exact Zo|with_reducible apply Za)<;>try push_cast[z])
   all_goals first|omega|skip
   refine⟨i+1,hi',by omega,?_⟩
   apply Zw<;>push_cast [oL]
  ·have hi':i=l.length:=by simp at ha;omega
   subst hi'
   (have z:=oL;(try push_cast[z])<;>repeat' (first|apply Zi<;>intro _|exact Zo|with_reducible apply Za)<;>try push_cast[z])
   all_goals first|omega|skip
def MayOk:Prop:=∀ m:SMu,m.ok->A0 prog 17 [.agg (Ao m.m)] (.val (.int .i64 0))
def zS:SN:=(0,.put)
theorem c_pMay(hM:MayOk)(c:Nat)(l:List SN)(h:HL c l):A0 prog 25 [.agg (Gn c l)] (.val (.int .i64 0)):=by
 obtain⟨hc,hl,hx⟩:=h
 have hC:=VA c hc
 have e0:((l.map snN).map BA).length=l.length:=by simp
 have oL:A6 ((l.map snN).map BA)=true:=G8 _
 have b0:decide ((64:Int)<l.length)=false:=decide_eq_false (by omega)
 unfold Gn
 have e1:∀ i,i<l.length->nr ((l.map snN).map BA) i=BA (snN (l.getD i zS)):=fun i hi=>by
  simp[nr,A02,hi]
 generalize(l.map snN).map BA=L at*
 refine Zf [] func25 rfl ntmps25 results25 ?_
 (have z:=Za e0<|Za oL b0;(try push_cast[z])<;>repeat' (first|apply Zi<;>intro _|refine Zc hC ?_|exact Zo|with_reducible apply Za)<;>try push_cast[z])
 all_goals first|omega|skip
 refine Zl (fun i=>i<=l.length) (fun i=>⟨[(17,.val (.int .i64 i)),(16,.val (.int .i64 l.length)),(15,.slice L false)],[],400⟩) (fun i=>l.length-i) 0 (by simp) ?_ fun i hi=>?_
 ·apply Zw<;>push_cast [oL]
 ·by_cases h4:i<l.length
  ·have e2:=e1 i h4
   obtain⟨g1,g2⟩:=hx _ (Aj (d:=zS) h4)
   have hN:=VA _ g1
   have hU:=hM _ g2
   have w1:IntKind.i64.wrap (↑i+1)=↑i+1:=A9 (by omega) (by omega)
   have b1:decide ((i:Int)<l.length)=true:=decide_eq_true (by omega)
   generalize l.getD i zS=x at*
   rw[Vo] at e2
   have x1:=Ay x.2.m
   have x2:=Bo x.2.m
   have x3:=H6 x.2.m
   have x4:=Hi x.2.m
   change nr L i=.val (.int .u64 (x.1:Int))::Ao x.2.m at e2
   generalize Ao x.2.m=U at*
   (have z:=Za e0<|Za oL<|Za e2<|Za w1<|Za b1<|Za x1<|Za x2<|Za x3 x4;(try push_cast[z])<;>repeat' (first|apply Zi<;>intro _|refine Zc hN ?_|refine Zc hU ?_|exact Zo|with_reducible apply Za)<;>try push_cast[z])
   all_goals first|omega|skip
   refine⟨i+1,h4,by omega,?_⟩
   apply Zw<;>push_cast [oL]
  ·obtain rfl:i=l.length:=by omega
   have b1:decide ((l.length:Int)<l.length)=false:=decide_eq_false (by omega)
   (have z:=Za e0<|Za oL b1;(try push_cast[z])<;>repeat' (first|apply Zi<;>intro _|exact Zo|with_reducible apply Za)<;>try push_cast[z])
   all_goals first|omega|skip
   all_goals trace_state
abbrev rdB(s:ByteArray)(i:Nat):Blk:=.rows [[.val (.string s),.val (.int .i64 i),.mref 3]] 3
def rdF(f:Nat):D:=.func (.func f) [.ref 1 0 0 3] []
theorem rdF_eq(f:Nat):rdF f=.func (.func f) [.ref 1 0 0 3] []:=rfl
def At(s:ByteArray)(i:Nat)(x r:List UInt8):Prop:=(bl s).drop i=x++r/\i+x.length+r.length=s.size
theorem At.strAt{s:ByteArray}{i:Nat}{x r:List UInt8}(h:At s i x r){j:Nat}{c:UInt8}(hj:x[j]? =some c):BT s ((i+j:Nat):Int)=(c.toNat:Int):=by
 rw[Re]
 have h1:(bl s).getD (i+j) 0=c:=by
  have:(bl s)[i+j]? =some c:=by
   rw[<-A0I,h.1]
   rw[A0q (List.getElem?_eq_some_iff.1 hj).1]
   exact hj
  rw[A02,this];rfl
 rw[h1]
theorem At.str0{s:ByteArray}{i:Nat}{c:UInt8}{x r:List UInt8}(h:At s i (c::x) r):Go.Ab.BT s i=(c.toNat:Int):=h.strAt (j:=0) rfl
theorem At.lt{s:ByteArray}{i:Nat}{c:UInt8}{x r:List UInt8}(h:At s i (c::x) r):i<s.size:=by
 have:=h.2
 simp only[A0g] at this
 omega
theorem At.tail{s:ByteArray}{i:Nat}{x y r:List UInt8}(h:At s i (x++y) r):At s (i+x.length) y r:=by
 refine⟨?_,by have:=h.2;simp only[A04] at this;omega⟩
 rw[<-A1R,h.1,A0b,List.drop_left]
theorem At.head{s:ByteArray}{i:Nat}{x y r:List UInt8}(h:At s i (x++y) r):At s i x (y++r):=⟨by rw[h.1,A0b],by have:=h.2;simp only[A04] at this|-;omega⟩
theorem At.tail1{s:ByteArray}{i:Nat}{c:UInt8}{y r:List UInt8}(h:At s i (c::y) r):At s (i+1) y r:=At.tail (x:=[c]) h
def nbl(c:Int):Prop:=c≠9/\c≠10/\c≠13/\c≠32
theorem Qp(s:ByteArray)(i:Nat)(hs:i<s.size)(hb:nbl (BT s i)):A2 prog 148 [.ref 1 0 0 3] [(1,rdB s i)] (.tup []) [(1,rdB s i)]:=by
 obtain⟨h1,h2,h3,h4⟩:=hb
 have b0:decide ((i:Int)<s.size)=true:=decide_eq_true (by omega)
 have b1:(BT s i==9)=false:=by simpa using h1
 have b2:(BT s i==10)=false:=by simpa using h2
 have b3:(BT s i==13)=false:=by simpa using h3
 have b4:(BT s i==32)=false:=by simpa using h4
 refine Zd [] func148 rfl ntmps148 results148 ?_
 ((try push_cast)<;>repeat' (first|apply Zi<;>intro _|exact Zp|with_reducible apply Za)<;>try push_cast)
 refine Zl (fun i=>True) (fun _=>⟨[(0,.ref 1 0 0 3)],[(1,rdB s i)],4⟩) (fun i=>0) 0 trivial ?_ fun _ _=>?_
 ·apply Zw<;>push_cast
 ·(have z:=Za b0<|Za b1<|Za b2<|Za b3 b4;(try push_cast[z])<;>repeat' (first|apply Zi<;>intro _|exact Zo|with_reducible apply Za)<;>try push_cast[z])
  all_goals first|omega|skip
  apply Zw<;>push_cast
theorem c_skipE(s:ByteArray):A2 prog 148 [.ref 1 0 0 3] [(1,rdB s s.size)] (.tup []) [(1,rdB s s.size)]:=by
 refine Zd [] func148 rfl ntmps148 results148 ?_
 ((try push_cast)<;>repeat' (first|apply Zi<;>intro _|exact Zp|with_reducible apply Za)<;>try push_cast)
 refine Zl (fun i=>True) (fun _=>⟨[(0,.ref 1 0 0 3)],[(1,rdB s s.size)],4⟩) (fun i=>0) 0 trivial ?_ fun _ _=>?_
 ·apply Zw<;>push_cast
 ·have b0:decide ((s.size:Int)<s.size)=false:=decide_eq_false (by omega)
  (have z:=b0;(try push_cast[z])<;>repeat' (first|apply Zi<;>intro _|exact Zo|with_reducible apply Za)<;>try push_cast[z])
  apply Zw<;>push_cast
theorem EV(s:ByteArray)(i:Nat)(c:Int)(hs:i<s.size)(hz:s.size<=1048576)(hc:BT s i=c)(hb:nbl c):A2 prog 299 [.ref 1 0 0 3,.val (.int .u8 c)] [(1,rdB s i)] (.val (.bool true)) [(1,rdB s (i+1))]:=by
 have hS:=Qp s i hs (by rw[hc];exact hb)
 have b0:((i:Int)==s.size)=false:=beq_false_of_ne (by omega)
 have b1:(BT s i !=c)=false:=by simpa using hc
 have w1:IntKind.i64.wrap (↑i+1)=↑i+1:=A9 (by omega) (by omega)
 refine Zd [] func299 rfl ntmps299 results299 ?_
 (have z:=Za b0<|Za b1 w1;(try push_cast[z])<;>repeat' (first|apply Zi<;>intro _|refine Zs [(1,1)] hS ?_|exact Zo|with_reducible apply Za)<;>try push_cast[z])
 all_goals first|omega|skip
 apply Zw<;>push_cast
theorem JS(s:ByteArray)(i:Nat)(c:Int)(hs:i<s.size)(hc:BT s i≠c)(hb:nbl (BT s i)):A2 prog 299 [.ref 1 0 0 3,.val (.int .u8 c)] [(1,rdB s i)] (.val (.bool false)) [(1,rdB s i)]:=by
 have hS:=Qp s i hs hb
 have b0:((i:Int)==s.size)=false:=beq_false_of_ne (by omega)
 have b1:(BT s i !=c)=true:=by simpa using hc
 refine Zd [] func299 rfl ntmps299 results299 ?_
 (have z:=Za b0 b1;(try push_cast[z])<;>repeat' (first|apply Zi<;>intro _|refine Zs [(1,1)] hS ?_|exact Zo|with_reducible apply Za)<;>try push_cast[z])
 all_goals first|omega|skip
 apply Zw<;>push_cast
def BU(x:List UInt8):Prop:=x≠[]/\∀ c ∈ x,32<=c.toNat/\c.toNat<128/\c.toNat≠34/\c.toNat≠92
def txt(x:List UInt8):List UInt8:=34::(x++[34])
theorem Lv(x:List UInt8):(txt x).length=x.length+2:=by simp[txt]
def J1:Prop:=∀ (s:ByteArray) (i:Nat) (x r:List UInt8),BU x->s.size<=1048576->At s i (txt x) r->A0 prog 337 [.val (.string s),.val (.int .i64 i)] (.tup [.val (.string ⟨x.toArray⟩),.val (.int .i64 ((i+(txt x).length:Nat):Int)),.val (.int .i64 0)])
theorem Vw(hU:J1)(s:ByteArray)(i:Nat)(x r:List UInt8)(hx:BU x)(hz:s.size<=1048576)(h:At s i (txt x) r):
  A2 prog 298 [.ref 1 0 0 3] [(1,rdB s i)] (.val (.string ⟨x.toArray⟩)) [(1,rdB s (i+(txt x).length))]:=by
 have hu:=hU s i x r hx hz h
 refine Zd [] func298 rfl ntmps298 results298 ?_
 (have z:=trivial;(try push_cast)<;>repeat' (first|apply Zi<;>intro _|refine Zc (hu ..) ?_|exact Zp|with_reducible apply Za)<;>try push_cast)
 all_goals first|omega|skip
 apply Zw<;>push_cast
theorem KS:∀ (x r:List UInt8),Lib.hasPrefix (x++r) x=true
 |[],r=>by cases r<;>rfl
 |c::x,r=>by
  have:=KS x r
  simp only[A0c]
  unfold Lib.hasPrefix
  simp[this]
theorem c_word(s:ByteArray)(i:Nat)(x r:List UInt8)(hz:s.size<=1048576)(h:At s i x r):
  A2 prog 297 [.ref 1 0 0 3,.val (.string ⟨x.toArray⟩)] [(1,rdB s i)] (.tup []) [(1,rdB s (i+x.length))]:=by
 have hl:=h.2
 have hP:=SU (s.extract i s.size) ⟨x.toArray⟩
 have e1:Lib.hasPrefix (s.extract i s.size).data.toList (ByteArray.mk x.toArray).data.toList=true:=by
  have:(s.extract i s.size).data.toList=x++r:=by
   rw[<-h.1,ByteArray.data_extract,Array.toList_extract]
   show(s.data.toList.drop i).take (s.size-i)=_
   rw[A08 (by rw[A0v];exact A0a _)]
   rfl
  rw[this]
  exact KS x r
 rw[e1] at hP
 have w1:IntKind.i64.wrap (↑i+↑x.length)=↑i+↑x.length:=A9 (by omega) (by omega)
 have e2:(ByteArray.mk x.toArray).size=x.length:=by show x.toArray.size=_;simp
 refine Zd [] func297 rfl ntmps297 results297 ?_
 (have z:=Za w1 e2;(try push_cast[z])<;>repeat' (first|apply Zi<;>intro _|refine Zc hP ?_|exact Zo|with_reducible apply Za)<;>try push_cast[z])
 all_goals first|omega|skip
 apply Zw<;>push_cast
def NR(c:Int):Option Nat:=
 if c=110 then some 214 else if c=102 then some 215 else if c=116 then some 216 else if c=34 then some 217
 else if c=91 then some 218 else if c=123 then some 219 else if c=45 then some 220 else if 48<=c/\c<=57 then some 220 else none
def Kl:List (Int×Nat×Nat):=[(110,0,214),(102,1,215),(116,2,216),(34,3,217),(91,4,218),(123,5,219),
 (45,6,220),(48,7,220),(49,8,220),(50,9,220),(51,10,220),(52,11,220),
 (53,12,220),(54,13,220),(55,14,220),(56,15,220),(57,16,220)]
def D1(b:Nat)(n:Nat):List (Value×Nat×D):=(Kl.take n).map fun p=>(.int .u8 p.1,p.2.1,.func (.func p.2.2) [.ref b 0 0 3] [])
def CD:List (Value×Nat×D):=D1 1 17
theorem U5(c:Int)(f:Nat)(h:NR c=some f):∃ i,DE (.int .u8) (.int .u8 c) CD 0=some (some (i,rdF f)):=by
 unfold NR at h
 simp only[CD,D1,Kl,A1j,List.take_nil,A0h,A0G,DE,keq,if_true,rdF]
 repeat' split at h
 all_goals first
  |(cases h;rename_i hc;subst hc;exact⟨_,rfl⟩)
  |(cases h;rename_i hc
    have:c=48∨c=49∨c=50∨c=51∨c=52∨c=53∨c=54∨c=55∨c=56∨c=57:=by omega
    rcases this with rfl|rfl|rfl|rfl|rfl|rfl|rfl|rfl|rfl|rfl<;>exact ⟨_,rfl⟩)
  |cases h
theorem WZ(r:Nat->Nat)(h:r 1=1):(CD.map fun p=>(p.1,p.2.1,AV r p.2.2))=CD:=by
 simp only[CD,D1,A10]
 refine A13 fun p _=>?_
 simp[Function.comp,AV,BZ,h]
theorem ZV(n:Nat):(CD.all fun p=>ltD n p.2.2)=true:=by
 simp only[CD,D1,List.all_map,A0u]
 intro p _
 simp[ltD,ltL,okN]
theorem X0(F:D->D)(h:∀ f,F (rdF f)=rdF f):(CD.map fun p=>(p.1,p.2.1,F p.2.2))=CD:=by
 simp only[CD,D1,A10]
 refine A13 fun p _=>?_
 have:=h p.2.2
 unfold rdF at this
 simp[Function.comp,this]
theorem X1(hp:Nat->Option Blk)(n:Nat)(h:hp 1=none):(CD.map fun p=>(p.1,p.2.1,frz hp n p.2.2))=CD:=X0 _ fun f=>by
 cases n with
 |zero=>rfl
 |succ n=>cases n<;>simp [rdF,Go.Ab.frz,h]
theorem ZW(b:Nat)(x:Blk)(n:Nat)(h:(1==b)=false):(CD.map fun p=>(p.1,p.2.1,frz (Js b x) n p.2.2))=CD:=X1 _ _ (by simp[Js,h])
attribute [irreducible] CD
attribute [push_cast] WZ ZV ZW
abbrev kB:Blk:=.map CD 17
def stopL(r:List UInt8):Prop:=∀ c ∈ r.head?,c.toNat=44∨c.toNat=93∨c.toNat=125
def DF(n:Nat)(x:List UInt8)(v:GV):Prop:=(∃ c y,x=c::y/\nbl (c.toNat:Int)/\c.toNat≠93/\c.toNat≠125)/\
 ∀(s:ByteArray) (i:Nat) (r:List UInt8) (d:Nat),At s i x r->stopL r->s.size<=1048576->d+n<=64->
  A2 prog 147 [.ref 1 0 0 3,.val (.int .i64 d)] [(1,rdB s i),(3,kB)] (.agg (A5 v)) [(1,rdB s (i+x.length)),(3,kB)]
def KB(n f:Nat)(x:List UInt8)(v:GV):Prop:=
 ∀(s:ByteArray) (i:Nat) (r:List UInt8) (d:Nat),At s i x r->stopL r->s.size<=1048576->d+n<=64->
  A2 prog f [.ref 1 0 0 3,.val (.int .i64 d)] [(1,rdB s i),(3,kB)] (.agg (A5 v)) [(1,rdB s (i+x.length)),(3,kB)]
theorem D9(n f:Nat)(c:UInt8)(y:List UInt8)(v:GV)(hf:NR (c.toNat:Int)=some f)(h:KB n f (c::y) v):DF n (c::y) v:=by
 have hb:nbl (c.toNat:Int)/\c.toNat≠93/\c.toNat≠125:=by
  unfold NR at hf
  unfold nbl
  repeat' split at hf
  all_goals first|omega|cases hf
 refine⟨⟨c,y,rfl,hb⟩,fun s i r d ha hr hz hd=>?_⟩
 have hk:=h s i r d ha hr hz hd
 have hc:=ha.str0
 have hlt:=ha.lt
 have hS:=Qp s i hlt (by rw[hc];exact hb.1)
 obtain⟨j,hj⟩:=U5 _ _ hf
 rw[rdF_eq] at hj
 have b0:((i:Int)==s.size)=false:=beq_false_of_ne (by omega)
 have b1:decide ((64:Int)<d)=false:=decide_eq_false (by omega)
 obtain⟨x1,x2,x3,x4⟩:=An v
 generalize(c::y).length=m at*
 generalize A5 v=V at*
 refine Zd [] func147 rfl ntmps147 results147 ?_
 (have z:=Za b0<|Za b1<|Za hc<|Za hj<|Za x1<|Za x2<|Za x3 x4;(try push_cast[z])<;>repeat' (first|apply Zi<;>intro _|refine Zs [(1,1)] hS ?_|refine Zt [(1,1),(3,3)] (hk ..) ?_|exact Zo|with_reducible apply Za)<;>try push_cast[z])
 all_goals first|omega|skip
 apply Zw<;>push_cast [x1,x2,x3]
def Fc:List (List UInt8)->List UInt8
 |[]=>[93]
 |y::l=>44::(y++Fc l)
def N5:List (List UInt8)->List UInt8
 |[]=>[91,93]
 |x::l=>91::(x++Fc l)
theorem EM:∀ (a b:List (List D)),A6 (a++b)=(A6 a&&A6 b)
 |[],b=>by simp[A6]
 |x::a,b=>by simp[A6,EM a b,Bool.and_assoc]
theorem one1{V:List D}(h:V.all AN=true):∀ y ∈ [V],∀ d ∈ y,AN d=true:=fun y hy d hd=>by
 cases A0d.1 hy
 exact A0u.1 h d hd
abbrev vB(k:Int)(x y:D):Blk:=.rows [[.val (.int .i64 k),.val (.bool false),.val (.int .i64 0),.val (.string ByteArray.empty),x,y]] 6
def lsS(s:ByteArray)(d:Nat)(L:List GV)(a:Nat×Nat):St:=match a.1 with
 |0=>⟨[(0,.ref 1 0 0 3),(1,.val (.int .i64 d)),(4,.ref 8 0 0 6),(5,.ref 24 0 0 6)],[(1,rdB s a.2),(3,kB),(8,vB 0 (.slice [] true) (.slice [] true)),(24,vB 5 (.slice [] true) (.slice [] true))],1000⟩
 |j+1=>⟨[(0,.ref 1 0 0 3),(1,.val (.int .i64 d)),(4,.ref 8 0 0 6),(5,.ref 24 0 0 6)],[(1,rdB s a.2),(3,kB),(8,vB 0 (.slice [] true) (.slice [] true)),(24,vB 5 (.gref 48 (j+1)) (.slice [] true)),(48,.grow ((L.take (j+1)).map A5) 6)],1000⟩
theorem M9(s:ByteArray)(d:Nat)(L:List GV)(q:Nat):lsS s d L (0,q)=⟨[(0,.ref 1 0 0 3),(1,.val (.int .i64 d)),(4,.ref 8 0 0 6),(5,.ref 24 0 0 6)],[(1,rdB s q),(3,kB),(8,vB 0 (.slice [] true) (.slice [] true)),(24,vB 5 (.slice [] true) (.slice [] true))],1000⟩:=rfl
theorem Jy(s:ByteArray)(d:Nat)(L:List GV)(j q:Nat):lsS s d L (j+1,q)=⟨[(0,.ref 1 0 0 3),(1,.val (.int .i64 d)),(4,.ref 8 0 0 6),(5,.ref 24 0 0 6)],[(1,rdB s q),(3,kB),(8,vB 0 (.slice [] true) (.slice [] true)),(24,vB 5 (.gref 48 (j+1)) (.slice [] true)),(48,.grow ((L.take (j+1)).map A5) 6)],1000⟩:=rfl
theorem k_list(n:Nat)(l:List (List UInt8×GV))(hl:l.length<=1048576)(h:∀ p ∈ l,DF n p.1 p.2):KB (n+1) 218 (N5 (l.map (·.1))) (vL (l.map (·.2))):=by
 intro s i r d ha hr hz hd
 have w0:IntKind.i64.wrap (↑i+1)=↑i+1:=A9 (by have:=ha.2;omega) (by have:=ha.2;omega)
 rw[enc_L]
 cases l with
 |nil=>
  have hT:=EV s (i+1) 93 (At.lt (x:=[]) ha.tail1) hz (At.str0 (x:=[]) ha.tail1) (by unfold nbl;omega)
  refine Zd [] func218 rfl ntmps218 results218 ?_
  ((try push_cast)<;>repeat' (first|apply Zi<;>intro _|exact Zp|with_reducible apply Za)<;>try push_cast)
  refine AWp.scope (Zy ?_)
  (have z:=w0;(try push_cast[z])<;>repeat' (first|apply Zi<;>intro _|refine Zs [(1,1)] hT ?_|exact Zo|with_reducible apply Za)<;>try push_cast[z])
  all_goals first|omega|skip
  simp only[A0G,N5]
  apply Zw<;>push_cast
 |cons p l=>
  obtain⟨⟨c,y,hy1,hy2,hy3,hy4⟩,hv⟩:=h p (by simp)
  have ha2:=ha
  simp only[A0h,N5] at ha2
  have hA:=ha2.tail1
  have hF:=JS s (i+1) 93 (by rw[hy1] at hA;exact hA.lt) (by rw[hy1] at hA;rw[At.str0 hA];omega) (by rw[hy1] at hA;rw[At.str0 hA];exact hy2)
  have hend:i+(N5 ((p::l).map (·.1))).length+r.length=s.size:=ha.2
  generalize hm:(N5 ((p::l).map (·.1))).length=m at*
  clear ha ha2 hy1 hy2 hv
  generalize hL:p::l=L at*
  have hL0:∃ z zs,L.drop 0=z::zs/\At s (i+1) (z.1++Fc (zs.map (·.1))) r:=⟨p,l,by rw[<-hL];rfl,hA⟩
  clear hL hA hm
  refine Zd [] func218 rfl ntmps218 results218 ?_
  ((try push_cast)<;>repeat' (first|apply Zi<;>intro _|exact Zp|with_reducible apply Za)<;>try push_cast)
  refine AWp.scope (Zy ?_)
  (have z:=w0;(try push_cast[z])<;>repeat' (first|apply Zi<;>intro _|refine Zs [(1,1)] hF ?_|exact Zo|with_reducible apply Za)<;>try push_cast[z])
  all_goals first|omega|skip
  refine AWp.loopI mixed (by kernel_rfl) (ι:=Nat×Nat) (fun a=>∃ z zs,L.drop a.1=z::zs/\At s a.2 (z.1++Fc (zs.map (·.1))) r) (lsS s d (L.map (·.2))) (fun a=>L.length-a.1) (0,i+1) hL0 ?_ fun a hi=>?_
  ·rw[M9]
   apply Zw<;>push_cast
  ·obtain⟨j,q⟩:=a
   obtain⟨z,zs,hz1,hq⟩:=hi
   simp only at hz1 hq
   have hjl:j<L.length:=by
    have:=congrArg List.length hz1
    rw[A0v,A0g] at this
    omega
   have hzm:z ∈ L:=A0P (by rw[hz1];simp)
   obtain⟨hz2,hv⟩:=h z hzm
   have hv1:=hv s q (Fc (zs.map (·.1))++r) (d+1) hq.head (by
    intro c hc
    cases zs with
    |nil=>cases hc;exact .inr (.inl rfl)
    |cons w ws=>cases hc;exact .inl rfl) hz (by omega)
   obtain⟨x1,x2,x3,x4⟩:=An z.2
   have htk:((L.map (·.2)).take (j+1)).map A5=((L.map (·.2)).take j).map A5++[A5 z.2]:=by
    have:(L.map (·.2))[j]? =some z.2:=by
     have h2:L[j]? =some z:=by
      have:=congrArg (·[0]?) hz1
      simpa[A0I] using this
     simp[h2]
    rw[A1s,this,A0K];rfl
   have oT:=FF ((L.map (·.2)).take j)
   have lT:(((L.map (·.2)).take j).map A5).length=j:=by rw[A06,A0z,A06];omega
   have aT:∀ y ∈ ((L.map (·.2)).take j).map A5,y.length=6:=fun y hy=>by obtain⟨x,_,rfl⟩:=A0l.1 hy;exact AY x
   have hqt:=hq.tail
   have wd:IntKind.i64.wrap (↑d+1)=↑d+1:=A9 (by omega) (by omega)
   generalize hlen:z.1.length=m1 at*
   generalize A5 z.2=V at*
   generalize hLV:L.map (·.2)=LV at*
   clear h hv hz2
   cases zs with
   |cons w ws=>
    have hjt:Fc ((w::ws).map (·.1))=44::(w.1++Fc (ws.map (·.1))):=rfl
    rw[hjt] at hqt
    have hT2:=EV s (q+m1) 44 hqt.lt hz hqt.str0 (by unfold nbl;omega)
    have hn:∃ z zs,L.drop (j+1)=z::zs/\At s (q+m1+1) (z.1++Fc (zs.map (·.1))) r:=⟨w,ws,by rw[<-A1R,hz1];rfl,hqt.tail1⟩
    cases j with
    |zero=>
     rw[M9]
     (have z:=Za x1<|Za x2<|Za x3<|Za x4 wd;(try push_cast[z])<;>repeat' (first|apply Zi<;>intro _|refine Zs [(1,1),(3,3)] (hv1 ..) ?_|refine Zs [(1,1)] hT2 ?_|exact Zo|with_reducible apply Za)<;>try push_cast[z])
     all_goals first|omega|(simp[x2];done)|skip
     refine⟨(1,q+m1+1),hn,by omega,?_⟩
     rw[Jy,htk]
     apply Zr [(48,2056)] rfl<;>push_cast [x1,x2,x3,x4]
     all_goals trace_state
    |succ j=>
     rw[Jy]
     generalize((LV.take (j+1)).map A5)=T at*
     (have z:=Za x1<|Za x2<|Za x3<|Za x4<|Za wd<|Za oT lT;(try push_cast[z])<;>repeat' (first|apply Zi<;>intro _|refine Zs [(1,1),(3,3)] (hv1 ..) ?_|refine Zs [(1,1)] hT2 ?_|exact Zo|with_reducible apply Za)<;>try push_cast[z])
     all_goals first|omega|(simp[x2];done)|exact aT|exact one1 x3|skip
     refine⟨(j+1+1,q+m1+1),hn,by omega,?_⟩
     rw[Jy,htk]
     apply Zr [(48,2056)] rfl<;>push_cast [x1,x2,x3,x4,oT,lT]
   |nil=>
    have hjt:Fc ((([]:List (List UInt8×GV))).map (·.1))=93::[]:=rfl
    rw[hjt] at hqt
    have hF2:=JS s (q+m1) 44 hqt.lt (by rw[hqt.str0];decide) (by rw[hqt.str0];unfold nbl;decide)
    have hT2:=EV s (q+m1) 93 hqt.lt hz hqt.str0 (by unfold nbl;omega)
    have hjL:LV.take (j+1)=LV:=A08 (by
     have:=congrArg List.length hz1
     rw[A0v,A0g,A0t] at this
     rw[<-hLV,A06];omega)
    have hqm:i+m=q+m1+1:=by
     have:=hqt.2
     simp at this
     omega
    rw[hjL] at htk
    rw[htk,hqm]
    cases j with
    |zero=>
     rw[M9]
     (have z:=Za x1<|Za x2<|Za x3<|Za x4 wd;(try push_cast[z])<;>repeat' (first|apply Zi<;>intro _|refine Zs [(1,1),(3,3)] (hv1 ..) ?_|refine Zs [(1,1)] hF2 ?_|refine Zs [(1,1)] hT2 ?_|exact Zo|with_reducible apply Za)<;>try push_cast[z])
     all_goals first|omega|(simp[x2];done)|skip
     refine Ar.trans (Ar.fzB (b:=2056) (x:=.grow ([]++[V]) 6) rfl) ?_
     push_cast[x1,x2,x3]
     apply Zw<;>push_cast [x1,x2,x3]
     all_goals trace_state
    |succ j=>
     rw[Jy]
     generalize((LV.take (j+1)).map A5)=T at*
     (have z:=Za x1<|Za x2<|Za x3<|Za x4<|Za wd<|Za oT lT;(try push_cast[z])<;>repeat' (first|apply Zi<;>intro _|refine Zs [(1,1),(3,3)] (hv1 ..) ?_|refine Zs [(1,1)] hF2 ?_|refine Zs [(1,1)] hT2 ?_|exact Zo|with_reducible apply Za)<;>try push_cast[z])
     all_goals first|omega|(simp[x2];done)|exact aT|exact one1 x3|skip
     refine Ar.trans (Ar.fzB (b:=2056) (x:=.grow (T++[V]) 6) rfl) ?_
     have oTV:A6 (T++[V])=true:=by rw[EM,oT];simp[A6,x1]
     have lTV:(T++[V]).length=j+1+1:=by rw[A04,lT];rfl
     generalize T++[V]=U at*
     push_cast[oTV,lTV]
     apply Zw<;>push_cast [oTV,lTV]
     all_goals trace_state
def ObjOk:Prop:=∀ m:SMu,m.ok->A0 prog 73 [.agg (Ao m.m)] (.tup [.agg (A5 m.o),.val (.int .i64 0)])
def VObjOk:Prop:=∀ a b:ByteArray×GV,Ci b.1 a.1=1->Sm a.2->Sm b.2->a.1.size<=1048576->b.1.size<=1048576->A0 prog 74 [.slice [A7 a,A7 b] false] (.tup [.agg (A5 (vO [a,b])),.val (.int .i64 0)])
def poS(c:Nat)(L:List (List D))(V:List GV)(n:Nat)(i:Nat):St:=match i with
 |0=>⟨[(14,.val (.int .i64 0)),(13,.val (.int .i64 n)),(12,.slice L false),(1,.ref 0 0 0 2),(2,.ref 8 0 0 6),(4,.ref 32 0 0 6)],[(0,.rows [[.val (.int .u64 c),.slice L false]] 2),(8,vB 0 (.slice [] true) (.slice [] true)),(32,vB 5 (.slice [] true) (.slice [] true))],400⟩
 |j+1=>⟨[(14,.val (.int .i64 ((j+1:Nat):Int))),(13,.val (.int .i64 n)),(12,.slice L false),(1,.ref 0 0 0 2),(2,.ref 8 0 0 6),(4,.ref 32 0 0 6)],[(0,.rows [[.val (.int .u64 c),.slice L false]] 2),(8,vB 0 (.slice [] true) (.slice [] true)),(32,vB 5 (.gref 48 (j+1)) (.slice [] true)),(48,.grow ((V.take (j+1)).map A5) 6)],400⟩
theorem RH(c:Nat)(L:List (List D))(V:List GV)(n:Nat):poS c L V n 0=⟨[(14,.val (.int .i64 0)),(13,.val (.int .i64 n)),(12,.slice L false),(1,.ref 0 0 0 2),(2,.ref 8 0 0 6),(4,.ref 32 0 0 6)],[(0,.rows [[.val (.int .u64 c),.slice L false]] 2),(8,vB 0 (.slice [] true) (.slice [] true)),(32,vB 5 (.slice [] true) (.slice [] true))],400⟩:=rfl
theorem LQ(c:Nat)(L:List (List D))(V:List GV)(n j:Nat):poS c L V n (j+1)=⟨[(14,.val (.int .i64 ((j+1:Nat):Int))),(13,.val (.int .i64 n)),(12,.slice L false),(1,.ref 0 0 0 2),(2,.ref 8 0 0 6),(4,.ref 32 0 0 6)],[(0,.rows [[.val (.int .u64 c),.slice L false]] 2),(8,vB 0 (.slice [] true) (.slice [] true)),(32,vB 5 (.gref 48 (j+1)) (.slice [] true)),(48,.grow ((V.take (j+1)).map A5) 6)],400⟩:=rfl
def poF(c:Nat)(L:List (List D))(V:List GV)(n:Nat):St:=⟨[(14,.val (.int .i64 n)),(13,.val (.int .i64 n)),(12,.slice L false),(1,.ref 0 0 0 2),(2,.ref 8 0 0 6),(4,.ref 32 0 0 6)],[(0,.rows [[.val (.int .u64 c),.slice L false]] 2),(8,vB 0 (.slice [] true) (.slice [] true)),(32,vB 5 (.slice (V.map A5) false) (.slice [] true))],400⟩
def poX(c:Nat)(L:List (List D))(V:List GV)(n:Nat):Option Nat->St
 |none=>poF c L V n
 |some i=>poS c L V n i
def SmS:Prop:=(∀ m:SMu,m.ok->Sm m.o)/\(∀ x:SN,Dd x.1->x.2.ok->Sm (snO x))/\∀ n:Nat,Dd n->Sm (vI n)
theorem Xx(hO:ObjOk)(hV:VObjOk)(hS:SmS)(c:Nat)(l:List SN)(h:HL c l)(hsl:Sm (vL (l.map snO))):A0 prog 44 [.agg (Gn c l)] (.tup [.agg (A5 (puO c l)),.val (.int .i64 0)]):=by
 obtain⟨hc,hl,hx⟩:=h
 have hC:=SK c hc
 have hE:=hV (Dm,vI c) (Gy,vL (l.map snO)) (by show Ci Gy Dm=1;decide) (hS.2.2 c hc) hsl (by show Dm.size<=_;decide) (by show Gy.size<=_;decide)
 have e0:((l.map snN).map BA).length=l.length:=by simp
 have oL:A6 ((l.map snN).map BA)=true:=G8 _
 unfold Gn
 have e1:∀ i,i<l.length->nr ((l.map snN).map BA) i=BA (snN (l.getD i zS)):=fun i hi=>by
  simp[nr,A02,hi]
 generalize(l.map snN).map BA=L at*
 refine Zf [] func44 rfl ntmps44 results44 ?_
 (have z:=Za e0 oL;(try push_cast[z])<;>repeat' (first|apply Zi<;>intro _|exact Zo|with_reducible apply Za)<;>try push_cast[z])
 all_goals first|omega|skip
 refine AWp.loopI mixed (by kernel_rfl) (ι:=Option Nat) (fun o=>∀ i,o=some i->i<l.length) (poX c L (l.map snO) l.length) (fun o=>match o with|none=>0|some i=>l.length+1-i) (if l.length=0 then none else some 0) (by intro i hi;split at hi<;>cases hi;omega) ?_ fun o hi=>?_
 ·split
  ·rename_i hl0
   obtain rfl:l=[]:=A0w hl0
   show Ar _ (poF c L [] 0)
   unfold poF
   apply Zw<;>push_cast [oL]
  ·show Ar _ (poS c L (l.map snO) l.length 0)
   rw[RH]
   apply Zw<;>push_cast [oL]
 ·cases o with
  |some i=>
   have h4:=hi i rfl
   show VCS _ _ _ _ _ (poS c L (l.map snO) l.length i)
   have hlast:∀ V:List GV,V.length=l.length->i+1=l.length->V.take (i+1)=V:=fun V h1 h2=>A08 (by omega)
   have e2:=e1 i h4
   obtain⟨g1,g2⟩:=hx _ (Aj (d:=zS) h4)
   have hN:=SK _ g1
   have hU:=hO _ g2
   have hW:=hV (tId,vI (l.getD i zS).1) (CU,(l.getD i zS).2.o) (by show Ci CU tId=1;decide) (hS.2.2 _ g1) (hS.1 _ g2) (by show tId.size<=_;decide) (by show CU.size<=_;decide)
   change A0 _ _ _ (.tup [.agg (A5 (snO (l.getD i zS))),_]) at hW
   have htk:((l.map snO).take (i+1)).map A5=((l.map snO).take i).map A5++[A5 (snO (l.getD i zS))]:=by
    rw[A1s,A0K]
    simp[A02,A09 h4]
   have oT:=FF ((l.map snO).take i)
   have lT:(((l.map snO).take i).map A5).length=i:=by simp;omega
   have aT:∀ y ∈ ((l.map snO).take i).map A5,y.length=6:=fun y hy=>by obtain⟨x,_,rfl⟩:=A0l.1 hy;exact AY x
   generalize l.getD i zS=x at*
   rw[Ah,Ah] at hW
   rw[Vo] at e2
   change nr L i=.val (.int .u64 (x.1:Int))::Ao x.2.m at e2
   have x1:=Ay x.2.m
   have x2:=Bo x.2.m
   have x3:=H6 x.2.m
   have x4:=Hi x.2.m
   obtain⟨y1,y2,y3,y4⟩:=An x.2.o
   obtain⟨u1,u2,u3,u4⟩:=An (snO x)
   obtain⟨v1,v2,v3,v4⟩:=An (vI x.1)
   have hq:nr L i=.val (.int .u64 (x.1:Int))::Ao x.2.m:=e2
   simp only at hW hN
   generalize Ao x.2.m=U at*
   generalize A5 x.2.o=O at*
   generalize A5 (snO x)=S at*
   generalize A5 (vI x.1)=N at*
   cases i with
   |zero=>
    rw[RH]
    have b1:decide ((0:Int)<l.length)=true:=decide_eq_true (by omega)
    (have z:=Za e0<|Za oL<|Za e2<|Za b1<|Za x1<|Za x2<|Za x3<|Za x4<|Za y1<|Za y2<|Za y3<|Za y4<|Za u1<|Za u2<|Za u3<|Za u4<|Za v1<|Za v2<|Za v3 v4;(try push_cast[z])<;>repeat' (first|apply Zi<;>intro _|refine Zc hU ?_|refine Zc hN ?_|refine Zg hW ?_ ?_|exact Zo|with_reducible apply Za)<;>try push_cast[z])
    all_goals first|omega|(simp[u2];done)|skip
    by_cases h6:1=l.length
    ·refine⟨none,(fun _ h=>by cases h),by simp only;omega,?_⟩
     rw[hlast (l.map snO) (by simp) h6] at htk
     show Ar _ (poF c L (l.map snO) l.length)
     unfold poF
     rw[htk,<-h6]
     refine Ar.trans (Ar.fzB (b:=1088) (x:=.grow ([]++[S]) 6) rfl) ?_
     push_cast[u1,u2,u3]
     apply Zw<;>push_cast [u1,u2,u3,e0,oL]
     all_goals first|rfl|trace_state
    ·refine⟨some 1,(fun _ h=>by cases h;omega),by simp only;omega,?_⟩
     show Ar _ (poS c L (l.map snO) l.length 1)
     rw[LQ,htk]
     simp only[A1A,A0G,A0m]
     apply Zr [(48,1088)] rfl<;>push_cast [e0,oL,x1,y1,y2,y3,y4,u1,u2,u3,u4]
     all_goals first|rfl|trace_state
   |succ j=>
    rw[LQ]
    have b1:decide ((↑j+1:Int)<l.length)=true:=decide_eq_true (by omega)
    have w1:IntKind.i64.wrap (↑j+1+1)=↑j+1+1:=A9 (by omega) (by omega)
    have w2:((↑j+1:Int)).toNat=j+1:=by omega
    generalize(((l.map snO).take (j+1)).map A5)=T at*
    (have z:=Za e0<|Za oL<|Za e2<|Za b1<|Za w1<|Za w2<|Za x1<|Za x2<|Za x3<|Za x4<|Za y1<|Za y2<|Za y3<|Za y4<|Za u1<|Za u2<|Za u3<|Za u4<|Za v1<|Za v2<|Za v3<|Za v4<|Za oT lT;(try push_cast[z])<;>repeat' (first|apply Zi<;>intro _|refine Zc hU ?_|refine Zc hN ?_|refine Zg hW ?_ ?_|exact Zo|with_reducible apply Za)<;>try push_cast[z])
    all_goals first|omega|(simp[u2];done)|exact aT|exact one1 u3|skip
    by_cases h6:j+1+1=l.length
    ·refine⟨none,(fun _ h=>by cases h),by simp only;omega,?_⟩
     rw[hlast (l.map snO) (by simp) h6] at htk
     show Ar _ (poF c L (l.map snO) l.length)
     unfold poF
     rw[htk,<-h6]
     refine Ar.trans (Ar.fzB (b:=1088) (x:=.grow (T++[S]) 6) rfl) ?_
     have oTV:A6 (T++[S])=true:=by rw[EM,oT];simp[A6,u1]
     have lTV:(T++[S]).length=j+1+1:=by rw[A04,lT];rfl
     generalize T++[S]=X at*
     push_cast[u1,u2,u3,oTV,lTV]
     apply Zw<;>push_cast [u1,u2,u3,e0,oL,oTV,lTV]
     all_goals first|rfl|trace_state
    ·refine⟨some (j+1+1),(fun _ h=>by cases h;omega),by simp only;omega,?_⟩
     show Ar _ (poS c L (l.map snO) l.length (j+1+1))
     rw[LQ,htk]
     apply Zr [(48,1088)] rfl<;>push_cast [e0,oL,x1,y1,y2,y3,y4,u1,u2,u3,u4,oT,lT]
     all_goals first|rfl|trace_state
  |none=>
   show VCS _ _ _ _ _ (poF c L (l.map snO) l.length)
   have b1:decide ((l.length:Int)<l.length)=false:=decide_eq_false (by omega)
   have hpu:puO c l=vO [(Dm,vI c),(Gy,vL (l.map snO))]:=rfl
   rw[<-hpu,Ah,Ah,enc_L] at hE
   simp only at hE
   have oT:=FF (l.map snO)
   have lT:((l.map snO).map A5).length=l.length:=by simp
   obtain⟨u1,u2,u3,u4⟩:=An (puO c l)
   obtain⟨v1,v2,v3,v4⟩:=An (vI c)
   unfold poF
   generalize A5 (puO c l)=S at*
   generalize A5 (vI c)=N at*
   generalize l.length=n at*
   generalize(((l.map snO)).map A5)=T at*
   have hE':=hE.lo (ds':=[.slice [.val (.string Dm)::N,.val (.string Gy)::[.val (.int .i64 5),.val (.bool false),.val (.int .i64 0),.val (.string ByteArray.empty),.slice T false,.slice [] true]] false]) (by push_cast[v1,oT];first|done|exact id)
   (have z:=Za e0<|Za oL<|Za b1<|Za u1<|Za u2<|Za u3<|Za u4<|Za v1<|Za v2<|Za v3<|Za v4<|Za oT lT;(try push_cast[z])<;>repeat' (first|apply Zi<;>intro _|refine Zc hC ?_|refine Zg (hE' ..) ?_ ?_|exact Zo|with_reducible apply Za)<;>try push_cast[z])
   all_goals first|omega|(simp[u2];done)|skip
   all_goals trace_state
theorem HA(s:ByteArray):A0 prog 188 [.val (.string s)] (.agg (A5 (vT s))):=by
 rw[NX]
 refine Zf [] func188 rfl ntmps188 results188 ?_
 ((try push_cast)<;>repeat' (first|apply Zi<;>intro _|exact Zp|with_reducible apply Za)<;>try push_cast)
theorem HE(a b:ByteArray×GV):A0 prog 187 [.slice [A7 a,A7 b] false] (.agg (A5 (vO [a,b]))):=by
 rw[Mm]
 simp only[A0h,A0G,Ah]
 obtain⟨x1,x2,x3,x4⟩:=An a.2
 obtain⟨y1,y2,y3,y4⟩:=An b.2
 generalize A5 a.2=V at*
 generalize A5 b.2=U at*
 refine Zf [] func187 rfl ntmps187 results187 ?_
 (have z:=Za x1 y1;(try push_cast[z])<;>repeat' (first|apply Zi<;>intro _|exact Zo|with_reducible apply Za)<;>try push_cast[z])
 all_goals first|omega|skip
 have oL:A6 [.val (.string a.1)::V,.val (.string b.1)::U]=true:=by push_cast[x1,y1]
 refine Zl (fun i=>i<=2) (fun i=>match i with
  |0=>⟨[(9,.val (.int .i64 0)),(8,.val (.int .i64 2)),(7,.slice [.val (.string a.1)::V,.val (.string b.1)::U] false),(2,.ref 0 0 0 6),(3,.ref 16 0 0 6)],[(0,vB 0 (.slice [] true) (.slice [] true)),(16,vB 6 (.slice [] true) (.slice [] true))],400⟩
  |1=>⟨[(9,.val (.int .i64 1)),(8,.val (.int .i64 2)),(7,.slice [.val (.string a.1)::V,.val (.string b.1)::U] false),(2,.ref 0 0 0 6),(3,.ref 16 0 0 6)],[(0,vB 0 (.slice [] true) (.slice [] true)),(16,vB 6 (.slice [] true) (.gref 32 1)),(32,.grow [.val (.string a.1)::V] 7)],400⟩
  |_=>⟨[(9,.val (.int .i64 2)),(8,.val (.int .i64 2)),(7,.slice [.val (.string a.1)::V,.val (.string b.1)::U] false),(2,.ref 0 0 0 6),(3,.ref 16 0 0 6)],[(0,vB 0 (.slice [] true) (.slice [] true)),(16,vB 6 (.slice [] true) (.slice [.val (.string a.1)::V,.val (.string b.1)::U] false))],400⟩) (fun i=>2-i) 0 (by simp) ?_ fun i hi=>?_
 ·apply Zw<;>push_cast [x1,y1]
 ·obtain rfl|rfl|rfl:i=0∨i=1∨i=2:=by omega
  ·simp only
   (have z:=Za x1<|Za x2<|Za x3<|Za x4<|Za y1<|Za y2<|Za y3 y4;(try push_cast[z])<;>repeat' (first|apply Zi<;>intro _|exact Zo|with_reducible apply Za)<;>try push_cast[z])
   all_goals first|omega|(simp[x2];done)|skip
   refine⟨1,by omega,by omega,?_⟩
   simp only
   apply Zr [(32,904)] rfl<;>push_cast [x1,x2,x3,x4,y1]
   all_goals first|rfl|trace_state
  ·simp only
   (have z:=Za x1<|Za x2<|Za x3<|Za x4<|Za y1<|Za y2<|Za y3 y4;(try push_cast[z])<;>repeat' (first|apply Zi<;>intro _|exact Zo|with_reducible apply Za)<;>try push_cast[z])
   all_goals first|omega|(simp[x2];done)|skip
   ·intro y hy;cases A0d.1 hy;simp[y2]
   ·intro z hz d hd
    cases A0d.1 hz
    rcases A0s.1 hd with rfl|hd
    ·rfl
    ·exact A0u.1 y3 d hd
   refine⟨2,by omega,by omega,?_⟩
   simp only
   refine Ar.trans (Ar.fzB (b:=904) (x:=.grow [.val (.string a.1)::V,.val (.string b.1)::U] 7) rfl) ?_
   push_cast[x1,x2,x3,y1,y2,y3]
   apply Zw<;>push_cast [x1,x2,x3,y1,y2,y3]
   all_goals first|rfl|trace_state
  ·simp only
   (have z:=Za x1<|Za x2<|Za x3<|Za x4<|Za y1<|Za y2<|Za y3 y4;(try push_cast[z])<;>repeat' (first|apply Zi<;>intro _|exact Zo|with_reducible apply Za)<;>try push_cast[z])
theorem enc_Z:A5 zV=[.val (.int .i64 0),.val (.bool false),.val (.int .i64 0),.val (.string ByteArray.empty),.slice [] false,.slice [] false]:=A4 _
theorem Mq(n:Int):Ao (SMu.inc n).m=[.val (.int .i64 3),.val (.string tN),.val (.string ByteArray.empty),.val (.int .i64 n),.val (.bool false),.val (.int .i64 0),.val (.bool false),.val (.int .i64 0),.val (.string ByteArray.empty),.slice [] false,.slice [] false,.val (.bool false),.val (.int .i64 0),.val (.bool false),.val (.int .i64 0),.val (.string ByteArray.empty),.slice [] false,.slice [] false,.slice [] false]:=by
 rw[Bt];rfl
theorem Mp:Ao SMu.put.m=[.val (.int .i64 1),.val (.string tK),.val (.string ByteArray.empty),.val (.int .i64 0),.val (.bool false),.val (.int .i64 0),.val (.bool false),.val (.int .i64 0),.val (.string ByteArray.empty),.slice [] false,.slice [] false,.val (.bool false),.val (.int .i64 1),.val (.bool false),.val (.int .i64 0),.val (.string ByteArray.empty),.slice [] false,.slice [] false,.slice [] false]:=by
 rw[Bt];rfl
theorem c_wInc(n:Int):A0 prog 195 [.agg (Ao (SMu.inc n).m)] (.slice [A7 (tBy,vI n),A7 (Cp,vT tN)] true):=by
 have hT:=HA tN
 simp only[Ah,KV,NX,Mq] at*
 refine Zf [] func195 rfl ntmps195 results195 ?_
 (have z:=trivial;(try push_cast)<;>repeat' (first|apply Zi<;>intro _|refine Zc hT ?_|exact Zp|with_reducible apply Za)<;>try push_cast)
 all_goals trace_state
theorem c_wPut:A0 prog 261 [.agg (Ao SMu.put.m)] (.slice [A7 (Cp,vT tK),A7 (Cz,Bx)] true):=by
 have hT:=HA tK
 have hC:=Hd Bx (.mk _ _ _ _ _ _ (by decide) (by decide) (fun _ h=>by cases h) (fun _ h=>by cases h) (by decide) (by decide) (fun _ h=>by cases h))
 simp only[Ah,Se,NX,Mp] at*
 refine Zf [] func261 rfl ntmps261 results261 ?_
 (have z:=trivial;(try push_cast)<;>repeat' (first|apply Zi<;>intro _|refine Zc hT ?_|refine Zc hC ?_|exact Zp|with_reducible apply Za)<;>try push_cast)
 all_goals trace_state
abbrev tFrom:ByteArray:=⟨#[102,114,111,109]⟩
abbrev tTo:ByteArray:=⟨#[116,111]⟩
abbrev tIs:ByteArray:=⟨#[105,115]⟩
abbrev tWas:ByteArray:=⟨#[119,97,115]⟩
abbrev tDo:ByteArray:=⟨#[100,111]⟩
abbrev tIf:ByteArray:=⟨#[105,102]⟩
abbrev F5:ByteArray:=⟨#[97,112,112,101,110,100]⟩
abbrev R9:ByteArray:=⟨#[100,101,108]⟩
abbrev KE:ByteArray:=⟨#[109,111,118,101]⟩
abbrev Ra:ByteArray:=⟨#[99,97,115]⟩
abbrev R0:ByteArray:=⟨#[115,101,113]⟩
abbrev shD(k:Int)(l:List (List D))(r w:D)(t:Bool:=false):D:=.agg [.val (.int .i64 k),.slice l t,r,w]
abbrev nf(s:ByteArray)(n:Int):List D:=[.val (.string s),.val (.int .i64 n)]
abbrev gF(f:Nat):D:=.func (.func f) [] []
abbrev vdD(k:Int):D:=shD k [nf Cp 0,nf Cz 0] (gF 259) (gF 261)
theorem SD(k:Int):A0 prog 189 [.val (.int .i64 k)] (vdD k):=by
 refine Zf [] func189 rfl ntmps189 results189 ?_
 ((try push_cast)<;>repeat' (first|apply Zi<;>intro _|exact Zp|with_reducible apply Za)<;>try push_cast)
 all_goals trace_state
theorem Xp:A0 prog 198 [] (shD 4 [nf tIs 1,nf Cp 0,nf tWas 1] (gF 262) (gF 263)):=by
 refine Zf [] func198 rfl ntmps198 results198 ?_
 ((try push_cast)<;>repeat' (first|apply Zi<;>intro _|exact Zp|with_reducible apply Za)<;>try push_cast)
 all_goals trace_state
theorem Uw(f g:Nat):A2 prog 199 [.func (.func f) [] [.ref 1 0 0 1],.func (.func g) [] [.ref 1 0 0 1]] [(1,.rows [[.val (.map none)]] 1)]
  (shD 7 [nf tDo 0,nf tIf 1] .any .any) [(1,.rows [[.val (.map none)]] 1)]:=by
 refine Zd [48] func199 rfl ntmps199 results199 ?_
 ((try push_cast)<;>repeat' (first|apply Zi<;>intro _|exact Zp|with_reducible apply Za)<;>try push_cast)
 apply Zw<;>push_cast
 all_goals trace_state
theorem LZ:decide (F5=Gx)=false/\decide (R9=Gx)=false/\decide (R9=F5)=false/\decide (Gz=Gx)=false/\decide (Gz=F5)=false/\decide (Gz=R9)=false/\decide (KE=Gx)=false/\decide (KE=F5)=false/\decide (KE=R9)=false/\decide (KE=Gz)=false/\decide (Ra=Gx)=false/\decide (Ra=F5)=false/\decide (Ra=R9)=false/\decide (Ra=Gz)=false/\decide (Ra=KE)=false/\decide (R0=Gx)=false/\decide (R0=F5)=false/\decide (R0=R9)=false/\decide (R0=Gz)=false/\decide (R0=KE)=false/\decide (R0=Ra)=false:=by decide
def shE:List (Value×Nat×D):=[(.string Gx,0,vdD 1),(.string F5,1,vdD 5),(.string R9,2,shD 2 [nf Cp 0] (gF 190) (gF 192) true),
 (.string Gz,3,shD 3 [nf tBy 0,nf Cp 0] (gF 193) (gF 195) true),(.string KE,4,shD 6 [nf tFrom 0,nf tTo 0] (gF 196) (gF 197) true),
 (.string Ra,5,shD 4 [nf tIs 1,nf Cp 0,nf tWas 1] (gF 262) (gF 263)),(.string R0,6,shD 7 [nf tDo 0,nf tIf 1] .any .any)]
theorem SH:A2 prog 125 [] [] (.mref 0) [(0,.map shE 7)]:=by
 have h1:=SD 1
 have h5:=SD 5
 have hs:=Xp
 have hq:=Uw 200 202
 have hn:=LZ
 unfold shE
 refine Zd [72,112,152] func125 rfl ntmps125 results125 ?_
 (have z:=hn;(try push_cast[z])<;>repeat' (first|apply Zi<;>intro _|refine Zc h1 ?_|refine Zc h5 ?_|refine Zc (hs ..) ?_|refine Zs [(1,16)] (hq ..) ?_|exact Zo|with_reducible apply Za)<;>try push_cast[z])
 apply Zr [(0,24)] rfl<;>push_cast
 all_goals trace_state
theorem c_mWrite(m:SMu)(hm:m.ok):A2 prog 124 [.mref 1,.agg (Ao m.m)] [(1,.map shE 7)] (.agg (A5 m.o)) [(1,.map shE 7)]:=by
 have hg:L6 prog 0=some [.string ByteArray.empty,.string Gx,.string R9,.string Gz,.string Ra,.string F5,.string KE,.string R0]:=by kernel_rfl
 have hn:=LZ
 cases m with
 |inc n=>
  have hW:=c_wInc n
  have hT:=HA Gz
  have hI:=(HE (tBy,vI n) (Cp,vT tN)).lo (ds':=[.slice [A7 (tBy,vI n),A7 (Cp,vT tN)] true]) ⟨⟨Bh _,fun h=>by cases h⟩,trivial⟩
  have hO:=HE (Ei,(SMu.inc n).args) (Eh,vT Gz)
  rw[Mq] at*
  rw[Ah,Ah] at hO
  change A0 _ _ _ (.agg (A5 (SMu.inc n).args)) at hI
  change A0 _ _ _ (.agg (A5 (SMu.inc n).o)) at hO
  simp only at hO
  obtain⟨u1,u2,u3,u4⟩:=An (SMu.inc n).args
  obtain⟨v1,v2,v3,v4⟩:=An (SMu.inc n).o
  obtain⟨w1,w2,w3,w4⟩:=An (vT Gz)
  generalize A5 (SMu.inc n).args=A at*
  generalize A5 (SMu.inc n).o=O at*
  generalize A5 (vT Gz)=T at*
  unfold shE
  refine Zd [] func124 rfl ntmps124 results124 ?_
  (have z:=Za hn<|Za hg<|Za u1<|Za u2<|Za u3<|Za u4<|Za v1<|Za v2<|Za v3<|Za v4<|Za w1<|Za w2<|Za w3 w4;(try push_cast[z])<;>repeat' (first|apply Zi<;>intro _|refine Zv hW ?_|refine Zc hI ?_|refine Zc hT ?_|refine Zg hO ?_ ?_|exact Zo|with_reducible apply Za)<;>try push_cast[z])
  apply Zw<;>push_cast [v1,v2,v3]
 |put=>
  have hW:=c_wPut
  have hT:=HA Gx
  have hI:=(HE (Cp,vT tK) (Cz,Bx)).lo (ds':=[.slice [A7 (Cp,vT tK),A7 (Cz,Bx)] true]) ⟨⟨Bh _,fun h=>by cases h⟩,trivial⟩
  have hO:=HE (Ei,SMu.put.args) (Eh,vT Gx)
  rw[Mp] at*
  rw[Ah,Ah] at hO
  change A0 _ _ _ (.agg (A5 SMu.put.args)) at hI
  change A0 _ _ _ (.agg (A5 SMu.put.o)) at hO
  simp only at hO
  obtain⟨u1,u2,u3,u4⟩:=An SMu.put.args
  obtain⟨v1,v2,v3,v4⟩:=An SMu.put.o
  obtain⟨w1,w2,w3,w4⟩:=An (vT Gx)
  generalize A5 SMu.put.args=A at*
  generalize A5 SMu.put.o=O at*
  generalize A5 (vT Gx)=T at*
  unfold shE
  refine Zd [] func124 rfl ntmps124 results124 ?_
  (have z:=Za hn<|Za hg<|Za u1<|Za u2<|Za u3<|Za u4<|Za v1<|Za v2<|Za v3<|Za v4<|Za w1<|Za w2<|Za w3 w4;(try push_cast[z])<;>repeat' (first|apply Zi<;>intro _|refine Zv hW ?_|refine Zc hI ?_|refine Zc hT ?_|refine Zg hO ?_ ?_|exact Zo|with_reducible apply Za)<;>try push_cast[z])
  apply Zw<;>push_cast [v1,v2,v3]
theorem Hx(m:GM):Ag (Ao m)=true/\(Ao m).length=19/\(Ao m).all AN=true/\(Ao m).take 19=Ao m:=⟨Ay m,Bo m,H6 m,Hi m⟩
theorem XB(hM:MayOk):ObjOk:=fun m hm=>by
 have hY:=hM m hm
 have hS:=SH
 have hW:=c_mWrite m hm
 obtain⟨u1,u2,u3,u4⟩:=Hx m.m
 obtain⟨v1,v2,v3,v4⟩:=An m.o
 generalize Ao m.m=U at*
 generalize A5 m.o=O at*
 unfold shE at*
 refine Zf [] func73 rfl ntmps73 results73 ?_
 (have z:=Za u1<|Za u2<|Za u3<|Za u4<|Za v1<|Za v2<|Za v3 v4;(try push_cast[z])<;>repeat' (first|apply Zi<;>intro _|refine Zc hY ?_|refine Zs [] hS ?_|refine Zs [(1,64)] hW ?_|exact Zo|with_reducible apply Za)<;>try push_cast[z])
 all_goals trace_state
end Go.Ab
namespace Go.Proofs
open Go.Proofs Go.Proofs.Tryz Go.RowKit Go.Shelf
def Tryz.sLen_ren:Go.Shelf.Ren:=⟨fun|125=>176|128=>253|129=>254|n=>n,fun|46=>258|3=>3|51=>217|53=>27|4=>4|5=>5|9=>9|n=>n,fun|n=>n⟩
theorem Tryz.sLen:Go.Proofs.Lays.n125 prog Tryz.sLen_ren:= {
 mixed:=by kernel_rfl
 f125:=func176.trans (congrArg some (by kernel_rfl))
 f128:=func253.trans (congrArg some (by kernel_rfl))
 f129:=func254.trans (congrArg some (by kernel_rfl))
 t3:=underlying3
 a3:=isAgg3
 z3:=sizeOf3
 v3:=zeroValue3
 t4:=underlying4
 a4:=isAgg4
 z4:=sizeOf4
 v4:=zeroValue4
 t5:=underlying5
 a5:=isAgg5
 z5:=sizeOf5
 v5:=zeroValue5
 t9:=underlying9
 a9:=isAgg9
 z9:=sizeOf9
 v9:=zeroValue9
 t46:=underlying258
 a46:=isAgg258
 z46:=sizeOf258
 v46:=zeroValue258
 t51:=underlying217
 a51:=isAgg217
 z51:=sizeOf217
 v51:=zeroValue217
 t53:=underlying27
 a53:=isAgg27
 z53:=sizeOf27
 v53:=zeroValue27}
end Go.Proofs
