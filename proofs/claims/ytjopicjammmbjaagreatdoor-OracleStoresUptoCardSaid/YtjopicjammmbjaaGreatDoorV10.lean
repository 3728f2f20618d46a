/- The layer by which the program is walked, and what its functions do: part 11 of 16. -/
import Derived.Test.YtjopicjammmbjaaGreatDoorV9
set_option maxHeartbeats 4000000
set_option maxRecDepth 20000
set_option linter.unusedVariables false
set_option linter.unusedSimpArgs false
set_option linter.unnecessarySimpa false
namespace Go.Proofs
open Go.Ab Go.Proofs Go.Proofs.Tryz Go.RowKit Go.Shelf
attribute [local go_sem] Oper.semAt_some
set_option maxRecDepth 100000 in
set_option maxHeartbeats 4000000 in
theorem w_Quote(n:Nat)(s:ByteArray)(hs:s.size<=1048576)(w0:World)(hT:∀ W,Below w0.heap.size w0 W->Lib.Utf8Tabs (Tryz.sDecode_ren.g 3) (Tryz.sDecode_ren.g 4) W)(hT2:Lib.Utf8Tabs (Tryz.sValid_ren.g 3) (Tryz.sValid_ren.g 4) w0):
  CallsIn Fence.wide n prog 244 #[.string s] w0 fun e w'=>e=.returned (.tuple #[.string (DT s),.int .i64 (if B1 s=true then 0 else 3)])/\Below w0.heap.size w0 w':=by
 obtain⟨cd,hcd⟩:∃ cd:Int,cd=(if B1 s=true then 0 else 3):=⟨_,rfl⟩
 rw[<-hcd]
 have hV:=c_valid (n-1) s w0 hs hT2
 refine callsIn_of_wp_marks func244 rfl trivial ?_
 simp only[ntmps244,A0H,A0g,A0i,Nat.reduceAdd,Nat.reduceSub,A1M,A1N,A21,A1r,A09,A07]
 gi_wp2
 refine⟨trivial,fun h=>(by cases h),hV.mono ?_⟩
 rintro e w1 ⟨rfl,hb1⟩
 cases hv:B1 s with
 |false=>
  rw[if_neg (by rw[hv];decide)] at hcd
  subst hcd
  gi_wp2
  refine⟨_,results_tmp2 rfl _ _ _,?_,hb1⟩
  simp[DT,hv]
  rfl
 |true=>
  rw[if_pos hv] at hcd
  subst hcd
  gi_wp2
  have hB0:Tryz.bld (w1.heap.size+1) (w1.heap.size+1) [] ((w1.alloc (.cells #[.map none] 303)).alloc (.cells #[.pointer none,.slice none 0 0] 252)):=by
   have:=Lib.IsBuilderF.of (Lib.fresh_isBuilder 252 5 (w1.alloc (.cells #[.map none] 303)))
   rwa[World.size_alloc] at this
  have hlo:w0.heap.size<=w1.heap.size:=hb1.size
  have e4:((w1.alloc (.cells #[.map none] 303)).alloc (.cells #[.pointer none,.slice none 0 0] 252)).heap[w1.heap.size]? =some (.cells #[.map none] 303 (0,0)):=
   (Below.heap_alloc _ _ _ (by simp)).trans (World.alloc_heap_new w1 _)
  have hb2:Below w0.heap.size w0 ((w1.alloc (.cells #[.map none] 303)).alloc (.cells #[.pointer none,.slice none 0 0] 252)):=(hb1.alloc (by omega) _).alloc (by simp;omega) _
  generalize(w1.alloc (.cells #[.map none] 303)).alloc (.cells #[.pointer none,.slice none 0 0] 252)=w2 at*
  obtain⟨b4,hb4⟩:∃ b4,b4=w1.heap.size:=⟨_,rfl⟩
  obtain⟨b,hbb⟩:∃ b,b=w1.heap.size+1:=⟨_,rfl⟩
  rw[<-hbb] at hB0|-
  rw[<-hb4] at hlo hbb e4|-
  clear hb4
  refine⟨trivial,fun h=>(by cases h),(callsIn_wide.2 (Tryz.bWb b b [] 34 w2 hB0 (by simp) (by have:=Dz hB0;omega))).mono ?_⟩
  rintro e w3 ⟨rfl,hB3,bb3,kk3⟩
  have f4:=Le hB0 kk3 (by omega) e4
  have hb3:Below w0.heap.size w0 w3:=hb2.trans (bb3.mono (by omega))
  gi_wp2
  refine⟨trivial,fun h=>(by cases h),(c_runes (n-1) s w3).mono ?_⟩
  rintro e w4 ⟨rfl,hw4⟩
  obtain⟨bx,hbx⟩:∃ bx,bx=w3.heap.size:=⟨_,rfl⟩
  have hbl:=Dz hB3
  have k4:EG w3 w4:=by subst hw4;exact EG.below ((Below.refl _ _).alloc (A0e _) _)
  have hb4:Below w0.heap.size w0 w4:=by subst hw4;exact hb3.alloc hb3.size _
  have hx4:w4.heap[bx]? =some (.cells #[.string s] 9 (0,0)):=by subst hw4;rw[hbx];exact World.alloc_heap_new w3 _
  rw[<-hbx]
  have hI:Rh s w0 b4 b bx 0 w4:=⟨⟨[34],Lc k4 hB3,by rw[A1T],by simp⟩,hb4,by omega,by omega,by omega,hx4,.inl (Fc k4 f4),A0t _,by rw[A1T];exact hv⟩
  have hbx4:bx≠b4:=by omega
  clear hw4 hbx
  subst hbb
  gi_wp2
  refine XW (σ:=Nat) (gf:=266) (lb:=#[.pointer (some ⟨bx,0,none⟩)]) rfl (enters_of func266 (by kernel_rfl) rfl) (c_runes1 (n-1) s hs bx w0 hT) (fun _=>rfl) (Rh s w0 b4 (b4+1) bx)
   (fun p W h=>⟨h.below,by simp[World.cell?,h.box],h.le,h.ok⟩)
   (fun p W W' h hb=>h.keepL (EG.below hb) (h.below.trans (hb.mono h.below.size)))
   (fun p W l r o hl hr h=>h.keepL (EG.put o hr) (h.below.trans ((Below.refl _ W).grown (grownBy_putObj' W l o) (by have:=h.below.size;omega) (fun k e=>by cases e;have:=hb4.size;omega))))
   hI
   (fun p=> {tmps:=#[.string s,undef,.string ⟨#[]⟩,.int .i64 0,.pointer (some ⟨b4,0,none⟩),.pointer (some ⟨b4+1,0,none⟩),undef,.int .i32 (rnA s p).1,undef,undef,.string s,.bool true,.bool false,.nilIface,.string s,
    .func (.func 266) #[] #[.pointer (some ⟨bx,0,none⟩)],.int .i64 p,.int .i32 (rnA s p).1,undef,undef,undef,undef,undef,undef,undef,undef,undef,undef,undef,undef,undef,undef,undef,undef,undef,undef,undef,undef,undef,undef,undef,undef,undef,undef,undef,undef],defers:=[]}) ?assign ?body ?done
  case assign=>
   intro l p W K hK
   unfold Yt
   gi_wp2
   exact hK
  case done=>
   intro D W hD hI hK
   obtain⟨acc,q,t1,t2⟩:=hI.start
   rw[List.drop_of_length_le (show s.data.toList.length<=s.size from A0e _),FR,A0E] at t1
   have ql:=Dz q.bld
   refine(show Exit.inBlock 0 _ _ _ _ from ?_)
   gi_wp2
   refine⟨trivial,fun h=>(by cases h),(callsIn_wide.2 (Tryz.bWb (b4+1) (b4+1) acc 34 W q.bld (by omega) (by omega))).mono ?_⟩
   rintro e W2 ⟨rfl,B2,bb,kk⟩
   have q2:=q.write B2 bb kk
   have ql2:=Dz q2.bld
   gi_wp2
   refine⟨trivial,fun h=>(by cases h),(callsIn_wide.2 (Tryz.bSt (b4+1) (b4+1) (acc++[34]) W2 B2 (by omega))).mono ?_⟩
   rintro e W3 ⟨rfl,bb3,kk3⟩
   have hK3:=((q2.keep.trans (Lt B2 bb3 kk3))).same _ _ hK rfl
   gi_wp2
   refine⟨by simp,.inl ⟨_,_,rfl,run_takeDeferred hK3,?_⟩⟩
   refine⟨_,results_tmp2 rfl _ _ _,?_,?_⟩
   ·have e:DT s=⟨(acc++[34]).toArray⟩:=by unfold DT;rw[if_pos hv,t1]
    rw[e]
    rfl
   ·exact(q2.below.trans (bb3.mono q2.blt)).grown (grownBy_putObj' W3 D _) (by have:=q2.below.size;have:=bb3.size;omega) (fun k e=>by cases e;have:=hb4.size;omega)
  case body=>
   intro l p W hI hp
   obtain⟨acc,q,t1,t2⟩:=hI.start
   have ql:=Dz q.bld
   have hok:=hI.ok
   obtain⟨v1,v2,v3,v4,v5⟩:=RG hp hok
   have hnx:∀ {W':World} {x:List UInt8},x=JS (s.data.toList.drop p)->Nz s w0 b4 (b4+1) bx W (acc++x) W'->KeepsOthers W W'/\Rh s w0 b4 (b4+1) bx (p+(rnA s p).2) W':=fun hx h=>Nz.next hp hok t1 t2 hx h
   unfold JS at hnx
   change ∀ {W':World} {x:List UInt8},x=(if 32<=(rnA s p).1/\(rnA s p).1≠34/\(rnA s p).1≠92 then Lib.encodeRune (rnA s p).1 else match Hu (rnA s p).1 with|some c=>[92,c]|none=>[92,117,48,48,J9 ((rnA s p).1/16),J9 ((rnA s p).1%16)])->_ at hnx
   generalize rnA s p=x at*
   obtain⟨r,wd⟩:=x
   simp only at*
   have hal:acc.length+16<=140737488355328:=by omega
   clear t1 t2 hI hok v1 v2
   gi_wp2
   refine⟨trivial,fun h=>(by cases h),CallsIn.inRound l ((c_stands (n-1-1-1) r W).mono ?_)⟩
   rintro e w' ⟨rfl,rfl⟩
   by_cases st:32<=r/\r≠34/\r≠92
   ·rw[if_pos st] at hnx
    rw[decide_eq_true st]
    gi_wp2
    refine⟨trivial,fun h=>(by cases h),CallsIn.inRound l ((callsIn_wide.2 (Tryz.bWr (b4+1) (b4+1) acc r v5 w' q.bld (by omega) (by omega))).mono ?_)⟩
    rintro e W2 ⟨rfl,B2,bb,kk⟩
    gi_wp2
    exact hnx rfl (q.write B2 bb kk)
   ·rw[if_neg st] at hnx
    rw[decide_eq_false st]
    have q0:∀ w:World,(binOp .eql 303 (.map none) (.map none)).run prog w=.ok (.bool true) w:=fun w=>VF none w
    have q1:∀ (m:Nat) (w:World),(binOp .eql 303 (.map (some m)) (.map none)).run prog w=.ok (.bool false) w:=fun m w=>VF (some m) w
    rcases q.map with e4|⟨m,e4,hm⟩
    ·have c4:w'.cell? ⟨b4,0,none⟩=some (.map none):=by simp[World.cell?,e4]
     have z4:w'.frozen? ⟨b4,0,none⟩=false:=by simp[World.frozen?,e4]
     gi_wp2
     refine⟨trivial,fun h=>(by cases h),CallsIn.inRound l ((Xv (n-1-1-1) w').mono ?_)⟩
     rintro e W2 ⟨rfl,hm,hb⟩
     have e42:=Fc (EG.below hb) e4
     have c42:W2.cell? ⟨b4,0,none⟩=some (.map none):=by simp[World.cell?,e42]
     have z42:W2.frozen? ⟨b4,0,none⟩=false:=by simp[World.frozen?,e42]
     obtain⟨q3,n4,m3⟩:=q.letters e4 hb hm hbx4 hlo
     have c43:(W2.setCell ⟨b4,0,none⟩ (.map (some w'.heap.size))).cell? ⟨b4,0,none⟩=some (.map (some w'.heap.size)):=by simp[World.cell?,n4]
     obtain⟨c,hlk,hc⟩:=Pa m3 r v5
     cases hl:Hu r with
     |some bt=>
      rw[hl] at hlk hnx
      obtain rfl:=hc bt hl
      obtain⟨le1,le2⟩:=Sg hl
      simp only[Option.isSome_some] at hlk
      gi_wp2
      refine⟨trivial,fun h=>(by cases h),CallsIn.inRound l ((callsIn_wide.2 (Tryz.bWb (b4+1) (b4+1) acc 92 _ q3.bld (by omega) (by have:=Dz q3.bld;omega))).mono ?_)⟩
      rintro e W5 ⟨rfl,B5,bb5,kk5⟩
      have q5:=q3.write B5 bb5 kk5
      have l5:=Dz q5.bld
      gi_wp2
      refine⟨trivial,fun h=>(by cases h),CallsIn.inRound l ((callsIn_wide.2 (Tryz.bWr (b4+1) (b4+1) (acc++[92]) bt.toNat (by omega) _ q5.bld (by simp;omega) (by omega))).mono ?_)⟩
      rintro e W6 ⟨rfl,B6,bb6,kk6⟩
      have q6:=q5.write B6 bb6 kk6
      rw[le1,A05] at q6
      gi_wp2
      exact hnx rfl q6
     |none=>
      rw[hl] at hlk hnx
      have hr:=Pb hl st
      have h15:=and_15 hr
      have h16:0<=bits BinOp.and IntKind.i32 (r:Int) 15/\bits BinOp.and IntKind.i32 (r:Int) 15<16:=by omega
      simp only[A1l] at hlk
      gi_wp2
      refine⟨trivial,fun h=>(by cases h),CallsIn.inRound l ((callsIn_wide.2 (Tryz.bWs (b4+1) (b4+1) acc _ _ q3.bld (by show acc.length+4<=_;omega) (by have:=Dz q3.bld;omega))).mono ?_)⟩
      rintro e W5 ⟨rfl,B5,bb5,kk5⟩
      have q5:=q3.write B5 bb5 kk5
      have l5:=Dz q5.bld
      gi_wp2
      refine⟨trivial,fun h=>(by cases h),CallsIn.inRound l ((callsIn_wide.2 (Tryz.bWb (b4+1) (b4+1) _ _ _ q5.bld (by rw[A08];show acc.length+4+1<=_;omega) (by omega))).mono ?_)⟩
      rintro e W6 ⟨rfl,B6,bb6,kk6⟩
      have q6:=q5.write B6 bb6 kk6
      have l6:=Dz q6.bld
      gi_wp2
      refine⟨trivial,fun h=>(by cases h),CallsIn.inRound l ((callsIn_wide.2 (Tryz.bWb (b4+1) (b4+1) _ _ _ q6.bld (by rw[A08,A08];show acc.length+4+1+1<=_;omega) (by omega))).mono ?_)⟩
      rintro e W7 ⟨rfl,B7,bb7,kk7⟩
      have q7:=q6.write B7 bb7 kk7
      rw[Qv (by omega),Qv (by omega),A05,A05] at q7
      gi_wp2
      refine hnx ?_ q7
      rfl
    ·have c4:w'.cell? ⟨b4,0,none⟩=some (.map (some m)):=by simp[World.cell?,e4]
     have z4:w'.frozen? ⟨b4,0,none⟩=false:=by simp[World.frozen?,e4]
     obtain⟨c,hlk,hc⟩:=Pa hm r v5
     cases hl:Hu r with
     |some bt=>
      rw[hl] at hlk hnx
      obtain rfl:=hc bt hl
      obtain⟨le1,le2⟩:=Sg hl
      simp only[Option.isSome_some] at hlk
      gi_wp2
      refine⟨trivial,fun h=>(by cases h),CallsIn.inRound l ((callsIn_wide.2 (Tryz.bWb (b4+1) (b4+1) acc 92 _ q.bld (by omega) (by have:=Dz q.bld;omega))).mono ?_)⟩
      rintro e W5 ⟨rfl,B5,bb5,kk5⟩
      have q5:=q.write B5 bb5 kk5
      have l5:=Dz q5.bld
      gi_wp2
      refine⟨trivial,fun h=>(by cases h),CallsIn.inRound l ((callsIn_wide.2 (Tryz.bWr (b4+1) (b4+1) (acc++[92]) bt.toNat (by omega) _ q5.bld (by simp;omega) (by omega))).mono ?_)⟩
      rintro e W6 ⟨rfl,B6,bb6,kk6⟩
      have q6:=q5.write B6 bb6 kk6
      rw[le1,A05] at q6
      gi_wp2
      exact hnx rfl q6
     |none=>
      rw[hl] at hlk hnx
      have hr:=Pb hl st
      have h15:=and_15 hr
      have h16:0<=bits BinOp.and IntKind.i32 (r:Int) 15/\bits BinOp.and IntKind.i32 (r:Int) 15<16:=by omega
      simp only[A1l] at hlk
      gi_wp2
      refine⟨trivial,fun h=>(by cases h),CallsIn.inRound l ((callsIn_wide.2 (Tryz.bWs (b4+1) (b4+1) acc _ _ q.bld (by show acc.length+4<=_;omega) (by have:=Dz q.bld;omega))).mono ?_)⟩
      rintro e W5 ⟨rfl,B5,bb5,kk5⟩
      have q5:=q.write B5 bb5 kk5
      have l5:=Dz q5.bld
      gi_wp2
      refine⟨trivial,fun h=>(by cases h),CallsIn.inRound l ((callsIn_wide.2 (Tryz.bWb (b4+1) (b4+1) _ _ _ q5.bld (by rw[A08];show acc.length+4+1<=_;omega) (by omega))).mono ?_)⟩
      rintro e W6 ⟨rfl,B6,bb6,kk6⟩
      have q6:=q5.write B6 bb6 kk6
      have l6:=Dz q6.bld
      gi_wp2
      refine⟨trivial,fun h=>(by cases h),CallsIn.inRound l ((callsIn_wide.2 (Tryz.bWb (b4+1) (b4+1) _ _ _ q6.bld (by rw[A08,A08];show acc.length+4+1+1<=_;omega) (by omega))).mono ?_)⟩
      rintro e W7 ⟨rfl,B7,bb7,kk7⟩
      have q7:=q6.write B7 bb7 kk7
      rw[Qv (by omega),Qv (by omega),A05,A05] at q7
      gi_wp2
      refine hnx ?_ q7
      rfl
end Go.Proofs
namespace Go.Ab
open Go.Proofs Go.Proofs.Tryz
theorem KS{d:Nat}:∀ {l:List GV},(∀ j,j<l.length->Ba (l.getD j zV) d=0)->CZ l d=0
 |[],_=>rfl
 |v::l,h=>by
  have h0:=h 0 (by simp)
  simp only[A0K] at h0
  simp only[CZ,h0]
  simpa using KS (l:=l) fun j hj=>by simpa using h (j+1) (by simpa using hj)
theorem KR{d:Nat}:∀ {l:List GV} {i:Nat},i<l.length->(∀ j,j<i->Ba (l.getD j zV) d=0)->Ba (l.getD i zV) d≠0->CZ l d=Ba (l.getD i zV) d
 |v::l,0,_,_,h=>by
  simp only[A0K] at h|-
  simp only[CZ,if_pos h]
 |v::l,i+1,hi,h,hh=>by
  have h0:=h 0 (by omega)
  simp only[A0K] at h0
  simp only[CZ,h0,A1R]
  simp only[ne_eq,not_true_eq_false,if_false]
  exact KR (by simpa using hi) (fun j hj=>by simpa using h (j+1) (by omega)) (by simpa using hh)
def NU(p:Option ByteArray)(l:List (ByteArray×GV))(j:Nat):Option ByteArray:=if j=0 then p else some (l.getD (j-1) zM).1
theorem U9(p:Option ByteArray)(x:ByteArray×GV)(l:List (ByteArray×GV))(j:Nat):NU p (x::l) (j+1)=NU (some x.1) l j:=by
 unfold NU
 cases j with
 |zero=>simp
 |succ j=>simp
noncomputable def CD(p:Option ByteArray)(l:List (ByteArray×GV))(d j:Nat):Int:=MF (NU p l j) (l.getD j zM).1 (l.getD j zM).2 d
theorem Gv(p:Option ByteArray)(x:ByteArray×GV)(l:List (ByteArray×GV))(d j:Nat):CD p (x::l) d (j+1)=CD (some x.1) l d j:=by
 unfold CD
 rw[U9,A1R]
theorem KU{d:Nat}:∀ {p:Option ByteArray} {l:List (ByteArray×GV)},(∀ j,j<l.length->CD p l d j=0)->Em p l d=0
 |_,[],_=>rfl
 |p,(k,v)::l,h=>by
  have h0:MF p k v d=0:=h 0 (by simp)
  rw[Dx,if_neg (by simp[h0])]
  exact KU fun j hj=>by rw[<-Gv p (k,v)];exact h (j+1) (by simpa using hj)
theorem KT{d:Nat}:∀ {p:Option ByteArray} {l:List (ByteArray×GV)} {i:Nat},i<l.length->(∀ j,j<i->CD p l d j=0)->CD p l d i≠0->Em p l d=CD p l d i
 |p,(k,v)::l,0,_,_,h=>by
  have e:CD p ((k,v)::l) d 0=MF p k v d:=rfl
  rw[e] at h|-
  rw[Dx,if_pos h]
 |p,(k,v)::l,i+1,hi,h,hh=>by
  have h0:MF p k v d=0:=h 0 (by omega)
  rw[Dx,if_neg (by simp[h0]),Gv]
  rw[Gv] at hh
  exact KT (by simpa using hi) (fun j hj=>by rw[<-Gv p (k,v)];exact h (j+1) (by omega)) hh
theorem Qk(l:List (ByteArray×GV))(d:Nat):CD none l d 0=if B1 (l.getD 0 zM).1=false then 3 else Ba (l.getD 0 zM).2 d:=by simp[CD,MF,NU]
theorem Qj(l:List (ByteArray×GV))(d j:Nat)(h:0<j):CD none l d j=if B1 (l.getD j zM).1=false then 3 else if ltS (l.getD (j-1) zM).1 (l.getD j zM).1=false then 8 else Ba (l.getD j zM).2 d:=by
 have:j≠0:=by omega
 simp[CD,MF,NU,this]
theorem c_odd(v:GV):A3 prog 221 [.agg (Aa v)] (.val (.bool (KO v))):=by
 rw[A0]
 refine Zk [] func221 rfl ntmps221 results221 fun H Hb=>?_
 ((try push_cast)<;>repeat' (first|apply Zi<;>intro _|exact Zp|with_reducible apply Za)<;>try push_cast)
 all_goals
  clear H Hb
  unfold KO
  rw[Dr]
  generalize decide (v.s=(⟨#[]⟩:ByteArray))=z at*
  generalize v.list.length=L at*
  generalize v.obj.length=O at*
  generalize v.kind=k at*
  generalize v.n=n at*
  generalize v.b=b at*
  clear v
  rcases A0M L with hL|hL<;>rcases A0M O with hO|hO<;>by_cases hn:n=0<;>cases z<;>cases b<;>first|(simp_all;done)|(simp_all;omega)|grind
theorem c_vmay(v:GV)(d:Nat)(hd:d<=65)(hs:Sm v):A3 prog 197 [.agg (Aa v),.val (.int .i64 d)] (.val (.int .i64 (Ba v d))):=by
 have hrec:∀ x,SizeOf.sizeOf x<SizeOf.sizeOf v->d+1<=65->Sm x->A3 prog 197 [.agg (Aa x),.val (.int .i64 ((d:Int)+1))] (.val (.int .i64 (Ba x (d+1)))):=fun x hx h h2=>by
  have:=c_vmay x (d+1) h h2
  rwa[A1G] at this
 have hl:=hs.list_le
 have ho':=hs.obj_le
 have hO:=c_odd v
 have hV:=GP v.s
 have w1:IntKind.i64.wrap (↑d+1)=↑d+1:=A9 (by omega) (by omega)
 rw[K1]
 rw[A0] at hO|-
 by_cases ho:KO v=true
 ·rw[if_pos ho]
  rw[ho] at hO
  refine Zf [0] func197 rfl ntmps197 results197 ?_
  (have z:=trivial;(try push_cast)<;>repeat' (first|apply Zi<;>intro _|refine Zc hO ?_|exact Zp|with_reducible apply Za)<;>try push_cast)
 ·rw[if_neg ho]
  have ho:KO v=false:=by simpa using ho
  rw[ho] at hO
  by_cases h64:64<d
  ·rw[if_pos h64]
   have b1:decide ((64:Int)<d)=true:=decide_eq_true (by omega)
   refine Zf [0] func197 rfl ntmps197 results197 ?_
   (have z:=b1;(try push_cast[z])<;>repeat' (first|apply Zi<;>intro _|refine Zc hO ?_|exact Zo|with_reducible apply Za)<;>try push_cast[z])
  ·rw[if_neg h64]
   have b1:decide ((64:Int)<d)=false:=decide_eq_false (by omega)
   by_cases k4:v.kind=4
   ·rw[if_pos k4]
    rw[k4] at hO|-
    cases hv:B1 v.s with
    |true=>
     rw[hv] at hV
     refine Zf [0] func197 rfl ntmps197 results197 ?_
     (have z:=b1;(try push_cast[z])<;>repeat' (first|apply Zi<;>intro _|refine Zc hO ?_|refine Zc hV ?_|exact Zo|with_reducible apply Za)<;>try push_cast[z])
    |false=>
     rw[hv] at hV
     refine Zf [0] func197 rfl ntmps197 results197 ?_
     (have z:=b1;(try push_cast[z])<;>repeat' (first|apply Zi<;>intro _|refine Zc hO ?_|refine Zc hV ?_|exact Zo|with_reducible apply Za)<;>try push_cast[z])
   ·rw[if_neg k4]
    have e4:(v.kind==4)=false:=by simpa using k4
    by_cases k5:v.kind=5
    ·rw[if_pos k5]
     rw[k5] at hO|-
     have hrl:∀ i,i<v.list.length->A3 prog 197 [.agg (Aa (v.list.getD i zV)),.val (.int .i64 ((d:Int)+1))] (.val (.int .i64 (Ba (v.list.getD i zV) (d+1)))):=fun i hi=>hrec _ (GV.list_lt (Ad hi)) (by omega) (hs.list _ (Ad hi))
     refine Zf [0] func197 rfl ntmps197 results197 ?_
     (have z:=b1;(try push_cast[z])<;>repeat' (first|apply Zi<;>intro _|refine Zc hO ?_|exact Zo|with_reducible apply Za)<;>try push_cast[z])
     refine Zl (fun i=>i<=v.list.length/\∀ j,j<i->Ba (v.list.getD j zV) (d+1)=0) (fun i=>⟨[(30,.val (.int .i64 i)),(29,.val (.int .i64 v.list.length)),(28,.slice (v.list.map Aa) false),(1,.val (.int .i64 d))],[],400⟩) (fun i=>v.list.length-i) 0 (by simp) ?_ fun i hi=>?_
     ·apply Zw<;>push_cast
     ·obtain⟨h1,h2⟩:=hi
      push_cast
      refine A6 (fun ha=>?_) (fun ha=>?_)
      ·have hi':i<v.list.length:=by simpa using ha
       have e1:=DM hi'
       have hr:=hrl i hi'
       have hhit:=KR hi' h2
       generalize hx:v.list.getD i zV=x at*
       by_cases hc:Ba x (d+1)=0
       ·rw[hc] at hr
        (have z:=Za e1 w1;(try push_cast[z])<;>repeat' (first|apply Zi<;>intro _|refine Zc (hr ..) ?_|exact Zo|with_reducible apply Za)<;>try push_cast[z])
        all_goals first|omega|skip
        refine⟨i+1,⟨hi',fun j hj=>?_⟩,by omega,?_⟩
        ·by_cases hji:j=i
         ·rw[hji,hx];exact hc
         ·exact h2 j (by omega)
        ·apply Zw<;>push_cast
         exact A9 (by omega) (by omega)
       ·have b3:(Ba x (d+1) !=0)=true:=by simpa using hc
        rw[hhit hc]
        generalize Ba x (d+1)=c at*
        (have z:=Za e1<|Za w1 b3;(try push_cast[z])<;>repeat' (first|apply Zi<;>intro _|refine Zc (hr ..) ?_|exact Zo|with_reducible apply Za)<;>try push_cast[z])
        all_goals first|omega|skip
      ·have hi':i=v.list.length:=by simp at ha;omega
       subst hi'
       rw[KS h2]
       ((try push_cast)<;>repeat' (first|apply Zi<;>intro _|exact Zp|with_reducible apply Za)<;>try push_cast)
    ·rw[if_neg k5]
     have e5:(v.kind==5)=false:=by simpa using k5
     by_cases k6:v.kind=6
     ·rw[if_pos k6]
      rw[k6] at hO|-
      have hrl:∀ i,i<v.obj.length->A3 prog 197 [.agg (Aa (v.obj.getD i zM).2),.val (.int .i64 ((d:Int)+1))] (.val (.int .i64 (Ba (v.obj.getD i zM).2 (d+1)))):=fun i hi=>hrec _ (GV.obj_lt (Ad hi)) (by omega) (hs.obj _ (Ad hi))
      refine Zf [0] func197 rfl ntmps197 results197 ?_
      (have z:=b1;(try push_cast[z])<;>repeat' (first|apply Zi<;>intro _|refine Zc hO ?_|exact Zo|with_reducible apply Za)<;>try push_cast[z])
      refine Zl (fun i=>i<=v.obj.length/\∀ j,j<i->CD none v.obj (d+1) j=0) (fun i=>⟨[(47,.val (.int .i64 i)),(46,.val (.int .i64 v.obj.length)),(45,.slice (v.obj.map Ac) false),(1,.val (.int .i64 d)),(2,.ptr [.val (.int .i64 6),.val (.bool v.b),.val (.int .i64 v.n),.val (.string v.s),.slice (v.list.map Aa) false,.slice (v.obj.map Ac) false] 0)],[],400⟩) (fun i=>v.obj.length-i) 0 (by simp) ?_ fun i hi=>?_
      ·apply Zw<;>push_cast
      ·obtain⟨h1,h2⟩:=hi
       push_cast
       refine A6 (fun ha=>?_) (fun ha=>?_)
       ·have hi':i<v.obj.length:=by simpa using ha
        have e1:=AV hi'
        have hr:=hrl i hi'
        have hK:=GP (v.obj.getD i zM).1
        have hhit:=KT hi' h2
        have w2:IntKind.i64.wrap (↑i+1)=↑i+1:=A9 (by omega) (by omega)
        have hnext:CD none v.obj (d+1) i=0->∀ j,j<i+1->CD none v.obj (d+1) j=0:=fun h j hj=>by
         by_cases hji:j=i
         ·rw[hji];exact h
         ·exact h2 j (by omega)
        rcases A0M i with hz|hz
        ·subst hz
         have e0:=Qk v.obj (d+1)
         cases hv:B1 (v.obj.getD 0 zM).1 with
         |false=>
          rw[hv] at hK
          have e2:CD none v.obj (d+1) 0=3:=by rw[e0,hv];rfl
          rw[e2] at hhit
          rw[hhit (by decide)]
          (have z:=Za e1 @Ao;(try push_cast[z])<;>repeat' (first|apply Zi<;>intro _|refine Zc hK ?_|exact Zo|with_reducible apply Za)<;>try push_cast[z])
          all_goals first|omega|skip
         |true=>
          rw[hv] at hK
          have e2:CD none v.obj (d+1) 0=Ba (v.obj.getD 0 zM).2 (d+1):=by rw[e0,hv];rfl
          by_cases hc:Ba (v.obj.getD 0 zM).2 (d+1)=0
          ·rw[hc] at hr
           (have z:=Za e1<|Za @Ao w1;(try push_cast[z])<;>repeat' (first|apply Zi<;>intro _|refine Zc hK ?_|refine Zc (hr ..) ?_|exact Zo|with_reducible apply Za)<;>try push_cast[z])
           all_goals first|omega|skip
           refine⟨1,⟨hi',hnext (by rw[e2];exact hc)⟩,by omega,?_⟩
           apply Zw<;>push_cast
           all_goals first|exact w2|skip
          ·rw[e2] at hhit
           have b3:(Ba (v.obj.getD 0 zM).2 (d+1) !=0)=true:=by simpa using hc
           rw[hhit hc]
           generalize Ba (v.obj.getD 0 zM).2 (d+1)=c at*
           (have z:=Za e1<|Za @Ao<|Za w1 b3;(try push_cast[z])<;>repeat' (first|apply Zi<;>intro _|refine Zc hK ?_|refine Zc (hr ..) ?_|exact Zo|with_reducible apply Za)<;>try push_cast[z])
           all_goals first|omega|skip
        ·have e0:=Qj v.obj (d+1) i hz
         have b4:decide ((0:Int)<i)=true:=decide_eq_true (by omega)
         have e9:=AV (l:=v.obj) (i:=i-1) (by omega)
         have w3:IntKind.i64.wrap (↑i-1)=((i-1:Nat):Int):=by rw[A9 (by omega) (by omega)];omega
         cases hv:B1 (v.obj.getD i zM).1 with
         |false=>
          rw[hv] at hK
          have e2:CD none v.obj (d+1) i=3:=by rw[e0,hv];rfl
          rw[e2] at hhit
          rw[hhit (by decide)]
          (have z:=Za e1 @Ao;(try push_cast[z])<;>repeat' (first|apply Zi<;>intro _|refine Zc hK ?_|exact Zo|with_reducible apply Za)<;>try push_cast[z])
          all_goals first|omega|skip
         |true=>
          rw[hv] at hK
          cases h9:ltS (v.obj.getD (i-1) zM).1 (v.obj.getD i zM).1 with
          |false=>
           have e2:CD none v.obj (d+1) i=8:=by rw[e0,hv,h9];rfl
           rw[e2] at hhit
           rw[hhit (by decide)]
           (have z:=Za e1<|Za e9<|Za @Ao<|Za b4<|Za w3 h9;(try push_cast[z])<;>repeat' (first|apply Zi<;>intro _|refine Zc hK ?_|exact Zo|with_reducible apply Za)<;>try push_cast[z])
           all_goals first|omega|skip
          |true=>
           have e2:CD none v.obj (d+1) i=Ba (v.obj.getD i zM).2 (d+1):=by rw[e0,hv,h9];rfl
           by_cases hc:Ba (v.obj.getD i zM).2 (d+1)=0
           ·rw[hc] at hr
            (have z:=Za e1<|Za e9<|Za @Ao<|Za b4<|Za w1<|Za w3 h9;(try push_cast[z])<;>repeat' (first|apply Zi<;>intro _|refine Zc hK ?_|refine Zc (hr ..) ?_|exact Zo|with_reducible apply Za)<;>try push_cast[z])
            all_goals first|omega|skip
            refine⟨i+1,⟨hi',hnext (by rw[e2];exact hc)⟩,by omega,?_⟩
            apply Zw<;>push_cast
            all_goals first|exact w2|skip
           ·rw[e2] at hhit
            have b3:(Ba (v.obj.getD i zM).2 (d+1) !=0)=true:=by simpa using hc
            rw[hhit hc]
            generalize Ba (v.obj.getD i zM).2 (d+1)=c at*
            (have z:=Za e1<|Za e9<|Za @Ao<|Za b4<|Za w1<|Za w3<|Za b3 h9;(try push_cast[z])<;>repeat' (first|apply Zi<;>intro _|refine Zc hK ?_|refine Zc (hr ..) ?_|exact Zo|with_reducible apply Za)<;>try push_cast[z])
            all_goals first|omega|skip
       ·have hi':i=v.obj.length:=by simp at ha;omega
        subst hi'
        rw[KU h2]
        ((try push_cast)<;>repeat' (first|apply Zi<;>intro _|exact Zp|with_reducible apply Za)<;>try push_cast)
     ·rw[if_neg k6]
      have e6:(v.kind==6)=false:=by simpa using k6
      refine Zf [0] func197 rfl ntmps197 results197 ?_
      (have z:=Za b1<|Za e4<|Za e5 e6;(try push_cast[z])<;>repeat' (first|apply Zi<;>intro _|refine Zc hO ?_|exact Zo|with_reducible apply Za)<;>try push_cast[z])
termination_by SizeOf.sizeOf v
theorem c_vMay(v:GV)(hs:Sm v):A3 prog 155 [.agg (Aa v)] (.val (.int .i64 (Ba v 1))):=by
 have h:A3 prog 197 [.agg (Aa v),.val (.int .i64 1)] (.val (.int .i64 (Ba v 1))):=c_vmay v 1 (by omega) hs
 rw[A0] at h|-
 refine Zf [0] func155 rfl ntmps155 results155 ?_
 (have z:=trivial;(try push_cast)<;>repeat' (first|apply Zi<;>intro _|refine Zc h ?_|exact Zp|with_reducible apply Za)<;>try push_cast)
theorem LE{l:List GV}{i:Nat}(h:i<l.length):BX (l.take (i+1))=max (BX (l.take i)) (C4 (l.getD i zV)):=by
 induction l generalizing i with
 |nil=>simp at h
 |cons x l ih=>
  cases i with
  |zero=>simp [BX]
  |succ i=>
   have:=ih (i:=i) (by simpa using h)
   simp only[List.take_succ_cons,BX,A1R,this]
   omega
theorem Nd{l:List GV}{x:GV}(h:x ∈ l):C4 x<=BX l:=by
 induction l with
 |nil=>cases h
 |cons y l ih=>
  simp only[BX]
  rcases A0o.1 h with rfl|h
  ·omega
  ·have:=ih h;omega
theorem SR{l:List (ByteArray×GV)}{i:Nat}(h:i<l.length):D6 (l.take (i+1))=max (D6 (l.take i)) (C4 (l.getD i zM).2):=by
 induction l generalizing i with
 |nil=>simp at h
 |cons x l ih=>
  obtain⟨k,v⟩:=x
  cases i with
  |zero=>simp [D6]
  |succ i=>
   have:=ih (i:=i) (by simpa using h)
   simp only[List.take_succ_cons,D6,A1R,this]
   omega
theorem UC{l:List (ByteArray×GV)}{x:ByteArray×GV}(h:x ∈ l):C4 x.2<=D6 l:=by
 induction l with
 |nil=>cases h
 |cons y l ih=>
  obtain⟨k,v⟩:=y
  simp only[D6]
  rcases A0o.1 h with rfl|h
  ·simp only;omega
  ·have:=ih h;omega
theorem Nf:∀ l:List (ByteArray×GV),D6 l=BX (l.map (·.2))
 |[]=>rfl
 |(k,v)::l=>by simp only[D6,A0k,BX,Nf l]
mutual
theorem Kl:∀ (v:GV) (d:Nat),Ba v d=0->C4 v+d<=65
 |.mk k b i s l o,d,h=>by
  obtain⟨v1,v2,v3,v4,v5⟩:=E4 h
  rw[Ng]
  change(if k=5 then 1+BX l else if k=6 then 1+D6 o else 1)+d<=65
  by_cases k5:k=5
  ·have h1:=PA l (d+1) (v4 k5) (by omega)
   rw[if_pos k5];omega
  ·rw[if_neg k5]
   by_cases k6:k=6
   ·have h1:=PB none o (d+1) (v5 k6) (by omega)
    rw[if_pos k6];omega
   ·rw[if_neg k6];omega
theorem PA:∀ (l:List GV) (d:Nat),CZ l d=0->d<=65->BX l+d<=65
 |[],d,h,hd=>by simp only[BX];omega
 |v::l,d,h,hd=>by
  simp only[CZ] at h
  split at h
  ·rename_i h1;exact absurd h h1
  ·rename_i h1
   have h2:=Kl v d (by simpa using h1)
   have h3:=PA l d h hd
   simp only[BX];omega
theorem PB:∀ (p:Option ByteArray) (l:List (ByteArray×GV)) (d:Nat),Em p l d=0->d<=65->D6 l+d<=65
 |_,[],d,h,hd=>by simp only[D6];omega
 |p,(k,v)::l,d,h,hd=>by
  rw[Dx] at h
  split at h
  ·rename_i h1;exact absurd h h1
  ·rename_i h1
   have h2:=Kl v d (FU (by simpa using h1)).2
   have h3:=PB (some k) l d h hd
   simp only[D6];omega
end
theorem ZI(a b:Nat):(if(b:Int)>(a:Int) then(b:Int) else(a:Int))=((max a b:Nat):Int):=by split<;>omega
theorem c_Deep(v:GV)(hs:Sm v)(hb:C4 v<=65):A3 prog 156 [.agg (Aa v)] (.val (.int .i64 (C4 v:Nat))):=by
 have hl:=hs.list_le
 have ho:=hs.obj_le
 have hrec:∀ x,SizeOf.sizeOf x<SizeOf.sizeOf v->Sm x->C4 x<=65->A3 prog 156 [.agg (Aa x)] (.val (.int .i64 (C4 x:Nat))):=fun x hx h2 h=>c_Deep x h2 h
 rw[Ng] at hb|-
 by_cases k5:v.kind=5
 ·rw[if_pos k5] at hb|-
  have hrl:∀ i,i<v.list.length->A3 prog 156 [.agg (Aa (v.list.getD i zV))] (.val (.int .i64 (C4 (v.list.getD i zV):Nat))):=fun i hi=>hrec _ (GV.list_lt (Ad hi)) (hs.list _ (Ad hi)) (by have:=Nd (Ad (d:=zV) hi);omega)
  rw[A0,k5]
  clear hrec
  refine Zf [0] func156 rfl ntmps156 results156 ?_
  ((try push_cast)<;>repeat' (first|apply Zi<;>intro _|exact Zp|with_reducible apply Za)<;>try push_cast)
  refine Zl (fun i=>i<=v.list.length) (fun i=>⟨[(15,.val (.int .i64 i)),(14,.val (.int .i64 v.list.length)),(13,.slice (v.list.map Aa) false),(3,.val (.int .i64 (BX (v.list.take i):Nat)))],[],400⟩) (fun i=>v.list.length-i) 0 (by simp) ?_ fun i hi=>?_
  ·apply Zw<;>push_cast
   all_goals simp[BX]
  ·push_cast
   refine A6 (fun ha=>?_) (fun ha=>?_)
   ·have hi':i<v.list.length:=by simpa using ha
    have e1:=DM hi'
    have hr:=hrl i hi'
    have e2:=LE hi'
    (have z:=e1;(try push_cast[z])<;>repeat' (first|apply Zi<;>intro _|refine Zc (hr ..) ?_|exact Zo|with_reducible apply Za)<;>try push_cast[z])
    all_goals first|omega|skip
    refine⟨i+1,hi',by omega,?_⟩
    apply Zw<;>push_cast
    rw[e2]
    exact⟨A9 (by omega) (by omega),ZI _ _⟩
   ·have hi':i=v.list.length:=by simp at ha;omega
    subst hi'
    rw[A0Q]
    ((try push_cast)<;>repeat' (first|apply Zi<;>intro _|exact Zp|with_reducible apply Za)<;>try push_cast)
    exact A9 (by omega) (by omega)
 ·rw[if_neg k5] at hb|-
  have e5:(v.kind==5)=false:=by simpa using k5
  by_cases k6:v.kind=6
  ·rw[if_pos k6] at hb|-
   have hrl:∀ i,i<v.obj.length->A3 prog 156 [.agg (Aa (v.obj.getD i zM).2)] (.val (.int .i64 (C4 (v.obj.getD i zM).2:Nat))):=fun i hi=>hrec _ (GV.obj_lt (Ad hi)) (hs.obj _ (Ad hi)) (by have:=UC (Ad (d:=zM) hi);omega)
   rw[A0,k6]
   clear hrec
   refine Zf [0] func156 rfl ntmps156 results156 ?_
   ((try push_cast)<;>repeat' (first|apply Zi<;>intro _|exact Zp|with_reducible apply Za)<;>try push_cast)
   refine Zl (fun i=>i<=v.obj.length) (fun i=>⟨[(29,.val (.int .i64 i)),(28,.val (.int .i64 v.obj.length)),(27,.slice (v.obj.map Ac) false),(3,.val (.int .i64 (D6 (v.obj.take i):Nat)))],[],400⟩) (fun i=>v.obj.length-i) 0 (by simp) ?_ fun i hi=>?_
   ·apply Zw<;>push_cast
    all_goals simp[D6]
   ·push_cast
    refine A6 (fun ha=>?_) (fun ha=>?_)
    ·have hi':i<v.obj.length:=by simpa using ha
     have e1:=AV hi'
     have hr:=hrl i hi'
     have e2:=SR hi'
     (have z:=Za e1 @Ao;(try push_cast[z])<;>repeat' (first|apply Zi<;>intro _|refine Zc (hr ..) ?_|exact Zo|with_reducible apply Za)<;>try push_cast[z])
     all_goals first|omega|skip
     refine⟨i+1,hi',by omega,?_⟩
     apply Zw<;>push_cast
     rw[e2]
     exact⟨A9 (by omega) (by omega),ZI _ _⟩
    ·have hi':i=v.obj.length:=by simp at ha;omega
     subst hi'
     rw[A0Q]
     ((try push_cast)<;>repeat' (first|apply Zi<;>intro _|exact Zp|with_reducible apply Za)<;>try push_cast)
     exact A9 (by omega) (by omega)
  ·rw[if_neg k6]
   have e6:(v.kind==6)=false:=by simpa using k6
   rw[A0]
   clear hrec
   refine Zf [0] func156 rfl ntmps156 results156 ?_
   (have z:=Za e5 e6;(try push_cast[z])<;>repeat' (first|apply Zi<;>intro _|exact Zo|with_reducible apply Za)<;>try push_cast[z])
   all_goals rfl
termination_by SizeOf.sizeOf v
abbrev wrB(n:Nat):Blk:=.rows [[.val (.bool false),.val (.pointer none),.slice [] true,.val (.int .i64 n)]] 4
def EH:List ByteArray->Nat
 |[]=>0
 |s::l=>s.size+EH l
theorem H9:∀ (a b:List ByteArray),EH (a++b)=EH a+EH b
 |[],b=>by simp[EH]
 |x::a,b=>by simp only[A07,EH,H9 a b];omega
theorem Wb{l:List ByteArray}{i:Nat}(h:i<l.length):EH (l.take (i+1))=EH (l.take i)+(l.getD i ByteArray.empty).size/\EH (l.take (i+1))<=EH l:=by
 have e:l.getD i ByteArray.empty=l[i]:=by rw[A03,A06 h];rfl
 have h1:EH (l.take (i+1))=EH (l.take i)+(l.getD i ByteArray.empty).size:=by
  rw[A10 h,e,H9]
  simp[EH]
 refine⟨h1,?_⟩
 have h2:EH l=EH (l.take (i+1))+EH (l.drop (i+1)):=by
  rw[<-H9,A0R]
 omega
theorem c_join(parts:List ByteArray)(n:Nat)(hn:n+EH parts<=4611686018427387904)(hl:parts.length<=2):
  A4 prog 223 [.ref 1 0 0 4,.sref 3 0 parts.length parts.length 1] [(1,wrB n),(3,.rows (parts.map fun s=>[.val (.string s)]) 1)] (.tup []) [(1,wrB (n+EH parts))]:=by
 have oG:Am (parts.map fun s=>[D.val (.string s)])=true:=AA (fun _=>rfl) parts
 refine Zd [] func223 rfl ntmps223 results223 ?_
 (have z:=oG;(try push_cast[z])<;>repeat' (first|apply Zi<;>intro _|exact Zo|with_reducible apply Za)<;>try push_cast[z])
 all_goals first|omega|skip
 refine Zl (fun i=>i<=parts.length) (fun i=>⟨[(8,.val (.int .i64 i)),(7,.val (.int .i64 parts.length)),(6,.sref 3 0 parts.length parts.length 1),(0,.ref 1 0 0 4)],[(1,wrB (n+EH (parts.take i))),(3,.rows (parts.map fun s=>[.val (.string s)]) 1)],100⟩) (fun i=>parts.length-i) 0 (by simp) ?_ fun i hi=>?_
 ·apply Zw<;>push_cast [oG]
  all_goals try simp[EH]
 ·push_cast[oG]
  refine A6 (fun ha=>?_) (fun ha=>?_)
  ·have hi':i<parts.length:=by simpa using ha
   have e1:=DL (f:=fun s:ByteArray=>[D.val (.string s)]) ByteArray.empty hi'
   obtain⟨t1,t2⟩:=Wb hi'
   (have z:=Za e1 oG;(try push_cast[z])<;>repeat' (first|apply Zi<;>intro _|exact Zo|with_reducible apply Za)<;>try push_cast[z])
   all_goals first|omega|skip
   refine⟨i+1,hi',by omega,?_⟩
   apply Zw<;>push_cast [oG]
   ·exact A9 (by omega) (by omega)
   ·rw[t1,A1G,<-Int.add_assoc]
    exact A9 (by omega) (by omega)
  ·have hi':i=parts.length:=by simp at ha;omega
   subst hi'
   rw[A0Q]
   (have z:=oG;(try push_cast[z])<;>repeat' (first|apply Zi<;>intro _|exact Zo|with_reducible apply Za)<;>try push_cast[z])
   all_goals first|omega|skip
   apply Zw<;>push_cast [oG]
theorem PH(i:Nat)(hi:i<=1048576):A3 prog 230 [.val (.int .i64 i)] (.val (.string (if i=0 then⟨#[]⟩ else⟨#[44]⟩))):=by
 by_cases h:i=0
 ·subst h
  refine Zf [] func230 rfl ntmps230 results230 ?_
  ((try push_cast)<;>repeat' (first|apply Zi<;>intro _|exact Zp|with_reducible apply Za)<;>try push_cast)
  all_goals rfl
 ·have b1:((i:Int)==0)=false:=by simpa using h
  rw[if_neg h]
  refine Zf [] func230 rfl ntmps230 results230 ?_
  (have z:=b1;(try push_cast[z])<;>repeat' (first|apply Zi<;>intro _|exact Zo|with_reducible apply Za)<;>try push_cast[z])
  all_goals rfl
theorem Eh(s:ByteArray)(n:Nat)(h:n+s.size<=4611686018427387904):A4 prog 223 [.ref 1 0 0 4,.sref 3 0 1 1 1] [(1,wrB n),(3,.rows [[.val (.string s)]] 1)] (.tup []) [(1,wrB (n+s.size))]:=by
 have:=c_join [s] n (by simpa[EH] using h) (Nat.le_succ 1)
 simpa[EH] using this
theorem c_join2(s t:ByteArray)(n:Nat)(h:n+(s.size+t.size)<=4611686018427387904):A4 prog 223 [.ref 1 0 0 4,.sref 3 0 2 2 1] [(1,wrB n),(3,.rows [[.val (.string s)],[.val (.string t)]] 1)] (.tup []) [(1,wrB (n+(s.size+t.size)))]:=by
 have:=c_join [s,t] n (by simpa[EH] using h) (A0e 2)
 simpa[EH] using this
def Wr(f:FuncId)(caps:List D)(v:GV):Prop:=∀ n,n+CM v<=2305843009213693952->A4 prog f (.ref 1 0 0 4::caps) [(1,wrB n)] (.tup []) [(1,wrB (n+CM v))]
def H2(v:GV):Prop:=
 (∃ f,A3 prog 198 [.agg (Aa v)] (.func (.func f) [] [.ptr (Aa v) 0])/\Wr f [.ptr (Aa v) 0] v)∨
 (A3 prog 198 [.agg (Aa v)] (.func (.func 233) [] [])/\Wr 233 [] v)
theorem Z6(v:GV)(hk:v.kind=1):H2 v:=by
 refine .inr ⟨?_,fun n hn=>?_⟩
 ·rw[A0,hk]
  refine Zf [0] func198 rfl ntmps198 results198 ?_
  ((try push_cast)<;>repeat' (first|apply Zi<;>intro _|exact Zp|with_reducible apply Za)<;>try push_cast)
 ·have e:CM v=4:=by rw[EK,if_pos hk]
  rw[e] at hn|-
  have hJ:=Eh ⟨#[110,117,108,108]⟩ n (by show n+4<=_;omega)
  change A4 _ _ _ _ _ [(1,wrB (n+4))] at hJ
  refine Zd [] func233 rfl ntmps233 results233 ?_
  (have z:=trivial;(try push_cast)<;>repeat' (first|apply Zi<;>intro _|refine Zs [(1,1),(3,16)] hJ ?_|exact Zp|with_reducible apply Za)<;>try push_cast)
  apply Zw<;>push_cast
theorem PJ{f:FuncId}{caps:List D}{v:GV}(s:ByteArray)(e:CM v=s.size)(h:∀ n,n+s.size<=2305843009213693952->A4 prog f (.ref 1 0 0 4::caps) [(1,wrB n)] (.tup []) [(1,wrB (n+s.size))]):Wr f caps v:=by
 intro n hn
 rw[e] at hn|-
 exact h n hn
theorem Z8(v:GV)(hk:v.kind=2):H2 v:=by
 refine .inl ⟨222,?_,?_⟩
 ·rw[A0,hk]
  refine Zf [0] func198 rfl ntmps198 results198 ?_
  ((try push_cast)<;>repeat' (first|apply Zi<;>intro _|exact Zp|with_reducible apply Za)<;>try push_cast)
 ·have hf:=QN v.b
  have e:CM v=(⟨(Lib.formatBool v.b).toArray⟩:ByteArray).size:=by
   rw[EK,if_neg (by omega),if_pos hk]
   cases v.b<;>rfl
  refine PJ _ e fun n hn=>?_
  generalize(⟨(Lib.formatBool v.b).toArray⟩:ByteArray)=s at*
  have hJ:=Eh s n (by omega)
  rw[A0,hk]
  refine Zd [] func222 rfl ntmps222 results222 ?_
  (have z:=trivial;(try push_cast)<;>repeat' (first|apply Zi<;>intro _|refine Zc (hf ..) ?_|refine Zs [(1,1),(3,40)] hJ ?_|exact Zp|with_reducible apply Za)<;>try push_cast)
  apply Zw<;>push_cast
theorem own_int(v:GV)(hs:Sm v)(hk:v.kind=3):H2 v:=by
 refine .inl ⟨225,?_,?_⟩
 ·rw[A0,hk]
  refine Zf [0] func198 rfl ntmps198 results198 ?_
  ((try push_cast)<;>repeat' (first|apply Zi<;>intro _|exact Zp|with_reducible apply Za)<;>try push_cast)
 ·have hf:=T8 v.n hs.int.1 hs.int.2
  have e:CM v=(⟨(Lib.itoa v.n).toArray⟩:ByteArray).size:=by
   rw[EK,if_neg (by omega),if_neg (by omega),if_pos hk]
   rfl
  refine PJ _ e fun n hn=>?_
  generalize(⟨(Lib.itoa v.n).toArray⟩:ByteArray)=s at*
  have hJ:=Eh s n (by omega)
  rw[A0,hk]
  refine Zd [] func225 rfl ntmps225 results225 ?_
  (have z:=trivial;(try push_cast)<;>repeat' (first|apply Zi<;>intro _|refine Zc (hf ..) ?_|refine Zs [(1,1),(3,40)] hJ ?_|exact Zp|with_reducible apply Za)<;>try push_cast)
  apply Zw<;>push_cast
def NA:Prop:=∀ s:ByteArray,s.size<=1048576->∃ q:ByteArray,q.size=LK s/\A3 prog 228 [.val (.string s)] (.val (.string q))
theorem Z5(hQ:NA)(v:GV)(hs:Sm v)(hk:v.kind=4):H2 v:=by
 refine .inl ⟨227,?_,?_⟩
 ·rw[A0,hk]
  refine Zf [0] func198 rfl ntmps198 results198 ?_
  ((try push_cast)<;>repeat' (first|apply Zi<;>intro _|exact Zp|with_reducible apply Za)<;>try push_cast)
 ·obtain⟨s,hz,hf⟩:=hQ v.s hs.text
  have e:CM v=s.size:=by
   rw[EK,if_neg (by omega),if_neg (by omega),if_neg (by omega),if_pos hk,hz]
  refine PJ _ e fun n hn=>?_
  have hJ:=Eh s n (by omega)
  rw[A0,hk]
  refine Zd [] func227 rfl ntmps227 results227 ?_
  (have z:=trivial;(try push_cast)<;>repeat' (first|apply Zi<;>intro _|refine Zc (hf ..) ?_|refine Zs [(1,1),(3,40)] hJ ?_|exact Zp|with_reducible apply Za)<;>try push_cast)
  apply Zw<;>push_cast
theorem JC{l:List GV}{i:Nat}(h:i<l.length):BC (l.take (i+1))=BC (l.take i)+CM (l[i]'h)/\BC (l.take (i+1))<=BC l:=by
 have ap:∀ a b:List GV,BC (a++b)=BC a+BC b:=fun a b=>by
  induction a with
  |nil=>simp [BC]
  |cons x a ih=>simp only[A07,BC,ih];omega
 have h1:BC (l.take (i+1))=BC (l.take i)+CM l[i]:=by
  rw[A10 h,ap]
  simp[BC]
 refine⟨h1,?_⟩
 have h2:BC l=BC (l.take (i+1))+BC (l.drop (i+1)):=by
  rw[<-ap,A0R]
 omega
theorem Z7(v:GV)(hs:Sm v)(hk:v.kind=5)(ih:∀ x ∈ v.list,H2 x):H2 v:=by
 refine .inl ⟨229,?_,fun n hn=>?_⟩
 ·rw[A0,hk]
  refine Zf [0] func198 rfl ntmps198 results198 ?_
  ((try push_cast)<;>repeat' (first|apply Zi<;>intro _|exact Zp|with_reducible apply Za)<;>try push_cast)
 ·have e:CM v=2+(v.list.length-1)+BC v.list:=by
   rw[EK,if_neg (by omega),if_neg (by omega),if_neg (by omega),if_neg (by omega),if_pos hk]
  rw[e] at hn|-
  have hll:=hs.list_le
  rw[A0,hk]
  generalize v.list=l at*
  have oL:=AA (f:=Aa) Bh l
  have hJ:=Eh ⟨#[91]⟩ n (by show n+1<=_;omega)
  change A4 _ _ _ _ _ [(1,wrB (n+1))] at hJ
  refine Zd [] func229 rfl ntmps229 results229 ?_
  (have z:=oL;(try push_cast[z])<;>repeat' (first|apply Zi<;>intro _|refine Zs [(1,1),(3,16)] hJ ?_|exact Zo|with_reducible apply Za)<;>try push_cast[z])
  all_goals first|omega|skip
  refine Zl (fun i=>i<=l.length) (fun i=>⟨[(11,.val (.int .i64 i)),(10,.val (.int .i64 l.length)),(9,.slice (l.map Aa) false),(0,.ref 1 0 0 4)],[(1,wrB (n+1+(i-1)+BC (l.take i)))],400⟩) (fun i=>l.length-i) 0 (by simp) ?_ fun i hi=>?_
  ·apply Zw<;>push_cast
   all_goals try simp[BC]
  ·push_cast
   refine A6 (fun ha=>?_) (fun ha=>?_)
   ·have hi':i<l.length:=by simpa using ha
    have e1:=DM hi'
    obtain⟨t1,t2⟩:=JC hi'
    have hx:=ih _ (Ad (d:=zV) hi')
    have ex:l.getD i zV=l[i]:=by rw[A03,A06 hi'];rfl
    rw[<-ex] at t1
    generalize l.getD i zV=x at*
    have hB:=PH i (by omega)
    have w1:IntKind.i64.wrap (↑i+1)=↑i+1:=A9 (by omega) (by omega)
    have hJ2:=Eh (if i=0 then⟨#[]⟩ else⟨#[44]⟩) (n+1+(i-1)+BC (l.take i)) (by
     split
     ·show _+0<=_;omega
     ·show _+1<=_;omega)
    have hz:n+1+(i-1)+BC (l.take i)+(if i=0 then(⟨#[]⟩:ByteArray) else⟨#[44]⟩).size=n+1+i+BC (l.take i):=by
     split
     ·show _+0=_;omega
     ·show _+1=_;omega
    rw[hz] at hJ2
    generalize(if i=0 then(⟨#[]⟩:ByteArray) else⟨#[44]⟩)=sep at*
    generalize n+1+(i-1)+BC (l.take i)=m1 at*
    rcases hx with⟨f,h1,h2⟩|⟨h1,h2⟩
    ·have h3:=h2 (n+1+i+BC (l.take i)) (by omega)
     (have z:=Za e1<|Za oL w1;(try push_cast[z])<;>repeat' (first|apply Zi<;>intro _|refine Zc hB ?_|refine Zs [(1,1),(3,880)] hJ2 ?_|refine Zc h1 ?_|refine Zt [(1,1)] h3 ?_|exact Zo|with_reducible apply Za)<;>try push_cast[z])
     all_goals first|omega|skip
     refine⟨i+1,hi',by omega,?_⟩
     apply Zw<;>push_cast
     rw[t1];push_cast;omega
    ·have h3:=h2 (n+1+i+BC (l.take i)) (by omega)
     (have z:=Za e1<|Za oL w1;(try push_cast[z])<;>repeat' (first|apply Zi<;>intro _|refine Zc hB ?_|refine Zs [(1,1),(3,880)] hJ2 ?_|refine Zc h1 ?_|refine Zt [(1,1)] h3 ?_|exact Zo|with_reducible apply Za)<;>try push_cast[z])
     all_goals first|omega|skip
     refine⟨i+1,hi',by omega,?_⟩
     apply Zw<;>push_cast
     rw[t1];push_cast;omega
   ·have hi':i=l.length:=by simp at ha;omega
    subst hi'
    rw[A0Q]
    have hJ3:=Eh ⟨#[93]⟩ (n+1+(l.length-1)+BC l) (by show _+1<=_;omega)
    change A4 _ _ _ _ _ [(1,wrB (n+1+(l.length-1)+BC l+1))] at hJ3
    (have z:=oL;(try push_cast[z])<;>repeat' (first|apply Zi<;>intro _|refine Zs [(1,1),(3,816)] hJ3 ?_|exact Zo|with_reducible apply Za)<;>try push_cast[z])
    all_goals first|omega|skip
    apply Zw<;>push_cast
    omega
noncomputable def DU(m:GM)(L:List GE):Bool:=((Ah m.key L).isSome==m.had)&&(!(Ah m.key L).isSome ||(HE (AH (Ah m.key L)) m.was==0))
section
variable{b:GT}{q:OQ}{l:List GE}(h:Ey b q l)(hb:l.length<=1099511627776)
include h hb
theorem YW(m:GM):A4 prog 83 [.ref 1 0 0 3,.agg (Aj m)] (oqH b q) (.val (.bool (DU m (q.view l)))) (oqH b q):=by
 have hG:=Vf h hb m.key
 have hC:=Ft (AH (Ah m.key (q.view l))) m.was
 have oB:=A5 b
 unfold DU
 generalize AH (Ah m.key (q.view l))=v at*
 generalize(Ah m.key (q.view l)).isSome=x at*
 generalize hc:(HE v m.was==0)=c at*
 rw[Ae,A0 m.was,A0 m.value]
 rw[A0 m.was] at hC
 simp only[oqH] at hG|-
 simp only[A07,A09,A05]
 have bt:(true==false)=false:=rfl
 have bf:(false==true)=false:=rfl
 cases hh:m.had<;>cases x<;>simp only[bt,bf,Bool.not_true,Bool.not_false,Bool.true_or,Bool.false_or,Bool.true_and,Bool.false_and,A22,Bool.and_false,beq_self_eq_true]
 all_goals
  refine Zd [] func83 rfl ntmps83 results83 ?_
  (have z:=Za oB<|Za bt bf;(try push_cast[z])<;>repeat' (first|apply Zi<;>intro _|refine Zs [(1,1),(2,2),(4,4)] hG ?_|refine Zc hC ?_|exact Zo|with_reducible apply Za)<;>try push_cast[z])
  all_goals(apply Zr [(2,50),(4,52)] rfl<;>push_cast [oB])
omit h hb in
theorem NG(n:Int): -9223372036854775808<=IntKind.i64.wrap n/\IntKind.i64.wrap n<=9223372036854775807:=JN .i64 n
def ovf(n d:Int):Bool:=(decide (0<d)&&decide (IntKind.i64.wrap (n+d)<n)) ||(decide (d<0)&&decide (n<IntKind.i64.wrap (n+d)))
noncomputable def FX(L:List GE)(k:ByteArray)(d f:Int):Int:=
 if(Ah k L).isSome=true/\(AH (Ah k L)).kind≠3 then 9 else if ovf (AH (Ah k L)).n d=true then 7 else Bv f k
def E8(L:List GE)(k:ByteArray)(d:Int):GV:=.mk 3 false (IntKind.i64.wrap ((AH (Ah k L)).n+d)) ByteArray.empty [] []
theorem q_inc(k:ByteArray)(d f:Int)(hF:A3 prog 116 [.agg (Aa (E8 (q.view l) k d))] (.val (.int .i64 f)))(hn:q.us.length<1073741824):
  ∃ q',A4 prog 79 [.ref 1 0 0 3,.val (.string k),.val (.int .i64 d)] (oqH b q) (.val (.int .i64 (FX (q.view l) k d f))) (oqH b q')/\Led b l q q' 1 (if FX (q.view l) k d f=0 then AU (k,E8 (q.view l) k d) (q.view l) else q.view l):=by
 have hG:=Vf h hb k
 have oB:=A5 b
 have hsm:Sm (E8 (q.view l) k d):=.mk _ _ _ _ [] [] (by simp) (by simp) (by simp) (by simp) (NG _) (by decide) (by simp)
 obtain⟨q',hP,hL⟩:=Mr h k (E8 (q.view l) k d) f hF hsm hn
 unfold FX
 rw[A0] at hG
 have hPz:=hP.args (ds':=[.ref 1 0 0 3,.val (.string k),.agg [.val (.int .i64 3),.val (.bool false),.val (.int .i64 (E8 (q.view l) k d).n),.val (.string ByteArray.empty),.slice [] true,.slice [] true]]) (by
  rw[A0]
  exact⟨An _,An _,⟨An _,An _,An _,An _,⟨trivial,fun e=>by cases e⟩,⟨trivial,fun e=>by cases e⟩,trivial⟩,trivial⟩)
 by_cases hk:(Ah k (q.view l)).isSome=true/\(AH (Ah k (q.view l))).kind≠3
 ·simp only[if_pos hk]
  refine⟨q,?_,by rw[if_neg (by decide)];exact .refl h 1⟩
  obtain⟨hx,hk⟩:=hk
  rw[hx] at hG
  have b1:((AH (Ah k (q.view l))).kind !=3)=true:=by simpa using hk
  generalize AH (Ah k (q.view l))=v at*
  simp only[oqH] at hG|-
  refine Zd [] func79 rfl ntmps79 results79 ?_
  (have z:=Za oB b1;(try push_cast[z])<;>repeat' (first|apply Zi<;>intro _|refine Zs [(1,1),(2,2),(4,4)] hG ?_|exact Zo|with_reducible apply Za)<;>try push_cast[z])
  all_goals(apply Zr [(2,34),(4,36)] rfl<;>push_cast [oB])
 ·simp only[if_neg hk]
  have b1:(Ah k (q.view l)).isSome=true->((AH (Ah k (q.view l))).kind !=3)=false:=fun hx=>by
   simp only[bne_eq_false_iff_eq]
   exact Classical.byContradiction fun h2=>hk ⟨hx,h2⟩
  by_cases ho:ovf (AH (Ah k (q.view l))).n d=true
  ·simp only[if_pos ho]
   refine⟨q,?_,by rw[if_neg (by decide)];exact .refl h 1⟩
   generalize AH (Ah k (q.view l))=v at*
   unfold ovf at ho
   simp only[oqH] at hG|-
   cases hx:(Ah k (q.view l)).isSome with
   |false=>
    rw[hx] at hG
    cases h1:decide (0<d)<;>cases h2:decide (IntKind.i64.wrap (v.n+d)<v.n)<;>cases h3:decide (d<0)<;>cases h4:decide (v.n<IntKind.i64.wrap (v.n+d))<;>simp only[h1,h2,h3,h4,A22,Bool.and_false,A23,Bool.or_true,A0q] at ho
    all_goals
     refine Zd [] func79 rfl ntmps79 results79 ?_
     (have z:=Za oB<|Za h1<|Za h2<|Za h3 h4;(try push_cast[z])<;>repeat' (first|apply Zi<;>intro _|refine Zs [(1,1),(2,2),(4,4)] hG ?_|exact Zo|with_reducible apply Za)<;>try push_cast[z])
     all_goals(apply Zr [(2,34),(4,36)] rfl<;>push_cast [oB])
   |true=>
    rw[hx] at hG
    have b2:=b1 hx
    cases h1:decide (0<d)<;>cases h2:decide (IntKind.i64.wrap (v.n+d)<v.n)<;>cases h3:decide (d<0)<;>cases h4:decide (v.n<IntKind.i64.wrap (v.n+d))<;>simp only[h1,h2,h3,h4,A22,Bool.and_false,A23,Bool.or_true,A0q] at ho
    all_goals
     refine Zd [] func79 rfl ntmps79 results79 ?_
     (have z:=Za oB<|Za h1<|Za h2<|Za h3<|Za h4 b2;(try push_cast[z])<;>repeat' (first|apply Zi<;>intro _|refine Zs [(1,1),(2,2),(4,4)] hG ?_|exact Zo|with_reducible apply Za)<;>try push_cast[z])
     all_goals(apply Zr [(2,34),(4,36)] rfl<;>push_cast [oB])
  ·simp only[if_neg ho]
   refine⟨q',?_,hL⟩
   have hpu:(E8 (q.view l) k d).n=IntKind.i64.wrap ((AH (Ah k (q.view l))).n+d):=rfl
   rw[hpu] at hPz
   generalize Bv f k=c at*
   generalize AH (Ah k (q.view l))=v at*
   unfold ovf at ho
   simp only[oqH] at hG hPz|-
   cases hx:(Ah k (q.view l)).isSome with
   |false=>
    rw[hx] at hG
    cases h1:decide (0<d)<;>cases h2:decide (IntKind.i64.wrap (v.n+d)<v.n)<;>cases h3:decide (d<0)<;>cases h4:decide (v.n<IntKind.i64.wrap (v.n+d))<;>simp only[h1,h2,h3,h4,A22,Bool.and_false,A23,Bool.or_true,A0q,not_true_eq_false,not_false_eq_true] at ho
    all_goals
     refine Zd [] func79 rfl ntmps79 results79 ?_
     (have z:=Za oB<|Za h1<|Za h2<|Za h3 h4;(try push_cast[z])<;>repeat' (first|apply Zi<;>intro _|refine Zs [(1,1),(2,2),(4,4)] hG ?_|refine Zs [(1,1),(2,34),(4,36)] (hPz ..) ?_|exact Zo|with_reducible apply Za)<;>try push_cast[z])
     all_goals(apply Zr [(2,354),(4,356)] rfl<;>push_cast [oB])
   |true=>
    rw[hx] at hG
    have b2:=b1 hx
    cases h1:decide (0<d)<;>cases h2:decide (IntKind.i64.wrap (v.n+d)<v.n)<;>cases h3:decide (d<0)<;>cases h4:decide (v.n<IntKind.i64.wrap (v.n+d))<;>simp only[h1,h2,h3,h4,A22,Bool.and_false,A23,Bool.or_true,A0q,not_true_eq_false,not_false_eq_true] at ho
    all_goals
     refine Zd [] func79 rfl ntmps79 results79 ?_
     (have z:=Za oB<|Za h1<|Za h2<|Za h3<|Za h4 b2;(try push_cast[z])<;>repeat' (first|apply Zi<;>intro _|refine Zs [(1,1),(2,2),(4,4)] hG ?_|refine Zs [(1,1),(2,34),(4,36)] (hPz ..) ?_|exact Zo|with_reducible apply Za)<;>try push_cast[z])
     all_goals(apply Zr [(2,354),(4,356)] rfl<;>push_cast [oB])
end
section
variable{b:GT}{q:OQ}{l:List GE}(h:Ey b q l)(hb:l.length<=1099511627776)
include h hb
noncomputable def G8(L:List GE)(k:ByteArray)(f:Int):Int:=
 if(Ah k L).isSome=true/\(AH (Ah k L)).kind≠5 then 9 else if 256<=(AH (Ah k L)).list.length then 6 else Bv f k
def D9(L:List GE)(k:ByteArray)(v:GV):GV:=.mk 5 false 0 ByteArray.empty ((AH (Ah k L)).list++[v]) []
theorem YX(k:ByteArray)(x:GV)(f:Int)(hx:Sm x)(hv:Sm (AH (Ah k (q.view l))))(hF:A3 prog 116 [.agg (Aa (D9 (q.view l) k x))] (.val (.int .i64 f)))(hn:q.us.length<1073741824):
  ∃ q',A4 prog 81 [.ref 1 0 0 3,.val (.string k),.agg (Aa x)] (oqH b q) (.val (.int .i64 (G8 (q.view l) k f))) (oqH b q')/\Led b l q q' 1 (if G8 (q.view l) k f=0 then AU (k,D9 (q.view l) k x) (q.view l) else q.view l):=by
 have hG:=q_GetT h hb k
 have oB:=A5 b
 unfold G8
 rw[CQ] at hG
 by_cases hk:(Ah k (q.view l)).isSome=true/\(AH (Ah k (q.view l))).kind≠5
 ·simp only[if_pos hk]
  refine⟨q,?_,by rw[if_neg (by decide)];exact .refl h 1⟩
  obtain⟨hi,hk⟩:=hk
  rw[hi] at hG
  have b1:((AH (Ah k (q.view l))).kind !=5)=true:=by simpa using hk
  generalize AH (Ah k (q.view l))=v at*
  simp only[oqH] at hG|-
  refine Zd [] func81 rfl ntmps81 results81 ?_
  (have z:=Za oB b1;(try push_cast[z])<;>repeat' (first|apply Zi<;>intro _|refine Zs [(1,1),(2,2),(4,4)] hG ?_|exact Zo|with_reducible apply Za)<;>try push_cast[z])
  all_goals(apply Zr [(2,42),(4,44)] rfl<;>push_cast [oB])
 ·simp only[if_neg hk]
  have b1:(Ah k (q.view l)).isSome=true->((AH (Ah k (q.view l))).kind !=5)=false:=fun hx=>by
   simp only[bne_eq_false_iff_eq]
   exact Classical.byContradiction fun h2=>hk ⟨hx,h2⟩
  by_cases ho:256<=(AH (Ah k (q.view l))).list.length
  ·simp only[if_pos ho]
   refine⟨q,?_,by rw[if_neg (by decide)];exact .refl h 1⟩
   have b3:decide ((256:Int)<=(AH (Ah k (q.view l))).list.length)=true:=decide_eq_true (by omega)
   generalize AH (Ah k (q.view l))=v at*
   simp only[oqH] at hG|-
   cases hi:(Ah k (q.view l)).isSome with
   |false=>
    rw[hi] at hG
    refine Zd [] func81 rfl ntmps81 results81 ?_
    (have z:=Za oB b3;(try push_cast[z])<;>repeat' (first|apply Zi<;>intro _|refine Zs [(1,1),(2,2),(4,4)] hG ?_|exact Zo|with_reducible apply Za)<;>try push_cast[z])
    all_goals(apply Zr [(2,42),(4,44)] rfl<;>push_cast [oB])
   |true=>
    rw[hi] at hG
    have b2:=b1 hi
    refine Zd [] func81 rfl ntmps81 results81 ?_
    (have z:=Za oB<|Za b2 b3;(try push_cast[z])<;>repeat' (first|apply Zi<;>intro _|refine Zs [(1,1),(2,2),(4,4)] hG ?_|exact Zo|with_reducible apply Za)<;>try push_cast[z])
    all_goals(apply Zr [(2,42),(4,44)] rfl<;>push_cast [oB])
  ·simp only[if_neg ho]
   have b3:decide ((256:Int)<=(AH (Ah k (q.view l))).list.length)=false:=decide_eq_false (by omega)
   have hsm:Sm (D9 (q.view l) k x):=.mk _ _ _ _ _ [] (by simp;omega) (by simp) (fun y hy=>by
    rcases A1a.1 hy with hy|hy
    ·exact hv.list y hy
    ·rw[A0d.1 hy];exact hx) (by simp) (by decide) (by decide) (by simp)
   obtain⟨q',hP,hL⟩:=Mr h k (D9 (q.view l) k x) f hF hsm hn
   refine⟨q',?_,hL⟩
   have hPz:=hP
   rw[A0] at hPz
   have e1:(D9 (q.view l) k x).list.map Aa=(AH (Ah k (q.view l))).list.map Aa++[Aa x]:=by simp[D9,GV.list]
   have e2:(D9 (q.view l) k x).obj.map Ac=[]:=by simp[D9,GV.obj]
   rw[e1,e2] at hPz
   simp only[D9,GV.kind,GV.b,GV.n,GV.s] at hPz
   generalize Bv f k=c at*
   generalize hvv:AH (Ah k (q.view l))=v at*
   simp only[oqH] at hG hPz|-
   have oL:Am (v.list.map Aa++[Aa x])=true:=by
    rw[show v.list.map Aa++[Aa x]=(v.list++[x]).map Aa by simp]
    exact AA Bh _
   have hPw:A4 prog 77 [.ref 1 0 0 3,.val (.string k),.agg [.val (.int .i64 5),.val (.bool false),.val (.int .i64 0),.val (.string ByteArray.empty),.gref 3 (v.list.length+1),.slice [] true]]
     [(3,.grow (v.list.map Aa++[Aa x]) 6),(1,.rows [[Ag b,cD 2 q,.gref 4 q.us.length]] 3),(2,cB q),(4,.grow (q.us.map fun u=>[Bj u]) 1)] (.val (.int .i64 c)) [(1,.rows [[Ag b,cD 2 q',.gref 4 q'.us.length]] 3),(2,cB q'),(4,.grow (q'.us.map fun u=>[Bj u]) 1)]:=by
    refine A4.weakIn ?_ ?_ hPz
    ·rfl
    ·refine Ar.trans (Ar.fzB (b:=3) (x:=.grow (v.list.map Aa++[Aa x]) 6) rfl) ?_
     have l0:v.list.length+1=(v.list.map Aa++[Aa x]).length:=by simp
     rw[l0]
     push_cast[oB,oL]
     apply Zw<;>push_cast [oB,oL,BG]
     all_goals first|exact fun h=>h.elim|skip
   have l1:∀ y ∈ v.list.map Aa,y.length=6:=fun y hy=>by obtain⟨z,_,rfl⟩:=A0j.1 hy;exact AS z
   have l2:∀ y ∈ [Aa x],y.length=6:=fun y hy=>by rw[A0d.1 hy];exact AS x
   cases hi:(Ah k (q.view l)).isSome with
   |false=>
    rw[hi] at hG
    refine Zd [] func81 rfl ntmps81 results81 ?_
    (have z:=Za oB b3;(try push_cast[z])<;>repeat' (first|apply Zi<;>intro _|refine Zs [(1,1),(2,2),(4,4)] hG ?_|refine Zs [(1,1),(2,42),(4,44),(3,224)] (hPw ..) ?_|exact Zo|with_reducible apply Za)<;>try push_cast[z])
    all_goals first|omega|exact l1|exact l2|skip
    apply Zr [(2,242),(4,244)] rfl<;>push_cast [oB]
   |true=>
    rw[hi] at hG
    have b2:=b1 hi
    refine Zd [] func81 rfl ntmps81 results81 ?_
    (have z:=Za oB<|Za b2 b3;(try push_cast[z])<;>repeat' (first|apply Zi<;>intro _|refine Zs [(1,1),(2,2),(4,4)] hG ?_|refine Zs [(1,1),(2,42),(4,44),(3,224)] (hPw ..) ?_|exact Zo|with_reducible apply Za)<;>try push_cast[z])
    all_goals first|omega|exact l1|exact l2|skip
    apply Zr [(2,242),(4,244)] rfl<;>push_cast [oB]
noncomputable def QJ(m:GM)(L:List GE)(f:Int):Int:=if DU m L=true then(if m.has then Bv f m.key else 0) else 13
noncomputable def SZ(m:GM)(L:List GE)(f:Int):List GE:=if DU m L=true then(if m.has then(if Bv f m.key=0 then AU (m.key,m.value) L else L) else BE m.key L) else L
theorem q_cas(m:GM)(f:Int)(hv:Sm m.value)(hk:m.key.size<=64)(hF:m.has=true->A3 prog 116 [.agg (Aa m.value)] (.val (.int .i64 f)))(hn:q.us.length<1073741824):
  ∃ q',A4 prog 80 [.ref 1 0 0 3,.agg (Aj m)] (oqH b q) (.val (.int .i64 (QJ m (q.view l) f))) (oqH b q')/\Led b l q q' 1 (SZ m (q.view l) f):=by
 have hS:=YW h hb m
 have oB:=A5 b
 unfold QJ SZ
 cases hs:DU m (q.view l) with
 |false=>
  rw[hs] at hS
  simp only[A0q,if_false]
  refine⟨q,?_,.refl h 1⟩
  rw[Ae,A0 m.was,A0 m.value] at hS|-
  simp only[A07,A09,A05] at hS|-
  simp only[oqH] at hS|-
  refine Zd [] func80 rfl ntmps80 results80 ?_
  (have z:=oB;(try push_cast[z])<;>repeat' (first|apply Zi<;>intro _|refine Zs [(1,1),(2,2),(4,4)] hS ?_|exact Zo|with_reducible apply Za)<;>try push_cast[z])
  apply Zr [(2,42),(4,44)] rfl<;>push_cast [oB]
 |true=>
  rw[hs] at hS
  simp only[if_true]
  cases hh:m.has with
  |true=>
   simp only[if_true]
   obtain⟨q',hP,hL⟩:=Mr h m.key m.value f (hF hh) hv hn
   refine⟨q',?_,hL⟩
   generalize Bv f m.key=c at*
   rw[Ae,A0 m.was,A0 m.value,hh] at hS|-
   rw[A0 m.value] at hP
   simp only[A07,A09,A05] at hS|-
   simp only[oqH] at hS hP|-
   refine Zd [] func80 rfl ntmps80 results80 ?_
   (have z:=oB;(try push_cast[z])<;>repeat' (first|apply Zi<;>intro _|refine Zs [(1,1),(2,2),(4,4)] hS ?_|refine Zs [(1,1),(2,42),(4,44)] hP ?_|exact Zo|with_reducible apply Za)<;>try push_cast[z])
   apply Zr [(2,114),(4,116)] rfl<;>push_cast [oB]
  |false=>
   simp only[A0q,if_false]
   obtain⟨q',hD,hL⟩:=U8 h hb m.key hk hn
   refine⟨q',?_,hL⟩
   generalize CG m.key (q.view l)=c at*
   rw[Ae,A0 m.was,A0 m.value,hh] at hS|-
   simp only[A07,A09,A05] at hS|-
   simp only[oqH] at hS hD|-
   refine Zd [] func80 rfl ntmps80 results80 ?_
   (have z:=oB;(try push_cast[z])<;>repeat' (first|apply Zi<;>intro _|refine Zs [(1,1),(2,2),(4,4)] hS ?_|refine Zs [(1,1),(2,42),(4,44)] hD ?_|exact Zo|with_reducible apply Za)<;>try push_cast[z])
   apply Zr [(2,98),(4,100)] rfl<;>push_cast [oB]
end
def doH(c m:Int)(b:GT)(q:OQ):Hp:=(3,.rows [[.val (.int .i64 c)]] 1)::(5,.rows [[.ref 1 0 0 3]] 1)::(7,.rows [[.val (.int .i64 m)]] 1)::oqH b q
def D3(k:Int)(m:GM):List D:=[.val (.int .i64 k),.val (.string m.key),.val (.string m.to),.val (.int .i64 m.n),.val (.bool m.had),.val (.int .i64 m.was.kind),.val (.bool m.was.b),.val (.int .i64 m.was.n),.val (.string m.was.s),.slice (m.was.list.map Aa) false,.slice (m.was.obj.map Ac) false,.val (.bool m.has),.val (.int .i64 m.value.kind),.val (.bool m.value.b),.val (.int .i64 m.value.n),.val (.string m.value.s),.slice (m.value.list.map Aa) false,.slice (m.value.obj.map Ac) false,.slice (m.list.map Aj) false]
def doR:List (Nat×Nat):=[(3,24),(5,8),(7,48),(9,16),(2,42),(4,44)]
def doC:List D:=[.ref 3 0 0 1,.ref 5 0 0 1,.ref 7 0 0 1]
def doE:Env:=[(2,.ref 5 0 0 1),(3,.ref 9 0 0 19),(4,.ref 3 0 0 1)]
section
variable{P:Program}{nt:Nat}{rs:List ResultVar}{g:FuncId}{t:Nat}{caps:Array Operand}{B:Code}{r:D}{H':Hp}{r1:Nat->Nat}{cs:List D}{env':Env}{HB:Hp}{rB:D}{HB':Hp}{s:St}
theorem Dq1(h9:AWp P nt B (Th P rs g cs rB HB') ⟨env',HB,4⟩)(hw:Ar ⟨[(0,B3 (CL (2*s.nx) r1) rB)],Er s.hp (DX (2*s.nx) r1 HB HB'),s.nx+4⟩ ⟨[(0,r)],H',4⟩)
  (h1:caps.toList.map (evO P s.env.get)=Ca r1 cs:=by push_cast(config:= {maxSteps:=9999999}) [z]) (h2:ltL 0 cs=true:=by push_cast(config:= {maxSteps:=9999999}) [z]) (h3:Ca (fun b=>b) cs=cs:=by push_cast(config:= {maxSteps:=9999999}) [z]) (h4:Di r1 ((t,.any)::s.env) env':=by push_cast(config:= {maxSteps:=9999999}) [z,Di]) (h5:Jg 4 env'=true:=by push_cast(config:= {maxSteps:=9999999}) [z]) (h6:BD r1 (Ai s.hp) HB:=by push_cast(config:= {maxSteps:=9999999}) [z,BD]) (h7:Dj (2*s.nx) r1 HB []=true:=by push_cast(config:= {maxSteps:=9999999}) [z]) (h8:Dj (2*s.nx) r1 HB HB'=true:=by push_cast(config:= {maxSteps:=9999999}) [z]):DefQ1 P nt rs g t caps B r H' r1 cs env' HB rB HB' .normal s:=⟨h1,h2,h3,h4,h5,h6,h7,h8,h9,hw⟩
theorem Dq2(rl:List (Nat×Nat))(d:D){HD HD':Hp}(hD:Rg P g [.ref 3 0 0 1,.ref 5 0 0 1,.ref 7 0 0 1] HD HD')(hw:Ar ⟨[(0,d)],Er s.hp (DX (2*s.nx) (BN rl) HD HD'),s.nx+4⟩ ⟨[(0,rB)],HB',4⟩)
  (h1:cs=Ca (BN rl) [.ref 3 0 0 1,.ref 5 0 0 1,.ref 7 0 0 1]:=by push_cast(config:= {maxSteps:=9999999}) [z]) (h2:ltL 4 [.ref 3 0 0 1,.ref 5 0 0 1,.ref 7 0 0 1]=true:=by push_cast(config:= {maxSteps:=9999999}) [z]) (h3:BD (BN rl) (Ai s.hp) HD:=by push_cast(config:= {maxSteps:=9999999}) [z,BD]) (h4:Dj (2*s.nx) (BN rl) HD []=true:=by push_cast(config:= {maxSteps:=9999999}) [z]) (h5:Dj (2*s.nx) (BN rl) HD HD'=true:=by push_cast(config:= {maxSteps:=9999999}) [z]) (h6:Jx P ⟨s.env,Er s.hp (DX (2*s.nx) (BN rl) HD HD'),s.nx+4⟩ rs=some d:=by push_cast(config:= {maxSteps:=9999999}) [z]):Th P rs g cs rB HB' .ret s:=⟨BN rl,_,HD,HD',hD,h1,h2,h3,h4,h5,d,h6,hw⟩
end
theorem SS(b:GT)(q:OQ)(m:Int):Rg prog 75 [.ref 3 0 0 1,.ref 5 0 0 1,.ref 7 0 0 1] (doH 0 m b q) (doH 0 m b q):=by
 have oB:=A5 b
 simp only[doH,oqH]
 refine Rg.of_awp func75 rfl ntmps75 (by kernel_rfl) (by simp) (congrArg Array.toList results75) (AWp.sz fun H Hb=>Zy ?_)
 (have z:=oB;(try push_cast[z])<;>repeat' (first|apply Zi<;>intro _|exact Zo|with_reducible apply Za)<;>try push_cast[z])
 apply Zw<;>push_cast [oB]
theorem GH(b:GT)(q:OQ)(c:Int)(hc:c≠0)(hq:q.chg=none->q.us=[])(m:Nat)(hm:m<=q.us.length)(hn:q.us.length<=1073741824):Rg prog 75 [.ref 3 0 0 1,.ref 5 0 0 1,.ref 7 0 0 1] (doH c m b q) (doH c m b (q.back m)):=by
 have hB:=q_Back b q hq m hm hn
 have oB:=A5 b
 have b1:(c !=0)=true:=by simpa using hc
 generalize q.back m=q' at*
 simp only[doH,oqH,D3,doR,doC,doE] at hB|-
 refine Rg.of_awp func75 rfl ntmps75 (by kernel_rfl) (by simp) (congrArg Array.toList results75) (AWp.sz fun H Hb=>Zy ?_)
 (have z:=Za oB b1;(try push_cast[z])<;>repeat' (first|apply Zi<;>intro _|refine Zs [(1,1),(2,2),(4,4)] hB ?_|exact Zo|with_reducible apply Za)<;>try push_cast[z])
 apply Zr [(2,42),(4,44)] rfl<;>push_cast [oB]
section
variable{b:GT}{q:OQ}
theorem do_put0(m:GM)(hk:m.kind=1)(q1:OQ)(hP:A4 prog 77 [.ref 1 0 0 3,.val (.string m.key),.agg (Aa m.value)] (oqH b q) (.val (.int .i64 0)) (oqH b q1)):
  A4 prog 50 [.ref 1 0 0 3,.agg (Aj m)] (oqH b q) (.val (.int .i64 0)) (oqH b q1):=by
 have hM:=CX b q
 have oB:=A5 b
 have hD:=SS b q1 q.us.length
 skip
 rw[Ae,A0 m.was,A0 m.value,hk]
 rw[A0 m.value] at hP
 simp only[A07,A09,A05]
 refine A4.of_awp_defer [_,_] func50 rfl ntmps50 (by kernel_rfl) (by simp) (by decide) (congrArg Array.toList results50) (BN doR) doC doE ((9,.rows [D3 1 m] 19)::doH 0 q.us.length b q) (.val (.int .i64 0)) (doH 0 q.us.length b q1) ?_
 simp only[doH,oqH,D3,doR,doC,doE] at hM hD hP|-
 refine Zy ?_
 (have z:=oB;(try push_cast[z])<;>repeat' (first|apply Zi<;>intro _|exact Zo|with_reducible apply Za)<;>try push_cast[z])
 refine Zy ?_
 (have z:=oB;(try push_cast[z])<;>repeat' (first|apply Zi<;>intro _|refine Zs [(1,1),(2,2),(4,4)] hM ?_|exact Zo|with_reducible apply Za)<;>try push_cast[z])
 have z:=oB
 refine Dq1 ?_ ?_
 ·refine Zy ?_
  (have z:=oB;(try push_cast[z])<;>repeat' (first|apply Zi<;>intro _|refine Zs [(1,1),(2,2),(4,4)] hP ?_|exact Zo|with_reducible apply Za)<;>try push_cast[z])
  refine Dq2 [(2,82),(4,84)] (.val (.int .i64 0)) hD ?_
  push_cast[oB]
  apply Zr [(2,98),(4,100)] rfl<;>push_cast [oB]
 ·push_cast[oB]
  apply Zr [(2,66),(4,68)] rfl<;>push_cast [oB]
theorem do_putE(m:GM)(hk:m.kind=1)(c:Int)(q1:OQ)(hP:A4 prog 77 [.ref 1 0 0 3,.val (.string m.key),.agg (Aa m.value)] (oqH b q) (.val (.int .i64 c)) (oqH b q1))(hc:c≠0)(hq1:q1.chg=none->q1.us=[])(hle:q.us.length<=q1.us.length)(hn1:q1.us.length<=1073741824):
  A4 prog 50 [.ref 1 0 0 3,.agg (Aj m)] (oqH b q) (.val (.int .i64 c)) (oqH b (q1.back q.us.length)):=by
 have hM:=CX b q
 have oB:=A5 b
 have hD:=GH b q1 c hc hq1 q.us.length hle hn1
 generalize q1.back q.us.length=q2 at*
 rw[Ae,A0 m.was,A0 m.value,hk]
 rw[A0 m.value] at hP
 simp only[A07,A09,A05]
 refine A4.of_awp_defer [_,_] func50 rfl ntmps50 (by kernel_rfl) (by simp) (by decide) (congrArg Array.toList results50) (BN doR) doC doE ((9,.rows [D3 1 m] 19)::doH 0 q.us.length b q) (.val (.int .i64 c)) (doH c q.us.length b q2) ?_
 simp only[doH,oqH,D3,doR,doC,doE] at hM hD hP|-
 refine Zy ?_
 (have z:=oB;(try push_cast[z])<;>repeat' (first|apply Zi<;>intro _|exact Zo|with_reducible apply Za)<;>try push_cast[z])
 refine Zy ?_
 (have z:=oB;(try push_cast[z])<;>repeat' (first|apply Zi<;>intro _|refine Zs [(1,1),(2,2),(4,4)] hM ?_|exact Zo|with_reducible apply Za)<;>try push_cast[z])
 have z:=oB
 refine Dq1 ?_ ?_
 ·refine Zy ?_
  (have z:=oB;(try push_cast[z])<;>repeat' (first|apply Zi<;>intro _|refine Zs [(1,1),(2,2),(4,4)] hP ?_|exact Zo|with_reducible apply Za)<;>try push_cast[z])
  refine Dq2 [(2,82),(4,84)] (.val (.int .i64 c)) hD ?_
  push_cast[oB]
  apply Zr [(2,98),(4,100)] rfl<;>push_cast [oB]
 ·push_cast[oB]
  apply Zr [(2,66),(4,68)] rfl<;>push_cast [oB]
theorem do_del1(m:GM)(hk:m.kind=2)(q1:OQ)(hP:A4 prog 78 [.ref 1 0 0 3,.val (.string m.key)] (oqH b q) (.val (.bool true)) (oqH b q1)):
  A4 prog 50 [.ref 1 0 0 3,.agg (Aj m)] (oqH b q) (.val (.int .i64 0)) (oqH b q1):=by
 have hM:=CX b q
 have oB:=A5 b
 have hD:=SS b q1 q.us.length
 skip
 rw[Ae,A0 m.was,A0 m.value,hk]
 skip
 simp only[A07,A09,A05]
 refine A4.of_awp_defer [_,_] func50 rfl ntmps50 (by kernel_rfl) (by simp) (by decide) (congrArg Array.toList results50) (BN doR) doC doE ((9,.rows [D3 2 m] 19)::doH 0 q.us.length b q) (.val (.int .i64 0)) (doH 0 q.us.length b q1) ?_
 simp only[doH,oqH,D3,doR,doC,doE] at hM hD hP|-
 refine Zy ?_
 (have z:=oB;(try push_cast[z])<;>repeat' (first|apply Zi<;>intro _|exact Zo|with_reducible apply Za)<;>try push_cast[z])
 refine Zy ?_
 (have z:=oB;(try push_cast[z])<;>repeat' (first|apply Zi<;>intro _|refine Zs [(1,1),(2,2),(4,4)] hM ?_|exact Zo|with_reducible apply Za)<;>try push_cast[z])
 have z:=oB
 refine Dq1 ?_ ?_
 ·refine Zy ?_
  (have z:=oB;(try push_cast[z])<;>repeat' (first|apply Zi<;>intro _|refine Zs [(1,1),(2,2),(4,4)] hP ?_|exact Zo|with_reducible apply Za)<;>try push_cast[z])
  refine Dq2 [(2,82),(4,84)] (.val (.int .i64 0)) hD ?_
  push_cast[oB]
  apply Zr [(2,106),(4,108)] rfl<;>push_cast [oB]
 ·push_cast[oB]
  apply Zr [(2,66),(4,68)] rfl<;>push_cast [oB]
theorem do_del0(m:GM)(hk:m.kind=2)(q1:OQ)(hP:A4 prog 78 [.ref 1 0 0 3,.val (.string m.key)] (oqH b q) (.val (.bool false)) (oqH b q1))(hq1:q1.chg=none->q1.us=[])(hle:q.us.length<=q1.us.length)(hn1:q1.us.length<=1073741824):
  A4 prog 50 [.ref 1 0 0 3,.agg (Aj m)] (oqH b q) (.val (.int .i64 12)) (oqH b (q1.back q.us.length)):=by
 have hM:=CX b q
 have oB:=A5 b
 have hD:=GH b q1 12 (by decide) hq1 q.us.length hle hn1
 generalize q1.back q.us.length=q2 at*
 rw[Ae,A0 m.was,A0 m.value,hk]
 skip
 simp only[A07,A09,A05]
 refine A4.of_awp_defer [_,_] func50 rfl ntmps50 (by kernel_rfl) (by simp) (by decide) (congrArg Array.toList results50) (BN doR) doC doE ((9,.rows [D3 2 m] 19)::doH 0 q.us.length b q) (.val (.int .i64 12)) (doH 12 q.us.length b q2) ?_
 simp only[doH,oqH,D3,doR,doC,doE] at hM hD hP|-
 refine Zy ?_
 (have z:=oB;(try push_cast[z])<;>repeat' (first|apply Zi<;>intro _|exact Zo|with_reducible apply Za)<;>try push_cast[z])
 refine Zy ?_
 (have z:=oB;(try push_cast[z])<;>repeat' (first|apply Zi<;>intro _|refine Zs [(1,1),(2,2),(4,4)] hM ?_|exact Zo|with_reducible apply Za)<;>try push_cast[z])
 have z:=oB
 refine Dq1 ?_ ?_
 ·refine Zy ?_
  (have z:=oB;(try push_cast[z])<;>repeat' (first|apply Zi<;>intro _|refine Zs [(1,1),(2,2),(4,4)] hP ?_|exact Zo|with_reducible apply Za)<;>try push_cast[z])
  refine Dq2 [(2,82),(4,84)] (.val (.int .i64 12)) hD ?_
  push_cast[oB]
  apply Zr [(2,106),(4,108)] rfl<;>push_cast [oB]
 ·push_cast[oB]
  apply Zr [(2,66),(4,68)] rfl<;>push_cast [oB]
theorem do_inc0(m:GM)(hk:m.kind=3)(q1:OQ)(hP:A4 prog 79 [.ref 1 0 0 3,.val (.string m.key),.val (.int .i64 m.n)] (oqH b q) (.val (.int .i64 0)) (oqH b q1)):
  A4 prog 50 [.ref 1 0 0 3,.agg (Aj m)] (oqH b q) (.val (.int .i64 0)) (oqH b q1):=by
 have hM:=CX b q
 have oB:=A5 b
 have hD:=SS b q1 q.us.length
 skip
 rw[Ae,A0 m.was,A0 m.value,hk]
 skip
 simp only[A07,A09,A05]
 refine A4.of_awp_defer [_,_] func50 rfl ntmps50 (by kernel_rfl) (by simp) (by decide) (congrArg Array.toList results50) (BN doR) doC doE ((9,.rows [D3 3 m] 19)::doH 0 q.us.length b q) (.val (.int .i64 0)) (doH 0 q.us.length b q1) ?_
 simp only[doH,oqH,D3,doR,doC,doE] at hM hD hP|-
 refine Zy ?_
 (have z:=oB;(try push_cast[z])<;>repeat' (first|apply Zi<;>intro _|exact Zo|with_reducible apply Za)<;>try push_cast[z])
 refine Zy ?_
 (have z:=oB;(try push_cast[z])<;>repeat' (first|apply Zi<;>intro _|refine Zs [(1,1),(2,2),(4,4)] hM ?_|exact Zo|with_reducible apply Za)<;>try push_cast[z])
 have z:=oB
 refine Dq1 ?_ ?_
 ·refine Zy ?_
  (have z:=oB;(try push_cast[z])<;>repeat' (first|apply Zi<;>intro _|refine Zs [(1,1),(2,2),(4,4)] hP ?_|exact Zo|with_reducible apply Za)<;>try push_cast[z])
  refine Dq2 [(2,114),(4,116)] (.val (.int .i64 0)) hD ?_
  push_cast[oB]
  apply Zr [(2,130),(4,132)] rfl<;>push_cast [oB]
 ·push_cast[oB]
  apply Zr [(2,66),(4,68)] rfl<;>push_cast [oB]
theorem do_incE(m:GM)(hk:m.kind=3)(c:Int)(q1:OQ)(hP:A4 prog 79 [.ref 1 0 0 3,.val (.string m.key),.val (.int .i64 m.n)] (oqH b q) (.val (.int .i64 c)) (oqH b q1))(hc:c≠0)(hq1:q1.chg=none->q1.us=[])(hle:q.us.length<=q1.us.length)(hn1:q1.us.length<=1073741824):
  A4 prog 50 [.ref 1 0 0 3,.agg (Aj m)] (oqH b q) (.val (.int .i64 c)) (oqH b (q1.back q.us.length)):=by
 have hM:=CX b q
 have oB:=A5 b
 have hD:=GH b q1 c hc hq1 q.us.length hle hn1
 generalize q1.back q.us.length=q2 at*
 rw[Ae,A0 m.was,A0 m.value,hk]
 skip
 simp only[A07,A09,A05]
 refine A4.of_awp_defer [_,_] func50 rfl ntmps50 (by kernel_rfl) (by simp) (by decide) (congrArg Array.toList results50) (BN doR) doC doE ((9,.rows [D3 3 m] 19)::doH 0 q.us.length b q) (.val (.int .i64 c)) (doH c q.us.length b q2) ?_
 simp only[doH,oqH,D3,doR,doC,doE] at hM hD hP|-
 refine Zy ?_
 (have z:=oB;(try push_cast[z])<;>repeat' (first|apply Zi<;>intro _|exact Zo|with_reducible apply Za)<;>try push_cast[z])
 refine Zy ?_
 (have z:=oB;(try push_cast[z])<;>repeat' (first|apply Zi<;>intro _|refine Zs [(1,1),(2,2),(4,4)] hM ?_|exact Zo|with_reducible apply Za)<;>try push_cast[z])
 have z:=oB
 refine Dq1 ?_ ?_
 ·refine Zy ?_
  (have z:=oB;(try push_cast[z])<;>repeat' (first|apply Zi<;>intro _|refine Zs [(1,1),(2,2),(4,4)] hP ?_|exact Zo|with_reducible apply Za)<;>try push_cast[z])
  refine Dq2 [(2,114),(4,116)] (.val (.int .i64 c)) hD ?_
  push_cast[oB]
  apply Zr [(2,130),(4,132)] rfl<;>push_cast [oB]
 ·push_cast[oB]
  apply Zr [(2,66),(4,68)] rfl<;>push_cast [oB]
theorem do_cas0(m:GM)(hk:m.kind=4)(q1:OQ)(hP:A4 prog 80 [.ref 1 0 0 3,.agg (Aj m)] (oqH b q) (.val (.int .i64 0)) (oqH b q1)):
  A4 prog 50 [.ref 1 0 0 3,.agg (Aj m)] (oqH b q) (.val (.int .i64 0)) (oqH b q1):=by
 have hM:=CX b q
 have oB:=A5 b
 have hD:=SS b q1 q.us.length
 skip
 rw[Ae,A0 m.was,A0 m.value,hk]
 rw[Ae,A0 m.was,A0 m.value,hk] at hP
 simp only[A07,A09,A05] at hP|-
 refine A4.of_awp_defer [_,_] func50 rfl ntmps50 (by kernel_rfl) (by simp) (by decide) (congrArg Array.toList results50) (BN doR) doC doE ((9,.rows [D3 4 m] 19)::doH 0 q.us.length b q) (.val (.int .i64 0)) (doH 0 q.us.length b q1) ?_
 simp only[doH,oqH,D3,doR,doC,doE] at hM hD hP|-
 refine Zy ?_
 (have z:=oB;(try push_cast[z])<;>repeat' (first|apply Zi<;>intro _|exact Zo|with_reducible apply Za)<;>try push_cast[z])
 refine Zy ?_
 (have z:=oB;(try push_cast[z])<;>repeat' (first|apply Zi<;>intro _|refine Zs [(1,1),(2,2),(4,4)] hM ?_|exact Zo|with_reducible apply Za)<;>try push_cast[z])
 have z:=oB
 refine Dq1 ?_ ?_
 ·refine Zy ?_
  (have z:=oB;(try push_cast[z])<;>repeat' (first|apply Zi<;>intro _|refine Zs [(1,1),(2,2),(4,4)] hP ?_|exact Zo|with_reducible apply Za)<;>try push_cast[z])
  refine Dq2 [(2,106),(4,108)] (.val (.int .i64 0)) hD ?_
  push_cast[oB]
  apply Zr [(2,122),(4,124)] rfl<;>push_cast [oB]
 ·push_cast[oB]
  apply Zr [(2,66),(4,68)] rfl<;>push_cast [oB]
theorem do_casE(m:GM)(hk:m.kind=4)(c:Int)(q1:OQ)(hP:A4 prog 80 [.ref 1 0 0 3,.agg (Aj m)] (oqH b q) (.val (.int .i64 c)) (oqH b q1))(hc:c≠0)(hq1:q1.chg=none->q1.us=[])(hle:q.us.length<=q1.us.length)(hn1:q1.us.length<=1073741824):
  A4 prog 50 [.ref 1 0 0 3,.agg (Aj m)] (oqH b q) (.val (.int .i64 c)) (oqH b (q1.back q.us.length)):=by
 have hM:=CX b q
 have oB:=A5 b
 have hD:=GH b q1 c hc hq1 q.us.length hle hn1
 generalize q1.back q.us.length=q2 at*
 rw[Ae,A0 m.was,A0 m.value,hk]
 rw[Ae,A0 m.was,A0 m.value,hk] at hP
 simp only[A07,A09,A05] at hP|-
 refine A4.of_awp_defer [_,_] func50 rfl ntmps50 (by kernel_rfl) (by simp) (by decide) (congrArg Array.toList results50) (BN doR) doC doE ((9,.rows [D3 4 m] 19)::doH 0 q.us.length b q) (.val (.int .i64 c)) (doH c q.us.length b q2) ?_
 simp only[doH,oqH,D3,doR,doC,doE] at hM hD hP|-
 refine Zy ?_
 (have z:=oB;(try push_cast[z])<;>repeat' (first|apply Zi<;>intro _|exact Zo|with_reducible apply Za)<;>try push_cast[z])
 refine Zy ?_
 (have z:=oB;(try push_cast[z])<;>repeat' (first|apply Zi<;>intro _|refine Zs [(1,1),(2,2),(4,4)] hM ?_|exact Zo|with_reducible apply Za)<;>try push_cast[z])
 have z:=oB
 refine Dq1 ?_ ?_
 ·refine Zy ?_
  (have z:=oB;(try push_cast[z])<;>repeat' (first|apply Zi<;>intro _|refine Zs [(1,1),(2,2),(4,4)] hP ?_|exact Zo|with_reducible apply Za)<;>try push_cast[z])
  refine Dq2 [(2,106),(4,108)] (.val (.int .i64 c)) hD ?_
  push_cast[oB]
  apply Zr [(2,122),(4,124)] rfl<;>push_cast [oB]
 ·push_cast[oB]
  apply Zr [(2,66),(4,68)] rfl<;>push_cast [oB]
theorem do_add0(m:GM)(hk:m.kind=5)(q1:OQ)(hP:A4 prog 81 [.ref 1 0 0 3,.val (.string m.key),.agg (Aa m.value)] (oqH b q) (.val (.int .i64 0)) (oqH b q1)):
  A4 prog 50 [.ref 1 0 0 3,.agg (Aj m)] (oqH b q) (.val (.int .i64 0)) (oqH b q1):=by
 have hM:=CX b q
 have oB:=A5 b
 have hD:=SS b q1 q.us.length
 skip
 rw[Ae,A0 m.was,A0 m.value,hk]
 rw[A0 m.value] at hP
 simp only[A07,A09,A05]
 refine A4.of_awp_defer [_,_] func50 rfl ntmps50 (by kernel_rfl) (by simp) (by decide) (congrArg Array.toList results50) (BN doR) doC doE ((9,.rows [D3 5 m] 19)::doH 0 q.us.length b q) (.val (.int .i64 0)) (doH 0 q.us.length b q1) ?_
 simp only[doH,oqH,D3,doR,doC,doE] at hM hD hP|-
 refine Zy ?_
 (have z:=oB;(try push_cast[z])<;>repeat' (first|apply Zi<;>intro _|exact Zo|with_reducible apply Za)<;>try push_cast[z])
 refine Zy ?_
 (have z:=oB;(try push_cast[z])<;>repeat' (first|apply Zi<;>intro _|refine Zs [(1,1),(2,2),(4,4)] hM ?_|exact Zo|with_reducible apply Za)<;>try push_cast[z])
 have z:=oB
 refine Dq1 ?_ ?_
 ·refine Zy ?_
  (have z:=oB;(try push_cast[z])<;>repeat' (first|apply Zi<;>intro _|refine Zs [(1,1),(2,2),(4,4)] hP ?_|exact Zo|with_reducible apply Za)<;>try push_cast[z])
  refine Dq2 [(2,146),(4,148)] (.val (.int .i64 0)) hD ?_
  push_cast[oB]
  apply Zr [(2,162),(4,164)] rfl<;>push_cast [oB]
 ·push_cast[oB]
  apply Zr [(2,66),(4,68)] rfl<;>push_cast [oB]
theorem do_addE(m:GM)(hk:m.kind=5)(c:Int)(q1:OQ)(hP:A4 prog 81 [.ref 1 0 0 3,.val (.string m.key),.agg (Aa m.value)] (oqH b q) (.val (.int .i64 c)) (oqH b q1))(hc:c≠0)(hq1:q1.chg=none->q1.us=[])(hle:q.us.length<=q1.us.length)(hn1:q1.us.length<=1073741824):
  A4 prog 50 [.ref 1 0 0 3,.agg (Aj m)] (oqH b q) (.val (.int .i64 c)) (oqH b (q1.back q.us.length)):=by
 have hM:=CX b q
 have oB:=A5 b
 have hD:=GH b q1 c hc hq1 q.us.length hle hn1
 generalize q1.back q.us.length=q2 at*
 rw[Ae,A0 m.was,A0 m.value,hk]
 rw[A0 m.value] at hP
 simp only[A07,A09,A05]
 refine A4.of_awp_defer [_,_] func50 rfl ntmps50 (by kernel_rfl) (by simp) (by decide) (congrArg Array.toList results50) (BN doR) doC doE ((9,.rows [D3 5 m] 19)::doH 0 q.us.length b q) (.val (.int .i64 c)) (doH c q.us.length b q2) ?_
 simp only[doH,oqH,D3,doR,doC,doE] at hM hD hP|-
 refine Zy ?_
 (have z:=oB;(try push_cast[z])<;>repeat' (first|apply Zi<;>intro _|exact Zo|with_reducible apply Za)<;>try push_cast[z])
 refine Zy ?_
 (have z:=oB;(try push_cast[z])<;>repeat' (first|apply Zi<;>intro _|refine Zs [(1,1),(2,2),(4,4)] hM ?_|exact Zo|with_reducible apply Za)<;>try push_cast[z])
 have z:=oB
 refine Dq1 ?_ ?_
 ·refine Zy ?_
  (have z:=oB;(try push_cast[z])<;>repeat' (first|apply Zi<;>intro _|refine Zs [(1,1),(2,2),(4,4)] hP ?_|exact Zo|with_reducible apply Za)<;>try push_cast[z])
  refine Dq2 [(2,146),(4,148)] (.val (.int .i64 c)) hD ?_
  push_cast[oB]
  apply Zr [(2,162),(4,164)] rfl<;>push_cast [oB]
 ·push_cast[oB]
  apply Zr [(2,66),(4,68)] rfl<;>push_cast [oB]
theorem do_move0(m:GM)(hk:m.kind=6)(q1:OQ)(hP:A4 prog 82 [.ref 1 0 0 3,.val (.string m.key),.val (.string m.to)] (oqH b q) (.val (.int .i64 0)) (oqH b q1)):
  A4 prog 50 [.ref 1 0 0 3,.agg (Aj m)] (oqH b q) (.val (.int .i64 0)) (oqH b q1):=by
 have hM:=CX b q
 have oB:=A5 b
 have hD:=SS b q1 q.us.length
 skip
 rw[Ae,A0 m.was,A0 m.value,hk]
 skip
 simp only[A07,A09,A05]
 refine A4.of_awp_defer [_,_] func50 rfl ntmps50 (by kernel_rfl) (by simp) (by decide) (congrArg Array.toList results50) (BN doR) doC doE ((9,.rows [D3 6 m] 19)::doH 0 q.us.length b q) (.val (.int .i64 0)) (doH 0 q.us.length b q1) ?_
 simp only[doH,oqH,D3,doR,doC,doE] at hM hD hP|-
 refine Zy ?_
 (have z:=oB;(try push_cast[z])<;>repeat' (first|apply Zi<;>intro _|exact Zo|with_reducible apply Za)<;>try push_cast[z])
 refine Zy ?_
 (have z:=oB;(try push_cast[z])<;>repeat' (first|apply Zi<;>intro _|refine Zs [(1,1),(2,2),(4,4)] hM ?_|exact Zo|with_reducible apply Za)<;>try push_cast[z])
 have z:=oB
 refine Dq1 ?_ ?_
 ·refine Zy ?_
  (have z:=oB;(try push_cast[z])<;>repeat' (first|apply Zi<;>intro _|refine Zs [(1,1),(2,2),(4,4)] hP ?_|exact Zo|with_reducible apply Za)<;>try push_cast[z])
  refine Dq2 [(2,162),(4,164)] (.val (.int .i64 0)) hD ?_
  push_cast[oB]
  apply Zr [(2,178),(4,180)] rfl<;>push_cast [oB]
 ·push_cast[oB]
  apply Zr [(2,66),(4,68)] rfl<;>push_cast [oB]
theorem do_moveE(m:GM)(hk:m.kind=6)(c:Int)(q1:OQ)(hP:A4 prog 82 [.ref 1 0 0 3,.val (.string m.key),.val (.string m.to)] (oqH b q) (.val (.int .i64 c)) (oqH b q1))(hc:c≠0)(hq1:q1.chg=none->q1.us=[])(hle:q.us.length<=q1.us.length)(hn1:q1.us.length<=1073741824):
  A4 prog 50 [.ref 1 0 0 3,.agg (Aj m)] (oqH b q) (.val (.int .i64 c)) (oqH b (q1.back q.us.length)):=by
 have hM:=CX b q
 have oB:=A5 b
 have hD:=GH b q1 c hc hq1 q.us.length hle hn1
 generalize q1.back q.us.length=q2 at*
 rw[Ae,A0 m.was,A0 m.value,hk]
 skip
 simp only[A07,A09,A05]
 refine A4.of_awp_defer [_,_] func50 rfl ntmps50 (by kernel_rfl) (by simp) (by decide) (congrArg Array.toList results50) (BN doR) doC doE ((9,.rows [D3 6 m] 19)::doH 0 q.us.length b q) (.val (.int .i64 c)) (doH c q.us.length b q2) ?_
 simp only[doH,oqH,D3,doR,doC,doE] at hM hD hP|-
 refine Zy ?_
 (have z:=oB;(try push_cast[z])<;>repeat' (first|apply Zi<;>intro _|exact Zo|with_reducible apply Za)<;>try push_cast[z])
 refine Zy ?_
 (have z:=oB;(try push_cast[z])<;>repeat' (first|apply Zi<;>intro _|refine Zs [(1,1),(2,2),(4,4)] hM ?_|exact Zo|with_reducible apply Za)<;>try push_cast[z])
 have z:=oB
 refine Dq1 ?_ ?_
 ·refine Zy ?_
  (have z:=oB;(try push_cast[z])<;>repeat' (first|apply Zi<;>intro _|refine Zs [(1,1),(2,2),(4,4)] hP ?_|exact Zo|with_reducible apply Za)<;>try push_cast[z])
  refine Dq2 [(2,162),(4,164)] (.val (.int .i64 c)) hD ?_
  push_cast[oB]
  apply Zr [(2,178),(4,180)] rfl<;>push_cast [oB]
 ·push_cast[oB]
  apply Zr [(2,66),(4,68)] rfl<;>push_cast [oB]
end
section
variable{b:GT}{q:OQ}
theorem q_DoE(m:GM)(e:Int)(hM:A3 prog 49 [.agg (Aj m)] (.val (.int .i64 e)))(he:e≠0):A4 prog 37 [.ref 1 0 0 3,.agg (Aj m)] (oqH b q) (.val (.int .i64 e)) (oqH b q):=by
 have oB:=A5 b
 have b1:(e !=0)=true:=by simpa using he
 simp only[oqH]
 refine Zd [] func37 rfl ntmps37 results37 ?_
 (have z:=Za oB b1;(try push_cast[z])<;>repeat' (first|apply Zi<;>intro _|refine Zc hM ?_|exact Zo|with_reducible apply Za)<;>try push_cast[z])
 apply Zw<;>push_cast [oB]
theorem q_Do(m:GM)(c:Int)(q':OQ)(hM:A3 prog 49 [.agg (Aj m)] (.val (.int .i64 0)))(hD:A4 prog 50 [.ref 1 0 0 3,.agg (Aj m)] (oqH b q) (.val (.int .i64 c)) (oqH b q')):A4 prog 37 [.ref 1 0 0 3,.agg (Aj m)] (oqH b q) (.val (.int .i64 c)) (oqH b q'):=by
 have oB:=A5 b
 simp only[oqH] at hD|-
 refine Zd [] func37 rfl ntmps37 results37 ?_
 (have z:=oB;(try push_cast[z])<;>repeat' (first|apply Zi<;>intro _|refine Zc hM ?_|refine Zs [(1,1),(2,2),(4,4)] hD ?_|exact Zo|with_reducible apply Za)<;>try push_cast[z])
 apply Zr [(2,98),(4,100)] rfl<;>push_cast [oB]
end
def undoN(n:Nat)(u:Bt):D:=.func (.func 159) [] [.ptr [.val (.bool u.was)] 0,.ptr (CB u.old) 0,.ptr [.ref n 0 0 3] 0,.ptr [.val (.string u.k)] 0]
theorem Lr(r:Nat->Nat)(l:List Bt):DB r (l.map fun u=>[Bj u])=l.map fun u=>[undoN (r 1) u]:=by
 rw[Ei,A1o]
 refine A1p fun u _=>?_
 simp only[Function.comp,Ca,Bj,undoN,B3,C0 r _ (Dv _)]
theorem c_RunE(b:GT)(m:GM)(c:Int)(hc:c≠0)(q':OQ)(hD:A4 prog 37 [.ref 1 0 0 3,.agg (Aj m)] (oqH b ⟨none,[]⟩) (.val (.int .i64 c)) (oqH b q')):A3 prog 24 [Be b,.agg (Aj m)] (.tup [Be b,.val (.int .i64 c)]):=by
 have hB:=Vg b
 have oB:=A5 b
 have b1:(c !=0)=true:=by simpa using hc
 simp only[oqH] at hD
 change A4 _ _ _ [(1,.rows [[Ag b,.val (.map none),.gref 4 0]] 3),(2,.junk),(4,.grow [] 1)] _ _ at hD
 refine Zf [] func24 rfl ntmps24 results24 ?_
 (have z:=Za oB<|Za b1 @Lr;(try push_cast[z])<;>repeat' (first|apply Zi<;>intro _|refine Zs [] hB ?_|refine Zs [(1,40),(2,42),(4,44)] hD ?_|exact Zo|with_reducible apply Za)<;>try push_cast[z])
theorem c_Run(b t':GT)(m:GM)(q':OQ)(hD:A4 prog 37 [.ref 1 0 0 3,.agg (Aj m)] (oqH b ⟨none,[]⟩) (.val (.int .i64 0)) (oqH b q'))(hC:A4 prog 38 [.ref 1 0 0 3] (oqH b q') (Be t') (oqH b q')):A3 prog 24 [Be b,.agg (Aj m)] (.tup [Be t',.val (.int .i64 0)]):=by
 have hB:=Vg b
 have oB:=A5 b
 have oT:=A5 t'
 simp only[oqH] at hD hC
 change A4 _ _ _ [(1,.rows [[Ag b,.val (.map none),.gref 4 0]] 3),(2,.junk),(4,.grow [] 1)] _ _ at hD
 refine Zf [] func24 rfl ntmps24 results24 ?_
 (have z:=Za oB<|Za oT @Lr;(try push_cast[z])<;>repeat' (first|apply Zi<;>intro _|refine Zs [] hB ?_|refine Zs [(1,40),(2,42),(4,44)] hD ?_|refine Zs [(1,40),(2,74),(4,76)] hC ?_|exact Zo|with_reducible apply Za)<;>try push_cast[z])
def C1(k p:ByteArray):Bool:=Lib.hasPrefix k.data.toList p.data.toList
def Hh(k p:ByteArray):ByteArray:=⟨(Lib.trimPrefix k.data.toList p.data.toList).toArray⟩
theorem Nu(k p:ByteArray):A3 prog 123 [.val (.string k),.val (.string p)] (.val (.bool (C1 k p))):=by
 have hH:=T7 k p
 refine Zf [] func123 rfl ntmps123 results123 ?_
 (have z:=trivial;(try push_cast)<;>repeat' (first|apply Zi<;>intro _|refine Zc hH ?_|exact Zp|with_reducible apply Za)<;>try push_cast)
 rfl
theorem c_Turn(k p t:ByteArray)(hb:C1 k p=true)(hz:k.size<=1048576/\t.size<=1048576):A3 prog 122 [.val (.string k),.val (.string p),.val (.string t)] (if C7 (t++Hh k p)=0 then .tup [.val (.string (t++Hh k p)),.val (.int .i64 0)] else .tup [.val (.string ByteArray.empty),.val (.int .i64 (C7 (t++Hh k p)))]):=by
 have hC:=T9 k p
 change A3 _ _ _ (.tup [.val (.string (Hh k p)),.val (.bool (C1 k p))]) at hC
 rw[hb] at hC
 have hK:=Nr (t++Hh k p)
 have hs:(Hh k p).size<=k.size:=by
  show(Lib.trimPrefix k.data.toList p.data.toList).toArray.size<=k.data.size
  rw[A0H,<-A0T]
  unfold Lib.trimPrefix
  split
  ·rw[A0n];omega
  ·exact A0e _
 by_cases hc:C7 (t++Hh k p)=0
 ·rw[if_pos hc]
  rw[hc] at hK
  refine Zf [] func122 rfl ntmps122 results122 ?_
  (have z:=trivial;(try push_cast)<;>repeat' (first|apply Zi<;>intro _|refine Zc hC ?_|refine Zc hK ?_|exact Zp|with_reducible apply Za)<;>try push_cast)
  all_goals first|omega|skip
  all_goals first|rfl|skip
 ·rw[if_neg hc]
  have b1:(C7 (t++Hh k p) !=0)=true:=by simpa using hc
  refine Zf [] func122 rfl ntmps122 results122 ?_
  (have z:=b1;(try push_cast[z])<;>repeat' (first|apply Zi<;>intro _|refine Zc hC ?_|refine Zc hK ?_|exact Zo|with_reducible apply Za)<;>try push_cast[z])
  all_goals first|omega|skip
  all_goals rfl
def BL(k p t:ByteArray):ByteArray:=t++Hh k p
noncomputable def Gu(p t:ByteArray)(L:List GE):List GE->Int×List GE
 |[]=>(0,[])
 |e::g=>if C7 (BL e.1 p t)≠0 then(8,[]) else if CG (BL e.1 p t) L=true/\C1 (BL e.1 p t) p=false then(13,[]) else((Gu p t L g).1,(BL e.1 p t,e.2)::(Gu p t L g).2)
noncomputable def Q4(F:GV->Int):List GE->List GE->Int×List GE
 |[],R=>(0,R)
 |e::g,R=>if Bv (F e.2) e.1=0 then Q4 F g (AU e R) else(Bv (F e.2) e.1,R)
def Bs(p:ByteArray)(L:List GE):List GE:=L.filter fun e=>C1 e.1 p
def E3(p:ByteArray)(L:List GE):List GE:=L.filter fun e=>!C1 e.1 p
noncomputable def CP(F:GV->Int)(p t:ByteArray)(L:List GE):Int×List GE:=
 if(Gu p t L (Bs p L)).1≠0 then((Gu p t L (Bs p L)).1,L) else Q4 F (Gu p t L (Bs p L)).2 (E3 p L)
mutual
noncomputable def Bk(F:GV->Int):GM->List GE->Int×List GE
 |.mk kd k t n h w i v l,L=>
  if kd=1 then(Bv (F v) k,if Bv (F v) k=0 then AU (k,v) L else L)
  else if kd=2 then(if CG k L=true then(0,BE k L) else(12,L))
  else if kd=3 then(FX L k n (F (E8 L k n)),if FX L k n (F (E8 L k n))=0 then AU (k,E8 L k n) L else L)
  else if kd=4 then(QJ (.mk kd k t n h w i v l) L (F v),SZ (.mk kd k t n h w i v l) L (F v))
  else if kd=5 then(G8 L k (F (D9 L k v)),if G8 L k (F (D9 L k v))=0 then AU (k,D9 L k v) L else L)
  else if kd=6 then CP F k t L
  else if kd=7 then(if k.size≠0/\DU (.mk kd k t n h w i v l) L=false then(13,L) else Cl F l L)
  else(9,L)
noncomputable def Cl(F:GV->Int):List GM->List GE->Int×List GE
 |[],L=>(0,L)
 |m::l,L=>if (Bk F m L).1=0 then Cl F l (Bk F m L).2 else((Bk F m L).1,L)
end
theorem c_ends(lo hi k:ByteArray)(op:Bool):A3 prog 248 [.agg [.val (.string lo),.val (.string hi),.val (.bool op)],.val (.string k)] (.val (.bool (!op&& !ltS k hi))):=by
 cases op<;>simp only[Bool.not_true,Bool.not_false,Bool.false_and,Bool.true_and]
 all_goals
  refine Zf [0] func248 rfl ntmps248 results248 ?_
  ((try push_cast)<;>repeat' (first|apply Zi<;>intro _|exact Zp|with_reducible apply Za)<;>try push_cast)
theorem c_below1(t:GT)(k:ByteArray)(i:Nat)(hi:i<t.es.length)(hs:∀ e ∈ t.es,Sm e.2):A3 prog 269 [.val (.int .i64 i),.ptr [Ag t] 0,.ptr [.val (.string k)] 0] (.val (.bool (!ltS (t.es.getD i zM).1 k))):=by
 have hE:=QO t i hi hs
 have oT:=A5 t
 refine Zf [] func269 rfl ntmps269 results269 ?_
 (have z:=Za @Ao oT;(try push_cast[z])<;>repeat' (first|apply Zi<;>intro _|refine Zc hE ?_|exact Zo|with_reducible apply Za)<;>try push_cast[z])
theorem c_below(t:GT)(k:ByteArray)(h8:t.es.length<=8)(hk0:t.kids=[])(hs:∀ e ∈ t.es,Sm e.2)(hm:∀ i j,i<=j->j<t.es.length->ltS (t.es.getD i zM).1 k=false->ltS (t.es.getD j zM).1 k=false):
  A3 prog 260 [Ag t,.val (.string k)] (.val (.int .i64 (AB t.es k))):=by
 have hsz:t.size=t.es.length:=by simp[GT.size,hk0]
 have hz:=La t (by omega)
 rw[hsz] at hz
 have oT:=A5 t
 have hS:=Kn t.es.length 269 [.ptr [Ag t] 0,.ptr [.val (.string k)] 0] (fun i=>!ltS (t.es.getD i zM).1 k) (by simp only[Av,D.pure,oT,A0X]) (by omega) (fun i hi=>c_below1 t k i hi hs) (fun i j h h' h2=>by have:=hm i j h h';revert this h2;cases ltS (t.es.getD i zM).1 k<;>simp)
 change A3 _ _ _ (.val (.int .i64 (AB t.es k))) at hS
 rcases Dd t with hf|⟨cs,hf⟩
 all_goals
  rw[hf] at hz hS oT|-
  try simp only[D.pure] at oT
  refine Zf [0,8] func260 rfl ntmps260 results260 ?_
  (have z:=oT;(try push_cast[z])<;>repeat' (first|apply Zi<;>intro _|refine Zc (hz ..) ?_|refine Zc hS ?_|exact Zo|with_reducible apply Za)<;>try push_cast[z])
attribute [push_cast] EP
def DJ(a c:Code)(b:GT)(q:OQ)(A:List ByteArray):Hp:=(7,.loop [(5,.ref 3 0 0 1),(2,.ptr [.ref 1 0 0 3] 0)] 60 .ready none [19,20] a c)::(3,.rows [[.gref 6 A.length]] 1)::(6,.grow (A.map fun k=>[.val (.string k)]) 1)::oqH b q
section
variable{a c:Code}{b:GT}{q:OQ}{f:GE->List ByteArray}(hY:∀ (e:GE) (A:List ByteArray),(A++f e).length<=1048576->G9 prog 7 [.val (.string e.1),.agg (Aa e.2)] (DJ a c b q A) (.val (.bool true)) (DJ a c b q (A++f e)))
include hY
theorem UI(t:GT)(lo hi:ByteArray)(op:Bool)(A:List ByteArray)(h8:t.es.length<=8)(hk0:t.kids=[])(hs:∀ e ∈ t.es,Sm e.2)(hm:∀ i j,i<=j->j<t.es.length->ltS (t.es.getD i zM).1 lo=false->ltS (t.es.getD j zM).1 lo=false)
  (n J:Nat) (hn:t.es.length=AB t.es lo+n) (hJ:J<=n) (h1:∀ j,j<J->(!op&& !ltS (t.es.getD (AB t.es lo+j) zM).1 hi)=false) (h2:J<n->(!op&& !ltS (t.es.getD (AB t.es lo+J) zM).1 hi)=true) (hA:(A++(t.es.drop (AB t.es lo)).flatMap f).length<=1048576):
  A4 prog 246 [Ag t,.agg [.val (.string lo),.val (.string hi),.val (.bool op)],.yld 7] (DJ a c b q A) (.val (.bool (decide (J=n)))) (DJ a c b q (A++((t.es.drop (AB t.es lo)).take J).flatMap f)):=by
 have hB:=c_below t lo h8 hk0 hs hm
 have hsz:t.size=t.es.length:=by simp[GT.size,hk0]
 have hz:=La t (by omega)
 rw[hsz] at hz
 have oT:=A5 t
 have oB:=A5 b
 generalize AB t.es lo=p0 at*
 generalize hG:(fun j=>A++((t.es.drop p0).take j).flatMap f)=G at*
 have hG0:A=G 0:=by rw[<-hG];simp
 have hGJ:A++((t.es.drop p0).take J).flatMap f=G J:=by rw[<-hG]
 have hGs:∀ j,j<n->G (j+1)=G j++f (t.es.getD (p0+j) zM)/\(G j++f (t.es.getD (p0+j) zM)).length<=1048576:=by
  intro j hj
  have hj':j<(t.es.drop p0).length:=by rw[A0n];omega
  have e1:(t.es.drop p0)[j]=t.es.getD (p0+j) zM:=by
   rw[List.getElem_drop,A03,A06 (by omega)];rfl
  have e2:G (j+1)=G j++f (t.es.getD (p0+j) zM):=by
   rw[<-hG]
   simp only[A20,A06 hj',A0u,Option.toList_some,A0I,A28,A0E,A05,e1]
  refine⟨e2,?_⟩
  rw[<-e2,<-hG]
  show(A++((t.es.drop p0).take (j+1)).flatMap f).length<=_
  have e3:=A0R (j+1) (t.es.drop p0)
  have:(A++(t.es.drop p0).flatMap f).length=(A++((t.es.drop p0).take (j+1)).flatMap f).length+(((t.es.drop p0).drop (j+1)).flatMap f).length:=by
   conv=>lhs;rw[<-e3]
   rw[A0u,<-A05,A08]
  omega
 rw[hGJ]
 rw[hG0] at*
 clear hG0 hGJ hG
 unfold DJ oqH at*
 refine Zd [8] func246 rfl ntmps246 results246 ?_
 (have z:=Za oT oB;(try push_cast[z])<;>repeat' (first|apply Zi<;>intro _|refine Zc hB ?_|exact Zo|with_reducible apply Za)<;>try push_cast[z])
 refine Zl (fun j=>j<=J) (fun j=>⟨[(7,(.val (.int .i64 ((p0:Int)+j)))),(4,.ptr [.val (.string lo),.val (.string hi),.val (.bool op)] 0),(2,.yld 7),(0,Ag t)],(7,.loop [(5,.ref 3 0 0 1),(2,.ptr [.ref 1 0 0 3] 0)] 60 .ready none [19,20] a c)::(3,.rows [[.gref 46 (G j).length]] 1)::(46,.grow ((G j).map fun k=>[.val (.string k)]) 1)::[(1,.rows [[Ag b,cD 42 q,.gref 44 q.us.length]] 3),(42,cB q),(44,.grow (q.us.map fun u=>[Bj u]) 1)],100⟩) (fun j=>J-j) 0 (by simp) ?_ fun j hj=>?_
 ·apply Zr [(42,2),(44,4),(46,6)] rfl<;>push_cast [oT,oB]
  all_goals omega
 ·rcases A0v j n with hjn|hjn
  ·have e1:=h1 j
   obtain⟨g1,g2⟩:=hGs j hjn
   have hy:=hY (t.es.getD (p0+j) zM) (G j) g2
   rw[<-g1] at hy
   have hE:=QO t (p0+j) (by omega) hs
   rw[A1G] at hE
   have hX:=c_ends lo hi (t.es.getD (p0+j) zM).1 op
   have b1:decide ((p0:Int)+j<t.es.length)=true:=decide_eq_true (by omega)
   rcases A0v j J with hjJ|hjJ
   ·rw[h1 j hjJ] at hX
    generalize t.es.getD (p0+j) zM=e at*
    (have z:=Za oT<|Za oB<|Za b1 @Ao;(try push_cast[z])<;>repeat' (first|apply Zi<;>intro _|refine Zc (hz ..) ?_|refine Zc hE ?_|refine Zc hX ?_|exact Zo|with_reducible apply Za|(with_reducible show Af _ _ _ _ _ _ _ _;refine Af.yield 7 (BN [(6,46),(2,42),(4,44)]) rfl ?_ (by(try push_cast[z]);exact hy ..) ?_ (by first|exact .inl rfl|exact .inr ⟨_,_,_,rfl,rfl,rfl⟩) ?_ ?_ ?_ ?_;(· push_cast[z]);(· push_cast[z]<;>(with_unfolding_all exact Bl _));(· push_cast[z]<;>(with_unfolding_all exact Bl _));(· push_cast[z]<;>(with_unfolding_all exact Bl _));(· push_cast[z]<;>(with_unfolding_all exact Bl _));try push_cast[z])|fail)<;>try push_cast[z])
    all_goals first|omega|skip
    refine⟨j+1,hjJ,by omega,?_⟩
    have w1:IntKind.i64.wrap (↑p0+↑j+1)=↑p0+(↑j+1):=by rw[A9 (by omega) (by omega)];omega
    apply Zr [(42,386),(44,388),(46,390)] rfl<;>push_cast [oT,oB,w1]
   ·have hjJ':j=J:=by omega
    subst hjJ'
    rw[h2 hjn] at hX
    generalize t.es.getD (p0+j) zM=e at*
    (have z:=Za oT<|Za oB<|Za b1 @Ao;(try push_cast[z])<;>repeat' (first|apply Zi<;>intro _|refine Zc (hz ..) ?_|refine Zc hE ?_|refine Zc hX ?_|exact Zo|with_reducible apply Za)<;>try push_cast[z])
    have d1:decide (j=n)=false:=decide_eq_false (by omega)
    rw[d1]
    apply Zr [(2,42),(4,44),(6,46)] rfl<;>push_cast [oT,oB]
  ·have b1:decide ((p0:Int)+j<t.es.length)=false:=decide_eq_false (by omega)
   (have z:=Za oT<|Za oB b1;(try push_cast[z])<;>repeat' (first|apply Zi<;>intro _|refine Zc (hz ..) ?_|exact Zo|with_reducible apply Za)<;>try push_cast[z])
   obtain rfl:j=J:=by omega
   have d1:decide (j=n)=true:=decide_eq_true (by omega)
   rw[d1]
   apply Zr [(2,42),(4,44),(6,46)] rfl<;>push_cast [oT,oB]
omit hY in
theorem VL(t:GT)(lo hi:ByteArray)(op:Bool)(hh:t.height≠0)(h0:0<t.kids.length)(h8:t.kids.length<=8)(G:Nat->List ByteArray)(B:List ByteArray)(J:Nat)(hJ:J<=t.kids.length)
  (h1:∀ i,i<J->(ltS (t.kids.getD i .nil).last lo=true/\G (i+1)=G i)∨(ltS (t.kids.getD i .nil).last lo=false/\(!op&& !ltS (t.kids.getD i .nil).first hi)=false/\A4 prog 235 [Ag (t.kids.getD i .nil),.agg [.val (.string lo),.val (.string hi),.val (.bool op)],.yld 7] (DJ a c b q (G i)) (.val (.bool true)) (DJ a c b q (G (i+1)))))
  (h2:J<t.kids.length->ltS (t.kids.getD J .nil).last lo=false/\(((!op&& !ltS (t.kids.getD J .nil).first hi)=true/\B=G J)∨((!op&& !ltS (t.kids.getD J .nil).first hi)=false/\A4 prog 235 [Ag (t.kids.getD J .nil),.agg [.val (.string lo),.val (.string hi),.val (.bool op)],.yld 7] (DJ a c b q (G J)) (.val (.bool false)) (DJ a c b q B))))
  (h3:J=t.kids.length->B=G J):
  A4 prog 235 [Ag t,.agg [.val (.string lo),.val (.string hi),.val (.bool op)],.yld 7] (DJ a c b q (G 0)) (.val (.bool (decide (J=t.kids.length)))) (DJ a c b q B):=by
 have hH:=Bx t
 have b0:(t.height==0)=false:=by simpa using hh
 have hK:=Ev t h0 (by omega)
 have oT:=A5 t
 have oB:=A5 b
 unfold DJ oqH at*
 refine Zd [8] func235 rfl ntmps235 results235 ?_
 (have z:=Za oT<|Za oB b0;(try push_cast[z])<;>repeat' (first|apply Zi<;>intro _|refine Zc hH ?_|refine Zs [] hK ?_|exact Zo|with_reducible apply Za)<;>try push_cast[z])
 all_goals first|omega|skip
 refine Zl (fun j=>j<=J) (fun j=>⟨[(19,.val (.int .i64 j)),(18,.val (.int .i64 t.kids.length)),(17,.gref 64 t.kids.length),(4,.ptr [.val (.string lo),.val (.string hi),.val (.bool op)] 0),(2,.yld 7),(0,Ag t)],(64,.grow (t.kids.map Ak) 1)::(7,.loop [(5,.ref 3 0 0 1),(2,.ptr [.ref 1 0 0 3] 0)] 60 .ready none [19,20] a c)::(3,.rows [[.gref 46 (G j).length]] 1)::(46,.grow ((G j).map fun k=>[.val (.string k)]) 1)::[(1,.rows [[Ag b,cD 42 q,.gref 44 q.us.length]] 3),(42,cB q),(44,.grow (q.us.map fun u=>[Bj u]) 1)],100⟩) (fun j=>J-j) 0 (by simp) ?_ fun j hj=>?_
 ·apply Zr [(42,2),(44,4),(46,6),(64,56)] rfl<;>push_cast [oT,oB]
 ·rcases A0v j t.kids.length with hjn|hjn
  ·have b1:decide ((j:Int)<t.kids.length)=true:=decide_eq_true (by omega)
   have e2:=B9 (l:=t.kids) (i:=j) hjn
   have w1:IntKind.i64.wrap (↑j+1)=↑j+1:=A9 (by omega) (by omega)
   have hL:=c_Last (t.kids.getD j .nil)
   have hF:=VU (t.kids.getD j .nil)
   have hX:=c_ends lo hi (t.kids.getD j .nil).first op
   rcases A0v j J with hjJ|hjJ
   ·rcases h1 j hjJ with⟨s1,s2⟩|⟨s1,s2,hw⟩
    ·generalize t.kids.getD j .nil=x at*
     have oX:=A5 x
     (have z:=Za oT<|Za oB<|Za b1<|Za e2<|Za @Ak.eq_1<|Za oX s1;(try push_cast[z])<;>repeat' (first|apply Zi<;>intro _|refine Zc hL ?_|exact Zo|with_reducible apply Za)<;>try push_cast[z])
     all_goals first|omega|skip
     refine⟨j+1,hjJ,by omega,?_⟩
     rw[s2]
     apply Zw<;>push_cast [oT,oB,w1]
    ·rw[s2] at hX
     generalize t.kids.getD j .nil=x at*
     have oX:=A5 x
     (have z:=Za oT<|Za oB<|Za b1<|Za e2<|Za @Ak.eq_1<|Za oX s1;(try push_cast[z])<;>repeat' (first|apply Zi<;>intro _|refine Zc hL ?_|refine Zc hF ?_|refine Zc hX ?_|refine Zs [(7,7),(3,3),(6,46),(1,1),(2,42),(4,44)] (hw ..) ?_|exact Zo|with_reducible apply Za)<;>try push_cast[z])
     all_goals first|omega|skip
     refine⟨j+1,hjJ,by omega,?_⟩
     apply Zr [(42,346),(44,348),(46,350)] rfl<;>push_cast [oT,oB,w1]
   ·have hjJ':j=J:=by omega
    subst hjJ'
    obtain⟨s1,⟨s2,s3⟩|⟨s2,hw⟩⟩:=h2 hjn
    ·rw[s2] at hX
     generalize t.kids.getD j .nil=x at*
     have oX:=A5 x
     (have z:=Za oT<|Za oB<|Za b1<|Za e2<|Za @Ak.eq_1<|Za oX s1;(try push_cast[z])<;>repeat' (first|apply Zi<;>intro _|refine Zc hL ?_|refine Zc hF ?_|refine Zc hX ?_|exact Zo|with_reducible apply Za)<;>try push_cast[z])
     all_goals first|omega|skip
     have d1:decide (j=t.kids.length)=false:=decide_eq_false (by omega)
     rw[d1]
     rw[s3]
     apply Zr [(2,42),(4,44),(6,46)] rfl<;>push_cast [oT,oB]
    ·rw[s2] at hX
     generalize t.kids.getD j .nil=x at*
     have oX:=A5 x
     (have z:=Za oT<|Za oB<|Za b1<|Za e2<|Za @Ak.eq_1<|Za oX s1;(try push_cast[z])<;>repeat' (first|apply Zi<;>intro _|refine Zc hL ?_|refine Zc hF ?_|refine Zc hX ?_|refine Zs [(7,7),(3,3),(6,46),(1,1),(2,42),(4,44)] (hw ..) ?_|exact Zo|with_reducible apply Za)<;>try push_cast[z])
     all_goals first|omega|skip
     have d1:decide (j=t.kids.length)=false:=decide_eq_false (by omega)
     rw[d1]
     apply Zr [(2,346),(4,348),(6,350)] rfl<;>push_cast [oT,oB]
  ·have b1:decide ((j:Int)<t.kids.length)=false:=decide_eq_false (by omega)
   (have z:=Za oT<|Za oB b1;(try push_cast[z])<;>repeat' (first|apply Zi<;>intro _|exact Zo|with_reducible apply Za)<;>try push_cast[z])
   obtain rfl:j=J:=by omega
   have d1:decide (j=t.kids.length)=true:=decide_eq_true (by omega)
   rw[d1,h3 (by omega)]
   apply Zr [(2,42),(4,44),(6,46)] rfl<;>push_cast [oT,oB]
end
end Go.Ab
