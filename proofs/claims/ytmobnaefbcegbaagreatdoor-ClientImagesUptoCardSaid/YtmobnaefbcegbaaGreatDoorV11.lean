/- The program is walked: part 12 of 18. -/
import Derived.Test.YtmobnaefbcegbaaGreatDoorV10
import Derived.Laws.IdiomStrings
import Derived.Laws.AppendOwn
import Derived.Lib.UnsafeStr
import Derived.Laws.BytesArg
set_option maxHeartbeats 4000000
set_option maxRecDepth 20000
set_option linter.all false
namespace Go.Proofs
open Go.Ab Go.Proofs Go.Proofs.Tryz Go.RowKit Go.Shelf
attribute [local go_sem] Oper.semAt_some
set_option maxRecDepth 100000 in
set_option maxHeartbeats 4000000 in
def w_Quote(n:Nat)(s:Baa)(hs:s.size<=1048576)(w0:World)(hT:∀W,Below w0.heap.size w0 W->Lib.Utf8Tabs (Tryz.sDecode_ren.g 3) (Tryz.sDecode_ren.g 4) W)(hT2:Lib.Utf8Tabs (Tryz.sValid_ren.g 3) (Tryz.sValid_ren.g 4) w0):
  CallsIn Fence.wide n prog 271 #[.string s] w0 λe w'=>e=.returned (.tuple #[.string (Dk s),.int .i64 (if AK s=true then 0 else 3)])/\Below w0.heap.size w0 w':=by
 obtain⟨cd,hcd⟩:∃cd:Int,cd=(if AK s=true then 0 else 3):=⟨_,rfl⟩
 rw[<-hcd];have hV:=c_valid (n-1) s w0 hs hT2;refine callsIn_of_wp_marks func271 rfl trivial ?_;simp only[ntmps271,A2A,A2l,A2r,Nat.reduceAdd,Nat.reduceSub,A3e,A3f,A3v,A38,A2h,A2d]
 gi_wp2
 refine⟨trivial,λh=>(by cases h),hV.mono ?_⟩;rintro e w1 ⟨rfl,hb1⟩;cases hv:AK s with
 |false=>
  rw[if_neg (by rw[hv];decide)] at hcd;subst hcd
  gi_wp2
  refine⟨_,results_tmp2 rfl _ _ _,?_,hb1⟩;simp[Dk,hv];rfl
 |true=>
  rw[if_pos hv] at hcd;subst hcd
  gi_wp2
  have hB0:Tryz.bld (w1.heap.size+1) (w1.heap.size+1) [] ((w1.alloc (.cells #[.map none] 407)).alloc (.cells #[.pointer none,.slice none 0 0] 191)):=by
   have:=Lib.IsBuilderF.of (Lib.fresh_isBuilder 191 5 (w1.alloc (.cells #[.map none] 407)));rwa[World.size_alloc] at this
  have hlo:w0.heap.size<=w1.heap.size:=hb1.size;have e4:((w1.alloc (.cells #[.map none] 407)).alloc (.cells #[.pointer none,.slice none 0 0] 191)).heap[w1.heap.size]? =some (.cells #[.map none] 407 (0,0)):=
   (Below.heap_alloc _ _ _ Sq').trans (World.alloc_heap_new w1 _)
  have hb2:Below w0.heap.size w0 ((w1.alloc (.cells #[.map none] 407)).alloc (.cells #[.pointer none,.slice none 0 0] 191)):=(hb1.alloc Om _).alloc So' _;generalize(w1.alloc (.cells #[.map none] 407)).alloc (.cells #[.pointer none,.slice none 0 0] 191)=w2 at*;obtain⟨b4,hb4⟩:∃b4,b4=w1.heap.size:=⟨_,rfl⟩
  obtain⟨b,hbb⟩:∃b,b=w1.heap.size+1:=⟨_,rfl⟩
  rw[<-hbb] at hB0|-;rw[<-hb4] at hlo hbb e4|-;clear hb4;refine⟨trivial,λh=>(by cases h),(callsIn_wide.2 (Tryz.bWb b b [] 34 w2 hB0 Sq' (by have:=E3 hB0;omega))).mono ?_⟩;rintro e w3 ⟨rfl,hB3,bb3,kk3⟩;have f4:=MG hB0 kk3 Om e4;have hb3:Below w0.heap.size w0 w3:=hb2.trans (bb3.mono Om)
  gi_wp2
  refine⟨trivial,λh=>(by cases h),(Zn (n-1) s w3).mono ?_⟩;rintro e w4 ⟨rfl,hw4⟩;obtain⟨bx,hbx⟩:∃bx,bx=w3.heap.size:=⟨_,rfl⟩
  have hbl:=E3 hB3;have k4:Dx w3 w4:=by subst hw4;exact Dx.below ((Below.refl _ _).alloc (A2e _) _)
  have hb4:Below w0.heap.size w0 w4:=by subst hw4;exact hb3.alloc hb3.size _
  have hx4:w4.heap[bx]? =some (.cells #[.string s] 9 (0,0)):=by subst hw4;rw[hbx];exact World.alloc_heap_new w3 _
  rw[<-hbx];have hI:TO s w0 b4 b bx 0 w4:=⟨⟨[34],MC k4 hB3,by rw[A3W],Sq'⟩,hb4,Om,Om,Om,hx4,.inl (Cm k4 f4),A2w _,by rw[A3W];exact hv⟩
  have hbx4:bx≠b4:=Om;clear hw4 hbx;subst hbb
  gi_wp2
  refine wp_tells (σ:=Nat) (gf:=385) (lb:=#[.pointer (some ⟨bx,0,none⟩)]) rfl (enters_of func385 Kq' rfl) (c_runes1 (n-1) s hs bx w0 hT) (λ_=>rfl) (TO s w0 b4 (b4+1) bx)
   (λp W h=>⟨h.below,by simp[World.cell?,h.box],h.le,h.ok⟩)
   (λp W W' h hb=>h.keepL (Dx.below hb) (h.below.trans (hb.mono h.below.size)))
   (λp W l r o hl hr h=>h.keepL (Dx.put o hr) (h.below.trans ((Below.refl _ W).grown (grownBy_putObj' W l o) (by have:=h.below.size;omega) (λk e=>by cases e;have:=hb4.size;omega))))
   hI
   (λp=> {tmps:=#[.string s,undef,.string ⟨#[]⟩,.int .i64 0,.pointer (some ⟨b4,0,none⟩),.pointer (some ⟨b4+1,0,none⟩),undef,.int .i32 (rnA s p).1,undef,undef,.string s,.bool true,.bool false,.nilIface,.string s,
    .func (.func 385) #[] #[.pointer (some ⟨bx,0,none⟩)],.int .i64 p,.int .i32 (rnA s p).1,undef,undef,undef,undef,undef,undef,undef,undef,undef,undef,undef,undef,undef,undef,undef,undef,undef,undef,undef,undef,undef,undef,undef,undef,undef,undef,undef,undef],defers:=[]}) ?assign ?body ?done
  case assign=>
   intro l p W K hK;unfold P4
   gi_wp2
   exact hK
  case done=>
   intro D W hD hI hK;obtain⟨acc,q,t1,t2⟩:=hI.start;rw[List.drop_of_length_le (show s.data.toList.length<=s.size from A2e _),GP,A2y] at t1;have ql:=E3 q.bld;refine(show Exit.inBlock 0 _ _ _ _ from ?_)
   gi_wp2
   refine⟨trivial,λh=>(by cases h),(callsIn_wide.2 (Tryz.bWb (b4+1) (b4+1) acc 34 W q.bld Om Om)).mono ?_⟩;rintro e W2 ⟨rfl,B2,bb,kk⟩;have q2:=q.write B2 bb kk;have ql2:=E3 q2.bld
   gi_wp2
   refine⟨trivial,λh=>(by cases h),(callsIn_wide.2 (Tryz.bSt (b4+1) (b4+1) (acc++[34]) W2 B2 Om)).mono ?_⟩;rintro e W3 ⟨rfl,bb3,kk3⟩;have hK3:=((q2.keep.trans (MX B2 bb3 kk3))).same _ _ hK rfl
   gi_wp2
   refine⟨Sq',.inl ⟨_,_,rfl,run_takeDeferred hK3,?_⟩⟩;refine⟨_,results_tmp2 rfl _ _ _,?_,?_⟩
   ·have e:Dk s=⟨(acc++[34]).toArray⟩:=by unfold Dk;rw[if_pos hv,t1]
    rw[e];rfl
   ·exact(q2.below.trans (bb3.mono q2.blt)).grown (grownBy_putObj' W3 D _) (by have:=q2.below.size;have:=bb3.size;omega) (λk e=>by cases e;have:=hb4.size;omega)
  case body=>
   intro l p W hI hp;obtain⟨acc,q,t1,t2⟩:=hI.start;have ql:=E3 q.bld;have hok:=hI.ok;obtain⟨v1,v2,v3,v4,v5⟩:=Uw hp hok;have hnx:∀ {W':World} {x:Lua},x=L4 (s.data.toList.drop p)->Qu s w0 b4 (b4+1) bx W (acc++x) W'->KeepsOthers W W'/\TO s w0 b4 (b4+1) bx (p+(rnA s p).2) W':=λhx h=>Qu.next hp hok t1 t2 hx h;unfold L4 at hnx;change ∀ {W':World} {x:Lua},x=(if 32<=(rnA s p).1/\(rnA s p).1≠34/\(rnA s p).1≠92 then Lib.encodeRune (rnA s p).1 else match Jw (rnA s p).1 with|some c=>[92,c]|none=>[92,117,48,48,Ka ((rnA s p).1/16),Ka ((rnA s p).1%16)])->_ at hnx;generalize rnA s p=x at*;obtain⟨r,wd⟩:=x;simp only at*;have hal:acc.length+16<=140737488355328:=Om;clear t1 t2 hI hok v1 v2
   gi_wp2
   refine⟨trivial,λh=>(by cases h),CallsIn.inRound l ((Qi (n-1-1-1) r W).mono ?_)⟩;rintro e w' ⟨rfl,rfl⟩;by_cases st:32<=r/\r≠34/\r≠92
   ·rw[if_pos st] at hnx;rw[decide_eq_true st]
    gi_wp2
    refine⟨trivial,λh=>(by cases h),CallsIn.inRound l ((callsIn_wide.2 (Tryz.bWr (b4+1) (b4+1) acc r v5 w' q.bld Om Om)).mono ?_)⟩;rintro e W2 ⟨rfl,B2,bb,kk⟩
    gi_wp2
    exact hnx rfl (q.write B2 bb kk)
   ·rw[if_neg st] at hnx;rw[decide_eq_false st];have q0:∀w:World,(binOp .eql 407 (.map none) (.map none)).run prog w=.ok (.bool true) w:=λw=>Z7 none w;have q1:∀(m:Nat) (w:World),(binOp .eql 407 (.map (some m)) (.map none)).run prog w=.ok (.bool false) w:=λm w=>Z7 (some m) w;rcases q.map with e4|⟨m,e4,hm⟩
    ·have c4:w'.cell? ⟨b4,0,none⟩=some (.map none):=by simp[World.cell?,e4]
     have z4:w'.frozen? ⟨b4,0,none⟩=false:=by simp[World.frozen?,e4]
     gi_wp2
     refine⟨trivial,λh=>(by cases h),CallsIn.inRound l ((A1E (n-1-1-1) w').mono ?_)⟩;rintro e W2 ⟨rfl,hm,hb⟩;have e42:=Cm (Dx.below hb) e4;have c42:W2.cell? ⟨b4,0,none⟩=some (.map none):=by simp[World.cell?,e42]
     have z42:W2.frozen? ⟨b4,0,none⟩=false:=by simp[World.frozen?,e42]
     obtain⟨q3,n4,m3⟩:=q.letters e4 hb hm hbx4 hlo;have c43:(W2.setCell ⟨b4,0,none⟩ (.map (some w'.heap.size))).cell? ⟨b4,0,none⟩=some (.map (some w'.heap.size)):=by simp[World.cell?,n4]
     obtain⟨c,hlk,hc⟩:=Ri m3 r v5;cases hl:Jw r with
     |some bt=>
      rw[hl] at hlk hnx;obtain rfl:=hc bt hl;obtain⟨le1,le2⟩:=V8 hl;simp only[Option.isSome_some] at hlk
      gi_wp2
      refine⟨trivial,λh=>(by cases h),CallsIn.inRound l ((callsIn_wide.2 (Tryz.bWb (b4+1) (b4+1) acc 92 _ q3.bld Om (by have:=E3 q3.bld;omega))).mono ?_)⟩;rintro e W5 ⟨rfl,B5,bb5,kk5⟩;have q5:=q3.write B5 bb5 kk5;have l5:=E3 q5.bld
      gi_wp2
      refine⟨trivial,λh=>(by cases h),CallsIn.inRound l ((callsIn_wide.2 (Tryz.bWr (b4+1) (b4+1) (acc++[92]) bt.toNat Om _ q5.bld So' Om)).mono ?_)⟩;rintro e W6 ⟨rfl,B6,bb6,kk6⟩;have q6:=q5.write B6 bb6 kk6;rw[le1,A2c] at q6
      gi_wp2
      exact hnx rfl q6
     |none=>
      rw[hl] at hlk hnx;have hr:=Rj hl st;have h15:=and_15 hr;have h16:0<=bits BinOp.and IntKind.i32 (r:Int) 15/\bits BinOp.and IntKind.i32 (r:Int) 15<16:=Om;simp only[A3I] at hlk
      gi_wp2
      refine⟨trivial,λh=>(by cases h),CallsIn.inRound l ((callsIn_wide.2 (Tryz.bWs (b4+1) (b4+1) acc _ _ q3.bld (by show acc.length+4<=_;omega) (by have:=E3 q3.bld;omega))).mono ?_)⟩;rintro e W5 ⟨rfl,B5,bb5,kk5⟩;have q5:=q3.write B5 bb5 kk5;have l5:=E3 q5.bld
      gi_wp2
      refine⟨trivial,λh=>(by cases h),CallsIn.inRound l ((callsIn_wide.2 (Tryz.bWb (b4+1) (b4+1) _ _ _ q5.bld (by rw[A2a];show acc.length+4+1<=_;omega) Om)).mono ?_)⟩;rintro e W6 ⟨rfl,B6,bb6,kk6⟩;have q6:=q5.write B6 bb6 kk6;have l6:=E3 q6.bld
      gi_wp2
      refine⟨trivial,λh=>(by cases h),CallsIn.inRound l ((callsIn_wide.2 (Tryz.bWb (b4+1) (b4+1) _ _ _ q6.bld (by rw[A2a,A2a];show acc.length+4+1+1<=_;omega) Om)).mono ?_)⟩;rintro e W7 ⟨rfl,B7,bb7,kk7⟩;have q7:=q6.write B7 bb7 kk7;rw[SY Om,SY Om,A2c,A2c] at q7
      gi_wp2
      refine hnx ?_ q7;rfl
    ·have c4:w'.cell? ⟨b4,0,none⟩=some (.map (some m)):=by simp[World.cell?,e4]
     have z4:w'.frozen? ⟨b4,0,none⟩=false:=by simp[World.frozen?,e4]
     obtain⟨c,hlk,hc⟩:=Ri hm r v5;cases hl:Jw r with
     |some bt=>
      rw[hl] at hlk hnx;obtain rfl:=hc bt hl;obtain⟨le1,le2⟩:=V8 hl;simp only[Option.isSome_some] at hlk
      gi_wp2
      refine⟨trivial,λh=>(by cases h),CallsIn.inRound l ((callsIn_wide.2 (Tryz.bWb (b4+1) (b4+1) acc 92 _ q.bld Om (by have:=E3 q.bld;omega))).mono ?_)⟩;rintro e W5 ⟨rfl,B5,bb5,kk5⟩;have q5:=q.write B5 bb5 kk5;have l5:=E3 q5.bld
      gi_wp2
      refine⟨trivial,λh=>(by cases h),CallsIn.inRound l ((callsIn_wide.2 (Tryz.bWr (b4+1) (b4+1) (acc++[92]) bt.toNat Om _ q5.bld So' Om)).mono ?_)⟩;rintro e W6 ⟨rfl,B6,bb6,kk6⟩;have q6:=q5.write B6 bb6 kk6;rw[le1,A2c] at q6
      gi_wp2
      exact hnx rfl q6
     |none=>
      rw[hl] at hlk hnx;have hr:=Rj hl st;have h15:=and_15 hr;have h16:0<=bits BinOp.and IntKind.i32 (r:Int) 15/\bits BinOp.and IntKind.i32 (r:Int) 15<16:=Om;simp only[A3I] at hlk
      gi_wp2
      refine⟨trivial,λh=>(by cases h),CallsIn.inRound l ((callsIn_wide.2 (Tryz.bWs (b4+1) (b4+1) acc _ _ q.bld (by show acc.length+4<=_;omega) (by have:=E3 q.bld;omega))).mono ?_)⟩;rintro e W5 ⟨rfl,B5,bb5,kk5⟩;have q5:=q.write B5 bb5 kk5;have l5:=E3 q5.bld
      gi_wp2
      refine⟨trivial,λh=>(by cases h),CallsIn.inRound l ((callsIn_wide.2 (Tryz.bWb (b4+1) (b4+1) _ _ _ q5.bld (by rw[A2a];show acc.length+4+1<=_;omega) Om)).mono ?_)⟩;rintro e W6 ⟨rfl,B6,bb6,kk6⟩;have q6:=q5.write B6 bb6 kk6;have l6:=E3 q6.bld
      gi_wp2
      refine⟨trivial,λh=>(by cases h),CallsIn.inRound l ((callsIn_wide.2 (Tryz.bWb (b4+1) (b4+1) _ _ _ q6.bld (by rw[A2a,A2a];show acc.length+4+1+1<=_;omega) Om)).mono ?_)⟩;rintro e W7 ⟨rfl,B7,bb7,kk7⟩;have q7:=q6.write B7 bb7 kk7;rw[SY Om,SY Om,A2c,A2c] at q7
      gi_wp2
      refine hnx ?_ q7;rfl
end Go.Proofs
namespace Go.Ab
open Go.Proofs Go.Proofs.Tryz
variable{l:List (Baa×GV)}{i:Nat}
def Md{d:Nat}:∀ {l:List GV},(∀j,j<l.length->Bb (l.getD j zV) d=0)->CR l d=0
 |[],_=>rfl
 |v::l,h=>by
  have h0:=h 0 Sq';simp only[A39] at h0;simp only[CR,h0];simpa using Md (l:=l) λj C=>by simpa using h (j+1) (by simpa using C)
def Mc{d:Nat}:∀ {l:List GV} {i:Nat},i<l.length->(∀j,j<i->Bb (l.getD j zV) d=0)->Bb (l.getD i zV) d≠0->CR l d=Bb (l.getD i zV) d
 |v::l,0,_,_,h=>by
  simp only[A39] at h|-;simp only[CR,if_pos h]
 |v::l,i+1,hi,h,hh=>by
  have h0:=h 0 Om;simp only[A39] at h0;simp only[CR,h0,A3t];simp only[ne_eq,not_true_eq_false,if_false];exact Mc (by simpa using hi) (λj C=>by simpa using h (j+1) Om) (by simpa using hh)
def QS(p:Option Baa)(l:List (Baa×GV))(j:Nat):Option Baa:=if j=0 then p else some (l.getD (j-1) zM).1
def Xh(p:Option Baa)(x:Baa×GV)(l:List (Baa×GV))(j:Nat):QS p (x::l) (j+1)=QS (some x.1) l j:=by
 unfold QS;cases j with
 |zero=>simp
 |succ j=>simp
noncomputable def D7(p:Option Baa)(l:List (Baa×GV))(d j:Nat):Int:=Pr (QS p l j) (l.getD j zM).1 (l.getD j zM).2 d
def Hy(p:Option Baa)(x:Baa×GV)(l:List (Baa×GV))(d j:Nat):D7 p (x::l) d (j+1)=D7 (some x.1) l d j:=by
 unfold D7;rw[Xh,A3t]
def Mf{d:Nat}:∀ {p:Option Baa} {l:List (Baa×GV)},(∀j,j<l.length->D7 p l d j=0)->Ey p l d=0
 |_,[],_=>rfl
 |p,(k,v)::l,h=>by
  have h0:Pr p k v d=0:=h 0 Sq';rw[DZ,if_neg (by simp[h0])];exact Mf λj C=>by rw[<-Hy p (k,v)];exact h (j+1) (by simpa using C)
def Me{d:Nat}:∀ {p:Option Baa} {l:List (Baa×GV)} {i:Nat},i<l.length->(∀j,j<i->D7 p l d j=0)->D7 p l d i≠0->Ey p l d=D7 p l d i
 |p,(k,v)::l,0,_,_,h=>by
  have e:D7 p ((k,v)::l) d 0=Pr p k v d:=rfl;rw[e] at h|-;rw[DZ,if_pos h]
 |p,(k,v)::l,i+1,hi,h,hh=>by
  have h0:Pr p k v d=0:=h 0 Om;rw[DZ,if_neg (by simp[h0]),Hy];rw[Hy] at hh;exact Me (by simpa using hi) (λj C=>by rw[<-Hy p (k,v)];exact h (j+1) Om) hh
def SL(l:List (Baa×GV))(d:Nat):D7 none l d 0=if AK (l.getD 0 zM).1=false then 3 else Bb (l.getD 0 zM).2 d:=by simp[D7,Pr,QS]
def SK(l:List (Baa×GV))(d j:Nat)(h:0<j):D7 none l d j=if AK (l.getD j zM).1=false then 3 else if ltS (l.getD (j-1) zM).1 (l.getD j zM).1=false then 8 else Bb (l.getD j zM).2 d:=by
 have:j≠0:=Om;simp[D7,Pr,QS,this]
def c_odd(v:GV):A0 prog 210 [.agg (A7 v)] (bD (Ff v)):=by
 rw[A3];refine Zk [] λH Hb=>?_
 (push_cast<;>repeat' (first|apply Zi<;>intro _|apply Za)<;>push_cast)
 all_goals
  clear H Hb;unfold Ff;rw[DV];generalize decide (v.s=(⟨#[]⟩:Baa))=z at*;generalize v.list.length=L at*;generalize v.obj.length=O at*;generalize v.kind=k at*;generalize v.n=n at*;generalize v.b=b at*;clear v;rcases A2K L with hL|hL<;>rcases A2K O with hO|hO<;>by_cases hn:n=0<;>cases z<;>cases b<;>first|(simp_all;done)|(simp_all;omega)|grind
def c_vmay(v:GV)(d:Nat)(hd:d<=65)(hs:Sm v):A0 prog 140 [.agg (A7 v),iD d] (iD (Bb v d)):=by
 have a2:∀x,SizeOf.sizeOf x<SizeOf.sizeOf v->d+1<=65->Sm x->A0 prog 140 [.agg (A7 x),iD ((d:Int)+1)] (iD (Bb x (d+1))):=λx hx h h2=>by
  have:=c_vmay x (d+1) h h2;rwa[A3m] at this
 have hl:=hs.list_le;have a5:=hs.obj_le;have M:=c_odd v;have hV:=HN v.s;have w1:IntKind.i64.wrap (↑d+1)=↑d+1:=A9 Om Om;rw[DW];rw[A3] at M|-;by_cases ho:Ff v=true
 ·rw[if_pos ho];rw[ho] at M;refine Zf [0] ?_
  (have z:=trivial;push_cast<;>repeat' (first|refine Zc M ?_|exact Zp|apply Za)<;>push_cast)
 ·rw[if_neg ho];have ho:Ff v=false:=by simpa using ho
  rw[ho] at M;by_cases a3:64<d
  ·rw[if_pos a3];have b1:decide ((64:Int)<d)=true:=Dt';refine Zf [0] ?_
   (have z:=b1;push_cast[z]<;>repeat' (first|refine Zc M ?_|exact Zo|apply Za)<;>push_cast[z])
  ·rw[if_neg a3];have b1:decide ((64:Int)<d)=false:=Df';by_cases k4:v.kind=4
   ·rw[if_pos k4];rw[k4] at M|-;cases N:AK v.s with
    |true=>
     rw[N] at hV;refine Zf [0] ?_
     (have z:=b1;push_cast[z]<;>repeat' (first|refine Zc M ?_|refine Zc hV ?_|exact Zo|apply Za)<;>push_cast[z])
    |false=>
     rw[N] at hV;refine Zf [0] ?_
     (have z:=b1;push_cast[z]<;>repeat' (first|refine Zc M ?_|refine Zc hV ?_|exact Zo|apply Za)<;>push_cast[z])
   ·rw[if_neg k4];have e4:(v.kind==4)=false:=by simpa using k4
    by_cases k5:v.kind=5
    ·rw[if_pos k5];rw[k5] at M|-;have a0:∀i,i<v.list.length->A0 prog 140 [.agg (A7 (v.list.getD i zV)),iD ((d:Int)+1)] (iD (Bb (v.list.getD i zV) (d+1))):=λi hi=>a2 _ (GV.list_lt (Ae hi)) Om (hs.list _ (Ae hi));refine Zf [0] ?_
     (have z:=b1;push_cast[z]<;>repeat' (first|refine Zc M ?_|exact Zo|apply Za)<;>push_cast[z])
     refine Zl (λi=>i<=v.list.length/\∀j,j<i->Bb (v.list.getD j zV) (d+1)=0) (λi=>⟨[(30,iD i),(29,iD v.list.length),(28,.slice (v.list.map A7) false),(1,iD d)],[],400⟩) (λi=>v.list.length-i) 0 Sq' ?_ λi hi=>?_
     ·apply Zw<;>push_cast
     ·obtain⟨h1,h2⟩:=hi;push_cast;refine Ad (λZ=>?_) (λZ=>?_)
      ·have C:i<v.list.length:=by simpa using Z
       have Y:=DU C;have hr:=a0 i C;have O:=Mc C h2;generalize hx:v.list.getD i zV=x at*;by_cases hc:Bb x (d+1)=0
       ·rw[hc] at hr
        (have z:=Za Y w1;push_cast[z]<;>repeat' (first|refine Zc (hr ..) ?_|exact Zo|apply Za)<;>push_cast[z])<;>try omega
        refine⟨i+1,⟨C,λj hj=>?_⟩,Om,?_⟩
        ·by_cases a1:j=i
         ·rw[a1,hx];exact hc
         ·exact h2 j Om
        ·apply Zw<;>push_cast;exact A9 Om Om
       ·have b3:(Bb x (d+1) !=0)=true:=by simpa using hc
        rw[O hc];generalize Bb x (d+1)=c at*
        (have z:=Za Y<|Za w1 b3;push_cast[z]<;>repeat' (first|refine Zc (hr ..) ?_|exact Zo|apply Za)<;>push_cast[z])<;>try omega
      ·have C:i=v.list.length:=by simp at Z;omega
       subst C;rw[Md h2]
       (push_cast<;>repeat' (first|exact Zp|apply Za)<;>push_cast)
    ·rw[if_neg k5];have e5:(v.kind==5)=false:=by simpa using k5
     by_cases k6:v.kind=6
     ·rw[if_pos k6];rw[k6] at M|-;have a0:∀i,i<v.obj.length->A0 prog 140 [.agg (A7 (v.obj.getD i zM).2),iD ((d:Int)+1)] (iD (Bb (v.obj.getD i zM).2 (d+1))):=λi hi=>a2 _ (GV.obj_lt (Ae hi)) Om (hs.obj _ (Ae hi));refine Zf [0] ?_
      (have z:=b1;push_cast[z]<;>repeat' (first|refine Zc M ?_|exact Zo|apply Za)<;>push_cast[z])
      refine Zl (λi=>i<=v.obj.length/\∀j,j<i->D7 none v.obj (d+1) j=0) (λi=>⟨[(47,iD i),(46,iD v.obj.length),(45,.slice (v.obj.map A8) false),(1,iD d),(2,.ptr [iD 6,bD v.b,iD v.n,sD v.s,.slice (v.list.map A7) false,.slice (v.obj.map A8) false] 0)],[],400⟩) (λi=>v.obj.length-i) 0 Sq' ?_ λi hi=>?_
      ·apply Zw<;>push_cast
      ·obtain⟨h1,h2⟩:=hi;push_cast;refine Ad (λZ=>?_) (λZ=>?_)
       ·have C:i<v.obj.length:=by simpa using Z
        have Y:=Bc C;have hr:=a0 i C;have U:=HN (v.obj.getD i zM).1;have O:=Me C h2;have w2:IntKind.i64.wrap (↑i+1)=↑i+1:=A9 Om Om;have a4:D7 none v.obj (d+1) i=0->∀j,j<i+1->D7 none v.obj (d+1) j=0:=λh j hj=>by
         by_cases a1:j=i
         ·rw[a1];exact h
         ·exact h2 j Om
        rcases A2K i with hz|hz
        ·subst hz;have e0:=SL v.obj (d+1);cases N:AK (v.obj.getD 0 zM).1 with
         |false=>
          rw[N] at U;have V:D7 none v.obj (d+1) 0=3:=by rw[e0,N];rfl
          rw[V] at O;rw[O Dq']
          (have z:=Za Y @Aj;push_cast[z]<;>repeat' (first|refine Zc U ?_|exact Zo|apply Za)<;>push_cast[z])<;>try omega
         |true=>
          rw[N] at U;have V:D7 none v.obj (d+1) 0=Bb (v.obj.getD 0 zM).2 (d+1):=by rw[e0,N];rfl
          by_cases hc:Bb (v.obj.getD 0 zM).2 (d+1)=0
          ·rw[hc] at hr
           (have z:=Za Y<|Za @Aj w1;push_cast[z]<;>repeat' (first|refine Zc U ?_|refine Zc (hr ..) ?_|exact Zo|apply Za)<;>push_cast[z])<;>try omega
           refine⟨1,⟨C,a4 (by rw[V];exact hc)⟩,Om,?_⟩;apply Zw<;>push_cast;all_goals first|exact w2|skip
          ·rw[V] at O;have b3:(Bb (v.obj.getD 0 zM).2 (d+1) !=0)=true:=by simpa using hc
           rw[O hc];generalize Bb (v.obj.getD 0 zM).2 (d+1)=c at*
           (have z:=Za Y<|Za @Aj<|Za w1 b3;push_cast[z]<;>repeat' (first|refine Zc U ?_|refine Zc (hr ..) ?_|exact Zo|apply Za)<;>push_cast[z])<;>try omega
        ·have e0:=SK v.obj (d+1) i hz;have b4:decide ((0:Int)<i)=true:=Dt';have e9:=Bc (l:=v.obj) (i:=i-1) Om;have w3:IntKind.i64.wrap (↑i-1)=((i-1:Nat):Int):=by rw[A9 Om Om];omega
         cases N:AK (v.obj.getD i zM).1 with
         |false=>
          rw[N] at U;have V:D7 none v.obj (d+1) i=3:=by rw[e0,N];rfl
          rw[V] at O;rw[O Dq']
          (have z:=Za Y @Aj;push_cast[z]<;>repeat' (first|refine Zc U ?_|exact Zo|apply Za)<;>push_cast[z])<;>try omega
         |true=>
          rw[N] at U;cases h9:ltS (v.obj.getD (i-1) zM).1 (v.obj.getD i zM).1 with
          |false=>
           have V:D7 none v.obj (d+1) i=8:=by rw[e0,N,h9];rfl
           rw[V] at O;rw[O Dq']
           (have z:=Za Y<|Za e9<|Za @Aj<|Za b4<|Za w3 h9;push_cast[z]<;>repeat' (first|refine Zc U ?_|exact Zo|apply Za)<;>push_cast[z])<;>try omega
          |true=>
           have V:D7 none v.obj (d+1) i=Bb (v.obj.getD i zM).2 (d+1):=by rw[e0,N,h9];rfl
           by_cases hc:Bb (v.obj.getD i zM).2 (d+1)=0
           ·rw[hc] at hr
            (have z:=Za Y<|Za e9<|Za @Aj<|Za b4<|Za w1<|Za w3 h9;push_cast[z]<;>repeat' (first|refine Zc U ?_|refine Zc (hr ..) ?_|exact Zo|apply Za)<;>push_cast[z])<;>try omega
            refine⟨i+1,⟨C,a4 (by rw[V];exact hc)⟩,Om,?_⟩;apply Zw<;>push_cast;all_goals first|exact w2|skip
           ·rw[V] at O;have b3:(Bb (v.obj.getD i zM).2 (d+1) !=0)=true:=by simpa using hc
            rw[O hc];generalize Bb (v.obj.getD i zM).2 (d+1)=c at*
            (have z:=Za Y<|Za e9<|Za @Aj<|Za b4<|Za w1<|Za w3<|Za b3 h9;push_cast[z]<;>repeat' (first|refine Zc U ?_|refine Zc (hr ..) ?_|exact Zo|apply Za)<;>push_cast[z])<;>try omega
       ·have C:i=v.obj.length:=by simp at Z;omega
        subst C;rw[Mf h2]
        (push_cast<;>repeat' (first|exact Zp|apply Za)<;>push_cast)
     ·rw[if_neg k6];have e6:(v.kind==6)=false:=by simpa using k6
      refine Zf [0] ?_
      (have z:=Za b1<|Za e4<|Za e5 e6;push_cast[z]<;>repeat' (first|refine Zc M ?_|exact Zo|apply Za)<;>push_cast[z])
termination_by SizeOf.sizeOf v
def XX(v:GV)(hs:Sm v):A0 prog 86 [.agg (A7 v)] (iD (Bb v 1)):=by
 have h:A0 prog 140 [.agg (A7 v),iD 1] (iD (Bb v 1)):=c_vmay v 1 Om hs;rw[A3] at h|-;refine Zf [0] ?_
 (have z:=trivial;push_cast<;>repeat' (first|refine Zc h ?_|apply Za)<;>push_cast)
def Nb{l:List GV}(h:i<l.length):Cf (l.take (i+1))=max (Cf (l.take i)) (C9 (l.getD i zV)):=by
 induction l generalizing i with
 |nil=>simp at h
 |cons x l C=>
  cases i with
  |zero=>simp [Cf]
  |succ i=>
   have:=C (i:=i) (by simpa using h);simp only[A3i,Cf,A3t,this];omega
def Q6{l:List GV}{x:GV}(h:x ∈ l):C9 x<=Cf l:=by
 induction l with
 |nil=>cases h
 |cons y l C=>
  simp only[Cf];rcases A2s.1 h with rfl|h
  ·omega
  ·have:=C h;omega
def VK(h:i<l.length):Du (l.take (i+1))=max (Du (l.take i)) (C9 (l.getD i zM).2):=by
 induction l generalizing i with
 |nil=>simp at h
 |cons x l C=>
  obtain⟨k,v⟩:=x;cases i with
  |zero=>simp [Du]
  |succ i=>
   have:=C (i:=i) (by simpa using h);simp only[A3i,Du,A3t,this];omega
def XQ{x:Baa×GV}(h:x ∈ l):C9 x.2<=Du l:=by
 induction l with
 |nil=>cases h
 |cons y l C=>
  obtain⟨k,v⟩:=y;simp only[Du];rcases A2s.1 h with rfl|h
  ·simp only;omega
  ·have:=C h;omega
def Q7:∀l:List (Baa×GV),Du l=Cf (l.map (·.2))
 |[]=>rfl
 |(k,v)::l=>by simp only[Du,A2m,Cf,Q7 l]
mutual
def Lx:∀(v:GV) (d:Nat),Bb v d=0->C9 v+d<=65
 |.mk k b i s l o,d,h=>by
  obtain⟨U,V,Y,N,O⟩:=EK h;rw[JD];change(if k=5 then 1+Cf l else if k=6 then 1+Du o else 1)+d<=65;by_cases C:k=5
  ·have h1:=RJ l (d+1) (N C) Om;rw[if_pos C];omega
  ·rw[if_neg C];by_cases M:k=6
   ·have h1:=RK none o (d+1) (O M) Om;rw[if_pos M];omega
   ·rw[if_neg M];omega
def RJ:∀(l:List GV) (d:Nat),CR l d=0->d<=65->Cf l+d<=65
 |[],d,h,hd=>by simp only[Cf];omega
 |v::l,d,h,hd=>by
  simp only[CR] at h;split at h
  ·rename_i h1;exact absurd h h1
  ·rename_i h1;have h2:=Lx v d (by simpa using h1);have C:=RJ l d h hd;simp only[Cf];omega
def RK:∀(p:Option Baa) (l:List (Baa×GV)) (d:Nat),Ey p l d=0->d<=65->Du l+d<=65
 |_,[],d,h,hd=>by simp only[Du];omega
 |p,(k,v)::l,d,h,hd=>by
  rw[DZ] at h;split at h
  ·rename_i h1;exact absurd h h1
  ·rename_i h1;have h2:=Lx v d (GY (by simpa using h1)).2;have C:=RK (some k) l d h hd;simp only[Du];omega
end
def max_if(a b:Nat):(if(b:Int)>(a:Int) then(b:Int) else(a:Int))=((max a b:Nat):Int):=by split<;>omega
def c_Deep(v:GV)(hs:Sm v)(hb:C9 v<=65):A0 prog 87 [.agg (A7 v)] (iD (C9 v:Nat)):=by
 have hl:=hs.list_le;have ho:=hs.obj_le;have N:∀x,SizeOf.sizeOf x<SizeOf.sizeOf v->Sm x->C9 x<=65->A0 prog 87 [.agg (A7 x)] (iD (C9 x:Nat)):=λx hx h2 h=>c_Deep x h2 h;rw[JD] at hb|-;by_cases O:v.kind=5
 ·rw[if_pos O] at hb|-;have V:∀i,i<v.list.length->A0 prog 87 [.agg (A7 (v.list.getD i zV))] (iD (C9 (v.list.getD i zV):Nat)):=λi hi=>N _ (GV.list_lt (Ae hi)) (hs.list _ (Ae hi)) (by have:=Q6 (Ae (d:=zV) hi);omega);rw[A3,O];clear N;refine Zf [0] ?_
  (push_cast<;>repeat' apply Za<;>push_cast)
  refine Zl (λi=>i<=v.list.length) (λi=>⟨[(15,iD i),(14,iD v.list.length),(13,.slice (v.list.map A7) false),(3,iD (Cf (v.list.take i):Nat))],[],400⟩) (λi=>v.list.length-i) 0 Sq' ?_ λi hi=>?_
  ·apply Zw<;>push_cast;all_goals simp[Cf]
  ·push_cast;refine Ad (λM=>?_) (λM=>?_)
   ·have C:i<v.list.length:=by simpa using M
    have Y:=DU C;have hr:=V i C;have Z:=Nb C
    (have z:=Y;push_cast[z]<;>repeat' (first|refine Zc (hr ..) ?_|apply Za)<;>push_cast[z])<;>try omega
    refine⟨i+1,C,Om,?_⟩;apply Zw<;>push_cast;rw[Z];exact⟨A9 Om Om,max_if _ _⟩
   ·have C:i=v.list.length:=by simp at M;omega
    subst C;rw[A2I]
    (push_cast<;>repeat' apply Za<;>push_cast)
    exact A9 Om Om
 ·rw[if_neg O] at hb|-;have e5:(v.kind==5)=false:=by simpa using O
  by_cases U:v.kind=6
  ·rw[if_pos U] at hb|-;have V:∀i,i<v.obj.length->A0 prog 87 [.agg (A7 (v.obj.getD i zM).2)] (iD (C9 (v.obj.getD i zM).2:Nat)):=λi hi=>N _ (GV.obj_lt (Ae hi)) (hs.obj _ (Ae hi)) (by have:=XQ (Ae (d:=zM) hi);omega);rw[A3,U];clear N;refine Zf [0] ?_
   (push_cast<;>repeat' apply Za)
   refine Zl (λi=>i<=v.obj.length) (λi=>⟨[(29,iD i),(28,iD v.obj.length),(27,.slice (v.obj.map A8) false),(3,iD (Du (v.obj.take i):Nat))],[],400⟩) (λi=>v.obj.length-i) 0 Sq' ?_ λi hi=>?_
   ·apply Zw<;>push_cast;all_goals simp[Du]
   ·push_cast;refine Ad (λM=>?_) (λM=>?_)
    ·have C:i<v.obj.length:=by simpa using M
     have Y:=Bc C;have hr:=V i C;have Z:=VK C
     (have z:=Za Y @Aj;push_cast[z]<;>repeat' (first|refine Zc (hr ..) ?_|apply Za)<;>push_cast[z])<;>try omega
     refine⟨i+1,C,Om,?_⟩;apply Zw<;>push_cast;rw[Z];exact⟨A9 Om Om,max_if _ _⟩
    ·have C:i=v.obj.length:=by simp at M;omega
     subst C;rw[A2I]
     (push_cast<;>repeat' apply Za)
     exact A9 Om Om
  ·rw[if_neg U];have e6:(v.kind==6)=false:=by simpa using U
   rw[A3];clear N;refine Zf [0] ?_
   (have z:=Za e5 e6;push_cast[z]<;>repeat' apply Za)
   all_goals rfl
termination_by SizeOf.sizeOf v
abbrev wrB(n:Nat):Blk:=.rows [[bD false,.val (.pointer none),.slice [] true,iD n]] 4
def Ft:List Baa->Nat
 |[]=>0
 |s::l=>s.size+Ft l
def Jd:∀(a b:List Baa),Ft (a++b)=Ft a+Ft b
 |[],b=>by simp[Ft]
 |x::a,b=>by simp only[A2d,Ft,Jd a b];omega
def ZZ{l:List Baa}(h:i<l.length):Ft (l.take (i+1))=Ft (l.take i)+(l.getD i bea).size/\Ft (l.take (i+1))<=Ft l:=by
 have e:l.getD i bea=l[i]:=by rw[A29,A2f h];rfl
 have h1:Ft (l.take (i+1))=Ft (l.take i)+(l.getD i bea).size:=by
  rw[A2J h,e,Jd];simp[Ft]
 refine⟨h1,?_⟩;have h2:Ft l=Ft (l.take (i+1))+Ft (l.drop (i+1)):=by
  rw[<-Jd,A2O]
 omega
def c_join(parts:List Baa)(n:Nat)(hn:n+Ft parts<=4611686018427387904)(hl:parts.length<=2):
  A4 prog 182 [.ref 1 0 0 4,.sref 3 0 parts.length parts.length 1] [(1,wrB n),(3,.rows (parts.map λs=>[sD s]) 1)] (.tup []) [(1,wrB (n+Ft parts))]:=by
 have C:Aa (parts.map λs=>[D.val (.string s)])=true:=Aw (λ_=>rfl) parts;refine Zd [] ?_
 (have z:=C;push_cast[z]<;>repeat' apply Za)<;>try omega
 refine Zl (λi=>i<=parts.length) (λi=>⟨[(8,iD i),(7,iD parts.length),(6,.sref 3 0 parts.length parts.length 1),(0,.ref 1 0 0 4)],[(1,wrB (n+Ft (parts.take i))),(3,.rows (parts.map λs=>[sD s]) 1)],100⟩) (λi=>parts.length-i) 0 Sq' ?_ λi hi=>?_
 ·apply Zw<;>push_cast [C];all_goals try simp[Ft]
 ·push_cast[C];refine Ad (λN=>?_) (λN=>?_)
  ·have M:i<parts.length:=by simpa using N
   have O:=DT (f:=λs:Baa=>[D.val (.string s)]) bea M;obtain⟨U,V⟩:=ZZ M
   (have z:=Za O C;push_cast[z]<;>repeat' apply Za)<;>try omega
   refine⟨i+1,M,Om,?_⟩;apply Zw<;>push_cast [C]
   ·exact A9 Om Om
   ·rw[U,A3m,<-Int.add_assoc];exact A9 Om Om
  ·have M:i=parts.length:=by simp at N;omega
   subst M;rw[A2I]
   (have z:=C;push_cast[z]<;>repeat' apply Za)
   apply Zw<;>push_cast [C]
def K6(i:Nat)(hi:i<=1048576):A0 prog 189 [iD i] (sD (if i=0 then⟨#[]⟩ else⟨#[44]⟩)):=by
 by_cases h:i=0
 ·subst h;refine Zf [] ?_
  (push_cast<;>repeat' apply Za)
  all_goals rfl
 ·have b1:((i:Int)==0)=false:=by simpa using h
  rw[if_neg h];refine Zf [] ?_
  (have z:=b1;push_cast[z]<;>repeat' apply Za)
  all_goals rfl
def EZ(s:Baa)(n:Nat)(h:n+s.size<=4611686018427387904):A4 prog 182 [.ref 1 0 0 4,.sref 3 0 1 1 1] [(1,wrB n),(3,.rows [[sD s]] 1)] (.tup []) [(1,wrB (n+s.size))]:=by
 have:=c_join [s] n (by simpa[Ft] using h) (Nat.le_succ 1);simpa[Ft] using this
def c_join2(s t:Baa)(n:Nat)(h:n+(s.size+t.size)<=4611686018427387904):A4 prog 182 [.ref 1 0 0 4,.sref 3 0 2 2 1] [(1,wrB n),(3,.rows [[sD s],[sD t]] 1)] (.tup []) [(1,wrB (n+(s.size+t.size)))]:=by
 have:=c_join [s,t] n (by simpa[Ft] using h) (A2e 2);simpa[Ft] using this
def Wr(f:FuncId)(caps:List D)(v:GV):Prop:=∀n,n+CN v<=2305843009213693952->A4 prog f (.ref 1 0 0 4::caps) [(1,wrB n)] (.tup []) [(1,wrB (n+CN v))]
def J0(v:GV):Prop:=
 (∃f,A0 prog 113 [.agg (A7 v)] (.func (.func f) [] [.ptr (A7 v) 0])/\Wr f [.ptr (A7 v) 0] v)\/
 (A0 prog 113 [.agg (A7 v)] (.func (.func 192) [] [])/\Wr 192 [] v)
def own_null(v:GV)(C:v.kind=1):J0 v:=by
 refine .inr ⟨?_,λn hn=>?_⟩
 ·rw[A3,C];refine Zf [0] ?_
  (push_cast<;>repeat' apply Za)
 ·have e:CN v=4:=by rw[Ep,if_pos C]
  rw[e] at hn|-;have M:=EZ ⟨#[110,117,108,108]⟩ n (by show n+4<=_;omega);change A4 _ _ _ _ _ [(1,wrB (n+4))] at M;refine Zd [] ?_
  (have z:=trivial;push_cast<;>repeat' (first|refine Zs [(1,1),(3,16)] M ?_|apply Za)<;>push_cast)
  apply Zw<;>push_cast
def S4{f:FuncId}{caps:List D}{v:GV}(s:Baa)(e:CN v=s.size)(h:∀n,n+s.size<=2305843009213693952->A4 prog f (.ref 1 0 0 4::caps) [(1,wrB n)] (.tup []) [(1,wrB (n+s.size))]):Wr f caps v:=by
 intro n hn;rw[e] at hn|-;exact h n hn
def own_bool(v:GV)(C:v.kind=2):J0 v:=by
 refine .inl ⟨181,?_,?_⟩
 ·rw[A3,C];refine Zf [0] ?_
  (push_cast<;>repeat' apply Za)
 ·have hf:=Tt v.b;have e:CN v=(⟨(Lib.formatBool v.b).toArray⟩:Baa).size:=by
   rw[Ep,if_neg Om,if_pos C];cases v.b<;>rfl
  refine S4 _ e λn hn=>?_;generalize(⟨(Lib.formatBool v.b).toArray⟩:Baa)=s at*;have M:=EZ s n Om;rw[A3,C];refine Zd [] ?_
  (have z:=trivial;push_cast<;>repeat' (first|refine Zc (hf ..) ?_|refine Zs [(1,1),(3,40)] M ?_|apply Za)<;>push_cast)
  apply Zw<;>push_cast
def own_int(v:GV)(hs:Sm v)(C:v.kind=3):J0 v:=by
 refine .inl ⟨184,?_,?_⟩
 ·rw[A3,C];refine Zf [0] ?_
  (push_cast<;>repeat' apply Za)
 ·have hf:=Nh v.n hs.int.1 hs.int.2;have e:CN v=(⟨(Lib.itoa v.n).toArray⟩:Baa).size:=by
   rw[Ep,if_neg Om,if_neg Om,if_pos C];rfl
  refine S4 _ e λn hn=>?_;generalize(⟨(Lib.itoa v.n).toArray⟩:Baa)=s at*;have M:=EZ s n Om;rw[A3,C];refine Zd [] ?_
  (have z:=trivial;push_cast<;>repeat' (first|refine Zc (hf ..) ?_|refine Zs [(1,1),(3,40)] M ?_|apply Za)<;>push_cast)
  apply Zw<;>push_cast
def Qv:Prop:=∀s:Baa,s.size<=1048576->∃q:Baa,q.size=Nl s/\A0 prog 187 [sD s] (sD q)
def own_text(M:Qv)(v:GV)(hs:Sm v)(C:v.kind=4):J0 v:=by
 refine .inl ⟨186,?_,?_⟩
 ·rw[A3,C];refine Zf [0] ?_
  (push_cast<;>repeat' apply Za)
 ·obtain⟨s,N,hf⟩:=M v.s hs.text;have e:CN v=s.size:=by
   rw[Ep,if_neg Om,if_neg Om,if_neg Om,if_pos C,N]
  refine S4 _ e λn hn=>?_;have O:=EZ s n Om;rw[A3,C];refine Zd [] ?_
  (have z:=trivial;push_cast<;>repeat' (first|refine Zc (hf ..) ?_|refine Zs [(1,1),(3,40)] O ?_|apply Za)<;>push_cast)
  apply Zw<;>push_cast
def KI{l:List GV}(h:i<l.length):BV (l.take (i+1))=BV (l.take i)+CN (l[i]'h)/\BV (l.take (i+1))<=BV l:=by
 have C:∀a b:List GV,BV (a++b)=BV a+BV b:=λa b=>by
  induction a with
  |nil=>simp [BV]
  |cons x a M=>simp only[A2d,BV,M];omega
 have h1:BV (l.take (i+1))=BV (l.take i)+CN l[i]:=by
  rw[A2J h,C];simp[BV]
 refine⟨h1,?_⟩;have h2:BV l=BV (l.take (i+1))+BV (l.drop (i+1)):=by
  rw[<-C,A2O]
 omega
def own_list(v:GV)(hs:Sm v)(N:v.kind=5)(ih:∀x ∈ v.list,J0 x):J0 v:=by
 refine .inl ⟨188,?_,λn hn=>?_⟩
 ·rw[A3,N];refine Zf [0] ?_
  (push_cast<;>repeat' apply Za<;>push_cast)
 ·have e:CN v=2+(v.list.length-1)+BV v.list:=by
   rw[Ep,if_neg Om,if_neg Om,if_neg Om,if_neg Om,if_pos N]
  rw[e] at hn|-;have a1:=hs.list_le;rw[A3,N];generalize v.list=l at*;have M:=Aw (f:=A7) Bn l;have Z:=EZ ⟨#[91]⟩ n (by show n+1<=_;omega);change A4 _ _ _ _ _ [(1,wrB (n+1))] at Z;refine Zd [] ?_
  (have z:=M;push_cast[z]<;>repeat' (first|refine Zs [(1,1),(3,16)] Z ?_|apply Za)<;>push_cast[z])<;>try omega
  refine Zl (λi=>i<=l.length) (λi=>⟨[(11,iD i),(10,iD l.length),(9,.slice (l.map A7) false),(0,.ref 1 0 0 4)],[(1,wrB (n+1+(i-1)+BV (l.take i)))],400⟩) (λi=>l.length-i) 0 Sq' ?_ λi hi=>?_
  ·apply Zw<;>push_cast;all_goals try simp[BV]
  ·push_cast;refine Ad (λO=>?_) (λO=>?_)
   ·have C:i<l.length:=by simpa using O
    have e1:=DU C;obtain⟨U,t2⟩:=KI C;have hx:=ih _ (Ae (d:=zV) C);have ex:l.getD i zV=l[i]:=by rw[A29,A2f C];rfl
    rw[<-ex] at U;generalize l.getD i zV=x at*;have hB:=K6 i Om;have w1:IntKind.i64.wrap (↑i+1)=↑i+1:=A9 Om Om;have V:=EZ (if i=0 then⟨#[]⟩ else⟨#[44]⟩) (n+1+(i-1)+BV (l.take i)) (by
     split
     ·show _+0<=_;omega
     ·show _+1<=_;omega)
    have hz:n+1+(i-1)+BV (l.take i)+(if i=0 then(⟨#[]⟩:Baa) else⟨#[44]⟩).size=n+1+i+BV (l.take i):=by
     split
     ·show _+0=_;omega
     ·show _+1=_;omega
    rw[hz] at V;generalize(if i=0 then(⟨#[]⟩:Baa) else⟨#[44]⟩)=sep at*;generalize n+1+(i-1)+BV (l.take i)=m1 at*;rcases hx with⟨f,h1,h2⟩|⟨h1,h2⟩
    ·have Y:=h2 (n+1+i+BV (l.take i)) Om
     (have z:=Za e1<|Za M w1;push_cast[z]<;>repeat' (first|refine Zc hB ?_|refine Zs [(1,1),(3,880)] V ?_|refine Zc h1 ?_|refine Zt [(1,1)] Y ?_|apply Za)<;>push_cast[z])<;>try omega
     refine⟨i+1,C,Om,?_⟩;apply Zw<;>push_cast;rw[U];push_cast;omega
    ·have Y:=h2 (n+1+i+BV (l.take i)) Om
     (have z:=Za e1<|Za M w1;push_cast[z]<;>repeat' (first|refine Zc hB ?_|refine Zs [(1,1),(3,880)] V ?_|refine Zc h1 ?_|refine Zt [(1,1)] Y ?_|apply Za)<;>push_cast[z])<;>try omega
     refine⟨i+1,C,Om,?_⟩;apply Zw<;>push_cast;rw[U];push_cast;omega
   ·have C:i=l.length:=by simp at O;omega
    subst C;rw[A2I];have a0:=EZ ⟨#[93]⟩ (n+1+(l.length-1)+BV l) (by show _+1<=_;omega);change A4 _ _ _ _ _ [(1,wrB (n+1+(l.length-1)+BV l+1))] at a0
    (have z:=M;push_cast[z]<;>repeat' (first|refine Zs [(1,1),(3,816)] a0 ?_|apply Za)<;>push_cast[z])<;>try omega
    apply Zw<;>push_cast;omega
def RX(o:List (Baa×GV)):A0 prog 191 [.slice (o.map A8) false] (.func (.func 272) [] [.ptr [.slice (o.map A8) false] 0]):=by
 refine Zf [0] ?_
 (push_cast<;>repeat' apply Za)
def KJ(h:i<l.length):BO (l.take (i+1))=BO (l.take i)+(Nl (l[i]'h).1+1+CN (l[i]'h).2)/\BO (l.take (i+1))<=BO l:=by
 have C:∀a b:List (Baa×GV),BO (a++b)=BO a+BO b:=λa b=>by
  induction a with
  |nil=>simp [BO]
  |cons x a M=>simp only[A2d,BO,M];omega
 have h1:BO (l.take (i+1))=BO (l.take i)+(Nl (l[i]'h).1+1+CN (l[i]'h).2):=by
  rw[A2J h,C];simp[BO]
 refine⟨h1,?_⟩;have h2:BO l=BO (l.take (i+1))+BO (l.drop (i+1)):=by
  rw[<-C,A2O]
 omega
def memH(a c:Code)(m:Nat):Hp:=[(7,.loop [(2,.ptr [.ref 1 0 0 4] 0)] 23 .ready none [11,12] a c),(1,wrB m)]
def Y5{a c:Code}(hQ:Qv)(o:List (Baa×GV))(a3:o.length<=1048576)(a1:∀x ∈ o,x.1.size<=1048576/\J0 x.2)(M:Nat)(hm:M+(o.length-1)+BO o<=2305843009213693951)
  (hY:∀(s:Baa) (x:GV) (m:Nat),J0 x->m+(s.size+1)+CN x<=2305843009213693951->∀cs f,(cs=[.ptr (A7 x) 0]\/(cs=[]/\f=192))->Wr f cs x->DG prog 7 [sD s,.func (.func f) [] cs] (memH a c m) (bD true) (memH a c (m+(s.size+1)+CN x))):
  A4 prog 272 [.yld 7,.ptr [.slice (o.map A8) false] 0] (memH a c M) (.tup []) (memH a c (M+(o.length-1)+BO o)):=by
 have N:=Aw (f:=A8) Ap o;unfold memH at*;refine Zd [] ?_
 (have z:=N;push_cast[z]<;>repeat' apply Za)
 refine Zl (λi=>i<=o.length) (λi=>⟨[(7,iD i),(6,iD o.length),(5,.slice (o.map A8) false),(0,.yld 7)],[(7,.loop [(2,.ptr [.ref 1 0 0 4] 0)] 23 .ready none [11,12] a c),(1,wrB (M+(i-1)+BO (o.take i)))],400⟩) (λi=>o.length-i) 0 Sq' ?_ λi hi=>?_
 ·apply Zw<;>push_cast;all_goals try simp[BO]
 ·push_cast;refine Ad (λO=>?_) (λO=>?_)
  ·have C:i<o.length:=by simpa using O
   have Z:=Bc C;obtain⟨U,t2⟩:=KJ C;obtain⟨a2,hx⟩:=a1 _ (Ae (d:=zM) C);have ex:o.getD i zM=o[i]:=by rw[A29,A2f C];rfl
   rw[<-ex] at U;generalize o.getD i zM=x at*;obtain⟨k,x⟩:=x;obtain⟨q,hq,a0⟩:=hQ k a2;simp only at*;have hB:=K6 i Om;have w1:IntKind.i64.wrap (↑i+1)=↑i+1:=A9 Om Om;have hz:M+(i-1)+BO (o.take i)+(if i=0 then(⟨#[]⟩:Baa) else⟨#[44]⟩).size=M+i+BO (o.take i):=by
    split
    ·show _+0=_;omega
    ·show _+1=_;omega
   generalize(if i=0 then(⟨#[]⟩:Baa) else⟨#[44]⟩)=sep at*;generalize a4:M+(i-1)+BO (o.take i)=m1 at*;have V:=hY (sep++q) x m1 hx (by rw[A2R,hq];omega);rw[A2R,hq] at V;rcases hx with⟨f,h1,h2⟩|⟨h1,h2⟩
   ·have Y:=V _ f (.inl rfl) h2
    (have z:=Za Z<|Za N<|Za w1 @Aj;push_cast[z]<;>repeat' (first|refine Zc hB ?_|refine Zc (a0 ..) ?_|refine Zc h1 ?_|exact Zo|with_reducible apply Za|(with_reducible show A5 _ _ _ _ _ _ _ _;refine A5.yield 7 (C6 [(7,7),(1,1)]) rfl ?_ (by(try push_cast[z]);exact Y ..) ?_ Gda ?_ ?_ ?_ ?_;(· push_cast[z]);(· push_cast[z]<;>(with_unfolding_all exact Ag _));(· push_cast[z]<;>(with_unfolding_all exact Ag _));(· push_cast[z]<;>(with_unfolding_all exact Ag _));(· push_cast[z]<;>(with_unfolding_all exact Ag _)))|fail)<;>push_cast[z])<;>try omega
    refine⟨i+1,C,Om,?_⟩;apply Zw<;>push_cast;rw[U];push_cast;omega
   ·have Y:=V _ _ (.inr ⟨rfl,rfl⟩) h2
    (have z:=Za Z<|Za N<|Za w1 @Aj;push_cast[z]<;>repeat' (first|refine Zc hB ?_|refine Zc (a0 ..) ?_|refine Zc h1 ?_|exact Zo|with_reducible apply Za|(with_reducible show A5 _ _ _ _ _ _ _ _;refine A5.yield 7 (C6 [(7,7),(1,1)]) rfl ?_ (by(try push_cast[z]);exact Y ..) ?_ Gda ?_ ?_ ?_ ?_;(· push_cast[z]);(· push_cast[z]<;>(with_unfolding_all exact Ag _));(· push_cast[z]<;>(with_unfolding_all exact Ag _));(· push_cast[z]<;>(with_unfolding_all exact Ag _));(· push_cast[z]<;>(with_unfolding_all exact Ag _)))|fail)<;>push_cast[z])<;>try omega
    refine⟨i+1,C,Om,?_⟩;apply Zw<;>push_cast;rw[U];push_cast;omega
  ·have C:i=o.length:=by simp at O;omega
   subst C;rw[A2I]
   (have z:=N;push_cast[z]<;>repeat' apply Za)<;>try omega
   apply Zw<;>push_cast
def own_obj(Z:Qv)(v:GV)(hs:Sm v)(C:v.kind=6)(ih:∀x ∈ v.obj,J0 x.2):J0 v:=by
 refine .inl ⟨190,?_,λn hn=>?_⟩
 ·rw[A3,C];refine Zf [0] ?_
  (push_cast<;>repeat' apply Za<;>push_cast)
 ·have e:CN v=2+(v.obj.length-1)+BO v.obj:=by
   rw[Ep,if_neg Om,if_neg Om,if_neg Om,if_neg Om,if_neg Om,if_pos C]
  rw[e] at hn|-;have a0:=hs.obj_le;have a1:∀x ∈ v.obj,x.1.size<=1048576/\J0 x.2:=λx M=>⟨hs.key x M,ih x M⟩
  rw[A3,C];generalize v.obj=o at*;have O:=Aw (f:=A8) Ap o;have U:=EZ ⟨#[123]⟩ n (by show n+1<=_;omega);change A4 _ _ _ _ _ [(1,wrB (n+1))] at U;have hM:=RX o;refine A4.of_awpW func190 rfl ntmps190 Kq' Sq' (congrArg Array.toList results190) ?_;refine Bh.seqV [8] mixed Kq' ?_
  (push_cast<;>repeat' apply Za<;>push_cast)
  refine Bh.seqV [] mixed Kq' ?_
  (have z:=O;push_cast[z]<;>repeat' (first|refine Zs [(1,1),(3,24)] U ?_|apply Za)<;>push_cast[z])
  refine Bh.seq ?_;refine Bh.seqV [] mixed Kq' ?_
  (have z:=O;push_cast[z]<;>repeat' (first|refine Zc hM ?_|apply Za)<;>push_cast[z])
  refine Bh.block ?_;refine Bh.range (y:=7) (C6 [(7,64),(1,1)]) (env:=[(2,.ptr [.ref 1 0 0 4] 0)]) (ds:=[.yld 7,.ptr [.slice (o.map A8) false] 0]) rfl (Y5 Z o a0 a1 (n+1) Om ?hY) rfl rfl ?_ ?_ ?_ ?_ ?_ ?_ ?_
  case hY=>
   intro s x m M hb cs f a2 hw;have N:=c_join2 s ⟨#[58]⟩ m (by show m+(s.size+1)<=_;omega);change A4 _ _ _ _ _ [(1,wrB (m+(s.size+1)))] at N;have V:=hw (m+(s.size+1)) Om;unfold memH;rcases a2 with rfl|⟨rfl,rfl⟩
   ·refine DG.of_awp Dq' rfl Dq' ?_;simp only[A3n,A3o,A33,A3q,A2h,A2d];refine Zy ?_
    (have z:=@DS.eq_1;push_cast[z]<;>repeat' apply Za<;>push_cast[z])
    refine Zy ?_
    (have z:=@DR.eq_1;push_cast[z]<;>repeat' (first|refine Zs [(1,1),(3,40)] N ?_|refine Zt [(1,1)] V ?_|apply Za)<;>push_cast[z])
    apply Zw<;>push_cast
   ·refine DG.of_awp Dq' rfl Dq' ?_;simp only[A3n,A3o,A33,A3q,A2h,A2d];refine Zy ?_
    (have z:=@DS.eq_1;push_cast[z]<;>repeat' apply Za)
    refine Zy ?_
    (have z:=@DR.eq_1;push_cast[z]<;>repeat' (first|refine Zs [(1,1),(3,40)] N ?_|refine Zt [(1,1)] V ?_|apply Za)<;>push_cast[z])
    apply Zw<;>push_cast
  ·push_cast
  ·push_cast
  ·push_cast[Cs]
  ·push_cast[Bq]
  ·push_cast
  ·push_cast
  ·have Y:=EZ ⟨#[125]⟩ (n+1+(o.length-1)+BO o) (by show _+1<=_;omega);change A4 _ _ _ _ _ [(1,wrB (n+1+(o.length-1)+BO o+1))] at Y;rw[show n+(2+(o.length-1)+BO o)=n+1+(o.length-1)+BO o+1 by omega];generalize n+1+(o.length-1)+BO o=m at*;push_cast;refine Bh.vc [] mixed Kq' ?_
   (have z:=trivial;push_cast<;>repeat' (first|refine Zs [(1,1),(3,88)] Y ?_|apply Za)<;>push_cast)
   apply Zw<;>push_cast
def Xj(M:Qv)(v:GV)(hs:Sm v):J0 v:=by
 by_cases N:v.kind=2
 ·exact own_bool v N
 by_cases O:v.kind=3
 ·exact own_int v hs O
 by_cases U:v.kind=4
 ·exact own_text M v hs U
 by_cases V:v.kind=5
 ·exact own_list v hs V λx C=>Xj M x (hs.list x C)
 by_cases Y:v.kind=6
 ·exact own_obj M v hs Y λx C=>Xj M x.2 (hs.obj x C)
 by_cases Z:v.kind=1
 ·exact own_null v Z
 ·refine .inr ⟨?_,?_⟩
  ·have e2:(v.kind==2)=false:=by simpa using N
   have e3:(v.kind==3)=false:=by simpa using O
   have e4:(v.kind==4)=false:=by simpa using U
   have e5:(v.kind==5)=false:=by simpa using V
   have e6:(v.kind==6)=false:=by simpa using Y
   rw[A3];refine Zf [0] ?_
   (have z:=Za e2<|Za e3<|Za e4<|Za e5 e6;push_cast[z]<;>repeat' (first|apply Zi<;>intro _|exact Zo|with_reducible apply Za)<;>push_cast[z])
  ·refine S4 ⟨#[110,117,108,108]⟩ ?_ λn hn=>?_
   ·rw[Ep,if_neg Z,if_neg N,if_neg O,if_neg U,if_neg V,if_neg Y];rfl
   ·have hJ:=EZ ⟨#[110,117,108,108]⟩ n Om;refine Zd [] ?_
    (have z:=trivial;push_cast<;>repeat' (first|apply Zi<;>intro _|refine Zs [(1,1),(3,16)] hJ ?_|exact Zp|with_reducible apply Za)<;>push_cast)
    apply Zw<;>push_cast
termination_by SizeOf.sizeOf v
decreasing_by
 ·exact GV.list_lt C
 ·exact GV.obj_lt C
def c_bytes(M:Qv)(v:GV)(hs:Sm v)(hl:CN v<=2305843009213693951):A0 prog 88 [.agg (A7 v)] (iD (CN v)):=by
 have N:=Xj M v hs;rcases N with⟨f,h1,h2⟩|⟨h1,h2⟩;all_goals
  have C:=h2 0 Om;first|rw [A3 v] at h1 C|- |rw [A3 v] at h1|-
  refine Zf [0] ?_
  (have z:=trivial;push_cast<;>repeat' (first|refine Zc h1 ?_|refine Zt [(1,16)] C ?_|apply Za)<;>push_cast)
  all_goals skip
def c_Fits(U:Qv)(v:GV)(hs:Sm v)(V:wtV v<=2097152):A0 prog 50 [.agg (A7 v)] (iD (Ao v)):=by
 have C:=XX v hs;unfold Ao;by_cases h1:Bb v 1=0
 ·rw[if_neg (by simpa using h1)];rw[h1] at C;have Y:=Lx v 1 h1;have M:=c_Deep v hs Om;have Z:=SR v hs;have N:=c_bytes U v hs Om;rw[A3 v] at C M N|-;by_cases h2:16<C9 v
  ·rw[if_pos h2];have b1:decide ((16:Int)<C9 v)=true:=Dt';refine Zf [0] ?_
   (have z:=b1;push_cast[z]<;>repeat' (first|refine Zc C ?_|refine Zc M ?_|apply Za)<;>push_cast[z])
  ·rw[if_neg h2];have b1:decide ((16:Int)<C9 v)=false:=Df';by_cases O:1024<CN v
   ·rw[if_pos O];have b2:decide ((1024:Int)<CN v)=true:=Dt';refine Zf [0] ?_
    (have z:=Za b1 b2;push_cast[z]<;>repeat' (first|refine Zc C ?_|refine Zc M ?_|refine Zc N ?_|apply Za)<;>push_cast[z])
   ·rw[if_neg O];have b2:decide ((1024:Int)<CN v)=false:=Df';refine Zf [0] ?_
    (have z:=Za b1 b2;push_cast[z]<;>repeat' (first|refine Zc C ?_|refine Zc M ?_|refine Zc N ?_|apply Za)<;>push_cast[z])
 ·rw[if_pos h1];have b1:(Bb v 1 !=0)=true:=by simpa using h1
  rw[A3 v] at C|-;generalize Bb v 1=c at*;refine Zf [0] ?_
  (have z:=b1;push_cast[z]<;>repeat' (first|refine Zc C ?_|apply Za)<;>push_cast[z])
end Go.Ab
namespace Go.Ab
open Go.Proofs Go.Proofs.Tryz Go.RowKit Go.Shelf
variable{P:Program}{i:Nat}{ev:Operand->D}{hp:Nat->Option Blk}{r:D}{X:LLa}{ds:List D}
def GIn.below{w W:World}{I:Nat->Prop}(h:GIn P w I)(hb:Below w.heap.size w W):GIn P W I:=by
 intro g l M;obtain⟨a,T,fz,C⟩:=h g l M;exact⟨a,T,fz,(hb.block g (A2H.1 C).1).trans C⟩
def okP_quo(s:Baa)(hs:s.size<=1048576):okP (.string (Dk s)):=by
 show(Dk s).size<=_;have h:=(L9 s).2;rw[JQ];omega
def ZG(s:Baa)(hs:s.size<=1048576):A0 prog 271 [sD s] (.tup [sD (Dk s),iD (if AK s=true then 0 else 3)]):=
 A0.of_vals (us:=[.string s]) Kq' rfl λw I C M=>⟨.tuple #[.string (Dk s),.int .i64 (if AK s=true then 0 else 3)],λ_=>L5 (okP_quo s hs) (by simp only[okP,DJ,DK];split<;>omega),
  callsIn_wide.1 (w_Quote 0 s hs w (λW hb=>Gd Kq' Kq' (C.below hb)) (Gd Kq' Kq' C))⟩
def quo_ok:Qv:=λs hs=>⟨Dk s,JQ s,by
 have h:=ZG s hs;refine Zf [] ?_
 (have z:=trivial;push_cast<;>repeat' (first|refine Zc h ?_|apply Za)<;>push_cast)⟩
def HG(v:GV)(hs:Sm v)(C:wtV v<=2097152):A0 prog 50 [.agg (A7 v)] (iD (Ao v)):=c_Fits quo_ok v hs C
def byD(b:UInt8):List D:=[.val (.int .u8 (b.toNat:Int))]
def Qp(b:UInt8):byD b=[.val (.int .u8 (b.toNat:Int))]:=rfl
def B9:∀l:Lua,Aa (l.map byD)=true
 |[]=>rfl
 |x::l=>by simp only[A2m,Aa,B9 l];rfl
def LE(l:Lua):∀y ∈ l.map byD,y.length=1:=λy C=>by
 obtain⟨b,_,rfl⟩:=A2p.1 C;rfl
def byD_one(l:Lua):∀y ∈ l.map byD,∀d ∈ y,AV d=true:=λy C d M=>by
 obtain⟨b,_,rfl⟩:=A2p.1 C;cases A2b.1 M;rfl
def A21(b:UInt8):An (byD b)=true:=rfl
def M9{l:Lua}(hi:i<l.length):nr (l.map byD) i=byD (l.getD i 0):=by
 simp[nr,A29,hi]
section
variable{P:Program}{ops:Array Oper}{nx:Nat}{dst:Option Tmp}{T:TypeId}{ps:String}{af:Array Edge}{gd:Option (Nat×Bool)}{l:List Oper}{pos:Nat}{acc:List Eff}{s:St}{K:List Eff->St->Prop}{a b e:TypeId}{x:Operand}
def ZO(P:Program)(a b:TypeId)(d r:D):Prop:=
 ∀(w:World) (I:Nat->Prop) (mu:Nat->Option Value) (v:Value),(∀k,I k->k<w.heap.size)->Rep w I mu d v->
  ∃u w' I',(convert a b v).run P w=.ok u w'/\Rep w' I' mu r u/\(∀k,I k->I' k)/\(∀k,I' k->I k\/w.heap.size<=k)/\(∀k,I' k->k<w'.heap.size)/\Below w.heap.size w w'
def RH{id:Nat}{d:D}(O:ev x=d)(hc:ZO P a b d r):AQ P ⟨dst,.convert a b x,T,ps,af,gd⟩ id ev hp ⟨r,[],[]⟩:=by
 intro w0 M0 I0 fr I mu h ac w a1 C a2 U hb K Q V;have M:=U x (by simp[Op.operands]);rw[O] at M;obtain⟨u,w',I',Y,Z,h1,h2,h3,N⟩:=hc w I mu _ C.lt M;refine CT (w':=w') (v:=u) (by simp only[execOp,A2o,Y,Result.andThen,A2u]) ?_;have a0:Ext I mu w I' mu w':=⟨h1,λ_ _ h=>h,λk hk=>N.block k (C.lt k hk)⟩
 exact V u w' I' mu a0 ((C.below h1 h2 h3 N).less λb hb=>hb.1) Z
def A5.conv{d:D}(hc:ZO P a b d r)(C:DO ops s gd)(M:evO P s.env.get x=d)
  (N:GoS P ops nx l (pos+1) (⟨r,[],[]⟩::acc) (s.app dst ⟨r,[],[]⟩) K):A5 P ops nx (⟨dst,.convert a b x,T,ps,af,gd⟩::l) pos acc s K:=by
 rw[BA];rw[Cu] at N;unfold BT;refine .inl ⟨_,?_,by have:=Go.run N;unfold BT at this;exact this⟩;rcases C with rfl|⟨j,want,t,rfl,ht,C⟩
 ·exact Bz.plain rfl (RH M hc)
 ·exact Bz.guard_true rfl ht C (RH M hc)
end
def conv_sb{a b e:TypeId}{u:TypeDesc}(hs:P.underlying a=some u)(M:P.underlying b=some (.slice e))(N:P.underlying e=some (.int .u8))(s:Baa)(V:s.size<=140737488355328):ZO P a b (sD s) (.slice (s.data.toList.map byD) false):=by
 intro w I mu v O C;have C:=C.val_inv;subst C;have hl:s.data.toList.length=s.size:=rfl;have hm:grownCap w s.size 0 e<=maxLen:=grownCap_le_maxLen w _ _ _ (by simp only[maxLen];omega);have hc:s.size<=grownCap w s.size 0 e:=grownCap_ge w _ _ _;refine⟨_,_,λk=>I k\/k=w.heap.size,Lib.run_convert_string_bytes w a b e s hs M N,?_,λk h=>.inl h,λk h=>h.elim .inl λh=>.inr Om,λk h=>?_,?_⟩
 ·have hr:=Rep.slice (w:=Lib.bytesWorld w e s) (I:=λk=>I k\/k=w.heap.size) (mu:=mu) (s.data.toList.map byD) false (some ⟨w.heap.size,0,none⟩) w.heap.size 0 1 (grownCap w s.size 0 e) (λi j=>.int .u8 ((s.data.toList.getD i 0).toNat:Int))
   (λ_=>⟨rfl,λ_=>.inr rfl⟩) (by rw[A2k,hl];exact hc) (λh=>by cases h) hm (λi hi=>by rw[M9 (by simpa using hi)];rfl)
   (λi j hi U=>by
    obtain rfl:j=0:=Om;have:=Lib.bytesWorld_cell w e s i (by simpa[hl] using hi);simpa using this)
   (λi j hi U=>by
    obtain rfl:j=0:=Om;rw[M9 (by simpa using hi)];have:=(s.data.toList.getD i 0).toNat_lt;exact .val _ (by simp only[okP,DJ,DK];omega))
  rw[A2k,hl] at hr;exact hr
 ·rw[Lib.bytesWorld_size];rcases h with h|h
  ·have:=O k h;omega
  ·omega
 ·exact Lib.below_freeze ((Below.drew (Below.refl _ w)).alloc (A2e _) _) (p:=⟨w.heap.size,_,none⟩) (A2e _) 1
def conv_bs{a b e:TypeId}(hs:P.underlying a=some (.slice e))(M:P.underlying e=some (.int .u8))(N:P.underlying b=some .string)(l:Lua)(t:Bool):ZO P a b (.slice (l.map byD) t) (.val (.string ⟨l.toArray⟩)):=by
 intro w I mu v Z O;refine⟨.string ⟨l.toArray⟩,w,I,?_,?_,λk h=>h,λk h=>.inl h,Z,Below.refl _ _⟩
 ·cases O with
  |slice es tight A k o sz cap u U hc ht hm V Y h=>
   simp only[A2k] at*;cases l with
   |nil=>
    cases A with
    |none=>exact run_convert_bytes_nil w _ _ hs M _ _ _ N
    |some A=>exact run_convert_bytes_back w a b e A cap [] hs M N (λj C=>by simp at C)
   |cons x l=>
    obtain⟨a0,_⟩:=U Sq';subst a0;refine run_convert_bytes_back w a b e ⟨k,o,none⟩ cap (x::l) hs M N λj C=>?_;have a1:sz=1:=by have:=V j C;rw[M9 C] at this;exact this.symm
    subst a1;have h1:=Y j 0 C Om;have h2:=h j 0 C Om;rw[M9 C] at h2;have h3:u j 0=.int .u8 (((x::l).getD j 0).toNat:Int):=h2.val_inv;have ea:(⟨k,o,none⟩:Addr).add j=⟨k,o+(j*1+0),none⟩:=by simp[Addr.add]
    rw[ea,h1,h3];simp[A29,A2f C]
 ·refine .val _ ?_;cases O with
  |slice es tight A k o sz cap u U hc ht hm V Y h=>
   simp only[A2k] at hc;show l.toArray.size<=_;simp only[maxLen] at hm;rw[A2A];omega
attribute [push_cast] B9 A21 implies_true
abbrev tNx:Baa:=⟨#[110]⟩
abbrev tK:Baa:=⟨#[107]⟩
abbrev Jc:Baa:=⟨#[105,110,99]⟩
abbrev Ja:Baa:=⟨#[112,117,116]⟩
abbrev tBy:Baa:=⟨#[98,121]⟩
abbrev CZ:Baa:=⟨#[107,101,121]⟩
abbrev Dc:Baa:=⟨#[118,97,108,117,101]⟩
abbrev Fp:Baa:=⟨#[97,114,103,115]⟩
abbrev Fo:Baa:=⟨#[110,97,109,101]⟩
abbrev tId:Baa:=⟨#[105,100]⟩
abbrev DL:Baa:=⟨#[109,117,116,97,116,111,114]⟩
abbrev Ed:Baa:=⟨#[99,108,105,101,110,116]⟩
abbrev Jb:Baa:=⟨#[108,105,115,116]⟩
def BU:GV:=.mk 1 false 0 bea [] []
def vI(n:Int):GV:=.mk 3 false n bea [] []
def vT(s:Baa):GV:=.mk 4 false 0 s [] []
def vL(l:List GV):GV:=.mk 5 false 0 bea l []
def vO(o:List (Baa×GV)):GV:=.mk 6 false 0 bea [] o
def Az(v:GV):An (A7 v)=true/\(A7 v).length=6/\(A7 v).all AV=true/\(A7 v).take 6=A7 v:=⟨Bn v,AH v,Lv v,GG v⟩
def Vu:A7 BU=[iD 1,bD false,iD 0,sD bea,.slice [] false,.slice [] false]:=A3 _
def N6(n:Int):A7 (vI n)=[iD 3,bD false,iD n,sD bea,.slice [] false,.slice [] false]:=A3 _
def Rv(s:Baa):A7 (vT s)=[iD 4,bD false,iD 0,sD s,.slice [] false,.slice [] false]:=A3 _
def enc_L(l:List GV):A7 (vL l)=[iD 5,bD false,iD 0,sD bea,.slice (l.map A7) false,.slice [] false]:=A3 _
def PQ(o:List (Baa×GV)):A7 (vO o)=[iD 6,bD false,iD 0,sD bea,.slice [] false,.slice (o.map A8) false]:=A3 _
inductive SMu where
 |inc (n:Int)
 |put
def SMu.m:SMu->GM
 |.inc n=>.mk 3 tNx bea n false zV false zV []
 |.put=>.mk 1 tK bea 0 false zV false BU []
def SMu.ok:SMu->Prop
 |.inc n=> -9223372036854775808<=n/\n<=9223372036854775807
 |.put=>True
def SMu.args:SMu->GV
 |.inc n=>vO [(tBy,vI n),(CZ,vT tNx)]
 |.put=>vO [(CZ,vT tK),(Dc,BU)]
def SMu.name:SMu->Baa
 |.inc _=>Jc
 |.put=>Ja
def SMu.o(m:SMu):GV:=vO [(Fp,m.args),(Fo,vT m.name)]
abbrev SN:=Nat×SMu
def snN(x:SN):GN:=⟨x.1,x.2.m⟩
def snO(x:SN):GV:=vO [(tId,vI x.1),(DL,x.2.o)]
def puO(c:Nat)(l:List SN):GV:=vO [(Ed,vI c),(Jb,vL (l.map snO))]
def Ex(n:Nat):Prop:=0<n/\n<=4611686018427387903
def KU(c:Nat)(l:List SN):Prop:=Ex c/\l.length<=64/\∀x ∈ l,Ex x.1/\x.2.ok
def HW(c:Nat)(l:List SN):List D:=[uD' c,.slice ((l.map snN).map AN) false]
def SU:Ce tNx=0:=by
 unfold Ce FV AK;decide
def keyM_k:Ce tK=0:=by
 unfold Ce FV AK;decide
def MZ:noS bea=true:=by rw[noS_d];decide
def Yo:BE zV=true:=by simp[BE,zV,GV.kind,GV.b,GV.n,GV.s,GV.list,GV.obj,MZ]
def look_inc(F:GV->Int)(n:Int):BG F (SMu.inc n).m 1=0:=by
 have C:=SU;rw[H2];have h1:AG (SMu.inc n).m=false:=by
  simp[AG,SMu.m,GM.kind,GM.had,GM.was,GM.to,GM.n,GM.has,GM.value,GM.list,MZ,Yo]
 have h2:Ck (SMu.inc n).m=true:=by
  grind [Ck,SMu.m,GM.kind,GM.key,GM.to,GM.had]
 rw[h1,h2];simp[SMu.m,GM.had,GM.kind,GM.list,CD]
def look_put(F:GV->Int)(hF:F BU=0):BG F SMu.put.m 1=0:=by
 have C:=keyM_k;rw[H2];have h1:AG SMu.put.m=false:=by
  simp[AG,SMu.m,GM.kind,GM.had,GM.was,GM.to,GM.n,GM.has,GM.value,GM.list,MZ,Yo]
 have h2:Ck SMu.put.m=true:=by
  grind [Ck,SMu.m,GM.kind,GM.key,GM.to,GM.had]
 grind [SMu.m,GM.had,GM.list,GM.value,CD]
def SM(F:GV->Int)(hF:F BU=0)(m:SMu):Ec F m.m=0:=by
 unfold Ec;cases m with
 |inc n=>
  rw[if_neg (by rw[DM];simp[SMu.m,GM.list,Br]),look_inc]
 |put=>
  rw[if_neg (by rw[DM];simp[SMu.m,GM.list,Br]),look_put F hF]
def sm_zV:Sm zV:=.mk _ _ _ _ _ _ Dq' Dq' (λ_ h=>by cases h) (λ_ h=>by cases h) Dq' Dq' (λ_ h=>by cases h)
def Yz:Sm BU:=.mk _ _ _ _ _ _ Dq' Dq' (λ_ h=>by cases h) (λ_ h=>by cases h) Dq' Dq' (λ_ h=>by cases h)
def LQ(m:SMu):SmU m.m:=by
 cases m with
 |inc n=>exact .mk _ sm_zV sm_zV (by decide:tNx.size<=1048576) (by decide:ByteArray.size .empty<=1048576) (by decide:List.length ([]:List GM)<=1048576) (λ_ h=>by cases h)
 |put=>exact .mk _ sm_zV Yz (by decide:tK.size<=1048576) (by decide:ByteArray.size .empty<=1048576) (by decide:List.length ([]:List GM)<=1048576) (λ_ h=>by cases h)
def Wv(m:SMu):wtU m.m<=2:=by
 cases m with
 |inc n=>rw [J4,LK,LK];exact(by decide:tNx.size+ByteArray.size .empty+(ByteArray.size .empty+(0+0)+(0+0))+(ByteArray.size .empty+(0+0)+(0+0))+(0+0)<=2)
 |put=>rw [J4,LK,LK];exact(by decide:tK.size+ByteArray.size .empty+(ByteArray.size .empty+(0+0)+(0+0))+(ByteArray.size .empty+(0+0)+(0+0))+(0+0)<=2)
def NU(m:SMu):AY m.m=1:=by
 cases m<;>rw [DM]<;>rfl
def TX{n:Int}(h:0<=n)(k:n<18446744073709551616):IntKind.u64.wrap n=n:=by simp only[IntKind.wrap,IntKind.bits,IntKind.signed];simp;omega
abbrev mcU(m:GM)(d:D):List D:=[iD m.kind,sD m.key,sD m.to,iD m.n,bD m.had,iD m.was.kind,bD m.was.b,iD m.was.n,sD m.was.s,.slice (m.was.list.map A7) false,.slice (m.was.obj.map A8) false,bD m.has,iD m.value.kind,bD m.value.b,iD m.value.n,sD m.value.s,.slice (m.value.list.map A7) false,.slice (m.value.obj.map A8) false,d]
abbrev mcl(m:GM)(t:Bool):List D:=mcU m (.slice [] t)
abbrev mzr:List D:=[iD 0,sD bea,sD bea,iD 0,bD false,iD 0,bD false,iD 0,sD bea,.slice [] true,.slice [] true,bD false,iD 0,bD false,iD 0,sD bea,.slice [] true,.slice [] true,.slice [] true]
def KN(m:GM):Ai m=mcU m (.slice (m.list.map Ai) false):=by rw[Ay,A3 m.was,A3 m.value];rfl
def T9(u:SMu):Ai u.m=mcl u.m false:=by
 have hl:u.m.list=[]:=by cases u<;>rfl
 rw[KN,hl];rfl
def ZV{α:Type}{f:α->List D}{l:List α}(z:α)(h:i<l.length):(l.take (i+1)).map f=(l.take i).map f++[f (l.getD i z)]:=by
 rw[A2J h,A2F];simp[A29,A2f h]
def ZB(m:GM)(hs:SmU m):A0 prog 89 [.agg (Ai m)] (.agg (Ai m)):=by
 obtain⟨m1,m2,m3,U⟩:=hs.parts;have h1:=JJ m.was m1;have h2:=JJ m.value m2;have V:∀i,i<m.list.length->A0 prog 89 [.agg (Ai (m.list.getD i zU))] (.agg (Ai (m.list.getD i zU))):=λi hi=>
  have:=GM.list_lt (Ae (d:=zU) hi)
  ZB _ (U _ (Ae hi))
 rw[KN m];rw[A3 m.was] at h1;rw[A3 m.value] at h2;have C:=EQ m.list;refine Zf [136] ?_
 (have z:=C;push_cast[z]<;>repeat' (first|refine Zc h1 ?_|refine Zc h2 ?_|apply Za)<;>push_cast[z])
 refine Zl (λi=>i<=m.list.length) (λi=>⟨[(17,iD i),(16,iD m.list.length),(15,.slice (m.list.map Ai) false),(3,.gref 136 i),(2,.ref 8 0 0 19),(1,.ref 0 0 0 19)],[(0,.rows [mcU m (.slice (m.list.map Ai) false)] 19),(8,.rows [mzr] 19),(136,.grow ((m.list.take i).map Ai) 19)],69⟩) (λi=>m.list.length-i) 0 (A2w _) ?_ λi hi=>?_
 ·refine Aq.trans (s':=⟨[(3,.slice [] true),(17,iD 0),(16,iD m.list.length),(15,.slice (m.list.map Ai) false),(2,.ref 8 0 0 19),(1,.ref 0 0 0 19)],[(0,.rows [mcU m (.slice (m.list.map Ai) false)] 19),(8,.rows [mzr] 19)],68⟩) ?_ (Aq.trans (Aq.nilgrowE 19) ?_)
  ·apply Zw<;>push_cast [C]
  ·apply Zw<;>push_cast [C]
 ·push_cast[C];refine Ad (λO=>?_) (λO=>?_)
  ·have M:i<m.list.length:=by simpa using O
   have e1:=EV M;have hr:=V i M;have w1:IntKind.i64.wrap ((i:Int)+1)=(i:Int)+1:=A9 Om Om;have et:=ZV (f:=Ai) zU M;have Z:=EQ (m.list.take i);have lY:((m.list.take i).map Ai).length=i:=So';have oX:=Ax (m.list.getD i zU);have lX:=AB (m.list.getD i zU);have tX:=BQ (m.list.getD i zU);have aA:=C4 (m.list.getD i zU);have aX:=A2q.1 aA;have a0:∀y ∈ (m.list.take i).map Ai,y.length=19:=λy N=>by obtain⟨x,_,rfl⟩:=A2p.1 N;exact AB x
   clear V U;generalize Ai (m.list.getD i zU)=X at*;generalize(m.list.take i).map Ai=Y at*
   (have z:=Za C<|Za e1<|Za Z<|Za lY<|Za oX<|Za lX<|Za tX aA;push_cast[z]<;>repeat' (first|refine Zc (hr ..) ?_|apply Za)<;>push_cast[z])
   all_goals first|omega|(intro y N;cases A2b.1 N;exact lX)|(intro y N d hd;cases A2b.1 N;exact aX d hd)|skip
   refine⟨i+1,M,Om,?_⟩;rw[et];apply Zr [(136,210)] rfl<;>push_cast [C,Z,oX,w1]
  ·have M:i=m.list.length:=by simp at O;omega
   subst M;rw[A2I]
   (have z:=C;push_cast[z]<;>repeat' apply Za)
termination_by SizeOf.sizeOf m
def Tm(i:Int)(m:GM)(hs:SmU m):A0 prog 53 [.agg (uD' i::Ai m)] (.agg (uD' i::Ai m)):=by
 have h1:=ZB m hs;have C:=Ax m;have M:=AB m;have N:=BQ m;have O:=C4 m;generalize Ai m=U at*;refine Zf [] ?_
 (have z:=Za C<|Za M<|Za N O;push_cast[z]<;>repeat' (first|refine Zc h1 ?_|exact Zo|apply Za)<;>push_cast[z])
def c_twin(i:Int)(u:SMu):A0 prog 53 [.agg (uD' i::Ai u.m)] (.agg (uD' i::Ai u.m)):=Tm i u.m (LQ u)
def HO(a:Nat)(X:LLa)(t:Bool)(h:a+X.length<4611686018427387904):A0 prog 37 [.ptr [uD' a,.slice X t] 0] (uD' ((a:Int)+X.length+1)):=by
 have C:IntKind.u64.wrap (X.length:Int)=(X.length:Int):=TX Om Om;have M:IntKind.u64.wrap ((a:Int)+X.length)=(a:Int)+X.length:=TX Om Om;have N:IntKind.u64.wrap ((a:Int)+X.length+1)=(a:Int)+X.length+1:=TX Om Om;refine Zf [] ?_
 (have z:=Za C<|Za M N;push_cast[z]<;>repeat' (first|exact Zo|apply Za))
def Tp(a:Nat)(d:D):A0 prog 48 [.ptr [uD' a,d] 0] (uD' a):=by
 refine Zf [] ?_
 (push_cast<;>repeat' apply Za)
abbrev C2(x:SN):List D:=AN (snN x)
abbrev Ew:List D:=uD' 0::mzr
def Hr(x:SN):C2 x=uD' x.1::Ai x.2.m:=rfl
def c_twinQ(x:SN):A0 prog 53 [.agg (C2 x)] (.agg (C2 x)):=c_twin x.1 x.2
def GK(x:SN):An (C2 x)=true:=by rw[Hr];simp only[An,D.pure,Ax,A2L]
def rowQ_len(x:SN):(C2 x).length=20:=by rw[Hr];simp[AB]
def CA(L:List SN):Aa (L.map C2)=true:=Aw GK L
def Ui{α:Type}{es:List α}{x:α}(h:i<es.length):AI es i [x]=es.set i x:=by
 rw[List.set_eq_take_append_cons_drop,if_pos h];simp[AI]
def c_qEach(L:List SN)(X:LLa)(o n:Nat)(C:Aa X=true)(ho:o+n<=X.length)(hl:L.length=n)(hn:n<=1048576)(hr:∀i,i<n->nr X (o+i)=C2 (L.getD i (0,.put))):A4 prog 52 [.gsub 5 o n 20,.func (.func 53) [] []] [(5,.grow X 20)] (.sref 0 0 n n 20) [(5,.grow X 20),(0,.rows (L.map C2) 20)]:=by
 have M:=CA L;have oF:=H5 (f:=C2) (z:=Ew) GK (by rfl) L;have Y:=Jz C2 Ew L;have Z:(L.map C2).length=n:=by simp[hl]
 have fa:=H6 C2 Ew L (i:=n) Om;have f0:=FJ C2 Ew L;rw[hl] at f0 Y;refine Zd [] ?_
 (have z:=Za M<|Za Z C;push_cast[z]<;>repeat' apply Za)<;>try omega
 refine Zl (λi=>i<=n) (λi=>⟨[(13,iD i),(12,iD n),(11,.gsub 5 o n 20),(5,.sref 32 0 i n 20),(1,.func (.func 53) [] [])],[(5,.grow X 20),(32,.rows (Gx C2 Ew L i) 20)],68⟩) (λi=>n-i) 0 (A2w _) ?_ λi hi=>?_
 ·apply Zw<;>push_cast [f0,C,oF]
 ·push_cast;refine Ad (λN=>?_) (λN=>?_)
  ·have O:i<n:=by simpa using N
   have e1:=hr i O;have e2:=JT C2 Ew L (i:=i) Om;have e3:=H4 C2 Ew L (0,.put) (i:=i) Om;have hT:=c_twinQ (L.getD i (0,.put));have lx:=rowQ_len (L.getD i (0,.put));have w1:IntKind.i64.wrap ((i:Int)+1)=(i:Int)+1:=A9 Om Om;have d1:decide (i+1<=n)=true:=Dt';have hq:∀y:List D,y ∈ [C2 (L.getD i (0,.put))]->y.length=20:=λy U=>by rw[A2b.1 U];exact lx
   have a0:∀y:List D,y ∈ [C2 (L.getD i (0,.put))]->∀d ∈ y,AV d=true:=λy U d V=>by
    rw[A2b.1 U,Hr,T9] at V;simp only[A2s,A3b,or_false] at V;rcases V with rfl|rfl|rfl|rfl|rfl|rfl|rfl|rfl|rfl|rfl|rfl|rfl|rfl|rfl|rfl|rfl|rfl|rfl|rfl|rfl<;>rfl
   (have z:=Za M<|Za Z<|Za C<|Za e1<|Za e2<|Za w1 d1;push_cast[z]<;>repeat' (first|refine Zv hT ?_|apply Za)<;>push_cast[z])
   all_goals first|omega|exact hq|exact a0|skip
   rw[Ui (es:=Gx C2 Ew L i) (i:=i) (by rw[Y];omega),e3];refine⟨i+1,Om,Om,?_⟩;apply Zw<;>push_cast [C,H5 (f:=C2) (z:=Ew) GK (by rfl) L (i+1)]
  ·have O:i=n:=by simp at N;omega
   subst O
   (have z:=C;push_cast[z]<;>repeat' apply Za)
   rw[fa];apply Zr [(0,32)] rfl<;>push_cast [C,M]
abbrev quB(a o n:Nat):Blk:=.rows [[uD' a,.gsub 5 o n 20]] 2
structure Kd(X:List (List D))(o n:Nat)(L:List SN):Prop where
 pure:Aa X=true
 le:o+n<=X.length
 len:L.length=n
 n1:n<=1048576
 row:∀i,i<n->nr X (o+i)=C2 (L.getD i (0,.put))
def Kd.each{o n:Nat}{L:List SN}(h:Kd X o n L):A4 prog 52 [.gsub 5 o n 20,.func (.func 53) [] []] [(5,.grow X 20)] (.sref 0 0 n n 20) [(5,.grow X 20),(0,.rows (L.map C2) 20)]:=c_qEach L X o n h.pure h.le h.len h.n1 h.row
def Kd.take{X:LLa}{o n:Nat}{L:List SN}(h:Kd X o n L){c:Nat}(hc:c<=n):Kd X o c (L.take c):=
 ⟨h.pure,by have:=h.le;omega,by rw[A2x,h.len];omega,by have:=h.n1;omega,λi hi=>by
  rw[h.row i Om];simp only[A29,A3w hi]⟩
def c_qAll{a o n:Nat}{L:List SN}(h:Kd X o n L):A4 prog 45 [.ref 3 0 0 2] [(3,quB a o n),(5,.grow X 20)] (.sref 0 0 n n 20) [(3,quB a o n),(5,.grow X 20),(0,.rows (L.map C2) 20)]:=by
 have hE:=h.each;have C:=h.pure;have M:=CA L;refine Zd [] ?_
 (have z:=C;push_cast[z]<;>repeat' (first|refine Zs [(5,5)] hE ?_|apply Za)<;>push_cast[z])
 apply Zr [(0,64)] rfl<;>push_cast [C,M]
def Wa{a o n:Nat}{L:List SN}(h:Kd X o n L)(nn:Int)(below:Nat)(c:Nat)(hc:c<=n)
  (h1:∀i,i<c->(i:Int)<nn/\(L.getD i (0,.put)).1<below) (h2:(c:Int)<nn->c<n->below<=(L.getD c (0,.put)).1):
  A4 prog 35 [.ref 3 0 0 2,iD nn,uD' below] [(3,quB a o n),(5,.grow X 20)] (.sref 0 0 c c 20) [(3,quB a o n),(5,.grow X 20),(0,.rows ((L.take c).map C2) 20)]:=by
 have hE:=(h.take hc).each;obtain⟨C,Y,hl,hn,hr⟩:=h;have O:=CA (L.take c);refine Zd [] ?_
 (have z:=C;push_cast[z]<;>repeat' apply Za<;>push_cast[z])<;>try omega
 refine Zl (λi=>i<=c) (λi=>⟨[(7,iD i),(2,uD' below),(1,iD nn),(0,.ref 3 0 0 2)],[(3,quB a o n),(5,.grow X 20)],68⟩) (λi=>c+1-i) 0 (A2w _) ?_ λi hi=>?_
 ·apply Zw<;>push_cast [C]
 ·rcases A2z i c with hic|hic
  ·obtain⟨M,U⟩:=h1 i hic;have N:=hr i Om;rw[Hr] at N;have c1:decide ((i:Int)<nn)=true:=decide_eq_true M;have c2:decide ((i:Int)<n)=true:=Dt';have c3:decide (((L.getD i (0,.put)).1:Int)<below)=true:=Dt';have V:IntKind.i64.wrap ((i:Int)+1)=(i:Int)+1:=A9 Om Om
   (have z:=Za C<|Za N<|Za c1<|Za c2<|Za c3 V;push_cast[z]<;>repeat' apply Za<;>push_cast[z])<;>try omega
   refine⟨i+1,Om,Om,?_⟩;apply Zw<;>push_cast [C]
  ·obtain rfl:i=c:=Om;by_cases M:(i:Int)<nn
   ·have c1:decide ((i:Int)<nn)=true:=decide_eq_true M;by_cases U:i<n
    ·have Z:=h2 M U;have N:=hr i Om;rw[Hr] at N;have c2:decide ((i:Int)<n)=true:=Dt';have c3:decide (((L.getD i (0,.put)).1:Int)<below)=false:=Df'
     (have z:=Za C<|Za N<|Za c1<|Za c2 c3;push_cast[z]<;>repeat' (first|refine Zs [(5,5)] hE ?_|apply Za)<;>push_cast[z])<;>try omega
     apply Zr [(0,376)] rfl<;>push_cast [C,O]
    ·have c2:decide ((i:Int)<n)=false:=Df'
     (have z:=Za C<|Za c1 c2;push_cast[z]<;>repeat' (first|refine Zs [(5,5)] hE ?_|apply Za)<;>push_cast[z])<;>try omega
     apply Zr [(0,376)] rfl<;>push_cast [C,O]
   ·have c1:decide ((i:Int)<nn)=false:=decide_eq_false M
    (have z:=Za C c1;push_cast[z]<;>repeat' (first|refine Zs [(5,5)] hE ?_|apply Za)<;>push_cast[z])<;>try omega
    apply Zr [(0,376)] rfl<;>push_cast [C,O]
def KW(hp:Nat->Option Blk):Hp->Prop
 |[]=>True
 |p::r=>hp p.1=some p.2/\KW hp r
def Kv{hp:Nat->Option Blk}:∀ {H:Hp},KW hp H->∀b x,Ak H b=some x->b ∈ H.map (·.1)/\hp b=some x
 |(c,y)::r,h,b,x,hx=>by
  simp only[Ak] at hx;by_cases e:c=b
  ·subst e;simp at hx;subst hx;exact⟨Sq',h.1⟩
  ·have e':(c==b)=false:=by simpa using e
   rw[e'] at hx;obtain⟨h1,h2⟩:=Kv h.2 b x hx;exact⟨A2V _ h1,h2⟩
def RD{id:Nat}{dst:Option Tmp}{T:TypeId}{pos:String}{af:Array Edge}{gd:Option (Nat×Bool)}{f:FuncId}{args:Array Operand}{ts:Array TypeId}(M:Hp)
  (hq:KW hp M) (ha:loL ((args.toList.map ev).map (frz (Ak M) 4)) ds) (a2:An ds=true) (hf:Et r=true) (hc:A0 P f ds r):
  AQ P ⟨dst,.call {callee:=.value (.func f),args:=args,argTypes:=ts},T,pos,af,gd⟩ id ev hp ⟨r,[],M.map (·.1)⟩:=by
 intro w0 M0 I0 fr I mu h a w a3 N aa a4 hb K Q hK;have V:=Bo.args (w:=w) (I:=I) (mu:=mu) (ev:=ev) (a:=a) (args:=args) λy hy=>a4 y (by simp[Op.operands,Call.operands];exact .inr (by simpa using hy));have hs:∀b x,Ak M b=some x->h b=some x:=λb x hx=>by
  obtain⟨h1,h2⟩:=Kv hq b x hx;exact(hb b h1).trans h2
 have Y:=N.sub hs;let J:Nat->Prop:=λk=>I k\/∃b x v,Ak M b=some x/\mu b=some v/\Al v=some k;have Z:∀k,I k->J k:=λk C=>.inl C;have hJ:∀b x v k,Ak M b=some x->mu b=some v->Al v=some k->J k:=λb x v k h1 h2 O=>.inr ⟨b,x,v,h1,h2,O⟩;have a5:∀k,J k->k<w.heap.size:=by
  rintro k (C|⟨b,x,v,h1,h2,O⟩)
  ·exact N.lt k C
  ·exact(Y.loc b x v k h1 h2 O).2.2
 have a6:Bo w J mu ds (args.toList.map a.eval):=by
  obtain⟨l1,l2⟩:=C3 ha;refine⟨by rw[<-l1];simpa using V.1,λi hi=>?_⟩;rw[<-l1] at hi;have a0:i<(args.toList.map ev).length:=by simpa using hi
  have:=l2 i hi;rw[Dq a0] at this;exact(Rep.frz Y Z hJ 4 _ _ (V.2 i a0)).lo this
 have a1:=a6.unmu (mu':=λ_=>none) a2;unfold A0 at hc;have a7:=hc.2 w J _ ((a3.at N).mono Z) a5 a1.1 a1.2;have a8:(execOp a.eval ⟨dst,.call {callee:=.value (.func f),args:=args,argTypes:=ts},T,pos,af,gd⟩).run P w=.ok (.enter f (args.toList.map a.eval).toArray) w:=by
  have e1:args.map a.eval=(args.toList.map a.eval).toArray:=by apply Array.ext';simp
  simp only[execOp,resolve,Act.eval,Deferred.ofValue,A2o,A2u,Result.andThen,invoke];have e2:#[]++args.map a.eval++ #[]=(args.toList.map a.eval).toArray:=by rw[e1];simp
  exact(congrArg (λz=>(callFunc f z).run P w) e2).trans (Bj hc.1 _ w)
 refine Ci a8 ?_;refine a7.mono λe w' ⟨v,I',he,hv,h1,h2,O,U⟩=>?_;subst he;have a9:Ext I mu w I mu w':=⟨λ_ h=>h,λ_ _ h=>h,λk C=>U.block k (N.lt k C)⟩
 exact hK v w' I mu a9 ((N.below (λ_ h=>h) (λ_ h=>.inl h) (λk C=>A3K (N.lt k C) U.size) U).less λb hb=>hb.1) (hv.flat hf)
def A03(hp:Nat->Option Blk):KW hp []=True:=rfl
def WN(hp:Nat->Option Blk)(p:Nat×Blk)(r:Hp):KW hp (p::r)=(hp p.1=some p.2/\KW hp r):=rfl
attribute [push_cast] A03 WN
noncomputable section
variable{P:Program}{ops:Array Oper}{nx:Nat}{dst:Option Tmp}{T:TypeId}{ps:String}{af:Array Edge}{gd:Option (Nat×Bool)}{f:FuncId}{args:Array Operand}{ts:Array TypeId}{ds:List D}{r:D}{l:List Oper}{pos:Nat}{acc:List Eff}{s:St}{K:List Eff->St->Prop}
def A5.lend(C:Hp)(bs:List Nat)(Y:C.map (·.1)=bs)(hc:A0 P f ds r)(M:DO ops s gd)(N:KW (Ak s.hp) C)(O:loL ((args.toList.map (evO P s.env.get)).map (frz (Ak C) 4)) ds)(U:An ds=true)(hf:Et r=true)
  (V:GoS P ops nx l (pos+1) (⟨r,[],bs⟩::acc) (s.app dst ⟨r,[],bs⟩) K):A5 P ops nx (⟨dst,.call {callee:=.value (.func f),args:=args,argTypes:=ts},T,ps,af,gd⟩::l) pos acc s K:=by
 subst Y;rw[Cu] at V;rw[BA];unfold BT;refine .inl ⟨_,?_,by have:=Go.run V;unfold BT at this;exact this⟩;rcases M with rfl|⟨j,want,t,rfl,ht,M⟩
 ·exact Bz.plain rfl (RD C N O U hf hc)
 ·exact Bz.guard_true rfl ht M (RD C N O U hf hc)
def A5.lendZ(C:Hp){bs:List Nat}(hc:A0 P f ds r)(M:GoS P ops nx l (pos+1) (⟨r,[],bs⟩::acc) (s.app dst ⟨r,[],bs⟩) K)(N:C.map (·.1)=bs:=by rfl)(O:DO ops s gd:=by first|exact .inl rfl|exact .inr ⟨_,_,_,rfl,rfl,rfl⟩)
  (U:KW (Ak s.hp) C:=by push_cast[z]<;>(with_unfolding_all exact Ag _)) (V:loL ((args.toList.map (evO P s.env.get)).map (frz (Ak C) 4)) ds:=by push_cast[z]<;>first|exact λ_=>trivial|(with_unfolding_all exact Ag _)) (Y:An ds=true:=by push_cast[z]) (hf:Et r=true:=by first|rfl|push_cast [z]):
  A5 P ops nx (⟨dst,.call {callee:=.value (.func f),args:=args,argTypes:=ts},T,ps,af,gd⟩::l) pos acc s K:=A5.lend C bs N hc O U V Y hf M
end
section
variable{P:Program}{ops:Array Oper}{nx:Nat}{dst:Option Tmp}{T:TypeId}{ps:String}{af:Array Edge}{gd:Option (Nat×Bool)}{l:List Oper}{pos:Nat}{acc:List Eff}{s:St}{K:List Eff->St->Prop}{f:FuncId}{args:Array Operand}{ts:Array TypeId}
def S1(P:Program)(f:FuncId)(ds:List D)(r:D):Prop:=
 ∀(w:World) (I:Nat->Prop) (mu:Nat->Option Value) (vs:List Value),(∀k,I k->k<w.heap.size)->Bo w I mu ds vs->
  ∃u w' I',(callFunc f vs.toArray).run P w=.ok (.value u) w'/\Rep w' I' mu r u/\(∀k,I k->I' k)/\(∀k,I' k->I k\/w.heap.size<=k)/\(∀k,I' k->k<w'.heap.size)/\Below w.heap.size w w'
def RG{id:Nat}{hp:Nat->Option Blk}(N:args.toList.map ev=ds)(hc:S1 P f ds r):AQ P ⟨dst,.call {callee:=.value (.func f),args:=args,argTypes:=ts},T,ps,af,gd⟩ id ev hp ⟨r,[],[]⟩:=by
 subst N;intro w0 M0 I0 fr I mu h a w a1 C a2 O hb K Q U;have V:=Bo.args (w:=w) (I:=I) (mu:=mu) (ev:=ev) (a:=a) (args:=args) λy Y=>O y (by simp[Op.operands,Call.operands];exact .inr (by simpa using Y));obtain⟨u,w',I',Z,hv,h1,h2,h3,M⟩:=hc w I mu _ C.lt V;have e1:args.map a.eval=(args.toList.map a.eval).toArray:=by apply Array.ext';simp
 have e2:#[]++args.map a.eval++ #[]=(args.toList.map a.eval).toArray:=by rw[e1];simp
 refine CT (w':=w') (v:=u) (by
  simp only[execOp,resolve,Act.eval,Deferred.ofValue,A2o,A2u,Result.andThen,invoke];exact(congrArg (λz=>(callFunc f z).run P w) e2).trans Z) ?_
 have a0:Ext I mu w I' mu w':=⟨h1,λ_ _ h=>h,λk hk=>M.block k (C.lt k hk)⟩
 exact U u w' I' mu a0 ((C.below h1 h2 h3 M).less λb hb=>hb.1) hv
def A5.extG(hc:S1 P f ds r)(C:DO ops s gd)(M:args.toList.map (evO P s.env.get)=ds)
  (N:GoS P ops nx l (pos+1) (⟨r,[],[]⟩::acc) (s.app dst ⟨r,[],[]⟩) K):A5 P ops nx (⟨dst,.call {callee:=.value (.func f),args:=args,argTypes:=ts},T,ps,af,gd⟩::l) pos acc s K:=by
 rw[BA];rw[Cu] at N;unfold BT;refine .inl ⟨_,?_,by have:=Go.run N;unfold BT at this;exact this⟩;rcases C with rfl|⟨j,want,t,rfl,ht,C⟩
 ·exact Bz.plain rfl (RG M hc)
 ·exact Bz.guard_true rfl ht C (RG M hc)
def S1.of{k:FuncId}{fn:Func}{e:Array Value->Sem Value}(hf:P.funcs[k]? =some fn)(hn:(fn.name== "runtime.NumGoroutine")=false)(hb:fn.body.isNone=true)(h1:Extern.findNext fn=none)(h2:Extern.find fn=some e)
  (h:∀(w:World) (I:Nat->Prop) (mu:Nat->Option Value) (vs:List Value),(∀k,I k->k<w.heap.size)->Bo w I mu ds vs->
   ∃v w' I',(e vs.toArray).run P w=.ok v w'/\Rep w' I' mu r v/\(∀k,I k->I' k)/\(∀k,I' k->I k\/w.heap.size<=k)/\(∀k,I' k->k<w'.heap.size)/\Below w.heap.size w w'):S1 P k ds r:=by
 intro w I mu vs C hr;obtain⟨v,w',I',M,N⟩:=h w I mu vs C hr;refine⟨v,w',I',?_,N⟩;have O:fn.name≠ "runtime.NumGoroutine":=by simpa using hn
 have U:fn.body=none:=by simpa using hb
 simp[callFunc,hf,O,U,h1,h2,M,Result.andThen]
end
end Go.Ab
