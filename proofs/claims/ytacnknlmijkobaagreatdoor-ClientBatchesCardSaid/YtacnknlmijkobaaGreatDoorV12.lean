/- The layer by which the program is walked, and what its functions do: part 13 of 15. -/
import Derived.Test.YtacnknlmijkobaaGreatDoorV11
import Derived.Lib.ReflectliteSlice
import Derived.Shelf.Strconv.ParseIntPublic10
set_option maxHeartbeats 4000000
set_option maxRecDepth 20000
set_option linter.unusedVariables false
set_option linter.unusedSimpArgs false
set_option linter.unnecessarySimpa false
namespace Go.Ab
open Go.Proofs Go.Proofs.Tryz Go.RowKit Go.Shelf
theorem MQ:A0 prog 176 [.val (.int .u64 2)] (.val (.int .i64 2)):=
 A0.of_vals (us:=[.int .u64 2]) (by kernel_rfl) rfl fun w I hg ho=>⟨.int .i64 2,fun _=>Hk (by simp only[okP,D2,D3];omega),by
  have h2:(Lib.bitLen (2:Int).toNat:Int)=2:=by decide
  have:=Any.bits_Len Tryz.sLen 2 w (by omega) (by omega)
  rw[h2] at this
  exact this.mono fun e w' ⟨he,hw⟩=>⟨he,by subst hw;exact Below.refl _ _⟩⟩
theorem c_cmpM(a b:ByteArray×GV):A0 prog 302 [.agg (A7 a),.agg (A7 b)] (.val (.int .i64 (Ci a.1 b.1))):=by
 obtain⟨x1,x2,x3,x4⟩:=An a.2
 obtain⟨y1,y2,y3,y4⟩:=An b.2
 rw[Ah,Ah]
 generalize A5 a.2=V at*
 generalize A5 b.2=U at*
 have hc:=DW a.1 b.1
 refine Zf [0] func302 rfl ntmps302 results302 ?_
 (have z:=Za x1<|Za x2<|Za x3<|Za x4<|Za y1<|Za y2<|Za y3 y4;(try push_cast[z])<;>repeat' (first|apply Zi<;>intro _|refine Zc (hc ..) ?_|exact Zo|with_reducible apply Za)<;>try push_cast[z])
theorem QS:IntKind.i64.wrap 0=0/\IntKind.i64.wrap 1=1/\IntKind.i64.wrap 2=2:=by decide
theorem c_ins2(a b:ByteArray×GV)(hab:Ci b.1 a.1=1):A0 prog 356 [.slice [A7 a,A7 b] false,.val (.int .i64 0),.val (.int .i64 2),.func (.func 302) [] []] (.tup []):=by
 have hc:=c_cmpM b a
 rw[hab] at hc
 have x1:=Al a
 have y1:=Al b
 have x3:=Cv a
 have y3:=Cv b
 have x2:(A7 a).length=7:=by rw[Ah,A0g,AY]
 have y2:(A7 b).length=7:=by rw[Ah,A0g,AY]
 have x4:=Cd a
 have y4:=Cd b
 generalize A7 a=V at*
 generalize A7 b=U at*
 obtain⟨w0,w1,w2⟩:=QS
 refine Zf [] func356 rfl ntmps356 results356 ?_
 (have z:=Za x1<|Za y1<|Za x2<|Za y2<|Za x3<|Za y3<|Za x4 y4;(try push_cast[z])<;>repeat' (first|apply Zi<;>intro _|exact Zo|with_reducible apply Za)<;>try push_cast[z])
 refine Zl (fun i=>i=1∨i=2) (fun i=>⟨[(8,.val (.int .i64 i)),(0,.slice [V,U] false),(1,.val (.int .i64 0)),(2,.val (.int .i64 2)),(3,.func (.func 302) [] [])],[],400⟩) (fun i=>2-i) 1 (by simp) ?_ fun i hi=>?_
 ·apply Zw<;>push_cast [x1,y1]
  all_goals decide
 ·rcases hi with rfl|rfl
  ·(have z:=Za x1<|Za y1<|Za x2<|Za y2<|Za x3<|Za y3<|Za x4 y4;(try push_cast[z])<;>repeat' (first|apply Zi<;>intro _|exact Zo|with_reducible apply Za)<;>try push_cast[z])
   refine Zl (fun _=>True) (fun _=>⟨[(9,.val (.int .i64 1)),(8,.val (.int .i64 1)),(0,.slice [V,U] false),(1,.val (.int .i64 0)),(2,.val (.int .i64 2)),(3,.func (.func 302) [] [])],[],600⟩) (fun _=>0) 0 trivial ?_ fun _ _=>?_
   ·apply Zw<;>push_cast [x1,y1]
   ·(have z:=Za x1<|Za y1<|Za x2<|Za y2<|Za x3<|Za y3<|Za x4<|Za y4<|Za w0<|Za w1 w2;(try push_cast[z])<;>repeat' (first|apply Zi<;>intro _|refine Zv (hc ..) ?_|exact Zo|with_reducible apply Za)<;>try push_cast[z])
    all_goals first|omega|skip
    refine⟨2,.inr rfl,by omega,?_⟩
    apply Zw<;>push_cast [x1,y1,w0,w1,w2]
  ·(have z:=Za x1<|Za y1<|Za x2<|Za y2<|Za x3<|Za y3<|Za x4 y4;(try push_cast[z])<;>repeat' (first|apply Zi<;>intro _|exact Zo|with_reducible apply Za)<;>try push_cast[z])
   all_goals first|omega|skip
theorem c_pdq2(a b:ByteArray×GV)(hab:Ci b.1 a.1=1)(n:Int):A0 prog 338 [.slice [A7 a,A7 b] false,.val (.int .i64 0),.val (.int .i64 2),.val (.int .i64 n),.func (.func 302) [] []] (.tup []):=by
 have hc:=c_ins2 a b hab
 have x1:=Al a
 have y1:=Al b
 generalize A7 a=V at*
 generalize A7 b=U at*
 obtain⟨w0,w1,w2⟩:=QS
 refine Zf [] func338 rfl ntmps338 results338 ?_
 (have z:=Za x1 y1;(try push_cast[z])<;>repeat' (first|apply Zi<;>intro _|exact Zo|with_reducible apply Za)<;>try push_cast[z])
 refine Zl (fun _=>True) (fun _=>⟨[(0,.slice [V,U] false),(1,.val (.int .i64 0)),(2,.val (.int .i64 2)),(4,.func (.func 302) [] [])],[],400⟩) (fun _=>0) 0 trivial ?_ fun _ _=>?_
 ·apply Zw<;>push_cast [x1,y1]
 ·(have z:=Za x1<|Za y1 w2;(try push_cast[z])<;>repeat' (first|apply Zi<;>intro _|refine Zc (hc ..) ?_|exact Zo|with_reducible apply Za)<;>try push_cast[z])
  all_goals first|omega|skip
theorem c_sort2(a b:ByteArray×GV)(hab:Ci b.1 a.1=1):A0 prog 301 [.slice [A7 a,A7 b] false,.func (.func 302) [] []] (.tup []):=by
 have hc:=c_pdq2 a b hab 2
 have hb:=MQ
 have x1:=Al a
 have y1:=Al b
 generalize A7 a=V at*
 generalize A7 b=U at*
 have w1:IntKind.u64.wrap 2=2:=by decide
 refine Zf [] func301 rfl ntmps301 results301 ?_
 (have z:=Za x1<|Za y1 w1;(try push_cast[z])<;>repeat' (first|apply Zi<;>intro _|refine Zc (hb ..) ?_|refine Zc (hc ..) ?_|exact Zo|with_reducible apply Za)<;>try push_cast[z])
 all_goals first|omega|skip
theorem Bc.one{w:World}{I:Nat->Prop}{mu:Nat->Option Value}{d:D}{vs:List Value}(h:Bc w I mu [d] vs):∃ v,vs=[v]/\Rep w I mu d v:=by
 obtain⟨h1,h2⟩:=h
 match vs,h1 with
 |[v],_=>exact ⟨v,rfl,h2 0 (by simp)⟩
noncomputable abbrev rvD(d:D):List D:=[.val (typeHandle prog 33),.ptr [d] 0,.val (.int .u64 151)]
theorem M2:∃ i:TypeInfo,prog.info? 33=some i/\i.desc=.slice 146:=by
 refine⟨_,rfl,?_⟩
 kernel_rfl
theorem VK(L:List (List D)):Ps prog 203 [.iface 33 (.slice L false)] (.agg (rvD (.slice L false))):=
 Ps.of (e:=fun args=>Extern.ReflectliteValue.unpack (args.getD 0 (.tuple #[]))) func203 (by kernel_rfl) (by kernel_rfl) (by kernel_rfl) (by kernel_rfl) fun w I mu vs hI hr=>by
  obtain⟨v,rfl,hv⟩:=hr.one
  obtain⟨i,hi,hd⟩:=M2
  cases hv with
  |iface _ _ u hu=>
   have hu':=hu
   cases hu with
   |slice _ _ A k o sz cap u hA hc ht hm hlen hcell h=>
    refine⟨_,_,fun k=>I k∨k=w.heap.size,Lib.run_valueOf_slice _ _ i hi hd A L.length cap w,?_,fun k h=>.inl h,fun k h=>h.elim .inl fun h=>.inr (by omega),fun k h=>?_,(Below.refl _ w).alloc (A0a _) _⟩
    ·refine .agg _ [_,_,_] rfl fun j hj=>?_
     match j,hj with
     |0,_=>exact .val _ trivial
     |1,_=>
      refine .ptr [.slice L false] 0 w.heap.size 0 (fun _=>.slice A L.length cap) (fun _=>.inr rfl) (fun j hj=>?_) fun j hj=>?_
      ·obtain rfl:j=0:=by simp at hj;omega
       show(match(w.alloc (Obj.cells #[.slice A L.length cap] _)).heap[w.heap.size]? with|some (.cells c _ _)=>c[0]?|_=>none)=_
       rw[show(w.alloc (Obj.cells #[.slice A L.length cap] 33)).heap[w.heap.size]? =some (Obj.cells #[.slice A L.length cap] 33) by show(w.heap.push _)[_]? =_;simp]
       rfl
      ·obtain rfl:j=0:=by simp at hj;omega
       exact hu'.mono (fun k hk=>B8 w _ (hI k hk)) (fun _ h=>.inl h) (fun _ _ h=>h)
     |2,_=>exact .val _ (by simp only[okP,D2,D3];omega)
    ·rcases h with h|h
     ·have:=hI k h;simp;omega
     ·simp;omega
noncomputable def memI:TypeInfo:=(prog.info? 146).getD default
theorem memI_eq:prog.info? 146=some memI:=by kernel_rfl
noncomputable abbrev swD(L:List (List D)):D:=.func (.func 276) [] [.slice L false,.val (typeHandle prog 146)]
theorem VL(L:List (List D))(h2:L.length=2):Kz prog 204 [.iface 33 (.slice L false)] (swD L):=
 Kz.of (e:=Extern.ReflectliteSwapper.swapper "internal/reflectlite" (Extern.ReflectliteValue.valueError "Swapper")) func204 (by kernel_rfl) (by kernel_rfl) (by kernel_rfl) (by kernel_rfl) fun w I mu vs hr=>by
  obtain⟨v,rfl,hv⟩:=hr.one
  obtain⟨i,hi,hd⟩:=M2
  cases hv with
  |iface _ _ u hu=>
   have hu':=hu
   cases hu with
   |slice _ _ A k o sz cap u hA hc ht hm hlen hcell h=>
    rw[h2] at hu'|-
    exact⟨_,Lib.run_swapper_slice _ _ i memI hi hd memI_eq 25 (fun w=>by kernel_rfl) A 2 cap 276 (by kernel_rfl) w,.func _ [] [_,_] [] [_,_] rfl rfl (fun i hi=>by simp at hi) fun i hi=>match i,hi with
     |0,_=>hu'
     |1,_=>.val _ trivial⟩
theorem x_rvLen(L:List (List D))(n:Nat)(hn:L.length=n)(hn2:n<=1048576):Kz prog 205 [.agg (rvD (.slice L false))] (.val (.int .i64 n)):=
 Kz.of (e:=Extern.ReflectliteValue.method (Extern.ReflectliteValue.valueError "reflectlite.Value.Len" 0) Extern.ReflectliteValue.len) func205 (by kernel_rfl) (by kernel_rfl) (by kernel_rfl) (by kernel_rfl) fun w I mu vs hr=>by
  obtain⟨v,rfl,hv⟩:=hr.one
  obtain⟨i,hi,hd⟩:=M2
  obtain⟨us,rfl,hl,h⟩:=hv.agg_inv
  match us,hl with
  |[x,y,z],_=>
   have hx:=(h 0 (by simp)).val_inv
   have hy:=h 1 (by simp)
   have hz:=(h 2 (by simp)).val_inv
   simp only[nv,A0E,A1D] at hx hy hz
   subst hx hz
   simp only[nd,A0E,A1D] at hy
   cases hy with
   |ptr _ _ k o u hI hcell hrep=>
    have h1:=hcell 0 (by simp)
    have h2:=hrep 0 (by simp)
    simp only[nd,A0E] at h2
    generalize u 0=q at*
    cases h2 with
    |slice _ _ A k' o' sz cap u hA hc ht hm hlen hcell h=>
     rw[hn] at h1
     exact⟨_,Lib.run_valueLen_slice _ _ i hi hd (by kernel_rfl) _ A n cap w h1,.val _ (by simp only[okP,D2,D3];omega)⟩
abbrev lsF:D:=.func (.func 128) [] [.ref 1 0 0 1]
abbrev lsB(a b:ByteArray×GV):Hp:=[(1,.rows [[.slice [A7 a,A7 b] false]] 1)]
theorem c_less(a b:ByteArray×GV)(hab:Ci b.1 a.1=1):A2 prog 128 [.val (.int .i64 1),.val (.int .i64 0),.ref 1 0 0 1] (lsB a b) (.val (.bool false)) (lsB a b):=by
 have hl:ltS b.1 a.1=false:=by simp[ltS,hab]
 obtain⟨x1,x2,x3,x4⟩:=An a.2
 obtain⟨y1,y2,y3,y4⟩:=An b.2
 unfold lsB
 rw[Ah,Ah]
 generalize A5 a.2=V at*
 generalize A5 b.2=U at*
 refine Zd [] func128 rfl ntmps128 results128 ?_
 (have z:=Za x1<|Za x2<|Za x3<|Za x4<|Za y1<|Za y2<|Za y3<|Za y4 hl;(try push_cast[z])<;>repeat' (first|apply Zi<;>intro _|exact Zo|with_reducible apply Za)<;>try push_cast[z])
 apply Zw<;>push_cast [x1,x2,x3,y1,y2,y3]
theorem c_insS(L:List (List D))(hL:A6 L=true)(a b:ByteArray×GV)(hab:Ci b.1 a.1=1):A2 prog 277 [.agg [lsF,swD L],.val (.int .i64 0),.val (.int .i64 2)] (lsB a b) (.tup []) (lsB a b):=by
 have hc:=c_less a b hab
 have hT:AN (.val (typeHandle prog 146))=true:=rfl
 have x1:=Al a
 have y1:=Al b
 unfold lsB at*
 generalize A7 a=V at*
 generalize A7 b=U at*
 obtain⟨w0,w1,w2⟩:=QS
 refine Zd [] func277 rfl ntmps277 results277 ?_
 (have z:=Za x1<|Za y1 hL;(try push_cast[z])<;>repeat' (first|apply Zi<;>intro _|exact Zo|with_reducible apply Za)<;>try push_cast[z])
 refine Zl (fun i=>i=1∨i=2) (fun i=>⟨[(6,.val (.int .i64 i)),(1,.val (.int .i64 0)),(2,.val (.int .i64 2)),(3,.ref 8 0 0 2)],[(8,.rows [[lsF,swD L]] 2),(1,.rows [[.slice [V,U] false]] 1)],400⟩) (fun i=>2-i) 1 (by simp) ?_ fun i hi=>?_
 ·apply Zw<;>push_cast [x1,y1,hL]
  all_goals first|decide|trace_state
 ·rcases hi with rfl|rfl
  ·(have z:=Za x1<|Za y1 hL;(try push_cast[z])<;>repeat' (first|apply Zi<;>intro _|exact Zo|with_reducible apply Za)<;>try push_cast[z])
   refine Zl (fun _=>True) (fun _=>⟨[(7,.val (.int .i64 1)),(6,.val (.int .i64 1)),(1,.val (.int .i64 0)),(2,.val (.int .i64 2)),(3,.ref 8 0 0 2)],[(8,.rows [[lsF,swD L]] 2),(1,.rows [[.slice [V,U] false]] 1)],600⟩) (fun _=>0) 0 trivial ?_ fun _ _=>?_
   ·apply Zw<;>push_cast [x1,y1,hL]
   ·(have z:=Za x1<|Za y1<|Za hL<|Za w0<|Za w1 w2;(try push_cast[z])<;>repeat' (first|apply Zi<;>intro _|refine Zt [(1,1)] (hc ..) ?_|exact Zo|with_reducible apply Za)<;>try push_cast[z])
    all_goals first|omega|skip
    refine⟨2,.inr rfl,by omega,?_⟩
    apply Zw<;>push_cast [x1,y1,hL,w0,w1,w2]
  ·(have z:=Za x1<|Za y1 hL;(try push_cast[z])<;>repeat' (first|apply Zi<;>intro _|exact Zo|with_reducible apply Za)<;>try push_cast[z])
   all_goals first|omega|skip
   apply Zw<;>push_cast [x1,y1,hL]
theorem c_pdqS(L:List (List D))(hL:A6 L=true)(a b:ByteArray×GV)(hab:Ci b.1 a.1=1)(n:Int):A2 prog 206 [.agg [lsF,swD L],.val (.int .i64 0),.val (.int .i64 2),.val (.int .i64 n)] (lsB a b) (.tup []) (lsB a b):=by
 have hc:=c_insS L hL a b hab
 have x1:=Al a
 have y1:=Al b
 unfold lsB at*
 generalize A7 a=V at*
 generalize A7 b=U at*
 obtain⟨w0,w1,w2⟩:=QS
 refine Zd [] func206 rfl ntmps206 results206 ?_
 (have z:=Za x1<|Za y1 hL;(try push_cast[z])<;>repeat' (first|apply Zi<;>intro _|exact Zo|with_reducible apply Za)<;>try push_cast[z])
 refine Zl (fun _=>True) (fun _=>⟨[(1,.val (.int .i64 0)),(2,.val (.int .i64 2)),(4,.ref 8 0 0 2)],[(8,.rows [[lsF,swD L]] 2),(1,.rows [[.slice [V,U] false]] 1)],400⟩) (fun _=>0) 0 trivial ?_ fun _ _=>?_
 ·apply Zw<;>push_cast [x1,y1,hL]
 ·(have z:=Za x1<|Za y1<|Za hL w2;(try push_cast[z])<;>repeat' (first|apply Zi<;>intro _|refine Zs [(1,1)] (hc ..) ?_|exact Zo|with_reducible apply Za)<;>try push_cast[z])
  all_goals first|omega|skip
  apply Zw<;>push_cast [x1,y1,hL]
theorem c_sliceS(a b:ByteArray×GV)(hab:Ci b.1 a.1=1):A2 prog 127 [.iface 33 (.slice [A7 a,A7 b] false),lsF] (lsB a b) (.tup []) (lsB a b):=by
 have hc:=c_pdqS [A7 a,A7 b] (by simp[A6,Al]) a b hab 2
 have hT:AN (.val (typeHandle prog 33))=true:=rfl
 have hb:=MQ
 have hv:=VK [A7 a,A7 b]
 have hw:=VL [A7 a,A7 b] rfl
 have hn:=x_rvLen [A7 a,A7 b] 2 rfl (by omega)
 have x1:=Al a
 have y1:=Al b
 unfold lsB at*
 generalize A7 a=V at*
 generalize A7 b=U at*
 have w1:IntKind.u64.wrap 2=2:=by decide
 refine Zd [] func127 rfl ntmps127 results127 ?_
 (have z:=Za x1<|Za y1<|Za hT w1;(try push_cast[z])<;>repeat' (first|apply Zi<;>intro _|refine Zc (hb ..) ?_|refine Zs [(1,1)] (hc ..) ?_|exact Zo|with_reducible apply Za|(with_reducible show A1 _ _ _ _ _ _ _ _;refine A1.extG (by(try push_cast[z]);exact hv ..) (by first|exact .inl rfl|exact .inr ⟨_,_,_,rfl,rfl,rfl⟩) rfl ?_)<;>try push_cast[z]|(with_reducible show A1 _ _ _ _ _ _ _ _;refine A1.ext (by(try push_cast[z]);exact hw ..) (by first|exact .inl rfl|exact .inr ⟨_,_,_,rfl,rfl,rfl⟩) rfl ?_)<;>try push_cast[z]|(with_reducible show A1 _ _ _ _ _ _ _ _;refine A1.ext (by(try push_cast[z]);exact hn ..) (by first|exact .inl rfl|exact .inr ⟨_,_,_,rfl,rfl,rfl⟩) rfl ?_)<;>try push_cast[z]|fail)<;>try push_cast[z])
 all_goals first|omega|skip
 apply Zw<;>push_cast [x1,y1]
theorem c_clone2(V U:List D)(x1:Ag V=true)(x2:V.length=7)(x3:V.all AN=true)(y1:Ag U=true)(y2:U.length=7)(y3:U.all AN=true):A0 prog 126 [.slice [V,U] false] (.slice [V,U] false):=by
 refine Zf [] func126 rfl ntmps126 results126 ?_
 (have z:=Za x1<|Za x2<|Za x3<|Za y1<|Za y2 y3;(try push_cast[z])<;>repeat' (first|apply Zi<;>intro _|exact Zo|with_reducible apply Za)<;>try push_cast[z])
 ·exact id
 ·intro _ y hy
  rcases A0s.1 hy with rfl|hy
  ·exact x2
  ·cases A0d.1 hy;exact y2
theorem MG:∀ a:List UInt8,BX a a=0
 |[]=>rfl
 |c::a=>by simp[BX,MG a]
theorem sm2{a b:ByteArray×GV}(ha:Sm a.2)(hb:Sm b.2)(h1:a.1.size<=1048576)(h2:b.1.size<=1048576):Sm (vO [a,b]):=
 .mk _ _ _ _ _ _ (by decide) (by simp) (fun _ h=>by cases h) (fun p hp=>by
  rcases A0s.1 hp with rfl|hp
  ·exact ha
  ·cases A0d.1 hp;exact hb) (by decide) (by decide) (fun p hp=>by
  rcases A0s.1 hp with rfl|hp
  ·exact h1
  ·cases A0d.1 hp;exact h2)
theorem Xo(a b:ByteArray×GV)(hab:Ci b.1 a.1=1)(ha:Sm a.2)(hb:Sm b.2)(h1:a.1.size<=1048576)(h2:b.1.size<=1048576):A0 prog 74 [.slice [A7 a,A7 b] false] (.tup [.agg (A5 (vO [a,b])),.val (.int .i64 0)]):=by
 have hS:=c_sliceS a b hab
 have hC:=Hd (vO [a,b]) (sm2 ha hb h1 h2)
 rw[Mm] at hC
 have hC':=hC.lo (ds':=[.agg [.val (.int .i64 6),.val (.bool false),.val (.int .i64 0),.val (.string ByteArray.empty),.slice [] true,.slice [A7 a,A7 b] false]]) ⟨⟨Am _,Am _,Am _,Am _,⟨trivial,fun h=>by cases h⟩,⟨Bh _,fun h=>h⟩,trivial⟩,trivial⟩
 have x2:(A7 a).length=7:=by rw[Ah,A0g,AY]
 have y2:(A7 b).length=7:=by rw[Ah,A0g,AY]
 have hK:=c_clone2 (A7 a) (A7 b) (Al a) x2 (Cv a) (Al b) y2 (Cv b)
 obtain⟨x1,x2,x3,x4⟩:=An a.2
 obtain⟨y1,y2,y3,y4⟩:=An b.2
 have hne:¬b.1=a.1:=fun e=>by
  rw[e] at hab
  simp only[Ci,MG] at hab
  omega
 have k2:decide (b.1=a.1)=false:=decide_eq_false hne
 have hO:=Mm [a,b]
 obtain⟨u1,u2,u3,u4⟩:=An (vO [a,b])
 rw[<-hO] at hC'
 generalize A5 (vO [a,b])=O at*
 unfold lsB at hS
 rw[Ah,Ah] at*
 generalize A5 a.2=V at*
 generalize A5 b.2=U at*
 obtain⟨w0,w1,w2⟩:=QS
 refine Zf [] func74 rfl ntmps74 results74 ?_
 (have z:=Za x1<|Za y1<|Za x2<|Za y2<|Za x3<|Za y3<|Za u1<|Za u2<|Za u3<|Za u4 k2;(try push_cast[z])<;>repeat' (first|apply Zi<;>intro _|refine Zc hK ?_|refine Zs [(1,32)] hS ?_|exact Zo|with_reducible apply Za)<;>try push_cast[z])
 ·kernel_rfl
 refine Zl (fun i=>i=1∨i=2) (fun i=>⟨[(5,.val (.int .i64 i)),(4,.ref 32 0 0 1),(2,.ref 0 0 0 6)],[(32,.rows [[.slice [.val (.string a.1)::V,.val (.string b.1)::U] false]] 1),(0,vB 0 (.slice [] true) (.slice [] true))],400⟩) (fun i=>2-i) 1 (by simp) ?_ fun i hi=>?_
 ·apply Zw<;>push_cast [x1,y1]
  all_goals first|rfl|trace_state
 ·rcases hi with rfl|rfl
  ·(have z:=Za x1<|Za y1<|Za x2<|Za y2<|Za x3<|Za y3<|Za u1<|Za u2<|Za u3<|Za u4<|Za k2<|Za w0<|Za w1 w2;(try push_cast[z])<;>repeat' (first|apply Zi<;>intro _|exact Zo|with_reducible apply Za)<;>try push_cast[z])
   all_goals first|omega|skip
   refine⟨2,.inr rfl,by omega,?_⟩
   apply Zw<;>push_cast [x1,y1,w0,w1,w2]
  ·(have z:=Za x1<|Za y1<|Za x2<|Za y2<|Za x3<|Za y3<|Za u1<|Za u2<|Za u3<|Za u4<|Za k2<|Za w0<|Za w1 w2;(try push_cast[z])<;>repeat' (first|apply Zi<;>intro _|refine Zc (hC' ..) ?_|exact Zo|with_reducible apply Za)<;>try push_cast[z])
   all_goals first|omega|skip
   all_goals trace_state
theorem Nu:Fh Bx=false:=by simp[Fh,Bx,GV.kind,GV.b,GV.n,GV.s,GV.list,GV.obj,KO]
theorem FD:B1 Bx=0:=by
 have h1:Bp Bx 1=0:=by rw[Eu,Nu];simp[Bx,GV.kind]
 have h2:CR Bx=1:=by rw[JN];simp[Bx,GV.kind]
 have h3:CZ Bx=4:=by rw[Ew];simp[Bx,GV.kind]
 simp[B1,h1,h2,h3]
theorem TV:MayOk:=fun m hm=>by
 have h:=Qs JJ m.m (Lw m) (by have:=Pv m;omega) (by rw[GF];omega)
 rw[Ju B1 FD m] at h
 exact h
theorem obj_ok:ObjOk:=XB TV
theorem vobj_ok:VObjOk:=fun a b h1 h2 h3 h4 h5=>Xo a b h1 h2 h3 h4 h5
theorem sm_I(n:Int)(h: -9223372036854775808<=n/\n<=9223372036854775807):Sm (vI n):=.mk _ _ _ _ _ _ (by decide) (by decide) (fun _ h=>by cases h) (fun _ h=>by cases h) h (by decide) (fun _ h=>by cases h)
theorem sm_T(s:ByteArray)(h:s.size<=1048576):Sm (vT s):=.mk _ _ _ _ _ _ (by decide) (by decide) (fun _ h=>by cases h) (fun _ h=>by cases h) (by decide) h (fun _ h=>by cases h)
theorem sm_L(l:List GV)(hl:l.length<=1048576)(h:∀ x ∈ l,Sm x):Sm (vL l):=.mk _ _ _ _ _ _ hl (by decide) h (fun _ h=>by cases h) (by decide) (by decide) (fun _ h=>by cases h)
theorem sm_o(m:SMu)(hm:m.ok):Sm m.o:=by
 refine sm2 ?_ ?_ (by show Ei.size<=_;decide) (by show Eh.size<=_;decide)
 ·cases m with
  |inc n=>exact sm2 (sm_I n hm) (sm_T _ (by decide)) (by show tBy.size<=_;decide) (by show Cp.size<=_;decide)
  |put=>exact sm2 (sm_T _ (by decide)) UW (by show Cp.size<=_;decide) (by show Cz.size<=_;decide)
 ·cases m with
  |inc n=>exact sm_T _ (by show Gz.size<=_;decide)
  |put=>exact sm_T _ (by show Gx.size<=_;decide)
theorem Tr(n:Nat)(h:Dd n):Sm (vI n):=sm_I _ (by have:=h.2;omega)
theorem Yi(x:SN)(h1:Dd x.1)(h2:x.2.ok):Sm (snO x):=sm2 (Tr _ h1) (sm_o _ h2) (by show tId.size<=_;decide) (by show CU.size<=_;decide)
theorem sms:SmS:=⟨sm_o,Yi,Tr⟩
theorem UX(l:List SN)(h:l.length<=64)(hx:∀ x ∈ l,Dd x.1/\x.2.ok):Sm (vL (l.map snO)):=sm_L _ (by simp;omega) fun y hy=>by
 obtain⟨x,hx',rfl⟩:=A0l.1 hy
 exact Yi x (hx x hx').1 (hx x hx').2
theorem sm_puO(c:Nat)(l:List SN)(h:HL c l):Sm (puO c l):=sm2 (Tr _ h.1) (UX l h.2.1 h.2.2) (by show Dm.size<=_;decide) (by show Gy.size<=_;decide)
theorem ZZ(c:Nat)(l:List SN)(h:HL c l):A0 prog 25 [.agg (Gn c l)] (.val (.int .i64 0)):=c_pMay TV c l h
theorem X4(c:Nat)(l:List SN)(h:HL c l):A0 prog 44 [.agg (Gn c l)] (.tup [.agg (A5 (puO c l)),.val (.int .i64 0)]):=Xx obj_ok vobj_ok sms c l h (UX l h.2.1 h.2.2)
section
variable(hF:∀ v,Sm v->wtV v<=2097152->A0 prog 66 [.agg (A5 v)] (.val (.int .i64 (B1 v))))
include hF
theorem do_one{b:GT}{l:List GE}(hl:l.length<=4096)(m:GM)(kk:m.kind=1∨m.kind=3)(q:OQ)(hm:SmU m)(hw:wtU m<=1048576)(hsz:Dn m<=64)(hq:DoOk b l q (Dn m)):
  ∃ q',A2 prog 68 [.ref 1 0 0 3,.agg (Ao m)] (oqH b q) (.val (.int .i64 (EK B1 m (q.view l)).1)) (oqH b q')/\Led b l q q' (8193*Dn m) (L3 m (q.view l)):=by
  obtain⟨m1,m2,m3,m4⟩:=hm.parts
  have hz:1<=Dn m:=by rw[Fs];omega
  have hes:=es_le hq.ok.ch hq.ext
  have hus:=hq.us
  have hlen:=hq.len
  have hstep:EK B1 m (q.view l)=if m.kind=1 then(Gt (B1 m.value) m.key,if Gt (B1 m.value) m.key=0 then Br (m.key,m.value) (q.view l) else q.view l)
   else if m.kind=2 then(if FC m.key (q.view l)=true then(0,Cm m.key (q.view l)) else(12,q.view l))
   else if m.kind=3 then(Md (q.view l) m.key m.n (B1 (FB (q.view l) m.key m.n)),if Md (q.view l) m.key m.n (B1 (FB (q.view l) m.key m.n))=0 then Br (m.key,FB (q.view l) m.key m.n) (q.view l) else q.view l)
   else if m.kind=4 then(casC m (q.view l) (B1 m.value),casL m (q.view l) (B1 m.value))
   else if m.kind=5 then(addC (q.view l) m.key (B1 (XW (q.view l) m.key m.value)),if addC (q.view l) m.key (B1 (XW (q.view l) m.key m.value))=0 then Br (m.key,XW (q.view l) m.key m.value) (q.view l) else q.view l)
   else if m.kind=6 then moveM B1 m.key m.to (q.view l)
   else if m.kind=7 then(if m.key.size≠0/\UZ m (q.view l)=false then(13,q.view l) else Tn B1 m.list (q.view l))
   else(9,q.view l):=by cases m;rfl
  have hwt:=Lr m
  have hll:l.length<=1099511627776:=by omega
  have hres:∀ c L,EK B1 m (q.view l)=(c,L)->c=0->L3 m (q.view l)=L:=fun c L h1 h2=>by unfold L3;rw[h1];exact if_pos h2
  have hresE:∀ c L,EK B1 m (q.view l)=(c,L)->c≠0->L3 m (q.view l)=q.view l:=fun c L h1 h2=>by unfold L3;rw[h1];exact if_neg h2
  rcases kk with k1|k3
  ·rw[if_pos k1] at hstep
   obtain⟨q1,hP,hL⟩:=YH hq.ok m.key m.value (B1 m.value) (hF _ m2 (by omega)) m2 (by omega)
   have hk:=hL.le hq.ok
   have hl2:=hL.len
   by_cases hc:Gt (B1 m.value) m.key=0
   ·rw[hres _ _ hstep hc,hstep]
    refine⟨q1,?_,hL.mono (by omega)⟩
    rw[hc] at hP|-
    exact do_put0 m k1 q1 hP
   ·rw[hresE _ _ hstep hc,hstep]
    exact⟨_,do_putE m k1 _ q1 hP hc hL.ok.us hk (by omega),hL.of_back hq.ok⟩
  ·rw[if_neg (by omega),if_neg (by omega),if_pos k3] at hstep
   obtain⟨q1,hP,hL⟩:=q_inc hq.ok hll m.key m.n (B1 (FB (q.view l) m.key m.n)) (hF _ (Vi _ _ _) (by rw[incV_wt];omega)) (by omega)
   have hk:=hL.le hq.ok
   have hl2:=hL.len
   by_cases hc:Md (q.view l) m.key m.n (B1 (FB (q.view l) m.key m.n))=0
   ·rw[hres _ _ hstep hc,hstep]
    refine⟨q1,?_,hL.mono (by omega)⟩
    rw[hc] at hP|-
    exact do_inc0 m k3 q1 hP
   ·rw[hresE _ _ hstep hc,hstep]
    exact⟨_,do_incE m k3 _ q1 hP hc hL.ok.us hk (by omega),hL.of_back hq.ok⟩
end
theorem Yg(m:GM)(kk:m.kind=1∨m.kind=3)(L:List GE)(hm:SmU m)(hL:VOk L):VOk (L3 m L)/\(L3 m L).length<=L.length+1:=by
 obtain⟨kd,k,t,n,h,w,i,v,l⟩:=m
 obtain⟨m1,m2,m3,m4⟩:=hm.parts
 simp only[GM.was,GM.value,GM.list] at m1 m2 m3 m4
 have hput:∀ v',B1 v'=0->G1 k=0->Sm v'->VOk (Br (k,v') L)/\(Br (k,v') L).length<=L.length+1:=fun v' h1 h2 h3=>⟨hL.put h2 h1 h3,(Dc (k,v') L).1⟩
 unfold L3
 by_cases hc:(EK B1 (.mk kd k t n h w i v l) L).1=0
 ·rw[if_pos hc]
  simp only[EK] at hc|-
  rcases kk with k1|k3
  ·have k1:kd=1:=k1
   simp only[if_pos k1] at hc|-
   rw[if_pos hc]
   exact hput v (Hl hc).2 (Hl hc).1 m2
  ·have k3:kd=3:=k3
   have n1:¬kd=1:=by omega
   have n2:¬kd=2:=by omega
   simp only[if_neg n1,if_neg n2,if_pos k3] at hc|-
   rw[if_pos hc]
   unfold Md at hc
   split at hc
   ·cases hc
   ·split at hc
    ·cases hc
    ·exact hput _ (Hl hc).2 (Hl hc).1 (Vi L k n)
 ·rw[if_neg hc];exact⟨hL,by omega⟩
theorem ZX(u:SMu):u.m.kind=1∨u.m.kind=3:=by cases u<;>simp [SMu.m,GM.kind]
theorem run_smu{b:GT}{l:List GE}(hb:DB b l)(hV:VOk l)(hl:l.length<=4000)(u:SMu):
  ∃ t',A0 prog 19 [Av b,.agg (Ao u.m)] (.tup [Av t',.val (.int .i64 (TE u.m l).1)])/\DB t' (TE u.m l).2/\VOk (TE u.m l).2/\(TE u.m l).2.length<=l.length+64:=by
 have hF:=JJ
 have hm:=Lw u
 have hw:wtU u.m<=1048576:=by have:=Pv u;omega
 have hc:=Ju B1 FD u
 have hM:=Qs hF u.m hm (by omega) (by rw[GF];omega)
 have h64:=GF u
 have hkk:=ZX u
 generalize u.m=m at*
 unfold TE
 rw[if_neg (by simpa using hc)]
 rw[hc] at hM
 let q:OQ:=⟨none,[]⟩
 have hq:FJ b q l:=⟨hb,⟨by simp[q,OQ.es],by simp[q,OQ.es],by simp[q,OQ.es],by simp[q,OQ.es]⟩,fun _=>rfl⟩
 have hv0:q.view l=l:=rfl
 obtain⟨q',hD,hL⟩:=do_one hF (by omega) m hkk q hm hw (by omega) ⟨hq,by rw[hv0];exact hV,.refl q,by rw[hv0];omega,by simp only[q,A0t];omega⟩
 rw[hv0] at hD hL
 obtain⟨a1,a2⟩:=Yg m hkk l hm hV
 by_cases hcs:(EK B1 m l).1=0
 ·have hDo:=q_Do m _ q' hM hD
  rw[hcs] at hDo|-
  have hes:=es_le hL.ok.ch hL.ext
  have hus:=hL.len
  obtain⟨t',ht,hC⟩:=Xk (oq b q') l hL.ok.ov (by show l.length+q'.es.length<=1048576;simp only[q,A0t] at hus;omega) (Wd hV (by rw[hL.view];exact a1) hL.ok.ch.keys)
  rw[Jc] at hC
  rw[V2,hL.view] at ht
  exact⟨t',c_Run b t' m q' hDo hC,ht,a1,by simp only;omega⟩
 ·have hDo:=q_Do m _ q' hM hD
  have hr:L3 m l=l:=by unfold L3;rw[if_neg hcs]
  refine⟨b,c_RunE b m _ hcs q' hDo,?_,?_,?_⟩
  ·simp only[hr];exact hb
  ·simp only[hr];exact hV
  ·simp only[hr];omega
abbrev clB(c k s:Nat)(B H:D):Blk:=.rows [[.val (.int .u64 c),.val (.int .u64 k),.val (.int .u64 s),B,H,.ref 3 0 0 2]] 6
abbrev clH(c k s:Nat)(B H:D):Hp:=[(1,clB c k s B H)]
abbrev clN(c:Nat):D:=.ptr [.val (.int .u64 c),.any,.any,.any,.any,.any] 0
abbrev clF(c k:Nat)(q:D):D:=.ptr [.val (.int .u64 c),.val (.int .u64 k),.any,.any,.any,q] 0
theorem c_noneX(c:Nat)(hc:0<c)(x1 x2 x3 x4 x5:D):A0 prog 16 [.ptr [.val (.int .u64 c),x1,x2,x3,x4,x5] 0] (.val (.bool false)):=by
 have b1:((c:Int)==0)=false:=by simp;omega
 refine Zf [] func16 rfl ntmps16 results16 ?_
 (have z:=b1;(try push_cast[z])<;>repeat' (first|apply Zi<;>intro _|exact Zo|with_reducible apply Za)<;>try push_cast[z])
theorem Gd(c:Nat)(hc:0<c):A0 prog 16 [clN c] (.val (.bool false)):=c_noneX c hc _ _ _ _ _
abbrev rsD(c b k l:Nat)(P:D):D:=.agg [.val (.int .u64 c),.val (.int .u64 b),.val (.int .u64 k),.val (.int .u64 l),P]
theorem c_fits(c k k' a l:Nat)(X:List (List D))(hX:A6 X=true)(P:D)(hP:P.pure=true)(h1:AN P=true)(hk:k<k')(hk':k'<=1048576)(ha:a<=l)(hl:l<=a+X.length)(hn:a+X.length<=1048576):
  A0 prog 26 [clF c k (.ptr [.val (.int .u64 a),.slice X false] 0),rsD c k k' l P] (.val (.int .i64 0)):=by
 have hN:=HC a X false (by omega)
 have hL:=Vx a (.slice X false)
 have c1:decide ((4611686018427387903:Int)<(k':Int))=false:=decide_eq_false (by omega)
 have c2:decide ((k':Int)<=k)=false:=decide_eq_false (by omega)
 have c3:decide ((l:Int)<a)=false:=decide_eq_false (by omega)
 have c4:decide ((a:Int)+X.length+1<=l)=false:=decide_eq_false (by omega)
 refine Zf [] func26 rfl ntmps26 results26 ?_
 (have z:=Za hX<|Za hP<|Za h1<|Za c1<|Za c2<|Za c3 c4;(try push_cast[z])<;>repeat' (first|apply Zi<;>intro _|refine Zc hL ?_|refine Zc hN ?_|exact Zo|with_reducible apply Za)<;>try push_cast[z])
 all_goals first|omega|skip
theorem VE(c:Nat)(hc:0<c)(hc2:c<=1048576):A2 prog 5 [.val (.int .u64 c)] [] (.tup [.ref 0 0 0 6,.val (.int .i64 0)]) [(0,.rows [[.val (.int .u64 c),.val (.int .u64 0),.val (.int .u64 1),.val (.pointer none),.val (.pointer none),.ref 2 0 0 2]] 6),(2,.rows [[.val (.int .u64 0),.slice [] true]] 2)]:=by
 have b1:((c:Int)==0)=false:=by simp;omega
 have c1:decide ((4611686018427387903:Int)<(c:Int))=false:=decide_eq_false (by omega)
 refine Zd [] func5 rfl ntmps5 results5 ?_
 (have z:=Za b1 c1;(try push_cast[z])<;>repeat' (first|apply Zi<;>intro _|exact Zo|with_reducible apply Za)<;>try push_cast[z])
 all_goals first|omega|skip
 apply Zr [(0,104),(2,88)] rfl<;>push_cast
theorem c_clKeep(c k s a n:Nat)(tb th:D)(oB:tb.pure=true)(b1:AN tb=true)(oH:th.pure=true)(h1:AN th=true)(X:List (List D))(hX:A6 X=true)(hl:X.length=n)(hc:0<c)(hn:a+n<=1048576):
  A2 prog 7 [.ref 1 0 0 6] ((1,clB c k s tb th)::qgH a 5 n X) (.tup []) ((1,clB c k (a+n+1) tb th)::qgH a 5 n X):=by
 have hZ:=Gd c hc
 have hN:=HC a X false (by omega)
 rw[hl] at hN
 refine Zd [] func7 rfl ntmps7 results7 ?_
 (have z:=Za hX<|Za hl<|Za oB<|Za b1<|Za oH h1;(try push_cast[z])<;>repeat' (first|apply Zi<;>intro _|exact Zo|with_reducible apply Za|((with_reducible show A1 _ _ _ _ _ _ _ _);refine A1.lend (clH c k s tb th) _ rfl (by exact hZ ..) (by first|exact .inl rfl|exact .inr ⟨_,_,_,rfl,rfl,rfl⟩) ?_ ?_ ?_ (by first|rfl|push_cast [z]) ?_;(· push_cast[z]<;>(with_unfolding_all exact A8 _));(· push_cast[z]<;>first|exact fun _=>trivial|(with_unfolding_all exact A8 _));(· push_cast[z]);try push_cast[z])|((with_reducible show A1 _ _ _ _ _ _ _ _);refine A1.lend (qgH a 5 n X) _ rfl (by exact hN ..) (by first|exact .inl rfl|exact .inr ⟨_,_,_,rfl,rfl,rfl⟩) ?_ ?_ ?_ (by first|rfl|push_cast [z]) ?_;(· push_cast[z]<;>(with_unfolding_all exact A8 _));(· push_cast[z]<;>first|exact fun _=>trivial|(with_unfolding_all exact A8 _));(· push_cast[z]);try push_cast[z])|fail)<;>try push_cast[z])
 all_goals first|omega|skip
 apply Zw<;>push_cast [hX,oB,oH]
theorem c_clMut(c k s a n:Nat)(tb:D)(T T':GT)(u:SMu)(oB:tb.pure=true)(b1:AN tb=true)(X:List (List D))(hX:A6 X=true)(hl:X.length=n)(hc:0<c)(hn:a+n<=1000000)
  (hRun:A0 prog 19 [Av T,.agg (Ao u.m)] (.tup [Av T',.val (.int .i64 0)])):
  A2 prog 6 [.ref 1 0 0 6,.agg (Ao u.m)] ((1,clB c k s tb (Ac T))::qgH a 5 n X) (.tup [.val (.int .u64 ((a:Int)+n+1)),.val (.int .i64 0)])
   ((1,clB c k s tb (Ac T'))::qgH a 0 (n+1) (X++[Bq (a+n+1,u)])):=by
 have hZ:=Gd c hc
 have hM:=Qs JJ u.m (Lw u) (by have:=Pv u;omega) (by rw[GF];omega)
 rw[Ju B1 FD u] at hM
 have hA:=c_qAdd a n X u hX hl (by omega)
 have oT:=A3 T
 have o1:=B3 T
 have oT':=A3 T'
 have o1':=B3 T'
 have oU:=Ay u.m
 have oS:=Es (Da (a+n+1,u)) hX
 simp only[Av] at*
 generalize Ac T=th at*
 generalize Ac T'=th' at*
 rw[Fe] at*
 generalize u.m=m at*
 refine Zd [] func6 rfl ntmps6 results6 ?_
 (have z:=Za hX<|Za hl<|Za oB<|Za b1<|Za oT<|Za o1<|Za oT'<|Za o1' oU;(try push_cast[z])<;>repeat' (first|apply Zi<;>intro _|refine Zc hM ?_|refine Zs [(3,3),(5,5)] hA ?_|refine Zc (hRun ..) ?_|exact Zo|with_reducible apply Za|((with_reducible show A1 _ _ _ _ _ _ _ _);refine A1.lend (clH c k s tb th) _ rfl (by exact hZ ..) (by first|exact .inl rfl|exact .inr ⟨_,_,_,rfl,rfl,rfl⟩) ?_ ?_ ?_ (by first|rfl|push_cast [z]) ?_;(· push_cast[z]<;>(with_unfolding_all exact A8 _));(· push_cast[z]<;>first|exact fun _=>trivial|(with_unfolding_all exact A8 _));(· push_cast[z]);try push_cast[z])|fail)<;>try push_cast[z])
 all_goals first|omega|skip
 apply Zr [(0,128)] rfl<;>push_cast [oS,oB,oT']
theorem c_pMay0:A0 prog 53 [.slice [] true] (.val (.int .i64 0)):=by
 refine Zf [] func53 rfl ntmps53 results53 ?_
 ((try push_cast)<;>repeat' (first|apply Zi<;>intro _|exact Zp|with_reducible apply Za)<;>try push_cast)
 all_goals first|omega|skip
 refine AWp.loopI mixed (by kernel_rfl) (ι:=Unit) (fun _=>True) (fun _=>⟨[(8,.val (.int .i64 0)),(7,.val (.int .i64 0)),(6,.slice [] true),(0,.slice [] true)],[],68⟩) (fun _=>0) () trivial ?_ fun i hi=>?_
 ·apply Zw<;>push_cast
 ·((try push_cast)<;>repeat' (first|apply Zi<;>intro _|exact Zp|with_reducible apply Za)<;>try push_cast)
theorem Xz(T:GT):A0 prog 27 [Av T,.slice [] true] (.tup [Av T,.val (.int .i64 0)]):=by
 have hM:=c_pMay0
 have oT:=A3 T
 have o1:=B3 T
 simp only[Av] at*
 generalize Ac T=th at*
 refine Zf [] func27 rfl ntmps27 results27 ?_
 (have z:=Za oT o1;(try push_cast[z])<;>repeat' (first|apply Zi<;>intro _|refine Zc hM ?_|exact Zo|with_reducible apply Za)<;>try push_cast[z])
 all_goals first|omega|skip
 refine AWp.loopI mixed (by kernel_rfl) (ι:=Unit) (fun _=>True) (fun _=>⟨[(17,.val (.int .i64 0)),(16,.val (.int .i64 0)),(15,.slice [] true),(4,.ref 8 0 0 1),(2,.ref 0 0 0 1)],[(0,.rows [[th]] 1),(8,.rows [[.any]] 1)],68⟩) (fun _=>0) () trivial ?_ fun i hi=>?_
 ·apply Zw<;>push_cast [oT]
 ·(have z:=Za oT o1;(try push_cast[z])<;>repeat' (first|apply Zi<;>intro _|exact Zo|with_reducible apply Za)<;>try push_cast[z])
theorem c_hd1(e:Int):A0 prog 57 [.val (.int .i64 e)] (.tup []):=by
 refine Zf [] func57 rfl ntmps57 results57 ?_
 ((try push_cast)<;>repeat' (first|apply Zi<;>intro _|exact Zp|with_reducible apply Za)<;>try push_cast)
theorem c_rRun(L:List SN)(t:Bool)(T:Nat->GT)(e:Nat->Int)(hl:L.length<=1048576)(hRun:∀ i,i<L.length->A0 prog 19 [Av (T i),.agg (Ao (L.getD i (0,.put)).2.m)] (.tup [Av (T (i+1)),.val (.int .i64 (e i))])):
  A0 prog 56 [Av (T 0),.slice (L.map Bq) t,.func (.func 57) [] []] (Av (T L.length)):=by
 have oL:=By L
 have lL:(L.map Bq).length=L.length:=by simp
 have oT:=fun i=>A3 (T i)
 have o1:=fun i=>B3 (T i)
 simp only[Av] at*
 refine Zf [] func56 rfl ntmps56 results56 ?_
 (have z:=Za oL<|Za lL<|Za oT o1;(try push_cast[z])<;>repeat' (first|apply Zi<;>intro _|exact Zo|with_reducible apply Za)<;>try push_cast[z])
 all_goals first|omega|skip
 refine Zl (fun i=>i<=L.length) (fun i=>⟨[(13,.val (.int .i64 i)),(12,.val (.int .i64 L.length)),(11,.slice (L.map Bq) t),(6,.ref 8 0 0 1),(3,.ref 0 0 0 1),(2,.func (.func 57) [] [])],[(0,.rows [[Ac (T i)]] 1),(8,.rows [[.any]] 1)],68⟩) (fun i=>L.length-i) 0 (A0D _) ?_ fun i hi=>?_
 ·apply Zw<;>push_cast [oT,oL]
 ·push_cast
  refine Af (fun ha=>?_) (fun ha=>?_)
  ·have hi':i<L.length:=by simpa using ha
   have e1:nr (L.map Bq) i=Bq (L.getD i (0,.put)):=by simp[nr,A02,hi']
   rw[Eo] at e1
   have hR:=hRun i hi'
   have hH:=c_hd1 (e i)
   have oU:=Ay (L.getD i (0,.put)).2.m
   have lU:=Bo (L.getD i (0,.put)).2.m
   rw[Fe] at*
   have w1:IntKind.i64.wrap ((i:Int)+1)=(i:Int)+1:=A9 (by omega) (by omega)
   have oTi:=oT i
   have o1i:=o1 i
   have oTj:=oT (i+1)
   have o1j:=o1 (i+1)
   (have z:=Za oL<|Za lL<|Za e1<|Za @oTi<|Za @o1i<|Za @oTj<|Za @o1j w1;(try push_cast[z])<;>repeat' (first|apply Zi<;>intro _|refine Zc hR ?_|refine Zv hH ?_|exact Zo|with_reducible apply Za)<;>try push_cast[z])
   all_goals first|omega|skip
   refine⟨i+1,by omega,by omega,?_⟩
   apply Zw<;>push_cast [oL,oTj]
  ·have hi':i=L.length:=by simp at ha;omega
   subst hi'
   have oTi:=oT L.length
   have o1i:=o1 L.length
   (have z:=Za @oTi @o1i;(try push_cast[z])<;>repeat' (first|apply Zi<;>intro _|exact Zo|with_reducible apply Za)<;>try push_cast[z])
theorem Vv(L:List SN)(t:Bool)(T:Nat->GT)(e:Nat->Int)(hl:L.length<=1048576)(hRun:∀ i,i<L.length->A0 prog 19 [Av (T i),.agg (Ao (L.getD i (0,.put)).2.m)] (.tup [Av (T (i+1)),.val (.int .i64 (e i))])):
  A0 prog 29 [Av (T 0),.slice (L.map Bq) t] (Av (T L.length)):=by
 have hR:=c_rRun L t T e hl hRun
 have oL:=By L
 have oT:=A3 (T 0)
 have o1:=B3 (T 0)
 have oT':=A3 (T L.length)
 have o1':=B3 (T L.length)
 simp only[Av] at*
 refine Zf [] func29 rfl ntmps29 results29 ?_
 (have z:=Za oL<|Za oT<|Za o1<|Za oT' o1';(try push_cast[z])<;>repeat' (first|apply Zi<;>intro _|refine Zc hR ?_|exact Zo|with_reducible apply Za)<;>try push_cast[z])
def digs(l:List UInt8):Prop:=∀ c ∈ l,48<=c.toNat/\c.toNat<=57
theorem Di(u:Nat):digs (Lib.decDigits u)/\Lib.decDigits u≠[]:=by
 induction u using Nat.strongRecOn with
 |ind u ih=>
  rw[Lib.decDigits]
  split
  ·rename_i h
   refine⟨fun c hc=>?_,by simp⟩
   cases A0d.1 hc
   have:(UInt8.ofNat (48+u)).toNat=48+u:=by simp;omega
   omega
  ·rename_i h
   obtain⟨h1,h2⟩:=ih (u/10) (by omega)
   refine⟨fun c hc=>?_,by simp⟩
   rcases A1t.1 hc with hc|hc
   ·exact h1 c hc
   ·cases A0d.1 hc
    have:(UInt8.ofNat (48+u%10)).toNat=48+u%10:=by simp;omega
    omega
theorem Pc(u:Nat):∀ c r,Lib.decDigits u=c::r->c.toNat=48->u=0/\r=[]:=by
 induction u using Nat.strongRecOn with
 |ind u ih=>
  intro c r h hc
  rw[Lib.decDigits] at h
  split at h
  ·rename_i hu
   cases h
   have:(UInt8.ofNat (48+u)).toNat=48+u:=by simp;omega
   exact⟨by omega,rfl⟩
  ·rename_i hu
   cases h2:Lib.decDigits (u/10) with
   |nil=>exact absurd h2 (Di _).2
   |cons d q=>
    rw[h2] at h
    simp only[A0c,List.cons.injEq] at h
    obtain⟨rfl,_⟩:=h
    have:=(ih (u/10) (by omega) d q h2 hc).1
    omega
theorem HQ(M:Nat):∀ (l r:List UInt8) (acc:Nat),Lib.parseUintM M acc (l++r)=(match Lib.parseUintM M acc l with|.ok a=>Lib.parseUintM M a r|e=>e)
 |[],r,acc=>rfl
 |c::l,r,acc=>by
  simp only[A0c,Lib.parseUintM]
  split
  ·split
   ·rfl
   ·split
    ·rfl
    ·exact HQ M l r _
  ·rfl
theorem LS(M:Nat)(hM:M<=18446744073709551615)(u:Nat)(hu:u<=M):Lib.parseUintM M 0 (Lib.decDigits u)=.ok u:=by
 induction u using Nat.strongRecOn with
 |ind u ih=>
  rw[Lib.decDigits]
  split
  ·rename_i h
   have e:(UInt8.ofNat (48+u)).toNat=48+u:=by simp;omega
   simp only[Lib.parseUintM,e]
   rw[if_pos (by omega),if_neg (by omega),if_neg (by omega)]
   congr 1;omega
  ·rename_i h
   have e:(UInt8.ofNat (48+u%10)).toNat=48+u%10:=by simp;omega
   rw[HQ,ih (u/10) (by omega) (by omega)]
   simp only[Lib.parseUintM,e]
   rw[if_pos (by omega),if_neg (by omega),if_neg (by omega)]
   congr 1;omega
theorem TM(n:Int)(h0: -9223372036854775808<=n)(h1:n<=9223372036854775807):Lib.parseIntB 64 (Lib.itoa n)=.ok n:=by
 unfold Lib.itoa
 by_cases hn:n<0
 ·rw[if_pos hn]
  have hd:=Di n.natAbs
  simp only[Lib.parseIntB,Lib.parseUintB]
  have e45:(45:UInt8).toNat=45:=rfl
  simp only[e45,or_true,if_true,if_neg hd.2]
  rw[LS _ (by decide) _ (by omega)]
  simp only[not_true,false_and,if_false,true_and]
  rw[if_neg (by omega)]
  congr 1;omega
 ·rw[if_neg hn]
  have hd:=Di n.toNat
  cases h:Lib.decDigits n.toNat with
  |nil=>exact absurd h hd.2
  |cons c r=>
   have hc:=hd.1 c (by rw[h];simp)
   simp only[Lib.parseIntB,Lib.parseUintB]
   rw[if_neg (show ¬(c.toNat=43∨c.toNat=45) by omega),if_neg (by simp),<-h,LS _ (by decide) _ (by omega)]
   simp only
   have e:¬c.toNat=45:=by omega
   simp only[e,false_and,if_false,not_false_eq_true,true_and]
   rw[if_neg (by omega)]
   congr 1;omega
section
variable{P:Program}{ops:Array Oper}{nx:Nat}{l:List Oper}{pos:Nat}{acc:List Eff}{s:St}{K:List Eff->St->Prop}
theorem A1.nilNe{dst:Option Tmp}{x y:Operand}{T t1 t2:TypeId}{ps:String}{af:Array Edge}(hx:evO P s.env.get x=.val .nilIface)(hy:evO P s.env.get y=.val .nilIface)(hr:∀ (a:Act) w,a.eval x=.nilIface->a.eval y=.nilIface->(execOp a.eval ⟨dst,.binOp .neq t1 x y t2,T,ps,af,none⟩).run P w=.ok (.value (.bool false)) w)
  (hk:GoS P ops nx l (pos+1) (⟨.val (.bool false),[],[]⟩::acc) (s.app dst ⟨.val (.bool false),[],[]⟩) K):A1 P ops nx (⟨dst,.binOp .neq t1 x y t2,T,ps,af,none⟩::l) pos acc s K:=by
 refine A1.does (AC.quiet fun _ _ _ _ I mu _ a w _ hxs _=>?_) hk
 have hxr:=hxs x (by simp[Op.operands])
 have hyr:=hxs y (by simp[Op.operands])
 rw[hx] at hxr
 rw[hy] at hyr
 exact⟨.bool false,hr a w hxr.val_inv hyr.val_inv,.val _ trivial⟩
end
def QO:Prop:=∀ n:Int,-9223372036854775808<=n->n<=9223372036854775807->A0 prog 303 [.val (.string ⟨(Lib.itoa n).toArray⟩),.val (.int .i64 10),.val (.int .i64 64)] (.tup [.val (.int .i64 n),.val .nilIface])
theorem k_null(n:Nat):KB n 214 [110,117,108,108] Bx:=by
 intro s i r d h hr hz hd
 have hw:=c_word s i _ r hz h
 rw[Se]
 refine Zd [] func214 rfl ntmps214 results214 ?_
 (have z:=trivial;(try push_cast)<;>repeat' (first|apply Zi<;>intro _|refine Zs [(1,1)] (hw ..) ?_|exact Zp|with_reducible apply Za)<;>try push_cast)
 all_goals first|omega|skip
 apply Zw<;>push_cast
theorem ZY(hU:J1)(n:Nat)(x:List UInt8)(hx:BU x):KB n 217 (txt x) (vT ⟨x.toArray⟩):=by
 intro s i r d h hr hz hd
 have hu:=Vw hU s i x r hx hz h
 rw[NX]
 refine Zd [] func217 rfl ntmps217 results217 ?_
 (have z:=trivial;(try push_cast)<;>repeat' (first|apply Zi<;>intro _|refine Zs [(1,1)] (hu ..) ?_|exact Zp|with_reducible apply Za)<;>try push_cast)
 all_goals first|omega|skip
 apply Zw<;>push_cast
abbrev zB:Blk:=.rows [[.val (.int .i64 0),.val (.bool false),.val (.int .i64 0),.val (.string ByteArray.empty),.slice [] true,.slice [] true]] 6
theorem k_number(hP:QO)(k:Nat)(n:Int)(h0: -9223372036854775808<=n)(h1:n<=9223372036854775807):KB k 220 (Lib.itoa n) (vI n):=by
 intro s i r d h hr hz hd
 have hp:=hP n h0 h1
 obtain⟨p,ds,e,hds,hp1⟩:∃ (p ds:List UInt8),Lib.itoa n=p++ds/\(digs ds/\ds≠[]/\∀ c q,ds=c::q->c.toNat=48->q=[]/\p=[])/\(p=[]∨p=[45]):=by
  unfold Lib.itoa
  by_cases hn:n<0
  ·rw[if_pos hn]
   refine⟨[45],Lib.decDigits n.natAbs,rfl,⟨(Di _).1,(Di _).2,fun c q hq hc=>?_⟩,.inr rfl⟩
   have:=(Pc _ c q hq hc).1
   omega
  ·rw[if_neg hn]
   exact⟨[],Lib.decDigits n.toNat,rfl,⟨(Di _).1,(Di _).2,fun c q hq hc=>⟨(Pc _ c q hq hc).2,rfl⟩⟩,.inl rfl⟩
 obtain⟨g1,g2,g3⟩:=hds
 rw[e] at h
 have hl:=h.2
 simp only[A04] at hl
 have hT:=h.tail
 have e3:s.extract i (i+p.length+ds.length)=⟨(Lib.itoa n).toArray⟩:=by
  apply ByteArray.ext
  rw[ByteArray.data_extract]
  apply Array.ext'
  rw[Array.toList_extract]
  show(s.data.toList.drop i).take (i+p.length+ds.length-i)=_
  have:=h.1
  unfold bl at this
  rw[this,e,show i+p.length+ds.length-i=(p++ds).length by rw[A04];omega,List.take_left]
 have key:∀ j,j<ds.length->decide ((48:Int)<=BT s ((i+p.length+j:Nat):Int))=true/\decide (BT s ((i+p.length+j:Nat):Int)<=57)=true:=fun j hj=>by
  have hc:=hT.strAt (j:=j) (c:=ds[j]) (A09 hj)
  have:=g1 ds[j] (A0X hj)
  rw[hc]
  exact⟨decide_eq_true (by omega),decide_eq_true (by omega)⟩
 have h48:(BT s ((i+p.length:Nat):Int)==48)=true->ds.length=1/\p=[]:=fun hc=>by
  cases hd:ds with
  |nil=>exact absurd hd g2
  |cons c q=>
   rw[hd] at hT
   have:=hT.str0
   rw[this] at hc
   obtain⟨rfl,rfl⟩:=g3 c q hd (by have:(c.toNat:Int)=48:=by simpa using hc
                                  omega)
   exact⟨rfl,rfl⟩
 have hend:i+p.length+ds.length=s.size∨(i+p.length+ds.length<s.size/\(decide ((48:Int)<=BT s ((i+p.length+ds.length:Nat):Int))=false∨decide (BT s ((i+p.length+ds.length:Nat):Int)<=57)=false)):=by
  cases hrr:r with
  |nil=>rw [hrr] at hl;exact .inl (by simpa[A1l] using hl)
  |cons c q=>
   have h2:At s (i+p.length+ds.length) (c::q) []:=by
    have:=h.tail
    refine⟨?_,by rw[hrr] at hl;simp at hl|-;omega⟩
    have hh:=h.1
    rw[hrr] at hh
    rw[A1l,<-A04,<-A1R,hh,List.drop_left,A0H]
   have h3:=h2.str0
   have h4:=hr c (by rw[hrr];rfl)
   refine .inr ⟨h2.lt,?_⟩
   rw[h3]
   rcases h4 with h4|h4|h4
   ·exact .inl (decide_eq_false (by omega))
   ·exact .inr (decide_eq_false (by omega))
   ·exact .inr (decide_eq_false (by omega))
 have hd0:0<ds.length:=A1M.2 g2
 have hif:i<s.size:=by omega
 have h45:(BT s (i:Int)==45)=(p==[45]):=by
  rcases hp1 with rfl|rfl
  ·cases hd:ds with
   |nil=>exact absurd hd g2
   |cons c q=>
    rw[hd] at h
    have:=h.str0
    have hc:=g1 c (by rw[hd];simp)
    rw[this]
    have:((c.toNat:Int)==45)=false:=beq_false_of_ne (by omega)
    rw[this];rfl
  ·have:=h.str0 (c:=45)
   rw[this];rfl
 have e4:(Lib.itoa n).length=p.length+ds.length:=by rw[e,A04]
 rw[e4]
 rw[<-e3] at hp
 clear e3 e hT g1 g3 e4
 obtain⟨f,hf⟩:∃ f,f=i+p.length:=⟨_,rfl⟩
 obtain⟨L,hL⟩:∃ L,L=ds.length:=⟨_,rfl⟩
 rw[<-A1l,<-hf,<-hL]
 rw[<-hf,<-hL] at hp hend
 rw[<-hf] at h48
 simp only[<-hf,<-hL] at key h48
 rw[<-hL] at hd0 hl
 push_cast at key hend
 have hpl:p.length<=1:=by rcases hp1 with rfl|rfl<;>simp
 have hfp:(p==[45])=true->f=i+1:=fun hh=>by
  have:p=[45]:=by simpa using hh
  rw[hf,this];rfl
 have hfn:(p==[45])=false->f=i:=fun hh=>by
  rcases hp1 with rfl|rfl
  ·simpa using hf
  ·simp at hh
 have h48':(BT s (f:Int)==48)=true->L=1/\f=i:=fun hh=>by
  obtain⟨q1,q2⟩:=h48 hh
  exact⟨q1,by rw[hf,q2];rfl⟩
 have hfi:i<=f:=by omega
 have hfs:f+L<=s.size:=by omega
 clear h48 hp1 h
 rw[KV]
 generalize(p==[45])=neg at*
 refine Zd [] func220 rfl ntmps220 results220 ?_
 (have z:=h45;(try push_cast[z])<;>repeat' (first|apply Zi<;>intro _|exact Zo|with_reducible apply Za)<;>try push_cast[z])
 all_goals first|omega|skip
 all_goals
  refine Zl (fun j=>j<=L) (fun j=>⟨[(6,.val (.int .i64 f)),(5,.val (.int .i64 i)),(0,.ref 1 0 0 3),(4,.ref 8 0 0 6)],[(1,rdB s (f+j)),(8,zB),(3,kB)],120⟩) (fun j=>L-j) 0 (by simp) ?_ fun j hj=>?_
 case k.k.h.refine_1=>
  have e5:=hfp (by assumption)
  apply Zw<;>push_cast
  all_goals(rw[A9 (by omega) (by omega)];omega)
 case k.k.k.refine_1=>
  have e5:=hfn (by assumption)
  subst e5
  apply Zw<;>push_cast
 all_goals
  clear hfp hfn h45
  by_cases hj2:j<L
  ·obtain⟨k1,k2⟩:=key j hj2
   have b0:decide ((↑f+↑j:Int)<↑s.size)=true:=decide_eq_true (by omega)
   have w1:IntKind.i64.wrap (↑f+↑j+1)=↑f+↑j+1:=A9 (by omega) (by omega)
   (have z:=Za b0<|Za k1<|Za k2 w1;(try push_cast[z])<;>repeat' (first|apply Zi<;>intro _|exact Zo|with_reducible apply Za)<;>try push_cast[z])
   all_goals first|omega|skip
   refine⟨j+1,hj2,by omega,?_⟩
   apply Zw<;>push_cast
   omega
  ·obtain rfl:j=L:=by omega
   have b1:((↑f+↑j:Int)==↑f)=false:=beq_false_of_ne (by omega)
   have w2:IntKind.i64.wrap (↑f+1)=↑f+1:=A9 (by omega) (by omega)
   have b34:((BT s (f:Int)==48)=true/\decide ((↑f+1:Int)<↑f+↑j)=false/\decide ((i:Int)<f)=false)∨((BT s (f:Int)==48)=false/\True/\True):=by
    cases b2:(BT s (f:Int)==48) with
    |true=>
     obtain⟨q1,q2⟩:=h48' b2
     exact .inl ⟨rfl,decide_eq_false (by omega),decide_eq_false (by omega)⟩
    |false=>exact .inr ⟨rfl,trivial,trivial⟩
   have hend3:(decide ((↑f+↑j:Int)<↑s.size)=false/\True/\True)∨(decide ((↑f+↑j:Int)<↑s.size)=true/\decide ((48:Int)<=BT s (↑f+↑j))=false/\f+j<s.size)∨(decide ((↑f+↑j:Int)<↑s.size)=true/\decide (BT s (↑f+↑j)<=57)=false/\f+j<s.size):=by
    rcases hend with hend|⟨hend,hq|hq⟩
    ·exact .inl ⟨decide_eq_false (by omega),trivial,trivial⟩
    ·exact .inr (.inl ⟨decide_eq_true (by omega),hq,hend⟩)
    ·exact .inr (.inr ⟨decide_eq_true (by omega),hq,hend⟩)
   clear hend key
   rcases b34 with⟨b2,b3,b4⟩|⟨b2,b3,b4⟩<;>rcases hend3 with⟨b0,hq,hqs⟩|⟨b0,hq,hqs⟩|⟨b0,hq,hqs⟩
   all_goals
    (have z:=Za b0<|Za b1<|Za w2<|Za b2<|Za b3<|Za b4 hq;(try push_cast[z])<;>repeat' (first|apply Zi<;>intro _|refine Zc (hp ..) ?_|exact Zo|with_reducible apply Za)<;>try push_cast[z])
    all_goals first|omega|skip
    all_goals
     refine A1.nilNe (by push_cast) (by push_cast) (fun a w h1 h2=>?_) ?_
     ·have u:=run_underlying (P:=prog) underlying302
      simp only[execOp,h1,h2,eqGuard,binOp]
      unfold Op.equal Op.maxDepth Op.equalIn
      simp[u]
     ·((try push_cast)<;>repeat' (first|apply Zi<;>intro _|exact Zp|with_reducible apply Za)<;>try push_cast)
      all_goals first|omega|skip
      apply Zw<;>push_cast
      all_goals omega
theorem c_key(hU:J1)(s:ByteArray)(i:Nat)(x r:List UInt8)(es:List (Value×Nat×D))(ck:Nat)(hx:BU x)(hz:s.size<=1048576)(h:At s i (txt x) r)(hf:DE .str (.string ⟨x.toArray⟩) es 0=some none)(he:∀ r:Nat->Nat,(es.map fun p=>(p.1,p.2.1,AV r p.2.2))=es)(hl:∀ n,(es.all fun p=>ltD n p.2.2)=true):
  A2 prog 300 [.ref 1 0 0 3,.mref 5] [(1,rdB s i),(5,.map es ck)] (.val (.string ⟨x.toArray⟩)) [(1,rdB s (i+(txt x).length)),(5,.map (es++[(.string ⟨x.toArray⟩,ck,.agg [])]) (ck+1))]:=by
 have hu:=Vw hU s i x r hx hz h
 have hS:=Qp s i (At.lt (x:=x++[34]) h) (by rw[At.str0 (x:=x++[34]) h];unfold nbl;decide)
 refine Zd [] func300 rfl ntmps300 results300 ?_
 (have z:=hf;(try push_cast[z])<;>repeat' (first|apply Zi<;>intro _|refine Zs [(1,1)] hS ?_|refine Zs [(1,1)] (hu ..) ?_|exact Zo|with_reducible apply Za)<;>try push_cast[z])
 all_goals first|omega|skip
 apply Zw<;>push_cast [he,hl,A0K,List.all_append]
theorem Pg:∀ a:List UInt8,BX a a=0
 |[]=>rfl
 |c::a=>by simp[BX,Pg a]
def TT(k x l y:List UInt8):List UInt8:=123::(txt k++(58::(x++(44::(txt l++(58::(y++[125])))))))
theorem k_object(hU:J1)(n:Nat)(k l x y:List UInt8)(v u:GV)(hk:BU k)(hl:BU l)(hkl:Ci ⟨l.toArray⟩ ⟨k.toArray⟩=1)(hv:DF n x v)(hw:DF n y u):
  KB (n+1) 219 (TT k x l y) (vO [(⟨k.toArray⟩,v),(⟨l.toArray⟩,u)]):=by
 intro s i r d ha hr hz hd
 have w0:IntKind.i64.wrap (↑i+1)=↑i+1:=A9 (by have:=ha.2;omega) (by have:=ha.2;omega)
 have wd:IntKind.i64.wrap (↑d+1)=↑d+1:=A9 (by omega) (by omega)
 have hm:i+(TT k x l y).length=i+1+(txt k).length+1+x.length+1+(txt l).length+1+y.length+1:=by
  simp only[TT,A0g,A04,A0t];omega
 have a1:=ha.tail1
 have a2:=a1.tail
 have a3:=a2.tail1
 have a4:=a3.tail
 have a5:=a4.tail1
 have a6:=a5.tail
 have a7:=a6.tail1
 have a8:=a7.tail
 rw[hm]
 have f1:=JS s (i+1) 125 (At.lt (x:=k++[34]) a1.head) (by rw[At.str0 (x:=k++[34]) a1.head];decide) (by rw[At.str0 (x:=k++[34]) a1.head];unfold nbl;decide)
 have k1:=c_key hU s (i+1) k _ [] 0 hk hz a1.head rfl (fun _=>rfl) (fun _=>rfl)
 have t1:=EV s _ 58 a2.lt hz a2.str0 (by unfold nbl;decide)
 have v1:=hv.2 s _ _ (d+1) a3.head (by intro c hc;cases hc;exact .inl rfl) hz (by omega)
 have t2:=EV s _ 44 a4.lt hz a4.str0 (by unfold nbl;decide)
 have k2:=c_key hU s _ l _ [(.string ⟨k.toArray⟩,0,.agg [])] 1 hl hz a5.head (by
  have:¬(ByteArray.mk l.toArray)=⟨k.toArray⟩:=fun e=>by
   rw[e] at hkl
   simp only[Ci,Pg] at hkl
   omega
  have t2:¬(ByteArray.mk k.toArray)=⟨l.toArray⟩:=fun e=>this e.symm
  simp[DE,keq,this,t2]) (fun _=>rfl) (fun _=>rfl)
 have t3:=EV s _ 58 a6.lt hz a6.str0 (by unfold nbl;decide)
 have v2:=hw.2 s _ _ (d+1) a7.head (by intro c hc;cases hc;exact .inr (.inr rfl)) hz (by omega)
 have f2:=JS s _ 44 a8.lt (by rw[a8.str0];decide) (by rw[a8.str0];unfold nbl;decide)
 have t4:=EV s _ 125 a8.lt hz a8.str0 (by unfold nbl;decide)
 have hs:=c_sort2 (⟨k.toArray⟩,v) (⟨l.toArray⟩,u) hkl
 rw[Ah,Ah] at hs
 obtain⟨x1,x2,x3,x4⟩:=An v
 obtain⟨y1,y2,y3,y4⟩:=An u
 rw[Mm]
 simp only[A0h,A0G,Ah]
 generalize A5 v=V at*
 generalize A5 u=U at*
 clear ha a1 a2 a3 a4 a5 a6 a7 a8 hv hw hm
 refine Zd [] func219 rfl ntmps219 results219 ?_
 ((try push_cast)<;>repeat' (first|apply Zi<;>intro _|exact Zp|with_reducible apply Za)<;>try push_cast)
 refine AWp.scope (Zy ?_)
 (have z:=w0;(try push_cast[z])<;>repeat' (first|apply Zi<;>intro _|refine Zs [(1,1)] (f1 ..) ?_|exact Zo|with_reducible apply Za)<;>try push_cast[z])
 all_goals first|omega|skip
 generalize hq2:i+1+(txt k).length+1+x.length+1=q2 at*
 refine AWp.loopI mixed (by kernel_rfl) (ι:=Bool) (fun _=>True) (fun b=>match b with
  |false=>⟨[(0,.ref 1 0 0 3),(1,.val (.int .i64 d)),(4,.ref 8 0 0 6),(5,.ref 24 0 0 6),(6,.mref 120)],[(1,rdB s (i+1)),(3,kB),(8,vB 0 (.slice [] true) (.slice [] true)),(24,vB 6 (.slice [] true) (.slice [] true)),(120,.map [] 0)],1000⟩
  |true=>⟨[(0,.ref 1 0 0 3),(1,.val (.int .i64 d)),(4,.ref 8 0 0 6),(5,.ref 24 0 0 6),(6,.mref 120)],[(1,rdB s q2),(3,kB),(8,vB 0 (.slice [] true) (.slice [] true)),(24,vB 6 (.slice [] true) (.gref 48 1)),(48,.grow [.val (.string ⟨k.toArray⟩)::V] 7),(120,.map [(.string ⟨k.toArray⟩,0,.agg [])] 1)],1000⟩) (fun b=>if b then 0 else 1) false trivial ?_ fun b _=>?_
 ·apply Zw<;>push_cast
 ·cases b with
  |false=>
   simp only
   (have z:=Za wd<|Za x1<|Za x2<|Za x3 x4;(try push_cast[z])<;>repeat' (first|apply Zi<;>intro _|refine Zs [(1,1),(5,120)] k1 ?_|refine Zs [(1,1)] (t1 ..) ?_|refine Zs [(1,1),(3,3)] (v1 ..) ?_|refine Zs [(1,1)] (t2 ..) ?_|exact Zo|with_reducible apply Za)<;>try push_cast[z])
   all_goals first|omega|(simp[x2];done)|skip
   refine⟨true,by decide,?_⟩
   simp only
   apply Zr [(48,2128)] rfl<;>push_cast [x1,x2,x3,x4]
  |true=>
   simp only
   (have z:=Za wd<|Za x1<|Za x2<|Za x3<|Za x4<|Za y1<|Za y2<|Za y3 y4;(try push_cast[z])<;>repeat' (first|apply Zi<;>intro _|refine Zs [(1,1),(5,120)] k2 ?_|refine Zs [(1,1)] (t3 ..) ?_|refine Zs [(1,1),(3,3)] (v2 ..) ?_|refine Zs [(1,1)] (f2 ..) ?_|refine Zs [(1,1)] (t4 ..) ?_|refine Zq (hs ..) ?_ ?_|exact Zo|with_reducible apply Za)<;>try push_cast[z])
   all_goals first|omega|(simp[y2];done)|skip
   ·intro z hz d hd
    cases A0d.1 hz
    rcases A0s.1 hd with rfl|hd
    ·rfl
    ·exact A0u.1 y3 d hd
   ·refine Ar.trans (Ar.fzB (b:=2128) (x:=.grow ([.val (.string ⟨k.toArray⟩)::V]++[.val (.string ⟨l.toArray⟩)::U]) 7) rfl) ?_
    push_cast[x1,x2,x3,y1,y2,y3]
    apply Zw<;>push_cast [x1,x2,x3,y1,y2,y3]
    all_goals trace_state
def DJ:List (List UInt8)->List UInt8
 |[]=>[]
 |x::l=>x++l.flatMap (44:: ·)
theorem Wb(l:List (List UInt8))(x:List UInt8):DJ (l++[x])=DJ l++(if l=[] then [] else [44])++x:=by
 cases l with
 |nil=>simp [DJ]
 |cons y l=>simp [DJ]
abbrev E5(s:ByteArray):List UInt8:=(A00 s).data.toList
mutual
def tv:GV->List UInt8
 |.mk k b n s l o=>if k=3 then Lib.itoa n else if k=4 then E5 s else if k=5 then 91::(DJ (tvs l)++[93]) else if k=6 then 123::(DJ (tvo o)++[125]) else [110,117,108,108]
def tvs:List GV->List (List UInt8)
 |[]=>[]
 |v::l=>tv v::tvs l
def tvo:List (ByteArray×GV)->List (List UInt8)
 |[]=>[]
 |(k,v)::l=>(E5 k++58::tv v)::tvo l
end
theorem UR:∀ l:List GV,tvs l=l.map tv
 |[]=>rfl
 |v::l=>by simp[tvs,UR l]
def tvm(p:ByteArray×GV):List UInt8:=E5 p.1++58::tv p.2
theorem US:∀ l:List (ByteArray×GV),tvo l=l.map tvm
 |[]=>rfl
 |(k,v)::l=>by simp[tvo,US l,tvm]
theorem Gj(v:GV):tv v=if v.kind=3 then Lib.itoa v.n else if v.kind=4 then E5 v.s else if v.kind=5 then 91::(DJ (v.list.map tv)++[93]) else if v.kind=6 then 123::(DJ (v.obj.map tvm)++[125]) else [110,117,108,108]:=by
 cases v;rw[tv];simp only[UR,US];rfl
theorem Ni{α:Type}(f:α->List UInt8)(l:List α)(i:Nat)(h:i<l.length):DJ ((l.take (i+1)).map f)=DJ ((l.take i).map f)++(if i=0 then [] else [44])++f (l[i]'h):=by
 rw[A1y h,A0K,List.map_singleton,Wb]
 congr 2
 by_cases hi:i=0
 ·subst hi;simp
 ·rw[if_neg hi,if_neg]
  intro e
  have:=congrArg List.length e
  simp at this
  rcases this with h1|h1
  ·exact hi h1
  ·subst h1;simp at h
theorem Rm{α:Type}(f:α->List UInt8)(l:List α)(i:Nat):(DJ ((l.take i).map f)).length<=(DJ (l.map f)).length:=by
 rcases A14 i l.length with h|h
 ·conv=>rhs;rw[<-A12 i l,A0K]
  cases hx:(l.take i).map f with
  |nil=>simp [DJ]
  |cons y m=>simp [DJ]
 ·rw[A08 h];exact A0a _
theorem E4:E5 tN=txt [110]/\E5 tK=txt [107]/\E5 Gz=txt [105,110,99]/\E5 Gx=txt [112,117,116]/\E5 tBy=txt [98,121]/\E5 Cp=txt [107,101,121]/\E5 Cz=txt [118,97,108,117,101]/\E5 Ei=txt [97,114,103,115]/\E5 Eh=txt [110,97,109,101]/\
  E5 tId=txt [105,100]/\E5 CU=txt [109,117,116,97,116,111,114]/\E5 Dm=txt [99,108,105,101,110,116]/\E5 Gy=txt [108,105,115,116]:=by
 refine⟨?_,?_,?_,?_,?_,?_,?_,?_,?_,?_,?_,?_,?_⟩<;>kernel_rfl
theorem tv_N:tv Bx=[110,117,108,108]:=by rw[Gj];rfl
theorem tv_I(n:Int):tv (vI n)=Lib.itoa n:=by rw[Gj];rfl
theorem Y8(s:ByteArray)(x:List UInt8)(h:E5 s=txt x):tv (vT s)=txt x:=by rw[Gj];exact h
theorem VO(k l:ByteArray)(v u:GV)(x y:List UInt8)(hk:E5 k=txt x)(hl:E5 l=txt y):tv (vO [(k,v),(l,u)])=TT x (tv v) y (tv u):=by
 rw[Gj]
 show 123::(DJ [tvm (k,v),tvm (l,u)]++[125])=_
 simp[DJ,tvm,hk,hl,TT]
theorem tv_L(l:List GV):tv (vL l)=N5 (l.map tv):=by
 rw[Gj]
 show 91::(DJ (l.map tv)++[93])=_
 have hj:∀ m:List (List UInt8),m.flatMap (44:: ·)++[93]=Fc m:=by
  intro m
  induction m with
  |nil=>rfl
  |cons y m ih=>simp only[A0Y,A0b,ih];simp[Fc]
 cases l with
 |nil=>rfl
 |cons v l=>simp only[A0h,DJ,N5,A0b,hj]
theorem v_N(n:Nat):DF n (tv Bx) Bx:=by
 rw[tv_N]
 exact D9 n _ 110 _ _ (by decide) (k_null n)
theorem v_T(hU:J1)(n:Nat)(x:List UInt8)(h:E5 ⟨x.toArray⟩=txt x)(hx:BU x):DF n (tv (vT ⟨x.toArray⟩)) (vT ⟨x.toArray⟩):=by
 rw[Y8 _ _ h]
 exact D9 n _ 34 _ _ (by decide) (ZY hU n x hx)
theorem v_O(hU:J1)(n:Nat)(x y:List UInt8)(v u:GV)(h:E5 ⟨x.toArray⟩=txt x)(h':E5 ⟨y.toArray⟩=txt y)(hx:BU x)(hy:BU y)(hxy:Ci ⟨y.toArray⟩ ⟨x.toArray⟩=1)(hv:DF n (tv v) v)(hu:DF n (tv u) u):DF (n+1) (tv (vO [(⟨x.toArray⟩,v),(⟨y.toArray⟩,u)])) (vO [(⟨x.toArray⟩,v),(⟨y.toArray⟩,u)]):=by
 rw[VO _ _ v u x y h h']
 exact D9 (n+1) _ 123 _ _ (by decide) (k_object hU n x y (tv v) (tv u) v u hx hy hxy hv hu)
theorem v_L(n:Nat)(l:List GV)(hl:l.length<=1048576)(h:∀ v ∈ l,DF n (tv v) v):DF (n+1) (tv (vL l)) (vL l):=by
 rw[tv_L]
 have hk:=k_list n (l.map fun v=>(tv v,v)) (by simpa using hl) (fun p hp=>by
  obtain⟨v,hv,rfl⟩:=A0l.1 hp
  exact h v hv)
 rw[A10,A10] at hk
 have e1:((fun x=>x.1) ∘ fun v=>(tv v,v))=tv:=rfl
 have e2:((fun x=>x.2) ∘ fun v:GV=>(tv v,v))=id:=rfl
 rw[e1,e2,List.map_id] at hk
 cases l with
 |nil=>exact D9 (n+1) _ 91 _ _ (by decide) hk
 |cons v l=>exact D9 (n+1) _ 91 _ _ (by decide) hk
theorem v_I(hP:QO)(n:Nat)(k:Int)(h0: -9223372036854775808<=k)(h1:k<=9223372036854775807):DF n (tv (vI k)) (vI k):=by
 rw[tv_I]
 have hk:=k_number hP n k h0 h1
 obtain⟨c,y,e,hc⟩:∃ c y,Lib.itoa k=c::y/\NR (c.toNat:Int)=some 220:=by
  unfold Lib.itoa
  by_cases hn:k<0
  ·rw[if_pos hn]
   exact⟨45,Lib.decDigits k.natAbs,rfl,by decide⟩
  ·rw[if_neg hn]
   obtain⟨h1,h2⟩:=Di k.toNat
   cases hd:Lib.decDigits k.toNat with
   |nil=>exact absurd hd h2
   |cons c y=>
    refine⟨c,y,rfl,?_⟩
    have:=h1 c (by rw[hd];simp)
    unfold NR
    rw[if_neg (by omega),if_neg (by omega),if_neg (by omega),if_neg (by omega),if_neg (by omega),if_neg (by omega),if_neg (by omega),if_pos (by omega)]
 rw[e] at hk|-
 exact D9 n _ c y _ hc hk
section
variable(hU:J1)(hP:QO)
include hU hP
theorem v_args(m:SMu)(hm:m.ok):DF 1 (tv m.args) m.args:=by
 obtain⟨q1,q2,q3,q4,q5,q6,q7,q8,q9,q10,q11,q12,q13⟩:=E4
 cases m with
 |inc n=>exact v_O hU 0 [98,121] [107,101,121] (vI n) (vT tN) q5 q6 (by unfold BU;decide) (by unfold BU;decide) (by decide) (v_I hP 0 n hm.1 hm.2) (v_T hU 0 [110] q1 (by unfold BU;decide))
 |put=>exact v_O hU 0 [107,101,121] [118,97,108,117,101] (vT tK) Bx q6 q7 (by unfold BU;decide) (by unfold BU;decide) (by decide) (v_T hU 0 [107] q2 (by unfold BU;decide)) (v_N 0)
theorem v_o(m:SMu)(hm:m.ok):DF 2 (tv m.o) m.o:=by
 obtain⟨q1,q2,q3,q4,q5,q6,q7,q8,q9,q10,q11,q12,q13⟩:=E4
 refine v_O hU 1 [97,114,103,115] [110,97,109,101] m.args (vT m.name) q8 q9 (by unfold BU;decide) (by unfold BU;decide) (by decide) (v_args hU hP m hm) ?_
 cases m with
 |inc n=>exact v_T hU 1 [105,110,99] q3 (by unfold BU;decide)
 |put=>exact v_T hU 1 [112,117,116] q4 (by unfold BU;decide)
theorem v_snO(x:SN)(h1:Dd x.1)(h2:x.2.ok):DF 3 (tv (snO x)) (snO x):=by
 obtain⟨q1,q2,q3,q4,q5,q6,q7,q8,q9,q10,q11,q12,q13⟩:=E4
 exact v_O hU 2 [105,100] [109,117,116,97,116,111,114] (vI x.1) x.2.o q10 q11 (by unfold BU;decide) (by unfold BU;decide) (by decide) (v_I hP 2 x.1 (by omega) (by have:=h1.2;omega)) (v_o hU hP x.2 h2)
theorem v_puO(c:Nat)(l:List SN)(h:HL c l):DF 5 (tv (puO c l)) (puO c l):=by
 obtain⟨q1,q2,q3,q4,q5,q6,q7,q8,q9,q10,q11,q12,q13⟩:=E4
 refine v_O hU 4 [99,108,105,101,110,116] [108,105,115,116] (vI c) (vL (l.map snO)) q12 q13 (by unfold BU;decide) (by unfold BU;decide) (by decide) (v_I hP 4 c (by omega) (by have:=h.1.2;omega)) ?_
 refine v_L 3 _ (by have:=h.2.1;simp;omega) fun v hv=>?_
 obtain⟨x,hx,rfl⟩:=A0l.1 hv
 exact v_snO hU hP x (h.2.2 x hx).1 (h.2.2 x hx).2
end
abbrev tWr:TypeId:=151
abbrev wkB(a:D)(g len:Nat)(n:Int):Blk:=.pr g (prR tWr [.val (.bool true),a,.gref 1 len,.val (.int .i64 n)])
abbrev byB(g:Nat)(t:List UInt8):Blk:=.pr g (prG 5 t)
abbrev QG:D:=.val (.pointer none)
abbrev Bv:D:=.ref 0 0 1 4
theorem Lp(d:D):Kz prog 327 [d] d:=
 Kz.of (e:=Extern.AbiNoEscape.same) func327 (by kernel_rfl) (by kernel_rfl) (by kernel_rfl) (by kernel_rfl) fun w I mu vs hr=>by
  obtain⟨h1,h2⟩:=hr
  match vs,h1 with
  |[v],_=>exact ⟨v,Lib.run_noEscape w v,h2 0 (by simp)⟩
theorem conv_to(w:World)(k:Nat)(us:Array Value)(h:w.heap[k]? =some (.cells us tWr (0,0)))(h4:us.size=4):(convert 147 291 (.pointer (some ⟨k,0*4+1,none⟩))).run prog w=.ok (.pointer (some ⟨k,0*4+1,none⟩)) w:=by
 obtain⟨j,hj,hj2⟩:∃ j,prog.info? 149=some j/\j.size=2:=⟨_,rfl,by kernel_rfl⟩
 exact Lib.run_to_unsafe w _ underlying147 underlying291 hj (by omega) (by simp[World.shape?,h];exact⟨rfl,rfl⟩) (by show 0*4+1<us.size;omega)
theorem Xj(w:World)(k:Nat)(us:Array Value)(h:w.heap[k]? =some (.cells us tWr (0,0)))(h4:us.size=4):(convert 291 147 (.pointer (some ⟨k,0*4+1,none⟩))).run prog w=.ok (.pointer (some ⟨k,0*4+1,none⟩)) w:=by
 obtain⟨j,hj,hj2⟩:∃ j,prog.info? 149=some j/\j.size=2:=⟨_,rfl,by kernel_rfl⟩
 exact Lib.run_from_unsafe w _ underlying291 underlying147 hj (cells:=4) (e:=tWr) (by simp[World.shape?,h,h4]) (by kernel_rfl)
abbrev wkH(a:D)(t:List UInt8)(n:Int):Hp:=[(1,wkB a 4 t.length n),(4,byB 4 t)]
theorem c_ccNil(t:List UInt8)(n:Int):A2 prog 285 [.ref 1 0 1 4] (wkH QG t n) (.tup []) (wkH Bv t n):=by
 have hN:=Lp (.ref 1 0 1 4)
 unfold wkH
 generalize t.length=len at*
 refine Zd [] func285 rfl ntmps285 results285 ?_
 (have z:=trivial;(try push_cast)<;>repeat' (first|apply Zi<;>intro _|exact Zp|with_reducible apply Za|((with_reducible show A1 _ _ _ _ _ _ _ _);refine A1.loadR (by first|(push_cast;done)|((try push_cast);rfl)) rfl (by first|(push_cast;done)|((try push_cast);rfl)) (by first|(push_cast;done)|((try push_cast);rfl)) (by simp) (by first|rfl|(push_cast;rfl)) (by first|exact .inl rfl|exact .inr ⟨_,_,_,rfl,rfl,rfl⟩) ?_)<;>try push_cast|((with_reducible show A1 _ _ _ _ _ _ _ _);refine A1.convR (by first|(push_cast;done)|((try push_cast);rfl)) (by first|(push_cast;done)|((try push_cast);rfl)) (by exact conv_to) (by first|exact .inl rfl|exact .inr ⟨_,_,_,rfl,rfl,rfl⟩) ?_)<;>try push_cast|(with_reducible show A1 _ _ _ _ _ _ _ _;refine A1.ext (by(try push_cast);exact hN ..) (by first|exact .inl rfl|exact .inr ⟨_,_,_,rfl,rfl,rfl⟩) rfl ?_)<;>try push_cast|((with_reducible show A1 _ _ _ _ _ _ _ _);refine A1.convR (by first|(push_cast;done)|((try push_cast);rfl)) (by first|(push_cast;done)|((try push_cast);rfl)) (by exact Xj) (by first|exact .inl rfl|exact .inr ⟨_,_,_,rfl,rfl,rfl⟩) ?_)<;>try push_cast|((with_reducible show A1 _ _ _ _ _ _ _ _);refine A1.storeR (.ref 0 0 1 4) 4 (by first|(push_cast;done)|((try push_cast);rfl)) rfl rfl (by first|(push_cast;done)|((try push_cast);rfl)) (by first|(push_cast;done)|((try push_cast);rfl)) (by simp) (by first|(push_cast;done)|rfl|(push_cast;rfl)) trivial (by first|rfl|(push_cast;rfl)) (by first|exact .inl rfl|exact .inr ⟨rfl,rfl⟩) (by first|exact .inl rfl|exact .inr ⟨_,_,_,rfl,rfl,rfl⟩) ?_)<;>try push_cast|fail)<;>try push_cast)
 apply Zw<;>push_cast
theorem bld_info:∃ j:TypeInfo,prog.info? 149=some j:=⟨_,rfl⟩
theorem MP(t:List UInt8)(n:Int):A2 prog 285 [.ref 1 0 1 4] (wkH Bv t n) (.tup []) (wkH Bv t n):=by
 obtain⟨j,hj⟩:=bld_info
 unfold wkH
 generalize t.length=len at*
 refine Zd [] func285 rfl ntmps285 results285 ?_
 (have z:=trivial;(try push_cast)<;>repeat' (first|apply Zi<;>intro _|exact Zp|with_reducible apply Za|((with_reducible show A1 _ _ _ _ _ _ _ _);refine A1.loadR (by first|(push_cast;done)|((try push_cast);rfl)) rfl (by first|(push_cast;done)|((try push_cast);rfl)) (by first|(push_cast;done)|((try push_cast);rfl)) (by simp) (by first|rfl|(push_cast;rfl)) (by first|exact .inl rfl|exact .inr ⟨_,_,_,rfl,rfl,rfl⟩) ?_)<;>try push_cast|((with_reducible show A1 _ _ _ _ _ _ _ _);refine A1.neSame underlying147 hj (by first|(push_cast;done)|((try push_cast);rfl)) (by first|(push_cast;done)|((try push_cast);rfl)) (by first|exact .inl rfl|exact .inr ⟨_,_,_,rfl,rfl,rfl⟩) ?_)<;>try push_cast|fail)<;>try push_cast)
 apply Zw<;>push_cast
theorem UP:∃ j:TypeInfo,prog.info? 5=some j/\j.zero=some (.int .u8 0)/\j.size=1/\j.bytes=1:=⟨_,rfl,by kernel_rfl,by kernel_rfl,by kernel_rfl⟩
def CcOk(a:D):Prop:=∀ t n,A2 prog 285 [.ref 1 0 1 4] (wkH a t n) (.tup []) (wkH Bv t n)
theorem Fl(a:D)(hc:CcOk a)(t:List UInt8)(n:Int)(s:ByteArray)(hne:t++s.data.toList≠[])(hl:t.length+s.size<=1073741824):A2 prog 208 [.ref 1 0 1 4,.val (.string s)] (wkH a t n) (.tup [.val (.int .i64 s.size),.val .nilIface]) (wkH Bv (t++s.data.toList) n):=by
 have hc:=hc t n
 obtain⟨j,hj,hz,hs1,hb1⟩:=UP
 have hsl:=underlying39
 have hst:=underlying9
 unfold wkH at*
 have hll:(t++s.data.toList).length=t.length+s.size:=by rw[A04];rfl
 rw[hll]
 refine Zd [] func208 rfl ntmps208 results208 ?_
 (have z:=trivial;(try push_cast)<;>repeat' (first|apply Zi<;>intro _|refine Zs [(1,1),(4,4)] (hc ..) ?_|exact Zp|with_reducible apply Za|((with_reducible show A1 _ _ _ _ _ _ _ _);refine A1.loadR (by first|(push_cast;done)|((try push_cast);rfl)) rfl (by first|(push_cast;done)|((try push_cast);rfl)) (by first|(push_cast;done)|((try push_cast);rfl)) (by simp) (by first|rfl|(push_cast;rfl)) (by first|exact .inl rfl|exact .inr ⟨_,_,_,rfl,rfl,rfl⟩) ?_)<;>try push_cast|((with_reducible show A1 _ _ _ _ _ _ _ _);refine A1.appG hsl hst hj hz hs1 hb1 hne hl (by first|(push_cast;done)|((try push_cast);rfl)) (by first|(push_cast;done)|((try push_cast);rfl)) (by first|(push_cast;done)|((try push_cast);rfl)) (by first|exact .inl rfl|exact .inr ⟨_,_,_,rfl,rfl,rfl⟩) ?_)<;>try push_cast|((with_reducible show A1 _ _ _ _ _ _ _ _);refine A1.storeR (.gref 1 (t.length+s.size)) 88 (by first|(push_cast;done)|((try push_cast);rfl)) rfl rfl (by first|(push_cast;done)|((try push_cast);rfl)) (by first|(push_cast;done)|((try push_cast);rfl)) (by simp) (by first|(push_cast;done)|rfl|(push_cast;rfl)) trivial (by first|rfl|(push_cast;rfl)) (by first|exact .inl rfl|exact .inr ⟨rfl,rfl⟩) (by first|exact .inl rfl|exact .inr ⟨_,_,_,rfl,rfl,rfl⟩) ?_)<;>try push_cast|fail)<;>try push_cast)
 apply Zr [(4,88)] rfl<;>push_cast
 all_goals trace_state
theorem c_String(t:List UInt8)(n:Int)(hne:t≠[])(hl:t.length<=1073741824):A2 prog 78 [.ref 1 0 1 4] (wkH Bv t n) (.val (.string ⟨t.toArray⟩)) []:=by
 have hp:=underlying215
 have hce:prog.cellsOf 5=1:=by kernel_rfl
 unfold wkH
 refine Zd [] func78 rfl ntmps78 results78 ?_
 (have z:=trivial;(try push_cast)<;>repeat' (first|apply Zi<;>intro _|exact Zp|with_reducible apply Za|((with_reducible show A1 _ _ _ _ _ _ _ _);refine A1.loadR (by first|(push_cast;done)|((try push_cast);rfl)) rfl (by first|(push_cast;done)|((try push_cast);rfl)) (by first|(push_cast;done)|((try push_cast);rfl)) (by simp) (by first|rfl|(push_cast;rfl)) (by first|exact .inl rfl|exact .inr ⟨_,_,_,rfl,rfl,rfl⟩) ?_)<;>try push_cast|((with_reducible show A1 _ _ _ _ _ _ _ _);refine A1.usd hne (by first|(push_cast;done)|((try push_cast);rfl)) (by first|(push_cast;done)|((try push_cast);rfl)) (by first|exact .inl rfl|exact .inr ⟨_,_,_,rfl,rfl,rfl⟩) ?_)<;>try push_cast|((with_reducible show A1 _ _ _ _ _ _ _ _);refine A1.ustr hp hce hne hl (by first|(push_cast;done)|((try push_cast);rfl)) (by first|(push_cast;done)|((try push_cast);rfl)) (by first|(push_cast;done)|((try push_cast);rfl)) (by first|exact .inl rfl|exact .inr ⟨_,_,_,rfl,rfl,rfl⟩) ?_)<;>try push_cast|fail)<;>try push_cast)
 ·omega
 ·apply Zw<;>push_cast
abbrev wkT(a:D)(t:List UInt8):Hp:=[(1,wkB a 4 t.length (t.length:Nat)),(4,byB 4 t)]
abbrev bL(s:ByteArray):List UInt8:=s.data.toList
theorem c_tjoin1(a:D)(ha:a=QG∨a=Bv)(t:List UInt8)(s:ByteArray)(hne:t++bL s≠[])(hl:t.length+s.size<=1073741824):A2 prog 131 [.ref 1 0 0 4,.sref 3 0 1 1 1] (wkT a t++[(3,.rows [[.val (.string s)]] 1)]) (.tup []) (wkT Bv (t++bL s)):=by
 have hll:(t++bL s).length=t.length+s.size:=by rw[A04];rfl
 have hW:=Fl a (by rcases ha with rfl|rfl;exact c_ccNil;exact MP) t ((t++bL s).length:Nat) s hne hl
 have w1:IntKind.i64.wrap (↑t.length+↑s.size)=((t++bL s).length:Nat):=by rw[hll,A1U];exact A9 (by omega) (by omega)
 unfold wkH at hW
 unfold wkT
 simp only[A0c,A0m]
 change A2 _ _ _ _ _ [(1,wkB Bv 4 (t++bL s).length _),(4,byB 4 (t++bL s))] at hW
 generalize t++bL s=u at*
 refine Zd [] func131 rfl ntmps131 results131 ?_
 ((try push_cast)<;>repeat' (first|apply Zi<;>intro _|exact Zp|with_reducible apply Za)<;>try push_cast)
 all_goals first|omega|skip
 refine AWp.loopI mixed (by kernel_rfl) (ι:=Bool) (fun _=>True) (fun b=>match b with
  |false=>⟨[(8,.val (.int .i64 0)),(7,.val (.int .i64 1)),(6,.sref 3 0 1 1 1),(0,.ref 1 0 0 4)],[(1,wkB a 4 t.length (t.length:Nat)),(4,byB 4 t),(3,.rows [[.val (.string s)]] 1)],100⟩
  |true=>⟨[(8,.val (.int .i64 1)),(7,.val (.int .i64 1)),(6,.sref 3 0 1 1 1),(0,.ref 1 0 0 4)],[(1,wkB Bv 4 u.length (u.length:Nat)),(4,byB 4 u),(3,.rows [[.val (.string s)]] 1)],100⟩) (fun b=>if b then 0 else 1) false trivial ?_ fun b _=>?_
 ·apply Zw<;>push_cast
 ·cases b with
  |false=>
   simp only
   (have z:=w1;(try push_cast[z])<;>repeat' (first|apply Zi<;>intro _|refine Zs [(1,1),(4,4)] hW ?_|exact Zo|with_reducible apply Za|((with_reducible show A1 _ _ _ _ _ _ _ _);refine A1.loadR (by first|(push_cast[z];done)|((try push_cast[z]);rfl)) rfl (by first|(push_cast[z];done)|((try push_cast[z]);rfl)) (by first|(push_cast[z];done)|((try push_cast[z]);rfl)) (by simp) (by first|rfl|(push_cast[z];rfl)) (by first|exact .inl rfl|exact .inr ⟨_,_,_,rfl,rfl,rfl⟩) ?_)<;>try push_cast[z]|((with_reducible show A1 _ _ _ _ _ _ _ _);refine A1.storeR (.val (.int .i64 u.length)) 4 (by first|(push_cast[z];done)|((try push_cast[z]);rfl)) rfl rfl (by first|(push_cast[z];done)|((try push_cast[z]);rfl)) (by first|(push_cast[z];done)|((try push_cast[z]);rfl)) (by simp) (by first|(push_cast[z];done)|rfl|(push_cast[z];rfl)) trivial (by first|rfl|(push_cast[z];rfl)) (by first|exact .inl rfl|exact .inr ⟨rfl,rfl⟩) (by first|exact .inl rfl|exact .inr ⟨_,_,_,rfl,rfl,rfl⟩) ?_)<;>try push_cast[z]|fail)<;>try push_cast[z])
   all_goals first|omega|skip
   refine⟨true,by decide,?_⟩
   simp only
   apply Zr [(4,380)] rfl<;>push_cast
   all_goals first|rfl|skip
  |true=>
   simp only
   (have z:=w1;(try push_cast[z])<;>repeat' (first|apply Zi<;>intro _|exact Zo|with_reducible apply Za)<;>try push_cast[z])
   all_goals first|omega|skip
   apply Zw<;>push_cast
theorem c_tjoin2(t:List UInt8)(s s':ByteArray)(hne:t≠[])(hl:t.length+s.size+s'.size<=1073741824):A2 prog 131 [.ref 1 0 0 4,.sref 3 0 2 2 1] (wkT Bv t++[(3,.rows [[.val (.string s)],[.val (.string s')]] 1)]) (.tup []) (wkT Bv (t++bL s++bL s')):=by
 have hll:(t++bL s).length=t.length+s.size:=by rw[A04];rfl
 have hll':(t++bL s++bL s').length=t.length+s.size+s'.size:=by rw[A04,hll];rfl
 have hW:=Fl Bv MP t ((t++bL s).length:Nat) s (by simp[hne]) (by omega)
 have hW':=Fl Bv MP (t++bL s) ((t++bL s++bL s').length:Nat) s' (by simp[hne]) (by omega)
 have w1:IntKind.i64.wrap (↑t.length+↑s.size)=((t++bL s).length:Nat):=by rw[hll,A1U];exact A9 (by omega) (by omega)
 have w2:IntKind.i64.wrap (↑(t++bL s).length+↑s'.size)=((t++bL s++bL s').length:Nat):=by rw[hll',hll];push_cast;exact A9 (by omega) (by omega)
 unfold wkH at hW hW'
 unfold wkT
 simp only[A0c,A0m]
 change A2 _ _ _ _ _ [(1,wkB Bv 4 (t++bL s).length _),(4,byB 4 (t++bL s))] at hW
 change A2 _ _ _ _ _ [(1,wkB Bv 4 (t++bL s++bL s').length _),(4,byB 4 (t++bL s++bL s'))] at hW'
 generalize t++bL s++bL s'=u' at*
 generalize t++bL s=u at*
 refine Zd [] func131 rfl ntmps131 results131 ?_
 ((try push_cast)<;>repeat' (first|apply Zi<;>intro _|exact Zp|with_reducible apply Za)<;>try push_cast)
 all_goals first|omega|skip
 refine Zl (fun i=>i<=2) (fun b=>match b with
  |0=>⟨[(8,.val (.int .i64 0)),(7,.val (.int .i64 2)),(6,.sref 3 0 2 2 1),(0,.ref 1 0 0 4)],[(1,wkB Bv 4 t.length (t.length:Nat)),(4,byB 4 t),(3,.rows [[.val (.string s)],[.val (.string s')]] 1)],100⟩
  |1=>⟨[(8,.val (.int .i64 1)),(7,.val (.int .i64 2)),(6,.sref 3 0 2 2 1),(0,.ref 1 0 0 4)],[(1,wkB Bv 4 u.length (u.length:Nat)),(4,byB 4 u),(3,.rows [[.val (.string s)],[.val (.string s')]] 1)],100⟩
  |_=>⟨[(8,.val (.int .i64 2)),(7,.val (.int .i64 2)),(6,.sref 3 0 2 2 1),(0,.ref 1 0 0 4)],[(1,wkB Bv 4 u'.length (u'.length:Nat)),(4,byB 4 u'),(3,.rows [[.val (.string s)],[.val (.string s')]] 1)],100⟩) (fun b=>2-b) 0 (by simp) ?_ fun b hb=>?_
 ·apply Zw<;>push_cast
 ·obtain rfl|rfl|rfl:b=0∨b=1∨b=2:=by omega
  ·simp only
   (have z:=w1;(try push_cast[z])<;>repeat' (first|apply Zi<;>intro _|refine Zs [(1,1),(4,4)] hW ?_|exact Zo|with_reducible apply Za|((with_reducible show A1 _ _ _ _ _ _ _ _);refine A1.loadR (by first|(push_cast[z];done)|((try push_cast[z]);rfl)) rfl (by first|(push_cast[z];done)|((try push_cast[z]);rfl)) (by first|(push_cast[z];done)|((try push_cast[z]);rfl)) (by simp) (by first|rfl|(push_cast[z];rfl)) (by first|exact .inl rfl|exact .inr ⟨_,_,_,rfl,rfl,rfl⟩) ?_)<;>try push_cast[z]|((with_reducible show A1 _ _ _ _ _ _ _ _);refine A1.storeR (.val (.int .i64 u.length)) 4 (by first|(push_cast[z];done)|((try push_cast[z]);rfl)) rfl rfl (by first|(push_cast[z];done)|((try push_cast[z]);rfl)) (by first|(push_cast[z];done)|((try push_cast[z]);rfl)) (by simp) (by first|(push_cast[z];done)|rfl|(push_cast[z];rfl)) trivial (by first|rfl|(push_cast[z];rfl)) (by first|exact .inl rfl|exact .inr ⟨rfl,rfl⟩) (by first|exact .inl rfl|exact .inr ⟨_,_,_,rfl,rfl,rfl⟩) ?_)<;>try push_cast[z]|fail)<;>try push_cast[z])
   all_goals first|omega|skip
   refine⟨1,by decide,by decide,?_⟩
   simp only
   apply Zr [(4,380)] rfl<;>push_cast
   all_goals first|rfl|skip
  ·simp only
   (have z:=w2;(try push_cast[z])<;>repeat' (first|apply Zi<;>intro _|refine Zs [(1,1),(4,4)] (hW' ..) ?_|exact Zo|with_reducible apply Za|((with_reducible show A1 _ _ _ _ _ _ _ _);refine A1.loadR (by first|(push_cast[z];done)|((try push_cast[z]);rfl)) rfl (by first|(push_cast[z];done)|((try push_cast[z]);rfl)) (by first|(push_cast[z];done)|((try push_cast[z]);rfl)) (by simp) (by first|rfl|(push_cast[z];rfl)) (by first|exact .inl rfl|exact .inr ⟨_,_,_,rfl,rfl,rfl⟩) ?_)<;>try push_cast[z]|((with_reducible show A1 _ _ _ _ _ _ _ _);refine A1.storeR (.val (.int .i64 u'.length)) 4 (by first|(push_cast[z];done)|((try push_cast[z]);rfl)) rfl rfl (by first|(push_cast[z];done)|((try push_cast[z]);rfl)) (by first|(push_cast[z];done)|((try push_cast[z]);rfl)) (by simp) (by first|(push_cast[z];done)|rfl|(push_cast[z];rfl)) trivial (by first|rfl|(push_cast[z];rfl)) (by first|exact .inl rfl|exact .inr ⟨rfl,rfl⟩) (by first|exact .inl rfl|exact .inr ⟨_,_,_,rfl,rfl,rfl⟩) ?_)<;>try push_cast[z]|fail)<;>try push_cast[z])
   all_goals first|omega|skip
   refine⟨2,by decide,by decide,?_⟩
   simp only
   apply Zr [(4,380)] rfl<;>push_cast
   all_goals first|rfl|skip
  ·simp only
   (have z:=w1;(try push_cast[z])<;>repeat' (first|apply Zi<;>intro _|exact Zo|with_reducible apply Za)<;>try push_cast[z])
   all_goals first|omega|skip
   apply Zw<;>push_cast
theorem j1(a:D)(ha:a=QG∨a=Bv)(t u:List UInt8)(s:ByteArray)(hu:t++bL s=u)(hne:u≠[])(hl:u.length<=1073741824):A2 prog 131 [.ref 1 0 0 4,.sref 3 0 1 1 1] [(1,wkB a 4 t.length (t.length:Nat)),(4,byB 4 t),(3,.rows [[.val (.string s)]] 1)] (.tup []) [(1,wkB Bv 4 u.length (u.length:Nat)),(4,byB 4 u)]:=by
 subst hu
 exact c_tjoin1 a ha t s hne (by rw[A04] at hl;exact hl)
theorem j2(t u:List UInt8)(s s':ByteArray)(hu:t++bL s++bL s'=u)(hne:t≠[])(hl:u.length<=1073741824):A2 prog 131 [.ref 1 0 0 4,.sref 3 0 2 2 1] [(1,wkB Bv 4 t.length (t.length:Nat)),(4,byB 4 t),(3,.rows [[.val (.string s)],[.val (.string s')]] 1)] (.tup []) [(1,wkB Bv 4 u.length (u.length:Nat)),(4,byB 4 u)]:=by
 subst hu
 exact c_tjoin2 t s s' hne (by rw[A04,A04] at hl;exact hl)
def WrT(f:FuncId)(caps:List D)(v:GV):Prop:=∀ t u:List UInt8,t++tv v=u->t≠[]->u.length<=1073741824->
 A2 prog f (.ref 1 0 0 4::caps) [(1,wkB Bv 4 t.length (t.length:Nat)),(4,byB 4 t)] (.tup []) [(1,wkB Bv 4 u.length (u.length:Nat)),(4,byB 4 u)]
def QP(v:GV):Prop:=
 (∃ f,A0 prog 77 [.agg (A5 v)] (.func (.func f) [] [.ptr (A5 v) 0])/\WrT f [.ptr (A5 v) 0] v)∨
 (A0 prog 77 [.agg (A5 v)] (.func (.func 141) [] [])/\WrT 141 [] v)
theorem Ww(v:GV)(hk:v.kind=1):QP v:=by
 refine .inr ⟨?_,fun t u hu hne hl=>?_⟩
 ·rw[A4,hk]
  refine Zf [0] func77 rfl ntmps77 results77 ?_
  ((try push_cast)<;>repeat' (first|apply Zi<;>intro _|exact Zp|with_reducible apply Za)<;>try push_cast)
 ·have e:tv v=[110,117,108,108]:=by rw[Gj,hk];rfl
  rw[e] at hu
  have hJ:=j1 Bv (.inr rfl) t u ⟨#[110,117,108,108]⟩ hu (by rw[<-hu];simp[hne]) hl
  clear hu
  refine Zd [] func141 rfl ntmps141 results141 ?_
  (have z:=trivial;(try push_cast)<;>repeat' (first|apply Zi<;>intro _|refine Zs [(1,1),(4,4),(3,16)] hJ ?_|exact Zp|with_reducible apply Za)<;>try push_cast)
  apply Zr [(4,28)] rfl<;>push_cast
theorem YS(v:GV)(hs:Sm v)(hk:v.kind=3):QP v:=by
 refine .inl ⟨133,?_,fun t u hu hne hl=>?_⟩
 ·rw[A4,hk]
  refine Zf [0] func77 rfl ntmps77 results77 ?_
  ((try push_cast)<;>repeat' (first|apply Zi<;>intro _|exact Zp|with_reducible apply Za)<;>try push_cast)
 ·have hf:=L0 v.n hs.int.1 hs.int.2
  have e:tv v=Lib.itoa v.n:=by rw[Gj,hk];rfl
  rw[e] at hu
  have hJ:=j1 Bv (.inr rfl) t u ⟨(Lib.itoa v.n).toArray⟩ (by simpa[bL] using hu) (by rw[<-hu];simp[hne]) hl
  clear hu e
  generalize(⟨(Lib.itoa v.n).toArray⟩:ByteArray)=s at*
  rw[A4,hk]
  refine Zd [] func133 rfl ntmps133 results133 ?_
  (have z:=trivial;(try push_cast)<;>repeat' (first|apply Zi<;>intro _|refine Zc (hf ..) ?_|refine Zs [(1,1),(4,4),(3,40)] hJ ?_|exact Zp|with_reducible apply Za)<;>try push_cast)
  apply Zr [(4,52)] rfl<;>push_cast
theorem SI(s:ByteArray)(hs:s.size<=1048576):A0 prog 136 [.val (.string s)] (.val (.string (A00 s))):=by
 have h:=VF s hs
 refine Zf [] func136 rfl ntmps136 results136 ?_
 (have z:=trivial;(try push_cast)<;>repeat' (first|apply Zi<;>intro _|refine Zc h ?_|exact Zp|with_reducible apply Za)<;>try push_cast)
theorem Wv(v:GV)(hs:Sm v)(hk:v.kind=4):QP v:=by
 refine .inl ⟨135,?_,fun t u hu hne hl=>?_⟩
 ·rw[A4,hk]
  refine Zf [0] func77 rfl ntmps77 results77 ?_
  ((try push_cast)<;>repeat' (first|apply Zi<;>intro _|exact Zp|with_reducible apply Za)<;>try push_cast)
 ·have hf:=SI v.s hs.text
  have e:tv v=E5 v.s:=by rw[Gj,hk];rfl
  rw[e] at hu
  have hJ:=j1 Bv (.inr rfl) t u (A00 v.s) hu (by rw[<-hu];simp[hne]) hl
  clear hu e
  generalize A00 v.s=s at*
  rw[A4,hk]
  refine Zd [] func135 rfl ntmps135 results135 ?_
  (have z:=trivial;(try push_cast)<;>repeat' (first|apply Zi<;>intro _|refine Zc (hf ..) ?_|refine Zs [(1,1),(4,4),(3,40)] hJ ?_|exact Zp|with_reducible apply Za)<;>try push_cast)
  apply Zr [(4,52)] rfl<;>push_cast
theorem Wx(v:GV)(hs:Sm v)(hk:v.kind=5)(ih:∀ x ∈ v.list,QP x):QP v:=by
 refine .inl ⟨137,?_,fun t u hu hne hl=>?_⟩
 ·rw[A4,hk]
  refine Zf [0] func77 rfl ntmps77 results77 ?_
  ((try push_cast)<;>repeat' (first|apply Zi<;>intro _|exact Zp|with_reducible apply Za)<;>try push_cast)
 ·have e:tv v=91::(DJ (v.list.map tv)++[93]):=by rw[Gj,hk];rfl
  rw[e] at hu
  have hll:=hs.list_le
  rw[A4,hk]
  clear e hk hs
  generalize v.list=l at*
  have oL:=AF (f:=A5) BS l
  have hul:t.length+1+(DJ (l.map tv)).length+1=u.length:=by rw[<-hu];simp;omega
  obtain⟨X,hX⟩:∃ X:Nat->List UInt8,∀ i,X i=t++91::DJ ((l.take i).map tv):=⟨_,fun _=>rfl⟩
  have hXl:∀ i,(X i).length+1<=u.length:=fun i=>by
   have:=Rm tv l i
   rw[hX];simp only[A04,A0g];omega
  have hXn:∀ i,X i≠[]:=fun i=>by rw[hX];simp
  have hX0:t++bL ⟨#[91]⟩=X 0:=by rw[hX];simp[DJ,bL]
  have hXe:X l.length++bL ⟨#[93]⟩=u:=by rw[hX,<-hu,A1h];simp[bL]
  have hXs:∀ i,i<l.length->X i++bL (if i=0 then⟨#[]⟩ else⟨#[44]⟩)++tv (l.getD i zV)=X (i+1):=fun i hi=>by
   rw[hX,hX,Ni tv l i hi]
   have ex:l.getD i zV=l[i]:=by rw[A02,A09 hi];rfl
   rw[ex]
   by_cases h0:i=0
   ·simp[h0,bL]
   ·simp[h0,bL]
  have hJ:=j1 Bv (.inr rfl) t (X 0) ⟨#[91]⟩ hX0 (hXn 0) (by have:=hXl 0;omega)
  have hJ3:=j1 Bv (.inr rfl) (X l.length) u ⟨#[93]⟩ hXe (by rw[<-hu];simp) hl
  clear hX hX0 hXe hu
  refine Zd [] func137 rfl ntmps137 results137 ?_
  (have z:=oL;(try push_cast[z])<;>repeat' (first|apply Zi<;>intro _|refine Zs [(1,1),(4,4),(3,16)] hJ ?_|exact Zo|with_reducible apply Za)<;>try push_cast[z])
  all_goals first|omega|skip
  refine Zl (fun i=>i<=l.length) (fun i=>⟨[(11,.val (.int .i64 i)),(10,.val (.int .i64 l.length)),(9,.slice (l.map A5) false),(0,.ref 1 0 0 4)],[(1,wkB Bv 4 (X i).length ((X i).length:Nat)),(4,byB 4 (X i))],400⟩) (fun i=>l.length-i) 0 (by simp) ?_ fun i hi=>?_
  ·apply Zr [(4,28)] rfl<;>push_cast [oL]
  ·push_cast
   refine Af (fun ha=>?_) (fun ha=>?_)
   ·have hi':i<l.length:=by simpa using ha
    have e1:=Et hi'
    have hx:=ih _ (Aj (d:=zV) hi')
    have hXs:=hXs i hi'
    have hXi:=hXl i
    have hXi1:=hXl (i+1)
    have hXin:=hXn i
    have hXl1:(X i++bL (if i=0 then⟨#[]⟩ else⟨#[44]⟩)).length<=(X (i+1)).length:=by rw[<-hXs,A04 (bs:=tv _)];omega
    generalize l.getD i zV=x at*
    have hB:=HF i (by omega)
    have w1:IntKind.i64.wrap (↑i+1)=↑i+1:=A9 (by omega) (by omega)
    have hJ2:=j1 Bv (.inr rfl) (X i) _ (if i=0 then⟨#[]⟩ else⟨#[44]⟩) rfl (by simp[hXin]) (by omega)
    generalize(if i=0 then(⟨#[]⟩:ByteArray) else⟨#[44]⟩)=sep at*
    have hmn:X i++bL sep≠[]:=by simp[hXin]
    generalize X i++bL sep=Y at*
    rcases hx with⟨f,h1,h2⟩|⟨h1,h2⟩
    ·have h3:=h2 Y (X (i+1)) hXs hmn (by omega)
     (have z:=Za e1<|Za oL w1;(try push_cast[z])<;>repeat' (first|apply Zi<;>intro _|refine Zc hB ?_|refine Zs [(1,1),(4,4),(3,880)] hJ2 ?_|refine Zc h1 ?_|refine Zt [(1,1),(4,892)] h3 ?_|exact Zo|with_reducible apply Za)<;>try push_cast[z])
     all_goals first|omega|skip
     refine⟨i+1,hi',by omega,?_⟩
     apply Zr [(4,924)] rfl<;>push_cast [oL]
     all_goals first|rfl|trace_state
    ·have h3:=h2 Y (X (i+1)) hXs hmn (by omega)
     (have z:=Za e1<|Za oL w1;(try push_cast[z])<;>repeat' (first|apply Zi<;>intro _|refine Zc hB ?_|refine Zs [(1,1),(4,4),(3,880)] hJ2 ?_|refine Zc h1 ?_|refine Zt [(1,1),(4,892)] h3 ?_|exact Zo|with_reducible apply Za)<;>try push_cast[z])
     all_goals first|omega|skip
     refine⟨i+1,hi',by omega,?_⟩
     apply Zr [(4,924)] rfl<;>push_cast [oL]
     all_goals first|rfl|trace_state
   ·have hi':i=l.length:=by simp at ha;omega
    subst hi'
    (have z:=oL;(try push_cast[z])<;>repeat' (first|apply Zi<;>intro _|refine Zs [(1,1),(4,4),(3,816)] hJ3 ?_|exact Zo|with_reducible apply Za)<;>try push_cast[z])
    all_goals first|omega|skip
    apply Zr [(4,828)] rfl<;>push_cast
    all_goals first|rfl|trace_state
def WI(a c:Code)(t:List UInt8):Hp:=[(7,.loop [(2,.ptr [.ref 1 0 0 4] 0)] 23 .ready none [11,12] a c),(1,wkB Bv 4 t.length (t.length:Nat)),(4,byB 4 t)]
theorem UB{a c:Code}(o:List (ByteArray×GV))(hol:o.length<=1048576)(hok:∀ x ∈ o,x.1.size<=1048576/\QP x.2)(X:Nat->List UInt8)(hXl:∀ i,(X i).length<=1073741824)(hXn:∀ i,X i≠[])
  (hXs:∀ i,i<o.length->X i++bL (if i=0 then⟨#[]⟩ else⟨#[44]⟩)++tvm (o.getD i zM)=X (i+1))
  (hY:∀ (s:ByteArray) (x:GV) (t u:List UInt8),t++bL s++58::tv x=u->t≠[]->u.length<=1073741824->∀ cs f,(cs=[.ptr (A5 x) 0]∨(cs=[]/\f=141))->WrT f cs x->DA prog 7 [.val (.string s),.func (.func f) [] cs] (WI a c t) (.val (.bool true)) (WI a c u)):
  A2 prog 212 [.yld 7,.ptr [.slice (o.map A7) false] 0] (WI a c (X 0)) (.tup []) (WI a c (X o.length)):=by
 have oL:=AF (f:=A7) Al o
 unfold WI at*
 refine Zd [] func212 rfl ntmps212 results212 ?_
 (have z:=oL;(try push_cast[z])<;>repeat' (first|apply Zi<;>intro _|exact Zo|with_reducible apply Za)<;>try push_cast[z])
 refine Zl (fun i=>i<=o.length) (fun i=>⟨[(7,.val (.int .i64 i)),(6,.val (.int .i64 o.length)),(5,.slice (o.map A7) false),(0,.yld 7)],[(7,.loop [(2,.ptr [.ref 1 0 0 4] 0)] 23 .ready none [11,12] a c),(1,wkB Bv 4 (X i).length ((X i).length:Nat)),(4,byB 4 (X i))],400⟩) (fun i=>o.length-i) 0 (by simp) ?_ fun i hi=>?_
 ·apply Zw<;>push_cast
 ·push_cast
  refine Af (fun ha=>?_) (fun ha=>?_)
  ·have hi':i<o.length:=by simpa using ha
   have e1:=Bk hi'
   obtain⟨hks,hx⟩:=hok _ (Aj (d:=zM) hi')
   have hXs:=hXs i hi'
   have hXi1:=hXl (i+1)
   have hXin:=hXn i
   generalize o.getD i zM=x at*
   obtain⟨k,x⟩:=x
   have hq:=SI k hks
   simp only at*
   have hB:=HF i (by omega)
   have w1:IntKind.i64.wrap (↑i+1)=↑i+1:=A9 (by omega) (by omega)
   generalize(if i=0 then(⟨#[]⟩:ByteArray) else⟨#[44]⟩)=sep at*
   have hsz:sep.size+(A00 k).size<=1073741824:=by
    have h:=congrArg List.length hXs
    simp only[tvm,A04,A0g] at h
    have h1:(bL sep).length=sep.size:=rfl
    have h2:(E5 k).length=(A00 k).size:=rfl
    omega
   have hXs':X i++bL (sep++A00 k)++58::tv x=X (i+1):=by
    rw[<-hXs]
    simp[bL,tvm,E5,ByteArray.data_append,Array.toList_append]
   have hy:=hY (sep++A00 k) x (X i) (X (i+1)) hXs' hXin hXi1
   rcases hx with⟨f,h1,h2⟩|⟨h1,h2⟩
   ·have h3:=hy _ f (.inl rfl) h2
    (have z:=Za e1<|Za oL<|Za w1 @Ah;(try push_cast[z])<;>repeat' (first|apply Zi<;>intro _|refine Zc hB ?_|refine Zc (hq ..) ?_|refine Zc h1 ?_|exact Zo|with_reducible apply Za|(with_reducible show A1 _ _ _ _ _ _ _ _;refine A1.yield 7 (BK [(7,7),(1,1),(4,4)]) rfl ?_ (by(try push_cast[z]);exact h3 ..) ?_ (by first|exact .inl rfl|exact .inr ⟨_,_,_,rfl,rfl,rfl⟩) ?_ ?_ ?_ ?_;(· push_cast[z]);(· push_cast[z]<;>(with_unfolding_all exact A8 _));(· push_cast[z]<;>(with_unfolding_all exact A8 _));(· push_cast[z]<;>(with_unfolding_all exact A8 _));(· push_cast[z]<;>(with_unfolding_all exact A8 _));try push_cast[z])|fail)<;>try push_cast[z])
    all_goals first|omega|(show _<=_;omega)|skip
    refine⟨i+1,hi',by omega,?_⟩
    apply Zr [(4,940)] rfl<;>push_cast
    all_goals first|rfl|trace_state
   ·have h3:=hy _ _ (.inr ⟨rfl,rfl⟩) h2
    (have z:=Za e1<|Za oL<|Za w1 @Ah;(try push_cast[z])<;>repeat' (first|apply Zi<;>intro _|refine Zc hB ?_|refine Zc (hq ..) ?_|refine Zc h1 ?_|exact Zo|with_reducible apply Za|(with_reducible show A1 _ _ _ _ _ _ _ _;refine A1.yield 7 (BK [(7,7),(1,1),(4,4)]) rfl ?_ (by(try push_cast[z]);exact h3 ..) ?_ (by first|exact .inl rfl|exact .inr ⟨_,_,_,rfl,rfl,rfl⟩) ?_ ?_ ?_ ?_;(· push_cast[z]);(· push_cast[z]<;>(with_unfolding_all exact A8 _));(· push_cast[z]<;>(with_unfolding_all exact A8 _));(· push_cast[z]<;>(with_unfolding_all exact A8 _));(· push_cast[z]<;>(with_unfolding_all exact A8 _));try push_cast[z])|fail)<;>try push_cast[z])
    all_goals first|omega|(show _<=_;omega)|skip
    refine⟨i+1,hi',by omega,?_⟩
    apply Zr [(4,940)] rfl<;>push_cast
    all_goals first|rfl|trace_state
  ·have hi':i=o.length:=by simp at ha;omega
   subst hi'
   (have z:=oL;(try push_cast[z])<;>repeat' (first|apply Zi<;>intro _|exact Zo|with_reducible apply Za)<;>try push_cast[z])
   all_goals first|omega|skip
   apply Zw<;>push_cast
theorem c_own5(a0:D)(ha:a0=QG∨a0=Bv)(v:GV)(hs:Sm v)(hk:v.kind=6)(ih:∀ x ∈ v.obj,QP x.2)(t u:List UInt8)(hu:t++tv v=u)(hl:u.length<=1073741824):
  A2 prog 139 [.ref 1 0 0 4,.ptr (A5 v) 0] [(1,wkB a0 4 t.length (t.length:Nat)),(4,byB 4 t)] (.tup []) [(1,wkB Bv 4 u.length (u.length:Nat)),(4,byB 4 u)]:=by
 have e:tv v=123::(DJ (v.obj.map tvm)++[125]):=by rw[Gj,hk];rfl
 rw[e] at hu
 have hll:=hs.obj_le
 have hok:∀ x ∈ v.obj,x.1.size<=1048576/\QP x.2:=fun x hx=>⟨hs.key x hx,ih x hx⟩
 rw[A4,hk]
 clear e hk hs ih
 generalize v.obj=o at*
 have oL:=AF (f:=A7) Al o
 have hul:t.length+1+(DJ (o.map tvm)).length+1=u.length:=by rw[<-hu];simp;omega
 obtain⟨X,hX⟩:∃ X:Nat->List UInt8,∀ i,X i=t++123::DJ ((o.take i).map tvm):=⟨_,fun _=>rfl⟩
 have hXl:∀ i,(X i).length+1<=u.length:=fun i=>by
  have:=Rm tvm o i
  rw[hX];simp only[A04,A0g];omega
 have hXn:∀ i,X i≠[]:=fun i=>by rw[hX];simp
 have hX0:t++bL ⟨#[123]⟩=X 0:=by rw[hX];simp[DJ,bL]
 have hXe:X o.length++bL ⟨#[125]⟩=u:=by rw[hX,<-hu,A1h];simp[bL]
 have hXs:∀ i,i<o.length->X i++bL (if i=0 then⟨#[]⟩ else⟨#[44]⟩)++tvm (o.getD i zM)=X (i+1):=fun i hi=>by
  rw[hX,hX,Ni tvm o i hi]
  have ex:o.getD i zM=o[i]:=by rw[A02,A09 hi];rfl
  rw[ex]
  by_cases h0:i=0
  ·simp[h0,bL]
  ·simp[h0,bL]
 have hJ:=j1 a0 ha t (X 0) ⟨#[123]⟩ hX0 (hXn 0) (by have:=hXl 0;omega)
 have hJ3:=j1 Bv (.inr rfl) (X o.length) u ⟨#[125]⟩ hXe (by rw[<-hu];simp) hl
 clear hX hX0 hXe hu
 have hM:=Pm o
 refine A2.of_awpW func139 rfl ntmps139 (by kernel_rfl) (by simp) (congrArg Array.toList results139) ?_
 refine BF.seqV [8] mixed (by kernel_rfl) ?_
 ((try push_cast)<;>repeat' (first|apply Zi<;>intro _|exact Zp|with_reducible apply Za)<;>try push_cast)
 refine BF.seqV [] mixed (by kernel_rfl) ?_
 (have z:=oL;(try push_cast[z])<;>repeat' (first|apply Zi<;>intro _|refine Zs [(1,1),(4,4),(3,24)] hJ ?_|exact Zo|with_reducible apply Za)<;>try push_cast[z])
 refine BF.seq ?_
 refine BF.seqV [] mixed (by kernel_rfl) ?_
 (have z:=oL;(try push_cast[z])<;>repeat' (first|apply Zi<;>intro _|refine Zc hM ?_|exact Zo|with_reducible apply Za)<;>try push_cast[z])
 refine BF.block ?_
 refine BF.range (y:=7) (BK [(7,64),(1,1),(4,36)]) (env:=[(2,.ptr [.ref 1 0 0 4] 0)]) (ds:=[.yld 7,.ptr [.slice (o.map A7) false] 0]) rfl (UB o hll hok X (fun i=>by have:=hXl i;omega) hXn hXs ?hY) rfl rfl ?_ ?_ ?_ ?_ ?_ ?_ ?_
 case hY=>
  intro s x t u hu hne hl cs f hcs hw
  have hs1:(t++bL s++bL ⟨#[58]⟩).length<=1073741824:=by
   have:=congrArg List.length hu
   simp only[A04,A0g] at this|-
   show _+_+1<=_
   omega
  have hJ2:=j2 t _ s ⟨#[58]⟩ rfl hne hs1
  have h3:=hw (t++bL s++bL ⟨#[58]⟩) u (by rw[<-hu];simp[bL]) (by simp[hne]) hl
  generalize t++bL s++bL ⟨#[58]⟩=Y at*
  unfold WI
  rcases hcs with rfl|⟨rfl,rfl⟩
  ·refine DA.of_awp (by decide) rfl (by decide) ?_
   simp only[A1E,A1S,A1i,A1O,A0m,A0c]
   refine Zy ?_
   (have z:=@Er.eq_1;(try push_cast[z])<;>repeat' (first|apply Zi<;>intro _|exact Zo|with_reducible apply Za)<;>try push_cast[z])
   refine Zy ?_
   (have z:=@Ep.eq_1;(try push_cast[z])<;>repeat' (first|apply Zi<;>intro _|refine Zs [(1,1),(4,4),(3,40)] hJ2 ?_|refine Zt [(1,1),(4,52)] h3 ?_|exact Zo|with_reducible apply Za)<;>try push_cast[z])
   apply Zr [(4,76)] rfl<;>push_cast
   all_goals first|rfl|trace_state
  ·refine DA.of_awp (by decide) rfl (by decide) ?_
   simp only[A1E,A1S,A1i,A1O,A0m,A0c]
   refine Zy ?_
   (have z:=@Er.eq_1;(try push_cast[z])<;>repeat' (first|apply Zi<;>intro _|exact Zo|with_reducible apply Za)<;>try push_cast[z])
   refine Zy ?_
   (have z:=@Ep.eq_1;(try push_cast[z])<;>repeat' (first|apply Zi<;>intro _|refine Zs [(1,1),(4,4),(3,40)] hJ2 ?_|refine Zt [(1,1),(4,52)] h3 ?_|exact Zo|with_reducible apply Za)<;>try push_cast[z])
   apply Zr [(4,76)] rfl<;>push_cast
   all_goals first|rfl|trace_state
 ·push_cast
 ·push_cast
 ·push_cast[C7]
 ·push_cast[Ba]
 ·push_cast
 ·push_cast
 ·push_cast
  refine BF.vc [] mixed (by kernel_rfl) ?_
  (have z:=trivial;(try push_cast)<;>repeat' (first|apply Zi<;>intro _|refine Zs [(1,1),(4,76),(3,88)] hJ3 ?_|exact Zp|with_reducible apply Za)<;>try push_cast)
  apply Zr [(4,100)] rfl<;>push_cast
  all_goals first|rfl|trace_state
inductive Pl:GV->Prop where
 |mk (v:GV) (hk:v.kind=1∨v.kind=3∨v.kind=4∨v.kind=5∨v.kind=6) (hl:∀ x ∈ v.list,Pl x) (ho:∀ p ∈ v.obj,Pl p.2):Pl v
theorem c_own6(v:GV)(hk:v.kind=6):A0 prog 77 [.agg (A5 v)] (.func (.func 139) [] [.ptr (A5 v) 0]):=by
 rw[A4,hk]
 refine Zf [0] func77 rfl ntmps77 results77 ?_
 ((try push_cast)<;>repeat' (first|apply Zi<;>intro _|exact Zp|with_reducible apply Za)<;>try push_cast)
theorem PV(v:GV)(hs:Sm v)(hp:Pl v):QP v:=by
 obtain⟨_,hk,hl,ho⟩:=hp
 rcases hk with hk|hk|hk|hk|hk
 ·exact Ww v hk
 ·exact YS v hs hk
 ·exact Wv v hs hk
 ·exact Wx v hs hk fun x hx=>PV x (hs.list x hx) (hl x hx)
 ·exact .inl ⟨_,c_own6 v hk,fun t u hu _ hz=>c_own5 Bv (.inr rfl) v hs hk (fun x hx=>PV x.2 (hs.obj x hx) (ho x hx)) t u hu hz⟩
termination_by SizeOf.sizeOf v
decreasing_by
 ·exact GV.list_lt hx
 ·exact GV.obj_lt hx
abbrev wrQ:List (Nat×Value):=[(0,.bool true)]
abbrev wrV:List Value:=[.bool true,.pointer none,.slice none 0 0,.int .i64 0]
abbrev wrE:List D:=[.val (.bool true),QG,.gref 1 0,.val (.int .i64 0)]
theorem Y4:prog.built tWr wrQ=some wrV.toArray:=by kernel_rfl
theorem wr_on:∀ v ∈ wrV,v.oneCell'=true:=by decide
theorem wr_s01(v:Value)(i:Nat)(h:i<wrV.length):s01 v (.slice none 0 0) (nd wrE i) (nv wrV i):=by
 have h4:i=0∨i=1∨i=2∨i=3:=by
  have:wrV.length=4:=rfl
  omega
 rcases h4 with rfl|rfl|rfl|rfl
 ·exact⟨rfl,trivial⟩
 ·exact⟨rfl,trivial⟩
 ·exact⟨rfl,none,0,rfl⟩
 ·exact⟨rfl,by simp only[okP,D2,D3];omega⟩
theorem wr_ok:∀ x ∈ [Value.bool false,.pointer none,.slice none 0 0,.int .i64 0],okP x:=by
 intro x hx
 simp only[A0s,A1x,or_false] at hx
 rcases hx with rfl|rfl|rfl|rfl<;>first|trivial|(simp only[okP,D2,D3];omega)
theorem c_Text(v:GV)(hs:Sm v)(hp:Pl v)(hk:v.kind=6)(hm:Bp v 1=0)(hl:(tv v).length<=1073741824):A0 prog 45 [.agg (A5 v)] (.tup [.val (.string ⟨(tv v).toArray⟩),.val (.int .i64 0)]):=by
 have hM:=Uu v hs
 rw[hm] at hM
 have hO:=c_own6 v hk
 have hW:=c_own5 QG (.inl rfl) v hs hk (by cases hp with|mk _ _ _ ho=>exact fun x hx=>PV x.2 (hs.obj x hx) (ho x hx)) [] (tv v) (by simp) hl
 have hne:tv v≠[]:=by rw[Gj,hk];simp
 have hS:=c_String (tv v) ((tv v).length:Nat) hne hl
 unfold wkH at hS
 obtain⟨x1,x2,x3,x4⟩:=An v
 generalize tv v=u at*
 generalize A5 v=V at*
 simp only[A0t,Int.ofNat_zero,Int.natCast_zero] at hW
 refine A0.of_awpW func45 rfl ntmps45 (by kernel_rfl) (by simp) (congrArg Array.toList results45) ?_
 refine BF.seqV [] mixed (by kernel_rfl) ?_
 (have z:=Za x1<|Za x2<|Za x3 x4;(try push_cast[z])<;>repeat' (first|apply Zi<;>intro _|refine Zc hM ?_|exact Zo|with_reducible apply Za)<;>try push_cast[z])
 refine BF.seqV [] mixed (by kernel_rfl) ?_
 (have z:=Za x1<|Za x2<|Za x3 x4;(try push_cast[z])<;>repeat' (first|apply Zi<;>intro _|refine Zc hM ?_|exact Zo|with_reducible apply Za)<;>try push_cast[z])
 refine BF.seq (AWp.w (AWp.regX (by kernel_rfl) ?_))
 refine A1.of_doesX (Sr (fun _=>rfl) Y4) (.inl rfl) ?_
 refine A1.of_doesX (KX Yb wr_ok) (.inl rfl) ?_
 refine A1.of_doesX (Sl (Te:=5) (es':=wrE) (us:=wrV) Yb rfl (by push_cast;rfl) (by push_cast;rfl) rfl rfl (by push_cast) wr_on wr_s01) (.inl rfl) ?_
 refine A1.go ?_
 push_cast
 refine BF.vc [] mixed (by kernel_rfl) ?_
 (have z:=Za x1<|Za x2<|Za x3 x4;(try push_cast[z])<;>repeat' (first|apply Zi<;>intro _|refine Zc hO ?_|refine Zt [(1,72),(4,80)] hW ?_|refine Zs [(1,72),(4,108)] hS ?_|exact Zo|with_reducible apply Za)<;>try push_cast[z])
 all_goals trace_state
abbrev rdN(s:ByteArray)(i m:Nat):Blk:=.rows [[.val (.string s),.val (.int .i64 i),.mref m]] 3
theorem SL(s:ByteArray):A2 prog 146 [.val (.string s)] [] (.ref 0 0 0 3) [(0,rdN s 0 2),(2,.map (D1 0 17) 17)]:=by
 refine Zd [] func146 rfl ntmps146 results146 ?_
 ((try push_cast)<;>repeat' (first|apply Zi<;>intro _|exact Zp|with_reducible apply Za)<;>try push_cast)
 all_goals first|omega|skip
 refine Zl (fun i=>i<=10) (fun i=>⟨[(4,.val (.int .u8 (48+i))),(3,.ref 32 0 0 3)],[(32,rdN s 0 56),(56,.map (D1 32 (7+i)) (7+i))],400⟩) (fun i=>10-i) 0 (by simp) ?_ fun i hi=>?_
 ·simp only[D1,Kl,A1j,A1A,A0h,A0G]
  apply Zw<;>push_cast
 ·obtain⟨j,hj⟩:∃ j,j=i+1:=⟨_,rfl⟩
  have h10:i=0∨i=1∨i=2∨i=3∨i=4∨i=5∨i=6∨i=7∨i=8∨i=9∨i=10:=by omega
  rcases h10 with rfl|rfl|rfl|rfl|rfl|rfl|rfl|rfl|rfl|rfl|rfl
  case inr.inr.inr.inr.inr.inr.inr.inr.inr.inr=>
   simp only[D1,Kl,A1j,List.take_nil,A0h,A0G]
   ((try push_cast)<;>repeat' (first|apply Zi<;>intro _|exact Zp|with_reducible apply Za)<;>try push_cast)
   all_goals first|omega|skip
   apply Zr [(0,32),(2,56)] rfl<;>push_cast
  all_goals
   simp only[D1,Kl,A1j,A1A,A0h,A0G]
   ((try push_cast)<;>repeat' (first|apply Zi<;>intro _|exact Zp|with_reducible apply Za)<;>try push_cast)
   all_goals first|omega|skip
   refine⟨j,by omega,by omega,?_⟩
   subst hj
   simp only[D1,Kl,A1j,A1A,A0h,A0G,Nat.reduceAdd]
   apply Zw<;>push_cast
   all_goals first|decide|rfl|skip
   all_goals trace_state
theorem Mc(b n:Nat)(r:Nat->Nat):((D1 b n).map fun p=>(p.1,p.2.1,AV r p.2.2))=D1 (r b) n:=by
 simp only[D1,A10]
 refine A13 fun p _=>?_
 simp[Function.comp,AV,BZ]
theorem U4(r:Nat->Nat):(CD.map fun p=>(p.1,p.2.1,AV r p.2.2))=D1 (r 1) 17:=by
 unfold CD
 exact Mc 1 17 r
abbrev psH(V:List D)(n:Int):Hp:=[(3,.rows [V] 6),(5,.rows [[.val (.int .i64 n)]] 1),(7,.rows [[.val (.int .i64 0)]] 1)]
theorem r_parN(V:List D)(n:Int)(x1:Ag V=true)(x2:V.length=6):QL prog 145 [.ref 3 0 0 6,.ref 5 0 0 1,.ref 7 0 0 1] none (psH V n) (psH V n):=by
 refine QL.of_awp (t:=6) func145 rfl ntmps145 (by kernel_rfl) (by simp) (by decide) (congrArg Array.toList results145) ?_
 change AWp _ _ _ _ ⟨(6,.val .nilIface)::Be 0 [.ref 3 0 0 6,.ref 5 0 0 1,.ref 7 0 0 1],psH V n,4⟩
 refine Zy ?_
 push_cast
 refine A1.nilNil (by push_cast) (by push_cast) (fun a w h1 h2=>?_) ?_
 ·have u:=run_underlying (P:=prog) underlying20
  simp only[execOp,h1,h2,eqGuard,binOp]
  unfold Op.equal Op.maxDepth Op.equalIn
  simp[u]
 ·(have z:=Za x1 x2;(try push_cast[z])<;>repeat' (first|apply Zi<;>intro _|exact Zo|with_reducible apply Za)<;>try push_cast[z])
  apply Zw<;>push_cast [x1,x2]
theorem c_Parse(n:Nat)(x:List UInt8)(v:GV)(hv:DF n x v)(hn:n<=63)(hz:x.length<=1048576):
  A2 prog 86 [.val (.string ⟨x.toArray⟩)] [] (.tup [.agg (A5 v),.val (.int .i64 x.length),.val (.int .i64 0)]) []:=by
 obtain⟨s,hs⟩:∃ s:ByteArray,s=⟨x.toArray⟩:=⟨_,rfl⟩
 have hb:bl s=x:=by rw[hs];simp[bl]
 have hss:s.size=x.length:=by rw[<-Dl,hb]
 have hA:At s 0 x []:=⟨by rw[hb];simp,by simp[hss]⟩
 have h1:=hv.2 s 0 [] 1 hA (by intro c hc;cases hc) (by omega) (by omega)
 rw[A1c,<-hss] at h1
 have h2:=c_skipE s
 have hN:=SL s
 obtain⟨x1,x2,x3,x4⟩:=An v
 rw[<-hs,<-hss]
 generalize A5 v=V at*
 have x5:V.drop 6=[]:=A0i (by omega)
 have b0:decide ((s.size:Int)<s.size)=false:=decide_eq_false (by omega)
 refine A2.of_awp_catch [_] func86 rfl ntmps86 (by kernel_rfl) (by simp) (by decide) (congrArg Array.toList results86) (BK [(3,8),(5,16),(7,24)]) [.ref 3 0 0 6,.ref 5 0 0 1,.ref 7 0 0 1]
  [(2,.ref 3 0 0 6),(3,.ref 5 0 0 1),(4,.ref 7 0 0 1),(0,.val (.string s))] [(3,.rows [[.val (.int .i64 0),.val (.bool false),.val (.int .i64 0),.val (.string ByteArray.empty),.slice [] true,.slice [] true]] 6),(5,.rows [[.val (.int .i64 0)]] 1),(7,.rows [[.val (.int .i64 0)]] 1)] (.tup [.agg V,.val (.int .i64 s.size),.val (.int .i64 0)]) [] ?_
 refine Zy ?_
 ((try push_cast)<;>repeat' (first|apply Zi<;>intro _|exact Zp|with_reducible apply Za)<;>try push_cast)
 refine(show Pu _ _ _ _ _ _ _ _ _ _ _ _ _ _ _ _ _ from⟨?_,?_,?_,?_,?_,?_,?_,?_,?_,?_⟩)
 ·push_cast
 ·push_cast
 ·push_cast
 ·push_cast[C7]
 ·push_cast
 ·push_cast[Ba]
 ·push_cast
 ·push_cast
 ·refine Zy ?_
  (have z:=Za x1<|Za x2<|Za x3<|Za x4<|Za x5<|Za b0<|Za @U4 @Mc;(try push_cast[z])<;>repeat' (first|apply Zi<;>intro _|refine Zs [] hN ?_|refine Zs [(1,16),(3,18)] h1 ?_|refine Zs [(1,16),(3,18)] h2 ?_|exact Zo|with_reducible apply Za)<;>try push_cast[z])
  all_goals first|omega|skip
  refine(show Pt _ _ _ _ _ _ _ _ from⟨BK [],[.ref 3 0 0 6,.ref 5 0 0 1,.ref 7 0 0 1],_,_,r_parN V s.size x1 x2,?_,?_,?_,?_,?_,.tup [.agg V,.val (.int .i64 s.size),.val (.int .i64 0)],?_,?_⟩)
  ·push_cast
  ·push_cast
  ·push_cast[Ba,x1,x5,A0H]
  ·push_cast[x1]
  ·push_cast[x1]
  ·push_cast[x1,x2,x3,x4,x5,A0H]
  ·push_cast[x1]
   apply Zw<;>push_cast [x1,x2,x3]
 ·push_cast
  apply Zw<;>push_cast [x1,x2,x3]
def QJ(x:List UInt8)(v:GV):Prop:=A0 prog 45 [.agg (A5 v)] (.tup [.val (.string ⟨x.toArray⟩),.val (.int .i64 0)])
theorem c_Exact(n:Nat)(x:List UInt8)(v:GV)(hv:DF n x v)(hn:n<=63)(hz:x.length<=1048576)(ht:QJ x v):
  A0 prog 48 [.val (.string ⟨x.toArray⟩)] (.tup [.agg (A5 v),.val (.int .i64 0)]):=by
 have hP:=c_Parse n x v hv hn hz
 unfold QJ at ht
 obtain⟨x1,x2,x3,x4⟩:=An v
 generalize A5 v=V at*
 have x5:V.drop 6=[]:=A0i (by omega)
 generalize(⟨x.toArray⟩:ByteArray)=s at*
 refine Zf [] func48 rfl ntmps48 results48 ?_
 (have z:=Za x1<|Za x2<|Za x3<|Za x4 x5;(try push_cast[z])<;>repeat' (first|apply Zi<;>intro _|refine Zs [] hP ?_|refine Zc (ht ..) ?_|exact Zo|with_reducible apply Za)<;>try push_cast[z])
 all_goals first|omega|skip
 all_goals trace_state
end Go.Ab
