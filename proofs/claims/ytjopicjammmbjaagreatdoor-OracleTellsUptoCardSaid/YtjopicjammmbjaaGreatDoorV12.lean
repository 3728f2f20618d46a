/- The layer by which the program is walked, and what its functions do: part 13 of 16. -/
import Derived.Test.YtjopicjammmbjaaGreatDoorV11
import Derived.Sort.Grow
set_option maxHeartbeats 4000000
set_option maxRecDepth 20000
set_option linter.unusedVariables false
set_option linter.unusedSimpArgs false
set_option linter.unnecessarySimpa false
namespace Go.Ab
open Go.Proofs Go.Proofs.Tryz Go.RowKit
abbrev PC(c:Int):Hp:=[(3,.rows [[.val (.int .i64 c)]] 1)]
theorem r_catN:UW prog 111 [.ref 3 0 0 1] none (PC 0) (PC 0):=by
 refine UW.of_awp (t:=4) func111 rfl ntmps111 (by kernel_rfl) (by simp) (by decide) (congrArg Array.toList results111) ?_
 change AWp _ _ _ _ ⟨(4,.val .nilIface)::Bq 0 [.ref 3 0 0 1],[(3,.rows [[.val (.int .i64 0)]] 1)],4⟩
 refine Zy ?_
 push_cast
 refine Af.nilNil (by push_cast) (by push_cast) (fun a w h1 h2=>?_) ?_
 ·have u:=run_underlying (P:=prog) underlying20
  simp only[execOp,h1,h2,eqGuard,binOp]
  unfold Op.equal Op.maxDepth Op.equalIn
  simp[u]
 ·((try push_cast)<;>repeat' (first|apply Zi<;>intro _|exact Zp|with_reducible apply Za)<;>try push_cast)
  simp only[PC]
  apply Zw<;>push_cast
theorem r_catS(c:Int):UW prog 111 [.ref 3 0 0 1] (some (wD c)) (PC 0) (PC c):=by
 refine UW.of_awp (t:=4) func111 rfl ntmps111 (by kernel_rfl) (by simp) (by decide) (congrArg Array.toList results111) ?_
 change AWp _ _ _ _ ⟨(4,wD c)::Bq 0 [.ref 3 0 0 1],[(3,.rows [[.val (.int .i64 0)]] 1)],4⟩
 refine Zy ?_
 push_cast
 refine Af.ifNil (by push_cast;rfl) (by push_cast) (fun a v w h1 h2=>?_) ?_
 ·have u:=run_underlying (P:=prog) underlying20
  simp only[execOp,h1,h2,eqGuard,binOp]
  unfold Op.equal Op.maxDepth Op.equalIn
  simp[u]
 ·((try push_cast)<;>repeat' (first|apply Zi<;>intro _|exact Zp|with_reducible apply Za)<;>try push_cast)
  refine Af.assert (by push_cast;rfl) (fun v w=>?_) ?_
  ·simp[Instr.typeAssert,go_sem,underlying177]
  ·((try push_cast)<;>repeat' (first|apply Zi<;>intro _|exact Zp|with_reducible apply Za)<;>try push_cast)
   simp only[PC]
   apply Zw<;>push_cast
section
variable{F:GV->Int}(hF:∀ v,Sm v->wtV v<=2097152->A3 prog 116 [.agg (Aa v)] (.val (.int .i64 (F v))))
include hF
theorem c_May1(m:GM)(hm:SmU m)(hwt:wtU m<=2097152)(h0:Ay F m 1=0):A3 prog 72 [.ptr (Aj m) 0] (.tup []):=by
 have h:A3 prog 73 [.agg (Aj m),.val (.int .i64 1)] (.tup []):=QM hF m 1 hm hwt (by omega) h0
 refine Zf [] func72 rfl ntmps72 results72 ?_
 (have z:=trivial;(try push_cast)<;>repeat' (first|apply Zi<;>intro _|refine Zc h ?_|exact Zp|with_reducible apply Za)<;>try push_cast)
theorem p_May1(m:GM)(hm:SmU m)(hwt:wtU m<=2097152)(h0:Ay F m 1≠0):Fg prog 72 [.ptr (Aj m) 0] (wD (Ay F m 1)):=by
 have h:Fg prog 73 [.agg (Aj m),.val (.int .i64 1)] (wD (Ay F m 1)):=Z4 hF m 1 hm hwt (by omega) h0
 generalize Ay F m 1=c at*
 refine Fg.of_awp func72 rfl ntmps72 (by kernel_rfl) (by simp) (AWp.sz fun H Hb=>Zy ?_)
 (have z:=trivial;(try push_cast)<;>repeat' (first|apply Zi<;>intro _|exact Zp|with_reducible apply Za|(with_reducible show Af _ _ _ _ _ _ _ _;refine Af.pan (by(try push_cast);exact h ..) rfl (by first|rfl|push_cast) rfl ?_)<;>try push_cast|fail)<;>try push_cast)
 exact⟨An _,rfl⟩
end
theorem XC(ds:List D)(hds:Av ds=true)(h:A3 prog 72 ds (.tup [])):A4 prog 71 [.func (.func 72) [] ds] [] (.val (.int .i64 0)) []:=by
 refine A4.of_awp_catch [_] func71 rfl ntmps71 (by kernel_rfl) (by simp) (by decide) (congrArg Array.toList results71) (BN [(3,8)]) [.ref 3 0 0 1] [(2,.ref 3 0 0 1),(0,.func (.func 72) [] ds)] [(3,.rows [[.val (.int .i64 0)]] 1)] (.val (.int .i64 0)) [(3,.rows [[.val (.int .i64 0)]] 1)] ?_
 refine Zy ?_
 (have z:=@hds;(try push_cast[z])<;>repeat' (first|apply Zi<;>intro _|exact Zo|with_reducible apply Za)<;>try push_cast[z])
 refine(show VX _ _ _ _ _ _ _ _ _ _ _ _ _ _ _ _ _ from⟨?_,?_,?_,?_,?_,?_,?_,?_,?_,?_⟩)
 ·push_cast[hds]
 ·push_cast[hds]
 ·push_cast[hds]
 ·push_cast[hds,Di]
 ·push_cast[hds]
 ·push_cast[hds,BD]
 ·push_cast[hds]
 ·push_cast[hds]
 ·refine Zy ?_
  (have z:=@hds;(try push_cast[z])<;>repeat' (first|apply Zi<;>intro _|refine Zv h ?_|exact Zo|with_reducible apply Za)<;>try push_cast[z])
  refine(show VW _ _ _ _ _ _ _ _ from⟨BN [],[.ref 3 0 0 1],_,_,r_catN,?_,?_,?_,?_,?_,.val (.int .i64 0),?_,?_⟩)
  ·push_cast[hds]
  ·push_cast[hds]
  ·push_cast[hds,BD]
  ·push_cast[hds]
  ·push_cast[hds]
  ·push_cast[hds]
  ·push_cast[hds]
   apply Zw<;>push_cast [hds]
 ·push_cast[hds]
  apply Zw<;>push_cast [hds]
theorem XB(ds:List D)(hds:Av ds=true)(c:Int)(h:Fg prog 72 ds (wD c)):A4 prog 71 [.func (.func 72) [] ds] [] (.val (.int .i64 c)) []:=by
 refine A4.of_awp_catch [_] func71 rfl ntmps71 (by kernel_rfl) (by simp) (by decide) (congrArg Array.toList results71) (BN [(3,8)]) [.ref 3 0 0 1] [(2,.ref 3 0 0 1),(0,.func (.func 72) [] ds)] [(3,.rows [[.val (.int .i64 0)]] 1)] (.val (.int .i64 c)) [(3,.rows [[.val (.int .i64 c)]] 1)] ?_
 refine Zy ?_
 (have z:=@hds;(try push_cast[z])<;>repeat' (first|apply Zi<;>intro _|exact Zo|with_reducible apply Za)<;>try push_cast[z])
 refine(show VX _ _ _ _ _ _ _ _ _ _ _ _ _ _ _ _ _ from⟨?_,?_,?_,?_,?_,?_,?_,?_,?_,?_⟩)
 ·push_cast[hds,BB]
 ·push_cast[hds,BB]
 ·push_cast[hds,BB]
 ·push_cast[hds,Di]
 ·push_cast[hds,BB]
 ·push_cast[hds,BD]
 ·push_cast[hds,BB]
 ·push_cast[hds,BB]
 ·refine Zy ?_
  (have z:=@hds;(try push_cast[z])<;>repeat' (first|apply Zi<;>intro _|exact Zo|with_reducible apply Za|(with_reducible show Af _ _ _ _ _ _ _ _;refine Af.panV rfl (by(try push_cast[z]);exact h ..) rfl (by first|rfl|push_cast [z]) rfl ?_)<;>try push_cast[z]|fail)<;>try push_cast[z])
  refine(show VW _ _ _ _ _ _ _ _ from⟨rfl,BN [],[.ref 3 0 0 1],_,_,r_catS c,?_,?_,?_,?_,?_,.val (.int .i64 c),?_,?_⟩)
  ·push_cast[hds,BB]
  ·push_cast[hds,BB]
  ·push_cast[hds,BD]
  ·push_cast[hds,BB]
  ·push_cast[hds,BB]
  ·push_cast[hds,BB]
  ·push_cast[hds,BB]
   apply Zw<;>push_cast [hds,BB]
 ·push_cast[hds,BB]
  apply Zw<;>push_cast [hds,BB]
noncomputable def K0(F:GV->Int)(m:GM):Int:=if 64<AQ m then 6 else Ay F m 1
theorem c_mMay{F:GV->Int}(hF:∀ v,Sm v->wtV v<=2097152->A3 prog 116 [.agg (Aa v)] (.val (.int .i64 (F v))))(m:GM)(hm:SmU m)(hwt:wtU m<=2097152)(hz:AQ m<=1099511627776):A3 prog 49 [.agg (Aj m)] (.val (.int .i64 (K0 F m))):=by
 have hS:=VN m hz
 have oU:=AW m
 unfold K0
 by_cases h64:64<AQ m
 ·rw[if_pos h64]
  have b1:decide ((64:Int)<(AQ m:Nat))=true:=decide_eq_true (by omega)
  refine Zf [0] func49 rfl ntmps49 results49 ?_
  (have z:=Za b1 oU;(try push_cast[z])<;>repeat' (first|apply Zi<;>intro _|refine Zc hS ?_|exact Zo|with_reducible apply Za)<;>try push_cast[z])
 ·rw[if_neg h64]
  have b1:decide ((64:Int)<(AQ m:Nat))=false:=decide_eq_false (by omega)
  by_cases hc:Ay F m 1=0
  ·have hC:=XC [.ptr (Aj m) 0] (by simp[Av,D.pure,oU]) (c_May1 hF m hm hwt hc)
   rw[hc]
   refine Zf [0] func49 rfl ntmps49 results49 ?_
   (have z:=Za b1 oU;(try push_cast[z])<;>repeat' (first|apply Zi<;>intro _|refine Zc hS ?_|refine Zs [] hC ?_|exact Zo|with_reducible apply Za)<;>try push_cast[z])
  ·have hC:=XB [.ptr (Aj m) 0] (by simp[Av,D.pure,oU]) _ (p_May1 hF m hm hwt hc)
   generalize Ay F m 1=c at*
   refine Zf [0] func49 rfl ntmps49 results49 ?_
   (have z:=Za b1 oU;(try push_cast[z])<;>repeat' (first|apply Zi<;>intro _|refine Zc hS ?_|refine Zs [] hC ?_|exact Zo|with_reducible apply Za)<;>try push_cast[z])
end Go.Ab
namespace Go.Ab
open Go.Proofs Go.Proofs.Tryz Go.RowKit Go.Shelf
theorem r_Eq0(v:GV):A3 prog 188 [.agg (Aa v),.agg zT] (.val (.bool (Br v))):=by
 rw[A0]
 refine Zk [0,8] func188 rfl ntmps188 results188 fun H Hb=>?_
 ((try push_cast)<;>repeat' (first|apply Zi<;>intro _|exact Zp|with_reducible apply Za)<;>try push_cast)
 all_goals first
  |(clear H Hb;have hem:ByteArray.empty=(⟨#[]⟩:ByteArray):=rfl;simp_all [Br,Dr];done)
  |skip
 rename_i x1 x2 x3 x4 x5 x6
 have z1:v.kind=0:=by simpa using x1
 have z2:v.b=false:=by simpa using x2
 have z3:v.n=0:=by simpa using x3
 have z4:v.s=ByteArray.empty:=by simpa using x4
 have z5:v.list.length=0:=by simpa using x5
 have z6:v.obj.length=0:=by simpa using x6
 have hz:Br v=true:=by
  unfold Br
  have he:noS ByteArray.empty=true:=by rw[Dr];rfl
  rw[z1,z2,z3,z4,z5,z6,he]
  rfl
 rw[hz]
 have z5':v.list=[]:=A0G.1 z5
 have z6':v.obj=[]:=A0G.1 z6
 clear x1 x2 x3 x4 x5 x6 z5 z6
 rw[z5',z6']
 refine AWp.loopI mixed (by kernel_rfl) (ι:=Unit) (fun _=>True) (fun _=>⟨[(5,.val (.int .i64 0)),(2,.ptr [.val (.int .i64 v.kind),.val (.bool v.b),.val (.int .i64 v.n),.val (.string v.s),.slice [] false,.slice [] false] 0)],[],400⟩) (fun _=>0) () trivial ?_ fun _ _=>?_
 ·apply Zw<;>push_cast
 ·((try push_cast)<;>repeat' (first|apply Zi<;>intro _|exact Zp|with_reducible apply Za)<;>try push_cast)
  refine AWp.loopI mixed (by kernel_rfl) (ι:=Unit) (fun _=>True) (fun _=>⟨[(6,.val (.int .i64 0)),(2,.ptr [.val (.int .i64 v.kind),.val (.bool v.b),.val (.int .i64 v.n),.val (.string v.s),.slice [] false,.slice [] false] 0)],[],600⟩) (fun _=>0) () trivial ?_ fun _ _=>?_
  ·apply Zw<;>push_cast
  ·((try push_cast)<;>repeat' (first|apply Zi<;>intro _|exact Zp|with_reducible apply Za)<;>try push_cast)
theorem Dk(v:GV):A3 prog 142 [.agg (Aa v)] (.val (.bool (Br v))):=by
 have h:=r_Eq0 v
 rw[A0] at h|-
 refine Zf [0] func142 rfl ntmps142 results142 ?_
 (have z:=trivial;(try push_cast)<;>repeat' (first|apply Zi<;>intro _|refine Zc h ?_|exact Zp|with_reducible apply Za)<;>try push_cast)
theorem V9(s:ByteArray)(hs:s.size<=4611686018427387904):A3 prog 143 [.val (.string s)] (.val (.bool (QV s))):=by
 have h:=JW s hs
 refine Zk [] func143 rfl ntmps143 results143 fun H Hb=>?_
 (have z:=trivial;(try push_cast)<;>repeat' (first|apply Zi<;>intro _|refine Zc h ?_|exact Zp|with_reducible apply Za)<;>try push_cast)
 all_goals(clear H Hb h;first|(simp_all [QV];done)|(simp_all [QV];omega))
theorem r_key(m:GM)(hk:m.key.size<=4611686018427387904)(ht:m.to.size<=4611686018427387904):A3 prog 94 [.agg (Aj m)] (.val (.bool (Cy m))):=by
 have h1:=V9 m.key hk
 have h2:=V9 m.to ht
 have h3:=JV m.key hk
 rw[Ae,A0 m.was,A0 m.value]
 simp only[A07,A09,A05]
 refine Zk [0] func94 rfl ntmps94 results94 fun H Hb=>?_
 (have z:=trivial;(try push_cast)<;>repeat' (first|apply Zi<;>intro _|refine Zc h1 ?_|refine Zc h2 ?_|refine Zc h3 ?_|exact Zp|with_reducible apply Za)<;>try push_cast)
 all_goals(clear H Hb h1 h2 h3;simp_all [Cy,Dr])
section
variable(k:Int)(key tx:ByteArray)(n:Int)(had:Bool)(was:GV)(has:Bool)(value:GV)(l:List GM)
theorem YP(hk:k=1):A3 prog 93 [.agg (Aj (.mk k key tx n had was has value l))] (.val (.bool (!AD (.mk k key tx n had was has value l)))):=by
 have h1:=Dk was
 have h2:=Dk value
 rw[A0] at h1 h2
 rw[Ae,A0 (GM.was _),A0 (GM.value _)]
 simp only[A07,A09,A05]
 unfold AD
 simp only[GM.kind,GM.key,GM.to,GM.n,GM.had,GM.was,GM.has,GM.value,GM.list]
 generalize Br was=zw at*
 generalize Br value=zv at*
 subst hk
 cases had<;>cases has
 all_goals
  refine Zk [0] func93 rfl ntmps93 results93 fun H Hb=>?_
  (have z:=trivial;(try push_cast)<;>repeat' (first|apply Zi<;>intro _|refine Zc h1 ?_|refine Zc h2 ?_|exact Zp|with_reducible apply Za)<;>try push_cast)
 all_goals(clear h1 h2 H Hb;simp_all [Dr])
theorem YO(hk:k=2):A3 prog 93 [.agg (Aj (.mk k key tx n had was has value l))] (.val (.bool (!AD (.mk k key tx n had was has value l)))):=by
 have h1:=Dk was
 have h2:=Dk value
 rw[A0] at h1 h2
 rw[Ae,A0 (GM.was _),A0 (GM.value _)]
 simp only[A07,A09,A05]
 unfold AD
 simp only[GM.kind,GM.key,GM.to,GM.n,GM.had,GM.was,GM.has,GM.value,GM.list]
 generalize Br was=zw at*
 generalize Br value=zv at*
 subst hk
 cases had<;>cases has
 all_goals
  refine Zk [0] func93 rfl ntmps93 results93 fun H Hb=>?_
  (have z:=trivial;(try push_cast)<;>repeat' (first|apply Zi<;>intro _|refine Zc h1 ?_|refine Zc h2 ?_|exact Zp|with_reducible apply Za)<;>try push_cast)
 all_goals(clear h1 h2 H Hb;simp_all [Dr])
theorem YN(hk:k=3):A3 prog 93 [.agg (Aj (.mk k key tx n had was has value l))] (.val (.bool (!AD (.mk k key tx n had was has value l)))):=by
 have h1:=Dk was
 have h2:=Dk value
 rw[A0] at h1 h2
 rw[Ae,A0 (GM.was _),A0 (GM.value _)]
 simp only[A07,A09,A05]
 unfold AD
 simp only[GM.kind,GM.key,GM.to,GM.n,GM.had,GM.was,GM.has,GM.value,GM.list]
 generalize Br was=zw at*
 generalize Br value=zv at*
 subst hk
 cases had<;>cases has
 all_goals
  refine Zk [0] func93 rfl ntmps93 results93 fun H Hb=>?_
  (have z:=trivial;(try push_cast)<;>repeat' (first|apply Zi<;>intro _|refine Zc h1 ?_|refine Zc h2 ?_|exact Zp|with_reducible apply Za)<;>try push_cast)
 all_goals(clear h1 h2 H Hb;simp_all [Dr])
theorem YM(hk:k=4):A3 prog 93 [.agg (Aj (.mk k key tx n had was has value l))] (.val (.bool (!AD (.mk k key tx n had was has value l)))):=by
 have h1:=Dk was
 have h2:=Dk value
 rw[A0] at h1 h2
 rw[Ae,A0 (GM.was _),A0 (GM.value _)]
 simp only[A07,A09,A05]
 unfold AD
 simp only[GM.kind,GM.key,GM.to,GM.n,GM.had,GM.was,GM.has,GM.value,GM.list]
 generalize Br was=zw at*
 generalize Br value=zv at*
 subst hk
 cases had<;>cases has
 all_goals
  refine Zk [0] func93 rfl ntmps93 results93 fun H Hb=>?_
  (have z:=trivial;(try push_cast)<;>repeat' (first|apply Zi<;>intro _|refine Zc h1 ?_|refine Zc h2 ?_|exact Zp|with_reducible apply Za)<;>try push_cast)
 all_goals(clear h1 h2 H Hb;simp_all [Dr])
theorem YL(hk:k=5):A3 prog 93 [.agg (Aj (.mk k key tx n had was has value l))] (.val (.bool (!AD (.mk k key tx n had was has value l)))):=by
 have h1:=Dk was
 have h2:=Dk value
 rw[A0] at h1 h2
 rw[Ae,A0 (GM.was _),A0 (GM.value _)]
 simp only[A07,A09,A05]
 unfold AD
 simp only[GM.kind,GM.key,GM.to,GM.n,GM.had,GM.was,GM.has,GM.value,GM.list]
 generalize Br was=zw at*
 generalize Br value=zv at*
 subst hk
 cases had<;>cases has
 all_goals
  refine Zk [0] func93 rfl ntmps93 results93 fun H Hb=>?_
  (have z:=trivial;(try push_cast)<;>repeat' (first|apply Zi<;>intro _|refine Zc h1 ?_|refine Zc h2 ?_|exact Zp|with_reducible apply Za)<;>try push_cast)
 all_goals(clear h1 h2 H Hb;simp_all [Dr])
theorem YK(hk:k=6):A3 prog 93 [.agg (Aj (.mk k key tx n had was has value l))] (.val (.bool (!AD (.mk k key tx n had was has value l)))):=by
 have h1:=Dk was
 have h2:=Dk value
 rw[A0] at h1 h2
 rw[Ae,A0 (GM.was _),A0 (GM.value _)]
 simp only[A07,A09,A05]
 unfold AD
 simp only[GM.kind,GM.key,GM.to,GM.n,GM.had,GM.was,GM.has,GM.value,GM.list]
 generalize Br was=zw at*
 generalize Br value=zv at*
 subst hk
 cases had<;>cases has
 all_goals
  refine Zk [0] func93 rfl ntmps93 results93 fun H Hb=>?_
  (have z:=trivial;(try push_cast)<;>repeat' (first|apply Zi<;>intro _|refine Zc h1 ?_|refine Zc h2 ?_|exact Zp|with_reducible apply Za)<;>try push_cast)
 all_goals(clear h1 h2 H Hb;simp_all [Dr])
theorem YJ(hk:k=7):A3 prog 93 [.agg (Aj (.mk k key tx n had was has value l))] (.val (.bool (!AD (.mk k key tx n had was has value l)))):=by
 have h1:=Dk was
 have h2:=Dk value
 rw[A0] at h1 h2
 rw[Ae,A0 (GM.was _),A0 (GM.value _)]
 simp only[A07,A09,A05]
 unfold AD
 simp only[GM.kind,GM.key,GM.to,GM.n,GM.had,GM.was,GM.has,GM.value,GM.list]
 generalize Br was=zw at*
 generalize Br value=zv at*
 subst hk
 cases had<;>cases has
 all_goals
  refine Zk [0] func93 rfl ntmps93 results93 fun H Hb=>?_
  (have z:=trivial;(try push_cast)<;>repeat' (first|apply Zi<;>intro _|refine Zc h1 ?_|refine Zc h2 ?_|exact Zp|with_reducible apply Za)<;>try push_cast)
 all_goals(clear h1 h2 H Hb;simp_all [Dr])
theorem YQ(hk:k<1∨7<k):A3 prog 93 [.agg (Aj (.mk k key tx n had was has value l))] (.val (.bool (!AD (.mk k key tx n had was has value l)))):=by
 have h1:=Dk was
 have h2:=Dk value
 rw[A0] at h1 h2
 rw[Ae,A0 (GM.was _),A0 (GM.value _)]
 simp only[A07,A09,A05]
 unfold AD
 simp only[GM.kind,GM.key,GM.to,GM.n,GM.had,GM.was,GM.has,GM.value,GM.list]
 generalize Br was=zw at*
 generalize Br value=zv at*
 have e1:(k==1)=false:=by simp;omega
 have e2:(k==2)=false:=by simp;omega
 have e3:(k==3)=false:=by simp;omega
 have e4:(k==4)=false:=by simp;omega
 have e5:(k==5)=false:=by simp;omega
 have e6:(k==6)=false:=by simp;omega
 have e7:(k==7)=false:=by simp;omega
 simp only[e1,e2,e3,e4,e5,e6,e7,Bool.or_self,A0q,if_false,Bool.or_true,Bool.not_true]
 rcases hk with hk|hk
 ·have b1:decide (k<1)=true:=decide_eq_true hk
  refine Zf [0] func93 rfl ntmps93 results93 ?_
  (have z:=b1;(try push_cast[z])<;>repeat' (first|apply Zi<;>intro _|refine Zc h1 ?_|refine Zc h2 ?_|exact Zo|with_reducible apply Za)<;>try push_cast[z])
 ·have b1:decide (k<1)=false:=decide_eq_false (by omega)
  have b2:decide (7<k)=true:=decide_eq_true hk
  refine Zf [0] func93 rfl ntmps93 results93 ?_
  (have z:=Za b1 b2;(try push_cast[z])<;>repeat' (first|apply Zi<;>intro _|refine Zc h1 ?_|refine Zc h2 ?_|exact Zo|with_reducible apply Za)<;>try push_cast[z])
end
theorem r_mbare(m:GM):A3 prog 93 [.agg (Aj m)] (.val (.bool (!AD m))):=by
 obtain⟨k,key,tx,n,had,was,has,value,l⟩:=m
 by_cases h:k<1∨7<k
 ·exact YQ _ _ _ _ _ _ _ _ _ h
 ·have:k=1∨k=2∨k=3∨k=4∨k=5∨k=6∨k=7:=by omega
  rcases this with h|h|h|h|h|h|h
  ·exact YP _ _ _ _ _ _ _ _ _ h
  ·exact YO _ _ _ _ _ _ _ _ _ h
  ·exact YN _ _ _ _ _ _ _ _ _ h
  ·exact YM _ _ _ _ _ _ _ _ _ h
  ·exact YL _ _ _ _ _ _ _ _ _ h
  ·exact YK _ _ _ _ _ _ _ _ _ h
  ·exact YJ _ _ _ _ _ _ _ _ _ h
theorem Va(m:GM)(hz:AQ m<=1099511627776):A3 prog 59 [.agg (Aj m)] (.val (.int .i64 (AQ m:Nat))):=by
 have hrec:∀ x,SizeOf.sizeOf x<SizeOf.sizeOf m->AQ x<=1099511627776->A3 prog 59 [.agg (Aj x)] (.val (.int .i64 (AQ x:Nat))):=fun x hx h=>Va x h
 have hln:=Gg m.list
 rw[EY] at hz|-
 rw[Ae,A0 m.was,A0 m.value]
 simp only[A07,A09,A05]
 refine Zf [0] func59 rfl ntmps59 results59 ?_
 ((try push_cast)<;>repeat' (first|apply Zi<;>intro _|exact Zp|with_reducible apply Za)<;>try push_cast)
 refine Zl (fun i=>i<=m.list.length) (fun i=>⟨[(4,.val (.int .i64 i)),(3,.val (.int .i64 ((1+Bf (m.list.take i):Nat):Int))),(1,.ptr [.val (.int .i64 m.kind),.val (.string m.key),.val (.string m.to),.val (.int .i64 m.n),.val (.bool m.had),.val (.int .i64 m.was.kind),.val (.bool m.was.b),.val (.int .i64 m.was.n),.val (.string m.was.s),.slice (m.was.list.map Aa) false,.slice (m.was.obj.map Ac) false,.val (.bool m.has),.val (.int .i64 m.value.kind),.val (.bool m.value.b),.val (.int .i64 m.value.n),.val (.string m.value.s),.slice (m.value.list.map Aa) false,.slice (m.value.obj.map Ac) false,.slice (m.list.map Aj) false] 0)],[],200⟩) (fun i=>m.list.length-i) 0 (by simp) ?_ fun i hi=>?_
 ·apply Zw<;>push_cast
  simp[Bf]
 ·push_cast
  refine A6 (fun ha=>?_) (fun ha=>?_)
  ·have hi':i<m.list.length:=by simpa using ha
   have e1:=Cd hi'
   obtain⟨t1,t2⟩:=CV hi'
   have hr:=hrec (m.list.getD i zU) (GM.list_lt (Ad hi')) (by omega)
   (have z:=e1;(try push_cast[z])<;>repeat' (first|apply Zi<;>intro _|refine Zc (hr ..) ?_|exact Zo|with_reducible apply Za)<;>try push_cast[z])
   all_goals first|omega|skip
   refine⟨i+1,hi',by omega,?_⟩
   apply Zw<;>push_cast
   refine⟨A9 (by omega) (by omega),?_⟩
   rw[t1,A1G,<-Int.add_assoc]
   exact A9 (by omega) (by omega)
  ·have hi':i=m.list.length:=by simp at ha;omega
   subst hi'
   ((try push_cast)<;>repeat' (first|apply Zi<;>intro _|exact Zp|with_reducible apply Za)<;>try push_cast)
   all_goals first|omega|skip
   all_goals rw[A0Q]
termination_by SizeOf.sizeOf m
theorem Cx{F:GV->Int}{d:Nat}:∀ {l:List GM},(∀ j,j<l.length->Ay F (l.getD j zU) d=0)->BP F l d=0
 |[],_=>rfl
 |v::l,h=>by
  have h0:Ay F v d=0:=h 0 (by simp)
  simp only[BP,h0]
  exact Cx fun j hj=>h (j+1) (by simp;omega)
theorem BW{F:GV->Int}{d:Nat}:∀ {l:List GM} {i:Nat},i<l.length->(∀ j,j<i->Ay F (l.getD j zU) d=0)->Ay F (l.getD i zU) d≠0->BP F l d=Ay F (l.getD i zU) d
 |v::l,0,_,_,h=>by
  simp only[A0K] at h|-
  simp only[BP,if_pos h]
 |v::l,i+1,hi,h0,h=>by
  have hv:Ay F v d=0:=h0 0 (by omega)
  simp only[BP,hv,A1R] at h|-
  exact BW (by simpa using hi) (fun j hj=>h0 (j+1) (by omega)) h
section
variable{F:GV->Int}
theorem U0(key tx:ByteArray)(n:Int)(was value:GV)(l:List GM)(d:Nat)(hl:l.length<=1048576)(hd:d<=6)
  (k1:A3 prog 93 [.agg (Aj (.mk (4:Int) key tx n true was true value l))] (.val (.bool true))) (k3:A3 prog 94 [.agg (Aj (.mk (4:Int) key tx n true was true value l))] (.val (.bool true)))
  (k4:A3 prog 95 [.agg (Aa was)] (.val (.int .i64 (F was)))) (k5:A3 prog 95 [.agg (Aa value)] (.val (.int .i64 (F value))))
  (hrl:∀ i,i<l.length->A3 prog 60 [.agg (Aj (l.getD i zU)),.val (.int .i64 ((d:Int)+1))] (.val (.int .i64 (Ay F (l.getD i zU) (d+1))))):
  A3 prog 60 [.agg (Aj (.mk (4:Int) key tx n true was true value l)),.val (.int .i64 d)] (.val (.int .i64 (if F was≠0 then F was else if F value≠0 then F value else BP F l (d+1)))):=by
 have w1:IntKind.i64.wrap (↑d+1)=↑d+1:=A9 (by omega) (by omega)
 have b1:decide ((6:Int)<d)=false:=decide_eq_false (by omega)
 rw[Ae] at k1 k3|-
 rw[A0] at k4 k5
 simp only[GM.kind,GM.key,GM.to,GM.n,GM.had,GM.was,GM.has,GM.value,GM.list,A0 was,A0 value,A07,A09,A05] at k1 k3|-
 generalize F was=fw at*
 generalize F value=fv at*
 by_cases c1:fw=0
 case neg=>
  have b2:(fw !=0)=true:=by simpa using c1
  rw[if_pos c1]
  refine Zf [0] func60 rfl ntmps60 results60 ?_
  (have z:=Za b1 b2;(try push_cast[z])<;>repeat' (first|apply Zi<;>intro _|refine Zc k1 ?_|refine Zc k3 ?_|refine Zc k4 ?_|exact Zo|with_reducible apply Za)<;>try push_cast[z])
 subst c1
 rw[if_neg (by decide)]
 by_cases c2:fv=0
 case neg=>
  have b2:(fv !=0)=true:=by simpa using c2
  rw[if_pos c2]
  refine Zf [0] func60 rfl ntmps60 results60 ?_
  (have z:=Za b1 b2;(try push_cast[z])<;>repeat' (first|apply Zi<;>intro _|refine Zc k1 ?_|refine Zc k3 ?_|refine Zc k4 ?_|refine Zc k5 ?_|exact Zo|with_reducible apply Za)<;>try push_cast[z])
 subst c2
 rw[if_neg (by decide)]
 refine Zf [0] func60 rfl ntmps60 results60 ?_
 (have z:=b1;(try push_cast[z])<;>repeat' (first|apply Zi<;>intro _|refine Zc k1 ?_|refine Zc k3 ?_|refine Zc k4 ?_|refine Zc k5 ?_|exact Zo|with_reducible apply Za)<;>try push_cast[z])
 refine Zl (fun i=>i<=l.length/\∀ j,j<i->Ay F (l.getD j zU) (d+1)=0) (fun i=>⟨[(7,.val (.int .i64 i)),(1,.val (.int .i64 d)),(2,.ptr [.val (.int .i64 4),.val (.string key),.val (.string tx),.val (.int .i64 n),.val (.bool true),.val (.int .i64 was.kind),.val (.bool was.b),.val (.int .i64 was.n),.val (.string was.s),.slice (was.list.map Aa) false,.slice (was.obj.map Ac) false,.val (.bool true),.val (.int .i64 value.kind),.val (.bool value.b),.val (.int .i64 value.n),.val (.string value.s),.slice (value.list.map Aa) false,.slice (value.obj.map Ac) false,.slice (l.map Aj) false] 0)],[],400⟩) (fun i=>l.length-i) 0 (by simp) ?_ fun i hi=>?_
 ·apply Zw<;>push_cast
 ·obtain⟨h1,h2⟩:=hi
  push_cast
  refine A6 (fun ha=>?_) (fun ha=>?_)
  ·have hi':i<l.length:=by simpa using ha
   have e1:=Cd hi'
   have hr:=hrl i hi'
   have hhit:=BW hi' h2
   have w2:IntKind.i64.wrap (↑i+1)=↑i+1:=A9 (by omega) (by omega)
   have oX:=AW (l.getD i zU)
   generalize hx:l.getD i zU=x at*
   by_cases hc:Ay F x (d+1)=0
   ·rw[hc] at hr
    (have z:=Za e1<|Za w1 oX;(try push_cast[z])<;>repeat' (first|apply Zi<;>intro _|refine Zc (hr ..) ?_|exact Zo|with_reducible apply Za)<;>try push_cast[z])
    all_goals first|omega|skip
    refine⟨i+1,⟨hi',fun j hj=>?_⟩,by omega,?_⟩
    ·by_cases hji:j=i
     ·rw[hji,hx];exact hc
     ·exact h2 j (by omega)
    ·apply Zw<;>push_cast
     all_goals first|exact w2|skip
   ·have b3:(Ay F x (d+1) !=0)=true:=by simpa using hc
    rw[hhit hc]
    generalize Ay F x (d+1)=c at*
    (have z:=Za e1<|Za w1<|Za b3 oX;(try push_cast[z])<;>repeat' (first|apply Zi<;>intro _|refine Zc (hr ..) ?_|exact Zo|with_reducible apply Za)<;>try push_cast[z])
    all_goals first|omega|skip
  ·have hi':i=l.length:=by simp at ha;omega
   subst hi'
   rw[Cx h2]
   ((try push_cast)<;>repeat' (first|apply Zi<;>intro _|exact Zp|with_reducible apply Za)<;>try push_cast)
theorem U1(key tx:ByteArray)(n:Int)(was value:GV)(l:List GM)(d:Nat)(hl:l.length<=1048576)(hd:d<=6)
  (k1:A3 prog 93 [.agg (Aj (.mk (1:Int) key tx n true was false value l))] (.val (.bool true))) (k3:A3 prog 94 [.agg (Aj (.mk (1:Int) key tx n true was false value l))] (.val (.bool true)))
  (k4:A3 prog 95 [.agg (Aa was)] (.val (.int .i64 (F was)))) (k5:A3 prog 95 [.agg (Aa value)] (.val (.int .i64 (F value))))
  (hrl:∀ i,i<l.length->A3 prog 60 [.agg (Aj (l.getD i zU)),.val (.int .i64 ((d:Int)+1))] (.val (.int .i64 (Ay F (l.getD i zU) (d+1))))):
  A3 prog 60 [.agg (Aj (.mk (1:Int) key tx n true was false value l)),.val (.int .i64 d)] (.val (.int .i64 (if F was≠0 then F was else if F value≠0 then F value else BP F l (d+1)))):=by
 have w1:IntKind.i64.wrap (↑d+1)=↑d+1:=A9 (by omega) (by omega)
 have b1:decide ((6:Int)<d)=false:=decide_eq_false (by omega)
 rw[Ae] at k1 k3|-
 rw[A0] at k4 k5
 simp only[GM.kind,GM.key,GM.to,GM.n,GM.had,GM.was,GM.has,GM.value,GM.list,A0 was,A0 value,A07,A09,A05] at k1 k3|-
 generalize F was=fw at*
 generalize F value=fv at*
 by_cases c1:fw=0
 case neg=>
  have b2:(fw !=0)=true:=by simpa using c1
  rw[if_pos c1]
  refine Zf [0] func60 rfl ntmps60 results60 ?_
  (have z:=Za b1 b2;(try push_cast[z])<;>repeat' (first|apply Zi<;>intro _|refine Zc k1 ?_|refine Zc k3 ?_|refine Zc k4 ?_|exact Zo|with_reducible apply Za)<;>try push_cast[z])
 subst c1
 rw[if_neg (by decide)]
 by_cases c2:fv=0
 case neg=>
  have b2:(fv !=0)=true:=by simpa using c2
  rw[if_pos c2]
  refine Zf [0] func60 rfl ntmps60 results60 ?_
  (have z:=Za b1 b2;(try push_cast[z])<;>repeat' (first|apply Zi<;>intro _|refine Zc k1 ?_|refine Zc k3 ?_|refine Zc k4 ?_|refine Zc k5 ?_|exact Zo|with_reducible apply Za)<;>try push_cast[z])
 subst c2
 rw[if_neg (by decide)]
 refine Zf [0] func60 rfl ntmps60 results60 ?_
 (have z:=b1;(try push_cast[z])<;>repeat' (first|apply Zi<;>intro _|refine Zc k1 ?_|refine Zc k3 ?_|refine Zc k4 ?_|refine Zc k5 ?_|exact Zo|with_reducible apply Za)<;>try push_cast[z])
 refine Zl (fun i=>i<=l.length/\∀ j,j<i->Ay F (l.getD j zU) (d+1)=0) (fun i=>⟨[(7,.val (.int .i64 i)),(1,.val (.int .i64 d)),(2,.ptr [.val (.int .i64 1),.val (.string key),.val (.string tx),.val (.int .i64 n),.val (.bool true),.val (.int .i64 was.kind),.val (.bool was.b),.val (.int .i64 was.n),.val (.string was.s),.slice (was.list.map Aa) false,.slice (was.obj.map Ac) false,.val (.bool false),.val (.int .i64 value.kind),.val (.bool value.b),.val (.int .i64 value.n),.val (.string value.s),.slice (value.list.map Aa) false,.slice (value.obj.map Ac) false,.slice (l.map Aj) false] 0)],[],400⟩) (fun i=>l.length-i) 0 (by simp) ?_ fun i hi=>?_
 ·apply Zw<;>push_cast
 ·obtain⟨h1,h2⟩:=hi
  push_cast
  refine A6 (fun ha=>?_) (fun ha=>?_)
  ·have hi':i<l.length:=by simpa using ha
   have e1:=Cd hi'
   have hr:=hrl i hi'
   have hhit:=BW hi' h2
   have w2:IntKind.i64.wrap (↑i+1)=↑i+1:=A9 (by omega) (by omega)
   have oX:=AW (l.getD i zU)
   generalize hx:l.getD i zU=x at*
   by_cases hc:Ay F x (d+1)=0
   ·rw[hc] at hr
    (have z:=Za e1<|Za w1 oX;(try push_cast[z])<;>repeat' (first|apply Zi<;>intro _|refine Zc (hr ..) ?_|exact Zo|with_reducible apply Za)<;>try push_cast[z])
    all_goals first|omega|skip
    refine⟨i+1,⟨hi',fun j hj=>?_⟩,by omega,?_⟩
    ·by_cases hji:j=i
     ·rw[hji,hx];exact hc
     ·exact h2 j (by omega)
    ·apply Zw<;>push_cast
     all_goals first|exact w2|skip
   ·have b3:(Ay F x (d+1) !=0)=true:=by simpa using hc
    rw[hhit hc]
    generalize Ay F x (d+1)=c at*
    (have z:=Za e1<|Za w1<|Za b3 oX;(try push_cast[z])<;>repeat' (first|apply Zi<;>intro _|refine Zc (hr ..) ?_|exact Zo|with_reducible apply Za)<;>try push_cast[z])
    all_goals first|omega|skip
  ·have hi':i=l.length:=by simp at ha;omega
   subst hi'
   rw[Cx h2]
   ((try push_cast)<;>repeat' (first|apply Zi<;>intro _|exact Zp|with_reducible apply Za)<;>try push_cast)
theorem TZ(key tx:ByteArray)(n:Int)(was value:GV)(l:List GM)(d:Nat)(hl:l.length<=1048576)(hd:d<=6)
  (k1:A3 prog 93 [.agg (Aj (.mk (5:Int) key tx n true was false value l))] (.val (.bool true))) (k3:A3 prog 94 [.agg (Aj (.mk (5:Int) key tx n true was false value l))] (.val (.bool true)))
  (k4:A3 prog 95 [.agg (Aa was)] (.val (.int .i64 (F was)))) (k5:A3 prog 95 [.agg (Aa value)] (.val (.int .i64 (F value))))
  (hrl:∀ i,i<l.length->A3 prog 60 [.agg (Aj (l.getD i zU)),.val (.int .i64 ((d:Int)+1))] (.val (.int .i64 (Ay F (l.getD i zU) (d+1))))):
  A3 prog 60 [.agg (Aj (.mk (5:Int) key tx n true was false value l)),.val (.int .i64 d)] (.val (.int .i64 (if F was≠0 then F was else if F value≠0 then F value else BP F l (d+1)))):=by
 have w1:IntKind.i64.wrap (↑d+1)=↑d+1:=A9 (by omega) (by omega)
 have b1:decide ((6:Int)<d)=false:=decide_eq_false (by omega)
 rw[Ae] at k1 k3|-
 rw[A0] at k4 k5
 simp only[GM.kind,GM.key,GM.to,GM.n,GM.had,GM.was,GM.has,GM.value,GM.list,A0 was,A0 value,A07,A09,A05] at k1 k3|-
 generalize F was=fw at*
 generalize F value=fv at*
 by_cases c1:fw=0
 case neg=>
  have b2:(fw !=0)=true:=by simpa using c1
  rw[if_pos c1]
  refine Zf [0] func60 rfl ntmps60 results60 ?_
  (have z:=Za b1 b2;(try push_cast[z])<;>repeat' (first|apply Zi<;>intro _|refine Zc k1 ?_|refine Zc k3 ?_|refine Zc k4 ?_|exact Zo|with_reducible apply Za)<;>try push_cast[z])
 subst c1
 rw[if_neg (by decide)]
 by_cases c2:fv=0
 case neg=>
  have b2:(fv !=0)=true:=by simpa using c2
  rw[if_pos c2]
  refine Zf [0] func60 rfl ntmps60 results60 ?_
  (have z:=Za b1 b2;(try push_cast[z])<;>repeat' (first|apply Zi<;>intro _|refine Zc k1 ?_|refine Zc k3 ?_|refine Zc k4 ?_|refine Zc k5 ?_|exact Zo|with_reducible apply Za)<;>try push_cast[z])
 subst c2
 rw[if_neg (by decide)]
 refine Zf [0] func60 rfl ntmps60 results60 ?_
 (have z:=b1;(try push_cast[z])<;>repeat' (first|apply Zi<;>intro _|refine Zc k1 ?_|refine Zc k3 ?_|refine Zc k4 ?_|refine Zc k5 ?_|exact Zo|with_reducible apply Za)<;>try push_cast[z])
 refine Zl (fun i=>i<=l.length/\∀ j,j<i->Ay F (l.getD j zU) (d+1)=0) (fun i=>⟨[(7,.val (.int .i64 i)),(1,.val (.int .i64 d)),(2,.ptr [.val (.int .i64 5),.val (.string key),.val (.string tx),.val (.int .i64 n),.val (.bool true),.val (.int .i64 was.kind),.val (.bool was.b),.val (.int .i64 was.n),.val (.string was.s),.slice (was.list.map Aa) false,.slice (was.obj.map Ac) false,.val (.bool false),.val (.int .i64 value.kind),.val (.bool value.b),.val (.int .i64 value.n),.val (.string value.s),.slice (value.list.map Aa) false,.slice (value.obj.map Ac) false,.slice (l.map Aj) false] 0)],[],400⟩) (fun i=>l.length-i) 0 (by simp) ?_ fun i hi=>?_
 ·apply Zw<;>push_cast
 ·obtain⟨h1,h2⟩:=hi
  push_cast
  refine A6 (fun ha=>?_) (fun ha=>?_)
  ·have hi':i<l.length:=by simpa using ha
   have e1:=Cd hi'
   have hr:=hrl i hi'
   have hhit:=BW hi' h2
   have w2:IntKind.i64.wrap (↑i+1)=↑i+1:=A9 (by omega) (by omega)
   have oX:=AW (l.getD i zU)
   generalize hx:l.getD i zU=x at*
   by_cases hc:Ay F x (d+1)=0
   ·rw[hc] at hr
    (have z:=Za e1<|Za w1 oX;(try push_cast[z])<;>repeat' (first|apply Zi<;>intro _|refine Zc (hr ..) ?_|exact Zo|with_reducible apply Za)<;>try push_cast[z])
    all_goals first|omega|skip
    refine⟨i+1,⟨hi',fun j hj=>?_⟩,by omega,?_⟩
    ·by_cases hji:j=i
     ·rw[hji,hx];exact hc
     ·exact h2 j (by omega)
    ·apply Zw<;>push_cast
     all_goals first|exact w2|skip
   ·have b3:(Ay F x (d+1) !=0)=true:=by simpa using hc
    rw[hhit hc]
    generalize Ay F x (d+1)=c at*
    (have z:=Za e1<|Za w1<|Za b3 oX;(try push_cast[z])<;>repeat' (first|apply Zi<;>intro _|refine Zc (hr ..) ?_|exact Zo|with_reducible apply Za)<;>try push_cast[z])
    all_goals first|omega|skip
  ·have hi':i=l.length:=by simp at ha;omega
   subst hi'
   rw[Cx h2]
   ((try push_cast)<;>repeat' (first|apply Zi<;>intro _|exact Zp|with_reducible apply Za)<;>try push_cast)
theorem TY(k:Int)(hk1:k≠1)(hk5:k≠5)(key tx:ByteArray)(n:Int)(was value:GV)(l:List GM)(d:Nat)(hl:l.length<=1048576)(hd:d<=6)
  (k1:A3 prog 93 [.agg (Aj (.mk k key tx n true was false value l))] (.val (.bool true))) (k3:A3 prog 94 [.agg (Aj (.mk k key tx n true was false value l))] (.val (.bool true)))
  (k4:A3 prog 95 [.agg (Aa was)] (.val (.int .i64 (F was)))) (k5:A3 prog 95 [.agg (Aa value)] (.val (.int .i64 (F value))))
  (hrl:∀ i,i<l.length->A3 prog 60 [.agg (Aj (l.getD i zU)),.val (.int .i64 ((d:Int)+1))] (.val (.int .i64 (Ay F (l.getD i zU) (d+1))))):
  A3 prog 60 [.agg (Aj (.mk k key tx n true was false value l)),.val (.int .i64 d)] (.val (.int .i64 (if F was≠0 then F was else BP F l (d+1)))):=by
 have w1:IntKind.i64.wrap (↑d+1)=↑d+1:=A9 (by omega) (by omega)
 have b1:decide ((6:Int)<d)=false:=decide_eq_false (by omega)
 have g1:(k==1)=false:=by simpa using hk1
 have g5:(k==5)=false:=by simpa using hk5
 rw[Ae] at k1 k3|-
 rw[A0] at k4 k5
 simp only[GM.kind,GM.key,GM.to,GM.n,GM.had,GM.was,GM.has,GM.value,GM.list,A0 was,A0 value,A07,A09,A05] at k1 k3|-
 generalize F was=fw at*
 generalize F value=fv at*
 by_cases c1:fw=0
 case neg=>
  have b2:(fw !=0)=true:=by simpa using c1
  rw[if_pos c1]
  refine Zf [0] func60 rfl ntmps60 results60 ?_
  (have z:=Za b1<|Za g1<|Za g5 b2;(try push_cast[z])<;>repeat' (first|apply Zi<;>intro _|refine Zc k1 ?_|refine Zc k3 ?_|refine Zc k4 ?_|exact Zo|with_reducible apply Za)<;>try push_cast[z])
 subst c1
 rw[if_neg (by decide)]
 refine Zf [0] func60 rfl ntmps60 results60 ?_
 (have z:=Za b1<|Za g1 g5;(try push_cast[z])<;>repeat' (first|apply Zi<;>intro _|refine Zc k1 ?_|refine Zc k3 ?_|refine Zc k4 ?_|exact Zo|with_reducible apply Za)<;>try push_cast[z])
 refine Zl (fun i=>i<=l.length/\∀ j,j<i->Ay F (l.getD j zU) (d+1)=0) (fun i=>⟨[(7,.val (.int .i64 i)),(1,.val (.int .i64 d)),(2,.ptr [.val (.int .i64 k),.val (.string key),.val (.string tx),.val (.int .i64 n),.val (.bool true),.val (.int .i64 was.kind),.val (.bool was.b),.val (.int .i64 was.n),.val (.string was.s),.slice (was.list.map Aa) false,.slice (was.obj.map Ac) false,.val (.bool false),.val (.int .i64 value.kind),.val (.bool value.b),.val (.int .i64 value.n),.val (.string value.s),.slice (value.list.map Aa) false,.slice (value.obj.map Ac) false,.slice (l.map Aj) false] 0)],[],400⟩) (fun i=>l.length-i) 0 (by simp) ?_ fun i hi=>?_
 ·apply Zw<;>push_cast
 ·obtain⟨h1,h2⟩:=hi
  push_cast
  refine A6 (fun ha=>?_) (fun ha=>?_)
  ·have hi':i<l.length:=by simpa using ha
   have e1:=Cd hi'
   have hr:=hrl i hi'
   have hhit:=BW hi' h2
   have w2:IntKind.i64.wrap (↑i+1)=↑i+1:=A9 (by omega) (by omega)
   have oX:=AW (l.getD i zU)
   generalize hx:l.getD i zU=x at*
   by_cases hc:Ay F x (d+1)=0
   ·rw[hc] at hr
    (have z:=Za e1<|Za w1 oX;(try push_cast[z])<;>repeat' (first|apply Zi<;>intro _|refine Zc (hr ..) ?_|exact Zo|with_reducible apply Za)<;>try push_cast[z])
    all_goals first|omega|skip
    refine⟨i+1,⟨hi',fun j hj=>?_⟩,by omega,?_⟩
    ·by_cases hji:j=i
     ·rw[hji,hx];exact hc
     ·exact h2 j (by omega)
    ·apply Zw<;>push_cast
     all_goals first|exact w2|skip
   ·have b3:(Ay F x (d+1) !=0)=true:=by simpa using hc
    rw[hhit hc]
    generalize Ay F x (d+1)=c at*
    (have z:=Za e1<|Za w1<|Za b3 oX;(try push_cast[z])<;>repeat' (first|apply Zi<;>intro _|refine Zc (hr ..) ?_|exact Zo|with_reducible apply Za)<;>try push_cast[z])
    all_goals first|omega|skip
  ·have hi':i=l.length:=by simp at ha;omega
   subst hi'
   rw[Cx h2]
   ((try push_cast)<;>repeat' (first|apply Zi<;>intro _|exact Zp|with_reducible apply Za)<;>try push_cast)
theorem U4(key tx:ByteArray)(n:Int)(was value:GV)(l:List GM)(d:Nat)(hl:l.length<=1048576)(hd:d<=6)
  (k1:A3 prog 93 [.agg (Aj (.mk (4:Int) key tx n false was true value l))] (.val (.bool true))) (k3:A3 prog 94 [.agg (Aj (.mk (4:Int) key tx n false was true value l))] (.val (.bool true)))
  (k4:A3 prog 95 [.agg (Aa was)] (.val (.int .i64 (F was)))) (k5:A3 prog 95 [.agg (Aa value)] (.val (.int .i64 (F value))))
  (hrl:∀ i,i<l.length->A3 prog 60 [.agg (Aj (l.getD i zU)),.val (.int .i64 ((d:Int)+1))] (.val (.int .i64 (Ay F (l.getD i zU) (d+1))))):
  A3 prog 60 [.agg (Aj (.mk (4:Int) key tx n false was true value l)),.val (.int .i64 d)] (.val (.int .i64 (if F value≠0 then F value else BP F l (d+1)))):=by
 have w1:IntKind.i64.wrap (↑d+1)=↑d+1:=A9 (by omega) (by omega)
 have b1:decide ((6:Int)<d)=false:=decide_eq_false (by omega)
 rw[Ae] at k1 k3|-
 rw[A0] at k4 k5
 simp only[GM.kind,GM.key,GM.to,GM.n,GM.had,GM.was,GM.has,GM.value,GM.list,A0 was,A0 value,A07,A09,A05] at k1 k3|-
 generalize F was=fw at*
 generalize F value=fv at*
 by_cases c2:fv=0
 case neg=>
  have b2:(fv !=0)=true:=by simpa using c2
  rw[if_pos c2]
  refine Zf [0] func60 rfl ntmps60 results60 ?_
  (have z:=Za b1 b2;(try push_cast[z])<;>repeat' (first|apply Zi<;>intro _|refine Zc k1 ?_|refine Zc k3 ?_|refine Zc k5 ?_|exact Zo|with_reducible apply Za)<;>try push_cast[z])
 subst c2
 rw[if_neg (by decide)]
 refine Zf [0] func60 rfl ntmps60 results60 ?_
 (have z:=b1;(try push_cast[z])<;>repeat' (first|apply Zi<;>intro _|refine Zc k1 ?_|refine Zc k3 ?_|refine Zc k5 ?_|exact Zo|with_reducible apply Za)<;>try push_cast[z])
 refine Zl (fun i=>i<=l.length/\∀ j,j<i->Ay F (l.getD j zU) (d+1)=0) (fun i=>⟨[(7,.val (.int .i64 i)),(1,.val (.int .i64 d)),(2,.ptr [.val (.int .i64 4),.val (.string key),.val (.string tx),.val (.int .i64 n),.val (.bool false),.val (.int .i64 was.kind),.val (.bool was.b),.val (.int .i64 was.n),.val (.string was.s),.slice (was.list.map Aa) false,.slice (was.obj.map Ac) false,.val (.bool true),.val (.int .i64 value.kind),.val (.bool value.b),.val (.int .i64 value.n),.val (.string value.s),.slice (value.list.map Aa) false,.slice (value.obj.map Ac) false,.slice (l.map Aj) false] 0)],[],400⟩) (fun i=>l.length-i) 0 (by simp) ?_ fun i hi=>?_
 ·apply Zw<;>push_cast
 ·obtain⟨h1,h2⟩:=hi
  push_cast
  refine A6 (fun ha=>?_) (fun ha=>?_)
  ·have hi':i<l.length:=by simpa using ha
   have e1:=Cd hi'
   have hr:=hrl i hi'
   have hhit:=BW hi' h2
   have w2:IntKind.i64.wrap (↑i+1)=↑i+1:=A9 (by omega) (by omega)
   have oX:=AW (l.getD i zU)
   generalize hx:l.getD i zU=x at*
   by_cases hc:Ay F x (d+1)=0
   ·rw[hc] at hr
    (have z:=Za e1<|Za w1 oX;(try push_cast[z])<;>repeat' (first|apply Zi<;>intro _|refine Zc (hr ..) ?_|exact Zo|with_reducible apply Za)<;>try push_cast[z])
    all_goals first|omega|skip
    refine⟨i+1,⟨hi',fun j hj=>?_⟩,by omega,?_⟩
    ·by_cases hji:j=i
     ·rw[hji,hx];exact hc
     ·exact h2 j (by omega)
    ·apply Zw<;>push_cast
     all_goals first|exact w2|skip
   ·have b3:(Ay F x (d+1) !=0)=true:=by simpa using hc
    rw[hhit hc]
    generalize Ay F x (d+1)=c at*
    (have z:=Za e1<|Za w1<|Za b3 oX;(try push_cast[z])<;>repeat' (first|apply Zi<;>intro _|refine Zc (hr ..) ?_|exact Zo|with_reducible apply Za)<;>try push_cast[z])
    all_goals first|omega|skip
  ·have hi':i=l.length:=by simp at ha;omega
   subst hi'
   rw[Cx h2]
   ((try push_cast)<;>repeat' (first|apply Zi<;>intro _|exact Zp|with_reducible apply Za)<;>try push_cast)
theorem U5(key tx:ByteArray)(n:Int)(was value:GV)(l:List GM)(d:Nat)(hl:l.length<=1048576)(hd:d<=6)
  (k1:A3 prog 93 [.agg (Aj (.mk (1:Int) key tx n false was false value l))] (.val (.bool true))) (k3:A3 prog 94 [.agg (Aj (.mk (1:Int) key tx n false was false value l))] (.val (.bool true)))
  (k4:A3 prog 95 [.agg (Aa was)] (.val (.int .i64 (F was)))) (k5:A3 prog 95 [.agg (Aa value)] (.val (.int .i64 (F value))))
  (hrl:∀ i,i<l.length->A3 prog 60 [.agg (Aj (l.getD i zU)),.val (.int .i64 ((d:Int)+1))] (.val (.int .i64 (Ay F (l.getD i zU) (d+1))))):
  A3 prog 60 [.agg (Aj (.mk (1:Int) key tx n false was false value l)),.val (.int .i64 d)] (.val (.int .i64 (if F value≠0 then F value else BP F l (d+1)))):=by
 have w1:IntKind.i64.wrap (↑d+1)=↑d+1:=A9 (by omega) (by omega)
 have b1:decide ((6:Int)<d)=false:=decide_eq_false (by omega)
 rw[Ae] at k1 k3|-
 rw[A0] at k4 k5
 simp only[GM.kind,GM.key,GM.to,GM.n,GM.had,GM.was,GM.has,GM.value,GM.list,A0 was,A0 value,A07,A09,A05] at k1 k3|-
 generalize F was=fw at*
 generalize F value=fv at*
 by_cases c2:fv=0
 case neg=>
  have b2:(fv !=0)=true:=by simpa using c2
  rw[if_pos c2]
  refine Zf [0] func60 rfl ntmps60 results60 ?_
  (have z:=Za b1 b2;(try push_cast[z])<;>repeat' (first|apply Zi<;>intro _|refine Zc k1 ?_|refine Zc k3 ?_|refine Zc k5 ?_|exact Zo|with_reducible apply Za)<;>try push_cast[z])
 subst c2
 rw[if_neg (by decide)]
 refine Zf [0] func60 rfl ntmps60 results60 ?_
 (have z:=b1;(try push_cast[z])<;>repeat' (first|apply Zi<;>intro _|refine Zc k1 ?_|refine Zc k3 ?_|refine Zc k5 ?_|exact Zo|with_reducible apply Za)<;>try push_cast[z])
 refine Zl (fun i=>i<=l.length/\∀ j,j<i->Ay F (l.getD j zU) (d+1)=0) (fun i=>⟨[(7,.val (.int .i64 i)),(1,.val (.int .i64 d)),(2,.ptr [.val (.int .i64 1),.val (.string key),.val (.string tx),.val (.int .i64 n),.val (.bool false),.val (.int .i64 was.kind),.val (.bool was.b),.val (.int .i64 was.n),.val (.string was.s),.slice (was.list.map Aa) false,.slice (was.obj.map Ac) false,.val (.bool false),.val (.int .i64 value.kind),.val (.bool value.b),.val (.int .i64 value.n),.val (.string value.s),.slice (value.list.map Aa) false,.slice (value.obj.map Ac) false,.slice (l.map Aj) false] 0)],[],400⟩) (fun i=>l.length-i) 0 (by simp) ?_ fun i hi=>?_
 ·apply Zw<;>push_cast
 ·obtain⟨h1,h2⟩:=hi
  push_cast
  refine A6 (fun ha=>?_) (fun ha=>?_)
  ·have hi':i<l.length:=by simpa using ha
   have e1:=Cd hi'
   have hr:=hrl i hi'
   have hhit:=BW hi' h2
   have w2:IntKind.i64.wrap (↑i+1)=↑i+1:=A9 (by omega) (by omega)
   have oX:=AW (l.getD i zU)
   generalize hx:l.getD i zU=x at*
   by_cases hc:Ay F x (d+1)=0
   ·rw[hc] at hr
    (have z:=Za e1<|Za w1 oX;(try push_cast[z])<;>repeat' (first|apply Zi<;>intro _|refine Zc (hr ..) ?_|exact Zo|with_reducible apply Za)<;>try push_cast[z])
    all_goals first|omega|skip
    refine⟨i+1,⟨hi',fun j hj=>?_⟩,by omega,?_⟩
    ·by_cases hji:j=i
     ·rw[hji,hx];exact hc
     ·exact h2 j (by omega)
    ·apply Zw<;>push_cast
     all_goals first|exact w2|skip
   ·have b3:(Ay F x (d+1) !=0)=true:=by simpa using hc
    rw[hhit hc]
    generalize Ay F x (d+1)=c at*
    (have z:=Za e1<|Za w1<|Za b3 oX;(try push_cast[z])<;>repeat' (first|apply Zi<;>intro _|refine Zc (hr ..) ?_|exact Zo|with_reducible apply Za)<;>try push_cast[z])
    all_goals first|omega|skip
  ·have hi':i=l.length:=by simp at ha;omega
   subst hi'
   rw[Cx h2]
   ((try push_cast)<;>repeat' (first|apply Zi<;>intro _|exact Zp|with_reducible apply Za)<;>try push_cast)
theorem U3(key tx:ByteArray)(n:Int)(was value:GV)(l:List GM)(d:Nat)(hl:l.length<=1048576)(hd:d<=6)
  (k1:A3 prog 93 [.agg (Aj (.mk (5:Int) key tx n false was false value l))] (.val (.bool true))) (k3:A3 prog 94 [.agg (Aj (.mk (5:Int) key tx n false was false value l))] (.val (.bool true)))
  (k4:A3 prog 95 [.agg (Aa was)] (.val (.int .i64 (F was)))) (k5:A3 prog 95 [.agg (Aa value)] (.val (.int .i64 (F value))))
  (hrl:∀ i,i<l.length->A3 prog 60 [.agg (Aj (l.getD i zU)),.val (.int .i64 ((d:Int)+1))] (.val (.int .i64 (Ay F (l.getD i zU) (d+1))))):
  A3 prog 60 [.agg (Aj (.mk (5:Int) key tx n false was false value l)),.val (.int .i64 d)] (.val (.int .i64 (if F value≠0 then F value else BP F l (d+1)))):=by
 have w1:IntKind.i64.wrap (↑d+1)=↑d+1:=A9 (by omega) (by omega)
 have b1:decide ((6:Int)<d)=false:=decide_eq_false (by omega)
 rw[Ae] at k1 k3|-
 rw[A0] at k4 k5
 simp only[GM.kind,GM.key,GM.to,GM.n,GM.had,GM.was,GM.has,GM.value,GM.list,A0 was,A0 value,A07,A09,A05] at k1 k3|-
 generalize F was=fw at*
 generalize F value=fv at*
 by_cases c2:fv=0
 case neg=>
  have b2:(fv !=0)=true:=by simpa using c2
  rw[if_pos c2]
  refine Zf [0] func60 rfl ntmps60 results60 ?_
  (have z:=Za b1 b2;(try push_cast[z])<;>repeat' (first|apply Zi<;>intro _|refine Zc k1 ?_|refine Zc k3 ?_|refine Zc k5 ?_|exact Zo|with_reducible apply Za)<;>try push_cast[z])
 subst c2
 rw[if_neg (by decide)]
 refine Zf [0] func60 rfl ntmps60 results60 ?_
 (have z:=b1;(try push_cast[z])<;>repeat' (first|apply Zi<;>intro _|refine Zc k1 ?_|refine Zc k3 ?_|refine Zc k5 ?_|exact Zo|with_reducible apply Za)<;>try push_cast[z])
 refine Zl (fun i=>i<=l.length/\∀ j,j<i->Ay F (l.getD j zU) (d+1)=0) (fun i=>⟨[(7,.val (.int .i64 i)),(1,.val (.int .i64 d)),(2,.ptr [.val (.int .i64 5),.val (.string key),.val (.string tx),.val (.int .i64 n),.val (.bool false),.val (.int .i64 was.kind),.val (.bool was.b),.val (.int .i64 was.n),.val (.string was.s),.slice (was.list.map Aa) false,.slice (was.obj.map Ac) false,.val (.bool false),.val (.int .i64 value.kind),.val (.bool value.b),.val (.int .i64 value.n),.val (.string value.s),.slice (value.list.map Aa) false,.slice (value.obj.map Ac) false,.slice (l.map Aj) false] 0)],[],400⟩) (fun i=>l.length-i) 0 (by simp) ?_ fun i hi=>?_
 ·apply Zw<;>push_cast
 ·obtain⟨h1,h2⟩:=hi
  push_cast
  refine A6 (fun ha=>?_) (fun ha=>?_)
  ·have hi':i<l.length:=by simpa using ha
   have e1:=Cd hi'
   have hr:=hrl i hi'
   have hhit:=BW hi' h2
   have w2:IntKind.i64.wrap (↑i+1)=↑i+1:=A9 (by omega) (by omega)
   have oX:=AW (l.getD i zU)
   generalize hx:l.getD i zU=x at*
   by_cases hc:Ay F x (d+1)=0
   ·rw[hc] at hr
    (have z:=Za e1<|Za w1 oX;(try push_cast[z])<;>repeat' (first|apply Zi<;>intro _|refine Zc (hr ..) ?_|exact Zo|with_reducible apply Za)<;>try push_cast[z])
    all_goals first|omega|skip
    refine⟨i+1,⟨hi',fun j hj=>?_⟩,by omega,?_⟩
    ·by_cases hji:j=i
     ·rw[hji,hx];exact hc
     ·exact h2 j (by omega)
    ·apply Zw<;>push_cast
     all_goals first|exact w2|skip
   ·have b3:(Ay F x (d+1) !=0)=true:=by simpa using hc
    rw[hhit hc]
    generalize Ay F x (d+1)=c at*
    (have z:=Za e1<|Za w1<|Za b3 oX;(try push_cast[z])<;>repeat' (first|apply Zi<;>intro _|refine Zc (hr ..) ?_|exact Zo|with_reducible apply Za)<;>try push_cast[z])
    all_goals first|omega|skip
  ·have hi':i=l.length:=by simp at ha;omega
   subst hi'
   rw[Cx h2]
   ((try push_cast)<;>repeat' (first|apply Zi<;>intro _|exact Zp|with_reducible apply Za)<;>try push_cast)
theorem U2(k:Int)(hk1:k≠1)(hk5:k≠5)(key tx:ByteArray)(n:Int)(was value:GV)(l:List GM)(d:Nat)(hl:l.length<=1048576)(hd:d<=6)
  (k1:A3 prog 93 [.agg (Aj (.mk k key tx n false was false value l))] (.val (.bool true))) (k3:A3 prog 94 [.agg (Aj (.mk k key tx n false was false value l))] (.val (.bool true)))
  (k4:A3 prog 95 [.agg (Aa was)] (.val (.int .i64 (F was)))) (k5:A3 prog 95 [.agg (Aa value)] (.val (.int .i64 (F value))))
  (hrl:∀ i,i<l.length->A3 prog 60 [.agg (Aj (l.getD i zU)),.val (.int .i64 ((d:Int)+1))] (.val (.int .i64 (Ay F (l.getD i zU) (d+1))))):
  A3 prog 60 [.agg (Aj (.mk k key tx n false was false value l)),.val (.int .i64 d)] (.val (.int .i64 (BP F l (d+1)))):=by
 have w1:IntKind.i64.wrap (↑d+1)=↑d+1:=A9 (by omega) (by omega)
 have b1:decide ((6:Int)<d)=false:=decide_eq_false (by omega)
 have g1:(k==1)=false:=by simpa using hk1
 have g5:(k==5)=false:=by simpa using hk5
 rw[Ae] at k1 k3|-
 rw[A0] at k4 k5
 simp only[GM.kind,GM.key,GM.to,GM.n,GM.had,GM.was,GM.has,GM.value,GM.list,A0 was,A0 value,A07,A09,A05] at k1 k3|-
 generalize F was=fw at*
 generalize F value=fv at*
 refine Zf [0] func60 rfl ntmps60 results60 ?_
 (have z:=Za b1<|Za g1 g5;(try push_cast[z])<;>repeat' (first|apply Zi<;>intro _|refine Zc k1 ?_|refine Zc k3 ?_|exact Zo|with_reducible apply Za)<;>try push_cast[z])
 refine Zl (fun i=>i<=l.length/\∀ j,j<i->Ay F (l.getD j zU) (d+1)=0) (fun i=>⟨[(7,.val (.int .i64 i)),(1,.val (.int .i64 d)),(2,.ptr [.val (.int .i64 k),.val (.string key),.val (.string tx),.val (.int .i64 n),.val (.bool false),.val (.int .i64 was.kind),.val (.bool was.b),.val (.int .i64 was.n),.val (.string was.s),.slice (was.list.map Aa) false,.slice (was.obj.map Ac) false,.val (.bool false),.val (.int .i64 value.kind),.val (.bool value.b),.val (.int .i64 value.n),.val (.string value.s),.slice (value.list.map Aa) false,.slice (value.obj.map Ac) false,.slice (l.map Aj) false] 0)],[],400⟩) (fun i=>l.length-i) 0 (by simp) ?_ fun i hi=>?_
 ·apply Zw<;>push_cast
 ·obtain⟨h1,h2⟩:=hi
  push_cast
  refine A6 (fun ha=>?_) (fun ha=>?_)
  ·have hi':i<l.length:=by simpa using ha
   have e1:=Cd hi'
   have hr:=hrl i hi'
   have hhit:=BW hi' h2
   have w2:IntKind.i64.wrap (↑i+1)=↑i+1:=A9 (by omega) (by omega)
   have oX:=AW (l.getD i zU)
   generalize hx:l.getD i zU=x at*
   by_cases hc:Ay F x (d+1)=0
   ·rw[hc] at hr
    (have z:=Za e1<|Za w1 oX;(try push_cast[z])<;>repeat' (first|apply Zi<;>intro _|refine Zc (hr ..) ?_|exact Zo|with_reducible apply Za)<;>try push_cast[z])
    all_goals first|omega|skip
    refine⟨i+1,⟨hi',fun j hj=>?_⟩,by omega,?_⟩
    ·by_cases hji:j=i
     ·rw[hji,hx];exact hc
     ·exact h2 j (by omega)
    ·apply Zw<;>push_cast
     all_goals first|exact w2|skip
   ·have b3:(Ay F x (d+1) !=0)=true:=by simpa using hc
    rw[hhit hc]
    generalize Ay F x (d+1)=c at*
    (have z:=Za e1<|Za w1<|Za b3 oX;(try push_cast[z])<;>repeat' (first|apply Zi<;>intro _|refine Zc (hr ..) ?_|exact Zo|with_reducible apply Za)<;>try push_cast[z])
    all_goals first|omega|skip
  ·have hi':i=l.length:=by simp at ha;omega
   subst hi'
   rw[Cx h2]
   ((try push_cast)<;>repeat' (first|apply Zi<;>intro _|exact Zp|with_reducible apply Za)<;>try push_cast)
theorem YR(hF:∀ v,Sm v->wtV v<=2097152->A3 prog 95 [.agg (Aa v)] (.val (.int .i64 (F v))))(m:GM)(d:Nat)(hm:SmU m)(hwt:wtU m<=2097152)(hd:d<=7):A3 prog 60 [.agg (Aj m),.val (.int .i64 d)] (.val (.int .i64 (Ay F m d))):=by
 have hrec:∀ x,SizeOf.sizeOf x<SizeOf.sizeOf m->SmU x->wtU x<=2097152->d+1<=7->A3 prog 60 [.agg (Aj x),.val (.int .i64 ((d:Int)+1))] (.val (.int .i64 (Ay F x (d+1)))):=fun x _ h1 h4 h2=>by
  have:=YR hF x (d+1) h1 h4 h2
  rwa[A1G] at this
 obtain⟨_,hw,hv,hk,ht,hl,hls⟩:=hm
 have hwe:=Kq m
 have k1:=r_mbare m
 have k3:=r_key m (by omega) (by omega)
 have k4:=hF m.was hw (by omega)
 have k5:=hF m.value hv (by omega)
 have hst:AD m=false->m.has=true->m.kind=4:=fun h h2=>by
  unfold AD at h
  rw[h2] at h
  by_cases h4:m.kind=4
  ·exact h4
  ·have e4:(m.kind==4)=false:=by simpa using h4
   rw[e4] at h
   revert h
   cases(!m.had&& !Br m.was)<;>simp
   repeat' split
   all_goals simp_all
 have hrl:d<=6->∀ i,i<m.list.length->A3 prog 60 [.agg (Aj (m.list.getD i zU)),.val (.int .i64 ((d:Int)+1))] (.val (.int .i64 (Ay F (m.list.getD i zU) (d+1)))):=fun h6 i hi=>
  hrec _ (GM.list_lt (Ad hi)) (hls _ (Ad hi)) (by have:=FH (Ad (d:=zU) hi);omega) (by omega)
 rw[K5]
 cases hs:AD m with
 |true=>
  rw[hs] at k1
  rw[if_pos rfl]
  rw[Ae] at k1|-
  simp only[A0 m.was,A0 m.value,A07,A09,A05] at k1|-
  refine Zf [0] func60 rfl ntmps60 results60 ?_
  (have z:=trivial;(try push_cast)<;>repeat' (first|apply Zi<;>intro _|refine Zc k1 ?_|exact Zp|with_reducible apply Za)<;>try push_cast)
 |false=>
  rw[hs] at k1
  rw[if_neg (by decide)]
  by_cases h6:6<d
  ·rw[if_pos h6]
   have b1:decide ((6:Int)<d)=true:=decide_eq_true (by omega)
   rw[Ae] at k1|-
   simp only[A0 m.was,A0 m.value,A07,A09,A05] at k1|-
   refine Zf [0] func60 rfl ntmps60 results60 ?_
   (have z:=b1;(try push_cast[z])<;>repeat' (first|apply Zi<;>intro _|refine Zc k1 ?_|exact Zo|with_reducible apply Za)<;>try push_cast[z])
  ·rw[if_neg h6]
   cases hky:Cy m with
   |false=>
    rw[hky] at k3
    rw[if_pos rfl]
    have b1:decide ((6:Int)<d)=false:=decide_eq_false (by omega)
    rw[Ae] at k1 k3|-
    simp only[A0 m.was,A0 m.value,A07,A09,A05] at k1 k3|-
    refine Zf [0] func60 rfl ntmps60 results60 ?_
    (have z:=b1;(try push_cast[z])<;>repeat' (first|apply Zi<;>intro _|refine Zc k1 ?_|refine Zc k3 ?_|exact Zo|with_reducible apply Za)<;>try push_cast[z])
   |true=>
    rw[hky] at k3
    rw[if_neg (by decide)]
    have hst':=hst hs
    have hrl':=hrl (by omega)
    clear hrec hF hst hrl hs hky hwe hwt hw hv hk ht hls
    obtain⟨k,key,tx,n,had,was,has,value,l⟩:=m
    simp only[GM.kind,GM.key,GM.to,GM.n,GM.had,GM.was,GM.has,GM.value,GM.list] at*
    have hd6:d<=6:=by omega
    cases had<;>cases has
    ·by_cases c1:k=1
     ·subst c1
      have:=U5 (F:=F) key tx n was value l d hl hd6 k1 k3 k4 k5 hrl'
      simpa using this
     ·by_cases c5:k=5
      ·subst c5
       have:=U3 (F:=F) key tx n was value l d hl hd6 k1 k3 k4 k5 hrl'
       simpa using this
      ·have:=U2 (F:=F) _ c1 c5 key tx n was value l d hl hd6 k1 k3 k4 k5 hrl'
       simpa[c1,c5] using this
    ·obtain rfl:k=4:=hst' rfl
     have:=U4 (F:=F) key tx n was value l d hl hd6 k1 k3 k4 k5 hrl'
     simpa using this
    ·by_cases c1:k=1
     ·subst c1
      have:=U1 (F:=F) key tx n was value l d hl hd6 k1 k3 k4 k5 hrl'
      simpa using this
     ·by_cases c5:k=5
      ·subst c5
       have:=TZ (F:=F) key tx n was value l d hl hd6 k1 k3 k4 k5 hrl'
       simpa using this
      ·have:=TY (F:=F) _ c1 c5 key tx n was value l d hl hd6 k1 k3 k4 k5 hrl'
       simpa[c1,c5] using this
    ·obtain rfl:k=4:=hst' rfl
     have:=U0 (F:=F) key tx n was value l d hl hd6 k1 k3 k4 k5 hrl'
     simpa using this
termination_by SizeOf.sizeOf m
end
theorem r_mMay(m:GM)(hm:SmU m)(hwt:wtU m<=2097152)(hz:AQ m<=1099511627776):A3 prog 43 [.agg (Aj m)] (.val (.int .i64 (K0 Al m))):=by
 have hS:=Va m hz
 have oU:=AW m
 have hL:=YR (F:=Al) KH m 1 hm hwt (by omega)
 change A3 _ _ [_,.val (.int .i64 1)] _ at hL
 unfold K0
 rw[Ae,A0 m.was,A0 m.value] at hS hL|-
 simp only[A07,A09,A05] at hS hL|-
 by_cases h64:64<AQ m
 ·rw[if_pos h64]
  have b1:decide ((64:Int)<(AQ m:Nat))=true:=decide_eq_true (by omega)
  refine Zf [0] func43 rfl ntmps43 results43 ?_
  (have z:=b1;(try push_cast[z])<;>repeat' (first|apply Zi<;>intro _|refine Zc hS ?_|exact Zo|with_reducible apply Za)<;>try push_cast[z])
 ·rw[if_neg h64]
  have b1:decide ((64:Int)<(AQ m:Nat))=false:=decide_eq_false (by omega)
  refine Zf [0] func43 rfl ntmps43 results43 ?_
  (have z:=b1;(try push_cast[z])<;>repeat' (first|apply Zi<;>intro _|refine Zc hS ?_|refine Zc hL ?_|exact Zo|with_reducible apply Za)<;>try push_cast[z])
abbrev mB(l:List GE):Blk:=.rows [[.slice (l.map Ac) false]] 1
theorem PL{α:Type}(l:List α)(n i:Nat)(h:l.length<=n+i):(l.drop i).take n=l.drop i:=A0f (by rw[A0n];omega)
theorem HF(l:List GE)(i n:Nat):(∀ y ∈ (l.map Ac).take i,y.length=7)/\(∀ y ∈ ((l.map Ac).drop i).take n,y.length=7)/\(∀ y ∈ (l.map Ac).take i,∀ d ∈ y,BF d=true)/\(∀ y ∈ ((l.map Ac).drop i).take n,∀ d ∈ y,BF d=true):=
 ⟨fun y h=>B4 l y (A0W h),fun y h=>B4 l y (A0V (A0W h)),fun y h=>Cp l y (A0W h),fun y h=>Cp l y (A0V (A0W h))⟩
theorem HH(l:List GE)(hn:l.length<=1048576):A4 prog 62 [AR l] [] (.ref 2 0 0 1) [(2,mB l)]:=by
 refine Zd [] func62 rfl ntmps62 results62 ?_
 ((try push_cast)<;>repeat' (first|apply Zi<;>intro _|exact Zp|with_reducible apply Za)<;>try push_cast)
 all_goals first|omega|exact B4 _|exact Cp l|(intro y hy;cases hy;done)|exact Hv _ _|skip
 refine Ar.trans (Ar.fzB (b:=48) rfl) ?_
 push_cast[A7]
 apply Zr [(2,64)] rfl<;>push_cast
theorem Hv{α:Type}(A:List α)(x:α):A.length+1=(A++[x]).length:=by simp
theorem ins_has(l:List GE)(e:GE)(h:C5 l e.1=true):(l.map Ac).take (AB l e.1)++[.val (.string e.1)::Aa e.2]++((l.map Ac).drop (AB l e.1+1)).take (l.length-(AB l e.1+1))=(Eu l e).map Ac:=by
 have hlt:=GC h
 rw[PL _ _ _ (by simp;omega),Eu,if_pos h,List.set_eq_take_append_cons_drop,if_pos hlt]
 simp[A1J,A24,Ao]
theorem ins_not(l:List GE)(e:GE)(h:C5 l e.1=false):(l.map Ac).take (AB l e.1)++[.val (.string e.1)::Aa e.2]++((l.map Ac).drop (AB l e.1)).take (l.length-AB l e.1)=(Eu l e).map Ac:=by
 rw[PL _ _ _ (by simp;omega),Eu,if_neg (by simp[h])]
 simp[Df,A1J,A24,Ao]
theorem cut_has(l:List GE)(k:ByteArray)(h:C5 l k=true):(l.map Ac).take (AB l k)++((l.map Ac).drop (AB l k+1)).take (l.length-(AB l k+1))=(C6 l (AB l k)).map Ac:=by
 have hlt:=GC h
 rw[PL _ _ _ (by simp;omega),C6]
 simp[A1J,A24]
theorem c_MPut(l:List GE)(e:GE)(hn:l.length<=1048575):A4 prog 101 [.ref 1 0 0 1,.val (.string e.1),.agg (Aa e.2)] [(1,mB l)] (.tup []) [(1,mB (Eu l e))]:=by
 have hA:=c_at l e.1 (by omega)
 have hp:=Q6 l e.1
 have q1:=fun i n=>(HF l i n).1
 have q2:=fun i n=>(HF l i n).2.1
 have q3:=fun i n=>(HF l i n).2.2.1
 have q4:=fun i n=>(HF l i n).2.2.2
 have w1:IntKind.i64.wrap (↑(AB l e.1)+1)=↑(AB l e.1)+1:=A9 (by omega) (by omega)
 have t1:((AB l e.1:Int)+1).toNat=AB l e.1+1:=by omega
 cases hh:C5 l e.1 with
 |true=>
  rw[hh] at hA
  have hlt:=GC hh
  refine Zd [] func101 rfl ntmps101 results101 ?_
  (have z:=Za w1 t1;(try push_cast[z])<;>repeat' (first|apply Zi<;>intro _|refine Zq hA ?_ ?_|exact Zo|with_reducible apply Za)<;>try push_cast[z])
  all_goals first|omega|exact q1 _ 0|exact q2 _ _|exact q3 _ 0|exact q4 _ _|exact B4 l|(intro y hy;cases hy;done)|exact Hv _ _|(intro y hy;rw[A0d.1 hy];exact Fa e)|(intro y hy;rw[A0d.1 hy];exact A0p.1 (Cf e))|(simp only[A0s,A0n,A08,A0b,A0g,A0i];omega)|skip
  rw[<-A08,ins_has l e hh]
  refine Ar.trans (Ar.fzB (b:=312) (x:=.grow ((Eu l e).map Ac) 7) rfl) ?_
  push_cast[A7]
  apply Zw<;>push_cast [A7]
 |false=>
  rw[hh] at hA
  refine Zd [] func101 rfl ntmps101 results101 ?_
  (have z:=Za w1 t1;(try push_cast[z])<;>repeat' (first|apply Zi<;>intro _|refine Zq hA ?_ ?_|exact Zo|with_reducible apply Za)<;>try push_cast[z])
  all_goals first|omega|exact q1 _ 0|exact q2 _ _|exact q3 _ 0|exact q4 _ _|exact B4 l|(intro y hy;cases hy;done)|exact Hv _ _|(intro y hy;rw[A0d.1 hy];exact Fa e)|(intro y hy;rw[A0d.1 hy];exact A0p.1 (Cf e))|(simp only[A0s,A0n,A08,A0b,A0g,A0i];omega)|skip
  rw[<-A08,ins_not l e hh]
  refine Ar.trans (Ar.fzB (b:=288) (x:=.grow ((Eu l e).map Ac) 7) rfl) ?_
  push_cast[A7]
  apply Zw<;>push_cast [A7]
theorem VS(l:List GE)(k:ByteArray)(hn:l.length<=1048575)(h:C5 l k=false):A4 prog 63 [.ref 1 0 0 1,.val (.string k)] [(1,mB l)] (.val (.bool false)) [(1,mB l)]:=by
 have hA:=c_at l k (by omega)
 rw[h] at hA
 refine Zd [] func63 rfl ntmps63 results63 ?_
 (have z:=trivial;(try push_cast)<;>repeat' (first|apply Zi<;>intro _|refine Zq hA ?_ ?_|exact Zp|with_reducible apply Za)<;>try push_cast)
 all_goals first|omega|skip
 apply Zw<;>push_cast
theorem VR(l:List GE)(k:ByteArray)(hn:l.length<=1048575)(h:C5 l k=true):A4 prog 63 [.ref 1 0 0 1,.val (.string k)] [(1,mB l)] (.val (.bool true)) [(1,mB (C6 l (AB l k)))]:=by
 have hA:=c_at l k (by omega)
 rw[h] at hA
 have hlt:=GC h
 have q1:=fun i n=>(HF l i n).1
 have q2:=fun i n=>(HF l i n).2.1
 have q3:=fun i n=>(HF l i n).2.2.1
 have q4:=fun i n=>(HF l i n).2.2.2
 have w1:IntKind.i64.wrap (↑(AB l k)+1)=↑(AB l k)+1:=A9 (by omega) (by omega)
 have t1:((AB l k:Int)+1).toNat=AB l k+1:=by omega
 refine Zd [] func63 rfl ntmps63 results63 ?_
 (have z:=Za w1 t1;(try push_cast[z])<;>repeat' (first|apply Zi<;>intro _|refine Zq hA ?_ ?_|exact Zo|with_reducible apply Za)<;>try push_cast[z])
 all_goals first|omega|exact q1 _ 0|exact q2 _ _|exact q3 _ 0|exact q4 _ _|exact B4 l|(intro y hy;cases hy;done)|exact Hv _ _|(simp only[A0s,A0n,A08,A0b,A0g,A0i];omega)|skip
 rw[<-A08,cut_has l k h]
 refine Ar.trans (Ar.fzB (b:=208) (x:=.grow ((C6 l (AB l k)).map Ac) 7) rfl) ?_
 push_cast[A7]
 apply Zw<;>push_cast [A7]
def JE(hi:ByteArray)(op:Bool)(e:GE):Bool:=!op&& !ltS e.1 hi
def Cu(lo hi:ByteArray)(op:Bool)(l:List GE):List GE:=l.filter fun e=>!ltS e.1 lo&& !JE hi op e
def Hd(lo hi:ByteArray)(op:Bool)(l:List GE):Bool:=l.all fun e=>ltS e.1 lo ||!JE hi op e
theorem HZ{hi:ByteArray}{op:Bool}{a b:GE}(h:JE hi op a=true)(hab:ltS a.1 b.1=true):JE hi op b=true:=by
 unfold JE at*
 simp only[A0c,A1e] at*
 refine⟨h.1,?_⟩
 cases hb:ltS b.1 hi with
 |false=>rfl
 |true=>have:=C9 hab hb;rw[this] at h;cases h.2
theorem LC(lo:ByteArray):∀ {l:List GE},Srt l->l.dropWhile (fun x=>ltS x.1 lo)=l.filter (fun x=>!ltS x.1 lo)
 |[],_=>rfl
 |x::l,h=>by
  cases hx:ltS x.1 lo with
  |true=>simp [hx,LC lo h.tail]
  |false=>
   have:l.filter (fun x=>!ltS x.1 lo)=l:=A1Q.2 fun y hy=>by
    cases hb:ltS y.1 lo with
    |false=>rfl
    |true=>have:=C9 (h.head y hy) hb;rw[this] at hx;cases hx
   simp[hx,this]
theorem Li{hi:ByteArray}{op:Bool}:∀ {l:List GE},Srt l->l.takeWhile (fun x=>!JE hi op x)=l.filter (fun x=>!JE hi op x)
 |[],_=>rfl
 |x::l,h=>by
  cases hx:JE hi op x with
  |false=>simp [hx,Li h.tail]
  |true=>
   have:l.filter (fun x=>!JE hi op x)=[]:=List.filter_eq_nil_iff.2 fun y hy=>by simp[HZ hx (h.head y hy)]
   simp[hx,this]
theorem Kx{α:Type}(d:α)(p:α->Bool):∀ (l:List α),∃ J,J<=l.length/\l.take J=l.takeWhile (fun x=>!p x)/\(∀ j,j<J->p (l.getD j d)=false)/\(J<l.length->p (l.getD J d)=true)
 |[]=>⟨0,by simp⟩
 |x::l=>by
  cases hx:p x with
  |true=>exact ⟨0,by simp,by simp[hx],by simp,fun _=>by simpa using hx⟩
  |false=>
   obtain⟨J,h1,h2,h3,h4⟩:=Kx d p l
   refine⟨J+1,by simpa using h1,by simp[hx,h2],fun j hj=>?_,fun hj=>?_⟩
   ·cases j with
    |zero=>simpa using hx
    |succ j=>simpa using h3 j (by omega)
   ·simpa using h4 (by simpa using hj)
theorem NP(lo hi:ByteArray)(op:Bool){f:GE->List ByteArray}(hf:∀ e,(f e).length<=1)(l:List GE):((Cu lo hi op l).flatMap f).length<=l.length:=by
 have h1:∀ l:List GE,(l.flatMap f).length<=l.length:=fun l=>by
  induction l with
  |nil=>simp
  |cons x l ih=>have:=hf x;simp only[A0I,A08,A0g];omega
 exact A0L (h1 _) (A0Y ..)
theorem KB(lo hi:ByteArray)(op:Bool)(a b:List GE):Cu lo hi op (a++b)=Cu lo hi op a++Cu lo hi op b:=A1B ..
theorem NO(lo hi:ByteArray)(op:Bool)(a b:List GE):Hd lo hi op (a++b)=(Hd lo hi op a&&Hd lo hi op b):=List.all_append ..
section
variable{a c:Code}{b:GT}{q:OQ}{f:GE->List ByteArray}(hf:∀ e,(f e).length<=1)(hY:∀ (e:GE) (A:List ByteArray),(A++f e).length<=1048576->G9 prog 7 [.val (.string e.1),.agg (Aa e.2)] (DJ a c b q A) (.val (.bool true)) (DJ a c b q (A++f e)))
abbrev M8(a c:Code)(b:GT)(q:OQ)(f:GE->List ByteArray)(lo hi:ByteArray)(op:Bool)(A:List ByteArray)(t:GT)(l:List GE):Prop:=
 A4 prog 235 [Ag t,.agg [.val (.string lo),.val (.string hi),.val (.bool op)],.yld 7] (DJ a c b q A) (.val (.bool (Hd lo hi op l))) (DJ a c b q (A++(Cu lo hi op l).flatMap f))
theorem c_walk0(t:GT)(lo hi:ByteArray)(op:Bool)(A B:List ByteArray)(r:Bool)(hh:t.height=0)
  (hw:A4 prog 246 [Ag t,.agg [.val (.string lo),.val (.string hi),.val (.bool op)],.yld 7] (DJ a c b q A) (.val (.bool r)) (DJ a c b q B)):
  A4 prog 235 [Ag t,.agg [.val (.string lo),.val (.string hi),.val (.bool op)],.yld 7] (DJ a c b q A) (.val (.bool r)) (DJ a c b q B):=by
 have hH:=Bx t
 rw[hh] at hH
 have oT:=A5 t
 have oB:=A5 b
 unfold DJ oqH at*
 refine Zd [8] func235 rfl ntmps235 results235 ?_
 (have z:=Za oT oB;(try push_cast[z])<;>repeat' (first|apply Zi<;>intro _|refine Zc hH ?_|refine Zs [(7,7),(3,3),(6,6),(1,1),(2,2),(4,4)] (hw ..) ?_|exact Zo|with_reducible apply Za)<;>try push_cast[z])
 apply Zr [(2,74),(4,76),(6,78)] rfl<;>push_cast [oT,oB]
include hf hY
theorem NH(t:GT)(lo hi:ByteArray)(op:Bool)(A:List ByteArray)(hh:t.height=0)(h8:t.es.length<=8)(hk0:t.kids=[])(hs:∀ e ∈ t.es,Sm e.2)(hr:Srt t.es)(hA:A.length+t.es.length<=1048576):M8 a c b q f lo hi op A t t.es:=by
 have hd:=Pw lo t.es
 rw[LC lo hr] at hd
 have hsd:Srt (t.es.drop (AB t.es lo)):=List.Pairwise.sublist (List.drop_sublist ..) hr
 obtain⟨J,j1,j2,j3,j4⟩:=Kx zM (JE hi op) (t.es.drop (AB t.es lo))
 rw[Li hsd] at j2
 have hple:=Q6 t.es lo
 have hgd:∀ j,(t.es.drop (AB t.es lo)).getD j zM=t.es.getD (AB t.es lo+j) zM:=fun j=>by
  simp[A03,A1d]
 have hln:(t.es.drop (AB t.es lo)).length=t.es.length-AB t.es lo:=A0n ..
 have e1:(t.es.drop (AB t.es lo)).take J=Cu lo hi op t.es:=by
  rw[j2,hd,List.filter_filter]
  unfold Cu
  congr 1
  funext e
  exact Bool.and_comm ..
 have e2:decide (J=(t.es.drop (AB t.es lo)).length)=Hd lo hi op t.es:=by
  have key:Hd lo hi op t.es=(t.es.drop (AB t.es lo)).all fun e=>!JE hi op e:=by
   rw[hd,List.all_filter]
   unfold Hd
   congr 1
   funext e
   simp
  rw[key]
  rcases A0v J (t.es.drop (AB t.es lo)).length with h|h
  ·rw[decide_eq_false (by omega)]
   symm
   rw[List.all_eq_false]
   refine⟨(t.es.drop (AB t.es lo)).getD J zM,Ad h,?_⟩
   rw[j4 h];simp
  ·rw[decide_eq_true (by omega)]
   symm
   rw[A0p]
   intro e he
   obtain⟨j,hj,rfl⟩:=A16.1 he
   have:=j3 j (by omega)
   rw[A03,A06 hj] at this
   simpa using this
 have hm:∀ i j,i<=j->j<t.es.length->ltS (t.es.getD i zM).1 lo=false->ltS (t.es.getD j zM).1 lo=false:=by
  intro i j hij hj hi'
  rcases Nat.eq_or_lt_of_le hij with rfl|hlt
  ·exact hi'
  ·have hp:=A1W.1 hr i j (by omega) hj hlt
   simp only[A03,A06 hj,A06 (show i<t.es.length by omega),A0D] at hi'|-
   cases hb:ltS t.es[j].1 lo with
   |false=>rfl
   |true=>have:=C9 hp hb;rw[this] at hi';cases hi'
 have hw:=UI hY t lo hi op A h8 hk0 hs hm (t.es.drop (AB t.es lo)).length J (by omega) j1 (fun j hj=>by have:=j3 j hj;rw[hgd] at this;exact this) (fun hj=>by have:=j4 hj;rw[hgd] at this;exact this) (by
  rw[A08]
  have:((t.es.drop (AB t.es lo)).flatMap f).length<=(t.es.drop (AB t.es lo)).length:=by
   generalize t.es.drop (AB t.es lo)=l
   induction l with
   |nil=>simp
   |cons x l ih=>have:=hf x;simp only[A0I,A08,A0g];omega
  omega)
 rw[e1,e2] at hw
 exact c_walk0 t lo hi op A _ _ hh hw
theorem V3(lo ub:ByteArray)(op:Bool):∀ (h:Nat) (t:GT) (A:List ByteArray),Wf h t->A.length+(A8 h t).length<=1048576->M8 a c b q f lo ub op A t (A8 h t)
 |0,t,A,hw,hb=>by
  obtain⟨l,rfl,ho,hn⟩:=hw
  exact NH hf hY (AC l) lo ub op A rfl ho.hl rfl ho.hs (Md ho.hr) hb
 |h+1,t,A,hw,hb=>by
  have hd:=hw.d
  obtain⟨l,rfl,h2,h8,hk,hs⟩:=hw
  have hkids:(AF l).kids=l:=rfl
  have hfl:A8 (h+1) (AF l)=l.flatMap (A8 h):=rfl
  rw[hfl] at hb|-
  obtain⟨J,j1,j2,j3,j4⟩:=Kx GT.nil (fun k=>!Hd lo ub op (A8 h k)) l
  let G:Nat->List ByteArray:=fun i=>A++(Cu lo ub op ((l.take i).flatMap (A8 h))).flatMap f
  have hG0:G 0=A:=by simp[G,Cu]
  have hsplit:∀ i,i<l.length->l.flatMap (A8 h)=(l.take i).flatMap (A8 h)++(A8 h (l.getD i .nil)++(l.drop (i+1)).flatMap (A8 h)):=fun i hi=>by
   have e1:=A0R i l
   have e2:l.drop i=l.getD i .nil::l.drop (i+1):=by
    rw[A03,A06 hi]
    exact List.drop_eq_getElem_cons hi
   conv=>lhs;rw[<-e1]
   rw[A0u,e2,A0I]
  have hGs:∀ i,i<l.length->G (i+1)=G i++(Cu lo ub op (A8 h (l.getD i .nil))).flatMap f:=fun i hi=>by
   simp only[G]
   rw[Gc .nil hi,A0u,KB,A0u,A05]
   simp
  have hrec:∀ i,i<l.length->M8 a c b q f lo ub op (G i) (l.getD i .nil) (A8 h (l.getD i .nil)):=fun i hi=>by
   refine V3 lo ub op h _ _ (hk _ (Ad hi)).1 ?_
   have h1:=congrArg List.length (hsplit i hi)
   have h2:=NP lo ub op hf ((l.take i).flatMap (A8 h))
   simp only[A08] at h1
   simp only[G,A08]
   omega
  have hkd:∀ i,i<l.length->WfD h (l.getD i .nil):=fun i hi=>Wf.d (hk _ (Ad hi)).1
  have hfm:∀ i (hi:i<l.length),(A8 h (l.getD i .nil)).getD 0 zM ∈ A8 h (l.getD i .nil):=fun i hi=>FY (hkd i hi).ne
  have hlm:∀ i (hi:i<l.length),(A8 h (l.getD i .nil)).getD ((A8 h (l.getD i .nil)).length-1) zM ∈ A8 h (l.getD i .nil):=fun i hi=>MN (hkd i hi).ne
  have hge:∀ i (hi:i<l.length) e,e ∈ A8 h (l.getD i .nil)->e=(A8 h (l.getD i .nil)).getD 0 zM∨ltS ((A8 h (l.getD i .nil)).getD 0 zM).1 e.1=true:=fun i hi e he=>by
   have hs':=(hkd i hi).srt
   have hne:=(hkd i hi).ne
   generalize A8 h (l.getD i .nil)=L at*
   cases L with
   |nil=>exact absurd rfl hne
   |cons x L=>
    rcases A0o.1 he with rfl|he
    ·exact .inl rfl
    ·exact .inr (hs'.head e he)
  have hle:∀ i (hi:i<l.length) e,e ∈ A8 h (l.getD i .nil)->e=(A8 h (l.getD i .nil)).getD ((A8 h (l.getD i .nil)).length-1) zM∨ltS e.1 ((A8 h (l.getD i .nil)).getD ((A8 h (l.getD i .nil)).length-1) zM).1=true:=fun i hi e he=>by
   have hs':=(hkd i hi).srt
   generalize A8 h (l.getD i .nil)=L at*
   obtain⟨j,hj,rfl⟩:=A16.1 he
   have hn:L.length-1<L.length:=by omega
   rw[A03,A06 hn,A0D]
   rcases A0v j (L.length-1) with hlt|hge
   ·exact .inr (A1W.1 hs' j (L.length-1) hj hn hlt)
   ·have:j=L.length-1:=by omega
    subst this;exact .inl rfl
  have hskip:∀ i,i<l.length->ltS (l.getD i .nil).last lo=true->Cu lo ub op (A8 h (l.getD i .nil))=[]/\Hd lo ub op (A8 h (l.getD i .nil))=true:=fun i hi hlt=>by
   rw[(hkd i hi).last] at hlt
   have hall:∀ e ∈ A8 h (l.getD i .nil),ltS e.1 lo=true:=fun e he=>by
    rcases hle i hi e he with rfl|h'
    ·exact hlt
    ·exact C9 h' hlt
   exact⟨List.filter_eq_nil_iff.2 fun e he=>by simp[hall e he],A0p.2 fun e he=>by simp[hall e he]⟩
  have hend:∀ i,i<l.length->ltS (l.getD i .nil).last lo=false->Hd lo ub op (A8 h (l.getD i .nil))=true->(!op&& !ltS (l.getD i .nil).first ub)=false:=fun i hi hlt hR=>by
   rw[(hkd i hi).last] at hlt
   have h1:=A0p.1 hR _ (hlm i hi)
   rw[hlt,Bool.false_or] at h1
   rw[(hkd i hi).first]
   cases hb:(!op&& !ltS ((A8 h (l.getD i .nil)).getD 0 zM).1 ub) with
   |false=>rfl
   |true=>
    have hE:JE ub op ((A8 h (l.getD i .nil)).getD 0 zM)=true:=hb
    rcases hge i hi _ (hlm i hi) with h'|h'
    ·rw[h',hE] at h1;cases h1
    ·rw[HZ hE h'] at h1;cases h1
  have hres:decide (J=l.length)=Hd lo ub op (l.flatMap (A8 h)):=by
   rcases A0v J l.length with hj|hj
   ·rw[decide_eq_false (by omega),hsplit J hj,NO,NO]
    have:=j4 hj
    simp only[A1e] at this
    rw[this];simp
   ·rw[decide_eq_true (by omega)]
    symm
    refine A0p.2 fun e he=>?_
    obtain⟨k,hk',he⟩:=A1F.1 he
    obtain⟨j,hj',rfl⟩:=A16.1 hk'
    have:=j3 j (by omega)
    rw[A03,A06 hj'] at this
    simp only[A0D,A1q] at this
    exact A0p.1 this e he
  have hrest:∀ (hj:J<l.length),Cu lo ub op (l.flatMap (A8 h))=Cu lo ub op ((l.take J).flatMap (A8 h))++Cu lo ub op (A8 h (l.getD J .nil)):=fun hj=>by
   have h1:=j4 hj
   simp only[A1e] at h1
   obtain⟨e,he,hbad⟩:=List.all_eq_false.1 h1
   have hE:JE ub op e=true:=by
    simp only[A1P,not_or,Bool.not_eq_true,A1q] at hbad
    exact hbad.2
   rw[hsplit J hj] at hs
   have hp:=(A1k.1 (A1k.1 hs).2.1).2.2
   have:Cu lo ub op ((l.drop (J+1)).flatMap (A8 h))=[]:=List.filter_eq_nil_iff.2 fun x hx=>by simp[HZ hE (hp e he x hx)]
   rw[hsplit J hj,KB,KB,this,A0E]
  rcases A0v J l.length with hj|hj
  ·have h1:=j4 hj
   simp only[A1e] at h1
   have hns:ltS (l.getD J .nil).last lo=false:=by
    cases hb:ltS (l.getD J .nil).last lo with
    |false=>rfl
    |true=>rw [(hskip J hj hb).2] at h1;cases h1
   have hB:A++(Cu lo ub op (l.flatMap (A8 h))).flatMap f=G (J+1):=by
    rw[hGs J hj,hrest hj,A0u,<-A05]
   show A4 _ _ _ _ _ (DJ a c b q (A++(Cu lo ub op (l.flatMap (A8 h))).flatMap f))
   rw[hB,<-hres]
   have:=VL (a:=a) (c:=c) (b:=b) (q:=q) (AF l) lo ub op (by show ¬((l.getD 0 .nil).height+1=0);rw[(hkd 0 (by omega)).height];omega) (by rw[hkids];omega) h8 G (G (J+1)) J j1 (fun i hi=>?_) (fun _=>?_) (fun h'=>by rw[hkids] at h';omega)
   ·rw[hG0] at this;exact this
   ·rw[hkids]
    have hi':i<l.length:=by omega
    have hR:=j3 i hi
    simp only[A1q] at hR
    cases hb:ltS (l.getD i .nil).last lo with
    |true=>exact .inl ⟨rfl,by rw[hGs i hi',(hskip i hi' hb).1];simp⟩
    |false=>
     have hr:=hrec i hi'
     unfold M8 at hr
     rw[hR,<-hGs i hi'] at hr
     exact .inr ⟨rfl,hend i hi' hb hR,hr⟩
   ·rw[hkids]
    refine⟨hns,?_⟩
    cases hb:(!op&& !ltS (l.getD J .nil).first ub) with
    |true=>
     refine .inl ⟨rfl,?_⟩
     rw[hGs J hj]
     have hE:JE ub op ((A8 h (l.getD J .nil)).getD 0 zM)=true:=by rw[(hkd J hj).first] at hb;exact hb
     have:Cu lo ub op (A8 h (l.getD J .nil))=[]:=List.filter_eq_nil_iff.2 fun x hx=>by
      rcases hge J hj x hx with rfl|h'
      ·rw[hE];simp
      ·simp[HZ hE h']
     rw[this];simp
    |false=>
     have hr:=hrec J hj
     unfold M8 at hr
     rw[h1,<-hGs J hj] at hr
     exact .inr ⟨rfl,hr⟩
  ·have hJ:J=l.length:=by omega
   have hB:A++(Cu lo ub op (l.flatMap (A8 h))).flatMap f=G J:=by
    simp only[G,hJ,A0Q]
   show A4 _ _ _ _ _ (DJ a c b q (A++(Cu lo ub op (l.flatMap (A8 h))).flatMap f))
   rw[hB,<-hres]
   have:=VL (a:=a) (c:=c) (b:=b) (q:=q) (AF l) lo ub op (by show ¬((l.getD 0 .nil).height+1=0);rw[(hkd 0 (by omega)).height];omega) (by rw[hkids];omega) h8 G (G J) J j1 (fun i hi=>?_) (fun h'=>by rw[hkids] at h';omega) (fun _=>rfl)
   ·rw[hG0] at this;exact this
   ·rw[hkids]
    have hi':i<l.length:=by omega
    have hR:=j3 i hi
    simp only[A1q] at hR
    cases hb:ltS (l.getD i .nil).last lo with
    |true=>exact .inl ⟨rfl,by rw[hGs i hi',(hskip i hi' hb).1];simp⟩
    |false=>
     have hr:=hrec i hi'
     unfold M8 at hr
     rw[hR,<-hGs i hi'] at hr
     exact .inr ⟨rfl,hend i hi' hb hR,hr⟩
theorem walk_tr(lo hi:ByteArray)(op:Bool)(t:GT)(l:List GE)(A:List ByteArray)(ht:DF t l)(hb:A.length+l.length<=1048576):M8 a c b q f lo hi op A t l:=by
 rcases ht with⟨rfl,rfl⟩|⟨h,hw,rfl⟩
 ·exact NH hf hY .nil lo hi op A rfl (by simp[GT.es]) rfl (by simp[GT.es]) List.Pairwise.nil hb
 ·exact V3 hf hY lo hi op h t A hw hb
end
def El(p:ByteArray)(e:CE):List ByteArray:=if e.2.2.1&&C1 e.1 p then [e.1] else []
def FT(p:ByteArray)(es:List CE)(n:Nat):List ByteArray:=match es.find? fun e=>e.2.1==n with|some e=>El p e|none=>[]
theorem YZ(p:ByteArray)(e:CE):(El p e).length<=1:=by unfold El;split<;>simp
theorem GD:∀ {es:List CE},(es.map (·.2.1)).Nodup->∀ e ∈ es,(es.find? fun x=>x.2.1==e.2.1)=some e
 |[],_,e,h=>by cases h
 |x::es,hn,e,h=>by
  rw[A0k,A1h] at hn
  rw[List.find?_cons]
  rcases A0o.1 h with rfl|h
  ·simp
  ·have:(x.2.1==e.2.1)=false:=by
    have:x.2.1≠e.2.1:=fun h2=>hn.1 (by rw[h2];exact A0j.2 ⟨e,h,rfl⟩)
    simpa using this
   rw[this]
   exact GD hn.2 e h
theorem MY:∀ {es:List CE},(es.map (·.2.1)).Nodup->∀ e ∈ es,MZ e.2.1 (es.map Ck)=some (.string e.1,.agg (CB e.2.2))
 |[],_,e,h=>by cases h
 |x::es,hn,e,h=>by
  rw[A0k,A1h] at hn
  simp only[A0k,MZ,Ck]
  rcases A0o.1 h with rfl|h
  ·simp
  ·have:(x.2.1==e.2.1)=false:=by
    have:x.2.1≠e.2.1:=fun h2=>hn.1 (by rw[h2];exact A0j.2 ⟨e,h,rfl⟩)
    simpa using this
   rw[this]
   exact MY hn.2 e h
def Jk(es:List CE)(sn:List Nat):Nat:=(es.filter fun e=>decide (e.2.1 ∉ sn)).length
theorem Si{es:List CE}{sn:List Nat}{e:CE}(he:e ∈ es)(hn:e.2.1 ∉ sn):Jk es (sn++[e.2.1])<Jk es sn:=by
 have key:∀ l:List CE,Jk l (sn++[e.2.1])<=Jk l sn/\(e ∈ l->Jk l (sn++[e.2.1])<Jk l sn):=by
  intro l
  induction l with
  |nil=>exact ⟨A0e _,fun h=>by cases h⟩
  |cons x l ih=>
   unfold Jk at*
   simp only[List.filter_cons]
   by_cases h1:x.2.1 ∈ sn
   ·have h2:x.2.1 ∈ sn++[e.2.1]:=A1E _ h1
    simp only[h1,h2,not_true_eq_false,decide_false,A0q,if_false]
    refine⟨ih.1,fun h=>?_⟩
    rcases A0o.1 h with rfl|h
    ·exact absurd h1 hn
    ·exact ih.2 h
   ·by_cases h2:x.2.1=e.2.1
    ·have h3:x.2.1 ∈ sn++[e.2.1]:=by rw[h2];simp
     simp only[h1,h3,not_true_eq_false,not_false_eq_true,decide_false,decide_true,A0q,if_false,if_true,A0g]
     have:=ih.1
     exact⟨by omega,fun _=>by omega⟩
    ·have h3:x.2.1 ∉ sn++[e.2.1]:=by simp[h1,h2]
     simp only[h1,h3,not_false_eq_true,decide_true,if_true,A0g]
     refine⟨by have:=ih.1;omega,fun h=>?_⟩
     rcases A0o.1 h with rfl|h
     ·exact absurd rfl h2
     ·have:=ih.2 h;omega
 exact(key es).2 he
structure HI(p:ByteArray)(es:List CE)(n0:Nat)(sn:List Nat):Prop where
 nd:sn.Nodup
 sub:∀ n ∈ sn,n ∈ es.map (·.2.1)
 len:n0+(sn.flatMap (FT p es)).length+Jk es sn<=n0+es.length
theorem HI.nil(p:ByteArray)(es:List CE)(n0:Nat):HI p es n0 []:=
 ⟨List.nodup_nil,by simp,by have:=A0Y (fun e:CE=>decide (e.2.1 ∉ ([]:List Nat))) es;simp only[A28,A0i];unfold Jk;omega⟩
theorem HI.snoc{p:ByteArray}{es:List CE}{n0:Nat}{sn:List Nat}(h:HI p es n0 sn)(hb:(es.map (·.2.1)).Nodup){e:CE}(he:e ∈ es)(hn:e.2.1 ∉ sn):
  HI p es n0 (sn++[e.2.1])/\(sn++[e.2.1]).flatMap (FT p es)=sn.flatMap (FT p es)++El p e:=by
 have e1:FT p es e.2.1=El p e:=by unfold FT;rw[GD hb e he]
 have e2:(sn++[e.2.1]).flatMap (FT p es)=sn.flatMap (FT p es)++El p e:=by rw[A0u];simp[e1]
 refine⟨⟨?_,?_,?_⟩,e2⟩
 ·rw[List.nodup_append]
  exact⟨h.nd,by simp,fun a ha b hb'=>by simp only[A0d] at hb';subst hb';exact fun hh=>hn (by rw[<-hh];exact ha)⟩
 ·intro n hn'
  rcases A1a.1 hn' with h1|h1
  ·exact h.sub n h1
  ·rw[A0d.1 h1];exact A0j.2 ⟨e,he,rfl⟩
 ·rw[e2,A08]
  have:=Si he hn
  have:=YZ p e
  have:=h.len
  omega
theorem Ll{a b:List ByteArray}(h:a.Perm b):Au a=Au b:=by
 unfold Au
 rw[MC (h.map _)]
theorem HI.all{p:ByteArray}{es:List CE}{n0:Nat}{sn:List Nat}(h:HI p es n0 sn)(hb:(es.map (·.2.1)).Nodup)(ha:∀ e ∈ es,e.2.1 ∈ sn)(A:List ByteArray):
  Au (A++sn.flatMap (FT p es))=Au (A++es.flatMap (El p)):=by
 refine Ll (List.Perm.append_left A ?_)
 have hp:sn.Perm (es.map (·.2.1)):=(List.perm_ext_iff_of_nodup h.nd hb).2 fun n=>⟨h.sub n,fun hn=>by obtain⟨e,he,rfl⟩:=A0j.1 hn;exact ha e he⟩
 refine(hp.flatMap_right _).trans ?_
 rw[List.flatMap_map]
 have:es.flatMap (fun e=>FT p es e.2.1)=es.flatMap (El p):=by
  have:∀ l:List CE,(∀ e ∈ l,e ∈ es)->l.flatMap (fun e=>FT p es e.2.1)=l.flatMap (El p):=by
   intro l hl
   induction l with
   |nil=>rfl
   |cons x l ih=>
    rw[A0I,A0I,ih fun e he=>hl e (A0l _ he)]
    have:=GD hb x (hl x A0C)
    unfold FT
    rw[this]
  exact this es fun _ h=>h
 rw[this]
theorem MM:∀ a b:List UInt8,Bo a b<0->a<=b
 |[],b,_=>by simp
 |a::x,[],h=>by simp[Bo] at h
 |a::x,b::y,h=>by
  simp only[Bo] at h
  rw[List.cons_le_cons_iff]
  by_cases hab:a=b
  ·subst hab
   rw[if_pos rfl] at h
   exact .inr ⟨rfl,MM x y h⟩
  ·rw[if_neg hab] at h
   refine .inl ?_
   by_cases hl:a<b
   ·exact hl
   ·simp[hl] at h
theorem Yc{a b:List ByteArray}(h:a.Perm b)(hs:b.Pairwise fun x y=>ltS x y=true):Au a=b:=by
 rw[Ll h]
 unfold Au
 have hpw:(b.map (·.data.toList)).Pairwise fun x y=>decide (x<=y)=true:=by
  rw[List.pairwise_map]
  refine hs.imp fun {x y} hxy=>?_
  rw[decide_eq_true_eq]
  rw[ltS,decide_eq_true_eq] at hxy
  exact MM _ _ hxy
 rw[List.mergeSort_of_pairwise hpw,A1o]
 have:((fun l:List UInt8=>(⟨l.toArray⟩:ByteArray)) ∘ fun k:ByteArray=>k.data.toList)=id:=by funext k;simp
 rw[this,List.map_id]
end Go.Ab
namespace Go.Ab
open Go.RowKit
open Go.ChangeMaps (setBlock)
section
variable{w0:World}{M0:Nat->Prop}{I0:Gh}{fr I:Nat->Prop}{mu:Nat->Option Value}{hp:Nat->Option Blk}{w:World}
theorem Aq.setObjV(h:Aq w0 M0 I0 fr I mu hp w){b k:Nat}{x0 x:Blk}{vb:Value}(hb:hp b=some x0)(hm:mu b=some vb)(hvb:Ap vb=some k)(o:Obj)(hx:(setBlock w k o).heap[k]? =some o->(∀ j,j≠k->(setBlock w k o).heap[j]? =w.heap[j]?)->Dp (setBlock w k o) I mu b x):
  Aq w0 M0 I0 fr I mu (fun c=>AX c (hp c) [(b,some x)]) (setBlock w k o)/\Ext I mu w I mu (setBlock w k o):=by
 obtain⟨hk1,hk2,hk3⟩:=h.loc b x0 _ k hb hm hvb
 have hoth:∀ j,j≠k->(setBlock w k o).heap[j]? =w.heap[j]?:=fun j hj=>by
  simp[setBlock,Array.getElem?_setIfInBounds,Ne.symm hj]
 have hself:(setBlock w k o).heap[k]? =some o:=by simp[setBlock,hk3]
 have hsz:(setBlock w k o).heap.size=w.heap.size:=by simp[setBlock]
 have hI:∀ j,I j->(setBlock w k o).heap[j]? =w.heap[j]?:=fun j hj=>hoth j (by rintro rfl;exact hk2 hj)
 have hup:∀ c,AX c (hp c) [(b,some x)]=if c=b then some x else hp c:=by
  intro c;simp only[AX,A0y,A1c];by_cases hc:c=b
  ·subst hc;simp
  ·have:¬b=c:=fun h=>hc h.symm
   simp[hc,this]
 refine⟨⟨fun c y hy=>?_,fun c y v j hy hv hj=>?_,fun c d y z v u j hy hz hv hu hj hj'=>?_,h.fresh,fun j hj=>by rw[hsz];exact h.lt j hj,h.os,h.tape,h.output,by rw[hsz];exact h.grown,fun j hj hn=>?_,h.iold,h.inew,h.keep,fun c y hy hf=>?_⟩,fun _ h=>h,fun _ _ h=>h,hI⟩
 ·rw[hup] at hy
  by_cases hc:c=b
  ·rw[if_pos hc] at hy;cases hy;subst hc;exact hx hself hoth
  ·rw[if_neg hc] at hy
   refine(h.blk c y hy).mono hI (fun _ h=>h) (fun _ _ h=>h) fun v j hv hj=>hoth j ?_
   rintro rfl
   exact hc (h.inj c b y x0 v _ j hy hb hv hm hj hvb)
 ·rw[hup] at hy
  rw[hsz]
  by_cases hc:c=b
  ·subst hc;exact h.loc c x0 v j hb hv hj
  ·rw[if_neg hc] at hy;exact h.loc c y v j hy hv hj
 ·rw[hup] at hy hz
  have g:∀ c y,(if c=b then some x else hp c)=some y->∃ y',hp c=some y':=fun c y hy=>by
   by_cases hc:c=b
   ·subst hc;exact⟨_,hb⟩
   ·rw[if_neg hc] at hy;exact⟨_,hy⟩
  obtain⟨y',hy'⟩:=g c y hy
  obtain⟨z',hz'⟩:=g d z hz
  exact h.inj c d y' z' v u j hy' hz' hv hu hj hj'
 ·rw[hoth j ?_]
  ·exact h.old j hj hn
  ·rintro rfl
   rcases hk1 with h1|h1
   ·exact hn h1
   ·omega
 ·rw[hup] at hy
  by_cases hc:c=b
  ·subst hc;exact h.used c x0 hb hf
  ·rw[if_neg hc] at hy;exact h.used c y hy hf
end
def Te(P:Program)(f:FuncId):Prop:=(∀(blk off cap:Nat) (ss:List (List UInt8)) (w:World),Sort.Holds Proofs.encStr w blk off ss.toArray->blk<w.heap.size->ss.length<4611686018427387904->
  Calls P f #[.slice (some ⟨blk,off,none⟩) ss.length cap] w fun e w'=>e=.returned (.tuple #[])/\∃ n os,w'=Sort.grow (Sort.putRow Proofs.encStr (Sort.ahead w n) blk off (ss.mergeSort fun x y=>decide (x<=y)).toArray) os)/\
 ∀(p:Option Addr) (cap:Nat) (w:World),Calls P f #[.slice p 0 cap] w fun e w'=>e=.returned (.tuple #[])/\w'=w
theorem A4.of_sort{P:Program}{f:FuncId}(he:Bc P f=true)(hc:Te P f)(ks:List ByteArray)(hlen:ks.length<=1048576)(hsz:∀ k ∈ ks,k.size<=9223372036854775807):
  A4 P f [.gref 1 ks.length] [(1,.grow (ks.map fun k=>[.val (.string k)]) 1)] (.tup []) [(1,.grow ((Au ks).map fun k=>[.val (.string k)]) 1)]:=by
 unfold A4
 refine⟨he,fun w M0 G I mu vs hga hdl hw hr=>?_⟩
 have hb1:Ai [(1,Blk.grow (ks.map fun k=>[D.val (.string k)]) 1)] 1=some (.grow (ks.map fun k=>[.val (.string k)]) 1):=rfl
 obtain⟨A,cap,T,us,h1,h2,h3,h4⟩:=hw.blk 1 _ hb1
 rw[A0b] at h1
 obtain⟨g1,g2⟩:=hr
 obtain⟨v0,rfl⟩:∃ v,vs=[v]:=by
  match vs,g1 with
  |[v],_=>exact ⟨v,rfl⟩
 have hv0:=g2 0 (by simp)
 simp only[nd,nv,A0K] at hv0
 cases hv0 with
 |gref _ _ A' cap' hk=>
 rw[h1] at hk
 simp only[A04,A0Z,true_and] at hk
 obtain⟨rfl,rfl⟩:=hk
 rcases A0M ks.length with hz|hz
 ·have hks:ks=[]:=A0G.1 hz
  subst hks
  refine(hc.2 A cap w).mono fun e w' ⟨hev,hw'⟩=>⟨_,I,mu,hev,.tup [] [] rfl (fun i hi=>absurd hi (by simp)),?_⟩
  subst hw'
  have e0:Au []=[]:=by simp[Au]
  rw[e0]
  exact hw
 ·rcases h4 with⟨_,h4⟩|⟨k,c0,hA,h5,h6,h7,h8⟩
  ·have h4':=congrArg List.length h4
   rw[A0b] at h4'
   simp only[A0i] at h4'
   omega
  ·subst hA
   have hlk:k<w.heap.size:=(A0F.1 h5).1
   have hcell:∀ i,i<ks.length->us[i]? =some (.string (ks.getD i default)):=fun i hi=>by
    have h9:=h8 i 0 (by rw[A0b];exact hi) (by omega)
    have hn:nr (ks.map fun k=>[D.val (.string k)]) i=[.val (.string (ks.getD i default))]:=by
     simp only[nr,A03,A0A,A06 hi,A0U,A0D]
    rw[hn] at h9
    simp only[nd,A0K,Nat.mul_one,A1b] at h9
    have hlt:i<us.length:=by rw[h7];rw[A0b] at h6;omega
    simp only[nv,A03,A06 hlt,A0D] at h9
    rw[A06 hlt]
    generalize us[i]=x at h9
    cases h9 with
    |val _ _=>rfl
   have hH:Sort.Holds Proofs.encStr w k 0 (ks.map (·.data.toList)).toArray:=fun j hj=>by
    have hj':j<ks.length:=by simpa using hj
    refine⟨?_,?_⟩
    ·simp only[World.cell?,h5,A1m]
     have:=hcell j hj'
     simp only[A03,A06 hj',A0D] at this
     simp[Proofs.encStr,this,hj']
    ·simp[World.frozen?,h5]
   have hcall:=hc.1 k 0 cap (ks.map (·.data.toList)) w hH hlk (by rw[A0b];omega)
   rw[A0b] at hcall
   refine hcall.mono fun e w' ⟨hev,n,os,hw'⟩=>⟨_,I,mu,hev,.tup [] [] rfl (fun i hi=>absurd hi (by simp)),?_⟩
   have hD:Aq w M0 G (frN 4) I mu (Ai [(1,Blk.grow (ks.map fun k=>[D.val (.string k)]) 1)]) (Sort.ahead w n):=⟨fun b x hb=>(hw.blk b x hb).mono (fun _ _=>rfl) (fun _ h=>h) (fun _ _ h=>h) (fun _ _ _ _=>rfl),hw.loc,hw.inj,hw.fresh,hw.lt,hw.os,hw.tape,hw.output,hw.grown,hw.old,hw.iold,hw.inew,hw.keep,hw.used⟩
   generalize hd:((ks.map (·.data.toList)).mergeSort fun x y=>decide (x<=y)).toArray=d at hw'
   have hdsz:d.size=ks.length:=by rw[<-hd];simp
   have hsz2:(Au ks).length=ks.length:=by simp[Au]
   have hdi:∀ i,i<ks.length->Proofs.encStr d[i]! =.string ((Au ks).getD i default):=fun i hi=>by
    have hi2:i<((ks.map (·.data.toList)).mergeSort fun x y=>decide (x<=y)).length:=by simpa using hi
    rw[<-hd]
    simp only[Au,A03,A0A,A06 hi2,A0U,A0D]
    rw[getElem!_pos _ i (by simpa using hi)]
    simp[Proofs.encStr]
   have hput:Sort.putRow Proofs.encStr (Sort.ahead w n) k 0 d=setBlock (Sort.ahead w n) k (.cells (Sort.putCells Proofs.encStr 0 d us.toArray) T (0,0)):=by
    have hh:(Sort.ahead w n).heap.modify k (Sort.onCells (Sort.putCells Proofs.encStr 0 d))=(Sort.ahead w n).heap.setIfInBounds k (.cells (Sort.putCells Proofs.encStr 0 d us.toArray) T (0,0)):=by
     apply Array.ext_getElem?
     intro j
     rw[Array.getElem?_modify,Array.getElem?_setIfInBounds]
     by_cases hj:k=j
     ·subst hj
      have:(Sort.ahead w n).heap[k]? =some (.cells us.toArray T (0,0)):=h5
      rw[if_pos rfl,if_pos rfl,this,if_pos (show k<(Sort.ahead w n).heap.size from hlk)]
      rfl
     ·rw[if_neg hj,if_neg hj]
    simp only[Sort.putRow,Sort.mapBlock,setBlock,hh]
   obtain⟨W2,_⟩:=hD.setObjV (b:=1) (k:=k) (x:=.grow ((Au ks).map fun k=>[.val (.string k)]) 1) hb1 h1 (by simp[Ap];omega) (.cells (Sort.putCells Proofs.encStr 0 d us.toArray) T (0,0)) (fun hself hoth=>by
    have hL:((Au ks).map fun k=>[D.val (.string k)]).length=ks.length:=by rw[A0b,hsz2]
    have hnr:∀ i,i<ks.length->nr ((Au ks).map fun k=>[D.val (.string k)]) i=[.val (.string ((Au ks).getD i default))]:=fun i hi=>by
     have hi':i<(Au ks).length:=by omega
     simp only[nr,A03,A0A,A06 hi',A0U,A0D]
    refine⟨some ⟨k,0,none⟩,cap,T,(Sort.putCells Proofs.encStr 0 d us.toArray).toList,by rw[hL];exact h1,fun i hi=>?_,h3,.inr ⟨k,c0,rfl,by simpa using hself,by rw[hL];rw[A0b] at h6;exact h6,?_,fun i j hi hj=>?_⟩⟩
    ·rw[hL] at hi;rw[hnr i hi];rfl
    ·simp[Sort.putCells,h7]
    ·rw[hL] at hi
     obtain rfl:j=0:=by omega
     rw[hnr i hi]
     have hlt:i<us.length:=by rw[h7];rw[A0b] at h6;omega
     have hv:nv (Sort.putCells Proofs.encStr 0 d us.toArray).toList (i*1+0)=.string ((Au ks).getD i default):=by
      rw[<-hdi i hi]
      simp[nv,Sort.putCells,hlt,hdsz,hi]
     rw[hv]
     refine .val _ ?_
     have hm:(Au ks).getD i default ∈ Au ks:=by
      have hi':i<(Au ks).length:=by omega
      rw[A03,A06 hi'];exact A18 hi'
     obtain⟨a,ha,hae⟩:=A0j.1 hm
     have ha':=(List.mergeSort_perm _ _).mem_iff.1 ha
     obtain⟨k',hk',rfl⟩:=A0j.1 ha'
     have:(⟨(k'.data.toList).toArray⟩:ByteArray)=k':=by simp
     rw[<-hae,this]
     exact hsz k' hk')
   rw[hput] at hw'
   have hfun:(fun c=>AX c (Ai [(1,Blk.grow (ks.map fun k=>[D.val (.string k)]) 1)] c) [(1,some (Blk.grow ((Au ks).map fun k=>[D.val (.string k)]) 1))])=Ai [(1,Blk.grow ((Au ks).map fun k=>[D.val (.string k)]) 1)]:=by
    funext c
    simp only[AX,A0y,A1c,Ai]
    by_cases hc:1=c
    ·subst hc;simp
    ·have:(1==c)=false:=by simpa using hc
     simp[hc,this]
   rw[hfun] at W2
   subst hw'
   refine W2.below (fun _ h=>h) (fun _ h=>.inl h) (fun k hk=>?_) ?_
   ·have:=W2.lt k hk
    simp[Sort.grow];omega
   ·exact Lib.below_grow _ _ (A0e _) 0 os
end Go.Ab
namespace Go.Ab
open Go.Maps Go.Proofs Go.Proofs.Tryz Go.RowKit Go.Shelf Go.Sort
theorem Yb:Te prog 85:=
 ⟨fun blk off cap ss w hH hblk hsz=>AnyM.slices_Sort_string Tryz.sortA blk off cap ss w hH hblk hsz,fun p cap w=>AnyM.slices_Sort_string_none Tryz.sortA p cap w⟩
theorem c_Sort(ks:List ByteArray)(hlen:ks.length<=1048576)(hsz:∀ k ∈ ks,k.size<=9223372036854775807):
  A4 prog 85 [.gref 1 ks.length] [(1,.grow (ks.map fun k=>[.val (.string k)]) 1)] (.tup []) [(1,.grow ((Au ks).map fun k=>[.val (.string k)]) 1)]:=
 A4.of_sort (by kernel_rfl) Yb ks hlen hsz
theorem c_Root(t:GT):A3 prog 236 [Be t] (Ag t):=by
 have oT:=A5 t
 refine Zf [] func236 rfl ntmps236 results236 ?_
 (have z:=oT;(try push_cast[z])<;>repeat' (first|apply Zi<;>intro _|exact Zo|with_reducible apply Za)<;>try push_cast[z])
abbrev rngD(t:GT)(lo hi:ByteArray)(op:Bool):D:=.func (.func 234) [] [.ptr [Ag t] 0,.ptr [.val (.string lo)] 0,.ptr [.val (.string hi)] 0,.ptr [.val (.bool op)] 0]
theorem c_Range(t:GT)(lo hi:ByteArray)(op:Bool):A3 prog 203 [Be t,.val (.string lo),.val (.string hi),.val (.bool op)] (rngD t lo hi op):=by
 have oT:=A5 t
 refine Zf [0,8,16,24] func203 rfl ntmps203 results203 ?_
 (have z:=oT;(try push_cast[z])<;>repeat' (first|apply Zi<;>intro _|exact Zo|with_reducible apply Za)<;>try push_cast[z])
theorem XE(t:GT)(p e:ByteArray)(ok:Bool)(hE:A3 prog 202 [.val (.string p)] (.tup [.val (.string e),.val (.bool ok)])):A3 prog 160 [Be t,.val (.string p)] (rngD t p e (!ok)):=by
 have oT:=A5 t
 have hR:=c_Range t p e (!ok)
 refine Zf [] func160 rfl ntmps160 results160 ?_
 (have z:=oT;(try push_cast[z])<;>repeat' (first|apply Zi<;>intro _|refine Zc hE ?_|refine Zc hR ?_|exact Zo|with_reducible apply Za)<;>try push_cast[z])
theorem c_iter{a c:Code}{b:GT}{q:OQ}(t:GT)(lo hi:ByteArray)(op:Bool)(A B:List ByteArray)(r:Bool)
  (hW:A4 prog 235 [Ag t,.agg [.val (.string lo),.val (.string hi),.val (.bool op)],.yld 7] (DJ a c b q A) (.val (.bool r)) (DJ a c b q B)):
  A4 prog 234 [.yld 7,.ptr [Ag t] 0,.ptr [.val (.string lo)] 0,.ptr [.val (.string hi)] 0,.ptr [.val (.bool op)] 0] (DJ a c b q A) (.tup []) (DJ a c b q B):=by
 have oT:=A5 t
 have oB:=A5 b
 have hR:=c_Root t
 unfold DJ oqH at*
 refine Zd [] func234 rfl ntmps234 results234 ?_
 (have z:=Za oT oB;(try push_cast[z])<;>repeat' (first|apply Zi<;>intro _|refine Zc hR ?_|refine Zs [(7,7),(3,3),(6,6),(1,1),(2,2),(4,4)] hW ?_|exact Zo|with_reducible apply Za)<;>try push_cast[z])
 apply Zr [(2,66),(4,68),(6,70)] rfl<;>push_cast [oT,oB]
def H3(q:OQ)(e:GE):List ByteArray:=if (lk q.es e.1).isSome then [] else [e.1]
theorem RY(q:OQ)(e:GE):(H3 q e).length<=1:=by unfold H3;split<;>simp
theorem XF(b:GT)(q:OQ)(l:List GE)(ht:DF b l)(hl:l.length+q.es.length<=1048576)(hch:Do q.es q.ck)(hls:∀ e ∈ l,e.1.size<=64)(p e:ByteArray)(ok:Bool)(hE:A3 prog 202 [.val (.string p)] (.tup [.val (.string e),.val (.bool ok)])):A4 prog 121 [.ref 1 0 0 3,.val (.string p)] (oqH b q) (.slice ((Au ((Cu p e (!ok) l).flatMap (H3 q)++q.es.flatMap (El p))).map fun k=>[.val (.string k)]) false) (oqH b q):=by
 have oB:=A5 b
 have hP:=XE b p e ok hE
 unfold oqH
 refine A4.of_awpW func121 rfl ntmps121 (by kernel_rfl) (by simp) (congrArg Array.toList results121) ?_
 refine BJ.seqV [8] mixed (by kernel_rfl) ?_
 (have z:=oB;(try push_cast[z])<;>repeat' (first|apply Zi<;>intro _|exact Zo|with_reducible apply Za)<;>try push_cast[z])
 refine BJ.seqV [] mixed (by kernel_rfl) ?_
 (have z:=oB;(try push_cast[z])<;>repeat' (first|apply Zi<;>intro _|exact Zo|with_reducible apply Za)<;>try push_cast[z])
 refine BJ.seqV [] mixed (by kernel_rfl) ?_
 (have z:=oB;(try push_cast[z])<;>repeat' (first|apply Zi<;>intro _|exact Zo|with_reducible apply Za)<;>try push_cast[z])
 refine BJ.seq ?_
 refine BJ.seqV [] mixed (by kernel_rfl) ?_
 (have z:=oB;(try push_cast[z])<;>repeat' (first|apply Zi<;>intro _|refine Zc hP ?_|exact Zo|with_reducible apply Za)<;>try push_cast[z])
 refine BJ.block ?_
 refine BJ.weak (Ar.nilgrow1 (sz:=1)) ?_
 push_cast[oB]
 refine BJ.range (y:=7) (BN [(7,98),(3,40),(6,96),(1,1),(2,2),(4,4)]) (env:=[(5,.ref 3 0 0 1),(2,.ptr [.ref 1 0 0 3] 0)]) (ds:=[.yld 7,.ptr [Ag b] 0,.ptr [.val (.string p)] 0,.ptr [.val (.string e)] 0,.ptr [.val (.bool (!ok))] 0]) rfl (c_iter (b:=b) (q:=q) b p e (!ok) [] _ _ (walk_tr (b:=b) (q:=q) (f:=H3 q) (RY q) ?hY p e (!ok) b l [] ht (by have:=hl;simp only[A0i];omega))) rfl rfl ?_ ?_ ?_ ?_ ?_ ?_ ?_
 case hY=>
  intro x A hA
  have hlen:A.length<=1048576:=by rw[A08] at hA;omega
  have oX:=Bh x.2
  have hap:(A.map fun k=>[D.val (.string k)])++[[D.val (.string x.1)]]=(A++[x.1]).map fun k=>[D.val (.string k)]:=by simp
  have hap2:A.length+1=(A++[x.1]).length:=by simp
  unfold DJ oqH H3
  obtain⟨ch,us⟩:=q
  cases ch with
  |none=>
   have e1:lk (OQ.es ⟨none,us⟩) x.1=none:=rfl
   rw[e1]
   simp only[A1l,A0q,if_false,cD,cB]
   refine G9.of_awp (by decide) rfl (by decide) ?_
   simp only[List.zip_cons_cons,List.zip_nil_right,A1y,List.reverse_nil,A09,A07]
   refine Zy ?_
   (have z:=Za oB<|Za oX @Gm.eq_1;(try push_cast[z])<;>repeat' (first|apply Zi<;>intro _|exact Zo|with_reducible apply Za)<;>try push_cast[z])
   refine Zy ?_
   (have z:=Za oB<|Za oX @Gl.eq_1;(try push_cast[z])<;>repeat' (first|apply Zi<;>intro _|exact Zo|with_reducible apply Za)<;>try push_cast[z])
   all_goals first|omega|(intro y hy;cases A0d.1 hy;rfl)|(intro y hy d hd;cases A0d.1 hy;cases A0d.1 hd;rfl)|skip
   rw[hap,hap2]
   apply Zr [(6,152)] rfl<;>push_cast [oB]
  |some c=>
   obtain⟨es,ck⟩:=c
   have e1:lk (OQ.es ⟨some (es,ck),us⟩) x.1=lk es x.1:=rfl
   rw[e1]
   have e2:=G5 x.1 es 0
   simp only[cD,cB]
   cases hf:BQ x.1 es 0 with
   |none=>
    rw[hf] at e2
    rw[<-e2]
    simp only[Option.map_none,A1l,A0q,if_false]
    refine G9.of_awp (by decide) rfl (by decide) ?_
    simp only[List.zip_cons_cons,List.zip_nil_right,A1y,List.reverse_nil,A09,A07]
    refine Zy ?_
    (have z:=Za oB<|Za oX @Gm.eq_1;(try push_cast[z])<;>repeat' (first|apply Zi<;>intro _|exact Zo|with_reducible apply Za)<;>try push_cast[z])
    refine Zy ?_
    (have z:=Za oB<|Za oX<|Za @Gl.eq_1<|Za @AO hf;(try push_cast[z])<;>repeat' (first|apply Zi<;>intro _|exact Zo|with_reducible apply Za)<;>try push_cast[z])
    all_goals first|omega|(intro y hy;cases A0d.1 hy;rfl)|(intro y hy d hd;cases A0d.1 hy;cases A0d.1 hd;rfl)|skip
    rw[hap,hap2]
    apply Zr [(6,152)] rfl<;>push_cast [oB]
   |some pr=>
    obtain⟨i,old⟩:=pr
    rw[hf] at e2
    rw[<-e2]
    simp only[A0U,Option.isSome_some,if_true,A0E]
    refine G9.of_awp (by decide) rfl (by decide) ?_
    simp only[List.zip_cons_cons,List.zip_nil_right,A1y,List.reverse_nil,A09,A07]
    refine Zy ?_
    (have z:=Za oB<|Za oX @Gm.eq_1;(try push_cast[z])<;>repeat' (first|apply Zi<;>intro _|exact Zo|with_reducible apply Za)<;>try push_cast[z])
    refine Zy ?_
    (have z:=Za oB<|Za oX<|Za @Gl.eq_1<|Za @AO hf;(try push_cast[z])<;>repeat' (first|apply Zi<;>intro _|exact Zo|with_reducible apply Za)<;>try push_cast[z])
    apply Zw<;>push_cast [oB]
 ·push_cast
 ·push_cast[oB]
 ·push_cast[oB,Di]
 ·push_cast[oB,BD,oqH]
 ·push_cast[oB,oqH]
 ·push_cast[oB,oqH]
 ·push_cast[oB,oqH]
  have hA1:(List.flatMap (H3 q) (Cu p e (!ok) l)).length+q.es.length<=1048576:=by
   have:=NP p e (!ok) (RY q) l
   omega
  have hA2:∀ k ∈ List.flatMap (H3 q) (Cu p e (!ok) l)++q.es.flatMap (El p),k.size<=9223372036854775807:=fun k hk=>by
   rcases A1a.1 hk with hk|hk
   ·obtain⟨x,hx,hk⟩:=A1F.1 hk
    have hx':=hls x (A11.1 hx).1
    unfold H3 at hk
    split at hk
    ·cases hk
    ·rw[A0d.1 hk];omega
   ·obtain⟨x,hx,hk⟩:=A1F.1 hk
    have hx':=(hch.sm x hx).2.2
    unfold El at hk
    split at hk
    ·rw[A0d.1 hk];omega
    ·cases hk
  generalize List.flatMap (H3 q) (Cu p e (!ok) l)=A1 at*
  refine BJ.vc [] mixed (by kernel_rfl) ?_
  obtain⟨ch,us⟩:=q
  cases ch with
  |none=>
   have e0:OQ.es ⟨none,us⟩=[]:=rfl
   rw[e0] at hA1 hA2|-
   simp only[A28,A0E,cD,cB] at hA2|-
   have hS:=c_Sort A1 (by simpa using hA1) hA2
   have oS:=EP (Au A1)
   have hl2:(Au A1).length=A1.length:=(Ju A1).length_eq
   (have z:=oB;(try push_cast[z])<;>repeat' (first|apply Zi<;>intro _|exact Zo|with_reducible apply Za)<;>try push_cast[z])
   refine AWp.loopI mixed (by kernel_rfl) (ι:=Unit) (fun _=>True) (fun _=>⟨[(40,.ref 146 0 0 1),(5,.ref 40 0 0 1),(1,.val (.string p))],[(146,.obj (.mapIter none 0 #[] 0)),(110,.grow (us.map fun u=>[Bj u]) 1),(108,.junk),(1,.rows [[Ag b,.val (.map none),.gref 110 us.length]] 3),(40,.rows [[.gref 106 A1.length]] 1),(106,.grow (A1.map fun k=>[.val (.string k)]) 1)],300⟩) (fun _=>0) () trivial ?_ fun i hi=>?_
   ·apply Zr [(106,112)] rfl<;>push_cast [oB]
   ·push_cast[oB]
    refine Af.nextN 146 (by push_cast) (by push_cast) ?_
    (have z:=oB;(try push_cast[z])<;>repeat' (first|apply Zi<;>intro _|refine Zs [(1,106)] hS ?_|exact Zo|with_reducible apply Za)<;>try push_cast[z])
    refine Ar.trans (Ar.fzB (b:=106) (x:=.grow ((Au A1).map fun k=>[.val (.string k)]) 1) rfl) ?_
    rw[<-hl2]
    push_cast[oB]
    apply Zr [(2,108),(4,110)] rfl<;>push_cast [oB]
  |some c=>
   obtain⟨es,ck⟩:=c
   have e0:OQ.es ⟨some (es,ck),us⟩=es:=rfl
   have e1:OQ.ck ⟨some (es,ck),us⟩=ck:=rfl
   rw[e0] at hA1 hA2 hch|-
   rw[e1] at hch
   simp only[cD,cB]
   (have z:=oB;(try push_cast[z])<;>repeat' (first|apply Zi<;>intro _|exact Zo|with_reducible apply Za)<;>try push_cast[z])
   refine AWp.loopI mixed (by kernel_rfl) (ι:=List Nat) (HI p es A1.length) (fun sn=>⟨[(40,.ref 146 0 0 1),(5,.ref 40 0 0 1),(1,.val (.string p))],[(146,.iter 108 ck sn ck),(110,.grow (us.map fun u=>[Bj u]) 1),(108,.map (es.map Ck) ck),(1,.rows [[Ag b,.mref 108,.gref 110 us.length]] 3),(40,.rows [[.gref 106 (A1++sn.flatMap (FT p es)).length]] 1),(106,.grow ((A1++sn.flatMap (FT p es)).map fun k=>[.val (.string k)]) 1)],300⟩) (Jk es) [] (.nil p es A1.length) ?_ fun sn hsn=>?_
   ·apply Zr [(106,112)] rfl<;>push_cast [oB,A28,A0E]
   ·push_cast[oB]
    refine Af.next 146 108 (es:=es.map Ck) (ck:=ck) (seen:=sn) (by push_cast) (by push_cast) (by push_cast) (fun y hy=>by obtain⟨z,hz,rfl⟩:=A0j.1 hy;exact hch.lt z hz) (fun hall=>?_) fun y hy hns=>?_
    ·have hall':∀ e ∈ es,e.2.1 ∈ sn:=fun e he=>hall (Ck e) (A0j.2 ⟨e,he,rfl⟩)
     have hso:=hsn.all hch.births hall' A1
     have hlen:(A1++sn.flatMap (FT p es)).length<=1048576:=by rw[A08];have:=hsn.len;omega
     have hA3:∀ k ∈ A1++sn.flatMap (FT p es),k.size<=9223372036854775807:=fun k hk=>by
      rcases A1a.1 hk with hk|hk
      ·exact hA2 k (A1E _ hk)
      ·obtain⟨n,hn,hk⟩:=A1F.1 hk
       obtain⟨z,hz,rfl⟩:=A0j.1 (hsn.sub n hn)
       unfold FT at hk
       rw[GD hch.births z hz] at hk
       exact hA2 k (A1A _ (A1F.2 ⟨z,hz,hk⟩))
     rw[<-hso]
     generalize A1++sn.flatMap (FT p es)=A2 at*
     have hS:=c_Sort A2 hlen hA3
     have oS:=EP (Au A2)
     have hl2:(Au A2).length=A2.length:=(Ju A2).length_eq
     (have z:=oB;(try push_cast[z])<;>repeat' (first|apply Zi<;>intro _|refine Zs [(1,106)] hS ?_|exact Zo|with_reducible apply Za)<;>try push_cast[z])
     refine Ar.trans (Ar.fzB (b:=106) (x:=.grow ((Au A2).map fun k=>[.val (.string k)]) 1) rfl) ?_
     rw[<-hl2]
     push_cast[oB]
     apply Zr [(2,108),(4,110)] rfl<;>push_cast [oB]
    ·obtain⟨z,hz,rfl⟩:=A0j.1 hy
     obtain⟨s1,s2⟩:=hsn.snoc hch.births hz hns
     have hfb:=MY hch.births z hz
     have hgl:(sn++[z.2.1]).getLast? =some z.2.1:=by simp
     have hBg:=Nu z.1 p
     have hz64:=(hch.sm z hz).2.2
     have hlt1:=Si hz hns
     have hlen:(A1++(sn++[z.2.1]).flatMap (FT p es)).length<=1048576:=by rw[A08];have:=s1.len;omega
     obtain⟨zk,zn,zb,zv⟩:=z
     have oV:=Bh zv
     simp only[CB] at hfb
     rw[s2,<-A05] at hlen
     simp only[Ck,CB] at*
     cases zb with
     |false=>
      (have z:=Za oB<|Za oV<|Za @hfb @hgl;(try push_cast[z])<;>repeat' (first|apply Zi<;>intro _|refine Zc (hBg ..) ?_|exact Zo|with_reducible apply Za)<;>try push_cast[z])
      all_goals first|omega|skip
      refine⟨sn++[zn],s1,hlt1,?_⟩
      rw[s2]
      have e3:El p (zk,zn,false,zv)=[]:=rfl
      rw[e3,A0E]
      apply Zw<;>push_cast [oB,oV]
     |true=>
      cases hbg:C1 zk p with
      |false=>
       rw[hbg] at hBg
       (have z:=Za oB<|Za oV<|Za @hfb @hgl;(try push_cast[z])<;>repeat' (first|apply Zi<;>intro _|refine Zc (hBg ..) ?_|exact Zo|with_reducible apply Za)<;>try push_cast[z])
       all_goals first|omega|skip
       refine⟨sn++[zn],s1,hlt1,?_⟩
       rw[s2]
       have e3:El p (zk,zn,true,zv)=[]:=by simp[El,hbg]
       rw[e3,A0E]
       apply Zw<;>push_cast [oB,oV]
      |true=>
       rw[hbg] at hBg
       have e3:El p (zk,zn,true,zv)=[zk]:=by simp[El,hbg]
       rw[e3] at hlen
       have hlen2:(A1++sn.flatMap (FT p es)).length<=1048576:=by rw[A08] at hlen;omega
       (have z:=Za oB<|Za oV<|Za @hfb @hgl;(try push_cast[z])<;>repeat' (first|apply Zi<;>intro _|refine Zc (hBg ..) ?_|exact Zo|with_reducible apply Za)<;>try push_cast[z])
       all_goals first|omega|(intro y hy;cases A0d.1 hy;rfl)|(intro y hy d hd;cases A0d.1 hy;cases A0d.1 hd;rfl)|skip
       refine⟨sn++[zn],s1,hlt1,?_⟩
       rw[s2,e3,<-A05]
       generalize A1++sn.flatMap (FT p es)=A2 at*
       have hap:(A2.map fun k=>[D.val (.string k)])++[[D.val (.string zk)]]=(A2++[zk]).map fun k=>[D.val (.string k)]:=by simp
       have hap2:A2.length+1=(A2++[zk]).length:=by simp
       rw[hap,hap2]
       apply Zr [(106,744)] rfl<;>push_cast [oB,oV]
end Go.Ab
