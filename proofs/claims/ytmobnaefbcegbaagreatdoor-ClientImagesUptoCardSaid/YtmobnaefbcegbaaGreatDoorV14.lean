/- The program is walked: part 15 of 18. -/
import Derived.Test.YtmobnaefbcegbaaGreatDoorV13
set_option maxHeartbeats 4000000
set_option maxRecDepth 20000
set_option linter.all false
namespace Go.Ab
open Go.Proofs Go.Proofs.Tryz
def RM(l:Lua):0<=Lz l/\Lz l<4294967296:=by
 have:∀a b,0<=bits .xor .u32 a b/\bits .xor .u32 a b<4294967296:=λa b=>by
  have:=Gc .u32 ((BitVec.ofInt 32 a^^^BitVec.ofInt 32 b).toNat:Int);exact⟨this.1,by have h2:=this.2;exact Int.lt_of_le_of_lt h2 Dq'⟩
 exact this _ _
def Hh(n:Nat)(i:Nat):UInt8:=UInt8.ofNat (n/2^(8*i)%256)
def Dd(n:Nat)(i:Nat):Lua:=(List.range i).map (Hh n)
def A02(n i:Nat):Dd n (i+1)=Dd n i++[Hh n i]:=by simp[Dd,List.range_succ]
def Ub(n i:Nat):(Hh n i).toNat=n/2^(8*i)%256:=by
 unfold Hh;simp_all
def wrapU8(n:Nat):IntKind.u8.wrap (n:Int)=((n%256:Nat):Int):=by
 simp[IntKind.wrap,IntKind.bits,IntKind.signed]
def Gm(A:LLa)(k:Nat):LLa:=A++List.replicate k [.val (.int .u8 0)]
def A1c(A B:LLa)(k:Nat)(h:B.length<=k):AI (Gm A k) A.length B=Gm (A++B) (k-B.length):=by
 simp_all [AI,Gm]
def KL(l:Lua)(k:Nat):Aa (Gm (l.map byD) k)=true:=by
 unfold Gm
 induction l with
 |nil=>
  induction k with
  |zero=>rfl
  |succ k C=>simp only[A2E,A2h,A3R,Aa] at C|-;rw[C];rfl
 |cons x l C=>simp [Aa,C];rfl
def Ls(A:LLa)(k:Nat):(Gm A k).length=A.length+k:=by simp[Gm]
def Un(l:Lua):Lua:=l++Dd (Lz l).toNat 4
def c_Seal(l:Lua)(hl:l.length<=1048576)(h0:0<l.length):A0 prog 117 [.slice (l.map byD) false] (.slice ((Un l).map byD) false):=by
 have oL:=B9 l;have e0:(l.map byD).length=l.length:=A2k byD;have U:=c_Sum l hl;have hr:=RM l;have w4:IntKind.i64.wrap (↑l.length+4)=↑l.length+4:=A9 Om Om;unfold Un;obtain⟨n,hn⟩:∃n:Nat,Lz l=n:=⟨(Lz l).toNat,Om⟩
 rw[hn] at U hr|-;rw[Int.toNat_natCast];obtain⟨m,hm⟩:∃m,m=l.length+4:=⟨_,rfl⟩
 have w5:((↑l.length+4:Int)).toNat=m:=Om;have b0:decide (l.length<=m)=true:=Dt';have s0:l.map byD++List.drop l.length (List.replicate m [D.val (.int .u8 0)])=Gm (l.map byD) 4:=by
  unfold Gm;rw[List.drop_replicate,hm,A3C]
 have V:=KL l 4;have lF:=Ls (l.map byD) 4;have lR:(List.replicate m [D.val (.int .u8 0)]).length=m:=List.length_replicate;refine Zf [] ?_
 (have z:=Za oL<|Za e0<|Za w4<|Za w5<|Za b0<|Za s0<|Za V<|Za lF lR;push_cast[z]<;>repeat' (first|refine Zc U ?_|apply Za)<;>push_cast[z])
 all_goals first|omega|exact LE _|exact byD_one _|skip
 refine Zl (λi=>i<=4) (λi=>⟨[(15,iD i),(4,.val (.int .u32 n)),(3,.sref 32 0 (l.length+i) m 1)],[(32,.rows (Gm ((l++Dd n i).map byD) (4-i)) 1)],400⟩) (λi=>4-i) 0 Sq' ?_ λi hi=>?_
 ·have:l++Dd n 0=l:=by simp[Dd]
  rw[this];apply Zw<;>push_cast [V]
 ·have N:=KL (l++Dd n i) (4-i);have Z:((l++Dd n i).map byD).length=l.length+i:=by simp[Dd]
  have C:=Ls ((l++Dd n i).map byD) (4-i);rw[Z] at C;by_cases h4:i<4
  ·have M:=KL (l++Dd n (i+1)) (4-(i+1));have sG:=A1c ((l++Dd n i).map byD) [byD (Hh n i)] (4-i) So';have e2:(l++Dd n i).map byD++[byD (Hh n i)]=(l++Dd n (i+1)).map byD:=by rw[A02];simp
   rw[Z,e2,A3x,Nat.sub_sub,Qp] at sG;have w8:IntKind.i64.wrap (8*↑i)=8*↑i:=A9 Om Om;have w1:IntKind.i64.wrap (↑i+1)=↑i+1:=A9 Om Om;have hv:IntKind.u8.wrap ((n:Int).fdiv (2^min (8*(i:Int)).toNat IntKind.u32.bits))=((Hh n i).toNat:Int):=by
    have O:min (8*(i:Int)).toNat IntKind.u32.bits=8*i:=by
     have:IntKind.u32.bits=32:=rfl;rw[this];omega
    rw[O,Ub,<-wrapU8];congr 1;have:((2:Int)^(8*i))=((2^(8*i):Nat):Int):=by push_cast
    rw[this,Int.fdiv_eq_ediv_of_nonneg _ (Int.natCast_nonneg _)];rfl
   have b1:decide ((i:Int)<4)=true:=Dt';have b2:decide (l.length+i+1<=m)=true:=Dt';generalize Gm ((l++Dd n i).map byD) (4-i)=X at*;generalize hY:Gm ((l++Dd n (i+1)).map byD) (4-(i+1))=Y at*
   (have z:=Za N<|Za C<|Za w8<|Za w1<|Za hv<|Za b1<|Za b2<|Za sG M;push_cast[z]<;>repeat' apply Za)
   all_goals first|omega|(simp;done)|(intro y hy d hd;cases A2b.1 hy;cases A2b.1 hd;rfl)|skip
   refine⟨i+1,h4,Om,?_⟩;rw[hY];apply Zw<;>push_cast [M,Nat.add_assoc]
  ·obtain rfl:i=4:=Om;have O:Gm ((l++Dd n 4).map byD) (4-4)=(l++Dd n 4).map byD:=by simp[Gm]
   have M:=B9 (l++Dd n 4);rw[O] at N C|-;generalize l++Dd n 4=L at*
   (have z:=Za N<|Za C M;push_cast[z]<;>repeat' apply Za)
   rw[if_pos ⟨A2e _,Om,Om⟩,A2g Om];refine(show lo (D.slice _ _) (D.slice _ _) from ?_);simp only[Fa,Bp,true_and];exact λh=>(by cases h)
def Hg(n:Nat)(i:Nat):Nat:=n%2^(8*i)
def orAdd(n:Nat)(i:Nat)(hi:i<4):bits .or .u32 (Hg n i:Int) (IntKind.u32.wrap (((Hh n i).toNat:Int)*2^min (8*(i:Int)).toNat IntKind.u32.bits))=(Hg n (i+1):Int):=by
 have C:min (8*(i:Int)).toNat IntKind.u32.bits=8*i:=by
  have:IntKind.u32.bits=32:=rfl;omega
 have M:((2:Int)^(8*i))=((2^(8*i):Nat):Int):=by push_cast
 have hp:2^(8*i)<=2^24:=Nat.pow_le_pow_right Om Om;have N:0<2^(8*i):=Nat.pow_pos Om;have hs:Hg n (i+1)=Hg n i+2^(8*i)*(Hh n i).toNat:=by
  unfold Hg;rw[Ub,show 8*(i+1)=8*i+8 by omega,Nat.pow_add,Nat.mod_mul]
 have hlt:Hg n i<2^(8*i):=Nat.mod_lt _ N;have h2:Hg n (i+1)<2^32:=by
  have:Hg n (i+1)<2^(8*(i+1)):=Nat.mod_lt _ (Nat.pow_pos Om);grind
 rw[C,M,<-Int.natCast_mul,Nat.mul_comm,JM Om Om,hs];show IntKind.u32.wrap ((BitVec.ofInt 32 (Hg n i:Int) |||BitVec.ofInt 32 ((2^(8*i)*(Hh n i).toNat:Nat):Int)).toNat:Int)=_;have f1:(BitVec.ofInt 32 (Hg n i:Int)).toNat=Hg n i:=by
  grind
 have f2:(BitVec.ofInt 32 ((2^(8*i)*(Hh n i).toNat:Nat):Int)).toNat=2^(8*i)*(Hh n i).toNat:=by
  rw[BitVec.toNat_ofInt];omega
 have f3:(BitVec.ofInt 32 (Hg n i:Int) |||BitVec.ofInt 32 ((2^(8*i)*(Hh n i).toNat:Nat):Int)).toNat=Hg n i+2^(8*i)*(Hh n i).toNat:=by
  rw[BitVec.toNat_or,f1,f2,Nat.or_comm,<-Nat.two_pow_add_eq_or_of_lt hlt,Nat.add_comm]
 rw[f3,JM Om Om]
def c_Open(l:Lua)(hl:l.length<=1048576)(h0:0<l.length):A0 prog 195 [.slice ((Un l).map byD) false] (.tup [.slice (l.map byD) false,bD true]):=by
 have C:=B9 l;have N:(l.map byD).length=l.length:=A2k byD;have V:=c_Sum l hl;have hr:=RM l;unfold Un;obtain⟨n,hn⟩:∃n:Nat,Lz l=n:=⟨(Lz l).toNat,Om⟩
 rw[hn] at V hr|-;rw[Int.toNat_natCast];have Y:(Dd n 4).length=4:=by simp[Dd]
 obtain⟨m,hm⟩:∃m,m=l.length+4:=⟨_,rfl⟩
 have Z:((l++Dd n 4).map byD).length=m:=by simp[Y,hm]
 have aA:=LE (l++Dd n 4);have oA:=B9 (l++Dd n 4);have M:=B9 (Dd n 4);have O:((Dd n 4).map byD).length=4:=by simp[Y]
 have t1:((l++Dd n 4).map byD).take l.length=l.map byD:=by rw[A2F,A3P N]
 have t2:((l++Dd n 4).map byD).drop l.length=(Dd n 4).map byD:=by rw[A2F,List.drop_left' N]
 have t3:((Dd n 4).map byD).take (m-l.length)=(Dd n 4).map byD:=A2g Om;have w4:IntKind.i64.wrap (↑m-4)=↑l.length:=(A9 Om Om).trans Om;have b0:decide ((m:Int)<4)=false:=Df';generalize(l++Dd n 4).map byD=A at*;refine Zf [] ?_
 (have z:=Za oA<|Za C<|Za M<|Za Z<|Za O<|Za t1<|Za t2<|Za t3<|Za w4 b0;push_cast[z]<;>repeat' (first|exact Zo|apply Za)<;>push_cast[z])
 all_goals first|omega|exact aA|skip
 have e1:∀i,i<4->nr ((Dd n 4).map byD) i=[.val (.int .u8 ((Hh n i).toNat:Int))]:=λi hi=>by
  rw[M9 Om,Qp];congr 4;simp[Dd,A29,List.getElem?_range hi]
 generalize(Dd n 4).map byD=B at*;refine Zl (λi=>i<=4) (λi=>⟨[(24,iD i),(23,iD 4),(22,.slice B false),(6,.val (.int .u32 (Hg n i))),(4,.slice (l.map byD) false)],[],400⟩) (λi=>4-i) 0 Sq' ?_ λi hi=>?_
 ·have:Hg n 0=0:=by unfold Hg;rw[Nat.mul_zero,Nat.pow_zero];omega
  rw[this];apply Zw<;>push_cast [C,M]
 ·by_cases U:i<4
  ·have e2:=e1 i U;have e3:=orAdd n i U;have w1:IntKind.i64.wrap (↑i+1)=↑i+1:=A9 Om Om;have w8:IntKind.i64.wrap (8*↑i)=8*↑i:=A9 Om Om;have hb:(Hh n i).toNat<256:=(Hh n i).toNat_lt;have wx:IntKind.u32.wrap ((Hh n i).toNat:Int)=((Hh n i).toNat:Int):=JM Om Om;have b1:decide ((i:Int)<4)=true:=Dt';generalize hq:Hg n (i+1)=q at*
   (have z:=Za C<|Za M<|Za O<|Za e2<|Za e3<|Za w1<|Za w8<|Za wx b1;push_cast[z]<;>repeat' apply Za)<;>try omega
   refine⟨i+1,U,Om,?_⟩;rw[hq];apply Zw<;>push_cast [C,M]
  ·obtain rfl:i=4:=Om;have e5:Hg n 4=n:=by
    unfold Hg;exact Nat.mod_eq_of_lt (by have:(2:Nat)^(8*4)=4294967296:=rfl;omega)
   have b2:((n:Int) !=n)=false:=Sq';have b3:decide (l.length<=0)=false:=Df';rw[e5]
   (have z:=Za C<|Za M<|Za O<|Za b2<|Za b3 N;push_cast[z]<;>repeat' (first|refine Zc V ?_|apply Za)<;>push_cast[z])
   all_goals first|omega|exact LE _|skip
def FX(x:Lua):Lua:=Un (1::x)
def c_firstN:A0 prog 116 [.slice [[.func (.func 115) [.val (.int .u8 1)] []]] false] (iD 0):=
 ZF [(115,[.val (.int .u8 1)],[])] Sq' λx C=>by
  cases A2b.1 C;exact⟨Wd,rfl,rfl⟩
def c_Frame(x:Lua)(U:x.length<=1048575)(h0:0<x.length):A0 prog 73 [.val (.int .u8 1),.slice (x.map byD) false] (.tup [.slice ((FX x).map byD) false,iD 0]):=by
 have M:=B9 x;have h1:=c_firstN;have h2:=c_joined x Om h0;have C:=c_Seal (1::x) So' Sq';have N:=B9 (1::x);have O:=B9 (FX x);change A0 _ _ _ (.slice ((FX x).map byD) false) at C;generalize(1::x).map byD=Y at*;refine Zf [] ?_
 (have z:=Za M<|Za N O;push_cast[z]<;>repeat' (first|refine Zq h1 ?_ ?_|refine Zc h2 ?_|refine Zc C ?_|apply Za)<;>push_cast[z])
def c_body1(x:Lua):A0 prog 120 [.ptr [.val (.int .u8 1),.slice (x.map byD) false] 0,.ptr [.val (.int .u8 1)] 0] (iD 0):=by
 have C:=B9 x;have h:=c_like1;refine Zf [] ?_
 (have z:=C;push_cast[z]<;>repeat' (first|refine Zc h ?_|apply Za)<;>push_cast[z])
def c_first2(x:Lua):A0 prog 116 [.slice [[.func (.func 115) [.val (.int .u8 1)] []],[.func (.func 120) [] [.ptr [.val (.int .u8 1),.slice (x.map byD) false] 0,.ptr [.val (.int .u8 1)] 0]]] false] (iD 0):=
 ZF [(115,[.val (.int .u8 1)],[]),(120,[],[.ptr [.val (.int .u8 1),.slice (x.map byD) false] 0,.ptr [.val (.int .u8 1)] 0])] Sq' λy C=>by
  simp only[A2s,A3b,or_false] at C;have M:=B9 x;rcases C with rfl|rfl
  ·exact⟨Wd,rfl,rfl⟩
  ·exact⟨c_body1 x,rfl,by simp[An,D.pure,M]⟩
def c_read(x:Lua)(hx:x.length<=1048575):A0 prog 119 [.slice ((FX x).map byD) false] (.tup [.agg [.val (.int .u8 1),.slice (x.map byD) false],iD 0]):=by
 have O:=B9 x;have C:=c_Open (1::x) So' Sq';change A0 _ _ [.slice ((FX x).map byD) false] _ at C;have U:=B9 (FX x);have M:(1::x).map byD=byD 1::x.map byD:=rfl;rw[M,Qp] at C;generalize(FX x).map byD=Z at*;have N:=LE (1::x);rw[M,Qp] at N;have V:((↑x.length+1:Int)==0)=false:=beq_false_of_ne Om;have Y:(x.map byD).length=x.length:=A2k byD;have tk:(x.map byD).take ((↑x.length+1:Int).toNat-1)=x.map byD:=A2g Om;refine Zf [] ?_
 (have z:=Za O<|Za U<|Za V<|Za tk Y;push_cast[z]<;>repeat' (first|refine Zc C ?_|exact Zo|apply Za)<;>push_cast[z])
 all_goals first|omega|exact N|exact id|skip
def c_Body(x:Lua)(C:x.length<=1048575):A0 prog 74 [.val (.int .u8 1),.slice ((FX x).map byD) false] (.tup [.slice (x.map byD) false,iD 0]):=by
 have M:=B9 x;have h1:=c_read x C;have h2:=c_first2 x;have N:=B9 (FX x);generalize(FX x).map byD=Z at*;refine Zf [0,64] ?_
 (have z:=Za M N;push_cast[z]<;>repeat' (first|refine Zc h1 ?_|refine Zq h2 ?_ ?_|apply Za)<;>push_cast[z])
end Go.Ab
namespace Go.Proofs
open Go.Proofs Go.Proofs.Tryz Go.RowKit Go.Shelf
def Tryz.sPI_ren:Go.Shelf.Ren:=⟨fun|174=>359|247=>392|245=>393|287=>415|279=>416|280=>417|281=>418|282=>419|321=>429|322=>430|316=>431|171=>433|205=>432|243=>437|246=>270|283=>342|284=>343|285=>344|286=>345|129=>310|317=>381|318=>382|319=>383|320=>384|337=>399|338=>400|n=>n,fun|9=>9|3=>3|2=>2|75=>347|85=>426|4=>4|167=>474|5=>5|53=>22|175=>475|46=>305|168=>477|37=>49|0=>0|210=>489|21=>21|127=>263|145=>496|143=>494|171=>403|173=>405|212=>444|51=>265|20=>20|213=>445|232=>480|233=>481|80=>197|n=>n,fun|15=>7|16=>8|17=>4|18=>5|19=>6|n=>n⟩
def Tryz.sPI:Go.Proofs.LaysC.n174 prog Tryz.sPI_ren:= {
 mixed:=Kq'
 f129:=func310.trans (congrArg some Kq')
 f171:=func433.trans (congrArg some Kq')
 f174:=func359.trans (congrArg some Kq')
 f205:=func432.trans (congrArg some Kq')
 f243:=func437.trans (congrArg some Kq')
 f245:=func393.trans (congrArg some Kq')
 f246:=func270.trans (congrArg some Kq')
 f247:=func392.trans (congrArg some Kq')
 f279:=func416.trans (congrArg some Kq')
 f280:=func417.trans (congrArg some Kq')
 f281:=func418.trans (congrArg some Kq')
 f282:=func419.trans (congrArg some Kq')
 f283:=func342.trans (congrArg some Kq')
 f284:=func343.trans (congrArg some Kq')
 f285:=func344.trans (congrArg some Kq')
 f286:=func345.trans (congrArg some Kq')
 f287:=func415.trans (congrArg some Kq')
 f316:=func431.trans (congrArg some Kq')
 f317:=func381.trans (congrArg some Kq')
 f318:=func382.trans (congrArg some Kq')
 f319:=func383.trans (congrArg some Kq')
 f320:=func384.trans (congrArg some Kq')
 f321:=func429.trans (congrArg some Kq')
 f322:=func430.trans (congrArg some Kq')
 f337:=func399.trans (congrArg some Kq')
 f338:=func400.trans (congrArg some Kq')
 t0:=underlying0
 a0:=isAgg0
 z0:=sizeOf0
 v0:=zeroValue0
 t2:=underlying2
 a2:=isAgg2
 z2:=sizeOf2
 v2:=zeroValue2
 t3:=underlying3
 a3:=isAgg3
 z3:=sizeOf3
 v3:=zeroValue3
 t4:=underlying4
 a4:=isAgg4
 z4:=sizeOf4
 v4:=zeroValue4
 t5:=underlying5
 a5:=isAgg5
 z5:=sizeOf5
 v5:=zeroValue5
 t9:=underlying9
 a9:=isAgg9
 z9:=sizeOf9
 v9:=zeroValue9
 t20:=underlying20
 a20:=isAgg20
 z20:=sizeOf20
 v20:=zeroValue20
 t21:=underlying21
 a21:=isAgg21
 z21:=sizeOf21
 v21:=zeroValue21
 t37:=underlying49
 a37:=isAgg49
 z37:=sizeOf49
 v37:=zeroValue49
 t46:=underlying305
 a46:=isAgg305
 z46:=sizeOf305
 v46:=zeroValue305
 t51:=underlying265
 a51:=isAgg265
 z51:=sizeOf265
 v51:=zeroValue265
 t53:=underlying22
 a53:=isAgg22
 z53:=sizeOf22
 v53:=zeroValue22
 t75:=underlying347
 a75:=isAgg347
 z75:=sizeOf347
 v75:=zeroValue347
 t85:=underlying426
 a85:=isAgg426
 z85:=sizeOf426
 v85:=zeroValue426
 t127:=underlying263
 a127:=isAgg263
 z127:=sizeOf263
 v127:=zeroValue263
 t143:=underlying494
 a143:=isAgg494
 z143:=sizeOf494
 v143:=zeroValue494
 t145:=underlying496
 a145:=isAgg496
 z145:=sizeOf496
 v145:=zeroValue496
 t167:=underlying474
 a167:=isAgg474
 z167:=sizeOf474
 v167:=zeroValue474
 t168:=underlying477
 a168:=isAgg477
 z168:=sizeOf477
 v168:=zeroValue477
 t171:=underlying403
 a171:=isAgg403
 z171:=sizeOf403
 v171:=zeroValue403
 t173:=underlying405
 a173:=isAgg405
 z173:=sizeOf405
 v173:=zeroValue405
 t175:=underlying475
 a175:=isAgg475
 z175:=sizeOf475
 v175:=zeroValue475
 t210:=underlying489
 a210:=isAgg489
 z210:=sizeOf489
 v210:=zeroValue489
 t212:=underlying444
 a212:=isAgg444
 z212:=sizeOf444
 v212:=zeroValue444
 t213:=underlying445
 a213:=isAgg445
 z213:=sizeOf445
 t232:=underlying480
 a232:=isAgg480
 z232:=sizeOf480
 v232:=zeroValue480
 t233:=underlying481
 a233:=isAgg481
 z233:=sizeOf481
 v233:=zeroValue481
 g15:=Kq'
 g16:=Kq'
 g17:=Kq'
 g18:=Kq'
 g19:=Kq'
 t80:=underlying197
 a80:=isAgg197
 z80:=sizeOf197
 v80:=zeroValue197
 i0:=Kq'
 i2:=Kq'
 i3:=Kq'
 i4:=Kq'
 i5:=Kq'
 i9:=Kq'
 i20:=Kq'
 i21:=Kq'
 i37:=Kq'
 i46:=Kq'
 i51:=Kq'
 i53:=Kq'
 i75:=Kq'
 i80:=Kq'
 i85:=Kq'
 i127:=Kq'
 i143:=Kq'
 i145:=Kq'
 i167:=Kq'
 i168:=Kq'
 i171:=Kq'
 i173:=Kq'
 i175:=Kq'
 i210:=Kq'
 i212:=Kq'
 i232:=Kq'
 i233:=Kq'
 m15:=Kq'
 m16:=Kq'
 m17:=Kq'
 m18:=Kq'
 m19:=Kq'
 c0:=Kq'
 c2:=Kq'
 c3:=Kq'
 c4:=Kq'
 c5:=Kq'
 c9:=Kq'
 c20:=Kq'
 c21:=Kq'
 c37:=Kq'
 c46:=Kq'
 c51:=Kq'
 c53:=Kq'
 c75:=Kq'
 c80:=Kq'
 c85:=Kq'
 c127:=Kq'
 c143:=Kq'
 c145:=Kq'
 c167:=Kq'
 c168:=Kq'
 c171:=Kq'
 c173:=Kq'
 c175:=Kq'
 c210:=Kq'
 c212:=Kq'
 c213:=Kq'
 c232:=Kq'
 c233:=by kernel_rfl}
end Go.Proofs
namespace Go.Ab
open Go.Proofs Go.Proofs.Tryz Go.RowKit Go.Shelf
variable{X:LLa}{a:Code}{L:List SN}
def pint_ok:TP:=λn h0 h1=>
 A0.of_vals (us:=[.string ⟨(Lib.itoa n).toArray⟩,.int .i64 10,.int .i64 64]) Kq' rfl λw I N O=>⟨.tuple #[.int .i64 n,.nilIface],λ_=>L5 (by simp only[okP,DJ,DK];omega) trivial,by
  have hl:=Lib.itoa_length_le n h0 h1;have:=Any.strconv_ParseInt_10_at64_ok Tryz.sPI ⟨(Lib.itoa n).toArray⟩ (by show(Lib.itoa n).toArray.size<=_;rw[A2A];omega) n (Xi n h0 h1) w;exact this.mono λe w' ⟨C,M⟩=>⟨C,by
   rcases M with rfl|⟨t,rfl⟩
   ·exact Below.refl _ _
   ·exact Lib.below_freeze ((Below.drew (Below.refl _ w)).alloc (A2e _) _) (p:=⟨w.heap.size,_,none⟩) (A2e _) 1⟩⟩
def puF(c:Nat)(l:List SN):Lua:=FX (tv (puO c l))
def tv_pos(c:Nat)(l:List SN):0<(tv (puO c l)).length:=by
 have:tv (puO c l)=123::(ED ((puO c l).obj.map tvm)++[125]):=by rw[J6];rfl
 rw[this];simp
def c_Encode(c:Nat)(l:List SN)(h:KU c l):A0 prog 36 [.agg (HW c l)] (.tup [.slice ((puF c l).map byD) false,iD 0]):=by
 have M:=k_pMay c l h;have N:=A14 c l h;have C:=U5 c l h;have hz:=SS c l h;have hF:=c_Frame (tv (puO c l)) Om (tv_pos c l);change A0 _ _ _ (.tup [.slice ((puF c l).map byD) false,_]) at hF;have hc:=conv_sb (P:=prog) (a:=9) (b:=49) (e:=5) underlying9 underlying49 underlying5 ⟨(tv (puO c l)).toArray⟩ (by show(tv (puO c l)).toArray.size<=_;rw[A2A];omega);have O:=B9 (puF c l);have U:=B9 (tv (puO c l));have Y:Aa ((l.map snN).map AN)=true:=Bk _;unfold TK at C;obtain⟨Z,u2,u3,u4⟩:=Az (puO c l);generalize puF c l=F at*;generalize tv (puO c l)=x at*;generalize A7 (puO c l)=V at*;unfold HW at*;generalize(l.map snN).map AN=L at*;refine Zf [] ?_
 (have z:=Za Z<|Za u2<|Za u3<|Za u4<|Za O<|Za U Y;push_cast[z]<;>repeat' (first|refine Zc M ?_|refine Zc N ?_|refine Zc C ?_|refine Zc hF ?_|with_reducible apply Za|(refine A5.conv (hc) Gda (by first|(push_cast[z];done)|((try push_cast[z]);rfl)) ?_)|fail)<;>push_cast[z])
def c_open(hU:Kt)(c:Nat)(l:List SN)(h:KU c l):A0 prog 38 [.slice ((puF c l).map byD) false] (.tup [.agg (A7 (puO c l)),iD 0]):=by
 have hz:=SS c l h;have C:=c_Body (tv (puO c l)) Om;change A0 _ _ [_,.slice ((puF c l).map byD) false] _ at C;have M:=c_Exact 5 (tv (puO c l)) (puO c l) (v_puO hU pint_ok c l h) Om Om (U5 c l h);have hc:=conv_bs (P:=prog) (a:=49) (b:=9) (e:=5) underlying49 underlying5 underlying9 (tv (puO c l)) false;have N:=B9 (puF c l);have O:=B9 (tv (puO c l));obtain⟨U,Y,Z,u4⟩:=Az (puO c l);generalize puF c l=F at*;generalize tv (puO c l)=x at*;generalize A7 (puO c l)=V at*;refine Zf [] ?_
 (have z:=Za U<|Za Y<|Za Z<|Za u4<|Za N O;push_cast[z]<;>repeat' (first|refine Zc C ?_|refine Zc M ?_|with_reducible apply Za|(refine A5.conv (hc) Gda (by first|(push_cast[z];done)|((try push_cast[z]);rfl)) ?_)|fail)<;>push_cast[z])
abbrev baH(b:Nat)(Y:LLa):Hp:=[(b,.rows Y 20)]
abbrev clQ(c k s:Nat)(tb th:D)(a o n:Nat)(X:LLa):Hp:=(1,clB c k s tb th)::quH a o n X
def c_clPush{a o n:Nat}(h:Kd X o n L)(C k s:Nat)(M N:D)(U:M.pure=true)(b1:AV M=true)(V:N.pure=true)(h1:AV N=true)(a0:0<C)(O nn:Int)(a1:(if(64:Int)<O then 64 else O)=nn)(c:Nat)(hc:c<=n)(a5:0<c)
  (a2:∀i,i<c->(i:Int)<nn/\(L.getD i (0,.put)).1<s) (a3:(c:Int)<nn->c<n->s<=(L.getD c (0,.put)).1) (hP:KU C (L.take c)):
  A4 prog 11 [.ref 1 0 0 6,iD O] ((1,clB C k s M N)::quH a o n X) (.tup [.slice ((puF C (L.take c)).map byD) false,bD true]) ((1,clB C k s M N)::quH a o n X):=by
 have hZ:=HP C a0;have hB:=Wa (a:=a) h nn s c hc a2 a3;have hE:=c_Encode C (L.take c) hP;unfold HW at hE;have Z:=h.pure;have oL:=CA (L.take c);have oF:=B9 (puF C (L.take c));have lL:((L.take c).map C2).length=c:=by have:=h.len;simp;omega
 have c0:((c:Int)==0)=false:=So';change A0 _ _ [.agg [uD' C,.slice (((L.take c).map snN).map AN) false]] _ at hE;rw[A30] at hE;change A0 _ _ [.agg [uD' C,.slice ((L.take c).map C2) false]] _ at hE;generalize(puF C (L.take c)).map byD=F at*;generalize(L.take c).map C2=Y at*;have a4:c<=9223372036854775807:=by have:=h.n1;omega
 have et:Y.take c=Y:=A2g Om;have e0:(if c<=c/\c<=c/\c<=9223372036854775807 then D.slice Y true else .sref 120 0 c c 20)=.slice Y true:=if_pos ⟨A2e _,A2e _,a4⟩;refine Zd [] ?_
 (have z:=Za Z<|Za oL<|Za lL<|Za @a1<|Za et<|Za e0<|Za U<|Za b1<|Za V<|Za h1<|Za c0 oF;push_cast[z]<;>repeat' (first|refine A5.lendZ (clH C k s M N) hZ ?_|refine Zs [(3,3),(5,5)] hB ?_|exact Zo|with_reducible apply Za|(refine A5.giveF (baH 120 Y) _ rfl (by exact hE ..) Gda ?_ ?_ ?_ ?_;(· push_cast[z]<;>(with_unfolding_all exact Ag _));(· push_cast[z]<;>first|exact λ_=>trivial|(with_unfolding_all exact Ag _));(· push_cast[z]))|fail)<;>push_cast[z])<;>try omega
 apply Zw<;>push_cast [Z,oF,U,V]
def A1M{a o n:Nat}(h:Kd X o n L)(C k s:Nat)(M N:D)(U:M.pure=true)(b1:AV M=true)(V:N.pure=true)(h1:AV N=true)(Z:0<C)(O nn:Int)(a0:(if(64:Int)<O then 64 else O)=nn)
  (a1:0<nn->0<n->s<=(L.getD 0 (0,.put)).1):
  A4 prog 11 [.ref 1 0 0 6,iD O] ((1,clB C k s M N)::quH a o n X) (.tup [.slice [] true,bD false]) ((1,clB C k s M N)::quH a o n X):=by
 have hZ:=HP C Z;have hB:=Wa (a:=a) h nn s 0 (A2w _) (λi hi=>Om) a1;have Y:=h.pure;refine Zd [] ?_
 (have z:=Za Y<|Za @a0<|Za U<|Za b1<|Za V h1;push_cast[z]<;>repeat' (first|refine A5.lendZ (clH C k s M N) hZ ?_|refine Zs [(3,3),(5,5)] hB ?_|exact Zo|apply Za)<;>push_cast[z])
 apply Zw<;>push_cast [Y,U,V]
def Kd.cut{o n:Nat}(h:Kd X o n L){d:Nat}(M:d<=n):Kd (AI X o (List.replicate d Ew)) (o+d) (n-d) (L.drop d):=by
 obtain⟨C,V,hl,hn,hr⟩:=h;have N:(AI X o (List.replicate d Ew)).length=X.length:=BC So';refine⟨?_,Om,by rw[A2t,hl],Om,λi hi=>?_⟩
 ·unfold AI;refine F7 (CW _ _ C) (F7 ?_ (CX _ _ C));clear N M
  induction d with
  |zero=>rfl
  |succ d O=>simp only[A3R,Aa,O,A3M];rfl
 ·have e:=hr (d+i) Om;rw[show o+(d+i)=o+d+i by omega] at e;have U:nr (AI X o (List.replicate d Ew)) (o+d+i)=nr X (o+d+i):=by
   unfold AI nr;rw[A29,A29,A3a So',A3a So',A3J];congr 2;simp only[A2x,List.length_replicate];omega
  rw[U,e];simp only[A29,A3J]
def Y9{a o n:Nat}(h:Kd X o n L)(C k N s d:Nat)(P:D)(T M O:GT)(U:D)(oH:U.pure=true)(h1:AV U=true)(a3:0<C)(Z:P.pure=true)(p1:AV P=true)
  (hk:k<N) (a4:N<=1048576) (hd:d<=n) (hn:a+X.length<=1048576)
  (hA:A0 prog 43 [AF T,P] (.tup [AF M,iD 0]))
  (hR:A0 prog 23 [AF M,.slice ((L.drop d).map C2) true] (AF O)):
  A4 prog 15 [.ref 1 0 0 6,rsD C k N (a+d) P] ((1,clB C k s (Ah T) U)::quH a o n X) (iD 0)
   ((1,clB C N s (Ah M) (Ah O))::quH (a+d) (o+d) (n-d) (AI X o (List.replicate d Ew))):=by
 have hZ:=HP C a3;have lN:((X.drop o).take n).length=n:=by have:=h.le;simp;omega
 have V:=h.pure;have oN:=CW n _ (CX o X V);have ho:=h.le;have hF:=c_fits C k N a (a+d) ((X.drop o).take n) oN P Z p1 hk a4 Om Om Om;have hC:=c_qCut a o n d X V ho hn hd;have hq:=h.cut hd;have hL:=c_qAll (a:=a+d) hq;have a0:=hq.pure;have oL:=CA (L.drop d);have lL:((L.drop d).map C2).length=n-d:=by have:=h.len;simp;omega
 have oT:=A6 T;have o1:=Bg T;have a1:=A6 M;have a5:=Bg M;have a2:=A6 O;have a6:=Bg O;simp only[AF] at*;generalize Ah T=tb at*;generalize Ah M=a8 at*;generalize Ah O=a9 at*;generalize(L.drop d).map C2=Y at*;generalize AI X o (List.replicate d Ew)=X' at*;have a7:n-d<=9223372036854775807:=by have:=h.n1;omega
 have et:Y.take (n-d)=Y:=A2g Om;have e0:(if n-d<=n-d/\n-d<=n-d/\n-d<=9223372036854775807 then D.slice Y true else .sref 424 0 (n-d) (n-d) 20)=.slice Y true:=if_pos ⟨A2e _,A2e _,a7⟩;refine Zd [] ?_
 (have z:=Za V<|Za ho<|Za oN<|Za a0<|Za oL<|Za lL<|Za et<|Za e0<|Za oT<|Za o1<|Za a1<|Za a5<|Za a2<|Za a6<|Za oH<|Za h1<|Za Z p1;push_cast[z]<;>repeat' (first|apply Zi<;>intro _|refine A5.lendZ (clH C k s tb U) hZ ?_|refine A5.lendZ (clQ C k s tb U a o n X) hF ?_|refine Zc hA ?_|refine Zs [(3,3),(5,5)] hC ?_|refine Zs [(3,3),(5,5)] hL ?_|exact Zo|with_reducible apply Za|((with_reducible show A5 _ _ _ _ _ _ _ _);refine A5.giveF (baH 424 Y) _ rfl (by exact hR ..) Gda ?_ ?_ ?_ ?_;(· push_cast[z]<;>(with_unfolding_all exact Ag _));(· push_cast[z]<;>first|exact λ_=>trivial|(with_unfolding_all exact Ag _));(· push_cast[z]);try push_cast[z])|fail)<;>push_cast[z])<;>try omega
 apply Zw<;>push_cast [a0,a1,a2]
structure LI(L:List GN):Prop where
 len:L.length<=40
 sm:∀x ∈ L,SmU x.m
 wt:∀x ∈ L,wtU x.m<=1048576
 sz:∀x ∈ L,AY x.m<=1099511627776
abbrev imD(c k a n:Int)(B:Lga)(L:List GN):D:=.agg [uD' c,uD' k,uD' a,uD' n,.slice (B.map A8) false,.slice (L.map AN) false]
abbrev clP(c k s a:Nat)(B H:D)(L:List GN):D:=.ptr [uD' c,uD' k,uD' s,B,H,.ptr [uD' a,.slice (L.map AN) false] 0] 0
def A4s(L:List GN)(h:LI L):A0 prog 52 [.slice (L.map AN) false,.func (.func 53) [] []] (.slice (L.map AN) false):=by
 have a0:=h.len;have C:=Bk L;have N:=H5 (f:=AN) (z:=Ew) Cw (by rfl) L;have V:=Jz AN Ew L;have Z:=H6 AN Ew L (A2e _);have f0:=FJ AN Ew L;refine Zf [26] ?_
 (have z:=C;push_cast[z]<;>repeat' (first|apply Zi<;>intro _|exact Zo|with_reducible apply Za)<;>push_cast[z])<;>try omega
 refine Zl (λi=>i<=L.length) (λi=>⟨[(13,iD i),(12,iD L.length),(11,.slice (L.map AN) false),(5,.sref 26 0 i L.length 20),(1,.func (.func 53) [] [])],[(26,.rows (Gx AN Ew L i) 20)],68⟩) (λi=>L.length-i) 0 (A2w _) ?_ λi hi=>?_
 ·apply Zr [(26,24)] rfl<;>push_cast [f0,C,N]
 ·push_cast[C];refine Ad (λO=>?_) (λO=>?_)
  ·have M:i<L.length:=by simpa using O
   have e1:=SG M;have e2:=JT AN Ew L M;have e3:=H4 AN Ew L zN M;have hT:=Tm (L.getD i zN).id (L.getD i zN).m (h.sm _ (Ae M));have oX:=Cw (L.getD i zN);have lX:=Fc (L.getD i zN);have tX:=QG (L.getD i zN);have aA:=PW (L.getD i zN);have aX:=A2q.1 aA;have w1:IntKind.i64.wrap ((i:Int)+1)=(i:Int)+1:=A9 Om Om;have d1:decide (i+1<=L.length)=true:=Dt';rw[<-Lw] at hT;generalize AN (L.getD i zN)=X at*
   (have z:=Za C<|Za N<|Za e1<|Za e2<|Za w1<|Za d1<|Za oX<|Za lX<|Za tX aA;push_cast[z]<;>repeat' (first|apply Zi<;>intro _|refine Zv hT ?_|exact Zo|with_reducible apply Za)<;>push_cast[z])
   all_goals first|omega|(intro y U;cases A2b.1 U;exact lX)|(intro y U d hd;cases A2b.1 U;exact aX d hd)|skip
   rw[Ui (es:=Gx AN Ew L i) (i:=i) (by rw[V];omega),e3];refine⟨i+1,Om,Om,?_⟩;apply Zw<;>push_cast [C,N]
  ·have M:i=L.length:=by simp at O;omega
   subst M;rw[Z];have lY:(L.map AN).length=L.length:=Sq';clear N V Z f0;generalize L.map AN=Y at*;have c0:(if L.length<=L.length/\L.length<=L.length/\L.length<=9223372036854775807 then D.slice Y true else .sref 26 0 L.length L.length 20)=.slice Y true:=if_pos ⟨A2e _,A2e _,Om⟩;have tY:Y.take L.length=Y:=A2g Om
   (have z:=Za C<|Za lY<|Za tY c0;push_cast[z]<;>repeat' (first|apply Zi<;>intro _|exact Zo|with_reducible apply Za)<;>push_cast[z])<;>try omega
def c_qAllG(a:Nat)(L:List GN)(h:LI L):A0 prog 45 [.ptr [uD' a,.slice (L.map AN) false] 0] (.slice (L.map AN) false):=by
 have hE:=A4s L h;have C:=Bk L;generalize L.map AN=Y at*;refine Zf [] ?_
 (have z:=C;push_cast[z]<;>repeat' (first|refine Zc hE ?_|apply Za)<;>push_cast[z])
def Y8(c k s a:Nat)(hc:0<c)(T:GT)(B:Lga)(M:Dw T B)(hb:B.length<=64)(H:D)(N:H.pure=true)(h1:AV H=true)(L:List GN)(h:LI L)(O:a+L.length<4611686018427387904):
  A0 prog 19 [clP c k s a (Ah T) H L] (imD c k a ((a:Int)+L.length+1) B L):=by
 have U:=NA c hc (uD' k) (uD' s) (Ah T) H (.ptr [uD' a,.slice (L.map AN) false] 0);have hE:=KS T B M Om;have V:=c_qAllG a L h;have hL:=Tp a (.slice (L.map AN) false);have C:=HO a (L.map AN) false (by simpa using O);rw[A2k] at C;have oL:=Bk L;have lL:(L.map AN).length=L.length:=Sq';have oB:Aa (B.map A8)=true:=Ac B;have lB:(B.map A8).length=B.length:=Sq';have oT:=A6 T;have o1:=Bg T;simp only[AF,clP,imD] at*;generalize Ah T=tb at*;generalize L.map AN=Y at*;generalize B.map A8=Z at*;refine Zk [208] λH Hb=>?_
 (have z:=Za oL<|Za oB<|Za lB<|Za oT<|Za o1<|Za N<|Za h1 lL;push_cast[z]<;>repeat' (first|refine Zc U ?_|refine Zc hL ?_|refine Zc C ?_|refine Zs [] hE ?_|refine Zc V ?_|exact Zo|apply Za)<;>push_cast[z])
noncomputable def Ke(p q:GE):Bool:=p.1.toList==q.1.toList&&J2 p.2 q.2==0
noncomputable def CU:Lga->Lga->Bool
 |[],[]=>true
 |p::a,q::b=>Ke p q&&CU a b
 |_,_=>false
def Kf:∀ {a b:Lga},CU a b=true->a.length=b.length
 |[],[],_=>rfl
 |p::a,q::b,h=>by simp only[CU,A2i] at h;simp[Kf h.2]
 |[],_::_,h=>by simp[CU] at h
 |_::_,[],h=>by simp[CU] at h
def QN:∀ {a b:Lga},CU a b=true->∀i,i<a.length->Ke (a.getD i zM) (b.getD i zM)=true
 |[],[],_,i,h=>by simp at h
 |p::a,q::b,h,0,_=>by simp only[CU,A2i] at h;simpa using h.1
 |p::a,q::b,h,i+1,hi=>by simp only[CU,A2i] at h;simpa using QN h.2 i (by simpa using hi)
 |[],_::_,h,_,_=>by simp[CU] at h
 |_::_,[],h,_,_=>by simp[CU] at h
def QM:∀ {a b:Lga},a.length=b.length->(∀i,i<a.length->Ke (a.getD i zM) (b.getD i zM)=true)->CU a b=true
 |[],[],_,_=>rfl
 |p::a,q::b,h,k=>by
  simp only[CU,A2i];exact⟨by simpa using k 0 Sq',QM (by simpa using h) λi hi=>by simpa using k (i+1) (by simpa using hi)⟩
 |[],_::_,h,_=>by simp at h
 |_::_,[],h,_=>by simp at h
def LW{a b:Lga}(h:a.length≠b.length):CU a b=false:=by
 cases hs:CU a b with
 |false=>rfl
 |true=>exact absurd (Kf hs) h
def HU{a b:Lga}{i:Nat}(hi:i<a.length)(h:Ke (a.getD i zM) (b.getD i zM)=false):CU a b=false:=by
 cases hs:CU a b with
 |false=>rfl
 |true=>have:=QN hs i hi;rw[h] at this;cases this
def Kr(a b:Lga):A0 prog 46 [.slice (a.map A8) false,.slice (b.map A8) false] (bD (CU a b)):=by
 refine Zk [] λH Hb=>?_;have h0:=H 0;push_cast at h0;have h1:=H 1;push_cast at h1
 (push_cast<;>repeat' (first|apply Zi<;>intro _|apply Za)<;>push_cast)
 ·rename_i h;have h:=bne_iff_ne.1 h;rw[LW (λe=>h (by rw[e]))]
 ·rename_i hl;have hl:a.length=b.length:=by have:=Cc hl;omega
  refine Zl (λi=>i<=a.length/\∀j,j<i->Ke (a.getD j zM) (b.getD j zM)=true) (λi=>⟨[(5,iD i),(0,.slice (a.map A8) false),(1,.slice (b.map A8) false)],[],0⟩) (λi=>a.length-i) 0 Sq' ?_ λi hi=>?_
  ·apply Zw<;>push_cast
  ·obtain⟨h2,N⟩:=hi;push_cast;refine Ad (λC=>?_) (λC=>?_)
   ·have M:i<a.length:=by simpa using C
    have O:i<b.length:=Om;have U:=Bc M;have V:=Bc O
    (have z:=Za U<|Za V @Aj;push_cast[z]<;>repeat' (first|apply Zi<;>intro _|refine Zc (EY ..) ?_|exact Zo|apply Za)<;>push_cast[z])<;>try omega
    ·rename_i h;exact(HU M (by simp only[Ke,RZ];simp only[A3u,RZ] at h;rw[h];rfl)).symm
    ·rename_i g h;have h:=bne_iff_ne.1 h;exact(HU M (by simp only[Ke];rw[show(J2 (a.getD i zM).2 (b.getD i zM).2==0)=false by simpa using h];simp)).symm
    ·rename_i g h;have h:=Cc h;refine⟨i+1,⟨Om,λj Y=>?_⟩,Om,?_⟩
     ·by_cases Z:j=i
      ·subst Z;simp only[A3A,RZ] at g;simp only[Ke,RZ,g,h];rfl
      ·exact N j Om
     ·apply Zw<;>push_cast;rw[A9 Om Om]
   ·(push_cast<;>repeat' apply Za<;>push_cast)
    have:i=a.length:=by simp at C;omega
    exact(QM hl λj Y=>N j Om).symm
def A0L(a:Int):EI a a=0:=by simp[EI]
def RO:∀a:Lua,BD a a=0
 |[]=>rfl
 |x::a=>by simp[BD,RO a]
def RT(a:Baa):CO a a=0:=RO _
def Mv{α:Type}{f:α->α->Int}:∀ {a:List α},(∀x ∈ a,f x x=0)->Dj f a a=0
 |[],_=>rfl
 |x::a,hf=>by
  simp only[Dj];rw[if_pos (hf x Sq')];exact Mv λx C=>hf x (by simp[C])
def VO:∀(n:Nat) (v:GV),SizeOf.sizeOf v<=n->Kc n v v=0:=by
 intro n
 induction n with
 |zero=>intro v h;cases v;simp at h
 |succ n M=>
  intro v N;rw[BI,if_neg Sq'];split
  ·unfold Ks;simp
  split
  ·exact A0L _
  split
  ·exact RT _
  split
  ·exact Mv λx C=>M x (by have:=GV.list_lt C;omega)
  split
  ·refine Mv λx C=>?_;simp only[JE];rw[if_pos (RT _)];exact M x.2 (by have:=GV.obj_lt C;omega)
  rfl
def cmpG_own(v:GV):J2 v v=0:=VO _ v (A2e _)
def ZM(a:Baa):(a !=a)=false:=by
 show(!(a==a))=false;rw[A3A];cases a;exact beq_self_eq_true (α:=Array UInt8) _
def W8(m:GM)(hs:SmU m):A0 prog 41 [.agg (Ai m),.agg (Ai m)] (bD true):=by
 obtain⟨m1,m2,m3,N⟩:=hs.parts;have O:∀i,i<m.list.length->A0 prog 41 [.agg (Ai (m.list.getD i zU)),.agg (Ai (m.list.getD i zU))] (bD true):=λi hi=>
  have:=GM.list_lt (Ae (d:=zU) hi)
  W8 _ (N _ (Ae hi))
 have U:=EY m.was m.was;have V:=EY m.value m.value;rw[cmpG_own,A3] at U V;rw[KN m];have C:=EQ m.list;have b1:((m.kind:Int) !=m.kind)=false:=Sq';have b2:(m.key !=m.key)=false:=ZM _;have Z:(m.to !=m.to)=false:=ZM _;have b4:(m.n !=m.n)=false:=Sq';have b5:(m.had !=m.had)=false:=Sq';have b6:(m.has !=m.has)=false:=Sq';have b7:((m.list.length:Int) !=m.list.length)=false:=Sq';have a1:∀(x:Oper) (l r:List Oper),List.append (x::l) r=x::List.append l r:=λ_ _ _=>rfl;have a2:∀r:List Oper,List.append [] r=r:=λ_=>rfl;refine Zf [] ?_
 (have z:=Za C<|Za a1<|Za a2<|Za b1<|Za b2<|Za Z<|Za b4<|Za b5<|Za b6 b7;push_cast[z]<;>repeat' (first|refine Zc U ?_|refine Zc V ?_|apply Za)<;>push_cast[z])<;>try omega
 refine Zl (λi=>i<=m.list.length) (λi=>⟨[(5,iD i),(3,.ref 8 0 0 19),(2,.ref 0 0 0 19)],[(0,.rows [mcU m (.slice (m.list.map Ai) false)] 19),(8,.rows [mcU m (.slice (m.list.map Ai) false)] 19)],400⟩) (λi=>m.list.length-i) 0 (A2w _) ?_ λi hi=>?_
 ·apply Zw<;>push_cast [C]
 ·push_cast[C];refine Ad (λY=>?_) (λY=>?_)
  ·have M:i<m.list.length:=by simpa using Y
   have e1:=EV M;have hr:=O i M;have w1:IntKind.i64.wrap ((i:Int)+1)=(i:Int)+1:=A9 Om Om;have oX:=Ax (m.list.getD i zU);have lX:=AB (m.list.getD i zU);have tX:=BQ (m.list.getD i zU);have aX:=C4 (m.list.getD i zU);clear O N;generalize Ai (m.list.getD i zU)=X at*
   (have z:=Za C<|Za e1<|Za oX<|Za lX<|Za tX aX;push_cast[z]<;>repeat' (first|refine Zc (hr ..) ?_|exact Zo|apply Za)<;>push_cast[z])<;>try omega
   refine⟨i+1,M,Om,?_⟩;apply Zw<;>push_cast [C,w1]
  ·(have z:=C;push_cast[z]<;>repeat' apply Za)
termination_by SizeOf.sizeOf m
def RV(L:List GN)(U:∀x ∈ L,SmU x.m)(hn:L.length<=1048576):A0 prog 14 [.slice (L.map AN) false,.slice (L.map AN) false] (bD true):=by
 have C:=Bk L;have V:((L.length:Int) !=L.length)=false:=Sq';refine Zf [] ?_
 (have z:=Za C V;push_cast[z]<;>repeat' apply Za<;>push_cast[z])<;>try omega
 refine Zl (λi=>i<=L.length) (λi=>⟨[(5,iD i),(1,.slice (L.map AN) false),(0,.slice (L.map AN) false)],[],36⟩) (λi=>L.length-i) 0 (A2w _) ?_ λi hi=>?_
 ·apply Zw<;>push_cast [C]
 ·push_cast[C];refine Ad (λN=>?_) (λN=>?_)
  ·have M:i<L.length:=by simpa using N
   have O:=SG M;have Y:=W8 (L.getD i zN).m (U _ (Ae M));have Z:IntKind.i64.wrap ((i:Int)+1)=(i:Int)+1:=A9 Om Om;have b1:((L.getD i zN).id !=(L.getD i zN).id)=false:=Sq';rw[Lw] at O;have oX:=Ax (L.getD i zN).m;have lX:=AB (L.getD i zN).m;have tX:=BQ (L.getD i zN).m;have aX:=C4 (L.getD i zN).m;generalize L.getD i zN=x at*;generalize Ai x.m=X at*
   (have z:=Za C<|Za O<|Za b1<|Za oX<|Za lX<|Za tX aX;push_cast[z]<;>repeat' (first|refine Zc Y ?_|exact Zo|apply Za)<;>push_cast[z])<;>try omega
   refine⟨i+1,M,Om,?_⟩;apply Zw<;>push_cast [C,Z]
  ·(have z:=C;push_cast[z]<;>repeat' apply Za)
def c_same24(x:SN):A0 prog 14 [.slice [C2 x] false,.slice [C2 x] false] (bD true):=
 RV [snN x] (λy C=>by cases A2b.1 C;exact LQ x.2) Sq'
def XG(n:Int)(h:0<=n/\n<=1000000):Ao (vI n)=0:=by
 have h0:Ff (vI n)=false:=by simp[Ff,vI,GV.kind,GV.b,GV.n,GV.s,GV.list,GV.obj,MZ]
 have h1:Bb (vI n) 1=0:=by rw[DW,h0];simp[vI,GV.kind]
 have h2:C9 (vI n)=1:=by rw[JD];simp[vI,GV.kind]
 have C:CN (vI n)<=1024:=by
  have e:CN (vI n)=(Lib.itoa n).length:=by rw[Ep];simp[vI,GV.kind,GV.n]
  rw[e];exact A2N (Lib.itoa_length_le _ Om Om) Dq'
 simp only[Ao,h1,h2];rw[if_neg Sq',if_neg Om,if_neg Om]
def mpI:Option Int->Lga
 |none=>[]
 |some s=>[(tNx,vI s)]
def smI:Option Int->Int
 |none=>0
 |some s=>s
def getI(o:Option Int):Am tNx (mpI o)=o.map vI:=by cases o<;>simp [mpI,Am]
def putI(o:Option Int)(v:GV):B4 (tNx,v) (mpI o)=[(tNx,v)]:=by
 cases o with
 |none=>rfl
 |some s=>simp only[mpI,B4];rw[if_neg (by simp[EL]),if_pos trivial]
def okI(o:Option Int)(h:0<=smI o/\smI o<=1000000):VOk (mpI o):=by
 cases o with
 |none=>exact VOk.nil
 |some s=>exact VOk.nil.put (k:=tNx) (v:=vI s) SU (XG s h) (by exact .mk _ _ _ _ [] [] Sq' Sq' Sq' Sq' (by simp only[smI] at h;omega) Dq' Sq')
def runI(o:Option Int)(n:Int)(h:0<=smI o/\smI o<=100000)(hn:0<=n/\n<=100000):DN (SMu.inc n).m (mpI o)=(0,mpI (some (smI o+n))):=by
 have hc:=SM Ao Mq (SMu.inc n);have C:(AR (Am tNx (mpI o))).n=smI o:=by rw[getI];cases o<;>rfl
 have O:¬((Am tNx (mpI o)).isSome=true/\(AR (Am tNx (mpI o))).kind≠3):=by rw[getI];cases o<;>simp [AR,vI,GV.kind]
 have M:IntKind.i64.wrap (smI o+n)=smI o+n:=A9 Om Om;have N:Es (mpI o) tNx n=vI (smI o+n):=by unfold Es;rw[C,M];rfl
 have U:ovf (AR (Am tNx (mpI o))).n n=false:=by
  unfold ovf;rw[C,M];simp only[Bool.or_eq_false_iff,Bool.and_eq_false_iff,decide_eq_false_iff_not];exact⟨.inr Om,.inl Om⟩
 have V:Gv (mpI o) tNx n (Ao (Es (mpI o) tNx n))=0:=by
  unfold Gv;rw[if_neg O,U,if_neg Sq',N,XG _ Om];unfold BM;rw[if_pos SU]
 have hs:Bv Ao (SMu.inc n).m (mpI o)=(0,mpI (some (smI o+n))):=by
  simp only[SMu.m,Bv];rw[if_neg Dq',if_neg Dq',if_pos trivial,V,if_pos rfl,N,putI];rfl
 unfold DN GL;rw[if_neg (by simpa using hc),hs,if_pos rfl]
def oI(d:Nat):Nat->Option Int
 |0=>none
 |i+1=>some (smI (oI d i)+((d:Int)+i))
def oI_le(d:Nat)(C:d<=100):∀i,i<=101->0<=smI (oI d i)/\smI (oI d i)<=300*i
 |0,_=>by simp[oI,smI]
 |i+1,h=>by
  have:=oI_le d C i Om;simp only[oI,smI] at this|-;omega
def trI(d:Nat)(N:d<=100):∃T:Nat->GT,T 0=.nil/\∀i,i<=100->Dw (T i) (mpI (oI d i))/\A0 prog 34 [AF (T i),.agg (Ai (SMu.inc ((d:Int)+i)).m)] (.tup [AF (T (i+1)),iD 0]):=by
 have step:∀i t,∃C,i<=100->Dw t (mpI (oI d i))->A0 prog 34 [AF t,.agg (Ai (SMu.inc ((d:Int)+i)).m)] (.tup [AF C,iD 0])/\Dw C (mpI (oI d (i+1))):=by
  intro i t;by_cases hh:i<=100/\Dw t (mpI (oI d i))
  ·obtain⟨h0,h1⟩:=hh;have hs:=oI_le d N i Om;obtain⟨C,M,r1,_,_⟩:=run_ok HG h1 (okI _ Om) (by cases oI d i<;>simp [mpI]) (SMu.inc ((d:Int)+i)).m (LQ _) (by have:=Wv (.inc ((d:Int)+i));omega) (by rw[NU];omega);rw[runI _ _ Om Om] at M r1;exact⟨C,λ_ _=>⟨M,r1⟩⟩
  ·exact⟨.nil,λa b=>absurd ⟨a,b⟩ hh⟩
 refine⟨λi=>Nat.rec .nil (λi t=>Classical.choose (step i t)) i,rfl,?_⟩;have key:∀i,i<=100->Dw (Nat.rec (motive:=λ_=>GT) .nil (λi t=>Classical.choose (step i t)) i) (mpI (oI d i)):=by
  intro i
  induction i with
  |zero=>intro _;exact .inl ⟨rfl,rfl⟩
  |succ i O=>
   intro hi;exact(Classical.choose_spec (step i _) Om (O Om)).2
 intro i hi;exact⟨key i hi,(Classical.choose_spec (step i _) hi (key i hi)).1⟩
abbrev opR(n:Int):List D:=[iD 1,sD tNx,iD 3,bD false,iD n,sD bea,.slice [] false,.slice [] false]
def XY(n:Int):A0 prog 130 [.agg (opR n)] (bD false):=by
 refine Zf [] ?_
 (push_cast<;>repeat' apply Za)
def c_pMay1(n:Int)(hn:0<=n/\n<=1000000)(t:Bool):A0 prog 81 [.slice [opR n] t] (iD 0):=by
 have N:=XY n;have C:=My tNx;rw[SU] at C;have hF:=HG (vI n) (by exact .mk _ _ _ _ [] [] Sq' Sq' Sq' Sq' Om Dq' Sq') (by simp[wtV,vI,Ga,J3]);rw[XG n hn,N6] at hF;have M:IntKind.i64.wrap 1=1:=Dq';refine Zf [] ?_
 (push_cast<;>repeat' apply Za<;>push_cast)
 refine Zl (λi=>i<=1) (λi=>⟨[(8,iD i),(7,iD 1),(6,.slice [opR n] t),(0,.slice [opR n] t)],[],68⟩) (λi=>1-i) 0 (A2w _) ?_ λi hi=>?_
 ·apply Zw<;>push_cast
 ·rcases A2K i with rfl|hp
  ·(have z:=M;push_cast[z]<;>repeat' (first|refine Zc N ?_|refine Zc C ?_|refine Zc hF ?_|exact Zo|apply Za)<;>push_cast[z])
   refine⟨1,Om,Om,?_⟩;apply Zw<;>push_cast [M]
  ·obtain rfl:i=1:=Om
   (push_cast<;>repeat' apply Za)
def A1B(n:Int)(hn:0<=n/\n<=1000000)(t:Bool){T:GT}{l:Lga}(h:Dw T l)(hb:l.length<=1000):∃C,A0 prog 43 [AF T,.slice [opR n] t] (.tup [AF C,iD 0])/\Dw C (B4 (tNx,vI n) l):=by
 obtain⟨C,hP,Y⟩:=TZ h Om tNx (vI n) (by exact .mk _ _ _ _ [] [] Sq' Sq' Sq' Sq' Om Dq' Sq');refine⟨C,?_,Y⟩;rw[N6] at hP;have Z:=c_pMay1 n hn t;have M:=A6 T;have O:=Bg T;have N:=A6 C;have U:=Bg C;have V:IntKind.i64.wrap 1=1:=Dq';simp only[AF] at*;generalize Ah T=th at*;generalize Ah C=a0 at*;refine Zf [] ?_
 (have z:=Za M O;push_cast[z]<;>repeat' (first|refine Zc Z ?_|apply Za)<;>push_cast[z])
 refine Zl (λi=>i<=1) (λi=>⟨[(17,iD i),(16,iD 1),(15,.slice [opR n] t),(4,.ref 8 0 0 1),(2,.ref 0 0 0 1)],[(0,.rows [[if i=0 then th else a0]] 1),(8,.rows [[.any]] 1)],68⟩) (λi=>1-i) 0 (A2w _) ?_ λi hi=>?_
 ·apply Zw<;>push_cast [M]
 ·rcases A2K i with rfl|hp
  ·rw[if_pos rfl]
   (have z:=Za M<|Za O<|Za N<|Za U V;push_cast[z]<;>repeat' (first|refine Zc hP ?_|apply Za)<;>push_cast[z])
   refine⟨1,Om,Om,?_⟩;rw[if_neg Dq'];apply Zw<;>push_cast [N,V]
  ·obtain rfl:i=1:=Om;rw[if_neg Dq']
   (have z:=Za N U;push_cast[z]<;>repeat' apply Za)
def c_num(n:Int):A0 prog 16 [iD n] (.agg [iD 3,bD false,iD n,sD bea,.slice [] true,.slice [] true]):=by
 refine Zf [] ?_
 (push_cast<;>repeat' apply Za)
def A0f(p:GE):Ke p p=true:=by
 unfold Ke J2;rw[VO _ _ (A2e _)];simp
def KB:∀a:Lga,CU a a=true
 |[]=>rfl
 |p::a=>by unfold CU;rw[A0f,KB a];rfl
abbrev enH(b:Nat)(Z:LLa):Hp:=[(b,.grow Z 7)]
def c_has(T:GT)(l:Lga)(h:Dw T l)(hb:l.length<=100000):A0 prog 17 [AF T,.slice (l.map A8) false] (bD true):=by
 have hE:=KS T l h Om;have C:=Kr l l;rw[KB] at C;have M:Aa (l.map A8)=true:=Ac l;have N:(l.map A8).length=l.length:=Sq';have O:=A6 T;have U:=Bg T;simp only[AF] at*;generalize Ah T=V at*;generalize l.map A8=Z at*;refine Zf [] ?_
 (have z:=Za O<|Za U<|Za M N;push_cast[z]<;>repeat' (first|refine Zs [] hE ?_|refine A5.lendZ (enH 24 Z) C ?_|apply Za)<;>push_cast[z])
def gsG(b c sz:Nat):D->D
 |.gref b' n=>bif b'==b then .gsub c 0 n sz else .gref b' n
 |d=>d
def rep_gsG{w:World}{I:Nat->Prop}{mu mu':Nat->Option Value}{b c m sz cap:Nat}{A:Option Addr}(hm:∀b x,mu b=some x->mu' b=some x)(hb:mu b=some (.slice A m cap))(U:m<=cap)(hc:mu' c=some (.slice A m cap)){d:D}{v:Value}(C:Rep w I mu d v):Rep w I mu' (gsG b c sz d) v:=by
 have M:=C.mono (λ_ _=>rfl) (λ_ h=>h) hm;cases d with
 |gref N n=>
  simp only[gsG];cases O:(N==b) with
  |true=>
   obtain rfl:N=b:=by simpa using O
   cases C with
   |gref _ _ V cap' h=>
    rw[hb] at h;simp only[A2j,Value.slice.injEq] at h;obtain⟨rfl,rfl,rfl⟩:=h;have:=Rep.gsub (w:=w) (I:=I) c 0 m sz A A m cap hc Om (λ_=>by cases A<;>simp [Addr.add]);rw[Nat.sub_zero] at this;exact this
  |false=>exact M
 |_=>exact M
def Aq.toSub{s:St}{b sz:Nat}{es:LLa}(hb:Ak s.hp b=some (.grow es sz)):Aq s (reS b (gsG b (2*s.nx) sz) (.grow es sz) s):=by
 intro w0 M0 I0 nt I mu a w r;obtain⟨A,cap,T,us,N,g2,g3,C⟩:=r.w.blk b _ hb;have a0:mu (2*s.nx)=none:=r.w.fresh _ ⟨Om,A2e _⟩;have O:=BN (v:=.slice A es.length cap) a0;have a1:es.length<=cap:=by
  rcases C with⟨C,rfl⟩|⟨k,U,V,Y,M,Z,q5⟩
  ·simp[C]
  ·exact M
 refine⟨I,_,r.re (b:=b) (u:=.slice A es.length cap) rfl hb ⟨⟨A,cap,T,us,by simp[AM],g2,g3,?_⟩,λk' hk=>⟨_,N,by cases A with
  |none=>simp [Al] at hk
  |some a=>exact hk⟩,λd v hv=>rep_gsG O N a1 (by simp[AM]) hv⟩⟩
 rcases C with C|⟨k,U,V,Y,M,Z,q5⟩
 ·exact .inl C
 ·exact .inr ⟨k,U,V,Y,M,Z,λi j hi hj=>(q5 i j hi hj).mono (λ_ _=>rfl) (λ_ h=>h) O⟩
def c_is(v:GV):A4 prog 123 [.ref 1 0 0 23,.agg (A7 v),iD v.kind] [] (bD true) []:=by
 rw[A3];refine Zd [] ?_
 (push_cast<;>repeat' apply Za)
 apply Zw<;>push_cast
def Mx(n:Nat)(h:Ex n):A4 prog 124 [.ref 1 0 0 23,.agg (A7 (vI n))] [] (uD' n) []:=by
 have C:=c_is (vI n);have M:IntKind.u64.wrap (n:Int)=n:=by have:=h.2;simp[IntKind.wrap,IntKind.bits,IntKind.signed];omega
 rw[N6] at*;change A4 _ _ [_,_,iD 3] _ _ _ at C;refine Zd [] ?_
 (have z:=M;push_cast[z]<;>repeat' (first|refine Zs [(1,1)] C ?_|apply Za)<;>push_cast[z])
 apply Zw<;>push_cast
abbrev rdR(c:Nat)(l:D)(i:Nat)(U:List D):Blk:=.rows [iD 0:: uD' c::l:: uD' i::U] 23
abbrev ptF(f:Nat):D:=.func (.func f) [.ref 1 0 0 23] []
def RW(Z k2:Baa)(v u:GV)(f1 f2:Nat)(c0 c1 c2 i0 i1 i2:Nat)(l0 l1 l2:LLa)(t0 t1 t2:Bool)(U0 U1 U2:List D)(C:Aa l0=true)(p1:Aa l1=true)(p2:Aa l2=true)(M:An U0=true)(q1:An U1=true)(q2:An U2=true)
  (h1:A4 prog f1 [.ref 1 0 0 23,.agg (A7 v)] [(1,rdR c0 (.slice l0 t0) i0 U0)] (.tup []) [(1,rdR c1 (.slice l1 t1) i1 U1)]) (h2:A4 prog f2 [.ref 1 0 0 23,.agg (A7 u)] [(1,rdR c1 (.slice l1 t1) i1 U1)] (.tup []) [(1,rdR c2 (.slice l2 t2) i2 U2)]):
  A4 prog 76 [.ref 1 0 0 23,.agg (A7 (vO [(Z,v),(k2,u)])),.sref 3 0 2 2 2] [(1,rdR c0 (.slice l0 t0) i0 U0),(3,.rows [[sD Z,ptF f1],[sD k2,ptF f2]] 2)] (.tup []) [(1,rdR c2 (.slice l2 t2) i2 U2)]:=by
 have hI:=c_is (vO [(Z,v),(k2,u)]);rw[PQ] at*;change A4 _ _ [_,_,iD 6] _ _ _ at hI;simp only[A2m,A2E,Aj] at*;obtain⟨N,x2,x3,x4⟩:=Az v;obtain⟨O,y2,y3,y4⟩:=Az u;generalize A7 v=V at*;generalize A7 u=W at*;have U:IntKind.i64.wrap 1=1:=Dq';have Y:IntKind.i64.wrap 2=2:=Dq';refine Zd [] ?_
 (have z:=Za N<|Za x2<|Za x3<|Za x4<|Za O<|Za y2<|Za y3<|Za y4<|Za C<|Za p1<|Za p2<|Za M<|Za q1 q2;push_cast[z]<;>repeat' (first|refine Zs [(1,1)] hI ?_|exact Zo|apply Za)<;>push_cast[z])
 refine Zl (λi=>i<=2) (λi=>⟨[(25,iD i),(24,iD 2),(23,.sref 3 0 2 2 2),(0,.ref 1 0 0 23),(2,.sref 3 0 2 2 2),(4,.ref 8 0 0 6)],[(1,rdR c0 (.slice l0 t0) i0 U0),(3,.rows [[sD Z,ptF f1],[sD k2,ptF f2]] 2),(8,vB 6 (.slice [] false) (.slice [sD Z::V,sD k2::W] false))],400⟩) (λi=>2-i) 0 Sq' ?_ λi hi=>?_
 ·apply Zw<;>push_cast [N,O,C,M];all_goals rfl
 ·obtain rfl|rfl|rfl:i=0\/i=1\/i=2:=Om
  ·simp only[Int.ofNat_zero,Int.natCast_zero]
   (have z:=Za N<|Za x2<|Za x3<|Za x4<|Za O<|Za y2<|Za y3<|Za y4<|Za C<|Za p1<|Za p2<|Za M<|Za q1<|Za q2<|Za U Y;push_cast[z]<;>repeat' (first|exact Zo|apply Za)<;>push_cast[z])
   refine⟨1,Dq',Dq',?_⟩;apply Zw<;>push_cast [N,O,C,M,U,Y];all_goals rfl
  ·(have z:=Za N<|Za x2<|Za x3<|Za x4<|Za O<|Za y2<|Za y3<|Za y4<|Za C<|Za p1<|Za p2<|Za M<|Za q1<|Za q2<|Za U Y;push_cast[z]<;>repeat' (first|exact Zo|apply Za)<;>push_cast[z])
   refine⟨2,Dq',Dq',?_⟩;apply Zw<;>push_cast [N,O,C,M,U,Y];all_goals rfl
  ·(have z:=Za N<|Za x2<|Za x3<|Za x4<|Za O<|Za y2<|Za y3<|Za y4<|Za C<|Za p1<|Za p2<|Za M<|Za q1<|Za q2<|Za U Y;push_cast[z]<;>repeat' apply Za<;>push_cast[z])
   refine Zl (λi=>i<=2) (λi=>match i with
    |0=>⟨[(45,iD 0),(44,iD 2),(43,.sref 3 0 2 2 2),(0,.ref 1 0 0 23),(4,.ref 8 0 0 6)],[(1,rdR c0 (.slice l0 t0) i0 U0),(3,.rows [[sD Z,ptF f1],[sD k2,ptF f2]] 2),(8,vB 6 (.slice [] false) (.slice [sD Z::V,sD k2::W] false))],600⟩
    |1=>⟨[(45,iD 1),(44,iD 2),(43,.sref 3 0 2 2 2),(0,.ref 1 0 0 23),(4,.ref 8 0 0 6)],[(1,rdR c1 (.slice l1 t1) i1 U1),(3,.rows [[sD Z,ptF f1],[sD k2,ptF f2]] 2),(8,vB 6 (.slice [] false) (.slice [sD Z::V,sD k2::W] false))],600⟩
    |_=>⟨[(45,iD 2),(44,iD 2),(43,.sref 3 0 2 2 2),(0,.ref 1 0 0 23),(4,.ref 8 0 0 6)],[(1,rdR c2 (.slice l2 t2) i2 U2),(3,.rows [[sD Z,ptF f1],[sD k2,ptF f2]] 2),(8,vB 6 (.slice [] false) (.slice [sD Z::V,sD k2::W] false))],600⟩) (λi=>2-i) 0 Sq' ?_ λi hi=>?_
   ·apply Zw<;>push_cast [N,O,C,M,p1,q1,p2,q2,U,Y];all_goals rfl
   ·obtain rfl|rfl|rfl:i=0\/i=1\/i=2:=Om
    ·simp only
     (have z:=Za N<|Za x2<|Za x3<|Za x4<|Za O<|Za y2<|Za y3<|Za y4<|Za C<|Za p1<|Za p2<|Za M<|Za q1<|Za q2<|Za U Y;push_cast[z]<;>repeat' (first|refine Zt [(1,1)] h1 ?_|exact Zo|apply Za)<;>push_cast[z])
     refine⟨1,Dq',Dq',?_⟩;simp only;apply Zw<;>push_cast [N,O,C,M,p1,q1,p2,q2,U,Y];all_goals rfl
    ·simp only
     (have z:=Za N<|Za x2<|Za x3<|Za x4<|Za O<|Za y2<|Za y3<|Za y4<|Za C<|Za p1<|Za p2<|Za M<|Za q1<|Za q2<|Za U Y;push_cast[z]<;>repeat' (first|refine Zt [(1,1)] h2 ?_|exact Zo|apply Za)<;>push_cast[z])
     refine⟨2,Dq',Dq',?_⟩;simp only;apply Zw<;>push_cast [N,O,C,M,p1,q1,p2,q2,U,Y];all_goals rfl
    ·simp only
     (have z:=Za N<|Za x2<|Za x3<|Za x4<|Za O<|Za y2<|Za y3<|Za y4<|Za C<|Za p1<|Za p2<|Za M<|Za q1<|Za q2<|Za U Y;push_cast[z]<;>repeat' apply Za<;>push_cast[z])
     apply Zw<;>push_cast [N,O,C,M,p1,q1,p2,q2,U,Y]
def Y3(Z k2:Baa)(v u:GV)(f1 f2:Nat)(c0 c1 c2 i0 i1 i2:Nat)(n:Nat)(G:LLa)(U0 U1 U2:List D)(C:Aa G=true)(M:An U0=true)(q1:An U1=true)(q2:An U2=true)
  (h1:A4 prog f1 [.ref 1 0 0 23,.agg (A7 v)] [(1,rdR c0 (.gref 4 n) i0 U0),(4,.grow G 20)] (.tup []) [(1,rdR c1 (.gref 4 n) i1 U1),(4,.grow G 20)]) (h2:A4 prog f2 [.ref 1 0 0 23,.agg (A7 u)] [(1,rdR c1 (.gref 4 n) i1 U1),(4,.grow G 20)] (.tup []) [(1,rdR c2 (.gref 4 n) i2 U2),(4,.grow G 20)]):
  A4 prog 76 [.ref 1 0 0 23,.agg (A7 (vO [(Z,v),(k2,u)])),.sref 3 0 2 2 2] [(1,rdR c0 (.gref 4 n) i0 U0),(4,.grow G 20),(3,.rows [[sD Z,ptF f1],[sD k2,ptF f2]] 2)] (.tup []) [(1,rdR c2 (.gref 4 n) i2 U2),(4,.grow G 20)]:=by
 have hI:=c_is (vO [(Z,v),(k2,u)]);rw[PQ] at*;change A4 _ _ [_,_,iD 6] _ _ _ at hI;simp only[A2m,A2E,Aj] at*;obtain⟨N,x2,x3,x4⟩:=Az v;obtain⟨O,y2,y3,y4⟩:=Az u;generalize A7 v=V at*;generalize A7 u=W at*;have U:IntKind.i64.wrap 1=1:=Dq';have Y:IntKind.i64.wrap 2=2:=Dq';refine Zd [] ?_
 (have z:=Za N<|Za x2<|Za x3<|Za x4<|Za O<|Za y2<|Za y3<|Za y4<|Za C<|Za M<|Za q1 q2;push_cast[z]<;>repeat' (first|refine Zs [(1,1)] hI ?_|exact Zo|apply Za)<;>push_cast[z])
 refine Zl (λi=>i<=2) (λi=>⟨[(25,iD i),(24,iD 2),(23,.sref 3 0 2 2 2),(0,.ref 1 0 0 23),(2,.sref 3 0 2 2 2),(4,.ref 8 0 0 6)],[(1,rdR c0 (.gref 4 n) i0 U0),(4,.grow G 20),(3,.rows [[sD Z,ptF f1],[sD k2,ptF f2]] 2),(8,vB 6 (.slice [] false) (.slice [sD Z::V,sD k2::W] false))],400⟩) (λi=>2-i) 0 Sq' ?_ λi hi=>?_
 ·apply Zw<;>push_cast [N,O,C,M];all_goals rfl
 ·obtain rfl|rfl|rfl:i=0\/i=1\/i=2:=Om
  ·simp only[Int.ofNat_zero,Int.natCast_zero]
   (have z:=Za N<|Za x2<|Za x3<|Za x4<|Za O<|Za y2<|Za y3<|Za y4<|Za C<|Za M<|Za q1<|Za q2<|Za U Y;push_cast[z]<;>repeat' (first|exact Zo|apply Za)<;>push_cast[z])
   refine⟨1,Dq',Dq',?_⟩;apply Zw<;>push_cast [N,O,C,M,U,Y];all_goals rfl
  ·(have z:=Za N<|Za x2<|Za x3<|Za x4<|Za O<|Za y2<|Za y3<|Za y4<|Za C<|Za M<|Za q1<|Za q2<|Za U Y;push_cast[z]<;>repeat' (first|exact Zo|apply Za)<;>push_cast[z])
   refine⟨2,Dq',Dq',?_⟩;apply Zw<;>push_cast [N,O,C,M,U,Y];all_goals rfl
  ·(have z:=Za N<|Za x2<|Za x3<|Za x4<|Za O<|Za y2<|Za y3<|Za y4<|Za C<|Za M<|Za q1<|Za q2<|Za U Y;push_cast[z]<;>repeat' apply Za<;>push_cast[z])
   refine Zl (λi=>i<=2) (λi=>match i with
    |0=>⟨[(45,iD 0),(44,iD 2),(43,.sref 3 0 2 2 2),(0,.ref 1 0 0 23),(4,.ref 8 0 0 6)],[(1,rdR c0 (.gref 4 n) i0 U0),(4,.grow G 20),(3,.rows [[sD Z,ptF f1],[sD k2,ptF f2]] 2),(8,vB 6 (.slice [] false) (.slice [sD Z::V,sD k2::W] false))],600⟩
    |1=>⟨[(45,iD 1),(44,iD 2),(43,.sref 3 0 2 2 2),(0,.ref 1 0 0 23),(4,.ref 8 0 0 6)],[(1,rdR c1 (.gref 4 n) i1 U1),(4,.grow G 20),(3,.rows [[sD Z,ptF f1],[sD k2,ptF f2]] 2),(8,vB 6 (.slice [] false) (.slice [sD Z::V,sD k2::W] false))],600⟩
    |_=>⟨[(45,iD 2),(44,iD 2),(43,.sref 3 0 2 2 2),(0,.ref 1 0 0 23),(4,.ref 8 0 0 6)],[(1,rdR c2 (.gref 4 n) i2 U2),(4,.grow G 20),(3,.rows [[sD Z,ptF f1],[sD k2,ptF f2]] 2),(8,vB 6 (.slice [] false) (.slice [sD Z::V,sD k2::W] false))],600⟩) (λi=>2-i) 0 Sq' ?_ λi hi=>?_
   ·apply Zw<;>push_cast [N,O,C,M,q1,q2,U,Y];all_goals rfl
   ·obtain rfl|rfl|rfl:i=0\/i=1\/i=2:=Om
    ·simp only
     (have z:=Za N<|Za x2<|Za x3<|Za x4<|Za O<|Za y2<|Za y3<|Za y4<|Za C<|Za M<|Za q1<|Za q2<|Za U Y;push_cast[z]<;>repeat' (first|refine Zt [(1,1),(4,4)] h1 ?_|exact Zo|apply Za)<;>push_cast[z])
     refine⟨1,Dq',Dq',?_⟩;simp only;apply Zr [(4,1324)] rfl<;>push_cast [N,O,C,M,q1,q2,U,Y];all_goals rfl
    ·simp only
     (have z:=Za N<|Za x2<|Za x3<|Za x4<|Za O<|Za y2<|Za y3<|Za y4<|Za C<|Za M<|Za q1<|Za q2<|Za U Y;push_cast[z]<;>repeat' (first|refine Zt [(1,1),(4,4)] h2 ?_|exact Zo|apply Za)<;>push_cast[z])
     refine⟨2,Dq',Dq',?_⟩;simp only;apply Zr [(4,1324)] rfl<;>push_cast [N,O,C,M,q1,q2,U,Y];all_goals rfl
    ·simp only
     (have z:=Za N<|Za x2<|Za x3<|Za x4<|Za O<|Za y2<|Za y3<|Za y4<|Za C<|Za M<|Za q1<|Za q2<|Za U Y;push_cast[z]<;>repeat' apply Za<;>push_cast[z])
     apply Zw<;>push_cast [N,O,C,M,q1,q2,U,Y]
def A1z(c M i:Nat)(h:Ex c)(l:LLa)(t:Bool)(U:List D)(p:Aa l=true)(q:An U=true):A4 prog 77 [.ref 1 0 0 23,.agg (A7 (vI c))] [(1,rdR M (.slice l t) i U)] (.tup []) [(1,rdR c (.slice l t) i U)]:=by
 have N:=Mx c h;obtain⟨C,O,Y,Z⟩:=Az (vI c);generalize A7 (vI c)=V at*;refine Zd [] ?_
 (have z:=Za p<|Za q<|Za C<|Za O<|Za Y Z;push_cast[z]<;>repeat' (first|refine Zs [(1,1)] N ?_|apply Za)<;>push_cast[z])
 apply Zw<;>push_cast [p,q,C]
def c_rId(c i M:Nat)(h:Ex i)(l:LLa)(t:Bool)(U:List D)(p:Aa l=true)(q:An U=true):A4 prog 126 [.ref 1 0 0 23,.agg (A7 (vI i))] [(1,rdR c (.slice l t) M U)] (.tup []) [(1,rdR c (.slice l t) i U)]:=by
 have N:=Mx i h;obtain⟨C,O,Y,Z⟩:=Az (vI i);generalize A7 (vI i)=V at*;refine Zd [] ?_
 (have z:=Za p<|Za q<|Za C<|Za O<|Za Y Z;push_cast[z]<;>repeat' (first|refine Zs [(1,1)] N ?_|apply Za)<;>push_cast[z])
 apply Zw<;>push_cast [p,q,C]
def c_rIdG(c i M n:Nat)(h:Ex i)(G:LLa)(U:List D)(p:Aa G=true)(q:An U=true):A4 prog 126 [.ref 1 0 0 23,.agg (A7 (vI i))] [(1,rdR c (.gref 4 n) M U),(4,.grow G 20)] (.tup []) [(1,rdR c (.gref 4 n) i U),(4,.grow G 20)]:=by
 have N:=Mx i h;obtain⟨C,O,Y,Z⟩:=Az (vI i);generalize A7 (vI i)=V at*;refine Zd [] ?_
 (have z:=Za p<|Za q<|Za C<|Za O<|Za Y Z;push_cast[z]<;>repeat' (first|refine Zs [(1,1)] N ?_|apply Za)<;>push_cast[z])
 apply Zw<;>push_cast [p,q,C]
def OfOk:Prop:=∀m:SMu,m.ok->A0 prog 202 [.agg (A7 m.o)] (.tup [.agg (Ai m.m),iD 0])
def c_rMut(Y:OfOk)(m:SMu)(hm:m.ok)(c i:Nat)(l:LLa)(t:Bool)(U:List D)(p:Aa l=true)(q:An U=true)(Z:U.length=19):A4 prog 127 [.ref 1 0 0 23,.agg (A7 m.o)] [(1,rdR c (.slice l t) i U)] (.tup []) [(1,rdR c (.slice l t) i (Ai m.m))]:=by
 have hF:=Y m hm;obtain⟨C,x2,x3,x4⟩:=Az m.o;obtain⟨M,N,y3,y4⟩:=K0 m.m;have O:U.drop 19=[]:=A2v Om;generalize A7 m.o=V at*;generalize Ai m.m=W at*;refine Zd [] ?_
 (have z:=Za p<|Za q<|Za Z<|Za O<|Za C<|Za x2<|Za x3<|Za x4<|Za M<|Za N<|Za y3 y4;push_cast[z]<;>repeat' (first|refine Zc hF ?_|apply Za)<;>push_cast[z])
 apply Zw<;>push_cast [p,q,C,M,N,O,A2y]
def c_rMutG(Y:OfOk)(m:SMu)(hm:m.ok)(c i n:Nat)(G:LLa)(U:List D)(p:Aa G=true)(q:An U=true)(Z:U.length=19):A4 prog 127 [.ref 1 0 0 23,.agg (A7 m.o)] [(1,rdR c (.gref 4 n) i U),(4,.grow G 20)] (.tup []) [(1,rdR c (.gref 4 n) i (Ai m.m)),(4,.grow G 20)]:=by
 have hF:=Y m hm;obtain⟨C,x2,x3,x4⟩:=Az m.o;obtain⟨M,N,y3,y4⟩:=K0 m.m;have O:U.drop 19=[]:=A2v Om;generalize A7 m.o=V at*;generalize Ai m.m=W at*;refine Zd [] ?_
 (have z:=Za p<|Za q<|Za Z<|Za O<|Za C<|Za x2<|Za x3<|Za x4<|Za M<|Za N<|Za y3 y4;push_cast[z]<;>repeat' (first|refine Zc hF ?_|apply Za)<;>push_cast[z])
 apply Zw<;>push_cast [p,q,C,M,N,O,A2y]
def itR(c:Nat)(L:List SN):Nat->Hp
 |0=>[(1,rdR c (.slice [] true) 0 (Ai (GM.mk 0 bea bea 0 false zV false zV [])))]
 |j+1=>[(1,rdR c (.gref 4 (j+1)) (L.getD j zS).1 (Ai (L.getD j zS).2.m)),(4,.grow ((L.take (j+1)).map λx=>AN (snN x)) 20)]
def itH(a b:Code)(c:Nat)(L:List SN)(i:Nat):Hp:=(7,.loop [(2,.ptr [.ref 1 0 0 23] 0)] 46 .ready none [11] a b)::itR c L i
def Ln(a b:Code)(c:Nat)(L:List SN):itH a b c L 0=[(7,.loop [(2,.ptr [.ref 1 0 0 23] 0)] 46 .ready none [11] a b),(1,rdR c (.slice [] true) 0 (Ai (GM.mk 0 bea bea 0 false zV false zV [])))]:=rfl
def Er(a b:Code)(c:Nat)(L:List SN)(j:Nat):itH a b c L (j+1)=[(7,.loop [(2,.ptr [.ref 1 0 0 23] 0)] 46 .ready none [11] a b),(1,rdR c (.gref 4 (j+1)) (L.getD j zS).1 (Ai (L.getD j zS).2.m)),(4,.grow ((L.take (j+1)).map λx=>AN (snN x)) 20)]:=rfl
def c_items(V:List D)(C:An V=true)(M:V.length=6)(N:V.all AV=true):A0 prog 125 [.agg V] (.func (.func 201) [] [.ptr V 0]):=by
 refine Zf [0] ?_
 (have z:=Za C<|Za M N;push_cast[z]<;>repeat' apply Za)
def Wi{b:Code}(c:Nat)(L:List SN)(hl:L.length<=64)(hY:∀i,i<L.length->DG prog 7 [.agg (A7 (snO (L.getD i zS)))] (itH a b c L i) (bD true) (itH a b c L (i+1))):
  A4 prog 201 [.yld 7,.ptr (A7 (vL (L.map snO))) 0] (itH a b c L 0) (.tup []) (itH a b c L L.length):=by
 rw[enc_L];have C:=E8 (L.map snO);have M:((L.map snO).map A7).length=L.length:=Sq';have e1:∀i,i<L.length->nr ((L.map snO).map A7) i=A7 (snO (L.getD i zS)):=λi hi=>by
  simp[nr,A29,hi]
 generalize(L.map snO).map A7=X at*;have z1:=Ax (GM.mk 0 bea bea 0 false zV false zV [])
 conv=>arg 4;rw[Ln]
 refine Zd [] ?_
 (have z:=Za C<|Za M z1;push_cast[z]<;>repeat' (first|apply Zi<;>intro _|exact Zo|with_reducible apply Za)<;>push_cast[z])<;>try omega
 refine Zl (λi=>i<=L.length) (λi=>⟨[(8,iD i),(7,iD L.length),(6,.slice X false),(0,.yld 7)],itH a b c L i,400⟩) (λi=>L.length-i) 0 Sq' ?_ λi hi=>?_
 ·rw[Ln];apply Zw<;>push_cast [C,z1]
 ·by_cases Y:i<L.length
  ·have e2:=e1 i Y;have N:=hY i Y;have b1:decide ((i:Int)<L.length)=true:=Dt';have w1:IntKind.i64.wrap (↑i+1)=↑i+1:=A9 Om Om;obtain⟨x1,x2,x3,x4⟩:=Az (snO (L.getD i zS));generalize A7 (snO (L.getD i zS))=V at*;cases i with
   |zero=>
    rw[Er] at N;rw[Ln] at*;have O:=Ax (L.getD 0 zS).2.m;have U:Aa ((L.take (0+1)).map λx=>AN (snN x))=true:=Aw (λx=>Cw (snN x)) _;have b0:decide ((0:Int)<L.length)=true:=Dt';have w0:IntKind.i64.wrap 1=1:=Dq'
    (have z:=Za C<|Za M<|Za z1<|Za e2<|Za b0<|Za w0<|Za x1<|Za x2<|Za x3<|Za x4<|Za O U;push_cast[z]<;>repeat' (first|apply Zi<;>intro _|exact Zo|with_reducible apply Za|(with_reducible show A5 _ _ _ _ _ _ _ _;refine A5.yield 7 (C6 [(7,7),(1,1)]) rfl ?_ (by(try push_cast[z]);exact N ..) ?_ Gda ?_ ?_ ?_ ?_;(· push_cast[z]);(· push_cast[z]<;>(with_unfolding_all exact Ag _));(· push_cast[z]<;>(with_unfolding_all exact Ag _));(· push_cast[z]<;>(with_unfolding_all exact Ag _));(· push_cast[z]<;>(with_unfolding_all exact Ag _));try push_cast[z])|fail)<;>push_cast[z])<;>try omega
    refine⟨1,Y,Om,?_⟩;rw[Er];apply Zr [(4,860)] rfl<;>push_cast [O,U,C];all_goals rfl
   |succ j=>
    rw[Er] at N;rw[Er] at N;rw[Er] at*;have Z:=Ax (L.getD j zS).2.m;have O:=Ax (L.getD (j+1) zS).2.m;have t0:Aa ((L.take (j+1)).map λx=>AN (snN x))=true:=Aw (λx=>Cw (snN x)) _;have U:Aa ((L.take (j+1+1)).map λx=>AN (snN x))=true:=Aw (λx=>Cw (snN x)) _;have b0:decide ((↑j+1:Int)<L.length)=true:=Dt';have w0:IntKind.i64.wrap (↑j+1+1)=↑j+1+1:=A9 Om Om;have w9:((↑j+1:Int)).toNat=j+1:=Om
    (have z:=Za C<|Za M<|Za z1<|Za e2<|Za b0<|Za w0<|Za w9<|Za x1<|Za x2<|Za x3<|Za x4<|Za Z<|Za O<|Za t0 U;push_cast[z]<;>repeat' (first|apply Zi<;>intro _|exact Zo|with_reducible apply Za|(with_reducible show A5 _ _ _ _ _ _ _ _;refine A5.yield 7 (C6 [(7,7),(1,1),(4,4)]) rfl ?_ (by(try push_cast[z]);exact N ..) ?_ Gda ?_ ?_ ?_ ?_;(· push_cast[z]);(· push_cast[z]<;>(with_unfolding_all exact Ag _));(· push_cast[z]<;>(with_unfolding_all exact Ag _));(· push_cast[z]<;>(with_unfolding_all exact Ag _));(· push_cast[z]<;>(with_unfolding_all exact Ag _));try push_cast[z])|fail)<;>push_cast[z])<;>try omega
    refine⟨j+1+1,Y,Om,?_⟩;rw[Er];apply Zr [(4,860)] rfl<;>push_cast [O,U,C];all_goals rfl
  ·obtain rfl:i=L.length:=Om;have b0:decide ((L.length:Int)<L.length)=false:=Df';cases hn:L.length with
   |zero=>
    rw[hn] at*;rw[Ln]
    (have z:=Za C<|Za M<|Za z1 hn;push_cast[z]<;>repeat' (first|apply Zi<;>intro _|exact Zo|with_reducible apply Za)<;>push_cast[z])
    apply Zw<;>push_cast [z1];all_goals rfl
   |succ j=>
    rw[hn] at*;rw[Er];have Z:=Ax (L.getD j zS).2.m;have t0:Aa ((L.take (j+1)).map λx=>AN (snN x))=true:=Aw (λx=>Cw (snN x)) _;have b1:decide ((↑j+1:Int)<↑j+1)=false:=Df'
    (have z:=Za C<|Za M<|Za z1<|Za b1<|Za Z t0;push_cast[z]<;>repeat' (first|apply Zi<;>intro _|exact Zo|with_reducible apply Za)<;>push_cast[z])
    apply Zw<;>push_cast [Z,t0];all_goals rfl
def c_itemsZ{b:Code}(c:Nat)(L:List SN)(hn:L=[]):A4 prog 201 [.yld 7,.ptr (A7 (vL (L.map snO))) 0] ((7,.loop [(2,.ptr [.ref 1 0 0 23] 0)] 46 .ready none [11] a b)::[(1,rdR c (.slice [] true) 0 (Ai (GM.mk 0 bea bea 0 false zV false zV [])))]) (.tup []) ((7,.loop [(2,.ptr [.ref 1 0 0 23] 0)] 46 .ready none [11] a b)::[(1,rdR c (.slice [] true) 0 (Ai (GM.mk 0 bea bea 0 false zV false zV [])))]):=by
 subst hn;exact Wi (a:=a) (b:=b) c [] Sq' (λi hi=>by simp at hi)
def c_itemsS{b:Code}(c:Nat)(L:List SN)(hl:L.length<=64)(j:Nat)(hn:L.length=j+1)(hY:∀i,i<L.length->DG prog 7 [.agg (A7 (snO (L.getD i zS)))] (itH a b c L i) (bD true) (itH a b c L (i+1))):
  A4 prog 201 [.yld 7,.ptr (A7 (vL (L.map snO))) 0] ((7,.loop [(2,.ptr [.ref 1 0 0 23] 0)] 46 .ready none [11] a b)::[(1,rdR c (.slice [] true) 0 (Ai (GM.mk 0 bea bea 0 false zV false zV [])))]) (.tup []) ((7,.loop [(2,.ptr [.ref 1 0 0 23] 0)] 46 .ready none [11] a b)::[(1,rdR c (.gref 4 (j+1)) (L.getD j zS).1 (Ai (L.getD j zS).2.m)),(4,.grow ((L.take (j+1)).map λx=>AN (snN x)) 20)]):=by
 have h:=Wi c L hl hY;rw[hn] at h;exact h
def Nx:Ai (GM.mk 0 bea bea 0 false zV false zV [])=[iD 0,sD bea,sD bea,iD 0,bD false,iD 0,bD false,iD 0,sD bea,.slice [] false,.slice [] false,bD false,iD 0,bD false,iD 0,sD bea,.slice [] false,.slice [] false,.slice [] false]:=by
 rw[Ay];rfl
def c_rList(hO:OfOk)(c:Nat)(L:List SN)(hl:L.length<=64)(hx:∀x ∈ L,Ex x.1/\x.2.ok):
  A4 prog 78 [.ref 1 0 0 23,.agg (A7 (vL (L.map snO)))] [(1,rdR c (.slice [] true) 0 (Ai (GM.mk 0 bea bea 0 false zV false zV [])))] (.tup []) [(1,rdR c (.slice (L.map λx=>AN (snN x)) false) (match L.length with|0=>0|j+1=>(L.getD j zS).1) (match L.length with|0=>Ai (GM.mk 0 bea bea 0 false zV false zV [])|j+1=>Ai (L.getD j zS).2.m))]:=by
 have hI:=c_is (vL (L.map snO));change A4 _ _ [_,_,iD 5] _ _ _ at hI;obtain⟨C,Z,O,x4⟩:=Az (vL (L.map snO));have hT:=c_items (A7 (vL (L.map snO))) C Z O;have z1:=Ax (GM.mk 0 bea bea 0 false zV false zV []);refine A4.of_awpW func78 rfl ntmps78 Kq' Sq' (congrArg Array.toList results78) ?_;refine Bh.seqV [8] mixed Kq' ?_
 (have z:=Za C<|Za Z<|Za O<|Za x4 z1;push_cast[z]<;>repeat' (first|exact Zo|apply Za)<;>push_cast[z])
 refine Bh.seqV [] mixed Kq' ?_
 (have z:=Za C<|Za Z<|Za O<|Za x4 z1;push_cast[z]<;>repeat' (first|refine Zs [(1,1)] hI ?_|exact Zo|apply Za)<;>push_cast[z])
 refine Bh.seqV [] mixed Kq' ?_
 (have z:=Za C<|Za Z<|Za O<|Za x4 z1;push_cast[z]<;>repeat' (first|refine Zc hT ?_|apply Za)<;>push_cast[z])
 refine Bh.block ?_;cases hn:L.length with
 |zero=>
  refine Bh.range (y:=7) (C6 [(7,72),(1,1)]) (env:=[(2,.ptr [.ref 1 0 0 23] 0)]) (ds:=[.yld 7,.ptr (A7 (vL (L.map snO))) 0]) rfl (c_itemsZ c L (A2D hn)) rfl rfl ?_ ?_ ?_ ?_ ?_ ?_ ?_
  ·push_cast[C,O]
  ·push_cast[C]
  ·push_cast[Cs]
  ·push_cast[Bq,z1]
  ·push_cast[z1]
  ·push_cast[z1]
  ·have a1:=A2D hn;subst a1;push_cast[z1];apply Zw<;>push_cast [z1];all_goals first|rfl|exact id|trace_state
 |succ j=>
  have U:=Ax (L.getD j zS).2.m;have M:Aa ((L.take (j+1)).map λx=>AN (snN x))=true:=Aw (λx=>Cw (snN x)) _;refine Bh.range (y:=7) (C6 [(7,72),(1,1)]) (env:=[(2,.ptr [.ref 1 0 0 23] 0)]) (ds:=[.yld 7,.ptr (A7 (vL (L.map snO))) 0]) rfl (c_itemsS c L hl j hn ?hY) rfl rfl ?_ ?_ ?_ ?_ ?_ ?_ ?_
  case hY=>
   intro i hi;obtain⟨g1,g2⟩:=hx _ (Ae (d:=zS) hi);have zl:=AB (GM.mk 0 bea bea 0 false zV false zV []);obtain⟨v1,v2,v3,v4⟩:=Az (snO (L.getD i zS));obtain⟨w1,w2,w3,w4⟩:=K0 (L.getD i zS).2.m;cases i with
   |zero=>
    have Y:=RW tId DL (vI (L.getD 0 zS).1) (L.getD 0 zS).2.o 126 127 c c c 0 (L.getD 0 zS).1 (L.getD 0 zS).1 [] [] [] true true true (Ai (GM.mk 0 bea bea 0 false zV false zV [])) (Ai (GM.mk 0 bea bea 0 false zV false zV [])) (Ai (L.getD 0 zS).2.m) rfl rfl rfl z1 z1 (Ax _)
     (c_rId c _ 0 g1 [] true _ rfl z1) (c_rMut hO _ g2 c _ [] true _ rfl z1 zl)
    change A4 _ _ [_,.agg (A7 (snO (L.getD 0 zS))),_] _ _ _ at Y;unfold itH itR;refine DG.of_awp Dq' rfl Dq' ?_;simp only[A3n,A3o,A33,A3q,A2h,A2d];refine Zy ?_
    (have z:=Za @DS.eq_1<|Za v1<|Za v2<|Za v3<|Za v4 z1;push_cast[z]<;>repeat' apply Za<;>push_cast[z])
    refine Zy ?_;rw[Nx] at*
    (have z:=Za @DR.eq_1<|Za v1<|Za v2<|Za v3<|Za v4<|Za w1<|Za w2<|Za w3 w4;push_cast[z]<;>repeat' (first|refine Zs [(1,1),(3,128)] Y ?_|exact Zo|apply Za)<;>push_cast[z])
    ·intro y N;cases N
    ·intro y N;cases A2b.1 N;rw[A2l,w2]
    ·have ht:(L.take (0+1)).map (λx=>AN (snN x))=[uD' ((L.getD 0 zS).1:Nat)::Ai (L.getD 0 zS).2.m]:=by
      cases L with
      |nil=>simp at hi
      |cons x l=>rfl
     rw[ht];apply Zr [(4,272)] rfl<;>push_cast [w1];all_goals rfl
   |succ k=>
    have u0:=Ax (L.getD k zS).2.m;have ul:=AB (L.getD k zS).2.m;have u5:(Ai (L.getD k zS).2.m).drop 19=[]:=A2v (by rw[ul];exact A2e _);have V:Aa ((L.take (k+1)).map λx=>AN (snN x))=true:=Aw (λx=>Cw (snN x)) _;have rl:((L.take (k+1)).map λx=>AN (snN x)).length=k+1:=So';have ra:∀y ∈ (L.take (k+1)).map (λx=>AN (snN x)),y.length=20:=λy N=>by obtain⟨x,_,rfl⟩:=A2p.1 N;exact Fc _
    have ht:(L.take (k+1+1)).map (λx=>AN (snN x))=(L.take (k+1)).map (λx=>AN (snN x))++[uD' ((L.getD (k+1) zS).1:Nat)::Ai (L.getD (k+1) zS).2.m]:=by
     rw[A3j,A2F];simp[A29,A2f hi];rfl
    have Y:=Y3 tId DL (vI (L.getD (k+1) zS).1) (L.getD (k+1) zS).2.o 126 127 c c c 0 (L.getD (k+1) zS).1 (L.getD (k+1) zS).1 (k+1) ((L.take (k+1)).map λx=>AN (snN x)) (Ai (GM.mk 0 bea bea 0 false zV false zV [])) (Ai (GM.mk 0 bea bea 0 false zV false zV [])) (Ai (L.getD (k+1) zS).2.m) V z1 z1 (Ax _)
     (c_rIdG c _ 0 _ g1 _ _ V z1) (c_rMutG hO _ g2 c _ _ _ _ V z1 zl)
    change A4 _ _ [_,.agg (A7 (snO (L.getD (k+1) zS))),_] _ _ _ at Y;rw[Er,Er,ht];refine DG.of_awp Dq' rfl Dq' ?_;simp only[A3n,A3o,A33,A3q,A2h,A2d];refine Zy ?_
    (have z:=Za @DS.eq_1<|Za v1<|Za v2<|Za v3<|Za v4<|Za z1<|Za u0<|Za u5 V;push_cast[z]<;>repeat' apply Za<;>push_cast[z])
    refine Zy ?_;rw[Nx] at*
    (have z:=Za @DR.eq_1<|Za v1<|Za v2<|Za v3<|Za v4<|Za w1<|Za w2<|Za w3<|Za w4<|Za u0<|Za ul<|Za u5<|Za V rl;push_cast[z]<;>repeat' (first|refine Zs [(1,1),(4,4),(3,128)] Y ?_|exact Zo|apply Za)<;>push_cast[z])
    ·omega
    ·omega
    ·intro y N;cases A2b.1 N;rw[A2l,w2]
    ·intro z hz d hd;cases A2b.1 hz;rcases A2s.1 hd with rfl|hd
     ·rfl
     ·exact A2q.1 w3 d hd
    ·apply Zr [(4,272)] rfl<;>push_cast [w1,V,rl];all_goals rfl
  ·push_cast[C,O]
  ·push_cast[C]
  ·push_cast[Cs]
  ·push_cast[Bq,z1,U,M]
  ·push_cast[z1,U,M]
  ·push_cast[z1,U,M]
  ·have a0:L.take (j+1)=L:=A2g Om;have lT:((L.take (j+1)).map λx=>AN (snN x)).length=j+1:=by rw[A2k,a0,hn]
   rw[a0] at M lT;rw[a0];push_cast[z1,U,M];refine Aq.trans (Aq.fzB (b:=84) (x:=.grow (L.map λx=>AN (snN x)) 20) rfl) ?_;push_cast[U,M,lT];apply Zw<;>push_cast [U,M,lT];all_goals first|rfl|exact id|trace_state
def c_rWhole(Y:OfOk)(c:Nat)(L:List SN)(h:KU c L):∃(i:Nat) (U:List D),An U=true/\U.length=19/\
  A4 prog 39 [.ref 1 0 0 23,.agg (A7 (puO c L))] [(1,rdR 0 (.slice [] true) 0 (Ai (GM.mk 0 bea bea 0 false zV false zV [])))] (.tup []) [(1,rdR c (.slice (L.map λx=>AN (snN x)) false) i U)]:=by
 obtain⟨i,U,hU1,hU2,C⟩:∃(i:Nat) (U:List D),An U=true/\U.length=19/\A4 prog 78 [.ref 1 0 0 23,.agg (A7 (vL (L.map snO)))] [(1,rdR c (.slice [] true) 0 (Ai (GM.mk 0 bea bea 0 false zV false zV [])))] (.tup []) [(1,rdR c (.slice (L.map λx=>AN (snN x)) false) i U)]:=by
  have C:=c_rList Y c L h.2.1 h.2.2;cases hn:L.length with
  |zero=>rw [hn] at C;exact⟨_,_,Ax _,AB _,C⟩
  |succ j=>rw [hn] at C;exact⟨_,_,Ax _,AB _,C⟩
 refine⟨i,U,hU1,hU2,?_⟩;have z1:=Ax (GM.mk 0 bea bea 0 false zV false zV []);have M:Aa (L.map λx=>AN (snN x))=true:=Aw (λx=>Cw (snN x)) _;have N:=RW Ed Jb (vI c) (vL (L.map snO)) 77 78 0 c c 0 0 i [] [] (L.map λx=>AN (snN x)) true true false _ _ U rfl rfl M z1 z1 hU1 (A1z c 0 0 h.1 [] true _ rfl z1) C;change A4 _ _ [_,.agg (A7 (puO c L)),_] _ _ _ at N;obtain⟨O,Z,v3,v4⟩:=Az (puO c L);generalize A7 (puO c L)=V at*;generalize(L.map λx=>AN (snN x))=X at*;generalize Ai (GM.mk 0 bea bea 0 false zV false zV [])=Z0 at*;refine Zd [] ?_
 (have z:=Za O<|Za Z<|Za v3<|Za v4<|Za z1<|Za M hU1;push_cast[z]<;>repeat' (first|refine Zs [(1,1),(3,80)] N ?_|apply Za)<;>push_cast[z])
 apply Zw<;>push_cast [O,M,hU1]
def c_Decode(hU:Kt)(N:OfOk)(c:Nat)(L:List SN)(h:KU c L):A0 prog 13 [.slice ((puF c L).map byD) false] (.tup [.agg (HW c L),iD 0]):=by
 have hP:=c_open hU c L h;obtain⟨i,U,O,Y,C⟩:=c_rWhole N c L h;have M:=k_pMay c L h;have Z:=B9 (puF c L);have t1:Aa (L.map λx=>AN (snN x))=true:=Aw (λx=>Cw (snN x)) _;obtain⟨v1,v2,v3,v4⟩:=Az (puO c L);unfold HW at*;rw[A30] at*;change A0 _ _ [.agg [uD' c,.slice (L.map λx=>AN (snN x)) false]] _ at M;show A0 _ _ _ (.tup [.agg [uD' c,.slice (L.map λx=>AN (snN x)) false],_]);rw[Nx] at C;generalize A7 (puO c L)=V at*;generalize puF c L=F at*;generalize(L.map λx=>AN (snN x))=X at*;refine Zf [] ?_
 (have z:=Za v1<|Za v2<|Za v3<|Za v4<|Za t1<|Za O<|Za Y Z;push_cast[z]<;>repeat' (first|refine Zc hP ?_|refine Zs [(1,104)] C ?_|refine Zc M ?_|apply Za)<;>push_cast[z])
def NC(a b:Baa×GV):A0 prog 255 [.slice [A8 a,A8 b] false,sD a.1] (.tup [.agg (A7 a.2),bD true]):=by
 rw[Aj,Aj];obtain⟨C,N,O,Y⟩:=Az a.2;obtain⟨M,Z,y3,y4⟩:=Az b.2;generalize A7 a.2=V at*;generalize A7 b.2=U at*;refine Zf [] ?_
 (have z:=Za C M;push_cast[z]<;>repeat' apply Za)
 refine Zl (λ_=>True) (λ_=>⟨[(11,iD 0),(10,iD 2),(9,.slice [sD a.1::V,sD b.1::U] false),(1,sD a.1),(4,.ref 0 0 0 6)],[(0,vB 0 (.slice [] true) (.slice [] true))],400⟩) (λ_=>0) 0 trivial ?_ λ_ _=>?_
 ·apply Zw<;>push_cast [C,M];all_goals rfl
 ·(have z:=Za C<|Za N<|Za O<|Za Y<|Za M<|Za Z<|Za y3 y4;push_cast[z]<;>repeat' apply Za)
def Ts(a b:Baa×GV)(O:decide (a.1=b.1)=false):A0 prog 255 [.slice [A8 a,A8 b] false,sD b.1] (.tup [.agg (A7 b.2),bD true]):=by
 rw[Aj,Aj];obtain⟨C,Y,Z,x4⟩:=Az a.2;obtain⟨M,y2,y3,y4⟩:=Az b.2;generalize A7 a.2=V at*;generalize A7 b.2=U at*;have N:IntKind.i64.wrap 1=1:=Dq';refine Zf [] ?_
 (have z:=Za C M;push_cast[z]<;>repeat' apply Za)
 refine Zl (λi=>i<=1) (λi=>⟨[(11,iD i),(10,iD 2),(9,.slice [sD a.1::V,sD b.1::U] false),(1,sD b.1),(4,.ref 0 0 0 6)],[(0,vB 0 (.slice [] true) (.slice [] true))],400⟩) (λi=>1-i) 0 Sq' ?_ λi hi=>?_
 ·apply Zw<;>push_cast [C,M];all_goals rfl
 ·obtain rfl|rfl:i=0\/i=1:=Om
  ·(have z:=Za C<|Za Y<|Za Z<|Za x4<|Za M<|Za y2<|Za y3<|Za y4<|Za @O N;push_cast[z]<;>repeat' apply Za)
   refine⟨1,Dq',Dq',?_⟩;apply Zw<;>push_cast [C,M,N];all_goals rfl
  ·(have z:=Za C<|Za Y<|Za Z<|Za x4<|Za M<|Za y2<|Za y3<|Za y4<|Za @O N;push_cast[z]<;>repeat' apply Za)
def c_mtext1(k:Baa)(s:Baa)(b:Baa×GV):A0 prog 252 [.slice [A8 (k,vT s),A8 b] false,sD k] (sD s):=by
 have hF:=NC (k,vT s) b;have hm:=EU 9;simp only[Rv] at hF;have C:=Ap (k,vT s);have M:=Ap b;generalize A8 (k,vT s)=A at*;generalize A8 b=B at*;refine Zf [] ?_
 (have z:=Za C M;push_cast[z]<;>repeat' (first|refine Zc hF ?_|refine Zc (hm ..) ?_|apply Za)<;>push_cast[z])
def We(k:Baa)(s:Baa)(a:Baa×GV)(h:decide (a.1=k)=false):A0 prog 252 [.slice [A8 a,A8 (k,vT s)] false,sD k] (sD s):=by
 have hF:=Ts a (k,vT s) h;have hm:=EU 9;simp only[Rv] at hF;have C:=Ap (k,vT s);have M:=Ap a;generalize A8 (k,vT s)=A at*;generalize A8 a=B at*;refine Zf [] ?_
 (have z:=Za C M;push_cast[z]<;>repeat' (first|refine Zc hF ?_|refine Zc (hm ..) ?_|apply Za)<;>push_cast[z])
def c_need1(k l:Baa)(n m:Int)(t:Bool):A0 prog 374 [.slice [nf k n,nf l m] t,sD k] (.tup [iD n,bD true]):=by
 refine Zf [] ?_
 (push_cast<;>repeat' apply Za)
 refine Zl (λ_=>True) (λ_=>⟨[(11,iD 0),(10,iD 2),(9,.slice [nf k n,nf l m] t),(1,sD k)],[],400⟩) (λ_=>0) 0 trivial ?_ λ_ _=>?_
 ·apply Zw<;>push_cast;all_goals rfl
 ·(push_cast<;>repeat' apply Za)
def c_need2(k l:Baa)(n m:Int)(t:Bool)(h:decide (k=l)=false):A0 prog 374 [.slice [nf k n,nf l m] t,sD l] (.tup [iD m,bD true]):=by
 have C:IntKind.i64.wrap 1=1:=Dq';refine Zf [] ?_
 (push_cast<;>repeat' apply Za)
 refine Zl (λi=>i<=1) (λi=>⟨[(11,iD i),(10,iD 2),(9,.slice [nf k n,nf l m] t),(1,sD l)],[],400⟩) (λi=>1-i) 0 Sq' ?_ λi hi=>?_
 ·apply Zw<;>push_cast;all_goals rfl
 ·obtain rfl|rfl:i=0\/i=1:=Om
  ·(have z:=Za h C;push_cast[z]<;>repeat' apply Za)
   refine⟨1,Dq',Dq',?_⟩;apply Zw<;>push_cast [C];all_goals rfl
  ·(have z:=Za h C;push_cast[z]<;>repeat' apply Za)
def A1C(a b:Baa×GV)(C:decide (a.1=b.1)=false)(hb:Sm b.2):A0 prog 316 [.slice [A8 a,A8 b] false,sD b.1] (.tup [.agg (A7 b.2),bD true]):=by
 have hF:=Ts a b C;have M:=JJ b.2 hb;have N:=Ap a;have O:=Ap b;obtain⟨U,Y,Z,x4⟩:=Az b.2;generalize A8 a=A at*;generalize A8 b=B at*;generalize A7 b.2=V at*;refine Zf [] ?_
 (have z:=Za N<|Za O<|Za U<|Za Y<|Za Z x4;push_cast[z]<;>repeat' (first|refine Zc hF ?_|refine Zc M ?_|apply Za)<;>push_cast[z])
def KR(a b:Baa×GV)(t:Bool)(a1:decide (a.1=b.1)=false):A0 prog 322 [.agg (A7 (vO [a,b])),.slice [nf a.1 0,nf b.1 0] t] (.slice [A8 a,A8 b] false):=by
 have hm:=EU 9;have a0:=EU 10;have n1:=c_need1 a.1 b.1 0 0 t;have n2:=c_need2 a.1 b.1 0 0 t a1;have f1:=NC a b;have f2:=Ts a b a1;rw[PQ];simp only[A2m,A2E];rw[Aj,Aj] at*;obtain⟨C,N,O,x4⟩:=Az a.2;obtain⟨M,Y,Z,y4⟩:=Az b.2;generalize A7 a.2=V at*;generalize A7 b.2=U at*;have w1:IntKind.i64.wrap 1=1:=Dq';have w2:IntKind.i64.wrap 2=2:=Dq';refine Zf [] ?_
 (have z:=Za C M;push_cast[z]<;>repeat' (first|refine Zc (hm ..) ?_|apply Za)<;>push_cast[z])
 refine Zl (λi=>i<=2) (λi=>match i with
  |0=>⟨[(21,iD 0),(20,iD 2),(19,.slice [sD a.1::V,sD b.1::U] false),(1,.slice [nf a.1 0,nf b.1 0] t),(5,.slice [] true)],[],400⟩
  |1=>⟨[(21,iD 1),(20,iD 2),(19,.slice [sD a.1::V,sD b.1::U] false),(1,.slice [nf a.1 0,nf b.1 0] t),(5,.gref 48 1)],[(48,.grow [sD a.1::V] 7)],400⟩
  |_=>⟨[(21,iD 2),(20,iD 2),(19,.slice [sD a.1::V,sD b.1::U] false),(1,.slice [nf a.1 0,nf b.1 0] t),(5,.slice [sD a.1::V,sD b.1::U] false)],[],400⟩) (λi=>2-i) 0 Sq' ?_ λi hi=>?_
 ·apply Zw<;>push_cast [C,M];all_goals rfl
 ·obtain rfl|rfl|rfl:i=0\/i=1\/i=2:=Om
  ·simp only
   (have z:=Za C<|Za N<|Za O<|Za x4<|Za M<|Za Y<|Za Z<|Za y4<|Za w1 w2;push_cast[z]<;>repeat' (first|refine Zc (n1 ..) ?_|refine Zc (a0 ..) ?_|apply Za)<;>push_cast[z])
   all_goals first|omega|(simp[N];done)|skip
   refine⟨1,Dq',Dq',?_⟩;simp only;apply Zr [(48,984)] rfl<;>push_cast [C,N,O,x4,M];all_goals rfl
  ·simp only
   (have z:=Za C<|Za N<|Za O<|Za x4<|Za M<|Za Y<|Za Z<|Za y4<|Za w1 w2;push_cast[z]<;>repeat' (first|refine Zc (n2 ..) ?_|refine Zc (a0 ..) ?_|apply Za)<;>push_cast[z])
   all_goals first|omega|(simp[Y];done)|skip
   ·intro z hz d hd;cases A2b.1 hz;rcases A2s.1 hd with rfl|hd
    ·rfl
    ·exact A2q.1 Z d hd
   ·refine⟨2,Dq',Dq',?_⟩;simp only;refine Aq.trans (Aq.fzB (b:=984) (x:=.grow ([sD a.1::V]++[sD b.1::U]) 7) rfl) ?_;push_cast[C,N,O,M,Y,Z];apply Zw<;>push_cast [C,N,O,M,Y,Z];all_goals rfl
  ·simp only
   (have z:=Za C<|Za N<|Za O<|Za x4<|Za M<|Za Y<|Za Z<|Za y4<|Za w1 w2;push_cast[z]<;>repeat' apply Za)
   refine Zl (λi=>i<=2) (λi=>⟨[(45,iD i),(44,iD 2),(43,.slice [nf a.1 0,nf b.1 0] t),(5,.slice [sD a.1::V,sD b.1::U] false)],[],600⟩) (λi=>2-i) 0 Sq' ?_ λi hi=>?_
   ·apply Zw<;>push_cast [C,M];all_goals rfl
   ·obtain rfl|rfl|rfl:i=0\/i=1\/i=2:=Om
    ·(have z:=Za C<|Za N<|Za O<|Za x4<|Za M<|Za Y<|Za Z<|Za y4<|Za w1 w2;push_cast[z]<;>repeat' (first|refine Zc (f1 ..) ?_|refine Zc (a0 ..) ?_|apply Za)<;>push_cast[z])
     refine⟨1,Dq',Dq',?_⟩;apply Zw<;>push_cast [C,M,w1,w2];all_goals rfl
    ·(have z:=Za C<|Za N<|Za O<|Za x4<|Za M<|Za Y<|Za Z<|Za y4<|Za w1 w2;push_cast[z]<;>repeat' (first|refine Zc (f2 ..) ?_|refine Zc (a0 ..) ?_|apply Za)<;>push_cast[z])
     refine⟨2,Dq',Dq',?_⟩;apply Zw<;>push_cast [C,M,w1,w2];all_goals rfl
    ·(have z:=Za C<|Za N<|Za O<|Za x4<|Za M<|Za Y<|Za Z<|Za y4<|Za w1 w2;push_cast[z]<;>repeat' apply Za)
def Nw(k:Int)(a:Baa)(n:Int)(v:GV):Ai (GM.mk k a bea n false zV false v [])=[iD k,sD a,sD bea,iD n,bD false,iD 0,bD false,iD 0,sD bea,.slice [] false,.slice [] false,bD false]++A7 v++[.slice [] false]:=by
 rw[Ay];rfl
def A1y(n:Int):A0 prog 254 [.slice [A8 (tBy,vI n),A8 (CZ,vT tNx)] false] (.agg (Ai (GM.mk 0 tNx bea n false zV false zV []))):=by
 have hF:=NC (tBy,vI n) (CZ,vT tNx);have C:=We CZ tNx (tBy,vI n) (show decide (tBy=CZ)=false by decide);have hm:=EU 9;simp only[N6] at hF;have M:=Ap (tBy,vI n);have N:=Ap (CZ,vT tNx);rw[Nw,enc_Z];generalize A8 (tBy,vI n)=A at*;generalize A8 (CZ,vT tNx)=B at*;refine Zf [] ?_
 (have z:=Za M N;push_cast[z]<;>repeat' (first|refine Zc hF ?_|refine Zc (hm ..) ?_|refine Zc C ?_|exact Zo|apply Za)<;>push_cast[z])
def A1x:A0 prog 315 [.slice [A8 (CZ,vT tK),A8 (Dc,BU)] false] (.agg (Ai (GM.mk 0 tK bea 0 false zV false BU []))):=by
 have C:=A1C (CZ,vT tK) (Dc,BU) Dq' (.mk _ _ _ _ _ _ Dq' Dq' (λ_ h=>by cases h) (λ_ h=>by cases h) Dq' Dq' (λ_ h=>by cases h));have M:=c_mtext1 CZ tK (Dc,BU);have N:=Ap (CZ,vT tK);have O:=Ap (Dc,BU);simp only[Vu] at C;rw[Nw,Vu];generalize A8 (CZ,vT tK)=A at*;generalize A8 (Dc,BU)=B at*;refine Zf [] ?_
 (have z:=Za N O;push_cast[z]<;>repeat' (first|refine Zc M ?_|refine Zc C ?_|apply Za)<;>push_cast[z])
def c_mread(m:SMu):A4 prog 262 [.mref 1,.agg (A7 m.o)] [(1,.map shE 7)] (.agg (Ai m.m)) [(1,.map shE 7)]:=by
 have hn:=Pi;have hm:=EU 12;have ho:∀v:GV,A7 (vO [(Fp,v),(Fo,vT m.name)])=A7 (vO [(Fp,v),(Fo,vT m.name)]):=λ_=>rfl;have h1:=KR (Fp,m.args) (Fo,vT m.name) false (show decide (Fp=Fo)=false by decide);have f1:=NC (Fp,m.args) (Fo,vT m.name);have M:=We Fo m.name (Fp,m.args) (show decide (Fp=Fo)=false by decide);change A0 _ _ [.agg (A7 m.o),_] _ at h1;obtain⟨U,Y,Z,x4⟩:=Az m.o;obtain⟨y1,y2,y3,y4⟩:=Az m.args;have o1:=Ap (Fp,m.args);have o2:=Ap (Fo,vT m.name);generalize A7 m.o=V at*;generalize A8 (Fp,m.args)=A at*;generalize A8 (Fo,vT m.name)=B at*;cases m with
 |inc n=>
  have h2:=KR (tBy,vI n) (CZ,vT tNx) true (show decide (tBy=CZ)=false by decide);change A0 _ _ [.agg (A7 (SMu.inc n).args),_] _ at h2;have C:=A1y n;rw[Nw,enc_Z] at C;rw[PU];have N:=Ap (tBy,vI n);have O:=Ap (CZ,vT tNx);generalize A7 (SMu.inc n).args=W at*;generalize A8 (tBy,vI n)=CC at*;generalize A8 (CZ,vT tNx)=DD at*;change A0 _ _ _ (sD Jc) at M;unfold shE;refine Zd [] ?_
  (have z:=Za hn<|Za U<|Za Y<|Za Z<|Za x4<|Za y1<|Za y2<|Za y3<|Za y4<|Za o1<|Za o2<|Za N O;push_cast[z]<;>repeat' (first|refine Zg h1 ?_ ?_|refine Zc (f1 ..) ?_|refine Zc (M ..) ?_|refine Zc (hm ..) ?_|refine Zc h2 ?_|refine Zv C ?_|exact Zo|apply Za)<;>push_cast[z])
  apply Zw<;>push_cast
 |put=>
  have h2:=KR (CZ,vT tK) (Dc,BU) false (show decide (CZ=Dc)=false by decide);change A0 _ _ [.agg (A7 SMu.put.args),_] _ at h2;have C:=A1x;rw[Nw,Vu] at C;rw[PT];have N:=Ap (CZ,vT tK);have O:=Ap (Dc,BU);generalize A7 SMu.put.args=W at*;generalize A8 (CZ,vT tK)=CC at*;generalize A8 (Dc,BU)=DD at*;change A0 _ _ _ (sD Ja) at M;unfold shE;refine Zd [] ?_
  (have z:=Za hn<|Za U<|Za Y<|Za Z<|Za x4<|Za y1<|Za y2<|Za y3<|Za y4<|Za o1<|Za o2<|Za N O;push_cast[z]<;>repeat' (first|refine Zg h1 ?_ ?_|refine Zc (f1 ..) ?_|refine Zc (M ..) ?_|refine Zc (hm ..) ?_|refine Zc h2 ?_|refine Zv C ?_|exact Zo|apply Za)<;>push_cast[z])
  apply Zw<;>push_cast
def c_Of1(m:SMu)(Z:List D)(z1:An Z=true)(z2:Z.drop 19=[]):A4 prog 281 [.ptr (A7 m.o) 0,.ref 1 0 0 19] [(1,.rows [Z] 19)] (.tup []) [(1,.rows [Ai m.m] 19)]:=by
 have O:=W0;have Y:=c_mread m;obtain⟨C,x2,x3,x4⟩:=Az m.o;obtain⟨M,N,y3,y4⟩:=K0 m.m;generalize A7 m.o=V at*;generalize Ai m.m=U at*;unfold shE at*;refine Zd [] ?_
 (have z:=Za C<|Za x2<|Za x3<|Za x4<|Za M<|Za N<|Za y3<|Za y4<|Za z1 z2;push_cast[z]<;>repeat' (first|refine Zs [] O ?_|refine Zs [(1,8)] Y ?_|exact Zo|apply Za)<;>push_cast[z])
 apply Zw<;>push_cast [C,M,N,z1,z2,A2y]
def Ya(V Z U:List D)(C:An V=true)(z1:An Z=true)(M:An U=true)(h:A4 prog 281 [.ptr V 0,.ref 1 0 0 19] [(1,.rows [Z] 19)] (.tup []) [(1,.rows [U] 19)]):
  A4 prog 65 [.func (.func 281) [] [.ptr V 0,.ref 1 0 0 19]] [(1,.rows [Z] 19)] (iD 0) [(1,.rows [U] 19)]:=by
 refine A4.of_awp_catch [_] func65 rfl ntmps65 Kq' Sq' Dq' (congrArg Array.toList results65) (C6 [(3,8),(1,1)]) [.ref 3 0 0 1] [(2,.ref 3 0 0 1),(0,.func (.func 281) [] [.ptr V 0,.ref 1 0 0 19])] [(3,.rows [[iD 0]] 1),(1,.rows [Z] 19)] (iD 0) [(3,.rows [[iD 0]] 1),(1,.rows [U] 19)] ?_;refine Zy ?_
 (have z:=Za C<|Za z1 M;push_cast[z]<;>repeat' (first|with_reducible apply Za))
 refine(show Wu _ _ _ _ _ _ _ _ _ _ _ _ _ _ _ _ _ from⟨?_,?_,?_,?_,?_,?_,?_,?_,?_,?_⟩)
 ·push_cast[C]
 ·push_cast[C]
 ·push_cast[C]
 ·push_cast[C,Cs]
 ·push_cast[C,z1]
 ·push_cast[C,z1,Bq]
 ·push_cast[C,z1,M]
 ·push_cast[C,z1,M]
 ·refine Zy ?_
  (have z:=Za C<|Za z1 M;push_cast[z]<;>repeat' (first|refine Zt [(1,1)] h ?_|apply Za)<;>push_cast[z])
  refine(show S3 _ _ _ _ _ _ _ _ from⟨C6 [],[.ref 3 0 0 1],_,_,r_catN,?_,?_,?_,?_,?_,iD 0,?_,?_⟩)
  ·push_cast[C]
  ·push_cast[C]
  ·push_cast[C,M,Bq]
  ·push_cast[C,M]
  ·push_cast[C,M]
  ·push_cast[C,M]
  ·push_cast[C,M];apply Zw<;>push_cast [C,M]
 ·push_cast[C,M];apply Zw<;>push_cast [C,M]
def of_ok:OfOk:=λm hm=>by
 have C:=XX m.o (sm_o m hm);rw[may_o m 1 Om] at C;have hY:=Xq m hm;have M:=Ya (A7 m.o) _ (Ai m.m) (Bn _) (Ax _) (Ax _) (c_Of1 m (Ai (GM.mk 0 bea bea 0 false zV false zV [])) (Ax _) (A2v (by rw[AB];exact A2e _)));rw[Nx] at M;obtain⟨N,O,Y,Z⟩:=Az m.o;obtain⟨y1,y2,y3,y4⟩:=K0 m.m;have y5:(Ai m.m).drop 19=[]:=A2v Om;generalize A7 m.o=V at*;generalize Ai m.m=U at*;refine Zf [0] ?_
 (have z:=Za N<|Za O<|Za Y<|Za Z<|Za y1<|Za y2<|Za y3<|Za y4 y5;push_cast[z]<;>repeat' (first|refine Zc C ?_|refine Zs [(1,64)] M ?_|refine Zc hY ?_|apply Za)<;>push_cast[z])
end Go.Ab
