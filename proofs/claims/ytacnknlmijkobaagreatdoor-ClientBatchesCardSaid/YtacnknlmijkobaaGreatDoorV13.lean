/- The layer by which the program is walked, and what its functions do: part 14 of 15. -/
import Derived.Test.YtacnknlmijkobaaGreatDoorV12
set_option maxHeartbeats 4000000
set_option maxRecDepth 20000
set_option linter.unusedVariables false
set_option linter.unusedSimpArgs false
set_option linter.unnecessarySimpa false
set_option linter.unusedSectionVars false
namespace Go.Ab
open Go.Proofs Go.Proofs.Tryz
theorem odd_O(o:List (ByteArray×GV)):Fh (vO o)=false:=by simp[Fh,vO,GV.kind,GV.b,GV.n,GV.s,GV.list,GV.obj,KO]
theorem odd_L(l:List GV):Fh (vL l)=false:=by simp[Fh,vL,GV.kind,GV.b,GV.n,GV.s,GV.list,GV.obj,KO]
theorem odd_I(n:Int):Fh (vI n)=false:=by simp[Fh,vI,GV.kind,GV.b,GV.n,GV.s,GV.list,GV.obj,KO]
theorem odd_T(s:ByteArray):Fh (vT s)=false:=by simp[Fh,vT,GV.kind,GV.b,GV.n,GV.s,GV.list,GV.obj]
theorem may_N(d:Nat)(h:d<=64):Bp Bx d=0:=by
 rw[Eu,Nu];simp[Bx,GV.kind];omega
theorem Zm(n:Int)(d:Nat)(h:d<=64):Bp (vI n) d=0:=by
 rw[Eu,odd_I];simp[vI,GV.kind];omega
theorem V8(s:ByteArray)(d:Nat)(h:d<=64)(hs:AI s=true):Bp (vT s) d=0:=by
 rw[Eu,odd_T];simp[vT,GV.kind,GV.s,hs];omega
theorem may_L(l:List GV)(d:Nat)(h:d<=64)(hl:∀ v ∈ l,Bp v (d+1)=0):Bp (vL l) d=0:=by
 have:∀ m:List GV,(∀ v ∈ m,Bp v (d+1)=0)->Ek m (d+1)=0:=by
  intro m
  induction m with
  |nil=>intro _;simp[Ek]
  |cons v m ih=>intro hm;simp[Ek,hm v (by simp),ih fun w hw=>hm w (by simp[hw])]
 rw[Eu,odd_L];simp[vL,GV.kind,GV.list,this l hl];omega
theorem RS(k l:ByteArray)(v u:GV)(d:Nat)(h:d<=64)(hk:AI k=true)(hl:AI l=true)(hkl:ltS k l=true)(hv:Bp v (d+1)=0)(hu:Bp u (d+1)=0):Bp (vO [(k,v),(l,u)]) d=0:=by
 rw[Eu,odd_O];simp[vO,GV.kind,GV.obj,Gm,hk,hl,hkl,hv,hu];omega
theorem U6:AI tN=true/\AI tK=true/\AI Gz=true/\AI Gx=true/\AI tBy=true/\AI Cp=true/\AI Cz=true/\AI Ei=true/\AI Eh=true/\AI tId=true/\AI CU=true/\AI Dm=true/\AI Gy=true:=by
 refine⟨?_,?_,?_,?_,?_,?_,?_,?_,?_,?_,?_,?_,?_⟩<;>kernel_rfl
theorem Zj(m:SMu)(d:Nat)(h:d<=60):Bp m.args d=0:=by
 obtain⟨q1,q2,q3,q4,q5,q6,q7,q8,q9,q10,q11,q12,q13⟩:=U6
 cases m with
 |inc n=>exact RS _ _ _ _ _ (by omega) q5 q6 (by decide) (Zm _ _ (by omega)) (V8 _ _ (by omega) q1)
 |put=>exact RS _ _ _ _ _ (by omega) q6 q7 (by decide) (V8 _ _ (by omega) q2) (may_N _ (by omega))
theorem may_o(m:SMu)(d:Nat)(h:d<=59):Bp m.o d=0:=by
 obtain⟨q1,q2,q3,q4,q5,q6,q7,q8,q9,q10,q11,q12,q13⟩:=U6
 refine RS _ _ _ _ _ (by omega) q8 q9 (by decide) (Zj m _ (by omega)) ?_
 cases m with
 |inc n=>exact V8 _ _ (by omega) q3
 |put=>exact V8 _ _ (by omega) q4
theorem may_puO(c:Nat)(l:List SN):Bp (puO c l) 1=0:=by
 obtain⟨q1,q2,q3,q4,q5,q6,q7,q8,q9,q10,q11,q12,q13⟩:=U6
 refine RS _ _ _ _ _ (by omega) q12 q13 (by decide) (Zm _ _ (by omega)) (may_L _ _ (by omega) fun v hv=>?_)
 obtain⟨x,hx,rfl⟩:=A0l.1 hv
 exact RS _ _ _ _ _ (by omega) q10 q11 (by decide) (Zm _ _ (by omega)) (may_o x.2 _ (by omega))
theorem pl_I(n:Int):Pl (vI n):=.mk _ (.inr (.inl rfl)) (fun _ h=>by cases h) (fun _ h=>by cases h)
theorem pl_N:Pl Bx:=.mk _ (.inl rfl) (fun _ h=>by cases h) (fun _ h=>by cases h)
theorem pl_T(s:ByteArray):Pl (vT s):=.mk _ (.inr (.inr (.inl rfl))) (fun _ h=>by cases h) (fun _ h=>by cases h)
theorem pl_L(l:List GV)(h:∀ v ∈ l,Pl v):Pl (vL l):=.mk _ (.inr (.inr (.inr (.inl rfl)))) h (fun _ h=>by cases h)
theorem YK{a b:ByteArray×GV}(ha:Pl a.2)(hb:Pl b.2):Pl (vO [a,b]):=.mk _ (.inr (.inr (.inr (.inr rfl)))) (fun _ h=>by cases h) fun p hp=>by
 rcases A0s.1 hp with rfl|hp
 ·exact ha
 ·cases A0d.1 hp;exact hb
theorem pl_o(m:SMu):Pl m.o:=by
 refine YK ?_ (pl_T _)
 cases m with
 |inc n=>exact YK (pl_I n) (pl_T _)
 |put=>exact YK (pl_T _) pl_N
theorem pl_puO(c:Nat)(l:List SN):Pl (puO c l):=YK (pl_I _) (pl_L _ fun v hv=>by
 obtain⟨x,hx,rfl⟩:=A0l.1 hv
 exact YK (pl_I _) (pl_o x.2))
theorem GU(k x l y:List UInt8):(TT k x l y).length=k.length+x.length+l.length+y.length+9:=by
 simp[TT,txt];omega
theorem ZU(m:SMu)(hm:m.ok):(tv m.args).length<=40:=by
 obtain⟨q1,q2,q3,q4,q5,q6,q7,q8,q9,q10,q11,q12,q13⟩:=E4
 cases m with
 |inc n=>
  show(tv (vO [(tBy,vI n),(Cp,vT tN)])).length<=_
  rw[VO _ _ _ _ _ _ q5 q6,tv_I,Y8 _ _ q1,GU]
  have:=Lib.itoa_length_le n hm.1 hm.2
  simp[txt];omega
 |put=>
  show(tv (vO [(Cp,vT tK),(Cz,Bx)])).length<=_
  rw[VO _ _ _ _ _ _ q6 q7,tv_N,Y8 _ _ q2,GU]
  simp[txt]
theorem len_o(m:SMu)(hm:m.ok):(tv m.o).length<=64:=by
 obtain⟨q1,q2,q3,q4,q5,q6,q7,q8,q9,q10,q11,q12,q13⟩:=E4
 have:=ZU m hm
 show(tv (vO [(Ei,m.args),(Eh,vT m.name)])).length<=_
 rw[VO _ _ _ _ _ _ q8 q9,GU]
 cases m with
 |inc n=>rw [show tv (vT (SMu.inc n).name)=_ from Y8 _ _ q3];simp[txt];omega
 |put=>rw [show tv (vT SMu.put.name)=_ from Y8 _ _ q4];simp[txt];omega
theorem len_snO(x:SN)(h1:Dd x.1)(h2:x.2.ok):(tv (snO x)).length<=105:=by
 obtain⟨q1,q2,q3,q4,q5,q6,q7,q8,q9,q10,q11,q12,q13⟩:=E4
 have h3:=len_o x.2 h2
 have:=Lib.itoa_length_le x.1 (by omega) (by have:=h1.2;omega)
 show(tv (vO [(tId,vI x.1),(CU,x.2.o)])).length<=_
 rw[VO _ _ _ _ _ _ q10 q11,tv_I,GU]
 simp;omega
theorem WV(l:List (List UInt8))(b:Nat)(h:∀ x ∈ l,x.length<=b):(Fc l).length<=l.length*(b+1)+1:=by
 induction l with
 |nil=>simp [Fc]
 |cons x l ih=>
  have h1:=h x (by simp)
  have h2:=ih fun y hy=>h y (by simp[hy])
  simp only[Fc,A0g,A04,A0F]
  omega
theorem ZT(l:List (List UInt8))(b:Nat)(h:∀ x ∈ l,x.length<=b):(N5 l).length<=l.length*(b+1)+2:=by
 cases l with
 |nil=>simp [N5]
 |cons x l=>
  have h1:=h x (by simp)
  have h2:=WV l b fun y hy=>h y (by simp[hy])
  simp only[N5,A0g,A04,A0F]
  omega
theorem Q9(c:Nat)(l:List SN)(h:HL c l):(tv (puO c l)).length<=8000:=by
 obtain⟨q1,q2,q3,q4,q5,q6,q7,q8,q9,q10,q11,q12,q13⟩:=E4
 have h1:=Lib.itoa_length_le c (by omega) (by have:=h.1.2;omega)
 have h2:=ZT ((l.map snO).map tv) 105 fun x hx=>by
  obtain⟨v,hv,rfl⟩:=A0l.1 hx
  obtain⟨y,hy,rfl⟩:=A0l.1 hv
  exact len_snO y (h.2.2 y hy).1 (h.2.2 y hy).2
 have h3:=h.2.1
 simp only[A06] at h2
 show(tv (vO [(Dm,vI c),(Gy,vL (l.map snO))])).length<=_
 rw[VO _ _ _ _ _ _ q12 q13,tv_I,tv_L,GU]
 simp only[A0g,A0t]
 omega
theorem QY(c:Nat)(l:List SN)(h:HL c l):QJ (tv (puO c l)) (puO c l):=
 c_Text (puO c l) (sm_puO c l h) (pl_puO c l) rfl (may_puO c l) (by have:=Q9 c l h;omega)
def Kq(r:Int)(n:Nat):Int:=r.fdiv (2^min n IntKind.u32.bits)
def crOdd(r:Int):Bool:=bits .and .u32 r 1==1
def crStep(r:Int):Int:=if crOdd r then bits .xor .u32 (Kq r 1) 3988292384 else Kq r 1
def crI:Nat->Int->Int
 |0,r=>r
 |n+1,r=>crStep (crI n r)
theorem Hf{n:Int}(h:0<=n)(k:n<4294967296):IntKind.u32.wrap n=n:=by
 simp[IntKind.wrap,IntKind.bits,IntKind.signed];omega
theorem Fx{l:List D}:Ag l=true↔∀ x ∈ l,x.pure=true:=by
 induction l with
 |nil=>simp [Ag]
 |cons a l ih=>simp [Ag,ih]
theorem TJ{l:List D}(h:Ag l=true)(n:Nat):Ag (l.take n)=true:=Fx.2 fun x hx=>Fx.1 h x (A1e hx)
theorem TK{l:List D}(h:Ag l=true)(n:Nat):Ag (l.drop n)=true:=Fx.2 fun x hx=>Fx.1 h x (A0P hx)
theorem c_fill(low:Nat)(hl:low<16)(T:List D)(hT:T.length=16)(hp:Ag T=true):A2 prog 335 [.val (.int .u32 low),.ref 1 0 0 16] [(1,.rows [T] 16)] (.tup []) [(1,.rows [Au T low [.val (.int .u32 (crI 4 low))]] 16)]:=by
 refine Zd [] func335 rfl ntmps335 results335 ?_
 (have z:=Za hT hp;(try push_cast[z])<;>repeat' (first|apply Zi<;>intro _|exact Zo|with_reducible apply Za)<;>try push_cast[z])
 refine Zl (fun i=>i<=4) (fun i=>⟨[(6,.val (.int .i64 i)),(3,.val (.int .u32 (crI i low))),(0,.val (.int .u32 low)),(1,.ref 1 0 0 16)],[(1,.rows [T] 16)],400⟩) (fun i=>4-i) 0 (by simp) ?_ fun i hi=>?_
 ·apply Zw<;>push_cast [hp]
  all_goals first|rfl|skip
 ·have w1:IntKind.i64.wrap (↑i+1)=↑i+1:=A9 (by omega) (by omega)
  have e0:(bits .and .u32 (crI i low) 1==1)=crOdd (crI i low):=rfl
  have e1:(crI i low).fdiv (2^min 1 IntKind.u32.bits)=Kq (crI i low) 1:=rfl
  have hs:crI (i+1) low=if crOdd (crI i low) then bits .xor .u32 (Kq (crI i low) 1) 3988292384 else Kq (crI i low) 1:=rfl
  by_cases hi4:i<4
  ·have b0:decide ((i:Int)<4)=true:=decide_eq_true (by omega)
   (have z:=Za hT<|Za hp<|Za w1<|Za b0<|Za e0 e1;(try push_cast[z])<;>repeat' (first|apply Zi<;>intro _|exact Zo|with_reducible apply Za)<;>try push_cast[z])
   all_goals first|omega|skip
   all_goals
    refine⟨i+1,hi4,by omega,?_⟩
    rw[hs]
    apply Zw<;>push_cast [hp,e1]
    all_goals first|(rw[if_pos (by assumption)])|(rw[if_neg (by simp;assumption)])|skip
  ·obtain rfl:i=4:=by omega
   (have z:=Za hT hp;(try push_cast[z])<;>repeat' (first|apply Zi<;>intro _|exact Zo|with_reducible apply Za)<;>try push_cast[z])
   all_goals first|omega|skip
   rw[Nat.mul_one]
   have hps:Ag (Au T low [.val (.int .u32 (crI 4 low))])=true:=by
    have h1:=Dr (T.take low) ([D.val (.int .u32 (crI 4 low))]++T.drop (low+1))
    unfold Au
    rw[A18,h1,Dr,TJ hp,TK hp]
    rfl
   generalize Au T low [.val (.int .u32 (crI 4 low))]=U at*
   apply Zw<;>push_cast [hps]
def crL:List Int:=(List.range 16).map fun i:Nat=>crI 4 (i:Int)
def Pz(n:Int):D:=.val (.int .u32 n)
theorem UQ(l:List Int):(l.map Pz).all AN=true:=A0u.2 fun x hx=>by
 obtain⟨y,_,rfl⟩:=A0l.1 hx;rfl
def crT(i:Nat):List D:=(crL.take i).map Pz++List.replicate (16-i) (Pz 0)
theorem JO(i:Nat):Ag (crT i)=true:=Fx.2 fun x hx=>by
 rcases A1t.1 hx with h|h
 ·obtain⟨y,_,rfl⟩:=A0l.1 h;rfl
 ·rw[List.eq_of_mem_replicate h];rfl
theorem MC(i:Nat)(h:i<=16):(crT i).length=16:=by
 simp[crT,crL];omega
theorem crT_set(i:Nat)(h:i<16):Au (crT i) i [.val (.int .u32 (crI 4 i))]=crT (i+1):=by
 have e1:(crL.take i).length=i:=by simp[crL];omega
 have e2:(crT i).take i=(crL.take i).map Pz:=by unfold crT;rw[A1K (by rw[A06,e1])]
 have e3:(crT i).drop (i+1)=List.replicate (16-(i+1)) (Pz 0):=by
  unfold crT
  rw[<-A1R,List.drop_left' (by rw[A06,e1]),List.drop_replicate,Nat.sub_sub]
 have e4:crL.take (i+1)=crL.take i++[crI 4 i]:=by
  rw[A1s]
  congr 1
  have:crL[i]? =some (crI 4 (i:Int)):=by simp only[crL,A0x,List.getElem?_range h];rfl
  rw[this];rfl
 unfold Au
 rw[A18,e2,e3]
 unfold crT
 rw[e4,A0K,A0b]
 rfl
theorem c_steps:A0 prog 295 [] (.agg (crL.map Pz)):=by
 refine Zf [] func295 rfl ntmps295 results295 ?_
 ((try push_cast)<;>repeat' (first|apply Zi<;>intro _|exact Zp|with_reducible apply Za)<;>try push_cast)
 all_goals first|omega|skip
 refine Zl (fun i=>i<=16) (fun i=>⟨[(5,.val (.int .u32 i)),(2,.func (.func 335) [] [.ref 8 0 0 16]),(0,.ref 0 0 0 16),(1,.ref 8 0 0 16)],[(8,.rows [crT i] 16),(0,.rows [crT 0] 16)],400⟩) (fun i=>16-i) 0 (by simp) ?_ fun i hi=>?_
 ·have e0:crT 0=[.val (.int .u32 0),.val (.int .u32 0),.val (.int .u32 0),.val (.int .u32 0),.val (.int .u32 0),.val (.int .u32 0),.val (.int .u32 0),.val (.int .u32 0),.val (.int .u32 0),.val (.int .u32 0),.val (.int .u32 0),.val (.int .u32 0),.val (.int .u32 0),.val (.int .u32 0),.val (.int .u32 0),.val (.int .u32 0)]:=rfl
  rw[e0]
  apply Zw<;>push_cast
 ·have oT:=JO i
  have oZ:=JO 0
  have lT:=MC i hi
  have lZ:=MC 0 (by omega)
  by_cases h16:i<16
  ·have hF:=c_fill i h16 (crT i) lT oT
   rw[crT_set i h16] at hF
   have oT2:=JO (i+1)
   have b0:decide ((i:Int)<16)=true:=decide_eq_true (by omega)
   have w1:IntKind.u32.wrap (↑i+1)=↑i+1:=Hf (by omega) (by omega)
   (have z:=Za oT<|Za oZ<|Za lT<|Za lZ<|Za b0<|Za w1 oT2;(try push_cast[z])<;>repeat' (first|apply Zi<;>intro _|refine Zt [(1,8)] hF ?_|exact Zo|with_reducible apply Za)<;>try push_cast[z])
   all_goals first|omega|skip
   refine⟨i+1,h16,by omega,?_⟩
   apply Zw<;>push_cast [oT2,oZ]
  ·obtain rfl:i=16:=by omega
   have e16:crT 16=crL.map Pz:=by
    unfold crT
    rw[A08 (by simp[crL])]
    simp
   have b0:decide (((16:Nat):Int)<16)=false:=by decide
   generalize crT 0=Z at*
   rw[e16] at oT lT|-
   have aT:=UQ crL
   generalize crL.map Pz=T at*
   have d1:T.take 16=T:=A08 (by omega)
   have d2:T.drop 16=[]:=A0i (by omega)
   have d3:Z.drop 16=[]:=A0i (by omega)
   (have z:=Za oT<|Za oZ<|Za lT<|Za lZ<|Za b0<|Za d1<|Za d2<|Za d3 aT;(try push_cast[z])<;>repeat' (first|apply Zi<;>intro _|exact Zo|with_reducible apply Za)<;>try push_cast[z])
   all_goals first|omega|skip
   all_goals trace_state
theorem c_each(l:List UInt8):A0 prog 296 [.slice (l.map byD) false] (.func (.func 336) [] [.ptr [.slice (l.map byD) false] 0]):=by
 have oL:=AL l
 refine Zf [0] func296 rfl ntmps296 results296 ?_
 (have z:=oL;(try push_cast[z])<;>repeat' (first|apply Zi<;>intro _|exact Zo|with_reducible apply Za)<;>try push_cast[z])
def crD:List D:=crL.map Pz
theorem crD_16:crT 16=crD:=by
 unfold crT crD
 rw[A08 (by simp[crL])]
 simp
theorem Sx:Ag crD=true:=by rw[<-crD_16];exact JO 16
theorem Uq:crD.length=16:=by simp[crD,crL]
theorem crD_all:crD.all AN=true:=UQ crL
theorem c_steps':A0 prog 295 [] (.agg crD):=c_steps
def Sw(r:Int):Int:=crL.getD (bits .and .u32 r 15).toNat 0
def Gp(r:Int):Int:=bits .xor .u32 (Kq r 4) (Sw r)
def Ql(r:Int)(x:UInt8):Int:=Gp (Gp (bits .xor .u32 r (x.toNat:Int)))
def JQ(l:List UInt8)(r:Int):Int:=l.foldl Ql r
theorem and15(r:Int):0<=bits .and .u32 r 15/\bits .and .u32 r 15<16:=by
 have h:(BitVec.ofInt 32 r&&&BitVec.ofInt 32 15).toNat<16:=by
  rw[BitVec.toNat_and]
  exact Nat.lt_of_le_of_lt Nat.and_le_right (by decide)
 unfold bits
 show 0<=IntKind.u32.wrap ((BitVec.ofInt 32 r&&&BitVec.ofInt 32 15).toNat:Int)/\IntKind.u32.wrap ((BitVec.ofInt 32 r&&&BitVec.ofInt 32 15).toNat:Int)<16
 rw[Hf (by omega) (by omega)]
 omega
theorem Z9(r:Int):nd crD (bits .and .u32 r 15).toNat=.val (.int .u32 (Sw r)):=by
 have h:=and15 r
 have hl:(bits .and .u32 r 15).toNat<crL.length:=by simp[crL];omega
 simp only[nd,crD,Sw,A02,A0x,A09 hl]
 rfl
def crH(a c:Code)(r:Int):Hp:=[(7,.loop [(5,.ref 3 0 0 16),(6,.ref 1 0 0 1)] 34 .ready none [13] a c),(1,.rows [[.val (.int .u32 r)]] 1),(3,.rows [crD] 16)]
theorem c_each1{a c:Code}(l:List UInt8)(hl:l.length<=1048576)(r:Int)(hY:∀ (x:UInt8) (r:Int),DA prog 7 [.val (.int .u8 (x.toNat:Int))] (crH a c r) (.val (.bool true)) (crH a c (Ql r x))):
  A2 prog 336 [.yld 7,.ptr [.slice (l.map byD) false] 0] (crH a c r) (.tup []) (crH a c (JQ l r)):=by
 have oL:=AL l
 have e0:(l.map byD).length=l.length:=A06 byD
 have oT:=Sx
 unfold crH at*
 generalize crD=T at*
 refine Zd [] func336 rfl ntmps336 results336 ?_
 (have z:=Za oL<|Za e0 oT;(try push_cast[z])<;>repeat' (first|apply Zi<;>intro _|exact Zo|with_reducible apply Za)<;>try push_cast[z])
 refine Zl (fun i=>i<=l.length) (fun i=>⟨[(7,.val (.int .i64 i)),(6,.val (.int .i64 l.length)),(5,.slice (l.map byD) false),(0,.yld 7)],[(7,.loop [(5,.ref 3 0 0 16),(6,.ref 1 0 0 1)] 34 .ready none [13] a c),(1,.rows [[.val (.int .u32 (JQ (l.take i) r))]] 1),(3,.rows [T] 16)],400⟩) (fun i=>l.length-i) 0 (by simp) ?_ fun i hi=>?_
 ·apply Zw<;>push_cast [oL,oT]
  all_goals first|rfl|skip
 ·push_cast
  refine Af (fun ha=>?_) (fun ha=>?_)
  ·have hi':i<l.length:=by simpa using ha
   have e1:=Ke hi'
   have et:JQ (l.take (i+1)) r=Ql (JQ (l.take i) r) (l.getD i 0):=by
    unfold JQ
    rw[A1y hi',A1H,A02,A09 hi']
    rfl
   have hy:=hY (l.getD i 0) (JQ (l.take i) r)
   rw[<-et] at hy
   have w1:IntKind.i64.wrap (↑i+1)=↑i+1:=A9 (by omega) (by omega)
   rw[MU] at e1
   generalize(l.getD i 0).toNat=x at*
   generalize hr2:JQ (l.take (i+1)) r=r2 at*
   generalize JQ (l.take i) r=r1 at*
   (have z:=Za e1<|Za oL<|Za w1<|Za oT e0;(try push_cast[z])<;>repeat' (first|apply Zi<;>intro _|exact Zo|with_reducible apply Za|(with_reducible show A1 _ _ _ _ _ _ _ _;refine A1.yield 7 (BK [(7,7),(1,1),(3,3)]) rfl ?_ (by(try push_cast[z]);exact hy ..) ?_ (by first|exact .inl rfl|exact .inr ⟨_,_,_,rfl,rfl,rfl⟩) ?_ ?_ ?_ ?_;(· push_cast[z]);(· push_cast[z]<;>(with_unfolding_all exact A8 _));(· push_cast[z]<;>(with_unfolding_all exact A8 _));(· push_cast[z]<;>(with_unfolding_all exact A8 _));(· push_cast[z]<;>(with_unfolding_all exact A8 _));try push_cast[z])|fail)<;>try push_cast[z])
   all_goals first|omega|skip
   refine⟨i+1,hi',by omega,?_⟩
   rw[hr2]
   apply Zw<;>push_cast [oL,oT]
  ·have hi':i=l.length:=by simp at ha;omega
   subst hi'
   rw[A1h]
   (have z:=Za oL oT;(try push_cast[z])<;>repeat' (first|apply Zi<;>intro _|exact Zo|with_reducible apply Za)<;>try push_cast[z])
   all_goals first|omega|skip
   apply Zw<;>push_cast [oT]
def JP(l:List UInt8):Int:=bits .xor .u32 4294967295 (JQ l (bits .xor .u32 4294967295 0))
theorem c_More0(l:List UInt8)(hl:l.length<=1048576):A0 prog 213 [.val (.int .u32 0),.slice (l.map byD) false] (.val (.int .u32 (JP l))):=by
 have oL:=AL l
 have hS:=c_steps'
 have hE:=c_each l
 have oT:=Sx
 have lT:=Uq
 have aT:=crD_all
 have d1:crD.take 16=crD:=A08 (by omega)
 have d2:crD.drop 16=[]:=A0i (by omega)
 refine A0.of_awpW func213 rfl ntmps213 (by kernel_rfl) (by simp) (congrArg Array.toList results213) ?_
 refine BF.seqV [] mixed (by kernel_rfl) ?_
 ((try push_cast)<;>repeat' (first|apply Zi<;>intro _|exact Zp|with_reducible apply Za)<;>try push_cast)
 refine BF.seqV [] mixed (by kernel_rfl) ?_
 (have z:=Za oT<|Za lT<|Za aT<|Za d1 d2;(try push_cast[z])<;>repeat' (first|apply Zi<;>intro _|refine Zc hS ?_|exact Zo|with_reducible apply Za)<;>try push_cast[z])
 refine BF.seqV [] mixed (by kernel_rfl) ?_
 (have z:=Za oT lT;(try push_cast[z])<;>repeat' (first|apply Zi<;>intro _|exact Zo|with_reducible apply Za)<;>try push_cast[z])
 refine BF.seq ?_
 refine BF.seqV [] mixed (by kernel_rfl) ?_
 (have z:=Za oT oL;(try push_cast[z])<;>repeat' (first|apply Zi<;>intro _|refine Zc hE ?_|exact Zo|with_reducible apply Za)<;>try push_cast[z])
 refine BF.block ?_
 refine BF.range (y:=7) (BK [(7,80),(1,48),(3,16)]) (env:=[(5,.ref 3 0 0 16),(6,.ref 1 0 0 1)]) (ds:=[.yld 7,.ptr [.slice (l.map byD) false] 0]) rfl (c_each1 l hl (bits .xor .u32 4294967295 0) ?hY) rfl rfl ?_ ?_ ?_ ?_ ?_ ?_ ?_
 case hY=>
  intro x r
  unfold crH
  refine DA.of_awp (by decide) rfl (by decide) ?_
  simp only[A1E,A1S,A1i,A1O,A0m,A0c]
  refine Zy ?_
  (have z:=@Er.eq_1;(try push_cast[z])<;>repeat' (first|apply Zi<;>intro _|exact Zo|with_reducible apply Za)<;>try push_cast[z])
  refine Zy ?_
  have wx:IntKind.u32.wrap (x.toNat:Int)=x.toNat:=by have:=x.toNat_lt;exact Hf (by omega) (by omega)
  have er:Ql r x=Gp (Gp (bits .xor .u32 r (x.toNat:Int))):=rfl
  rw[er]
  generalize hr1:bits .xor .u32 r (x.toNat:Int)=r1 at*
  have n1:=Z9 r1
  have a1:=and15 r1
  have n2:=Z9 (Gp r1)
  have a2:=and15 (Gp r1)
  have e1:bits .xor .u32 (r1.fdiv (2^min 4 IntKind.u32.bits)) (Sw r1)=Gp r1:=rfl
  have e2:bits .xor .u32 ((Gp r1).fdiv (2^min 4 IntKind.u32.bits)) (Sw (Gp r1))=Gp (Gp r1):=rfl
  have m1:(bits .and .u32 r1 15).toNat<16:=by omega
  have m2:(bits .and .u32 (Gp r1) 15).toNat<16:=by omega
  (have z:=Za @Ep.eq_1<|Za oT<|Za lT<|Za wx<|Za hr1<|Za n1<|Za n2<|Za e1<|Za e2 @Nat.mul_one;(try push_cast[z])<;>repeat' (first|apply Zi<;>intro _|exact Zo|with_reducible apply Za)<;>try push_cast[z])
  all_goals first|omega|skip
  apply Zw<;>push_cast [oT]
 ·push_cast[oL]
 ·push_cast[oL]
 ·push_cast[C7,oL]
 ·push_cast[Ba,oT]
  rfl
 ·push_cast[oT]
 ·push_cast[oT]
 ·push_cast[oT]
  refine BF.vc [] mixed (by kernel_rfl) ?_
  (have z:=oT;(try push_cast[z])<;>repeat' (first|apply Zi<;>intro _|exact Zo|with_reducible apply Za)<;>try push_cast[z])
  all_goals first|omega|skip
  rfl
theorem c_Sum(l:List UInt8)(hl:l.length<=1048576):A0 prog 143 [.slice (l.map byD) false] (.val (.int .u32 (JP l))):=by
 have oL:=AL l
 have h:=c_More0 l hl
 refine Zf [] func143 rfl ntmps143 results143 ?_
 (have z:=oL;(try push_cast[z])<;>repeat' (first|apply Zi<;>intro _|refine Zc h ?_|exact Zo|with_reducible apply Za)<;>try push_cast[z])
theorem Pd(l:List UInt8):0<=JP l/\JP l<4294967296:=by
 have:∀ a b,0<=bits .xor .u32 a b/\bits .xor .u32 a b<4294967296:=fun a b=>by
  have:=F3 .u32 ((BitVec.ofInt 32 a^^^BitVec.ofInt 32 b).toNat:Int)
  simp only[D2,D3] at this
  unfold bits
  show 0<=IntKind.u32.wrap _/\IntKind.u32.wrap _<4294967296
  exact⟨this.1,by have h2:=this.2;exact Int.lt_of_le_of_lt h2 (by decide)⟩
 exact this _ _
def F0(n:Nat)(i:Nat):UInt8:=UInt8.ofNat (n/2^(8*i)%256)
def CA(n:Nat)(i:Nat):List UInt8:=(List.range i).map (F0 n)
theorem VU(n i:Nat):CA n (i+1)=CA n i++[F0 n i]:=by simp[CA,List.range_succ]
theorem Rc(n i:Nat):(F0 n i).toNat=n/2^(8*i)%256:=by
 unfold F0
 rw[UInt8.toNat_ofNat']
 omega
theorem wrapU8(n:Nat):IntKind.u8.wrap (n:Int)=((n%256:Nat):Int):=by
 simp[IntKind.wrap,IntKind.bits,IntKind.signed]
def Fd(A:List (List D))(k:Nat):List (List D):=A++List.replicate k [.val (.int .u8 0)]
theorem Xd(A B:List (List D))(k:Nat)(h:B.length<=k):Au (Fd A k) A.length B=Fd (A++B) (k-B.length):=by
 unfold Au Fd
 rw[List.take_left,<-A1R,List.drop_left,List.drop_replicate,A0b]
theorem Jf(l:List UInt8)(k:Nat):A6 (Fd (l.map byD) k)=true:=by
 unfold Fd
 induction l with
 |nil=>
  induction k with
  |zero=>rfl
  |succ k ih=>simp only[A0G,A0m,A1L,A6] at ih|-;rw[ih];rfl
 |cons x l ih=>simp only[A0h,A0c,A6,ih];rfl
theorem JK(A:List (List D))(k:Nat):(Fd A k).length=A.length+k:=by simp[Fd]
def Rn(l:List UInt8):List UInt8:=l++CA (JP l).toNat 4
theorem c_Seal(l:List UInt8)(hl:l.length<=1048576)(h0:0<l.length):A0 prog 81 [.slice (l.map byD) false] (.slice ((Rn l).map byD) false):=by
 have oL:=AL l
 have e0:(l.map byD).length=l.length:=A06 byD
 have hS:=c_Sum l hl
 have hr:=Pd l
 have w4:IntKind.i64.wrap (↑l.length+4)=↑l.length+4:=A9 (by omega) (by omega)
 unfold Rn
 obtain⟨n,hn⟩:∃ n:Nat,JP l=n:=⟨(JP l).toNat,by omega⟩
 rw[hn] at hS hr|-
 rw[Int.toNat_natCast]
 obtain⟨m,hm⟩:∃ m,m=l.length+4:=⟨_,rfl⟩
 have w5:((↑l.length+4:Int)).toNat=m:=by omega
 have b0:decide (l.length<=m)=true:=decide_eq_true (by omega)
 have s0:l.map byD++List.drop l.length (List.replicate m [D.val (.int .u8 0)])=Fd (l.map byD) 4:=by
  unfold Fd
  rw[List.drop_replicate,hm,A1u]
 have oF:=Jf l 4
 have lF:=JK (l.map byD) 4
 have lR:(List.replicate m [D.val (.int .u8 0)]).length=m:=A1a
 refine Zf [] func81 rfl ntmps81 results81 ?_
 (have z:=Za oL<|Za e0<|Za w4<|Za w5<|Za b0<|Za s0<|Za oF<|Za lF lR;(try push_cast[z])<;>repeat' (first|apply Zi<;>intro _|refine Zc hS ?_|exact Zo|with_reducible apply Za)<;>try push_cast[z])
 all_goals first|omega|exact JT _|exact byD_one _|skip
 refine Zl (fun i=>i<=4) (fun i=>⟨[(15,.val (.int .i64 i)),(4,.val (.int .u32 n)),(3,.sref 32 0 (l.length+i) m 1)],[(32,.rows (Fd ((l++CA n i).map byD) (4-i)) 1)],400⟩) (fun i=>4-i) 0 (by simp) ?_ fun i hi=>?_
 ·have:l++CA n 0=l:=by simp[CA]
  rw[this]
  apply Zw<;>push_cast [oF]
 ·have oG:=Jf (l++CA n i) (4-i)
  have lA:((l++CA n i).map byD).length=l.length+i:=by simp[CA]
  have lG:=JK ((l++CA n i).map byD) (4-i)
  rw[lA] at lG
  by_cases h4:i<4
  ·have oH:=Jf (l++CA n (i+1)) (4-(i+1))
   have sG:=Xd ((l++CA n i).map byD) [byD (F0 n i)] (4-i) (by simp;omega)
   have e2:(l++CA n i).map byD++[byD (F0 n i)]=(l++CA n (i+1)).map byD:=by rw[VU];simp
   rw[lA,e2,A18,Nat.sub_sub,MU] at sG
   have w8:IntKind.i64.wrap (8*↑i)=8*↑i:=A9 (by omega) (by omega)
   have w1:IntKind.i64.wrap (↑i+1)=↑i+1:=A9 (by omega) (by omega)
   have hv:IntKind.u8.wrap ((n:Int).fdiv (2^min (8*(i:Int)).toNat IntKind.u32.bits))=((F0 n i).toNat:Int):=by
    have e3:min (8*(i:Int)).toNat IntKind.u32.bits=8*i:=by
     have:IntKind.u32.bits=32:=rfl
     rw[this];omega
    rw[e3,Rc,<-wrapU8]
    congr 1
    have:((2:Int)^(8*i))=((2^(8*i):Nat):Int):=by push_cast
    rw[this,Int.fdiv_eq_ediv_of_nonneg _ (Int.natCast_nonneg _)]
    rfl
   have b1:decide ((i:Int)<4)=true:=decide_eq_true (by omega)
   have b2:decide (l.length+i+1<=m)=true:=decide_eq_true (by omega)
   generalize Fd ((l++CA n i).map byD) (4-i)=X at*
   generalize hY:Fd ((l++CA n (i+1)).map byD) (4-(i+1))=Y at*
   (have z:=Za oG<|Za lG<|Za w8<|Za w1<|Za hv<|Za b1<|Za b2<|Za sG oH;(try push_cast[z])<;>repeat' (first|apply Zi<;>intro _|exact Zo|with_reducible apply Za)<;>try push_cast[z])
   all_goals first|omega|(simp;done)|(intro y hy d hd;cases A0d.1 hy;cases A0d.1 hd;rfl)|skip
   refine⟨i+1,h4,by omega,?_⟩
   rw[hY]
   apply Zw<;>push_cast [oH,A1l]
  ·obtain rfl:i=4:=by omega
   have e3:Fd ((l++CA n 4).map byD) (4-4)=(l++CA n 4).map byD:=by simp[Fd]
   have oH:=AL (l++CA n 4)
   rw[e3] at oG lG|-
   generalize l++CA n 4=L at*
   (have z:=Za oG<|Za lG oH;(try push_cast[z])<;>repeat' (first|apply Zi<;>intro _|exact Zo|with_reducible apply Za)<;>try push_cast[z])
   all_goals first|omega|skip
   rw[if_pos ⟨A0a _,by omega,by omega⟩,A08 (by omega)]
   refine(show lo (D.slice _ _) (D.slice _ _) from ?_)
   simp only[E9,Bh,true_and]
   exact fun h=>(by cases h)
def FM(n:Nat)(i:Nat):Nat:=n%2^(8*i)
theorem orAdd(n:Nat)(i:Nat)(hi:i<4):bits .or .u32 (FM n i:Int) (IntKind.u32.wrap (((F0 n i).toNat:Int)*2^min (8*(i:Int)).toNat IntKind.u32.bits))=(FM n (i+1):Int):=by
 have e3:min (8*(i:Int)).toNat IntKind.u32.bits=8*i:=by
  have:IntKind.u32.bits=32:=rfl
  rw[this];omega
 have e4:((2:Int)^(8*i))=((2^(8*i):Nat):Int):=by push_cast
 have hp:2^(8*i)<=2^24:=Nat.pow_le_pow_right (by omega) (by omega)
 have hpp:0<2^(8*i):=Nat.pow_pos (by omega)
 have hb:(F0 n i).toNat<256:=(F0 n i).toNat_lt
 have hs:FM n (i+1)=FM n i+2^(8*i)*(F0 n i).toNat:=by
  unfold FM
  rw[Rc,show 8*(i+1)=8*i+8 by omega,Nat.pow_add,Nat.mod_mul]
 have hlt:FM n i<2^(8*i):=Nat.mod_lt _ hpp
 have h2:FM n (i+1)<2^32:=by
  have:FM n (i+1)<2^(8*(i+1)):=Nat.mod_lt _ (Nat.pow_pos (by omega))
  exact A0R this (Nat.pow_le_pow_right (by omega) (by omega))
 have h3:2^(8*i)*(F0 n i).toNat<2^32:=by omega
 rw[e3,e4,<-Int.natCast_mul,Nat.mul_comm,Hf (by omega) (by have:(2:Nat)^32=4294967296:=rfl;omega),hs]
 unfold bits
 show IntKind.u32.wrap ((BitVec.ofInt 32 (FM n i:Int) |||BitVec.ofInt 32 ((2^(8*i)*(F0 n i).toNat:Nat):Int)).toNat:Int)=_
 have f1:(BitVec.ofInt 32 (FM n i:Int)).toNat=FM n i:=by
  rw[BitVec.toNat_ofInt]
  have:(2:Nat)^32=4294967296:=rfl
  omega
 have f2:(BitVec.ofInt 32 ((2^(8*i)*(F0 n i).toNat:Nat):Int)).toNat=2^(8*i)*(F0 n i).toNat:=by
  rw[BitVec.toNat_ofInt]
  have:(2:Nat)^32=4294967296:=rfl
  omega
 have f3:(BitVec.ofInt 32 (FM n i:Int) |||BitVec.ofInt 32 ((2^(8*i)*(F0 n i).toNat:Nat):Int)).toNat=FM n i+2^(8*i)*(F0 n i).toNat:=by
  rw[BitVec.toNat_or,f1,f2,Nat.or_comm,<-Nat.two_pow_add_eq_or_of_lt hlt,Nat.add_comm]
 rw[f3,Hf (by omega) (by have:(2:Nat)^32=4294967296:=rfl;omega)]
theorem c_Open(l:List UInt8)(hl:l.length<=1048576)(h0:0<l.length):A0 prog 144 [.slice ((Rn l).map byD) false] (.tup [.slice (l.map byD) false,.val (.bool true)]):=by
 have oL:=AL l
 have e0:(l.map byD).length=l.length:=A06 byD
 have hS:=c_Sum l hl
 have hr:=Pd l
 unfold Rn
 obtain⟨n,hn⟩:∃ n:Nat,JP l=n:=⟨(JP l).toNat,by omega⟩
 rw[hn] at hS hr|-
 rw[Int.toNat_natCast]
 have hL4:(CA n 4).length=4:=by simp[CA]
 obtain⟨m,hm⟩:∃ m,m=l.length+4:=⟨_,rfl⟩
 have lL:((l++CA n 4).map byD).length=m:=by simp[hL4,hm]
 have aA:=JT (l++CA n 4)
 have oA:=AL (l++CA n 4)
 have oB:=AL (CA n 4)
 have lB:((CA n 4).map byD).length=4:=by simp[hL4]
 have t1:((l++CA n 4).map byD).take l.length=l.map byD:=by rw[A0K,A1K e0]
 have t2:((l++CA n 4).map byD).drop l.length=(CA n 4).map byD:=by rw[A0K,List.drop_left' e0]
 have t3:((CA n 4).map byD).take (m-l.length)=(CA n 4).map byD:=A08 (by omega)
 have w4:IntKind.i64.wrap (↑m-4)=↑l.length:=(A9 (by omega) (by omega)).trans (by omega)
 have b0:decide ((m:Int)<4)=false:=decide_eq_false (by omega)
 generalize(l++CA n 4).map byD=A at*
 refine Zf [] func144 rfl ntmps144 results144 ?_
 (have z:=Za oA<|Za oL<|Za oB<|Za lL<|Za lB<|Za t1<|Za t2<|Za t3<|Za w4 b0;(try push_cast[z])<;>repeat' (first|apply Zi<;>intro _|exact Zo|with_reducible apply Za)<;>try push_cast[z])
 all_goals first|omega|exact aA|skip
 have e1:∀ i,i<4->nr ((CA n 4).map byD) i=[.val (.int .u8 ((F0 n i).toNat:Int))]:=fun i hi=>by
  rw[Ke (by omega),MU]
  congr 4
  simp[CA,A02,List.getElem?_range hi]
 generalize(CA n 4).map byD=B at*
 refine Zl (fun i=>i<=4) (fun i=>⟨[(24,.val (.int .i64 i)),(23,.val (.int .i64 4)),(22,.slice B false),(6,.val (.int .u32 (FM n i))),(4,.slice (l.map byD) false)],[],400⟩) (fun i=>4-i) 0 (by simp) ?_ fun i hi=>?_
 ·have:FM n 0=0:=by unfold FM;rw[Nat.mul_zero,Nat.pow_zero];omega
  rw[this]
  apply Zw<;>push_cast [oL,oB]
 ·by_cases h4:i<4
  ·have e2:=e1 i h4
   have e3:=orAdd n i h4
   have w1:IntKind.i64.wrap (↑i+1)=↑i+1:=A9 (by omega) (by omega)
   have w8:IntKind.i64.wrap (8*↑i)=8*↑i:=A9 (by omega) (by omega)
   have hb:(F0 n i).toNat<256:=(F0 n i).toNat_lt
   have wx:IntKind.u32.wrap ((F0 n i).toNat:Int)=((F0 n i).toNat:Int):=Hf (by omega) (by omega)
   have b1:decide ((i:Int)<4)=true:=decide_eq_true (by omega)
   generalize hq:FM n (i+1)=q at*
   (have z:=Za oL<|Za oB<|Za lB<|Za e2<|Za e3<|Za w1<|Za w8<|Za wx b1;(try push_cast[z])<;>repeat' (first|apply Zi<;>intro _|exact Zo|with_reducible apply Za)<;>try push_cast[z])
   all_goals first|omega|skip
   refine⟨i+1,h4,by omega,?_⟩
   rw[hq]
   apply Zw<;>push_cast [oL,oB]
  ·obtain rfl:i=4:=by omega
   have e5:FM n 4=n:=by
    unfold FM
    exact Nat.mod_eq_of_lt (by have:(2:Nat)^(8*4)=4294967296:=rfl;omega)
   have b2:((n:Int) !=n)=false:=by simp
   have b3:decide (l.length<=0)=false:=decide_eq_false (by omega)
   rw[e5]
   (have z:=Za oL<|Za oB<|Za lB<|Za b2<|Za b3 e0;(try push_cast[z])<;>repeat' (first|apply Zi<;>intro _|refine Zc hS ?_|exact Zo|with_reducible apply Za)<;>try push_cast[z])
   all_goals first|omega|exact JT _|skip
   all_goals trace_state
def ET(x:List UInt8):List UInt8:=Rn (1::x)
theorem c_firstN:A0 prog 80 [.slice [[.func (.func 79) [.val (.int .u8 1)] []]] false] (.val (.int .i64 0)):=
 VD [(79,[.val (.int .u8 1)],[])] (by simp) fun x hx=>by
  cases A0d.1 hx
  exact⟨SM,rfl,rfl⟩
theorem c_Frame(x:List UInt8)(hx:x.length<=1048575)(h0:0<x.length):A0 prog 46 [.val (.int .u8 1),.slice (x.map byD) false] (.tup [.slice ((ET x).map byD) false,.val (.int .i64 0)]):=by
 have oX:=AL x
 have h1:=c_firstN
 have h2:=c_joined x (by omega) h0
 have h3:=c_Seal (1::x) (by simp;omega) (by simp)
 have oY:=AL (1::x)
 have oZ:=AL (ET x)
 change A0 _ _ _ (.slice ((ET x).map byD) false) at h3
 generalize(1::x).map byD=Y at*
 refine Zf [] func46 rfl ntmps46 results46 ?_
 (have z:=Za oX<|Za oY oZ;(try push_cast[z])<;>repeat' (first|apply Zi<;>intro _|refine Zq h1 ?_ ?_|refine Zc h2 ?_|refine Zc h3 ?_|exact Zo|with_reducible apply Za)<;>try push_cast[z])
 all_goals first|omega|skip
 all_goals trace_state
theorem c_body1(x:List UInt8):A0 prog 84 [.ptr [.val (.int .u8 1),.slice (x.map byD) false] 0,.ptr [.val (.int .u8 1)] 0] (.val (.int .i64 0)):=by
 have oX:=AL x
 have h:=c_like1
 refine Zf [] func84 rfl ntmps84 results84 ?_
 (have z:=oX;(try push_cast[z])<;>repeat' (first|apply Zi<;>intro _|refine Zc h ?_|exact Zo|with_reducible apply Za)<;>try push_cast[z])
theorem c_first2(x:List UInt8):A0 prog 80 [.slice [[.func (.func 79) [.val (.int .u8 1)] []],[.func (.func 84) [] [.ptr [.val (.int .u8 1),.slice (x.map byD) false] 0,.ptr [.val (.int .u8 1)] 0]]] false] (.val (.int .i64 0)):=
 VD [(79,[.val (.int .u8 1)],[]),(84,[],[.ptr [.val (.int .u8 1),.slice (x.map byD) false] 0,.ptr [.val (.int .u8 1)] 0])] (by simp) fun y hy=>by
  simp only[A0s,A1x,or_false] at hy
  have oX:=AL x
  rcases hy with rfl|rfl
  ·exact⟨SM,rfl,rfl⟩
  ·exact⟨c_body1 x,rfl,by simp[Ag,D.pure,oX]⟩
theorem c_read(x:List UInt8)(hx:x.length<=1048575):A0 prog 83 [.slice ((ET x).map byD) false] (.tup [.agg [.val (.int .u8 1),.slice (x.map byD) false],.val (.int .i64 0)]):=by
 have oX:=AL x
 have h3:=c_Open (1::x) (by simp;omega) (by simp)
 change A0 _ _ [.slice ((ET x).map byD) false] _ at h3
 have oZ:=AL (ET x)
 have eY:(1::x).map byD=byD 1::x.map byD:=rfl
 rw[eY,MU] at h3
 generalize(ET x).map byD=Z at*
 have aY:=JT (1::x)
 rw[eY,MU] at aY
 have bq:((↑x.length+1:Int)==0)=false:=beq_false_of_ne (by omega)
 have e0:(x.map byD).length=x.length:=A06 byD
 have tk:(x.map byD).take ((↑x.length+1:Int).toNat-1)=x.map byD:=A08 (by omega)
 refine Zf [] func83 rfl ntmps83 results83 ?_
 (have z:=Za oX<|Za oZ<|Za bq<|Za tk e0;(try push_cast[z])<;>repeat' (first|apply Zi<;>intro _|refine Zc h3 ?_|exact Zo|with_reducible apply Za)<;>try push_cast[z])
 all_goals first|omega|exact aY|exact id|skip
 all_goals trace_state
theorem c_Body(x:List UInt8)(hx:x.length<=1048575):A0 prog 47 [.val (.int .u8 1),.slice ((ET x).map byD) false] (.tup [.slice (x.map byD) false,.val (.int .i64 0)]):=by
 have oX:=AL x
 have h1:=c_read x hx
 have h2:=c_first2 x
 have oZ:=AL (ET x)
 generalize(ET x).map byD=Z at*
 refine Zf [0,64] func47 rfl ntmps47 results47 ?_
 (have z:=Za oX oZ;(try push_cast[z])<;>repeat' (first|apply Zi<;>intro _|refine Zc h1 ?_|refine Zq h2 ?_ ?_|exact Zo|with_reducible apply Za)<;>try push_cast[z])
 all_goals first|omega|skip
 all_goals trace_state
end Go.Ab
namespace Go.Proofs
open Go.Proofs Go.Proofs.Tryz Go.RowKit Go.Shelf
def Tryz.sPI_ren:Go.Shelf.Ren:=⟨fun|174=>303|247=>339|245=>340|287=>364|279=>365|280=>366|281=>367|282=>368|321=>378|322=>379|316=>380|171=>382|205=>381|243=>386|246=>210|283=>286|284=>287|285=>288|286=>289|129=>254|317=>328|318=>329|319=>330|320=>331|337=>348|338=>349|n=>n,fun|9=>9|3=>3|2=>2|75=>302|85=>373|4=>4|167=>431|5=>5|53=>27|175=>432|46=>258|168=>434|37=>39|0=>0|210=>446|21=>21|127=>215|145=>453|143=>451|171=>350|173=>352|212=>397|51=>217|20=>20|213=>398|232=>437|233=>438|80=>155|n=>n,fun|15=>7|16=>8|17=>4|18=>5|19=>6|n=>n⟩
theorem Tryz.sPI:Go.Proofs.LaysC.n174 prog Tryz.sPI_ren:= {
 mixed:=by kernel_rfl
 f129:=func254.trans (congrArg some (by kernel_rfl))
 f171:=func382.trans (congrArg some (by kernel_rfl))
 f174:=func303.trans (congrArg some (by kernel_rfl))
 f205:=func381.trans (congrArg some (by kernel_rfl))
 f243:=func386.trans (congrArg some (by kernel_rfl))
 f245:=func340.trans (congrArg some (by kernel_rfl))
 f246:=func210.trans (congrArg some (by kernel_rfl))
 f247:=func339.trans (congrArg some (by kernel_rfl))
 f279:=func365.trans (congrArg some (by kernel_rfl))
 f280:=func366.trans (congrArg some (by kernel_rfl))
 f281:=func367.trans (congrArg some (by kernel_rfl))
 f282:=func368.trans (congrArg some (by kernel_rfl))
 f283:=func286.trans (congrArg some (by kernel_rfl))
 f284:=func287.trans (congrArg some (by kernel_rfl))
 f285:=func288.trans (congrArg some (by kernel_rfl))
 f286:=func289.trans (congrArg some (by kernel_rfl))
 f287:=func364.trans (congrArg some (by kernel_rfl))
 f316:=func380.trans (congrArg some (by kernel_rfl))
 f317:=func328.trans (congrArg some (by kernel_rfl))
 f318:=func329.trans (congrArg some (by kernel_rfl))
 f319:=func330.trans (congrArg some (by kernel_rfl))
 f320:=func331.trans (congrArg some (by kernel_rfl))
 f321:=func378.trans (congrArg some (by kernel_rfl))
 f322:=func379.trans (congrArg some (by kernel_rfl))
 f337:=func348.trans (congrArg some (by kernel_rfl))
 f338:=func349.trans (congrArg some (by kernel_rfl))
 t0:=underlying0
 a0:=isAgg0
 z0:=sizeOf0
 v0:=zeroValue0
 t2:=underlying2
 a2:=isAgg2
 z2:=sizeOf2
 v2:=zeroValue2
 t3:=underlying3
 a3:=isAgg3
 z3:=sizeOf3
 v3:=zeroValue3
 t4:=underlying4
 a4:=isAgg4
 z4:=sizeOf4
 v4:=zeroValue4
 t5:=underlying5
 a5:=isAgg5
 z5:=sizeOf5
 v5:=zeroValue5
 t9:=underlying9
 a9:=isAgg9
 z9:=sizeOf9
 v9:=zeroValue9
 t20:=underlying20
 a20:=isAgg20
 z20:=sizeOf20
 v20:=zeroValue20
 t21:=underlying21
 a21:=isAgg21
 z21:=sizeOf21
 v21:=zeroValue21
 t37:=underlying39
 a37:=isAgg39
 z37:=sizeOf39
 v37:=zeroValue39
 t46:=underlying258
 a46:=isAgg258
 z46:=sizeOf258
 v46:=zeroValue258
 t51:=underlying217
 a51:=isAgg217
 z51:=sizeOf217
 v51:=zeroValue217
 t53:=underlying27
 a53:=isAgg27
 z53:=sizeOf27
 v53:=zeroValue27
 t75:=underlying302
 a75:=isAgg302
 z75:=sizeOf302
 v75:=zeroValue302
 t85:=underlying373
 a85:=isAgg373
 z85:=sizeOf373
 v85:=zeroValue373
 t127:=underlying215
 a127:=isAgg215
 z127:=sizeOf215
 v127:=zeroValue215
 t143:=underlying451
 a143:=isAgg451
 z143:=sizeOf451
 v143:=zeroValue451
 t145:=underlying453
 a145:=isAgg453
 z145:=sizeOf453
 v145:=zeroValue453
 t167:=underlying431
 a167:=isAgg431
 z167:=sizeOf431
 v167:=zeroValue431
 t168:=underlying434
 a168:=isAgg434
 z168:=sizeOf434
 v168:=zeroValue434
 t171:=underlying350
 a171:=isAgg350
 z171:=sizeOf350
 v171:=zeroValue350
 t173:=underlying352
 a173:=isAgg352
 z173:=sizeOf352
 v173:=zeroValue352
 t175:=underlying432
 a175:=isAgg432
 z175:=sizeOf432
 v175:=zeroValue432
 t210:=underlying446
 a210:=isAgg446
 z210:=sizeOf446
 v210:=zeroValue446
 t212:=underlying397
 a212:=isAgg397
 z212:=sizeOf397
 v212:=zeroValue397
 t213:=underlying398
 a213:=isAgg398
 z213:=sizeOf398
 t232:=underlying437
 a232:=isAgg437
 z232:=sizeOf437
 v232:=zeroValue437
 t233:=underlying438
 a233:=isAgg438
 z233:=sizeOf438
 v233:=zeroValue438
 g15:=by kernel_rfl
 g16:=by kernel_rfl
 g17:=by kernel_rfl
 g18:=by kernel_rfl
 g19:=by kernel_rfl
 t80:=underlying155
 a80:=isAgg155
 z80:=sizeOf155
 v80:=zeroValue155
 i0:=by kernel_rfl
 i2:=by kernel_rfl
 i3:=by kernel_rfl
 i4:=by kernel_rfl
 i5:=by kernel_rfl
 i9:=by kernel_rfl
 i20:=by kernel_rfl
 i21:=by kernel_rfl
 i37:=by kernel_rfl
 i46:=by kernel_rfl
 i51:=by kernel_rfl
 i53:=by kernel_rfl
 i75:=by kernel_rfl
 i80:=by kernel_rfl
 i85:=by kernel_rfl
 i127:=by kernel_rfl
 i143:=by kernel_rfl
 i145:=by kernel_rfl
 i167:=by kernel_rfl
 i168:=by kernel_rfl
 i171:=by kernel_rfl
 i173:=by kernel_rfl
 i175:=by kernel_rfl
 i210:=by kernel_rfl
 i212:=by kernel_rfl
 i232:=by kernel_rfl
 i233:=by kernel_rfl
 m15:=by kernel_rfl
 m16:=by kernel_rfl
 m17:=by kernel_rfl
 m18:=by kernel_rfl
 m19:=by kernel_rfl
 c0:=by kernel_rfl
 c2:=by kernel_rfl
 c3:=by kernel_rfl
 c4:=by kernel_rfl
 c5:=by kernel_rfl
 c9:=by kernel_rfl
 c20:=by kernel_rfl
 c21:=by kernel_rfl
 c37:=by kernel_rfl
 c46:=by kernel_rfl
 c51:=by kernel_rfl
 c53:=by kernel_rfl
 c75:=by kernel_rfl
 c80:=by kernel_rfl
 c85:=by kernel_rfl
 c127:=by kernel_rfl
 c143:=by kernel_rfl
 c145:=by kernel_rfl
 c167:=by kernel_rfl
 c168:=by kernel_rfl
 c171:=by kernel_rfl
 c173:=by kernel_rfl
 c175:=by kernel_rfl
 c210:=by kernel_rfl
 c212:=by kernel_rfl
 c213:=by kernel_rfl
 c232:=by kernel_rfl
 c233:=by kernel_rfl}
end Go.Proofs
namespace Go.Ab
open Go.Proofs Go.Proofs.Tryz Go.RowKit Go.Shelf
theorem pint_ok:QO:=fun n h0 h1=>
 A0.of_vals (us:=[.string ⟨(Lib.itoa n).toArray⟩,.int .i64 10,.int .i64 64]) (by kernel_rfl) rfl fun w I hg ho=>⟨.tuple #[.int .i64 n,.nilIface],fun _=>Rw (by simp only[okP,D2,D3];omega) trivial,by
  have hl:=Lib.itoa_length_le n h0 h1
  have:=Any.strconv_ParseInt_10_at64_ok Tryz.sPI ⟨(Lib.itoa n).toArray⟩ (by show(Lib.itoa n).toArray.size<=_;rw[A0y];omega) n (TM n h0 h1) w
  exact this.mono fun e w' ⟨he,hw⟩=>⟨he,by
   rcases hw with rfl|⟨t,rfl⟩
   ·exact Below.refl _ _
   ·exact Lib.below_freeze ((Below.drew (Below.refl _ w)).alloc (A0a _) _) (p:=⟨w.heap.size,_,none⟩) (A0a _) 1⟩⟩
def puF(c:Nat)(l:List SN):List UInt8:=ET (tv (puO c l))
theorem tv_pos(c:Nat)(l:List SN):0<(tv (puO c l)).length:=by
 have:tv (puO c l)=123::(DJ ((puO c l).obj.map tvm)++[125]):=by rw[Gj];rfl
 rw[this];simp
theorem c_Encode(c:Nat)(l:List SN)(h:HL c l):A0 prog 22 [.agg (Gn c l)] (.tup [.slice ((puF c l).map byD) false,.val (.int .i64 0)]):=by
 have hM:=ZZ c l h
 have hO:=X4 c l h
 have hT:=QY c l h
 have hz:=Q9 c l h
 have hF:=c_Frame (tv (puO c l)) (by omega) (tv_pos c l)
 change A0 _ _ _ (.tup [.slice ((puF c l).map byD) false,_]) at hF
 have hc:=conv_sb (P:=prog) (a:=9) (b:=39) (e:=5) underlying9 underlying39 underlying5 ⟨(tv (puO c l)).toArray⟩ (by show(tv (puO c l)).toArray.size<=_;rw[A0y];omega)
 have oF:=AL (puF c l)
 have oT:=AL (tv (puO c l))
 have oL:A6 ((l.map snN).map BA)=true:=G8 _
 unfold QJ at hT
 obtain⟨u1,u2,u3,u4⟩:=An (puO c l)
 generalize puF c l=F at*
 generalize tv (puO c l)=x at*
 generalize A5 (puO c l)=V at*
 unfold Gn at*
 generalize(l.map snN).map BA=L at*
 refine Zf [] func22 rfl ntmps22 results22 ?_
 (have z:=Za u1<|Za u2<|Za u3<|Za u4<|Za oF<|Za oT oL;(try push_cast[z])<;>repeat' (first|apply Zi<;>intro _|refine Zc hM ?_|refine Zc hO ?_|refine Zc hT ?_|refine Zc hF ?_|exact Zo|with_reducible apply Za|((with_reducible show A1 _ _ _ _ _ _ _ _);refine A1.conv (hc) (by first|exact .inl rfl|exact .inr ⟨_,_,_,rfl,rfl,rfl⟩) (by first|(push_cast[z];done)|((try push_cast[z]);rfl)) ?_)<;>try push_cast[z]|fail)<;>try push_cast[z])
 all_goals first|omega|skip
 all_goals trace_state
theorem c_open(hU:J1)(c:Nat)(l:List SN)(h:HL c l):A0 prog 23 [.slice ((puF c l).map byD) false] (.tup [.agg (A5 (puO c l)),.val (.int .i64 0)]):=by
 have hz:=Q9 c l h
 have hB:=c_Body (tv (puO c l)) (by omega)
 change A0 _ _ [_,.slice ((puF c l).map byD) false] _ at hB
 have hX:=c_Exact 5 (tv (puO c l)) (puO c l) (v_puO hU pint_ok c l h) (by omega) (by omega) (QY c l h)
 have hc:=conv_bs (P:=prog) (a:=39) (b:=9) (e:=5) underlying39 underlying5 underlying9 (tv (puO c l)) false
 have oF:=AL (puF c l)
 have oT:=AL (tv (puO c l))
 obtain⟨u1,u2,u3,u4⟩:=An (puO c l)
 generalize puF c l=F at*
 generalize tv (puO c l)=x at*
 generalize A5 (puO c l)=V at*
 refine Zf [] func23 rfl ntmps23 results23 ?_
 (have z:=Za u1<|Za u2<|Za u3<|Za u4<|Za oF oT;(try push_cast[z])<;>repeat' (first|apply Zi<;>intro _|refine Zc hB ?_|refine Zc hX ?_|exact Zo|with_reducible apply Za|((with_reducible show A1 _ _ _ _ _ _ _ _);refine A1.conv (hc) (by first|exact .inl rfl|exact .inr ⟨_,_,_,rfl,rfl,rfl⟩) (by first|(push_cast[z];done)|((try push_cast[z]);rfl)) ?_)<;>try push_cast[z]|fail)<;>try push_cast[z])
 all_goals first|omega|skip
 all_goals trace_state
abbrev baH(b:Nat)(Y:List (List D)):Hp:=[(b,.rows Y 20)]
abbrev clQ(c k s:Nat)(tb th:D)(a o n:Nat)(X:List (List D)):Hp:=(1,clB c k s tb th)::quH a o n X
theorem SS{X:List (List D)}{a o n:Nat}{L:List SN}(h:He X o n L)(cl k s:Nat)(tb th:D)(oB:tb.pure=true)(b1:AN tb=true)(oH:th.pure=true)(h1:AN th=true)(hcl:0<cl)(bt nn:Int)(hnn:(if(64:Int)<bt then 64 else bt)=nn)(c:Nat)(hc:c<=n)(hc0:0<c)
  (hb1:∀ i,i<c->(i:Int)<nn/\(L.getD i (0,.put)).1<s) (hb2:(c:Int)<nn->c<n->s<=(L.getD c (0,.put)).1) (hP:HL cl (L.take c)):
  A2 prog 8 [.ref 1 0 0 6,.val (.int .i64 bt)] ((1,clB cl k s tb th)::quH a o n X) (.tup [.slice ((puF cl (L.take c)).map byD) false,.val (.bool true)]) ((1,clB cl k s tb th)::quH a o n X):=by
 have hZ:=Gd cl hcl
 have hB:=SJ (a:=a) h nn s c hc hb1 hb2
 have hE:=c_Encode cl (L.take c) hP
 unfold Gn at hE
 have oX:=h.pure
 have oL:=By (L.take c)
 have oF:=AL (puF cl (L.take c))
 have lL:((L.take c).map Bq).length=c:=by have:=h.len;simp;omega
 have c0:((c:Int)==0)=false:=by simp;omega
 change A0 _ _ [.agg [.val (.int .u64 cl),.slice (((L.take c).map snN).map BA) false]] _ at hE
 rw[A10] at hE
 change A0 _ _ [.agg [.val (.int .u64 cl),.slice ((L.take c).map Bq) false]] _ at hE
 generalize(puF cl (L.take c)).map byD=F at*
 generalize(L.take c).map Bq=Y at*
 have hc9:c<=9223372036854775807:=by have:=h.n1;omega
 have et:Y.take c=Y:=A08 (by omega)
 have e0:(if c<=c/\c<=c/\c<=9223372036854775807 then D.slice Y true else .sref 120 0 c c 20)=.slice Y true:=if_pos ⟨A0a _,A0a _,hc9⟩
 refine Zd [] func8 rfl ntmps8 results8 ?_
 (have z:=Za oX<|Za oL<|Za lL<|Za @hnn<|Za et<|Za e0<|Za oB<|Za b1<|Za oH<|Za h1<|Za c0 oF;(try push_cast[z])<;>repeat' (first|apply Zi<;>intro _|refine Zs [(3,3),(5,5)] hB ?_|exact Zo|with_reducible apply Za|((with_reducible show A1 _ _ _ _ _ _ _ _);refine A1.lend (clH cl k s tb th) _ rfl (by exact hZ ..) (by first|exact .inl rfl|exact .inr ⟨_,_,_,rfl,rfl,rfl⟩) ?_ ?_ ?_ (by first|rfl|push_cast [z]) ?_;(· push_cast[z]<;>(with_unfolding_all exact A8 _));(· push_cast[z]<;>first|exact fun _=>trivial|(with_unfolding_all exact A8 _));(· push_cast[z]);try push_cast[z])|((with_reducible show A1 _ _ _ _ _ _ _ _);refine A1.giveF (baH 120 Y) _ rfl (by exact hE ..) (by first|exact .inl rfl|exact .inr ⟨_,_,_,rfl,rfl,rfl⟩) ?_ ?_ ?_ ?_;(· push_cast[z]<;>(with_unfolding_all exact A8 _));(· push_cast[z]<;>first|exact fun _=>trivial|(with_unfolding_all exact A8 _));(· push_cast[z]);try push_cast[z])|fail)<;>try push_cast[z])
 all_goals first|omega|skip
 apply Zw<;>push_cast [oX,oF,oB,oH]
theorem Pp{X:List (List D)}{a o n:Nat}{L:List SN}(h:He X o n L)(cl k s:Nat)(tb th:D)(oB:tb.pure=true)(b1:AN tb=true)(oH:th.pure=true)(h1:AN th=true)(hcl:0<cl)(bt nn:Int)(hnn:(if(64:Int)<bt then 64 else bt)=nn)
  (hb2:0<nn->0<n->s<=(L.getD 0 (0,.put)).1):
  A2 prog 8 [.ref 1 0 0 6,.val (.int .i64 bt)] ((1,clB cl k s tb th)::quH a o n X) (.tup [.slice [] true,.val (.bool false)]) ((1,clB cl k s tb th)::quH a o n X):=by
 have hZ:=Gd cl hcl
 have hB:=SJ (a:=a) h nn s 0 (A0D _) (fun i hi=>by omega) hb2
 have oX:=h.pure
 refine Zd [] func8 rfl ntmps8 results8 ?_
 (have z:=Za oX<|Za @hnn<|Za oB<|Za b1<|Za oH h1;(try push_cast[z])<;>repeat' (first|apply Zi<;>intro _|refine Zs [(3,3),(5,5)] hB ?_|exact Zo|with_reducible apply Za|((with_reducible show A1 _ _ _ _ _ _ _ _);refine A1.lend (clH cl k s tb th) _ rfl (by exact hZ ..) (by first|exact .inl rfl|exact .inr ⟨_,_,_,rfl,rfl,rfl⟩) ?_ ?_ ?_ (by first|rfl|push_cast [z]) ?_;(· push_cast[z]<;>(with_unfolding_all exact A8 _));(· push_cast[z]<;>first|exact fun _=>trivial|(with_unfolding_all exact A8 _));(· push_cast[z]);try push_cast[z])|fail)<;>try push_cast[z])
 all_goals first|omega|skip
 apply Zw<;>push_cast [oX,oB,oH]
theorem He.cut{X:List (List D)}{o n:Nat}{L:List SN}(h:He X o n L){d:Nat}(hd:d<=n):He (Au X o (List.replicate d F1)) (o+d) (n-d) (L.drop d):=by
 obtain⟨oX,ho,hl,hn,hr⟩:=h
 have lS:(Au X o (List.replicate d F1)).length=X.length:=B0 (by simp;omega)
 refine⟨?_,by omega,by rw[A0v,hl],by omega,fun i hi=>?_⟩
 ·unfold Au
  refine E7 (Cn _ _ oX) (E7 ?_ (Co _ _ oX))
  clear lS hd
  induction d with
  |zero=>rfl
  |succ d ih=>simp only[A1L,A6,ih,A1N];rfl
 ·have e:=hr (d+i) (by omega)
  rw[show o+(d+i)=o+d+i by omega] at e
  have e1:nr (Au X o (List.replicate d F1)) (o+d+i)=nr X (o+d+i):=by
   unfold Au nr
   rw[A02,A02,A0o (by simp;omega),A0o (by simp;omega),A0I]
   congr 2
   simp only[A0z,A1a]
   omega
  rw[e1,e]
  simp only[A02,A0I]
theorem MO{X:List (List D)}{a o n:Nat}{L:List SN}(h:He X o n L)(cl k k' s d:Nat)(P:D)(T T1 T':GT)(th:D)(oH:th.pure=true)(h1:AN th=true)(hcl:0<cl)(oP:P.pure=true)(p1:AN P=true)
  (hk:k<k') (hk':k'<=1048576) (hd:d<=n) (hn:a+X.length<=1048576)
  (hA:A0 prog 27 [Av T,P] (.tup [Av T1,.val (.int .i64 0)]))
  (hR:A0 prog 29 [Av T1,.slice ((L.drop d).map Bq) true] (Av T')):
  A2 prog 10 [.ref 1 0 0 6,rsD cl k k' (a+d) P] ((1,clB cl k s (Ac T) th)::quH a o n X) (.val (.int .i64 0))
   ((1,clB cl k' s (Ac T1) (Ac T'))::quH (a+d) (o+d) (n-d) (Au X o (List.replicate d F1))):=by
 have hZ:=Gd cl hcl
 have lN:((X.drop o).take n).length=n:=by have:=h.le;simp;omega
 have oX:=h.pure
 have oN:=Cn n _ (Co o X oX)
 have ho:=h.le
 have hF:=c_fits cl k k' a (a+d) ((X.drop o).take n) oN P oP p1 hk hk' (by omega) (by omega) (by omega)
 have hC:=c_qCut a o n d X oX ho hn hd
 have hq:=h.cut hd
 have hL:=c_qAll (a:=a+d) hq
 have oX':=hq.pure
 have oL:=By (L.drop d)
 have lL:((L.drop d).map Bq).length=n-d:=by have:=h.len;simp;omega
 have oT:=A3 T
 have o1:=B3 T
 have oT1:=A3 T1
 have o11:=B3 T1
 have oT':=A3 T'
 have o1':=B3 T'
 simp only[Av] at*
 generalize Ac T=tb at*
 generalize Ac T1=tb1 at*
 generalize Ac T'=th' at*
 generalize(L.drop d).map Bq=Y at*
 generalize Au X o (List.replicate d F1)=X' at*
 have hc9:n-d<=9223372036854775807:=by have:=h.n1;omega
 have et:Y.take (n-d)=Y:=A08 (by omega)
 have e0:(if n-d<=n-d/\n-d<=n-d/\n-d<=9223372036854775807 then D.slice Y true else .sref 424 0 (n-d) (n-d) 20)=.slice Y true:=if_pos ⟨A0a _,A0a _,hc9⟩
 refine Zd [] func10 rfl ntmps10 results10 ?_
 (have z:=Za oX<|Za ho<|Za oN<|Za oX'<|Za oL<|Za lL<|Za et<|Za e0<|Za oT<|Za o1<|Za oT1<|Za o11<|Za oT'<|Za o1'<|Za oH<|Za h1<|Za oP p1;(try push_cast[z])<;>repeat' (first|apply Zi<;>intro _|refine Zc hA ?_|refine Zs [(3,3),(5,5)] hC ?_|refine Zs [(3,3),(5,5)] hL ?_|exact Zo|with_reducible apply Za|((with_reducible show A1 _ _ _ _ _ _ _ _);refine A1.lend (clH cl k s tb th) _ rfl (by exact hZ ..) (by first|exact .inl rfl|exact .inr ⟨_,_,_,rfl,rfl,rfl⟩) ?_ ?_ ?_ (by first|rfl|push_cast [z]) ?_;(· push_cast[z]<;>(with_unfolding_all exact A8 _));(· push_cast[z]<;>first|exact fun _=>trivial|(with_unfolding_all exact A8 _));(· push_cast[z]);try push_cast[z])|((with_reducible show A1 _ _ _ _ _ _ _ _);refine A1.lend (clQ cl k s tb th a o n X) _ rfl (by exact hF ..) (by first|exact .inl rfl|exact .inr ⟨_,_,_,rfl,rfl,rfl⟩) ?_ ?_ ?_ (by first|rfl|push_cast [z]) ?_;(· push_cast[z]<;>(with_unfolding_all exact A8 _));(· push_cast[z]<;>first|exact fun _=>trivial|(with_unfolding_all exact A8 _));(· push_cast[z]);try push_cast[z])|((with_reducible show A1 _ _ _ _ _ _ _ _);refine A1.giveF (baH 424 Y) _ rfl (by exact hR ..) (by first|exact .inl rfl|exact .inr ⟨_,_,_,rfl,rfl,rfl⟩) ?_ ?_ ?_ ?_;(· push_cast[z]<;>(with_unfolding_all exact A8 _));(· push_cast[z]<;>first|exact fun _=>trivial|(with_unfolding_all exact A8 _));(· push_cast[z]);try push_cast[z])|fail)<;>try push_cast[z])
 all_goals first|omega|skip
 apply Zw<;>push_cast [oX',oT1,oT']
abbrev qlH(a o n:Nat):Hp:=[(3,quB a o n)]
theorem Pq{X:List (List D)}{a o n:Nat}{L:List SN}(h:He X o n L)(cl k s:Nat)(T:GT)(l:List GE)(hT:DB T l)(hll:l.length<=1048576)(th:D)(oH:th.pure=true)(h1:AN th=true)(hcl:0<cl)(hn:a+X.length<=1048576):
  A2 prog 11 [.ref 1 0 0 6] ((1,clB cl k s (Ac T) th)::quH a o n X) (.agg [.val (.int .u64 cl),.val (.int .u64 k),.val (.int .u64 a),.val (.int .u64 ((a:Int)+n+1)),.gref 0 l.length,.sref 2 0 n n 20])
   ((1,clB cl k s (Ac T) th)::quH a o n X++[(0,.grow (l.map A7) 7),(2,.rows (L.map Bq) 20)]):=by
 have hZ:=Gd cl hcl
 have hE:=MS T l hT hll
 have lN:((X.drop o).take n).length=n:=by have:=h.le;simp;omega
 have oX:=h.pure
 have oN:=Cn n _ (Co o X oX)
 have ho:=h.le
 have hNx:=HC a ((X.drop o).take n) false (by omega)
 rw[lN] at hNx
 have hLa:=Vx a .any
 have hL:=c_qAll (a:=a) h
 have oL:=By L
 have oM:A6 (l.map A7)=true:=Bu l
 have lL:(L.map Bq).length=n:=by have:=h.len;simp;omega
 have oT:=A3 T
 have o1:=B3 T
 simp only[Av] at*
 generalize Ac T=tb at*
 generalize L.map Bq=Y at*
 generalize l.map A7=Z at*
 refine Zd [] func11 rfl ntmps11 results11 ?_
 (have z:=Za oX<|Za ho<|Za oN<|Za oL<|Za oM<|Za lL<|Za oT<|Za o1<|Za oH h1;(try push_cast[z])<;>repeat' (first|apply Zi<;>intro _|refine Zs [] hE ?_|refine Zs [(3,3),(5,5)] hL ?_|exact Zo|with_reducible apply Za|((with_reducible show A1 _ _ _ _ _ _ _ _);refine A1.lend (clH cl k s tb th) _ rfl (by exact hZ ..) (by first|exact .inl rfl|exact .inr ⟨_,_,_,rfl,rfl,rfl⟩) ?_ ?_ ?_ (by first|rfl|push_cast [z]) ?_;(· push_cast[z]<;>(with_unfolding_all exact A8 _));(· push_cast[z]<;>first|exact fun _=>trivial|(with_unfolding_all exact A8 _));(· push_cast[z]);try push_cast[z])|((with_reducible show A1 _ _ _ _ _ _ _ _);refine A1.lend (qlH a o n) _ rfl (by exact hLa ..) (by first|exact .inl rfl|exact .inr ⟨_,_,_,rfl,rfl,rfl⟩) ?_ ?_ ?_ (by first|rfl|push_cast [z]) ?_;(· push_cast[z]<;>(with_unfolding_all exact A8 _));(· push_cast[z]<;>first|exact fun _=>trivial|(with_unfolding_all exact A8 _));(· push_cast[z]);try push_cast[z])|((with_reducible show A1 _ _ _ _ _ _ _ _);refine A1.lend (quH a o n X) _ rfl (by exact hNx ..) (by first|exact .inl rfl|exact .inr ⟨_,_,_,rfl,rfl,rfl⟩) ?_ ?_ ?_ (by first|rfl|push_cast [z]) ?_;(· push_cast[z]<;>(with_unfolding_all exact A8 _));(· push_cast[z]<;>first|exact fun _=>trivial|(with_unfolding_all exact A8 _));(· push_cast[z]);try push_cast[z])|fail)<;>try push_cast[z])
 all_goals first|omega|skip
 apply Zr [(0,208),(2,248)] rfl<;>push_cast [oX,oL,oM,oT,oH]
noncomputable def HM(p q:GE):Bool:=p.1.toList==q.1.toList&&Jh p.2 q.2==0
noncomputable def Ck:List GE->List GE->Bool
 |[],[]=>true
 |p::a,q::b=>HM p q&&Ck a b
 |_,_=>false
theorem HN:∀ {a b:List GE},Ck a b=true->a.length=b.length
 |[],[],_=>rfl
 |p::a,q::b,h=>by simp only[Ck,A07] at h;simp[HN h.2]
 |[],_::_,h=>by simp[Ck] at h
 |_::_,[],h=>by simp[Ck] at h
theorem Nk:∀ {a b:List GE},Ck a b=true->∀ i,i<a.length->HM (a.getD i zM) (b.getD i zM)=true
 |[],[],_,i,h=>by simp at h
 |p::a,q::b,h,0,_=>by simp only[Ck,A07] at h;simpa using h.1
 |p::a,q::b,h,i+1,hi=>by simp only[Ck,A07] at h;simpa using Nk h.2 i (by simpa using hi)
 |[],_::_,h,_,_=>by simp[Ck] at h
 |_::_,[],h,_,_=>by simp[Ck] at h
theorem Nj:∀ {a b:List GE},a.length=b.length->(∀ i,i<a.length->HM (a.getD i zM) (b.getD i zM)=true)->Ck a b=true
 |[],[],_,_=>rfl
 |p::a,q::b,h,k=>by
  simp only[Ck,A07]
  exact⟨by simpa using k 0 (by simp),Nj (by simpa using h) fun i hi=>by simpa using k (i+1) (by simpa using hi)⟩
 |[],_::_,h,_=>by simp at h
 |_::_,[],h,_=>by simp at h
theorem K4{a b:List GE}(h:a.length≠b.length):Ck a b=false:=by
 cases hs:Ck a b with
 |false=>rfl
 |true=>exact absurd (HN hs) h
theorem Gk{a b:List GE}{i:Nat}(hi:i<a.length)(h:HM (a.getD i zM) (b.getD i zM)=false):Ck a b=false:=by
 cases hs:Ck a b with
 |false=>rfl
 |true=>have:=Nk hs i hi;rw[h] at this;cases this
theorem N8(a b:List GE):A0 prog 34 [.slice (a.map A7) false,.slice (b.map A7) false] (.val (.bool (Ck a b))):=by
 refine Zk [] func34 rfl ntmps34 results34 fun H Hb=>?_
 have h0:=H 0;push_cast at h0
 have h1:=H 1;push_cast at h1
 ((try push_cast)<;>repeat' (first|apply Zi<;>intro _|exact Zp|with_reducible apply Za)<;>try push_cast)
 ·rename_i h
  have h:=bne_iff_ne.1 h
  rw[K4 (fun e=>h (by rw[e]))]
 ·rename_i hl
  have hl:a.length=b.length:=by have:=BN hl;omega
  refine Zl (fun i=>i<=a.length/\∀ j,j<i->HM (a.getD j zM) (b.getD j zM)=true) (fun i=>⟨[(5,.val (.int .i64 i)),(0,.slice (a.map A7) false),(1,.slice (b.map A7) false)],[],0⟩) (fun i=>a.length-i) 0 (by simp) ?_ fun i hi=>?_
  ·apply Zw<;>push_cast
  ·obtain⟨h2,h3⟩:=hi
   push_cast
   refine Af (fun ha=>?_) (fun ha=>?_)
   ·have ha':i<a.length:=by simpa using ha
    have hb':i<b.length:=by omega
    have ea:=Bk ha'
    have eb:=Bk hb'
    (have z:=Za ea<|Za eb @Ah;(try push_cast[z])<;>repeat' (first|apply Zi<;>intro _|refine Zc (Fk ..) ?_|exact Zo|with_reducible apply Za)<;>try push_cast[z])
    all_goals first|omega|skip
    ·rename_i h
     exact(Gk ha' (by simp only[HM,Pr];simp only[Bool.not_eq_true'] at h;rw[h];rfl)).symm
    ·rename_i g h
     have h:=bne_iff_ne.1 h
     exact(Gk ha' (by simp only[HM];rw[show(Jh (a.getD i zM).2 (b.getD i zM).2==0)=false by simpa using h];simp)).symm
    ·rename_i g h
     have h:=BN h
     refine⟨i+1,⟨by omega,fun j hj=>?_⟩,by omega,?_⟩
     ·by_cases hji:j=i
      ·subst hji;simp only[Bool.not_eq_false'] at g;simp only[HM,Pr,g,h];rfl
      ·exact h3 j (by omega)
     ·apply Zw<;>push_cast
      rw[A9 (by omega) (by omega)]
   ·((try push_cast)<;>repeat' (first|apply Zi<;>intro _|exact Zp|with_reducible apply Za)<;>try push_cast)
    have:i=a.length:=by simp at ha;omega
    exact(Nj hl fun j hj=>h3 j (by omega)).symm
theorem WH(a:Int):DO a a=0:=by simp[DO]
theorem Pf:∀ a:List UInt8,BX a a=0
 |[]=>rfl
 |x::a=>by simp[BX,Pf a]
theorem Pi(a:ByteArray):Ci a a=0:=Pf _
theorem Ks{α:Type}{f:α->α->Int}:∀ {a:List α},(∀ x ∈ a,f x x=0)->CH f a a=0
 |[],_=>rfl
 |x::a,hf=>by
  simp only[CH]
  rw[if_pos (hf x (by simp))]
  exact Ks fun x hx=>hf x (by simp[hx])
theorem Sy:∀ (n:Nat) (v:GV),SizeOf.sizeOf v<=n->HK n v v=0:=by
 intro n
 induction n with
 |zero=>intro v h;cases v;simp at h
 |succ n ih=>
  intro v hv
  rw[Bi,if_neg (by simp)]
  split
  ·unfold J0;simp
  split
  ·exact WH _
  split
  ·exact Pi _
  split
  ·exact Ks fun x hx=>ih x (by have:=GV.list_lt hx;omega)
  split
  ·refine Ks fun x hx=>?_
   simp only[H9]
   rw[if_pos (Pi _)]
   exact ih x.2 (by have:=GV.obj_lt hx;omega)
  rfl
theorem cmpG_own(v:GV):Jh v v=0:=Sy _ v (A0a _)
theorem VH(a:ByteArray):(a !=a)=false:=by
 show(!(a==a))=false
 rw[Bool.not_eq_false']
 cases a;exact beq_self_eq_true (α:=Array UInt8) _
theorem c_same11(m:GM):A0 prog 33 [.agg (mcl m false),.agg (mcl m false)] (.val (.bool true)):=by
 have hC:=Fk m.was m.was
 have hD:=Fk m.value m.value
 rw[cmpG_own,A4] at hC hD
 have b1:((m.kind:Int) !=m.kind)=false:=by simp
 have b2:(m.key !=m.key)=false:=VH _
 have b3:(m.to !=m.to)=false:=VH _
 have b4:(m.n !=m.n)=false:=by simp
 have b5:(m.had !=m.had)=false:=by simp
 have b6:(m.has !=m.has)=false:=by simp
 have a1:∀ (x:Oper) (l r:List Oper),List.append (x::l) r=x::List.append l r:=fun _ _ _=>rfl
 have a2:∀ r:List Oper,List.append [] r=r:=fun _=>rfl
 refine Zf [] func33 rfl ntmps33 results33 ?_
 (have z:=Za a1<|Za a2<|Za b1<|Za b2<|Za b3<|Za b4<|Za b5 b6;(try push_cast[z])<;>repeat' (first|apply Zi<;>intro _|refine Zc hC ?_|refine Zc hD ?_|exact Zo|with_reducible apply Za)<;>try push_cast[z])
 all_goals first|omega|skip
 refine AWp.loopI mixed (by kernel_rfl) (ι:=Unit) (fun _=>True) (fun _=>⟨[(5,.val (.int .i64 0)),(3,.ref 8 0 0 19),(2,.ref 0 0 0 19)],[(0,.rows [mcl m false] 19),(8,.rows [mcl m false] 19)],400⟩) (fun _=>0) () trivial ?_ fun i hi=>?_
 ·apply Zw<;>push_cast
 ·((try push_cast)<;>repeat' (first|apply Zi<;>intro _|exact Zp|with_reducible apply Za)<;>try push_cast)
theorem c_same24(x:SN):A0 prog 12 [.slice [Bq x] false,.slice [Bq x] false] (.val (.bool true)):=by
 have hS:=c_same11 x.2.m
 have oR:=Da x
 rw[Eo,Fe] at*
 generalize x.2.m=m at*
 have b1:((x.1:Int) !=x.1)=false:=by simp
 refine Zf [] func12 rfl ntmps12 results12 ?_
 (have z:=b1;(try push_cast[z])<;>repeat' (first|apply Zi<;>intro _|exact Zo|with_reducible apply Za)<;>try push_cast[z])
 all_goals first|omega|skip
 refine Zl (fun i=>i<=1) (fun i=>⟨[(5,.val (.int .i64 i)),(1,.slice [.val (.int .u64 x.1)::mcl m false] false),(0,.slice [.val (.int .u64 x.1)::mcl m false] false)],[],36⟩) (fun i=>1-i) 0 (A0D _) ?_ fun i hi=>?_
 ·apply Zw<;>push_cast
 ·rcases A17 i with rfl|hp
  ·have w1:IntKind.i64.wrap 1=1:=by decide
   (have z:=Za b1 w1;(try push_cast[z])<;>repeat' (first|apply Zi<;>intro _|refine Zc hS ?_|exact Zo|with_reducible apply Za)<;>try push_cast[z])
   all_goals first|omega|skip
   refine⟨1,by omega,by omega,?_⟩
   apply Zw<;>push_cast
  ·obtain rfl:i=1:=by omega
   (have z:=b1;(try push_cast[z])<;>repeat' (first|apply Zi<;>intro _|exact Zo|with_reducible apply Za)<;>try push_cast[z])
theorem Ue(n:Int)(h:0<=n/\n<=1000000):B1 (vI n)=0:=by
 have h0:Fh (vI n)=false:=by simp[Fh,vI,GV.kind,GV.b,GV.n,GV.s,GV.list,GV.obj,KO]
 have h1:Bp (vI n) 1=0:=by rw[Eu,h0];simp[vI,GV.kind]
 have h2:CR (vI n)=1:=by rw[JN];simp[vI,GV.kind]
 have h3:CZ (vI n)<=1024:=by
  have e:CZ (vI n)=(Lib.itoa n).length:=by rw[Ew];simp[vI,GV.kind,GV.n]
  rw[e];exact A0L (Lib.itoa_length_le _ (by omega) (by omega)) (by decide)
 simp only[B1,h1,h2]
 rw[if_neg (by simp),if_neg (by omega),if_neg (by omega)]
def mpI:Option Int->List GE
 |none=>[]
 |some s=>[(tN,vI s)]
def smI:Option Int->Int
 |none=>0
 |some s=>s
theorem getI(o:Option Int):Az tN (mpI o)=o.map vI:=by cases o<;>simp [mpI,Az]
theorem putI(o:Option Int)(v:GV):Br (tN,v) (mpI o)=[(tN,v)]:=by
 cases o with
 |none=>rfl
 |some s=>simp only[mpI,Br];rw[if_neg (by simp[DP]),if_pos trivial]
theorem okI(o:Option Int)(h:0<=smI o/\smI o<=1000000):VOk (mpI o):=by
 cases o with
 |none=>exact VOk.nil
 |some s=>exact VOk.nil.put (k:=tN) (v:=vI s) Qb (Ue s h) (by exact .mk _ _ _ _ [] [] (by simp) (by simp) (by simp) (by simp) (by simp only[smI] at h;omega) (by decide) (by simp))
theorem runI(o:Option Int)(n:Int)(h:0<=smI o/\smI o<=100000)(hn:0<=n/\n<=100000):TE (SMu.inc n).m (mpI o)=(0,mpI (some (smI o+n))):=by
 have hc:=Ju B1 FD (SMu.inc n)
 have ho:(C3 (Az tN (mpI o))).n=smI o:=by rw[getI];cases o<;>rfl
 have hk:¬((Az tN (mpI o)).isSome=true/\(C3 (Az tN (mpI o))).kind≠3):=by rw[getI];cases o<;>simp [C3,vI,GV.kind]
 have hw:IntKind.i64.wrap (smI o+n)=smI o+n:=A9 (by omega) (by omega)
 have hv:FB (mpI o) tN n=vI (smI o+n):=by unfold FB;rw[ho,hw];rfl
 have hov:ovf (C3 (Az tN (mpI o))).n n=false:=by
  unfold ovf
  rw[ho,hw]
  simp only[Bool.or_eq_false_iff,Bool.and_eq_false_iff,decide_eq_false_iff_not]
  exact⟨.inr (by omega),.inl (by omega)⟩
 have hC:Md (mpI o) tN n (B1 (FB (mpI o) tN n))=0:=by
  unfold Md
  rw[if_neg hk,hov,if_neg (by simp),hv,Ue _ (by omega)]
  unfold Gt
  rw[if_pos Qb]
 have hs:EK B1 (SMu.inc n).m (mpI o)=(0,mpI (some (smI o+n))):=by
  simp only[SMu.m,EK]
  rw[if_neg (by decide),if_neg (by decide),if_pos trivial,hC,if_pos rfl,hv,putI]
  rfl
 unfold TE L3
 rw[if_neg (by simpa using hc),hs,if_pos rfl]
def oI(d:Nat):Nat->Option Int
 |0=>none
 |i+1=>some (smI (oI d i)+((d:Int)+i))
theorem oI_le(d:Nat)(hd:d<=100):∀ i,i<=101->0<=smI (oI d i)/\smI (oI d i)<=300*i
 |0,_=>by simp[oI,smI]
 |i+1,h=>by
  have:=oI_le d hd i (by omega)
  simp only[oI,smI] at this|-
  omega
theorem trI(d:Nat)(hd:d<=100):∃ T:Nat->GT,T 0=.nil/\∀ i,i<=100->DB (T i) (mpI (oI d i))/\A0 prog 19 [Av (T i),.agg (Ao (SMu.inc ((d:Int)+i)).m)] (.tup [Av (T (i+1)),.val (.int .i64 0)]):=by
 have step:∀ i t,∃ t',i<=100->DB t (mpI (oI d i))->A0 prog 19 [Av t,.agg (Ao (SMu.inc ((d:Int)+i)).m)] (.tup [Av t',.val (.int .i64 0)])/\DB t' (mpI (oI d (i+1))):=by
  intro i t
  by_cases hh:i<=100/\DB t (mpI (oI d i))
  ·obtain⟨h0,h1⟩:=hh
   have hs:=oI_le d hd i (by omega)
   obtain⟨t',hR,r1,_,_⟩:=run_smu h1 (okI _ (by omega)) (by cases oI d i<;>simp [mpI]) (SMu.inc ((d:Int)+i))
   rw[runI _ _ (by omega) (by omega)] at hR r1
   exact⟨t',fun _ _=>⟨hR,r1⟩⟩
  ·exact⟨.nil,fun a b=>absurd ⟨a,b⟩ hh⟩
 refine⟨fun i=>Nat.rec .nil (fun i t=>Classical.choose (step i t)) i,rfl,?_⟩
 have key:∀ i,i<=100->DB (Nat.rec (motive:=fun _=>GT) .nil (fun i t=>Classical.choose (step i t)) i) (mpI (oI d i)):=by
  intro i
  induction i with
  |zero=>intro _;exact .inl ⟨rfl,rfl⟩
  |succ i ih=>
   intro hi
   exact(Classical.choose_spec (step i _) (by omega) (ih (by omega))).2
 intro i hi
 exact⟨key i hi,(Classical.choose_spec (step i _) hi (key i hi)).1⟩
abbrev opR(n:Int):List D:=[.val (.int .i64 1),.val (.string tN),.val (.int .i64 3),.val (.bool false),.val (.int .i64 n),.val (.string ByteArray.empty),.slice [] false,.slice [] false]
theorem Uv(n:Int):A0 prog 92 [.agg (opR n)] (.val (.bool false)):=by
 refine Zf [] func92 rfl ntmps92 results92 ?_
 ((try push_cast)<;>repeat' (first|apply Zi<;>intro _|exact Zp|with_reducible apply Za)<;>try push_cast)
theorem c_pMay1(n:Int)(hn:0<=n/\n<=1000000)(t:Bool):A0 prog 53 [.slice [opR n] t] (.val (.int .i64 0)):=by
 have hS:=Uv n
 have hK:=MM tN
 rw[Qb] at hK
 have hF:=JJ (vI n) (by exact .mk _ _ _ _ [] [] (by simp) (by simp) (by simp) (by simp) (by omega) (by decide) (by simp)) (by simp[wtV,vI,T3,T4])
 rw[Ue n hn,KV] at hF
 have w1:IntKind.i64.wrap 1=1:=by decide
 refine Zf [] func53 rfl ntmps53 results53 ?_
 ((try push_cast)<;>repeat' (first|apply Zi<;>intro _|exact Zp|with_reducible apply Za)<;>try push_cast)
 all_goals first|omega|skip
 refine Zl (fun i=>i<=1) (fun i=>⟨[(8,.val (.int .i64 i)),(7,.val (.int .i64 1)),(6,.slice [opR n] t),(0,.slice [opR n] t)],[],68⟩) (fun i=>1-i) 0 (A0D _) ?_ fun i hi=>?_
 ·apply Zw<;>push_cast
 ·rcases A17 i with rfl|hp
  ·(have z:=w1;(try push_cast[z])<;>repeat' (first|apply Zi<;>intro _|refine Zc hS ?_|refine Zc hK ?_|refine Zc hF ?_|exact Zo|with_reducible apply Za)<;>try push_cast[z])
   all_goals first|omega|skip
   refine⟨1,by omega,by omega,?_⟩
   apply Zw<;>push_cast [w1]
  ·obtain rfl:i=1:=by omega
   ((try push_cast)<;>repeat' (first|apply Zi<;>intro _|exact Zp|with_reducible apply Za)<;>try push_cast)
theorem Xy(n:Int)(hn:0<=n/\n<=1000000)(t:Bool){T:GT}{l:List GE}(h:DB T l)(hb:l.length<=1000):∃ T',A0 prog 27 [Av T,.slice [opR n] t] (.tup [Av T',.val (.int .i64 0)])/\DB T' (Br (tN,vI n) l):=by
 obtain⟨T',hP,hT'⟩:=QU h (by omega) tN (vI n) (by exact .mk _ _ _ _ [] [] (by simp) (by simp) (by simp) (by simp) (by omega) (by decide) (by simp))
 refine⟨T',?_,hT'⟩
 rw[KV] at hP
 have hM:=c_pMay1 n hn t
 have oT:=A3 T
 have o1:=B3 T
 have oT':=A3 T'
 have o1':=B3 T'
 have w1:IntKind.i64.wrap 1=1:=by decide
 simp only[Av] at*
 generalize Ac T=th at*
 generalize Ac T'=th' at*
 refine Zf [] func27 rfl ntmps27 results27 ?_
 (have z:=Za oT o1;(try push_cast[z])<;>repeat' (first|apply Zi<;>intro _|refine Zc hM ?_|exact Zo|with_reducible apply Za)<;>try push_cast[z])
 all_goals first|omega|skip
 refine Zl (fun i=>i<=1) (fun i=>⟨[(17,.val (.int .i64 i)),(16,.val (.int .i64 1)),(15,.slice [opR n] t),(4,.ref 8 0 0 1),(2,.ref 0 0 0 1)],[(0,.rows [[if i=0 then th else th']] 1),(8,.rows [[.any]] 1)],68⟩) (fun i=>1-i) 0 (A0D _) ?_ fun i hi=>?_
 ·apply Zw<;>push_cast [oT]
 ·rcases A17 i with rfl|hp
  ·rw[if_pos rfl]
   (have z:=Za oT<|Za o1<|Za oT'<|Za o1' w1;(try push_cast[z])<;>repeat' (first|apply Zi<;>intro _|refine Zc hP ?_|exact Zo|with_reducible apply Za)<;>try push_cast[z])
   all_goals first|omega|skip
   refine⟨1,by omega,by omega,?_⟩
   rw[if_neg (by decide)]
   apply Zw<;>push_cast [oT',w1]
  ·obtain rfl:i=1:=by omega
   rw[if_neg (by decide)]
   (have z:=Za oT' o1';(try push_cast[z])<;>repeat' (first|apply Zi<;>intro _|exact Zo|with_reducible apply Za)<;>try push_cast[z])
theorem c_num(n:Int):A0 prog 13 [.val (.int .i64 n)] (.agg [.val (.int .i64 3),.val (.bool false),.val (.int .i64 n),.val (.string ByteArray.empty),.slice [] true,.slice [] true]):=by
 refine Zf [] func13 rfl ntmps13 results13 ?_
 ((try push_cast)<;>repeat' (first|apply Zi<;>intro _|exact Zp|with_reducible apply Za)<;>try push_cast)
theorem Wc(p:GE):HM p p=true:=by
 unfold HM Jh
 rw[Sy _ _ (A0a _)]
 simp
theorem LD:∀ a:List GE,Ck a a=true
 |[]=>rfl
 |p::a=>by unfold Ck;rw[Wc,LD a];rfl
abbrev enH(b:Nat)(Z:List (List D)):Hp:=[(b,.grow Z 7)]
theorem c_has(T:GT)(l:List GE)(h:DB T l)(hb:l.length<=1000):A0 prog 14 [Av T,.slice (l.map A7) false] (.val (.bool true)):=by
 have hE:=MS T l h (by omega)
 have hS:=N8 l l
 rw[LD] at hS
 have oM:A6 (l.map A7)=true:=Bu l
 have lM:(l.map A7).length=l.length:=by simp
 have oT:=A3 T
 have o1:=B3 T
 simp only[Av] at*
 generalize Ac T=th at*
 generalize l.map A7=Z at*
 refine Zf [] func14 rfl ntmps14 results14 ?_
 (have z:=Za oT<|Za o1<|Za oM lM;(try push_cast[z])<;>repeat' (first|apply Zi<;>intro _|refine Zs [] hE ?_|exact Zo|with_reducible apply Za|((with_reducible show A1 _ _ _ _ _ _ _ _);refine A1.lend (enH 24 Z) _ rfl (by exact hS ..) (by first|exact .inl rfl|exact .inr ⟨_,_,_,rfl,rfl,rfl⟩) ?_ ?_ ?_ (by first|rfl|push_cast [z]) ?_;(· push_cast[z]<;>(with_unfolding_all exact A8 _));(· push_cast[z]<;>first|exact fun _=>trivial|(with_unfolding_all exact A8 _));(· push_cast[z]);try push_cast[z])|fail)<;>try push_cast[z])
 all_goals first|omega|skip
def gsG(b c sz:Nat):D->D
 |.gref b' n=>bif b'==b then .gsub c 0 n sz else .gref b' n
 |d=>d
theorem rep_gsG{w:World}{I:Nat->Prop}{mu mu':Nat->Option Value}{b c m sz cap:Nat}{A:Option Addr}(hm:∀ b x,mu b=some x->mu' b=some x)(hb:mu b=some (.slice A m cap))(hmc:m<=cap)(hc:mu' c=some (.slice A m cap)){d:D}{v:Value}(hv:Rep w I mu d v):Rep w I mu' (gsG b c sz d) v:=by
 have hv':=hv.mono (fun _ _=>rfl) (fun _ h=>h) hm
 cases d with
 |gref b' n=>
  simp only[gsG]
  cases hq:(b'==b) with
  |true=>
   obtain rfl:b'=b:=by simpa using hq
   cases hv with
   |gref _ _ A' cap' h=>
    rw[hb] at h
    simp only[A03,A0N] at h
    obtain⟨rfl,rfl,rfl⟩:=h
    have:=Rep.gsub (w:=w) (I:=I) c 0 m sz A A m cap hc (by omega) (fun _=>by cases A<;>simp [Addr.add])
    rw[Nat.sub_zero] at this
    exact this
  |false=>exact hv'
 |_=>exact hv'
theorem Ar.toSub{s:St}{b sz:Nat}{es:List (List D)}(hb:Ad s.hp b=some (.grow es sz)):Ar s (reS b (gsG b (2*s.nx) sz) (.grow es sz) s):=by
 intro w0 M0 I0 nt I mu a w r
 obtain⟨A,cap,T,us,g1,g2,g3,g4⟩:=r.w.blk b _ hb
 have hnone:mu (2*s.nx)=none:=r.w.fresh _ ⟨by omega,A0a _⟩
 have hmm:=Bs (v:=.slice A es.length cap) hnone
 have hcap:es.length<=cap:=by
  rcases g4 with⟨g4,rfl⟩|⟨k,q0,q1,q2,q3,q4,q5⟩
  ·simp[g4]
  ·exact q3
 refine⟨I,_,r.re (b:=b) (u:=.slice A es.length cap) rfl hb ⟨⟨A,cap,T,us,by simp[Ax],g2,g3,?_⟩,fun k' hk=>⟨_,g1,by cases A with
  |none=>simp [Ae] at hk
  |some a=>exact hk⟩,fun d v hv=>rep_gsG hmm g1 hcap (by simp[Ax]) hv⟩⟩
 rcases g4 with g4|⟨k,q0,q1,q2,q3,q4,q5⟩
 ·exact .inl g4
 ·exact .inr ⟨k,q0,q1,q2,q3,q4,fun i j hi hj=>(q5 i j hi hj).mono (fun _ _=>rfl) (fun _ h=>h) hmm⟩
theorem c_is(v:GV):A2 prog 87 [.ref 1 0 0 23,.agg (A5 v),.val (.int .i64 v.kind)] [] (.val (.bool true)) []:=by
 rw[A4]
 refine Zd [] func87 rfl ntmps87 results87 ?_
 ((try push_cast)<;>repeat' (first|apply Zi<;>intro _|exact Zp|with_reducible apply Za)<;>try push_cast)
 apply Zw<;>push_cast
theorem Kt(n:Nat)(h:Dd n):A2 prog 88 [.ref 1 0 0 23,.agg (A5 (vI n))] [] (.val (.int .u64 n)) []:=by
 have hI:=c_is (vI n)
 have w1:IntKind.u64.wrap (n:Int)=n:=by have:=h.2;simp[IntKind.wrap,IntKind.bits,IntKind.signed];omega
 rw[KV] at*
 change A2 _ _ [_,_,.val (.int .i64 3)] _ _ _ at hI
 refine Zd [] func88 rfl ntmps88 results88 ?_
 (have z:=w1;(try push_cast[z])<;>repeat' (first|apply Zi<;>intro _|refine Zs [(1,1)] hI ?_|exact Zo|with_reducible apply Za)<;>try push_cast[z])
 apply Zw<;>push_cast
abbrev rdR(c:Nat)(l:D)(i:Nat)(U:List D):Blk:=.rows [.val (.int .i64 0):: .val (.int .u64 c)::l:: .val (.int .u64 i)::U] 23
abbrev ptF(f:Nat):D:=.func (.func f) [.ref 1 0 0 23] []
theorem Pk(k1 k2:ByteArray)(v u:GV)(f1 f2:Nat)(c0 c1 c2 i0 i1 i2:Nat)(l0 l1 l2:List (List D))(t0 t1 t2:Bool)(U0 U1 U2:List D)(p0:A6 l0=true)(p1:A6 l1=true)(p2:A6 l2=true)(q0:Ag U0=true)(q1:Ag U1=true)(q2:Ag U2=true)
  (h1:A2 prog f1 [.ref 1 0 0 23,.agg (A5 v)] [(1,rdR c0 (.slice l0 t0) i0 U0)] (.tup []) [(1,rdR c1 (.slice l1 t1) i1 U1)]) (h2:A2 prog f2 [.ref 1 0 0 23,.agg (A5 u)] [(1,rdR c1 (.slice l1 t1) i1 U1)] (.tup []) [(1,rdR c2 (.slice l2 t2) i2 U2)]):
  A2 prog 49 [.ref 1 0 0 23,.agg (A5 (vO [(k1,v),(k2,u)])),.sref 3 0 2 2 2] [(1,rdR c0 (.slice l0 t0) i0 U0),(3,.rows [[.val (.string k1),ptF f1],[.val (.string k2),ptF f2]] 2)] (.tup []) [(1,rdR c2 (.slice l2 t2) i2 U2)]:=by
 have hI:=c_is (vO [(k1,v),(k2,u)])
 rw[Mm] at*
 change A2 _ _ [_,_,.val (.int .i64 6)] _ _ _ at hI
 simp only[A0h,A0G,Ah] at*
 obtain⟨x1,x2,x3,x4⟩:=An v
 obtain⟨y1,y2,y3,y4⟩:=An u
 generalize A5 v=V at*
 generalize A5 u=W at*
 have w1:IntKind.i64.wrap 1=1:=by decide
 have w2:IntKind.i64.wrap 2=2:=by decide
 refine Zd [] func49 rfl ntmps49 results49 ?_
 (have z:=Za x1<|Za x2<|Za x3<|Za x4<|Za y1<|Za y2<|Za y3<|Za y4<|Za p0<|Za p1<|Za p2<|Za q0<|Za q1 q2;(try push_cast[z])<;>repeat' (first|apply Zi<;>intro _|refine Zs [(1,1)] hI ?_|exact Zo|with_reducible apply Za)<;>try push_cast[z])
 all_goals first|omega|skip
 refine Zl (fun i=>i<=2) (fun i=>⟨[(25,.val (.int .i64 i)),(24,.val (.int .i64 2)),(23,.sref 3 0 2 2 2),(0,.ref 1 0 0 23),(2,.sref 3 0 2 2 2),(4,.ref 8 0 0 6)],[(1,rdR c0 (.slice l0 t0) i0 U0),(3,.rows [[.val (.string k1),ptF f1],[.val (.string k2),ptF f2]] 2),(8,vB 6 (.slice [] false) (.slice [.val (.string k1)::V,.val (.string k2)::W] false))],400⟩) (fun i=>2-i) 0 (by simp) ?_ fun i hi=>?_
 ·apply Zw<;>push_cast [x1,y1,p0,q0]
  all_goals first|rfl|trace_state
 ·obtain rfl|rfl|rfl:i=0∨i=1∨i=2:=by omega
  ·simp only[Int.ofNat_zero,Int.natCast_zero]
   (have z:=Za x1<|Za x2<|Za x3<|Za x4<|Za y1<|Za y2<|Za y3<|Za y4<|Za p0<|Za p1<|Za p2<|Za q0<|Za q1<|Za q2<|Za w1 w2;(try push_cast[z])<;>repeat' (first|apply Zi<;>intro _|exact Zo|with_reducible apply Za)<;>try push_cast[z])
   all_goals first|omega|skip
   refine⟨1,by decide,by decide,?_⟩
   apply Zw<;>push_cast [x1,y1,p0,q0,w1,w2]
   all_goals first|rfl|trace_state
  ·(have z:=Za x1<|Za x2<|Za x3<|Za x4<|Za y1<|Za y2<|Za y3<|Za y4<|Za p0<|Za p1<|Za p2<|Za q0<|Za q1<|Za q2<|Za w1 w2;(try push_cast[z])<;>repeat' (first|apply Zi<;>intro _|exact Zo|with_reducible apply Za)<;>try push_cast[z])
   all_goals first|omega|skip
   refine⟨2,by decide,by decide,?_⟩
   apply Zw<;>push_cast [x1,y1,p0,q0,w1,w2]
   all_goals first|rfl|trace_state
  ·(have z:=Za x1<|Za x2<|Za x3<|Za x4<|Za y1<|Za y2<|Za y3<|Za y4<|Za p0<|Za p1<|Za p2<|Za q0<|Za q1<|Za q2<|Za w1 w2;(try push_cast[z])<;>repeat' (first|apply Zi<;>intro _|exact Zo|with_reducible apply Za)<;>try push_cast[z])
   all_goals first|omega|skip
   refine Zl (fun i=>i<=2) (fun i=>match i with
    |0=>⟨[(45,.val (.int .i64 0)),(44,.val (.int .i64 2)),(43,.sref 3 0 2 2 2),(0,.ref 1 0 0 23),(4,.ref 8 0 0 6)],[(1,rdR c0 (.slice l0 t0) i0 U0),(3,.rows [[.val (.string k1),ptF f1],[.val (.string k2),ptF f2]] 2),(8,vB 6 (.slice [] false) (.slice [.val (.string k1)::V,.val (.string k2)::W] false))],600⟩
    |1=>⟨[(45,.val (.int .i64 1)),(44,.val (.int .i64 2)),(43,.sref 3 0 2 2 2),(0,.ref 1 0 0 23),(4,.ref 8 0 0 6)],[(1,rdR c1 (.slice l1 t1) i1 U1),(3,.rows [[.val (.string k1),ptF f1],[.val (.string k2),ptF f2]] 2),(8,vB 6 (.slice [] false) (.slice [.val (.string k1)::V,.val (.string k2)::W] false))],600⟩
    |_=>⟨[(45,.val (.int .i64 2)),(44,.val (.int .i64 2)),(43,.sref 3 0 2 2 2),(0,.ref 1 0 0 23),(4,.ref 8 0 0 6)],[(1,rdR c2 (.slice l2 t2) i2 U2),(3,.rows [[.val (.string k1),ptF f1],[.val (.string k2),ptF f2]] 2),(8,vB 6 (.slice [] false) (.slice [.val (.string k1)::V,.val (.string k2)::W] false))],600⟩) (fun i=>2-i) 0 (by simp) ?_ fun i hi=>?_
   ·apply Zw<;>push_cast [x1,y1,p0,q0,p1,q1,p2,q2,w1,w2]
    all_goals first|rfl|trace_state
   ·obtain rfl|rfl|rfl:i=0∨i=1∨i=2:=by omega
    ·simp only
     (have z:=Za x1<|Za x2<|Za x3<|Za x4<|Za y1<|Za y2<|Za y3<|Za y4<|Za p0<|Za p1<|Za p2<|Za q0<|Za q1<|Za q2<|Za w1 w2;(try push_cast[z])<;>repeat' (first|apply Zi<;>intro _|refine Zt [(1,1)] h1 ?_|exact Zo|with_reducible apply Za)<;>try push_cast[z])
     all_goals first|omega|skip
     refine⟨1,by decide,by decide,?_⟩
     simp only
     apply Zw<;>push_cast [x1,y1,p0,q0,p1,q1,p2,q2,w1,w2]
     all_goals first|rfl|trace_state
    ·simp only
     (have z:=Za x1<|Za x2<|Za x3<|Za x4<|Za y1<|Za y2<|Za y3<|Za y4<|Za p0<|Za p1<|Za p2<|Za q0<|Za q1<|Za q2<|Za w1 w2;(try push_cast[z])<;>repeat' (first|apply Zi<;>intro _|refine Zt [(1,1)] h2 ?_|exact Zo|with_reducible apply Za)<;>try push_cast[z])
     all_goals first|omega|skip
     refine⟨2,by decide,by decide,?_⟩
     simp only
     apply Zw<;>push_cast [x1,y1,p0,q0,p1,q1,p2,q2,w1,w2]
     all_goals first|rfl|trace_state
    ·simp only
     (have z:=Za x1<|Za x2<|Za x3<|Za x4<|Za y1<|Za y2<|Za y3<|Za y4<|Za p0<|Za p1<|Za p2<|Za q0<|Za q1<|Za q2<|Za w1 w2;(try push_cast[z])<;>repeat' (first|apply Zi<;>intro _|exact Zo|with_reducible apply Za)<;>try push_cast[z])
     all_goals first|omega|skip
     apply Zw<;>push_cast [x1,y1,p0,q0,p1,q1,p2,q2,w1,w2]
theorem UA(k1 k2:ByteArray)(v u:GV)(f1 f2:Nat)(c0 c1 c2 i0 i1 i2:Nat)(n:Nat)(G:List (List D))(U0 U1 U2:List D)(p0:A6 G=true)(q0:Ag U0=true)(q1:Ag U1=true)(q2:Ag U2=true)
  (h1:A2 prog f1 [.ref 1 0 0 23,.agg (A5 v)] [(1,rdR c0 (.gref 4 n) i0 U0),(4,.grow G 20)] (.tup []) [(1,rdR c1 (.gref 4 n) i1 U1),(4,.grow G 20)]) (h2:A2 prog f2 [.ref 1 0 0 23,.agg (A5 u)] [(1,rdR c1 (.gref 4 n) i1 U1),(4,.grow G 20)] (.tup []) [(1,rdR c2 (.gref 4 n) i2 U2),(4,.grow G 20)]):
  A2 prog 49 [.ref 1 0 0 23,.agg (A5 (vO [(k1,v),(k2,u)])),.sref 3 0 2 2 2] [(1,rdR c0 (.gref 4 n) i0 U0),(4,.grow G 20),(3,.rows [[.val (.string k1),ptF f1],[.val (.string k2),ptF f2]] 2)] (.tup []) [(1,rdR c2 (.gref 4 n) i2 U2),(4,.grow G 20)]:=by
 have hI:=c_is (vO [(k1,v),(k2,u)])
 rw[Mm] at*
 change A2 _ _ [_,_,.val (.int .i64 6)] _ _ _ at hI
 simp only[A0h,A0G,Ah] at*
 obtain⟨x1,x2,x3,x4⟩:=An v
 obtain⟨y1,y2,y3,y4⟩:=An u
 generalize A5 v=V at*
 generalize A5 u=W at*
 have w1:IntKind.i64.wrap 1=1:=by decide
 have w2:IntKind.i64.wrap 2=2:=by decide
 refine Zd [] func49 rfl ntmps49 results49 ?_
 (have z:=Za x1<|Za x2<|Za x3<|Za x4<|Za y1<|Za y2<|Za y3<|Za y4<|Za p0<|Za q0<|Za q1 q2;(try push_cast[z])<;>repeat' (first|apply Zi<;>intro _|refine Zs [(1,1)] hI ?_|exact Zo|with_reducible apply Za)<;>try push_cast[z])
 all_goals first|omega|skip
 refine Zl (fun i=>i<=2) (fun i=>⟨[(25,.val (.int .i64 i)),(24,.val (.int .i64 2)),(23,.sref 3 0 2 2 2),(0,.ref 1 0 0 23),(2,.sref 3 0 2 2 2),(4,.ref 8 0 0 6)],[(1,rdR c0 (.gref 4 n) i0 U0),(4,.grow G 20),(3,.rows [[.val (.string k1),ptF f1],[.val (.string k2),ptF f2]] 2),(8,vB 6 (.slice [] false) (.slice [.val (.string k1)::V,.val (.string k2)::W] false))],400⟩) (fun i=>2-i) 0 (by simp) ?_ fun i hi=>?_
 ·apply Zw<;>push_cast [x1,y1,p0,q0]
  all_goals first|rfl|trace_state
 ·obtain rfl|rfl|rfl:i=0∨i=1∨i=2:=by omega
  ·simp only[Int.ofNat_zero,Int.natCast_zero]
   (have z:=Za x1<|Za x2<|Za x3<|Za x4<|Za y1<|Za y2<|Za y3<|Za y4<|Za p0<|Za q0<|Za q1<|Za q2<|Za w1 w2;(try push_cast[z])<;>repeat' (first|apply Zi<;>intro _|exact Zo|with_reducible apply Za)<;>try push_cast[z])
   all_goals first|omega|skip
   refine⟨1,by decide,by decide,?_⟩
   apply Zw<;>push_cast [x1,y1,p0,q0,w1,w2]
   all_goals first|rfl|trace_state
  ·(have z:=Za x1<|Za x2<|Za x3<|Za x4<|Za y1<|Za y2<|Za y3<|Za y4<|Za p0<|Za q0<|Za q1<|Za q2<|Za w1 w2;(try push_cast[z])<;>repeat' (first|apply Zi<;>intro _|exact Zo|with_reducible apply Za)<;>try push_cast[z])
   all_goals first|omega|skip
   refine⟨2,by decide,by decide,?_⟩
   apply Zw<;>push_cast [x1,y1,p0,q0,w1,w2]
   all_goals first|rfl|trace_state
  ·(have z:=Za x1<|Za x2<|Za x3<|Za x4<|Za y1<|Za y2<|Za y3<|Za y4<|Za p0<|Za q0<|Za q1<|Za q2<|Za w1 w2;(try push_cast[z])<;>repeat' (first|apply Zi<;>intro _|exact Zo|with_reducible apply Za)<;>try push_cast[z])
   all_goals first|omega|skip
   refine Zl (fun i=>i<=2) (fun i=>match i with
    |0=>⟨[(45,.val (.int .i64 0)),(44,.val (.int .i64 2)),(43,.sref 3 0 2 2 2),(0,.ref 1 0 0 23),(4,.ref 8 0 0 6)],[(1,rdR c0 (.gref 4 n) i0 U0),(4,.grow G 20),(3,.rows [[.val (.string k1),ptF f1],[.val (.string k2),ptF f2]] 2),(8,vB 6 (.slice [] false) (.slice [.val (.string k1)::V,.val (.string k2)::W] false))],600⟩
    |1=>⟨[(45,.val (.int .i64 1)),(44,.val (.int .i64 2)),(43,.sref 3 0 2 2 2),(0,.ref 1 0 0 23),(4,.ref 8 0 0 6)],[(1,rdR c1 (.gref 4 n) i1 U1),(4,.grow G 20),(3,.rows [[.val (.string k1),ptF f1],[.val (.string k2),ptF f2]] 2),(8,vB 6 (.slice [] false) (.slice [.val (.string k1)::V,.val (.string k2)::W] false))],600⟩
    |_=>⟨[(45,.val (.int .i64 2)),(44,.val (.int .i64 2)),(43,.sref 3 0 2 2 2),(0,.ref 1 0 0 23),(4,.ref 8 0 0 6)],[(1,rdR c2 (.gref 4 n) i2 U2),(4,.grow G 20),(3,.rows [[.val (.string k1),ptF f1],[.val (.string k2),ptF f2]] 2),(8,vB 6 (.slice [] false) (.slice [.val (.string k1)::V,.val (.string k2)::W] false))],600⟩) (fun i=>2-i) 0 (by simp) ?_ fun i hi=>?_
   ·apply Zw<;>push_cast [x1,y1,p0,q0,q1,q2,w1,w2]
    all_goals first|rfl|trace_state
   ·obtain rfl|rfl|rfl:i=0∨i=1∨i=2:=by omega
    ·simp only
     (have z:=Za x1<|Za x2<|Za x3<|Za x4<|Za y1<|Za y2<|Za y3<|Za y4<|Za p0<|Za q0<|Za q1<|Za q2<|Za w1 w2;(try push_cast[z])<;>repeat' (first|apply Zi<;>intro _|refine Zt [(1,1),(4,4)] h1 ?_|exact Zo|with_reducible apply Za)<;>try push_cast[z])
     all_goals first|omega|skip
     refine⟨1,by decide,by decide,?_⟩
     simp only
     apply Zr [(4,1324)] rfl<;>push_cast [x1,y1,p0,q0,q1,q2,w1,w2]
     all_goals first|rfl|trace_state
    ·simp only
     (have z:=Za x1<|Za x2<|Za x3<|Za x4<|Za y1<|Za y2<|Za y3<|Za y4<|Za p0<|Za q0<|Za q1<|Za q2<|Za w1 w2;(try push_cast[z])<;>repeat' (first|apply Zi<;>intro _|refine Zt [(1,1),(4,4)] h2 ?_|exact Zo|with_reducible apply Za)<;>try push_cast[z])
     all_goals first|omega|skip
     refine⟨2,by decide,by decide,?_⟩
     simp only
     apply Zr [(4,1324)] rfl<;>push_cast [x1,y1,p0,q0,q1,q2,w1,w2]
     all_goals first|rfl|trace_state
    ·simp only
     (have z:=Za x1<|Za x2<|Za x3<|Za x4<|Za y1<|Za y2<|Za y3<|Za y4<|Za p0<|Za q0<|Za q1<|Za q2<|Za w1 w2;(try push_cast[z])<;>repeat' (first|apply Zi<;>intro _|exact Zo|with_reducible apply Za)<;>try push_cast[z])
     all_goals first|omega|skip
     apply Zw<;>push_cast [x1,y1,p0,q0,q1,q2,w1,w2]
theorem Xw(c c0 i:Nat)(h:Dd c)(l:List (List D))(t:Bool)(U:List D)(p:A6 l=true)(q:Ag U=true):A2 prog 50 [.ref 1 0 0 23,.agg (A5 (vI c))] [(1,rdR c0 (.slice l t) i U)] (.tup []) [(1,rdR c (.slice l t) i U)]:=by
 have hN:=Kt c h
 obtain⟨x1,x2,x3,x4⟩:=An (vI c)
 generalize A5 (vI c)=V at*
 refine Zd [] func50 rfl ntmps50 results50 ?_
 (have z:=Za p<|Za q<|Za x1<|Za x2<|Za x3 x4;(try push_cast[z])<;>repeat' (first|apply Zi<;>intro _|refine Zs [(1,1)] hN ?_|exact Zo|with_reducible apply Za)<;>try push_cast[z])
 all_goals first|omega|skip
 apply Zw<;>push_cast [p,q,x1]
theorem c_rId(c i i0:Nat)(h:Dd i)(l:List (List D))(t:Bool)(U:List D)(p:A6 l=true)(q:Ag U=true):A2 prog 90 [.ref 1 0 0 23,.agg (A5 (vI i))] [(1,rdR c (.slice l t) i0 U)] (.tup []) [(1,rdR c (.slice l t) i U)]:=by
 have hN:=Kt i h
 obtain⟨x1,x2,x3,x4⟩:=An (vI i)
 generalize A5 (vI i)=V at*
 refine Zd [] func90 rfl ntmps90 results90 ?_
 (have z:=Za p<|Za q<|Za x1<|Za x2<|Za x3 x4;(try push_cast[z])<;>repeat' (first|apply Zi<;>intro _|refine Zs [(1,1)] hN ?_|exact Zo|with_reducible apply Za)<;>try push_cast[z])
 all_goals first|omega|skip
 apply Zw<;>push_cast [p,q,x1]
theorem c_rIdG(c i i0 n:Nat)(h:Dd i)(G:List (List D))(U:List D)(p:A6 G=true)(q:Ag U=true):A2 prog 90 [.ref 1 0 0 23,.agg (A5 (vI i))] [(1,rdR c (.gref 4 n) i0 U),(4,.grow G 20)] (.tup []) [(1,rdR c (.gref 4 n) i U),(4,.grow G 20)]:=by
 have hN:=Kt i h
 obtain⟨x1,x2,x3,x4⟩:=An (vI i)
 generalize A5 (vI i)=V at*
 refine Zd [] func90 rfl ntmps90 results90 ?_
 (have z:=Za p<|Za q<|Za x1<|Za x2<|Za x3 x4;(try push_cast[z])<;>repeat' (first|apply Zi<;>intro _|refine Zs [(1,1)] hN ?_|exact Zo|with_reducible apply Za)<;>try push_cast[z])
 all_goals first|omega|skip
 apply Zw<;>push_cast [p,q,x1]
def Y1:Prop:=∀ m:SMu,m.ok->A0 prog 151 [.agg (A5 m.o)] (.tup [.agg (Ao m.m),.val (.int .i64 0)])
theorem c_rMut(hO:Y1)(m:SMu)(hm:m.ok)(c i:Nat)(l:List (List D))(t:Bool)(U:List D)(p:A6 l=true)(q:Ag U=true)(q2:U.length=19):A2 prog 91 [.ref 1 0 0 23,.agg (A5 m.o)] [(1,rdR c (.slice l t) i U)] (.tup []) [(1,rdR c (.slice l t) i (Ao m.m))]:=by
 have hF:=hO m hm
 obtain⟨x1,x2,x3,x4⟩:=An m.o
 obtain⟨y1,y2,y3,y4⟩:=Hx m.m
 have q5:U.drop 19=[]:=A0i (by omega)
 generalize A5 m.o=V at*
 generalize Ao m.m=W at*
 refine Zd [] func91 rfl ntmps91 results91 ?_
 (have z:=Za p<|Za q<|Za q2<|Za q5<|Za x1<|Za x2<|Za x3<|Za x4<|Za y1<|Za y2<|Za y3 y4;(try push_cast[z])<;>repeat' (first|apply Zi<;>intro _|refine Zc hF ?_|exact Zo|with_reducible apply Za)<;>try push_cast[z])
 all_goals first|omega|skip
 apply Zw<;>push_cast [p,q,x1,y1,y2,q5,A0H]
theorem c_rMutG(hO:Y1)(m:SMu)(hm:m.ok)(c i n:Nat)(G:List (List D))(U:List D)(p:A6 G=true)(q:Ag U=true)(q2:U.length=19):A2 prog 91 [.ref 1 0 0 23,.agg (A5 m.o)] [(1,rdR c (.gref 4 n) i U),(4,.grow G 20)] (.tup []) [(1,rdR c (.gref 4 n) i (Ao m.m)),(4,.grow G 20)]:=by
 have hF:=hO m hm
 obtain⟨x1,x2,x3,x4⟩:=An m.o
 obtain⟨y1,y2,y3,y4⟩:=Hx m.m
 have q5:U.drop 19=[]:=A0i (by omega)
 generalize A5 m.o=V at*
 generalize Ao m.m=W at*
 refine Zd [] func91 rfl ntmps91 results91 ?_
 (have z:=Za p<|Za q<|Za q2<|Za q5<|Za x1<|Za x2<|Za x3<|Za x4<|Za y1<|Za y2<|Za y3 y4;(try push_cast[z])<;>repeat' (first|apply Zi<;>intro _|refine Zc hF ?_|exact Zo|with_reducible apply Za)<;>try push_cast[z])
 all_goals first|omega|skip
 apply Zw<;>push_cast [p,q,x1,y1,y2,q5,A0H]
def itR(c:Nat)(L:List SN):Nat->Hp
 |0=>[(1,rdR c (.slice [] true) 0 (Ao (GM.mk 0 ByteArray.empty ByteArray.empty 0 false zV false zV [])))]
 |j+1=>[(1,rdR c (.gref 4 (j+1)) (L.getD j zS).1 (Ao (L.getD j zS).2.m)),(4,.grow ((L.take (j+1)).map fun x=>BA (snN x)) 20)]
def itH(a b:Code)(c:Nat)(L:List SN)(i:Nat):Hp:=(7,.loop [(2,.ptr [.ref 1 0 0 23] 0)] 46 .ready none [11] a b)::itR c L i
theorem JF(a b:Code)(c:Nat)(L:List SN):itH a b c L 0=[(7,.loop [(2,.ptr [.ref 1 0 0 23] 0)] 46 .ready none [11] a b),(1,rdR c (.slice [] true) 0 (Ao (GM.mk 0 ByteArray.empty ByteArray.empty 0 false zV false zV [])))]:=rfl
theorem Dx(a b:Code)(c:Nat)(L:List SN)(j:Nat):itH a b c L (j+1)=[(7,.loop [(2,.ptr [.ref 1 0 0 23] 0)] 46 .ready none [11] a b),(1,rdR c (.gref 4 (j+1)) (L.getD j zS).1 (Ao (L.getD j zS).2.m)),(4,.grow ((L.take (j+1)).map fun x=>BA (snN x)) 20)]:=rfl
theorem c_items(V:List D)(x1:Ag V=true)(x2:V.length=6)(x3:V.all AN=true):A0 prog 89 [.agg V] (.func (.func 150) [] [.ptr V 0]):=by
 refine Zf [0] func89 rfl ntmps89 results89 ?_
 (have z:=Za x1<|Za x2 x3;(try push_cast[z])<;>repeat' (first|apply Zi<;>intro _|exact Zo|with_reducible apply Za)<;>try push_cast[z])
theorem SR{a b:Code}(c:Nat)(L:List SN)(hl:L.length<=64)(hY:∀ i,i<L.length->DA prog 7 [.agg (A5 (snO (L.getD i zS)))] (itH a b c L i) (.val (.bool true)) (itH a b c L (i+1))):
  A2 prog 150 [.yld 7,.ptr (A5 (vL (L.map snO))) 0] (itH a b c L 0) (.tup []) (itH a b c L L.length):=by
 rw[enc_L]
 have oL:=FF (L.map snO)
 have e0:((L.map snO).map A5).length=L.length:=by simp
 have e1:∀ i,i<L.length->nr ((L.map snO).map A5) i=A5 (snO (L.getD i zS)):=fun i hi=>by
  simp[nr,A02,hi]
 generalize(L.map snO).map A5=X at*
 have z1:=Ay (GM.mk 0 ByteArray.empty ByteArray.empty 0 false zV false zV [])
 conv=>arg 4;rw[JF]
 refine Zd [] func150 rfl ntmps150 results150 ?_
 (have z:=Za oL<|Za e0 z1;(try push_cast[z])<;>repeat' (first|apply Zi<;>intro _|exact Zo|with_reducible apply Za)<;>try push_cast[z])
 all_goals first|omega|skip
 refine Zl (fun i=>i<=L.length) (fun i=>⟨[(8,.val (.int .i64 i)),(7,.val (.int .i64 L.length)),(6,.slice X false),(0,.yld 7)],itH a b c L i,400⟩) (fun i=>L.length-i) 0 (by simp) ?_ fun i hi=>?_
 ·rw[JF]
  apply Zw<;>push_cast [oL,z1]
 ·by_cases h4:i<L.length
  ·have e2:=e1 i h4
   have hy:=hY i h4
   have b1:decide ((i:Int)<L.length)=true:=decide_eq_true (by omega)
   have w1:IntKind.i64.wrap (↑i+1)=↑i+1:=A9 (by omega) (by omega)
   obtain⟨x1,x2,x3,x4⟩:=An (snO (L.getD i zS))
   generalize A5 (snO (L.getD i zS))=V at*
   cases i with
   |zero=>
    rw[Dx] at hy
    rw[JF] at*
    have y1:=Ay (L.getD 0 zS).2.m
    have t1:A6 ((L.take (0+1)).map fun x=>BA (snN x))=true:=AF (fun x=>Cx (snN x)) _
    have b0:decide ((0:Int)<L.length)=true:=decide_eq_true (by omega)
    have w0:IntKind.i64.wrap 1=1:=by decide
    (have z:=Za oL<|Za e0<|Za z1<|Za e2<|Za b0<|Za w0<|Za x1<|Za x2<|Za x3<|Za x4<|Za y1 t1;(try push_cast[z])<;>repeat' (first|apply Zi<;>intro _|exact Zo|with_reducible apply Za|(with_reducible show A1 _ _ _ _ _ _ _ _;refine A1.yield 7 (BK [(7,7),(1,1)]) rfl ?_ (by(try push_cast[z]);exact hy ..) ?_ (by first|exact .inl rfl|exact .inr ⟨_,_,_,rfl,rfl,rfl⟩) ?_ ?_ ?_ ?_;(· push_cast[z]);(· push_cast[z]<;>(with_unfolding_all exact A8 _));(· push_cast[z]<;>(with_unfolding_all exact A8 _));(· push_cast[z]<;>(with_unfolding_all exact A8 _));(· push_cast[z]<;>(with_unfolding_all exact A8 _));try push_cast[z])|fail)<;>try push_cast[z])
    all_goals first|omega|skip
    refine⟨1,h4,by omega,?_⟩
    rw[Dx]
    apply Zr [(4,860)] rfl<;>push_cast [y1,t1,oL]
    all_goals first|rfl|trace_state
   |succ j=>
    rw[Dx] at hy
    rw[Dx] at hy
    rw[Dx] at*
    have y0:=Ay (L.getD j zS).2.m
    have y1:=Ay (L.getD (j+1) zS).2.m
    have t0:A6 ((L.take (j+1)).map fun x=>BA (snN x))=true:=AF (fun x=>Cx (snN x)) _
    have t1:A6 ((L.take (j+1+1)).map fun x=>BA (snN x))=true:=AF (fun x=>Cx (snN x)) _
    have b0:decide ((↑j+1:Int)<L.length)=true:=decide_eq_true (by omega)
    have w0:IntKind.i64.wrap (↑j+1+1)=↑j+1+1:=A9 (by omega) (by omega)
    have w9:((↑j+1:Int)).toNat=j+1:=by omega
    (have z:=Za oL<|Za e0<|Za z1<|Za e2<|Za b0<|Za w0<|Za w9<|Za x1<|Za x2<|Za x3<|Za x4<|Za y0<|Za y1<|Za t0 t1;(try push_cast[z])<;>repeat' (first|apply Zi<;>intro _|exact Zo|with_reducible apply Za|(with_reducible show A1 _ _ _ _ _ _ _ _;refine A1.yield 7 (BK [(7,7),(1,1),(4,4)]) rfl ?_ (by(try push_cast[z]);exact hy ..) ?_ (by first|exact .inl rfl|exact .inr ⟨_,_,_,rfl,rfl,rfl⟩) ?_ ?_ ?_ ?_;(· push_cast[z]);(· push_cast[z]<;>(with_unfolding_all exact A8 _));(· push_cast[z]<;>(with_unfolding_all exact A8 _));(· push_cast[z]<;>(with_unfolding_all exact A8 _));(· push_cast[z]<;>(with_unfolding_all exact A8 _));try push_cast[z])|fail)<;>try push_cast[z])
    all_goals first|omega|skip
    refine⟨j+1+1,h4,by omega,?_⟩
    rw[Dx]
    apply Zr [(4,860)] rfl<;>push_cast [y1,t1,oL]
    all_goals first|rfl|trace_state
  ·obtain rfl:i=L.length:=by omega
   have b0:decide ((L.length:Int)<L.length)=false:=decide_eq_false (by omega)
   cases hn:L.length with
   |zero=>
    rw[hn] at*
    rw[JF]
    (have z:=Za oL<|Za e0<|Za z1 hn;(try push_cast[z])<;>repeat' (first|apply Zi<;>intro _|exact Zo|with_reducible apply Za)<;>try push_cast[z])
    apply Zw<;>push_cast [z1]
    all_goals first|rfl|trace_state
   |succ j=>
    rw[hn] at*
    rw[Dx]
    have y0:=Ay (L.getD j zS).2.m
    have t0:A6 ((L.take (j+1)).map fun x=>BA (snN x))=true:=AF (fun x=>Cx (snN x)) _
    have b1:decide ((↑j+1:Int)<↑j+1)=false:=decide_eq_false (by omega)
    (have z:=Za oL<|Za e0<|Za z1<|Za b1<|Za y0 t0;(try push_cast[z])<;>repeat' (first|apply Zi<;>intro _|exact Zo|with_reducible apply Za)<;>try push_cast[z])
    apply Zw<;>push_cast [y0,t0]
    all_goals first|rfl|trace_state
theorem c_itemsZ{a b:Code}(c:Nat)(L:List SN)(hn:L=[]):A2 prog 150 [.yld 7,.ptr (A5 (vL (L.map snO))) 0] ((7,.loop [(2,.ptr [.ref 1 0 0 23] 0)] 46 .ready none [11] a b)::[(1,rdR c (.slice [] true) 0 (Ao (GM.mk 0 ByteArray.empty ByteArray.empty 0 false zV false zV [])))]) (.tup []) ((7,.loop [(2,.ptr [.ref 1 0 0 23] 0)] 46 .ready none [11] a b)::[(1,rdR c (.slice [] true) 0 (Ao (GM.mk 0 ByteArray.empty ByteArray.empty 0 false zV false zV [])))]):=by
 subst hn
 exact SR (a:=a) (b:=b) c [] (by simp) (fun i hi=>by simp at hi)
theorem c_itemsS{a b:Code}(c:Nat)(L:List SN)(hl:L.length<=64)(j:Nat)(hn:L.length=j+1)(hY:∀ i,i<L.length->DA prog 7 [.agg (A5 (snO (L.getD i zS)))] (itH a b c L i) (.val (.bool true)) (itH a b c L (i+1))):
  A2 prog 150 [.yld 7,.ptr (A5 (vL (L.map snO))) 0] ((7,.loop [(2,.ptr [.ref 1 0 0 23] 0)] 46 .ready none [11] a b)::[(1,rdR c (.slice [] true) 0 (Ao (GM.mk 0 ByteArray.empty ByteArray.empty 0 false zV false zV [])))]) (.tup []) ((7,.loop [(2,.ptr [.ref 1 0 0 23] 0)] 46 .ready none [11] a b)::[(1,rdR c (.gref 4 (j+1)) (L.getD j zS).1 (Ao (L.getD j zS).2.m)),(4,.grow ((L.take (j+1)).map fun x=>BA (snN x)) 20)]):=by
 have h:=SR c L hl hY
 rw[hn] at h
 exact h
theorem Lg:Ao (GM.mk 0 ByteArray.empty ByteArray.empty 0 false zV false zV [])=[.val (.int .i64 0),.val (.string ByteArray.empty),.val (.string ByteArray.empty),.val (.int .i64 0),.val (.bool false),.val (.int .i64 0),.val (.bool false),.val (.int .i64 0),.val (.string ByteArray.empty),.slice [] false,.slice [] false,.val (.bool false),.val (.int .i64 0),.val (.bool false),.val (.int .i64 0),.val (.string ByteArray.empty),.slice [] false,.slice [] false,.slice [] false]:=by
 rw[Bt];rfl
theorem c_rList(hO:Y1)(c:Nat)(L:List SN)(hl:L.length<=64)(hx:∀ x ∈ L,Dd x.1/\x.2.ok):
  A2 prog 51 [.ref 1 0 0 23,.agg (A5 (vL (L.map snO)))] [(1,rdR c (.slice [] true) 0 (Ao (GM.mk 0 ByteArray.empty ByteArray.empty 0 false zV false zV [])))] (.tup []) [(1,rdR c (.slice (L.map fun x=>BA (snN x)) false) (match L.length with|0=>0|j+1=>(L.getD j zS).1) (match L.length with|0=>Ao (GM.mk 0 ByteArray.empty ByteArray.empty 0 false zV false zV [])|j+1=>Ao (L.getD j zS).2.m))]:=by
 have hI:=c_is (vL (L.map snO))
 change A2 _ _ [_,_,.val (.int .i64 5)] _ _ _ at hI
 obtain⟨x1,x2,x3,x4⟩:=An (vL (L.map snO))
 have hT:=c_items (A5 (vL (L.map snO))) x1 x2 x3
 have z1:=Ay (GM.mk 0 ByteArray.empty ByteArray.empty 0 false zV false zV [])
 refine A2.of_awpW func51 rfl ntmps51 (by kernel_rfl) (by simp) (congrArg Array.toList results51) ?_
 refine BF.seqV [8] mixed (by kernel_rfl) ?_
 (have z:=Za x1<|Za x2<|Za x3<|Za x4 z1;(try push_cast[z])<;>repeat' (first|apply Zi<;>intro _|exact Zo|with_reducible apply Za)<;>try push_cast[z])
 refine BF.seqV [] mixed (by kernel_rfl) ?_
 (have z:=Za x1<|Za x2<|Za x3<|Za x4 z1;(try push_cast[z])<;>repeat' (first|apply Zi<;>intro _|refine Zs [(1,1)] hI ?_|exact Zo|with_reducible apply Za)<;>try push_cast[z])
 refine BF.seqV [] mixed (by kernel_rfl) ?_
 (have z:=Za x1<|Za x2<|Za x3<|Za x4 z1;(try push_cast[z])<;>repeat' (first|apply Zi<;>intro _|refine Zc hT ?_|exact Zo|with_reducible apply Za)<;>try push_cast[z])
 refine BF.block ?_
 cases hn:L.length with
 |zero=>
  refine BF.range (y:=7) (BK [(7,72),(1,1)]) (env:=[(2,.ptr [.ref 1 0 0 23] 0)]) (ds:=[.yld 7,.ptr (A5 (vL (L.map snO))) 0]) rfl (c_itemsZ c L (A0w hn)) rfl rfl ?_ ?_ ?_ ?_ ?_ ?_ ?_
  ·push_cast[x1,x3]
  ·push_cast[x1]
  ·push_cast[C7]
  ·push_cast[Ba,z1]
  ·push_cast[z1]
  ·push_cast[z1]
  ·have hn0:=A0w hn
   subst hn0
   push_cast[z1]
   apply Zw<;>push_cast [z1]
   all_goals first|rfl|exact id|trace_state
 |succ j=>
  have y0:=Ay (L.getD j zS).2.m
  have t0:A6 ((L.take (j+1)).map fun x=>BA (snN x))=true:=AF (fun x=>Cx (snN x)) _
  refine BF.range (y:=7) (BK [(7,72),(1,1)]) (env:=[(2,.ptr [.ref 1 0 0 23] 0)]) (ds:=[.yld 7,.ptr (A5 (vL (L.map snO))) 0]) rfl (c_itemsS c L hl j hn ?hY) rfl rfl ?_ ?_ ?_ ?_ ?_ ?_ ?_
  case hY=>
   intro i hi
   obtain⟨g1,g2⟩:=hx _ (Aj (d:=zS) hi)
   have zl:=Bo (GM.mk 0 ByteArray.empty ByteArray.empty 0 false zV false zV [])
   obtain⟨v1,v2,v3,v4⟩:=An (snO (L.getD i zS))
   obtain⟨w1,w2,w3,w4⟩:=Hx (L.getD i zS).2.m
   cases i with
   |zero=>
    have hR:=Pk tId CU (vI (L.getD 0 zS).1) (L.getD 0 zS).2.o 90 91 c c c 0 (L.getD 0 zS).1 (L.getD 0 zS).1 [] [] [] true true true (Ao (GM.mk 0 ByteArray.empty ByteArray.empty 0 false zV false zV [])) (Ao (GM.mk 0 ByteArray.empty ByteArray.empty 0 false zV false zV [])) (Ao (L.getD 0 zS).2.m) rfl rfl rfl z1 z1 (Ay _)
     (c_rId c _ 0 g1 [] true _ rfl z1) (c_rMut hO _ g2 c _ [] true _ rfl z1 zl)
    change A2 _ _ [_,.agg (A5 (snO (L.getD 0 zS))),_] _ _ _ at hR
    unfold itH itR
    refine DA.of_awp (by decide) rfl (by decide) ?_
    simp only[A1E,A1S,A1i,A1O,A0m,A0c]
    refine Zy ?_
    (have z:=Za @Er.eq_1<|Za v1<|Za v2<|Za v3<|Za v4 z1;(try push_cast[z])<;>repeat' (first|apply Zi<;>intro _|exact Zo|with_reducible apply Za)<;>try push_cast[z])
    refine Zy ?_
    rw[Lg] at*
    (have z:=Za @Ep.eq_1<|Za v1<|Za v2<|Za v3<|Za v4<|Za w1<|Za w2<|Za w3 w4;(try push_cast[z])<;>repeat' (first|apply Zi<;>intro _|refine Zs [(1,1),(3,128)] hR ?_|exact Zo|with_reducible apply Za)<;>try push_cast[z])
    ·intro y hy;cases hy
    ·intro y hy;cases A0d.1 hy;rw[A0g,w2]
    ·have ht:(L.take (0+1)).map (fun x=>BA (snN x))=[.val (.int .u64 ((L.getD 0 zS).1:Nat))::Ao (L.getD 0 zS).2.m]:=by
      cases L with
      |nil=>simp at hi
      |cons x l=>rfl
     rw[ht]
     apply Zr [(4,272)] rfl<;>push_cast [w1]
     all_goals first|rfl|trace_state
   |succ k=>
    have u0:=Ay (L.getD k zS).2.m
    have ul:=Bo (L.getD k zS).2.m
    have u5:(Ao (L.getD k zS).2.m).drop 19=[]:=A0i (by rw[ul];exact A0a _)
    have r0:A6 ((L.take (k+1)).map fun x=>BA (snN x))=true:=AF (fun x=>Cx (snN x)) _
    have rl:((L.take (k+1)).map fun x=>BA (snN x)).length=k+1:=by simp;omega
    have ra:∀ y ∈ (L.take (k+1)).map (fun x=>BA (snN x)),y.length=20:=fun y hy=>by obtain⟨x,_,rfl⟩:=A0l.1 hy;exact H7 _
    have ht:(L.take (k+1+1)).map (fun x=>BA (snN x))=(L.take (k+1)).map (fun x=>BA (snN x))++[.val (.int .u64 ((L.getD (k+1) zS).1:Nat))::Ao (L.getD (k+1) zS).2.m]:=by
     rw[A1s,A0K]
     simp[A02,A09 hi]
     rfl
    have hR:=UA tId CU (vI (L.getD (k+1) zS).1) (L.getD (k+1) zS).2.o 90 91 c c c 0 (L.getD (k+1) zS).1 (L.getD (k+1) zS).1 (k+1) ((L.take (k+1)).map fun x=>BA (snN x)) (Ao (GM.mk 0 ByteArray.empty ByteArray.empty 0 false zV false zV [])) (Ao (GM.mk 0 ByteArray.empty ByteArray.empty 0 false zV false zV [])) (Ao (L.getD (k+1) zS).2.m) r0 z1 z1 (Ay _)
     (c_rIdG c _ 0 _ g1 _ _ r0 z1) (c_rMutG hO _ g2 c _ _ _ _ r0 z1 zl)
    change A2 _ _ [_,.agg (A5 (snO (L.getD (k+1) zS))),_] _ _ _ at hR
    rw[Dx,Dx,ht]
    refine DA.of_awp (by decide) rfl (by decide) ?_
    simp only[A1E,A1S,A1i,A1O,A0m,A0c]
    refine Zy ?_
    (have z:=Za @Er.eq_1<|Za v1<|Za v2<|Za v3<|Za v4<|Za z1<|Za u0<|Za u5 r0;(try push_cast[z])<;>repeat' (first|apply Zi<;>intro _|exact Zo|with_reducible apply Za)<;>try push_cast[z])
    refine Zy ?_
    rw[Lg] at*
    (have z:=Za @Ep.eq_1<|Za v1<|Za v2<|Za v3<|Za v4<|Za w1<|Za w2<|Za w3<|Za w4<|Za u0<|Za ul<|Za u5<|Za r0 rl;(try push_cast[z])<;>repeat' (first|apply Zi<;>intro _|refine Zs [(1,1),(4,4),(3,128)] hR ?_|exact Zo|with_reducible apply Za)<;>try push_cast[z])
    ·omega
    ·omega
    ·intro y hy;cases A0d.1 hy;rw[A0g,w2]
    ·intro z hz d hd
     cases A0d.1 hz
     rcases A0s.1 hd with rfl|hd
     ·rfl
     ·exact A0u.1 w3 d hd
    ·apply Zr [(4,272)] rfl<;>push_cast [w1,r0,rl]
     all_goals first|rfl|trace_state
  ·push_cast[x1,x3]
  ·push_cast[x1]
  ·push_cast[C7]
  ·push_cast[Ba,z1,y0,t0]
  ·push_cast[z1,y0,t0]
  ·push_cast[z1,y0,t0]
  ·have htk:L.take (j+1)=L:=A08 (by omega)
   have lT:((L.take (j+1)).map fun x=>BA (snN x)).length=j+1:=by rw[A06,htk,hn]
   rw[htk] at t0 lT
   rw[htk]
   push_cast[z1,y0,t0]
   refine Ar.trans (Ar.fzB (b:=84) (x:=.grow (L.map fun x=>BA (snN x)) 20) rfl) ?_
   push_cast[y0,t0,lT]
   apply Zw<;>push_cast [y0,t0,lT]
   all_goals first|rfl|exact id|trace_state
theorem c_rWhole(hO:Y1)(c:Nat)(L:List SN)(h:HL c L):∃ (i:Nat) (U:List D),Ag U=true/\U.length=19/\
  A2 prog 24 [.ref 1 0 0 23,.agg (A5 (puO c L))] [(1,rdR 0 (.slice [] true) 0 (Ao (GM.mk 0 ByteArray.empty ByteArray.empty 0 false zV false zV [])))] (.tup []) [(1,rdR c (.slice (L.map fun x=>BA (snN x)) false) i U)]:=by
 obtain⟨i,U,hU1,hU2,hL⟩:∃ (i:Nat) (U:List D),Ag U=true/\U.length=19/\A2 prog 51 [.ref 1 0 0 23,.agg (A5 (vL (L.map snO)))] [(1,rdR c (.slice [] true) 0 (Ao (GM.mk 0 ByteArray.empty ByteArray.empty 0 false zV false zV [])))] (.tup []) [(1,rdR c (.slice (L.map fun x=>BA (snN x)) false) i U)]:=by
  have hL:=c_rList hO c L h.2.1 h.2.2
  cases hn:L.length with
  |zero=>rw [hn] at hL;exact⟨_,_,Ay _,Bo _,hL⟩
  |succ j=>rw [hn] at hL;exact⟨_,_,Ay _,Bo _,hL⟩
 refine⟨i,U,hU1,hU2,?_⟩
 have z1:=Ay (GM.mk 0 ByteArray.empty ByteArray.empty 0 false zV false zV [])
 have t1:A6 (L.map fun x=>BA (snN x))=true:=AF (fun x=>Cx (snN x)) _
 have hR:=Pk Dm Gy (vI c) (vL (L.map snO)) 50 51 0 c c 0 0 i [] [] (L.map fun x=>BA (snN x)) true true false _ _ U rfl rfl t1 z1 z1 hU1 (Xw c 0 0 h.1 [] true _ rfl z1) hL
 change A2 _ _ [_,.agg (A5 (puO c L)),_] _ _ _ at hR
 obtain⟨v1,v2,v3,v4⟩:=An (puO c L)
 generalize A5 (puO c L)=V at*
 generalize(L.map fun x=>BA (snN x))=X at*
 generalize Ao (GM.mk 0 ByteArray.empty ByteArray.empty 0 false zV false zV [])=Z0 at*
 refine Zd [] func24 rfl ntmps24 results24 ?_
 (have z:=Za v1<|Za v2<|Za v3<|Za v4<|Za z1<|Za t1 hU1;(try push_cast[z])<;>repeat' (first|apply Zi<;>intro _|refine Zs [(1,1),(3,80)] hR ?_|exact Zo|with_reducible apply Za)<;>try push_cast[z])
 apply Zw<;>push_cast [v1,t1,hU1]
theorem c_Decode(hU:J1)(hO:Y1)(c:Nat)(L:List SN)(h:HL c L):A0 prog 9 [.slice ((puF c L).map byD) false] (.tup [.agg (Gn c L),.val (.int .i64 0)]):=by
 have hP:=c_open hU c L h
 obtain⟨i,U,hU1,hU2,hW⟩:=c_rWhole hO c L h
 have hM:=ZZ c L h
 have oF:=AL (puF c L)
 have t1:A6 (L.map fun x=>BA (snN x))=true:=AF (fun x=>Cx (snN x)) _
 obtain⟨v1,v2,v3,v4⟩:=An (puO c L)
 unfold Gn at*
 rw[A10] at*
 change A0 _ _ [.agg [.val (.int .u64 c),.slice (L.map fun x=>BA (snN x)) false]] _ at hM
 show A0 _ _ _ (.tup [.agg [.val (.int .u64 c),.slice (L.map fun x=>BA (snN x)) false],_])
 rw[Lg] at hW
 generalize A5 (puO c L)=V at*
 generalize puF c L=F at*
 generalize(L.map fun x=>BA (snN x))=X at*
 refine Zf [] func9 rfl ntmps9 results9 ?_
 (have z:=Za v1<|Za v2<|Za v3<|Za v4<|Za t1<|Za hU1<|Za hU2 oF;(try push_cast[z])<;>repeat' (first|apply Zi<;>intro _|refine Zc hP ?_|refine Zs [(1,104)] hW ?_|refine Zc hM ?_|exact Zo|with_reducible apply Za)<;>try push_cast[z])
end Go.Ab
