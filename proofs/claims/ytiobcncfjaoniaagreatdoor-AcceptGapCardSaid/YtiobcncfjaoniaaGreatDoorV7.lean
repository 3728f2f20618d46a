/- The layer by which the program is walked, and what its functions do: part 8 of 15. -/
import Derived.Test.YtiobcncfjaoniaaGreatDoorV6
import Derived.Lib.ConvBytes
import Derived.Laws.IdiomStrings
import Derived.Laws.AppendOwn
import Derived.Lib.UnsafeStr
import Derived.Laws.BytesArg
set_option maxHeartbeats 4000000
set_option maxRecDepth 20000
set_option linter.unusedVariables false
set_option linter.unusedSimpArgs false
set_option linter.unnecessarySimpa false
namespace Go.Ab
open Go.Proofs Go.Proofs.Tryz
theorem De(t:GT):A8 t=.val (.pointer none)∨∃ cs,A8 t=.ptr cs 0:=by
 cases t with
 |nil=>exact .inl Bk
 |node=>exact .inr ⟨_,AZ ..⟩
theorem c_get1(t:GT)(k:ByteArray)(i:Nat)(hi:i<t.es.length)(hs:∀ e ∈ t.es,Sm e.2):A0 prog 245 [.val (.int .i64 i),.ptr [A8 t] 0,.ptr [.val (.string k)] 0] (.val (.bool (!ltS (t.es.getD i zM).1 k))):=by
 have hE:=c_Entry t i hi hs
 have oT:=A5 t
 refine Zf [] func245 rfl ntmps245 results245 ?_
 (have z:=Za @Ah oT;(try push_cast[z])<;>repeat' (first|apply Zi<;>intro _|refine Zc hE ?_|exact Zo|with_reducible apply Za)<;>try push_cast[z])
theorem TV(v:GV):Af (CN v)=true:=by
 have h:=BO v
 rw[A7] at h
 rw[CN]
 simpa[Af,D.pure] using h
theorem PY(v:GV):(CN v).length=6:=rfl
theorem WR(v:GV):(CN v).all Bc=true:=rfl
theorem SW(v:GV):(CN v).take 6=CN v:=rfl
attribute [push_cast] TV PY WR SW
theorem c_EntryT(t:GT)(i:Nat)(hi:i<t.es.length)(hs:∀ e ∈ t.es,Sm e.2):A0 prog 246 [A8 t,.val (.int .i64 i)] (.tup [.agg (.val (.string (t.es.getD i zM).1)::CN (t.es.getD i zM).2),.val (.bool true)]):=by
 cases t with
 |nil=>exact absurd hi (by simp[GT.es])
 |node e k hh c f l th=>
  simp only[GT.es] at hi hs|-
  have e1:=Bv hi
  have hr:=KX (e.getD i zM).2 (hs _ (Ak hi))
  have h0:decide ((i:Int)<0)=false:=by simp
  have h1:decide ((e.length:Int)<=i)=false:=by simp;omega
  rw[AZ]
  refine Zf [] func246 rfl ntmps246 results246 ?_
  (have z:=Za e1<|Za @Ah<|Za h0 h1;(try push_cast[z])<;>repeat' (first|apply Zi<;>intro _|refine Zc (hr ..) ?_|exact Zo|with_reducible apply Za)<;>try push_cast[z])
  all_goals first|omega|skip
theorem US:loL z6 (CN zV):=AI z6
theorem Vj(t:GT)(k:ByteArray)(h0:t.height=0)(h8:t.es.length<=8)(hk0:t.kids=[])(hs:∀ e ∈ t.es,Sm e.2)(hm:∀ i j,i<=j->j<t.es.length->ltS (t.es.getD i zM).1 k=false->ltS (t.es.getD j zM).1 k=false):
  A0 prog 202 [A8 t,.val (.string k)] (.tup [.agg (CN (if DK t.es k then(t.es.getD (By t.es k) zM).2 else zV)),.val (.bool (DK t.es k))]):=by
 have hH:=Bz t
 rw[h0] at hH
 have hsz:t.size=t.es.length:=by simp[GT.size,hk0]
 have hz:=Qa t (by omega)
 rw[hsz] at hz
 have oT:=A5 t
 have hS:=Ju t.es.length 245 [.ptr [A8 t] 0,.ptr [.val (.string k)] 0] (fun i=>!ltS (t.es.getD i zM).1 k) (by simp only[Af,D.pure,oT,A0E]) (by omega) (fun i hi=>c_get1 t k i hi hs) (fun i j h h' h2=>by have:=hm i j h h';revert this h2;cases ltS (t.es.getD i zM).1 k<;>simp)
 change A0 _ _ _ (.val (.int .i64 (By t.es k))) at hS
 rcases A0O (By t.es k) t.es.length with hp|hp
 ·have hE:=c_EntryT t (By t.es k) hp hs
  by_cases hkk:(t.es.getD (By t.es k) zM).1=k
  ·have hh:DK t.es k=true:=by unfold DK;rw[decide_eq_true hp,decide_eq_true hkk];rfl
   have b1:decide ((t.es.getD (By t.es k) zM).1=k)=true:=decide_eq_true hkk
   rw[hh]
   simp only[if_true]
   generalize By t.es k=q at*
   generalize t.es.getD q zM=e at*
   rcases De t with hf|⟨cs,hf⟩
   all_goals
    rw[hf] at hH hz hS hE oT|-
    try simp only[D.pure] at oT
    refine Zf [0,8] func202 rfl ntmps202 results202 ?_
    (have z:=Za @Ah<|Za oT b1;(try push_cast[z])<;>repeat' (first|apply Zi<;>intro _|refine Zc hH ?_|refine Zc (hz ..) ?_|refine Zc hS ?_|refine Zc hE ?_|exact Zo|with_reducible apply Za)<;>try push_cast[z])
  ·have hh:DK t.es k=false:=by unfold DK;rw[decide_eq_false hkk,Bool.and_false]
   have b1:decide ((t.es.getD (By t.es k) zM).1=k)=false:=decide_eq_false hkk
   rw[hh]
   simp only[if_false,A0A]
   generalize By t.es k=q at*
   generalize t.es.getD q zM=e at*
   rcases De t with hf|⟨cs,hf⟩
   all_goals
    rw[hf] at hH hz hS hE oT|-
    try simp only[D.pure] at oT
    refine Zf [0,8] func202 rfl ntmps202 results202 ?_
    (have z:=Za @Ah<|Za oT b1;(try push_cast[z])<;>repeat' (first|apply Zi<;>intro _|refine Zc hH ?_|refine Zc (hz ..) ?_|refine Zc hS ?_|refine Zc hE ?_|exact Zo|with_reducible apply Za)<;>try push_cast[z])
    all_goals exact US
 ·have hh:DK t.es k=false:=by unfold DK;rw[decide_eq_false (by omega),Bool.false_and]
  have hE:=c_Entry0 t (By t.es k) hp (by have:=posE_le t.es k;omega)
  rw[hh]
  simp only[if_false,A0A]
  generalize By t.es k=q at*
  rcases De t with hf|⟨cs,hf⟩
  all_goals
   rw[hf] at hH hz hS hE oT|-
   try simp only[D.pure] at oT
   refine Zf [0,8] func202 rfl ntmps202 results202 ?_
   (have z:=Za @Ah oT;(try push_cast[z])<;>repeat' (first|apply Zi<;>intro _|refine Zc hH ?_|refine Zc (hz ..) ?_|refine Zc hS ?_|refine Zc hE ?_|exact Zo|with_reducible apply Za)<;>try push_cast[z])
   all_goals exact US
theorem c_getKT(t:GT)(k:ByteArray)(h0:0<t.height)(h1:0<t.kids.length)(h8:t.kids.length<=8)(hm:∀ i j,i<=j->j<t.kids.length->ltS k (t.kids.getD i .nil).first=true->ltS k (t.kids.getD j .nil).first=true)(hi:AD t.kids k<t.kids.length)(v:GV)(b:Bool)
  (hrec:A0 prog 202 [A8 (t.kids.getD (AD t.kids k) .nil),.val (.string k)] (.tup [.agg (CN v),.val (.bool b)])):
  A0 prog 202 [A8 t,.val (.string k)] (.tup [.agg (CN v),.val (.bool b)]):=by
 have hH:=Bz t
 have b0:decide (0<t.height)=true:=decide_eq_true h0
 have hK:=F6 t h1 (by omega)
 have hw:=DN t.kids k hm (by omega)
 have ea:=Be hi
 have oT:=A5 t
 rcases De t with hf|⟨cs,hf⟩
 all_goals
  rw[hf] at hH hK oT|-
  try simp only[D.pure] at oT
  refine Zf [0,8] func202 rfl ntmps202 results202 ?_
  (have z:=Za b0<|Za ea<|Za @Ai.eq_1 oT;(try push_cast[z])<;>repeat' (first|apply Zi<;>intro _|refine Zc hH ?_|refine Zs [] hK ?_|refine Zq (hw ..) ?_ ?_|refine Zc (hrec ..) ?_|exact Zo|with_reducible apply Za)<;>try push_cast[z])
  all_goals first|omega|(simp;done)|exact AI _|skip
def Cc(o:Option GV):GV:=o.getD zV
theorem V0:∀ (h:Nat) (t:GT) (k:ByteArray),Wf h t->(Ad h t).length<=1099511627776->A0 prog 202 [A8 t,.val (.string k)] (.tup [.agg (CN (Cc (AA k (Ad h t)))),.val (.bool (AA k (Ad h t)).isSome)])
 |0,t,k,hw,hb=>by
  obtain⟨l,rfl,ho,hn⟩:=hw
  have hsrt:Srt l:=Pi ho.hr
  have hg:=V1 k l hsrt
  have h:=Vj (Az l) k rfl ho.hl rfl ho.hs (HY hsrt k)
  have hfl:Ad 0 (Az l)=l:=rfl
  have hes:(Az l).es=l:=rfl
  rw[hes] at h
  rw[hfl,<-hg]
  cases hh:DK l k with
  |true=>rw [hh] at h;exact h
  |false=>rw [hh] at h;exact h
 |h+1,t,k,hw,hb=>by
  have d:=hw.d
  obtain⟨l,rfl,h2,h8,hk,hs⟩:=hw
  have hkids:(AM l).kids=l:=rfl
  have hfl:Ad (h+1) (AM l)=l.flatMap (Ad h):=rfl
  rw[hfl] at hb|-
  have hkw:∀ k ∈ l,Wf h k:=fun k hk'=>(hk k hk').1
  obtain⟨s1,s2,_,_⟩:=FJ (k:=k) (show 1<=l.length by omega) hkw hs
  obtain⟨p1,p2,p3⟩:=JY (k:=k) (show 1<=l.length by omega) hkw hs
  have hmem:l.getD (AD l k) .nil ∈ l:=Ak s1
  have n1:((l.take (AD l k)).flatMap (Ad h)).find? (fun x=>decide (x.1=k))=none:=List.find?_eq_none.2 fun x hx=>by simpa using F3 (p1 x hx)
  have n2:((l.drop (AD l k+1)).flatMap (Ad h)).find? (fun x=>decide (x.1=k))=none:=List.find?_eq_none.2 fun x hx=>by simpa using(F3 (p2 x hx)).symm
  have hg:AA k (l.flatMap (Ad h))=AA k (Ad h (l.getD (AD l k) .nil)):=by
   rw[p3]
   simp only[AA,List.find?_append,n1,n2,Option.none_or,Option.or_none]
  rw[hg]
  exact c_getKT (AM l) k (by rw[d.height];omega) (by rw[hkids];omega) h8 s2 s1 _ _ (V0 h _ k (hkw _ hmem) (A0M (Gv hmem) hb))
def FU(t:GT)(l:List GE):Prop:=(t=.nil/\l=[])∨∃ h,Wf h t/\Ad h t=l
abbrev AL(t:GT):D:=.agg [A8 t]
theorem FU.srt{t:GT}{l:List GE}(h:FU t l):Srt l:=by
 rcases h with⟨_,rfl⟩|⟨h,hw,rfl⟩
 ·exact List.Pairwise.nil
 ·exact hw.d.srt
theorem c_getNT(k:ByteArray):A0 prog 202 [A8 .nil,.val (.string k)] (.tup [.agg (CN zV),.val (.bool false)]):=
 Vj .nil k rfl (by simp[GT.es]) rfl (by simp[GT.es]) (by simp[GT.es])
theorem MW{t:GT}{l:List GE}(h:FU t l)(hb:l.length<=1099511627776)(k:ByteArray):A0 prog 127 [AL t,.val (.string k)] (.tup [.agg (CN (Cc (AA k l))),.val (.bool (AA k l).isSome)]):=by
 have hg:A0 prog 202 [A8 t,.val (.string k)] (.tup [.agg (CN (Cc (AA k l))),.val (.bool (AA k l).isSome)]):=by
  rcases h with⟨rfl,rfl⟩|⟨h,hw,rfl⟩
  ·exact c_getNT k
  ·exact V0 h t k hw hb
 generalize Cc (AA k l)=v at*
 generalize(AA k l).isSome=b at*
 have oT:=A5 t
 refine Zf [0] func127 rfl ntmps127 results127 ?_
 (have z:=oT;(try push_cast[z])<;>repeat' (first|apply Zi<;>intro _|refine Zc (hg ..) ?_|exact Zo|with_reducible apply Za)<;>try push_cast[z])
 all_goals first|exact AI _|exact Am _|skip
theorem QB{t:GT}{l:List GE}(h:FU t l)(hb:l.length<=1099511627776)(k:ByteArray):A0 prog 127 [AL t,.val (.string k)] (.tup [.agg (A4 (Cc (AA k l))),.val (.bool (AA k l).isSome)]):=(MW h hb k).res (lo_T _ _)
theorem c_Put1(t:GT)(k:ByteArray)(v:GV)(L:GT)(hc:A0 prog 204 [A8 t,.agg (A6 (k,v))] (.tup [A8 L,A8 .nil])):
  A0 prog 129 [AL t,.val (.string k),.agg (A4 v)] (AL L):=by
 have oT:=A5 t
 have oL:=A5 L
 rw[Ah,Bk] at hc
 simp only at hc
 simp only[AL]
 rcases De L with hf|⟨cs,hf⟩
 all_goals
  rw[hf] at hc oL|-
  try simp only[D.pure] at oL
  refine Zf [0,4] func129 rfl ntmps129 results129 ?_
  (have z:=Za oT oL;(try push_cast[z])<;>repeat' (first|apply Zi<;>intro _|refine Zc (hc ..) ?_|exact Zo|with_reducible apply Za)<;>try push_cast[z])
  all_goals first|exact AI _|exact Am _|skip
theorem c_Put2(t:GT)(k:ByteArray)(v:GV)(L R:GT)(hR:R≠ .nil)(hok:OkK [L,R])(hc:A0 prog 204 [A8 t,.agg (A6 (k,v))] (.tup [A8 L,A8 R])):
  A0 prog 129 [AL t,.val (.string k),.agg (A4 v)] (AL (Dr [L,R])):=by
 have oT:=A5 t
 have hI:=Dv [L,R] (by simp) hok
 have hL:L≠ .nil:=(hok.hn 0 (by simp)).1
 have oI:=A5 (Dr [L,R])
 obtain⟨cs,hcs⟩:=BU hR
 obtain⟨ds,hds⟩:=BU hL
 have oR:=A5 R
 have oL:=A5 L
 simp only[A0j,A0G,Ai] at hI
 rw[Ah] at hc
 simp only at hc
 rw[hcs] at hc hI oR
 rw[hds] at hc hI oL
 simp only[D.pure] at oR oL
 simp only[AL]
 rcases De (Dr [L,R]) with hf|⟨es,hf⟩
 all_goals
  rw[hf] at hI oI|-
  try simp only[D.pure] at oI
  refine Zf [0,4] func129 rfl ntmps129 results129 ?_
  (have z:=Za oT<|Za oR<|Za oL oI;(try push_cast[z])<;>repeat' (first|apply Zi<;>intro _|refine Zc (hc ..) ?_|refine Zg hI ?_ ?_|exact Zo|with_reducible apply Za)<;>try push_cast[z])
  all_goals first|exact AI _|exact Am _|skip
theorem XJ{t:GT}{l:List GE}(h:FU t l)(hb:l.length<=1099511627775)(k:ByteArray)(v:GV)(hv:Sm v):∃ t',A0 prog 129 [AL t,.val (.string k),.agg (A4 v)] (AL t')/\FU t' (Bt (k,v) l):=by
 rcases h with⟨rfl,rfl⟩|⟨h,hw,rfl⟩
 ·have hok:OkE [(k,v)]:=DH (by simp) (fun e he=>by rw[A0a.1 he];exact hv) (List.pairwise_singleton _ _)
  exact⟨_,c_Put1 .nil k v _ (c_withN .nil (k,v) rfl rfl hv),.inr ⟨0,Cb hok (by simp),rfl⟩⟩
 ·obtain⟨L,R,hc,hwo⟩:=Us h t (k,v) hw hv (by omega)
  obtain⟨o1,o2,o3⟩:=hwo
  have hlen:=(Da (k,v) (Ad h t)).1
  have hps:=DX (e:=(k,v)) hw.d.srt
  rcases o3 with⟨rfl,o4⟩|⟨o4,o5,o6,o7⟩
  ·exact⟨_,c_Put1 t k v L hc,.inr ⟨h,o1,o4⟩⟩
  ·have hf:[L,R].flatMap (Ad h)=Bt (k,v) (Ad h t):=by simpa using o7
   have hk:∀ x ∈ [L,R],Wf h x/\4<=x.size:=fun x hx=>by
    simp only[A0q,A0Y,or_false] at hx
    rcases hx with rfl|rfl
    ·exact⟨o1,o6⟩
    ·exact⟨o4,o5⟩
   have hok:OkK [L,R]:=Ey (by simp) (by simp) (fun x hx=>(hk x hx).1) (by rw[hf];exact hps) (by rw[hf];omega)
   obtain⟨w1,w2,w3⟩:=Dq (l:=[L,R]) (h:=h) (by simp) (by simp) hk (by rw[hf];exact hps)
   exact⟨_,c_Put2 t k v L R o4.d.nn hok hc,.inr ⟨h+1,w1,by rw[w2,hf]⟩⟩
theorem Qc(t t':GT)(k:ByteArray)(b:Bool)(hn:t'.count≠0)(hc:A0 prog 206 [A8 t,.val (.string k)] (.tup [A8 t',.val (.bool b)])):
  A0 prog 130 [AL t,.val (.string k)] (.tup [AL t',.val (.bool b)]):=by
 have oT:=A5 t
 have oT':=A5 t'
 have hC:=Qd t'
 have b0:(t'.count==0)=false:=by simpa using hn
 simp only[AL]
 rcases De t' with hf|⟨es,hf⟩
 all_goals
  rw[hf] at hc hC oT'|-
  try simp only[D.pure] at oT'
  refine Zf [0] func130 rfl ntmps130 results130 ?_
  (have z:=Za oT<|Za oT' b0;(try push_cast[z])<;>repeat' (first|apply Zi<;>intro _|refine Zc (hc ..) ?_|refine Zc hC ?_|exact Zo|with_reducible apply Za)<;>try push_cast[z])
  all_goals first|exact AI _|exact Am _|skip
theorem c_Del2(t t':GT)(k:ByteArray)(b:Bool)(hn:t'.count=0)(hc:A0 prog 206 [A8 t,.val (.string k)] (.tup [A8 t',.val (.bool b)])):
  A0 prog 130 [AL t,.val (.string k)] (.tup [AL .nil,.val (.bool b)]):=by
 have oT:=A5 t
 have oT':=A5 t'
 have hC:=Qd t'
 have b0:(t'.count==0)=true:=by simpa using hn
 simp only[AL,Bk]
 refine Zf [0] func130 rfl ntmps130 results130 ?_
 (have z:=Za oT<|Za oT' b0;(try push_cast[z])<;>repeat' (first|apply Zi<;>intro _|refine Zc (hc ..) ?_|refine Zc hC ?_|exact Zo|with_reducible apply Za)<;>try push_cast[z])
 all_goals first|exact AI _|exact Am _|skip
theorem XK{t:GT}{l:List GE}(h:FU t l)(hb:l.length<=1099511627775)(k:ByteArray):∃ t',A0 prog 130 [AL t,.val (.string k)] (.tup [AL t',.val (.bool (Fk k l))])/\FU t' (Cf k l):=by
 rcases h with⟨rfl,rfl⟩|⟨h,hw,rfl⟩
 ·exact⟨_,c_Del2 .nil .nil k false rfl (c_wo0n .nil k rfl rfl),.inl ⟨rfl,rfl⟩⟩
 ·have d:=hw.d
  rcases L4 h t k hw (by omega) with⟨q1,q2⟩|⟨q1,t',q2,q3⟩
  ·rw[q1,N3 q1]
   exact⟨_,Qc t t k false (by rw[d.count];have:=CX d.ne;omega) q2,.inr ⟨h,hw,rfl⟩⟩
  ·rw[q1]
   cases h with
   |zero=>
    obtain⟨m,rfl,m1,m2,m3⟩:=q3
    by_cases hm:m=[]
    ·subst hm
     exact⟨_,c_Del2 t _ k true rfl q2,.inl ⟨rfl,m2.symm⟩⟩
    ·refine⟨_,Qc t _ k true ?_ q2,.inr ⟨0,Cb m1 hm,m2⟩⟩
     show(m.length:Int)≠0
     have:=CX hm;omega
   |succ h=>
    rcases q3 with⟨m1,m2,m3⟩|⟨_,m1,m2⟩
    ·exact⟨_,Qc t _ k true (by rw[m1.d.count];have:=CX m1.d.ne;omega) q2,.inr ⟨h+1,m1,m2⟩⟩
    ·exact⟨_,Qc t _ k true (by rw[m1.d.count];have:=CX m1.d.ne;omega) q2,.inr ⟨h,m1,m2⟩⟩
end Go.Ab
namespace Go.Ab
open Go.RowKit
def HX(hp:Nat->Option Blk):Hp->Prop
 |[]=>True
 |p::r=>hp p.1=some p.2/\HX hp r
theorem HF{hp:Nat->Option Blk}:∀ {H:Hp},HX hp H->∀ b x,Ac H b=some x->b ∈ H.map (·.1)/\hp b=some x
 |(c,y)::r,h,b,x,hx=>by
  simp only[Ac] at hx
  by_cases e:c=b
  ·subst e
   simp at hx
   subst hx
   exact⟨by simp,h.1⟩
  ·have e':(c==b)=false:=by simpa using e
   rw[e'] at hx
   obtain⟨h1,h2⟩:=HF h.2 b x hx
   exact⟨A0n _ h1,h2⟩
theorem NO{P:Program}{id:Nat}{ev:Operand->D}{hp:Nat->Option Blk}{dst:Option Tmp}{T:TypeId}{pos:String}{af:Array Edge}{gd:Option (Nat×Bool)}{f:FuncId}{args:Array Operand}{ts:Array TypeId}{ds:List D}{r:D}(Hq:Hp)
  (hq:HX hp Hq) (ha:loL ((args.toList.map ev).map (frz (Ac Hq) 4)) ds) (hpu:Af ds=true) (hf:Dy r=true) (hc:A0 P f ds r):
  AB P ⟨dst,.call {callee:=.value (.func f),args:=args,argTypes:=ts},T,pos,af,gd⟩ id ev hp ⟨r,[],Hq.map (·.1)⟩:=by
 intro w0 M0 I0 fr I mu h a w hga hw hid hxs hb K Q hK
 have hargs:=B8.args (w:=w) (I:=I) (mu:=mu) (ev:=ev) (a:=a) (args:=args) fun y hy=>hxs y (by simp[Op.operands,Call.operands];exact .inr (by simpa using hy))
 have hs:∀ b x,Ac Hq b=some x->h b=some x:=fun b x hx=>by
  obtain⟨h1,h2⟩:=HF hq b x hx
  exact(hb b h1).trans h2
 have hwq:=hw.sub hs
 let J:Nat->Prop:=fun k=>I k∨∃ b x v,Ac Hq b=some x/\mu b=some v/\Ae v=some k
 have hIJ:∀ k,I k->J k:=fun k hk=>.inl hk
 have hJ:∀ b x v k,Ac Hq b=some x->mu b=some v->Ae v=some k->J k:=fun b x v k h1 h2 h3=>.inr ⟨b,x,v,h1,h2,h3⟩
 have hJl:∀ k,J k->k<w.heap.size:=by
  rintro k (hk|⟨b,x,v,h1,h2,h3⟩)
  ·exact hw.lt k hk
  ·exact(hwq.loc b x v k h1 h2 h3).2.2
 have hall:B8 w J mu ds (args.toList.map a.eval):=by
  obtain⟨l1,l2⟩:=BJ ha
  refine⟨by rw[<-l1];simpa using hargs.1,fun i hi=>?_⟩
  rw[<-l1] at hi
  have hi':i<(args.toList.map ev).length:=by simpa using hi
  have:=l2 i hi
  rw[CQ hi'] at this
  exact(Rep.frz hwq hIJ hJ 4 _ _ (hargs.2 i hi')).lo this
 have hall':=hall.unmu (mu':=fun _=>none) hpu
 unfold A0 at hc
 have hcall:=hc.2 w J _ ((hga.at hw).mono hIJ) hJl hall'.1 hall'.2
 have hrun:(execOp a.eval ⟨dst,.call {callee:=.value (.func f),args:=args,argTypes:=ts},T,pos,af,gd⟩).run P w=.ok (.enter f (args.toList.map a.eval).toArray) w:=by
  have e1:args.map a.eval=(args.toList.map a.eval).toArray:=by apply Array.ext';simp
  simp only[execOp,resolve,Act.eval,Deferred.ofValue,A0e,A0k,Result.andThen,invoke]
  have e2:#[]++args.map a.eval++ #[]=(args.toList.map a.eval).toArray:=by rw[e1];simp
  exact(congrArg (fun z=>(callFunc f z).run P w) e2).trans (AX hc.1 _ w)
 refine C2 hrun ?_
 refine hcall.mono fun e w' ⟨v,I',he,hv,h1,h2,h3,h4⟩=>?_
 subst he
 have hext:Ext I mu w I mu w':=⟨fun _ h=>h,fun _ _ h=>h,fun k hk=>h4.block k (hw.lt k hk)⟩
 exact hK v w' I mu hext ((hw.below (fun _ h=>h) (fun _ h=>.inl h) (fun k hk=>A0P (hw.lt k hk) h4.size) h4).less fun b hb=>hb.1) (hv.flat hf)
theorem VA(hp:Nat->Option Blk):HX hp []=True:=rfl
theorem SX(hp:Nat->Option Blk)(p:Nat×Blk)(r:Hp):HX hp (p::r)=(hp p.1=some p.2/\HX hp r):=rfl
attribute [push_cast] VA SX
noncomputable section
variable{P:Program}{ops:Array Oper}{nx:Nat}{dst:Option Tmp}{T:TypeId}{ps:String}{af:Array Edge}{gd:Option (Nat×Bool)}{f:FuncId}{args:Array Operand}{ts:Array TypeId}{ds:List D}{r:D}{l:List Oper}{pos:Nat}{acc:List Eff}{s:St}{K:List Eff->St->Prop}
theorem A1.lend(Hq:Hp)(bs:List Nat)(hbs:Hq.map (·.1)=bs)(hc:A0 P f ds r)(hg:gd=none∨∃ j want t,gd=some (j,want)/\AR ops j=some t/\gOf (s.env.get t) want=some true)(hq:HX (Ac s.hp) Hq)(ha:loL ((args.toList.map (evO P s.env.get)).map (frz (Ac Hq) 4)) ds)(hpu:Af ds=true)(hf:Dy r=true)
  (hk:GoS P ops nx l (pos+1) (⟨r,[],bs⟩::acc) (s.app dst ⟨r,[],bs⟩) K):A1 P ops nx (⟨dst,.call {callee:=.value (.func f),args:=args,argTypes:=ts},T,ps,af,gd⟩::l) pos acc s K:=by
 subst hbs
 rw[BY] at hk;rw[Ba]
 unfold Bs
 refine .inl ⟨_,?_,by have:=Go.run hk;unfold Bs at this;exact this⟩
 rcases hg with rfl|⟨j,want,t,rfl,ht,hg⟩
 ·exact B9.plain rfl (NO Hq hq ha hpu hf hc)
 ·exact B9.guard_true rfl ht hg (NO Hq hq ha hpu hf hc)
end
end Go.Ab
namespace Go.Ab
open Go.Proofs Go.Proofs.Tryz
theorem Hi{n:Int}(h:0<=n)(k:n<18446744073709551616):IntKind.u64.wrap n=n:=by simp only[IntKind.wrap,IntKind.bits,IntKind.signed];simp;omega
abbrev lgB(k i m:Nat):Blk:=.rows [[.sref 7 0 k k 1,.val (.int .u64 i),.val (.int .i64 m)]] 3
abbrev lgX(k i m:Nat)(X:List (List D)):Hp:=[(3,lgB k i m),(7,.rows X 1)]
abbrev lgP(X:List (List D))(i m:Nat):D:=.ptr [.slice X false,.val (.int .u64 i),.val (.int .i64 m)] 0
theorem c_lLen(X:List (List D))(hX:A3 X=true)(i m:Nat):A0 prog 79 [lgP X i m] (.val (.int .i64 m)):=by
 refine Zf [] func79 rfl ntmps79 results79 ?_
 (have z:=hX;(try push_cast[z])<;>repeat' (first|apply Zi<;>intro _|exact Zo|with_reducible apply Za)<;>try push_cast[z])
theorem P5(X:List (List D))(hX:A3 X=true)(i m o:Nat)(hm:0<m)(hm1:m<=1024)(hi:i<=1048576)(ho:o+m=i+1):A0 prog 41 [lgP X i m] (.tup [.val (.int .u64 o),.val (.bool true)]):=by
 have h:=c_lLen X hX i m
 have w1:IntKind.i64.wrap ((m:Int)-1)=((m:Int)-1):=Aa (by omega) (by omega)
 have w2:IntKind.u64.wrap ((m:Int)-1)=((m:Int)-1):=Hi (by omega) (by omega)
 have w3:IntKind.u64.wrap ((i:Int)-((m:Int)-1))=(o:Int):=by rw[Hi (by omega) (by omega)];omega
 have b1:((m:Int)==0)=false:=by simp;omega
 refine Zf [] func41 rfl ntmps41 results41 ?_
 (have z:=Za hX<|Za w1<|Za w2<|Za w3 b1;(try push_cast[z])<;>repeat' (first|apply Zi<;>intro _|refine Zc h ?_|exact Zo|with_reducible apply Za)<;>try push_cast[z])
theorem Mw(X:List (List D))(hX:A3 X=true)(k i m j r:Nat)(hk:0<k)(hk2:k<=1024)(hXk:X.length=k)(hj:j<=1048576)(hr:j%k=r):A0 prog 33 [lgP X i m,.val (.int .u64 j)] (.val (.int .i64 r)):=by
 have w1:IntKind.u64.wrap (k:Int)=k:=Hi (by omega) (by omega)
 have w2:(j:Int).tmod k=(r:Int):=by rw[<-hr,Int.ofNat_tmod]
 have hl:r<k:=by rw[<-hr];exact Nat.mod_lt _ hk
 have w3:IntKind.u64.wrap (r:Int)=r:=Hi (by omega) (by omega)
 have w4:IntKind.i64.wrap (r:Int)=r:=Aa (by omega) (by omega)
 have hk0:(k:Int)≠0:=by omega
 refine Zf [] func33 rfl ntmps33 results33 ?_
 (have z:=Za hX<|Za @hXk<|Za w1<|Za w2<|Za w3 w4;(try push_cast[z])<;>repeat' (first|apply Zi<;>intro _|exact Zo|with_reducible apply Za)<;>try push_cast[z])
 all_goals first|omega|skip
abbrev rgB(rg:List GT):Blk:=.rows (rg.map fun t=>[A8 t]) 1
theorem YI{rg:List GT}{r:Nat}(h:r<rg.length):nr (rg.map fun t=>[A8 t]) r=[A8 (rg.getD r .nil)]:=by
 simp[nr,A02,A0u,A0b h]
theorem Bd(rg:List GT):A3 (rg.map fun t=>[A8 t])=true:=Ar (fun t=>by simp[Af,A5]) _
theorem Lr{X:List (List D)}{y:List D}(h:A3 X=true)(hy:Af y=true)(r:Nat):A3 (X.set r y)=true:=by
 induction X generalizing r with
 |nil=>exact h
 |cons x X ih=>
  simp only[A3,A09] at h
  cases r with
  |zero=>simp only[List.set_cons_zero,A3,hy,h.2,A0E]
  |succ r=>simp only[List.set_cons_succ,A3,h.1,ih h.2 r,A0E]
theorem c_lAt(k i m o r:Nat)(rg:List GT)(hg:rg.length=k)(hk:0<k)(hk2:k<=1024)(hm:0<m)(hm1:m<=1024)(hi:i<=1048576)(ho:o+m=i+1)(hr:i%k=r):
  A2 prog 131 [.ref 3 0 0 3,.val (.int .u64 i)] [(3,lgB k i m),(7,rgB rg)] (.tup [AL (rg.getD r .nil),.val (.bool true)]) [(3,lgB k i m),(7,rgB rg)]:=by
 have oG:=Bd rg
 have hlen:(rg.map fun t=>[A8 t]).length=k:=by simp[hg]
 have h1:=P5 _ oG i m o hm hm1 hi ho
 have h2:=Mw _ oG k i m i r hk hk2 hlen hi hr
 have hl:r<k:=by rw[<-hr];exact Nat.mod_lt _ hk
 have e1:=YI (rg:=rg) (r:=r) (by omega)
 have oT:=A5 (rg.getD r .nil)
 have b1:decide ((i:Int)<o)=false:=by simp;omega
 have b2:decide ((i:Int)<i)=false:=by simp
 have o1:=Cm (rg.getD r .nil)
 have et:(rg.map fun t=>[A8 t]).take k=rg.map fun t=>[A8 t]:=A05 (by omega)
 simp only[AL]
 unfold rgB at*
 generalize(rg.map fun t=>[A8 t])=X at*
 generalize A8 (rg.getD r .nil)=Y at*
 have c0:(if k<=k/\k<=k/\k<=9223372036854775807 then D.slice X true else .sref 7 0 k k 1)=.slice X true:=if_pos ⟨A08 _,A08 _,by omega⟩
 refine Zd [] func131 rfl ntmps131 results131 ?_
 (have z:=Za e1<|Za oG<|Za oT<|Za @hlen<|Za b1<|Za b2<|Za o1<|Za et c0;(try push_cast[z])<;>repeat' (first|apply Zi<;>intro _|exact Zo|with_reducible apply Za|((with_reducible show A1 _ _ _ _ _ _ _ _);refine A1.lend (lgX k i m X) _ rfl (by exact h1 ..) (by first|exact .inl rfl|exact .inr ⟨_,_,_,rfl,rfl,rfl⟩) ?_ ?_ ?_ (by first|rfl|push_cast [z]) ?_;(· push_cast[z]<;>(with_unfolding_all exact A9 _));(· push_cast[z]<;>first|exact fun _=>trivial|(with_unfolding_all exact A9 _));(· push_cast[z]);try push_cast[z])|((with_reducible show A1 _ _ _ _ _ _ _ _);refine A1.lend (lgX k i m X) _ rfl (by exact h2 ..) (by first|exact .inl rfl|exact .inr ⟨_,_,_,rfl,rfl,rfl⟩) ?_ ?_ ?_ (by first|rfl|push_cast [z]) ?_;(· push_cast[z]<;>(with_unfolding_all exact A9 _));(· push_cast[z]<;>first|exact fun _=>trivial|(with_unfolding_all exact A9 _));(· push_cast[z]);try push_cast[z])|fail)<;>try push_cast[z])
 all_goals first|omega|skip
 apply Zw<;>push_cast [oG,oT]
theorem c_lPut(k i m m' r:Nat)(rg:List GT)(t:GT)(hg:rg.length=k)(hk:0<k)(hk2:k<=1024)(hm:0<m)(hm1:m<=k)(hi:i<=1048000)(hm':m'=min (m+1) k)(hr:(i+1)%k=r):
  A2 prog 14 [.ref 3 0 0 3,.val (.int .u64 ((i:Int)+1)),AL t] [(3,lgB k i m),(7,rgB rg)] (.val (.int .i64 0)) [(3,lgB k (i+1) m'),(7,rgB (rg.set r t))]:=by
 have oG:=Bd rg
 have hlen:(rg.map fun t=>[A8 t]).length=k:=by simp[hg]
 have h2:=Mw _ oG k i m (i+1) r hk hk2 hlen (by omega) hr
 have hl:r<k:=by rw[<-hr];exact Nat.mod_lt _ hk
 have e1:=YI (rg:=rg) (r:=r) (by omega)
 have oT:=A5 t
 have e2:(rg.set r t).map (fun t=>[A8 t])=(rg.map fun t=>[A8 t]).set r [A8 t]:=by rw[A1u]
 have w1:IntKind.u64.wrap ((i:Int)+1)=(i:Int)+1:=Hi (by omega) (by omega)
 have w2:IntKind.i64.wrap ((m:Int)+1)=(m:Int)+1:=Aa (by omega) (by omega)
 have b1:((k:Int)==0)=false:=by simp;omega
 have b2:decide ((i:Int)+1>4611686018427387903)=false:=by simp;omega
 have b3:decide ((m:Int)>0)=true:=by simp;omega
 have b4:decide ((i:Int)+1<=i)=false:=by simp;omega
 have b5:decide ((i:Int)+1<(i:Int)+1)=false:=by simp
 have w3:(if(k:Int)<m+1 then(k:Int) else m+1)=(m':Int):=by split<;>omega
 have o1:=Cm t
 have oS:A3 ((rg.map fun t=>[A8 t]).set r [A8 t])=true:=Lr oG (by simp[Af,oT]) r
 have et:(rg.map fun t=>[A8 t]).take k=rg.map fun t=>[A8 t]:=A05 (by omega)
 simp only[AL]
 unfold rgB at*
 rw[e2]
 clear e2
 generalize(rg.map fun t=>[A8 t])=X at*
 generalize A8 (rg.getD r .nil)=Z at*
 generalize A8 t=Y at*
 have c0:(if k<=k/\k<=k/\k<=9223372036854775807 then D.slice X true else .sref 7 0 k k 1)=.slice X true:=if_pos ⟨A08 _,A08 _,by omega⟩
 refine Zd [] func14 rfl ntmps14 results14 ?_
 (have z:=Za e1<|Za oG<|Za oT<|Za @hlen<|Za w1<|Za w2<|Za w3<|Za b1<|Za b2<|Za b3<|Za b4<|Za b5<|Za o1<|Za oS<|Za et c0;(try push_cast[z])<;>repeat' (first|apply Zi<;>intro _|exact Zo|with_reducible apply Za|((with_reducible show A1 _ _ _ _ _ _ _ _);refine A1.lend (lgX k i m X) _ rfl (by exact h2 ..) (by first|exact .inl rfl|exact .inr ⟨_,_,_,rfl,rfl,rfl⟩) ?_ ?_ ?_ (by first|rfl|push_cast [z]) ?_;(· push_cast[z]<;>(with_unfolding_all exact A9 _));(· push_cast[z]<;>first|exact fun _=>trivial|(with_unfolding_all exact A9 _));(· push_cast[z]);try push_cast[z])|fail)<;>try push_cast[z])
 all_goals first|omega|skip
 apply Zw<;>push_cast [oG,oS,w3]
abbrev lgB0(k:Nat):Blk:=.rows [[.sref 7 0 k k 1,.val (.int .u64 0),.val (.int .i64 0)]] 3
abbrev lgX0(k:Nat)(X:List (List D)):Hp:=[(3,lgB0 k),(7,.rows X 1)]
theorem c_lPut0(k:Nat)(rg:List GT)(t:GT)(hg:rg.length=k)(hk:0<k)(hk2:k<=1024):
  A2 prog 14 [.ref 3 0 0 3,.val (.int .u64 0),AL t] [(3,lgB0 k),(7,rgB rg)] (.val (.int .i64 0)) [(3,lgB k 0 1),(7,rgB (rg.set 0 t))]:=by
 have oG:=Bd rg
 have hlen:(rg.map fun t=>[A8 t]).length=k:=by simp[hg]
 have h2:=Mw _ oG k 0 0 0 0 hk hk2 hlen (by omega) (Nat.zero_mod _)
 have e1:=YI (rg:=rg) (r:=0) (by omega)
 have oT:=A5 t
 have e2:(rg.set 0 t).map (fun t=>[A8 t])=(rg.map fun t=>[A8 t]).set 0 [A8 t]:=by rw[A1u]
 have b1:((k:Int)==0)=false:=by simp;omega
 have w3:(if(k:Int)<IntKind.i64.wrap 1 then(k:Int) else IntKind.i64.wrap 1)=1:=by rw[Aa (by decide) (by decide)];split<;>omega
 have o1:=Cm t
 have oS:A3 ((rg.map fun t=>[A8 t]).set 0 [A8 t])=true:=Lr oG (by simp[Af,oT]) 0
 have et:(rg.map fun t=>[A8 t]).take k=rg.map fun t=>[A8 t]:=A05 (by omega)
 simp only[AL]
 unfold rgB at*
 rw[e2]
 clear e2
 generalize(rg.map fun t=>[A8 t])=X at*
 generalize A8 (rg.getD 0 .nil)=Z at*
 generalize A8 t=Y at*
 change A0 _ _ [.ptr [.slice X false,.val (.int .u64 0),.val (.int .i64 0)] 0,.val (.int .u64 0)] (.val (.int .i64 0)) at h2
 have c0:(if k<=k/\k<=k/\k<=9223372036854775807 then D.slice X true else .sref 7 0 k k 1)=.slice X true:=if_pos ⟨A08 _,A08 _,by omega⟩
 refine Zd [] func14 rfl ntmps14 results14 ?_
 (have z:=Za e1<|Za oG<|Za oT<|Za @hlen<|Za w3<|Za b1<|Za o1<|Za oS<|Za et c0;(try push_cast[z])<;>repeat' (first|apply Zi<;>intro _|exact Zo|with_reducible apply Za|((with_reducible show A1 _ _ _ _ _ _ _ _);refine A1.lend (lgX0 k X) _ rfl (by exact h2 ..) (by first|exact .inl rfl|exact .inr ⟨_,_,_,rfl,rfl,rfl⟩) ?_ ?_ ?_ (by first|rfl|push_cast [z]) ?_;(· push_cast[z]<;>(with_unfolding_all exact A9 _));(· push_cast[z]<;>first|exact fun _=>trivial|(with_unfolding_all exact A9 _));(· push_cast[z]);try push_cast[z])|fail)<;>try push_cast[z])
 all_goals first|omega|skip
 apply Zw<;>push_cast [oG,oS,w3]
theorem c_lNew(k:Nat)(hk:0<k)(hk2:k<=1024):A2 prog 13 [.val (.int .i64 k)] [] (.tup [.ref 0 0 0 3,.val (.int .i64 0)]) [(0,.rows [[.sref 2 0 k k 1,.val (.int .u64 0),.val (.int .i64 0)]] 3),(2,rgB (List.replicate k .nil))]:=by
 have b1:decide ((k:Int)<1)=false:=by simp;omega
 have b2:decide ((1024:Int)<k)=false:=by simp;omega
 have e1:(List.replicate k GT.nil).map (fun t=>[A8 t])=List.replicate k [.val (.pointer none)]:=by rw[List.map_replicate,Bk]
 have o1:A3 (List.replicate k [D.val (.pointer none)])=true:=by rw[<-e1];exact Bd _
 unfold rgB
 rw[e1]
 refine Zd [] func13 rfl ntmps13 results13 ?_
 (have z:=Za b1<|Za b2 o1;(try push_cast[z])<;>repeat' (first|apply Zi<;>intro _|exact Zo|with_reducible apply Za)<;>try push_cast[z])
 all_goals first|omega|skip
 apply Zr [(0,96),(2,80)] rfl<;>push_cast [o1]
end Go.Ab
namespace Go.Ab
open Go.RowKit
def byD(b:UInt8):List D:=[.val (.int .u8 (b.toNat:Int))]
theorem MC(b:UInt8):byD b=[.val (.int .u8 (b.toNat:Int))]:=rfl
theorem AN:∀ l:List UInt8,A3 (l.map byD)=true
 |[]=>rfl
 |x::l=>by simp only[A0j,A3,AN l];rfl
theorem Jv(l:List UInt8):∀ y ∈ l.map byD,y.length=1:=fun y hy=>by
 obtain⟨b,_,rfl⟩:=A0i.1 hy
 rfl
theorem byD_one(l:List UInt8):∀ y ∈ l.map byD,∀ d ∈ y,Bc d=true:=fun y hy d hd=>by
 obtain⟨b,_,rfl⟩:=A0i.1 hy
 cases A0a.1 hd
 rfl
theorem Xr(b:UInt8):Af (byD b)=true:=rfl
theorem JR{l:List UInt8}{i:Nat}(hi:i<l.length):nr (l.map byD) i=byD (l.getD i 0):=by
 simp[nr,A02,hi]
section
variable{P:Program}{ops:Array Oper}{nx:Nat}{dst:Option Tmp}{T:TypeId}{ps:String}{af:Array Edge}{gd:Option (Nat×Bool)}{l:List Oper}{pos:Nat}{acc:List Eff}{s:St}{K:List Eff->St->Prop}{a b e:TypeId}{x:Operand}
def Vm(P:Program)(a b:TypeId)(d r:D):Prop:=
 ∀(w:World) (I:Nat->Prop) (mu:Nat->Option Value) (v:Value),(∀ k,I k->k<w.heap.size)->Rep w I mu d v->
  ∃ u w' I',(convert a b v).run P w=.ok u w'/\Rep w' I' mu r u/\(∀ k,I k->I' k)/\(∀ k,I' k->I k∨w.heap.size<=k)/\(∀ k,I' k->k<w'.heap.size)/\Below w.heap.size w w'
theorem NS{id:Nat}{ev:Operand->D}{hp:Nat->Option Blk}{d r:D}(hx:ev x=d)(hc:Vm P a b d r):AB P ⟨dst,.convert a b x,T,ps,af,gd⟩ id ev hp ⟨r,[],[]⟩:=by
 intro w0 M0 I0 fr I mu h ac w hga hw hid hxs hb K Q hK
 have hxr:=hxs x (by simp[Op.operands])
 rw[hx] at hxr
 obtain⟨u,w',I',hrun,hv,h1,h2,h3,h4⟩:=hc w I mu _ hw.lt hxr
 refine Cz (w':=w') (v:=u) (by simp only[execOp,A0e,hrun,Result.andThen,A0k]) ?_
 have hext:Ext I mu w I' mu w':=⟨h1,fun _ _ h=>h,fun k hk=>h4.block k (hw.lt k hk)⟩
 exact hK u w' I' mu hext ((hw.below h1 h2 h3 h4).less fun b hb=>hb.1) hv
theorem A1.conv{d r:D}(hc:Vm P a b d r)(hg:gd=none∨∃ j want t,gd=some (j,want)/\AR ops j=some t/\gOf (s.env.get t) want=some true)(hx:evO P s.env.get x=d)
  (hk:GoS P ops nx l (pos+1) (⟨r,[],[]⟩::acc) (s.app dst ⟨r,[],[]⟩) K):A1 P ops nx (⟨dst,.convert a b x,T,ps,af,gd⟩::l) pos acc s K:=by
 rw[Ba]
 rw[BY] at hk
 unfold Bs
 refine .inl ⟨_,?_,by have:=Go.run hk;unfold Bs at this;exact this⟩
 rcases hg with rfl|⟨j,want,t,rfl,ht,hg⟩
 ·exact B9.plain rfl (NS hx hc)
 ·exact B9.guard_true rfl ht hg (NS hx hc)
end
theorem conv_sb{P:Program}{a b e:TypeId}{u:TypeDesc}(hs:P.underlying a=some u)(hd:P.underlying b=some (.slice e))(he:P.underlying e=some (.int .u8))(s:ByteArray)(hz:s.size<=140737488355328):Vm P a b (.val (.string s)) (.slice (s.data.toList.map byD) false):=by
 intro w I mu v hI hv
 have hv:=hv.val_inv
 subst hv
 have hl:s.data.toList.length=s.size:=rfl
 have hm:grownCap w s.size 0 e<=maxLen:=grownCap_le_maxLen w _ _ _ (by simp only[maxLen];omega)
 have hc:s.size<=grownCap w s.size 0 e:=grownCap_ge w _ _ _
 refine⟨_,_,fun k=>I k∨k=w.heap.size,Lib.run_convert_string_bytes w a b e s hs hd he,?_,fun k h=>.inl h,fun k h=>h.elim .inl fun h=>.inr (by omega),fun k h=>?_,?_⟩
 ·have hr:=Rep.slice (w:=Lib.bytesWorld w e s) (I:=fun k=>I k∨k=w.heap.size) (mu:=mu) (s.data.toList.map byD) false (some ⟨w.heap.size,0,none⟩) w.heap.size 0 1 (grownCap w s.size 0 e) (fun i j=>.int .u8 ((s.data.toList.getD i 0).toNat:Int))
   (fun _=>⟨rfl,fun _=>.inr rfl⟩) (by rw[A07,hl];exact hc) (fun h=>by cases h) hm (fun i hi=>by rw[JR (by simpa using hi)];rfl)
   (fun i j hi hj=>by
    obtain rfl:j=0:=by omega
    have:=Lib.bytesWorld_cell w e s i (by simpa[hl] using hi)
    simpa using this)
   (fun i j hi hj=>by
    obtain rfl:j=0:=by omega
    rw[JR (by simpa using hi)]
    have:=(s.data.toList.getD i 0).toNat_lt
    exact .val _ (by simp only[okP,D1,D2];omega))
  rw[A07,hl] at hr
  exact hr
 ·rw[Lib.bytesWorld_size]
  rcases h with h|h
  ·have:=hI k h;omega
  ·omega
 ·exact Lib.below_freeze ((Below.drew (Below.refl _ w)).alloc (A08 _) _) (p:=⟨w.heap.size,_,none⟩) (A08 _) 1
theorem conv_bs{P:Program}{a b e:TypeId}(hs:P.underlying a=some (.slice e))(he:P.underlying e=some (.int .u8))(hd:P.underlying b=some .string)(l:List UInt8)(t:Bool):Vm P a b (.slice (l.map byD) t) (.val (.string ⟨l.toArray⟩)):=by
 intro w I mu v hI hv
 refine⟨.string ⟨l.toArray⟩,w,I,?_,?_,fun k h=>h,fun k h=>.inl h,hI,Below.refl _ _⟩
 ·cases hv with
  |slice es tight A k o sz cap u hA hc ht hm hlen hcell h=>
   simp only[A07] at*
   cases l with
   |nil=>
    cases A with
    |none=>exact run_convert_bytes_nil w _ _ hs he _ _ _ hd
    |some A=>exact run_convert_bytes_back w a b e A cap [] hs he hd (fun j hj=>by simp at hj)
   |cons x l=>
    obtain⟨hA1,_⟩:=hA (by simp)
    subst hA1
    refine run_convert_bytes_back w a b e ⟨k,o,none⟩ cap (x::l) hs he hd fun j hj=>?_
    have hsz:sz=1:=by have:=hlen j hj;rw[JR hj] at this;exact this.symm
    subst hsz
    have h1:=hcell j 0 hj (by omega)
    have h2:=h j 0 hj (by omega)
    rw[JR hj] at h2
    have h3:u j 0=.int .u8 (((x::l).getD j 0).toNat:Int):=h2.val_inv
    have ea:(⟨k,o,none⟩:Addr).add j=⟨k,o+(j*1+0),none⟩:=by simp[Addr.add]
    rw[ea,h1,h3]
    simp[A02,A0b hj]
 ·refine .val _ ?_
  cases hv with
  |slice es tight A k o sz cap u hA hc ht hm hlen hcell h=>
   simp only[A07] at hc
   show l.toArray.size<=_
   simp only[maxLen] at hm
   rw[A0y]
   omega
attribute [push_cast] AN Xr implies_true
abbrev tN:ByteArray:=⟨#[110]⟩
abbrev tK:ByteArray:=⟨#[107]⟩
abbrev Gd:ByteArray:=⟨#[105,110,99]⟩
abbrev Gb:ByteArray:=⟨#[112,117,116]⟩
abbrev tBy:ByteArray:=⟨#[98,121]⟩
abbrev Cg:ByteArray:=⟨#[107,101,121]⟩
abbrev Cr:ByteArray:=⟨#[118,97,108,117,101]⟩
abbrev E8:ByteArray:=⟨#[97,114,103,115]⟩
abbrev E7:ByteArray:=⟨#[110,97,109,101]⟩
abbrev tId:ByteArray:=⟨#[105,100]⟩
abbrev CR:ByteArray:=⟨#[109,117,116,97,116,111,114]⟩
abbrev Dh:ByteArray:=⟨#[99,108,105,101,110,116]⟩
abbrev Gc:ByteArray:=⟨#[108,105,115,116]⟩
def Bn:GV:=.mk 1 false 0 ByteArray.empty [] []
def vI(n:Int):GV:=.mk 3 false n ByteArray.empty [] []
def vT(s:ByteArray):GV:=.mk 4 false 0 s [] []
def vL(l:List GV):GV:=.mk 5 false 0 ByteArray.empty l []
def vO(o:List (ByteArray×GV)):GV:=.mk 6 false 0 ByteArray.empty [] o
theorem An(v:GV):Af (A4 v)=true/\(A4 v).length=6/\(A4 v).all Bc=true/\(A4 v).take 6=A4 v:=⟨BO v,AW v,Jn v,MX v⟩
theorem RV:A4 Bn=[.val (.int .i64 1),.val (.bool false),.val (.int .i64 0),.val (.string ByteArray.empty),.slice [] false,.slice [] false]:=A7 _
theorem RW(n:Int):A4 (vI n)=[.val (.int .i64 3),.val (.bool false),.val (.int .i64 n),.val (.string ByteArray.empty),.slice [] false,.slice [] false]:=A7 _
theorem NG(s:ByteArray):A4 (vT s)=[.val (.int .i64 4),.val (.bool false),.val (.int .i64 0),.val (.string s),.slice [] false,.slice [] false]:=A7 _
theorem ZV(l:List GV):A4 (vL l)=[.val (.int .i64 5),.val (.bool false),.val (.int .i64 0),.val (.string ByteArray.empty),.slice (l.map A4) false,.slice [] false]:=A7 _
theorem M1(o:List (ByteArray×GV)):A4 (vO o)=[.val (.int .i64 6),.val (.bool false),.val (.int .i64 0),.val (.string ByteArray.empty),.slice [] false,.slice (o.map A6) false]:=A7 _
inductive SMu where
 |inc (n:Int)
 |put
def SMu.m:SMu->GM
 |.inc n=>.mk 3 tN ByteArray.empty n false zV false zV []
 |.put=>.mk 1 tK ByteArray.empty 0 false zV false Bn []
def SMu.ok:SMu->Prop
 |.inc n=> -9223372036854775808<=n/\n<=9223372036854775807
 |.put=>True
def SMu.args:SMu->GV
 |.inc n=>vO [(tBy,vI n),(Cg,vT tN)]
 |.put=>vO [(Cg,vT tK),(Cr,Bn)]
def SMu.name:SMu->ByteArray
 |.inc _=>Gd
 |.put=>Gb
def SMu.o(m:SMu):GV:=vO [(E8,m.args),(E7,vT m.name)]
abbrev SN:=Nat×SMu
def snN(x:SN):GN:=⟨x.1,x.2.m⟩
def snO(x:SN):GV:=vO [(tId,vI x.1),(CR,x.2.o)]
def puO(c:Nat)(l:List SN):GV:=vO [(Dh,vI c),(Gc,vL (l.map snO))]
def BI(n:Nat):Prop:=0<n/\n<=4611686018427387903
def Hk(c:Nat)(l:List SN):Prop:=BI c/\l.length<=64/\∀ x ∈ l,BI x.1/\x.2.ok
def Fl(c:Nat)(l:List SN):List D:=[.val (.int .u64 c),.slice ((l.map snN).map Bl) false]
end Go.Ab
namespace Go.Ab
open Go.Proofs Go.Proofs.Tryz
theorem Q4(n:Int)(h:0<n/\n<=4611686018427387903):A0 prog 76 [.val (.int .u64 n)] (.val (.bool true)):=by
 have b1:decide (0<n)=true:=decide_eq_true h.1
 have b2:decide (n<=4611686018427387903)=true:=decide_eq_true h.2
 refine Zf [] func76 rfl ntmps76 results76 ?_
 (have z:=Za b1 b2;(try push_cast[z])<;>repeat' (first|apply Zi<;>intro _|exact Zo|with_reducible apply Za)<;>try push_cast[z])
def ntL(i:Nat):List (List D):=(List.range i).map fun(j:Nat)=>[.val (.int .u64 ((j:Int)+1)),.val (.int .u64 ((j:Int)+1))]
def owL(c:Nat)(i:Nat):List (List D):=(List.range i).map fun(j:Nat)=>[.val (.int .u64 ((j:Int)+1)),.val (.int .u64 c)]
theorem ntL_s(i:Nat):ntL (i+1)=ntL i++[[.val (.int .u64 ((i:Int)+1)),.val (.int .u64 ((i:Int)+1))]]:=by simp[ntL,List.range_succ]
theorem owL_s(c i:Nat):owL c (i+1)=owL c i++[[.val (.int .u64 ((i:Int)+1)),.val (.int .u64 c)]]:=by simp[owL,List.range_succ]
theorem GU(i:Nat):(ntL i).length=i:=by simp[ntL]
theorem UH(c i:Nat):(owL c i).length=i:=by simp[owL]
theorem YJ{i j:Nat}(h:j<i):nr (ntL i) j=[.val (.int .u64 ((j:Int)+1)),.val (.int .u64 ((j:Int)+1))]:=by
 simp[nr,ntL,A02,A0u,A1T h]
theorem nr_owL{c i j:Nat}(h:j<i):nr (owL c i) j=[.val (.int .u64 ((j:Int)+1)),.val (.int .u64 c)]:=by
 simp[nr,owL,A02,A0u,A1T h]
theorem BS(i:Nat):A3 (ntL i)=true:=by
 unfold ntL
 exact Ar (fun j=>by simp[Af,D.pure]) _
theorem CA(c i:Nat):A3 (owL c i)=true:=by
 unfold owL
 exact Ar (fun j=>by simp[Af,D.pure]) _
theorem ntL_all(i:Nat):∀ y ∈ ntL i,y.length=2:=by
 intro y hy
 obtain⟨j,_,rfl⟩:=A0i.1 hy
 rfl
theorem owL_all(c i:Nat):∀ y ∈ owL c i,y.length=2:=by
 intro y hy
 obtain⟨j,_,rfl⟩:=A0i.1 hy
 rfl
abbrev MJ:Blk:=.rows [[.val (.map none),.slice [] true,.val (.int .u64 0),.val (.int .u64 0)]] 4
abbrev tbB(i:Nat):Blk:=.rows [[.mref 11,.gref 4 i,.val (.int .u64 i),.val (.int .u64 0)]] 4
abbrev nmB(c i:Nat):Blk:=.map [(.int .u64 c,0,.gref 2 i)] 1
theorem fd1(c:Nat)(d:D):CV (.int .u64) (.int .u64 (c:Int)) [(.int .u64 (c:Int),0,d)] 0=some (some (0,d)):=by
 simp[CV,keq]
theorem fd0(sh:Sh)(k:Value):CV sh k [] 0=some none:=rfl
theorem sa1(k:Value)(d e:D):Kk [(k,0,d)] 0 e=[(k,0,e)]:=rfl
theorem Ms(c:Nat):A2 prog 17 [.ref 5 0 0 4,.val (.int .u64 c)] [(5,MJ)] (.val (.int .u64 0)) [(5,MJ)]:=by
 refine Zd [] func17 rfl ntmps17 results17 ?_
 ((try push_cast)<;>repeat' (first|apply Zi<;>intro _|exact Zp|with_reducible apply Za)<;>try push_cast)
 apply Zw<;>push_cast
abbrev tbL(i:Nat):Blk:=.rows [[.mref 11,.gref 15 i,.val (.int .u64 i),.val (.int .u64 0)]] 4
abbrev nmL(c i:Nat):Blk:=.map [(.int .u64 c,0,.gref 13 i)] 1
theorem KU(c i:Nat)(hi:0<i/\i<=1048576):A2 prog 17 [.ref 5 0 0 4,.val (.int .u64 c)] [(5,tbL i),(11,nmL c i),(13,.grow (ntL i) 2)] (.val (.int .u64 i)) [(5,tbL i),(11,nmL c i),(13,.grow (ntL i) 2)]:=by
 have f1:=fd1 c (.gref 13 i)
 have e1:nr (ntL i) (i-1)=[.val (.int .u64 i),.val (.int .u64 i)]:=by
  rw[YJ (by omega)]
  have:((i-1:Nat):Int)+1=i:=by omega
  rw[this]
 have w1:IntKind.i64.wrap ((i:Int)-1)=((i-1:Nat):Int):=by rw[Aa (by omega) (by omega)];omega
 have b1:((i:Int)==0)=false:=by simp;omega
 have oN:=BS i
 have lN:=GU i
 obtain⟨m,hm⟩:∃ m,m=i-1:=⟨_,rfl⟩
 rw[<-hm] at*
 generalize ntL i=X at*
 refine Zd [] func17 rfl ntmps17 results17 ?_
 (have z:=Za f1<|Za e1<|Za w1<|Za b1<|Za oN lN;(try push_cast[z])<;>repeat' (first|apply Zi<;>intro _|exact Zo|with_reducible apply Za)<;>try push_cast[z])
 all_goals first|omega|skip
 apply Zw<;>push_cast [oN]
theorem c_tNote0(c:Nat)(hc:BI c):A2 prog 38 [.ref 5 0 0 4,.val (.int .u64 c),.val (.int .u64 1),.val (.int .u64 1)] [(5,MJ)] (.val (.int .i64 0)) [(5,.rows [[.mref 0,.gref 4 1,.val (.int .u64 1),.val (.int .u64 0)]] 4),(0,nmB c 1),(2,.grow (ntL 1) 2),(4,.grow (owL c 1) 2)]:=by
 have hc':(0:Int)<c/\(c:Int)<=4611686018427387903:=by unfold BI at hc;omega
 have h1:=Q4 c hc'
 have h2:=Q4 1 (by decide)
 have h3:=Ms c
 have e1:ntL 1=[[.val (.int .u64 1),.val (.int .u64 1)]]:=rfl
 have e2:owL c 1=[[.val (.int .u64 1),.val (.int .u64 c)]]:=rfl
 rw[e1,e2]
 have w1:IntKind.u64.wrap 1=1:=by decide
 refine Zd [] func38 rfl ntmps38 results38 ?_
 (have z:=Za fd0 w1;(try push_cast[z])<;>repeat' (first|apply Zi<;>intro _|refine Zc h1 ?_|refine Zc h2 ?_|refine Zs [(5,5)] h3 ?_|exact Zo|with_reducible apply Za)<;>try push_cast[z])
 all_goals first|omega|exact fun y hy=>absurd hy A0Y|(intro y hy;cases A0a.1 hy;rfl)|(intro y hy d hd;cases A0a.1 hy;simp at hd;rcases hd with rfl|rfl<;>rfl)|skip
 apply Zr [(0,320),(2,472),(4,648)] rfl<;>push_cast
theorem c_tNote(c i:Nat)(hc:BI c)(hi:0<i/\i<=1048000):A2 prog 38 [.ref 5 0 0 4,.val (.int .u64 c),.val (.int .u64 ((i:Int)+1)),.val (.int .u64 ((i:Int)+1))] [(5,tbB i),(11,nmB c i),(2,.grow (ntL i) 2),(4,.grow (owL c i) 2)] (.val (.int .i64 0)) [(5,tbB (i+1)),(11,nmB c (i+1)),(2,.grow (ntL (i+1)) 2),(4,.grow (owL c (i+1)) 2)]:=by
 have hc':(0:Int)<c/\(c:Int)<=4611686018427387903:=by unfold BI at hc;omega
 have h1:=Q4 c hc'
 have h2:=Q4 ((i:Int)+1) (by omega)
 have h3:=KU c i (by omega)
 rw[ntL_s,owL_s]
 have oN:=BS i
 have lN:=GU i
 have oO:=CA c i
 have lO:=UH c i
 have w1:IntKind.u64.wrap ((i:Int)+1)=(i:Int)+1:=Hi (by omega) (by omega)
 have b1:decide ((i:Int)+1<=i)=false:=decide_eq_false (by omega)
 have b2:decide ((i:Int)+1<(i:Int)+1)=false:=decide_eq_false (by omega)
 have b3:decide ((0:Int)<=(i:Int)+1)=true:=decide_eq_true (by omega)
 have b4:decide ((i:Int)+1<=0)=false:=decide_eq_false (by omega)
 have f1:=fd1 c (.gref 2 i)
 generalize ntL i=X at*
 generalize owL c i=Y at*
 refine Zd [] func38 rfl ntmps38 results38 ?_
 (have z:=Za f1<|Za sa1<|Za w1<|Za b1<|Za b2<|Za b3<|Za b4<|Za oN<|Za lN<|Za oO lO;(try push_cast[z])<;>repeat' (first|apply Zi<;>intro _|refine Zc h1 ?_|refine Zc h2 ?_|refine Zs [(5,5),(11,11),(13,2),(15,4)] h3 ?_|exact Zo|with_reducible apply Za)<;>try push_cast[z])
 all_goals first|omega|exact fun y hy=>absurd hy A0Y|(intro y hy;cases A0a.1 hy;rfl)|(intro y hy d hd;cases A0a.1 hy;simp at hd;rcases hd with rfl|rfl<;>rfl)|skip
 apply Zr [(2,432),(4,608)] rfl<;>push_cast [oN,oO]
theorem c_upTo1(i v j:Nat)(hj:j<i)(hi:i<=1048576):A0 prog 133 [.val (.int .i64 j),.ptr [.slice (ntL i) false] 0,.ptr [.val (.int .u64 v)] 0] (.val (.bool (decide (v<=j)))):=by
 have e1:=YJ hj
 have oN:=BS i
 have lN:=GU i
 have b1:decide ((v:Int)<(j:Int)+1)=decide (v<=j):=by
  by_cases h:v<=j
  ·rw[decide_eq_true h];exact decide_eq_true (by omega)
  ·rw[decide_eq_false h];exact decide_eq_false (by omega)
 generalize ntL i=X at*
 refine Zf [] func133 rfl ntmps133 results133 ?_
 (have z:=Za e1<|Za oN<|Za lN b1;(try push_cast[z])<;>repeat' (first|apply Zi<;>intro _|exact Zo|with_reducible apply Za)<;>try push_cast[z])
 all_goals first|omega|skip
theorem c_upTo(i v:Nat)(hi:i<=1048576)(hv:v<=i):A0 prog 77 [.slice (ntL i) false,.val (.int .u64 v)] (.val (.int .i64 v)):=by
 have oN:=BS i
 have lN:=GU i
 have hs:=Ju i 133 [.ptr [.slice (ntL i) false] 0,.ptr [.val (.int .u64 v)] 0] (fun j=>decide (v<=j)) (by simp[Af,D.pure,oN]) (by omega) (fun j hj=>c_upTo1 i v j hj hi) (fun a b h1 h2 h3=>by simp at h3|-;omega)
 rw[K1 (k:=v) (n:=i) i 0 (by omega) (by omega) hv (fun x _ h=>by simp;omega) (fun x h _=>by simpa using h)] at hs
 generalize ntL i=X at*
 refine Zf [0,8] func77 rfl ntmps77 results77 ?_
 (have z:=Za oN lN;(try push_cast[z])<;>repeat' (first|apply Zi<;>intro _|refine Zc (hs ..) ?_|exact Zo|with_reducible apply Za)<;>try push_cast[z])
 all_goals first|omega|skip
theorem Xl(X:List (List D))(oX:A3 X=true)(n:Nat)(hn:n<=X.length)(hl:X.length<=1048576)(hz:∀ y ∈ X,y.length=2):A0 prog 78 [.slice X false,.val (.int .i64 n)] (.slice (X.drop n) false):=by
 obtain⟨m,hm⟩:∃ m,m=X.length:=⟨_,rfl⟩
 have w1:IntKind.i64.wrap ((m:Int)-n)=((m-n:Nat):Int):=by rw[Aa (by omega) (by omega)];omega
 have oD:A3 (X.drop n)=true:=by
  have:∀ (X:List (List D)) (n:Nat),A3 X=true->A3 (X.drop n)=true:=by
   intro X n h
   induction n generalizing X with
   |zero=>exact h
   |succ n ih=>
    cases X with
    |nil=>rfl
    |cons x X=>simp only[A3,A09] at h;exact ih X h.2
  exact this X n oX
 have e1:List.take (m-n) (X.drop n)=X.drop n:=A05 (by rw[A0s];omega)
 have e2:(X.drop n).length=m-n:=by rw[A0s,hm]
 have hz2:∀ y ∈ X.drop n,y.length=2:=fun y hy=>hz y (A0D hy)
 rw[<-hm] at hn hl
 generalize hY:X.drop n=Y at*
 refine Zf [] func78 rfl ntmps78 results78 ?_
 (have z:=Za w1<|Za oX<|Za oD<|Za e1<|Za e2<|Za hY (hm).symm;(try push_cast[z])<;>repeat' (first|apply Zi<;>intro _|exact Zo|with_reducible apply Za)<;>try push_cast[z])
 all_goals first|omega|assumption|exact fun y hy=>absurd hy A0Y|skip
abbrev tbC(Y:List (List D))(i v:Nat):Blk:=.rows [[.mref 11,.slice Y false,.val (.int .u64 i),.val (.int .u64 v)]] 4
theorem c_cut(c i v:Nat)(Y:List (List D))(oY:A3 Y=true)(hi:i<=1048576)(hv:v<=i):A2 prog 40 [.ref 5 0 0 4,.val (.int .u64 c)] [(5,tbC Y i v),(11,nmL c i),(13,.grow (ntL i) 2)] (.tup []) [(5,tbC Y i v)]:=by
 have oN:=BS i
 have lN:=GU i
 have h1:=c_upTo i v hi hv
 have f1:=fd1 c (.gref 13 i)
 have w1:IntKind.i64.wrap ((v:Int)-1)=(v:Int)-1:=Aa (by omega) (by omega)
 rcases A0O 1 v with h|h
 ·have b1:decide ((1:Int)<v)=true:=decide_eq_true (by omega)
  have h2:=Xl (ntL i) oN (v-1) (by omega) (by omega) (ntL_all i)
  have e1:((v-1:Nat):Int)=(v:Int)-1:=by omega
  rw[e1] at h2
  have oD:A3 ((ntL i).drop (v-1))=true:=by
   have h3:=oN
   rw[<-A12 (v-1) (ntL i)] at h3
   have key:∀ a b:List (List D),A3 (a++b)=true->A3 b=true:=by
    intro a b h
    induction a with
    |nil=>exact h
    |cons x a ih=>simp only[A0d,A3,A09] at h;exact ih h.2
   exact key _ _ h3
  generalize(ntL i).drop (v-1)=Z at*
  generalize ntL i=X at*
  refine Zd [] func40 rfl ntmps40 results40 ?_
  (have z:=Za f1<|Za sa1<|Za w1<|Za b1<|Za oN<|Za lN<|Za oD oY;(try push_cast[z])<;>repeat' (first|apply Zi<;>intro _|refine Zq h1 ?_ ?_|refine Zg h2 ?_ ?_|exact Zo|with_reducible apply Za)<;>try push_cast[z])
  all_goals first|omega|skip
  apply Zw<;>push_cast [oY]
 ·have b1:decide ((1:Int)<v)=false:=decide_eq_false (by omega)
  generalize ntL i=X at*
  refine Zd [] func40 rfl ntmps40 results40 ?_
  (have z:=Za f1<|Za w1<|Za b1<|Za oN<|Za lN oY;(try push_cast[z])<;>repeat' (first|apply Zi<;>intro _|refine Zq h1 ?_ ?_|exact Zo|with_reducible apply Za)<;>try push_cast[z])
  all_goals first|omega|skip
  apply Zw<;>push_cast [oY]
theorem Xk(X:List (List D))(oX:A3 X=true)(n:Nat)(hn:n<=X.length)(hl:X.length<=1048576)(hz:∀ y ∈ X,y.length=2):A0 prog 39 [.slice X false,.val (.int .i64 n)] (.slice (X.drop n) false):=by
 obtain⟨m,hm⟩:∃ m,m=X.length:=⟨_,rfl⟩
 have w1:IntKind.i64.wrap ((m:Int)-n)=((m-n:Nat):Int):=by rw[Aa (by omega) (by omega)];omega
 have oD:=Bx oX n
 have e1:List.take (m-n) (X.drop n)=X.drop n:=A05 (by rw[A0s];omega)
 have e2:(X.drop n).length=m-n:=by rw[A0s,hm]
 have hz2:∀ y ∈ X.drop n,y.length=2:=fun y hy=>hz y (A0D hy)
 rw[<-hm] at hn hl
 generalize hY:X.drop n=Y at*
 refine Zf [] func39 rfl ntmps39 results39 ?_
 (have z:=Za w1<|Za oX<|Za oD<|Za e1<|Za e2<|Za hY (hm).symm;(try push_cast[z])<;>repeat' (first|apply Zi<;>intro _|exact Zo|with_reducible apply Za)<;>try push_cast[z])
 all_goals first|omega|assumption|exact fun y hy=>absurd hy A0Y|skip
theorem Sk:A2 prog 19 [.ref 5 0 0 4,.val (.int .u64 0)] [(5,MJ)] (.tup []) [(5,MJ)]:=by
 refine Zd [] func19 rfl ntmps19 results19 ?_
 ((try push_cast)<;>repeat' (first|apply Zi<;>intro _|exact Zp|with_reducible apply Za)<;>try push_cast)
 apply Zw<;>push_cast
theorem Mt(i:Nat):A2 prog 19 [.ref 5 0 0 4,.val (.int .u64 0)] [(5,tbL i)] (.tup []) [(5,tbL i)]:=by
 refine Zd [] func19 rfl ntmps19 results19 ?_
 ((try push_cast)<;>repeat' (first|apply Zi<;>intro _|exact Zp|with_reducible apply Za)<;>try push_cast)
 apply Zw<;>push_cast
def notQ(c j:Nat):List (Value×Nat×D):=if j=0 then [] else [(.int .u64 c,0,.val (.int .i64 j))]
def notK(j:Nat):Nat:=if j=0 then 0 else 1
def Gx(v j:Nat):Nat:=min j (v-1)
theorem gon0(v:Nat):Gx v 0=0:=Nat.zero_min _
theorem YK(c:Nat):notQ c 0=[]:=rfl
theorem LA(c:Nat){j:Nat}(h:0<j):notQ c j=[(.int .u64 c,0,.val (.int .i64 j))]:=by unfold notQ;rw[if_neg (by omega)]
theorem YL:notK 0=0:=rfl
theorem LB{j:Nat}(h:0<j):notK j=1:=by unfold notK;rw[if_neg (by omega)]
def fgS(c i v j:Nat):St:=⟨[(29,.val (.int .i64 j)),(28,.val (.int .i64 i)),(27,.gref 15 i),(5,.val (.int .i64 (Gx v j:Nat))),(4,.mref 128),(1,.val (.int .u64 v)),(0,.ref 5 0 0 4)],
 [(128,.map (notQ c j) (notK j)),(5,.rows [[.mref 11,.gref 15 i,.val (.int .u64 i),.val (.int .u64 v)]] 4),(11,nmL c i),(13,.grow (ntL i) 2),(15,.grow (owL c i) 2)],100⟩
theorem X3(c i v:Nat)(hc:BI c)(hi:i<=1048576)(hv:0<v/\v<i):A2 prog 19 [.ref 5 0 0 4,.val (.int .u64 v)] [(5,tbL i),(11,nmL c i),(13,.grow (ntL i) 2),(15,.grow (owL c i) 2)] (.tup []) []:=by
 have hc':(c:Int)<=4611686018427387903:=by unfold BI at hc;omega
 have oN:=BS i
 have lN:=GU i
 have oO:=CA c i
 have lO:=UH c i
 have b1:decide ((v:Int)<=0)=false:=decide_eq_false (by omega)
 refine Zd [] func19 rfl ntmps19 results19 ?_
 (have z:=Za oN<|Za lN<|Za oO<|Za lO b1;(try push_cast[z])<;>repeat' (first|apply Zi<;>intro _|exact Zo|with_reducible apply Za)<;>try push_cast[z])
 all_goals first|omega|skip
 refine Zl (fun j=>j<=v) (fun j=>fgS c i v j) (fun j=>v-j) 0 (by omega) ?_ fun j hj=>?_
 ·unfold fgS
  rw[gon0,YK,YL]
  apply Zw<;>push_cast [oN,oO]
 ·unfold fgS
  have e1:=nr_owL (c:=c) (i:=i) (j:=j) (by omega)
  have c1:decide ((j:Int)<i)=true:=decide_eq_true (by omega)
  have w1:IntKind.i64.wrap ((j:Int)+1)=(j:Int)+1:=Aa (by omega) (by omega)
  rcases A0O j v with h|h
  ·have c2:decide ((v:Int)<(j:Int)+1)=false:=decide_eq_false (by omega)
   have hg:Gx v (j+1)=if j+1<v then Gx v j+1 else Gx v j:=by unfold Gx;split<;>omega
   have hgl:Gx v j<=1048576:=by unfold Gx;omega
   have w2:IntKind.i64.wrap ((Gx v j:Int)+1)=(Gx v j:Int)+1:=Aa (by omega) (by omega)
   by_cases h3:j+1<v
   ·have c3:decide ((j:Int)+1<v)=true:=decide_eq_true (by omega)
    rw[if_pos h3] at hg
    generalize Gx v j=g at*
    rcases A16 j with h0|h0
    ·subst h0
     have c1':decide ((0:Int)<i)=true:=c1
     have c2':decide ((v:Int)<1)=false:=decide_eq_false (by omega)
     have c3':decide ((1:Int)<v)=true:=decide_eq_true (by omega)
     have w1':IntKind.i64.wrap 1=1:=by decide
     have e1':nr (owL c i) 0=[.val (.int .u64 1),.val (.int .u64 c)]:=e1
     rw[YK,YL]
     (have z:=Za oN<|Za lN<|Za oO<|Za lO<|Za e1'<|Za c1'<|Za c2'<|Za c3'<|Za w1'<|Za w2 fd0;(try push_cast[z])<;>repeat' (first|apply Zi<;>intro _|exact Zo|with_reducible apply Za)<;>try push_cast[z])
     all_goals first|omega|skip
     all_goals
      refine⟨0+1,by omega,by omega,?_⟩
      rw[hg,LA c (by omega),LB (by omega)]
      apply Zw<;>push_cast [oN,oO,w1]
    ·rw[LA c h0,LB h0]
     (have z:=Za oN<|Za lN<|Za oO<|Za lO<|Za e1<|Za c1<|Za c2<|Za c3<|Za w1<|Za w2<|Za fd1 sa1;(try push_cast[z])<;>repeat' (first|apply Zi<;>intro _|exact Zo|with_reducible apply Za)<;>try push_cast[z])
     all_goals first|omega|skip
     all_goals
      refine⟨j+1,by omega,by omega,?_⟩
      rw[hg,LA c (by omega),LB (by omega)]
      apply Zw<;>push_cast [oN,oO,w1]
   ·have c3:decide ((j:Int)+1<v)=false:=decide_eq_false (by omega)
    rw[if_neg h3] at hg
    generalize Gx v j=g at*
    rcases A16 j with h0|h0
    ·subst h0
     have c1':decide ((0:Int)<i)=true:=c1
     have c2':decide ((v:Int)<1)=false:=decide_eq_false (by omega)
     have c3':decide ((1:Int)<v)=false:=decide_eq_false (by omega)
     have w1':IntKind.i64.wrap 1=1:=by decide
     have e1':nr (owL c i) 0=[.val (.int .u64 1),.val (.int .u64 c)]:=e1
     rw[YK,YL]
     (have z:=Za oN<|Za lN<|Za oO<|Za lO<|Za e1'<|Za c1'<|Za c2'<|Za c3'<|Za w1'<|Za w2 fd0;(try push_cast[z])<;>repeat' (first|apply Zi<;>intro _|exact Zo|with_reducible apply Za)<;>try push_cast[z])
     all_goals first|omega|skip
     all_goals
      refine⟨0+1,by omega,by omega,?_⟩
      rw[hg,LA c (by omega),LB (by omega)]
      apply Zw<;>push_cast [oN,oO,w1]
    ·rw[LA c h0,LB h0]
     (have z:=Za oN<|Za lN<|Za oO<|Za lO<|Za e1<|Za c1<|Za c2<|Za c3<|Za w1<|Za w2<|Za fd1 sa1;(try push_cast[z])<;>repeat' (first|apply Zi<;>intro _|exact Zo|with_reducible apply Za)<;>try push_cast[z])
     all_goals first|omega|skip
     all_goals
      refine⟨j+1,by omega,by omega,?_⟩
      rw[hg,LA c (by omega),LB (by omega)]
      apply Zw<;>push_cast [oN,oO,w1]
  ·have hjv:j=v:=by omega
   have c2:decide ((v:Int)<(j:Int)+1)=true:=decide_eq_true (by omega)
   have hgl:Gx v j<=i:=by unfold Gx;omega
   have h2:=Xk (owL c i) oO (Gx v j) (by omega) (by omega) (owL_all c i)
   have oD:=Bx oO (Gx v j)
   have oZ:=oD
   generalize Gx v j=g at*
   generalize(owL c i).drop g=Z at*
   have hC:=c_cut c i v Z oZ hi (by omega)
   generalize owL c i=Y at*
   rw[LA c (by omega),LB (by omega)]
   (have z:=Za oN<|Za lN<|Za oO<|Za lO<|Za oD<|Za e1<|Za c1 c2;(try push_cast[z])<;>repeat' (first|apply Zi<;>intro _|refine Zg h2 ?_ ?_|exact Zo|with_reducible apply Za)<;>try push_cast[z])
   all_goals first|omega|skip
   subst hjv
   refine AWp.loopI mixed (by kernel_rfl) (ι:=Bool) (fun _=>True) (fun b=>⟨[(59,.ref 360 0 0 1),(0,.ref 5 0 0 4)],(360,.iter 128 1 (if b then [0] else []) 1)::(5,tbC Z i j)::(128,.map [(.int .u64 c,0,.val (.int .i64 j))] 1)::(if b then [] else [(11,nmL c i),(13,.grow (ntL i) 2)]),184⟩) (fun b=>if b then 0 else 1) false trivial ?_ fun b _=>?_
   ·apply Zw<;>push_cast [oN,oD]
   ·cases b with
    |false=>
     push_cast[oN,oD]
     refine A1.next 360 128 (es:=[(.int .u64 c,0,.val (.int .i64 j))]) (ck:=1) (seen:=[]) (by push_cast) (by push_cast) (by push_cast) (fun y hy=>by cases A0a.1 hy;exact Nat.zero_lt_one) (fun hall=>absurd (hall _ (A0a.2 rfl)) A0Y) fun y hy hns=>?_
     cases A0a.1 hy
     have hgl:[0].getLast? =some 0:=rfl
     have hfb:ND 0 [(Value.int .u64 (c:Int),0,D.val (.int .i64 (j:Int)))]=some (.int .u64 c,.val (.int .i64 j)):=rfl
     (have z:=Za oN<|Za oD<|Za @hgl @hfb;(try push_cast[z])<;>repeat' (first|apply Zi<;>intro _|refine Zs [(5,5),(11,11),(13,13)] hC ?_|exact Zo|with_reducible apply Za)<;>try push_cast[z])
     all_goals first|omega|skip
     refine⟨true,by decide,?_⟩
     apply Zw<;>push_cast [oN,oD]
    |true=>
     push_cast[oN,oD]
     refine A1.next 360 128 (es:=[(.int .u64 c,0,.val (.int .i64 j))]) (ck:=1) (seen:=[0]) (by push_cast) (by push_cast) (by push_cast) (fun y hy=>by cases A0a.1 hy;exact Nat.zero_lt_one) (fun hall=>?_) fun y hy hns=>?_
     ·(have z:=Za oN oD;(try push_cast[z])<;>repeat' (first|apply Zi<;>intro _|exact Zo|with_reducible apply Za)<;>try push_cast[z])
      apply Zw<;>push_cast
     ·cases A0a.1 hy
      exact absurd (A0a.2 rfl) hns
abbrev svB(i:Nat):Blk:=.rows [[.ref 3 0 0 3,.ref 5 0 0 4,.gref 6 i]] 3
abbrev svP(X:List (List D))(i m:Nat)(R:List (List D)):D:=.ptr [lgP X i m,.any,.slice R false] 0
theorem Mv(X:List (List D))(hX:A3 X=true)(i m:Nat)(R:List (List D))(hR:A3 R=true):A0 prog 15 [svP X i m R] (.val (.bool true)):=by
 refine Zf [] func15 rfl ntmps15 results15 ?_
 (have z:=Za hX hR;(try push_cast[z])<;>repeat' (first|apply Zi<;>intro _|exact Zo|with_reducible apply Za)<;>try push_cast[z])
theorem Ha(X:List (List D))(hX:A3 X=true)(i m:Nat)(R:List (List D))(hR:A3 R=true)(hl:R.length=i)(hi:i<=1048576):A0 prog 8 [svP X i m R] (.val (.int .u64 i)):=by
 have h1:=Mv X hX i m R hR
 have w1:IntKind.u64.wrap (i:Int)=i:=Hi (by omega) (by omega)
 refine Zf [] func8 rfl ntmps8 results8 ?_
 (have z:=Za hX<|Za hR<|Za hl w1;(try push_cast[z])<;>repeat' (first|apply Zi<;>intro _|refine Zc h1 ?_|exact Zo|with_reducible apply Za)<;>try push_cast[z])
theorem Sq(X:List (List D))(hX:A3 X=true)(i m o:Nat)(R:List (List D))(hR:A3 R=true)(hm:0<m)(hm1:m<=1024)(hi:i<=1048576)(ho:o+m=i+1):A0 prog 20 [svP X i m R] (.val (.int .u64 o)):=by
 have h1:=Mv X hX i m R hR
 have h2:=P5 X hX i m o hm hm1 hi ho
 refine Zf [] func20 rfl ntmps20 results20 ?_
 (have z:=Za hX hR;(try push_cast[z])<;>repeat' (first|apply Zi<;>intro _|refine Zc h1 ?_|refine Zc h2 ?_|exact Zo|with_reducible apply Za)<;>try push_cast[z])
abbrev svX(k i m:Nat)(X R:List (List D)):Hp:=[(1,svB i),(3,lgB k i m),(7,.rows X 1),(6,.grow R 23)]
abbrev svY(k i m:Nat)(X R:List (List D)):Hp:=[(1,.rows [[.ref 3 0 0 3,.ref 5 0 0 4,.gref 9 i]] 3),(3,lgB k i m),(7,.rows X 1),(9,.grow R 23)]
theorem c_sAt(k i m o r:Nat)(rg:List GT)(R:List (List D))(hR:A3 R=true)(hl:R.length=i)(hg:rg.length=k)(hk:0<k)(hk2:k<=1024)(hm:0<m)(hm1:m<=1024)(hi:i<=1048576)(ho:o+m=i+1)(hr:i%k=r):
  A2 prog 75 [.ref 1 0 0 3,.val (.int .u64 i)] [(1,.rows [[.ref 3 0 0 3,.ref 5 0 0 4,.gref 9 i]] 3),(3,lgB k i m),(7,rgB rg),(9,.grow R 23)] (.tup [AL (rg.getD r .nil),.val (.bool true)]) [(1,.rows [[.ref 3 0 0 3,.ref 5 0 0 4,.gref 9 i]] 3),(3,lgB k i m),(7,rgB rg),(9,.grow R 23)]:=by
 have oG:=Bd rg
 have h1:=Mv _ oG i m R hR
 have h2:=c_lAt k i m o r rg hg hk hk2 hm hm1 hi ho hr
 have oT:=A5 (rg.getD r .nil)
 have o1:=Cm (rg.getD r .nil)
 have hlen:(rg.map fun t=>[A8 t]).length=k:=by simp[hg]
 have et:(rg.map fun t=>[A8 t]).take k=rg.map fun t=>[A8 t]:=A05 (by omega)
 simp only[AL] at*
 unfold rgB at*
 generalize(rg.map fun t=>[A8 t])=X at*
 generalize A8 (rg.getD r .nil)=Y at*
 have c0:(if k<=k/\k<=k/\k<=9223372036854775807 then D.slice X true else .sref 7 0 k k 1)=.slice X true:=if_pos ⟨A08 _,A08 _,by omega⟩
 refine Zd [] func75 rfl ntmps75 results75 ?_
 (have z:=Za oG<|Za hR<|Za hl<|Za oT<|Za o1<|Za @hlen<|Za et c0;(try push_cast[z])<;>repeat' (first|apply Zi<;>intro _|refine Zs [(3,3),(7,7)] h2 ?_|exact Zo|with_reducible apply Za|((with_reducible show A1 _ _ _ _ _ _ _ _);refine A1.lend (svY k i m X R) _ rfl (by exact h1 ..) (by first|exact .inl rfl|exact .inr ⟨_,_,_,rfl,rfl,rfl⟩) ?_ ?_ ?_ (by first|rfl|push_cast [z]) ?_;(· push_cast[z]<;>(with_unfolding_all exact A9 _));(· push_cast[z]<;>first|exact fun _=>trivial|(with_unfolding_all exact A9 _));(· push_cast[z]);try push_cast[z])|fail)<;>try push_cast[z])
 all_goals first|omega|skip
 apply Zw<;>push_cast [oG,oT,hR]
theorem Vb(k i m o r:Nat)(rg:List GT)(R:List (List D))(hR:A3 R=true)(hl:R.length=i)(hg:rg.length=k)(hk:0<k)(hk2:k<=1024)(hm:0<m)(hm1:m<=1024)(hi:i<=1048576)(ho:o+m=i+1)(hr:i%k=r):
  A2 prog 37 [.ref 1 0 0 3] [(1,.rows [[.ref 3 0 0 3,.ref 5 0 0 4,.gref 9 i]] 3),(3,lgB k i m),(7,rgB rg),(9,.grow R 23)] (AL (rg.getD r .nil)) [(1,.rows [[.ref 3 0 0 3,.ref 5 0 0 4,.gref 9 i]] 3),(3,lgB k i m),(7,rgB rg),(9,.grow R 23)]:=by
 have oG:=Bd rg
 have h1:=Ha _ oG i m R hR hl hi
 have h2:=c_sAt k i m o r rg R hR hl hg hk hk2 hm hm1 hi ho hr
 have oT:=A5 (rg.getD r .nil)
 have o1:=Cm (rg.getD r .nil)
 have hlen:(rg.map fun t=>[A8 t]).length=k:=by simp[hg]
 have et:(rg.map fun t=>[A8 t]).take k=rg.map fun t=>[A8 t]:=A05 (by omega)
 simp only[AL] at*
 unfold rgB at*
 generalize(rg.map fun t=>[A8 t])=X at*
 generalize A8 (rg.getD r .nil)=Y at*
 have c0:(if k<=k/\k<=k/\k<=9223372036854775807 then D.slice X true else .sref 7 0 k k 1)=.slice X true:=if_pos ⟨A08 _,A08 _,by omega⟩
 refine Zd [] func37 rfl ntmps37 results37 ?_
 (have z:=Za oG<|Za hR<|Za hl<|Za oT<|Za o1<|Za @hlen<|Za et c0;(try push_cast[z])<;>repeat' (first|apply Zi<;>intro _|refine Zs [(1,1),(3,3),(7,7),(9,9)] h2 ?_|exact Zo|with_reducible apply Za|((with_reducible show A1 _ _ _ _ _ _ _ _);refine A1.lend (svY k i m X R) _ rfl (by exact h1 ..) (by first|exact .inl rfl|exact .inr ⟨_,_,_,rfl,rfl,rfl⟩) ?_ ?_ ?_ (by first|rfl|push_cast [z]) ?_;(· push_cast[z]<;>(with_unfolding_all exact A9 _));(· push_cast[z]<;>first|exact fun _=>trivial|(with_unfolding_all exact A9 _));(· push_cast[z]);try push_cast[z])|fail)<;>try push_cast[z])
 all_goals first|omega|skip
 apply Zw<;>push_cast [oG,oT,hR]
def Lj(i c:Nat)(m:GM)(e:Int):List D:=[.val (.int .u64 ((i:Int)+1)),.val (.int .u64 c),.val (.int .u64 ((i:Int)+1))]++Ap m++[.val (.int .i64 e)]
theorem Yb(i c:Nat)(m:GM)(e:Int):(Lj i c m e).length=23:=by simp[Lj,Bp]
theorem JH(i c:Nat)(m:GM)(e:Int):Af (Lj i c m e)=true:=by simp only[Lj,CJ,Af,D.pure,Au,A0E]
theorem Kp{X:List (List D)}{y:List D}(h:A3 X=true)(hy:Af y=true):A3 (X++[y])=true:=by
 induction X with
 |nil=>simp [A3,hy]
 |cons x X ih=>simp only[A3,A09] at h;simp only[A0d,A3,h.1,ih h.2,A0E]
structure SvOk(k i m r:Nat)(rg:List GT)(R:List (List D)):Prop where
 pure:A3 R=true
 len:R.length=i
 ring:rg.length=k
 k0:0<k
 k1:k<=1024
 m0:0<m
 m1:m<=k
 mi:m<=i+1
 i1:i<=1000
 r:i%k=r
theorem c_exec(k i m m' r r' c:Nat)(rg:List GT)(R:List (List D))(t':GT)(u:GM)(e:Int)(hc:BI c)(h:SvOk k i m r rg R)(h0:0<i)(hm':m'=min (m+1) k)(hr':(i+1)%k=r')
  (hRun:A0 prog 36 [AL (rg.getD r .nil),.agg (Ap u)] (.tup [AL t',.val (.int .i64 e)])):
  A2 prog 18 [.ref 1 0 0 3,.val (.int .u64 c),.agg (.val (.int .u64 ((i:Int)+1))::Ap u)]
   [(1,svB i),(3,lgB k i m),(7,rgB rg),(6,.grow R 23),(5,tbB i),(11,nmB c i),(2,.grow (ntL i) 2),(4,.grow (owL c i) 2)] (.val (.int .i64 e))
   [(1,svB (i+1)),(3,lgB k (i+1) m'),(7,rgB (rg.set r' t')),(6,.grow (R++[Lj i c u e]) 23),(5,tbB (i+1)),(11,nmB c (i+1)),(2,.grow (ntL (i+1)) 2),(4,.grow (owL c (i+1)) 2)]:=by
 obtain⟨hR,hl,hg,hk,hk2,hm,hm1,hmi,hi,hr⟩:=h
 have oG:=Bd rg
 have oG':=Bd (rg.set r' t')
 have hT:=Vb k i m (i+1-m) r rg R hR hl hg hk hk2 hm (by omega) (by omega) (by omega) hr
 have hV:=Ha _ oG i m R hR hl (by omega)
 have hP:=c_lPut k i m m' r' rg t' hg hk hk2 hm hm1 (by omega) hm' hr'
 have hN:=c_tNote c i hc (by omega)
 have oT:=A5 (rg.getD r .nil)
 have o1:=Cm (rg.getD r .nil)
 have oT':=A5 t'
 have o1':=Cm t'
 have hlen:(rg.map fun t=>[A8 t]).length=k:=by simp[hg]
 have et:(rg.map fun t=>[A8 t]).take k=rg.map fun t=>[A8 t]:=A05 (by omega)
 have w1:IntKind.u64.wrap ((i:Int)+1)=(i:Int)+1:=Hi (by omega) (by omega)
 have oU:=Au u
 have lR:=Yb i c u e
 have oN:=BS i
 have oN1:=BS (i+1)
 have oO:=CA c i
 have oO1:=CA c (i+1)
 have oR1:=Kp hR (JH i c u e)
 unfold Lj at*
 simp only[AL] at*
 unfold rgB at*
 generalize(rg.map fun t=>[A8 t])=X at*
 generalize((rg.set r' t').map fun t=>[A8 t])=X' at*
 generalize A8 (rg.getD r .nil)=Y at*
 generalize A8 t'=Y' at*
 generalize ntL i=NL at*
 generalize ntL (i+1)=NL' at*
 generalize owL c i=OL at*
 generalize owL c (i+1)=OL' at*
 rw[AY,A7 u.was,A7 u.value] at*
 simp only[A0d,A0h,A0c] at*
 have c0:(if k<=k/\k<=k/\k<=9223372036854775807 then D.slice X true else .sref 7 0 k k 1)=.slice X true:=if_pos ⟨A08 _,A08 _,by omega⟩
 refine Zd [] func18 rfl ntmps18 results18 ?_
 (have z:=Za oG<|Za oG'<|Za hR<|Za hl<|Za oT<|Za o1<|Za oT'<|Za o1'<|Za @hlen<|Za et<|Za c0<|Za w1<|Za oU<|Za oN<|Za oN1<|Za oO oO1;(try push_cast[z])<;>repeat' (first|apply Zi<;>intro _|refine Zs [(1,1),(3,3),(7,7),(9,6)] hT ?_|refine Zc (hRun ..) ?_|refine Zs [(3,3),(7,7)] hP ?_|refine Zs [(5,5),(11,11),(2,2),(4,4)] hN ?_|exact Zo|with_reducible apply Za|((with_reducible show A1 _ _ _ _ _ _ _ _);refine A1.lend (svX k i m X R) _ rfl (by exact hV ..) (by first|exact .inl rfl|exact .inr ⟨_,_,_,rfl,rfl,rfl⟩) ?_ ?_ ?_ (by first|rfl|push_cast [z]) ?_;(· push_cast[z]<;>(with_unfolding_all exact A9 _));(· push_cast[z]<;>first|exact fun _=>trivial|(with_unfolding_all exact A9 _));(· push_cast[z]);try push_cast[z])|fail)<;>try push_cast[z])
 all_goals first|omega|(intro y hy;cases A0a.1 hy;rfl)|(intro y hy d hd;cases A0a.1 hy;simp only[A0q,A0Y,or_false] at hd;rcases hd with rfl|rfl|rfl|rfl|rfl|rfl|rfl|rfl|rfl|rfl|rfl|rfl|rfl|rfl|rfl|rfl|rfl|rfl|rfl|rfl|rfl|rfl|rfl<;>rfl)|skip
 apply Zr [(6,400),(4,284),(2,282)] rfl<;>push_cast [oG',oR1,oN1,oO1]
abbrev svX0(k:Nat)(X:List (List D)):Hp:=[(1,svB 0),(3,.rows [[.sref 7 0 k k 1,.val (.int .u64 0),.val (.int .i64 1)]] 3),(7,.rows X 1),(6,.grow [] 23)]
theorem c_exec0(k c m' r':Nat)(rg:List GT)(t':GT)(u:GM)(e:Int)(hc:BI c)(h:SvOk k 0 1 0 rg [])(hm':m'=min 2 k)(hr':1%k=r')
  (hRun:A0 prog 36 [AL (rg.getD 0 .nil),.agg (Ap u)] (.tup [AL t',.val (.int .i64 e)])):
  A2 prog 18 [.ref 1 0 0 3,.val (.int .u64 c),.agg (.val (.int .u64 1)::Ap u)]
   [(1,svB 0),(3,lgB k 0 1),(7,rgB rg),(6,.grow [] 23),(5,MJ)] (.val (.int .i64 e))
   [(1,svB 1),(3,lgB k 1 m'),(7,rgB (rg.set r' t')),(6,.grow [Lj 0 c u e] 23),(5,.rows [[.mref 0,.gref 4 1,.val (.int .u64 1),.val (.int .u64 0)]] 4),(0,nmB c 1),(2,.grow (ntL 1) 2),(4,.grow (owL c 1) 2)]:=by
 obtain⟨hR,hl,hg,hk,hk2,hm,hm1,hmi,hi,hr⟩:=h
 have oG:=Bd rg
 have oG':=Bd (rg.set r' t')
 have hT:=Vb k 0 1 0 0 rg [] hR hl hg hk hk2 hm (by omega) (by omega) (by omega) hr
 have hV:=Ha _ oG 0 1 [] hR hl (by omega)
 have hP:=c_lPut k 0 1 m' r' rg t' hg hk hk2 hm hm1 (by omega) hm' hr'
 have hN:=c_tNote0 c hc
 have oT:=A5 (rg.getD 0 .nil)
 have o1:=Cm (rg.getD 0 .nil)
 have oT':=A5 t'
 have o1':=Cm t'
 have hlen:(rg.map fun t=>[A8 t]).length=k:=by simp[hg]
 have et:(rg.map fun t=>[A8 t]).take k=rg.map fun t=>[A8 t]:=A05 (by omega)
 have w1:IntKind.u64.wrap 1=1:=by decide
 have oU:=Au u
 have oN1:=BS 1
 have oO1:=CA c 1
 have oR1:A3 [Lj 0 c u e]=true:=Kp (X:=[]) rfl (JH 0 c u e)
 have er:Lj 0 c u e=[.val (.int .u64 1),.val (.int .u64 c),.val (.int .u64 1)]++Ap u++[.val (.int .i64 e)]:=rfl
 rw[er] at*
 simp only[AL] at*
 unfold rgB at*
 change A2 _ _ [_,.val (.int .u64 1),_] _ _ _ at hP
 generalize(rg.map fun t=>[A8 t])=X at*
 generalize((rg.set r' t').map fun t=>[A8 t])=X' at*
 generalize A8 (rg.getD 0 .nil)=Y at*
 generalize A8 t'=Y' at*
 generalize ntL 1=NL' at*
 generalize owL c 1=OL' at*
 rw[AY,A7 u.was,A7 u.value] at*
 simp only[A0d,A0h,A0c] at*
 change A0 _ _ [.ptr [.ptr [.slice X false,.val (.int .u64 0),.val (.int .i64 1)] 0,.any,.slice [] false] 0] (.val (.int .u64 0)) at hV
 have c0:(if k<=k/\k<=k/\k<=9223372036854775807 then D.slice X true else .sref 7 0 k k 1)=.slice X true:=if_pos ⟨A08 _,A08 _,by omega⟩
 refine Zd [] func18 rfl ntmps18 results18 ?_
 (have z:=Za oG<|Za oG'<|Za oT<|Za o1<|Za oT'<|Za o1'<|Za @hlen<|Za et<|Za c0<|Za w1<|Za oU<|Za oN1 oO1;(try push_cast[z])<;>repeat' (first|apply Zi<;>intro _|refine Zs [(1,1),(3,3),(7,7),(9,6)] hT ?_|refine Zc (hRun ..) ?_|refine Zs [(3,3),(7,7)] hP ?_|refine Zs [(5,5)] hN ?_|exact Zo|with_reducible apply Za|((with_reducible show A1 _ _ _ _ _ _ _ _);refine A1.lend (svX0 k X) _ rfl (by exact hV ..) (by first|exact .inl rfl|exact .inr ⟨_,_,_,rfl,rfl,rfl⟩) ?_ ?_ ?_ (by first|rfl|push_cast [z]) ?_;(· push_cast[z]<;>(with_unfolding_all exact A9 _));(· push_cast[z]<;>first|exact fun _=>trivial|(with_unfolding_all exact A9 _));(· push_cast[z]);try push_cast[z])|fail)<;>try push_cast[z])
 all_goals first|omega|exact fun y hy=>absurd hy A0Y|(intro y hy;cases A0a.1 hy;rfl)|(intro y hy d hd;cases A0a.1 hy;simp only[A0q,A0Y,or_false] at hd;rcases hd with rfl|rfl|rfl|rfl|rfl|rfl|rfl|rfl|rfl|rfl|rfl|rfl|rfl|rfl|rfl|rfl|rfl|rfl|rfl|rfl|rfl|rfl|rfl<;>rfl)|skip
 apply Zr [(6,400),(4,284),(2,282),(0,280)] rfl<;>push_cast [oG',oR1,oN1,oO1]
theorem c_sNew(k:Nat)(hk:0<k)(hk2:k<=1024):A2 prog 6 [.val (.int .i64 k)] [] (.tup [.ref 0 0 0 3,.val (.int .i64 0)])
  [(0,.rows [[.ref 2 0 0 3,.ref 6 0 0 4,.slice [] true]] 3),(2,.rows [[.sref 4 0 k k 1,.val (.int .u64 0),.val (.int .i64 1)]] 3),(4,rgB (List.replicate k .nil)),(6,MJ)]:=by
 have h1:=c_lNew k hk hk2
 have h2:=c_lPut0 k (List.replicate k .nil) .nil (by simp) hk hk2
 have e1:(List.replicate k GT.nil).set 0 .nil=List.replicate k .nil:=by
  obtain⟨k,rfl⟩:∃ n,k=n+1:=⟨k-1,by omega⟩
  rfl
 rw[e1] at h2
 have oG:=Bd (List.replicate k .nil)
 simp only[AL,Bk] at*
 unfold rgB at*
 generalize((List.replicate k GT.nil).map fun t=>[A8 t])=X at*
 change A2 _ _ _ _ _ [(3,.rows [[.sref 7 0 k k 1,.val (.int .u64 0),.val (.int .i64 1)]] 3),(7,.rows X 1)] at h2
 refine Zd [] func6 rfl ntmps6 results6 ?_
 (have z:=oG;(try push_cast[z])<;>repeat' (first|apply Zi<;>intro _|refine Zs [] h1 ?_|refine Zs [(3,32),(7,34)] h2 ?_|exact Zo|with_reducible apply Za)<;>try push_cast[z])
 all_goals first|omega|skip
 apply Zr [(0,184),(2,32),(4,34),(6,160)] rfl<;>push_cast [oG]
def noS(s:ByteArray):Bool:=s.toList==(⟨#[]⟩:ByteArray).toList
theorem YM(s:ByteArray):noS s=decide (s=⟨#[]⟩):=by unfold noS;rw[P7]
def D7(v:GV):Bool:=v.kind==0&&(!v.b&&(v.n==0&&(noS v.s&&((v.list.length:Int)==0&&(v.obj.length:Int)==0))))
theorem KV(v:GV):A0 prog 134 [.agg (A4 v)] (.val (.bool (D7 v))):=by
 rw[A7]
 refine Zf [0] func134 rfl ntmps134 results134 ?_
 ((try push_cast)<;>repeat' (first|apply Zi<;>intro _|exact Zp|with_reducible apply Za)<;>try push_cast)
 all_goals simp_all [D7,YM]
def Qi(m:GM):Bool:=noS m.key&&(noS m.to&&(m.n==0&&(!m.had&&(D7 m.was&&(!m.has&&(D7 m.value&&(m.list.length:Int)==0))))))
theorem c_blank(m:GM):A0 prog 135 [.agg (Ap m)] (.val (.bool (Qi m))):=by
 have h1:=KV m.was
 have h2:=KV m.value
 rw[AY]
 rw[A7] at h1 h2|-
 rw[A7 m.value]
 simp only[A0d,A0h,A0c]
 refine Zf [0] func135 rfl ntmps135 results135 ?_
 (have z:=trivial;(try push_cast)<;>repeat' (first|apply Zi<;>intro _|refine Zc h1 ?_|refine Zc h2 ?_|exact Zp|with_reducible apply Za)<;>try push_cast)
 all_goals simp_all [Qi,YM]
def Ch(m:GM):Bool:=
 (!m.had&& !D7 m.was) ||
 (if m.kind==1 ||m.kind==5 then !(noS m.to&&(m.n==0&&(!m.had&&(D7 m.was&&(!m.has&&(m.list.length:Int)==0)))))
  else if m.kind==2 then !(noS m.to&&(m.n==0&&(!m.had&&(D7 m.was&&(!m.has&&(D7 m.value&&(m.list.length:Int)==0))))))
  else if m.kind==3 then !(noS m.to&&(!m.had&&(D7 m.was&&(!m.has&&(D7 m.value&&(m.list.length:Int)==0)))))
  else if m.kind==4 then(!m.has&& !D7 m.value) ||!(noS m.to&&(m.n==0&&(m.list.length:Int)==0))
  else if m.kind==6 then !(m.n==0&&(!m.had&&(D7 m.was&&(!m.has&&(D7 m.value&&(m.list.length:Int)==0)))))
  else if m.kind==7 then !(noS m.to&&(m.n==0&&(!m.has&&D7 m.value)))
  else true)
theorem Jd:∀ {a b c d:List D},loL a b->loL c d->loL (a++c) (b++d)
 |[],[],_,_,_,h=>h
 |[],_::_,_,_,h,_=>by simp[loL] at h
 |_::_,[],_,_,h,_=>by simp[loL] at h
 |x::a,y::b,c,d,h,h'=>by
  simp only[loL,A0d] at h|-
  exact⟨h.1,Jd h.2 h'⟩
abbrev mutD(kd:Int)(k t:ByteArray)(n:Int)(hd:Bool)(W:List D)(hs:Bool)(V:List D)(L:D):D:=.agg ([.val (.int .i64 kd),.val (.string k),.val (.string t),.val (.int .i64 n),.val (.bool hd)]++W++[.val (.bool hs)]++V++[L])
theorem Fp(m:GM){W V:List D}{L:D}(hW:loL W (A4 m.was))(hV:loL V (A4 m.value))(hL:Go.Ab.lo L (.slice (m.list.map Ap) false)):
  A0 prog 135 [mutD m.kind m.key m.to m.n m.had W m.has V L] (.val (.bool (Qi m))):=by
 refine(c_blank m).lo ?_
 rw[AY]
 simp only[loL,LO,and_true]
 exact Jd (Jd (Jd (Jd (AI _) hW) (AI _)) hV) ⟨hL,trivial⟩
abbrev zT:List D:=[.val (.int .i64 0),.val (.bool false),.val (.int .i64 0),.val (.string ByteArray.empty),.slice [] true,.slice [] true]
theorem PL:loL zT (A4 zV):=by
 rw[A7]
 simp[zV,GV.kind,GV.b,GV.n,GV.s,GV.list,GV.obj,loL,lo,Cx]
theorem P2(m:GM):A0 prog 82 [.agg (Ap m)] (.val (.bool (Ch m))):=by
 obtain⟨kd,k,t,n,hd,w,hs,v,l⟩:=m
 have h1:=KV w
 have h2:=KV v
 have k1:=Fp (.mk kd ⟨#[]⟩ t n hd w hs zV l) (AI _) PL (Am _)
 have k2:=Fp (.mk kd ⟨#[]⟩ t n hd w hs v l) (AI _) (AI _) (Am _)
 have k3:=Fp (.mk kd ⟨#[]⟩ t 0 hd w hs v l) (AI _) (AI _) (Am _)
 have k4:=Fp (.mk kd ⟨#[]⟩ t n false zV false zV l) PL PL (Am _)
 have k6:=Fp (.mk kd ⟨#[]⟩ ⟨#[]⟩ n hd w hs v l) (AI _) (AI _) (Am _)
 have k7:=Fp (.mk kd ⟨#[]⟩ t n false zV hs v []) (L:=.slice [] true) PL (AI _) (by simp[Go.Ab.lo,GM.list,Cx])
 have z1:D7 zV=true:=by simp[D7,zV,noS,GV.kind,GV.b,GV.n,GV.s,GV.list,GV.obj]
 have z2:noS ⟨#[]⟩=true:=by simp[noS]
 unfold Ch
 simp only[Qi,GM.kind,GM.key,GM.to,GM.n,GM.had,GM.was,GM.has,GM.value,GM.list,z1,z2,Bool.true_and,Bool.and_true,Bool.not_false,A0v,AY (.mk ..),A0G] at k1 k2 k3 k4 k6 k7|-
 rw[A7] at h1 h2
 simp only[A7 w,A7 v,A0d,A0h,A0c,mutD,zT] at k1 k2 k3 k4 k6 k7|-
 generalize D7 w=zw at*
 generalize D7 v=zv at*
 generalize noS t=nt at*
 generalize((l.length:Int)==0)=ll at*
 refine Zf [0] func82 rfl ntmps82 results82 ?_
 (have z:=trivial;(try push_cast)<;>repeat' (first|apply Zi<;>intro _|refine Zc h1 ?_|refine Zc h2 ?_|refine Zc k1 ?_|refine Zc k2 ?_|refine Zc k3 ?_|refine Zc k4 ?_|refine Zc k6 ?_|refine Zc k7 ?_|exact Zp|with_reducible apply Za)<;>try push_cast)
 all_goals(clear h1 h2 k1 k2 k3 k4 k6 k7;simp_all)
end Go.Ab
namespace Go.Ab
open Go.RowKit
open Go.ChangeMaps (setBlock)
theorem JL(w:World)(k:Nat)(o:Obj):w.putObj k o=setBlock w k o:=rfl
theorem Ld{w:World}{I:Nat->Prop}{mu:Nat->Option Value}{nt:Nat}:∀ {ps:List Nat} {ds:List D} {us:List Value} {env:Env} {tmps:Array Value},ds.length=ps.length->us.length=ps.length->(∀ t ∈ ps,t<nt)->tmps.size=nt->(∀ i,i<ds.length->Rep w I mu (nd ds i) (nv us i))->(∀ t,Rep w I mu (env.get t) (tmps.getD t undef))->
  ((ps.zip us).foldl (fun t p=>t.setIfInBounds p.1 p.2) tmps).size=nt/\∀ t,Rep w I mu (Env.get ((ps.zip ds).reverse++env) t) (((ps.zip us).foldl (fun t p=>t.setIfInBounds p.1 p.2) tmps).getD t undef)
 |[],[],[],env,tmps,_,_,_,hs,_,he=>⟨hs,fun t=>by simpa using he t⟩
 |p::ps,d::ds,u::us,env,tmps,h1,h2,h3,hs,hd,he=>by
  simp only[A0g,Nat.add_right_cancel_iff] at h1 h2
  have:=Ld (env:=(p,d)::env) (tmps:=tmps.setIfInBounds p u) h1 h2 (fun t ht=>h3 t (A0n _ ht)) (by simpa using hs) (fun i hi=>by simpa[nd,nv] using hd (i+1) (by simpa using hi)) (fun t=>?_)
  ·simpa[A1D,A1i,A0c] using this
  ·simp only[Env.get]
   by_cases ht:p=t
   ·subst ht
    have hlt:p<tmps.size:=by rw[hs];exact h3 p A0z
    simp only[beq_self_eq_true,cond_true,Array.getD,Array.size_setIfInBounds,hlt,dite_true]
    simpa[nd,nv] using hd 0 (by simp)
   ·have:(p==t)=false:=by simpa using ht
    simp only[this,cond_false]
    have:=he t
    simp only[A1g,A1l ht] at this|-
    exact this
 |[],_::_,_,_,_,h,_,_,_,_,_=>by simp at h
 |[],[],_::_,_,_,_,h,_,_,_,_=>by simp at h
 |_::_,[],_,_,_,h,_,_,_,_,_=>by simp at h
 |_::_,_::_,[],_,_,_,h,_,_,_,_=>by simp at h
theorem QA(hp:Hp)(b:Nat)(x:Blk):(fun c=>AO c (Ac hp c) [(b,some x)])=Ac (upd hp b (some x)):=by
 funext c
 rw[J9]
 simp only[AO,A0t,A11]
def Ee(y:Nat)(env:Env)(nt:Nat)(ps:List Nat)(a c:Code)(HS':Hp):AE->St->Prop
 |.normal,s=>Aw ⟨[],s.hp,s.nx⟩ ⟨[],(y,.loop env nt .busy none ps a c)::HS',4⟩
 |_,_=>False
def Ef(P:Program)(y:Nat)(env:Env)(nt:Nat)(ps:List Nat)(a c:Code)(HS':Hp):AE->St->Prop
 |.normal,s=>Ac s.hp y=some (.loop env nt .ready none ps a c)/\AWp P nt c (Ee y env nt ps a c HS') ⟨s.env,upd s.hp y (some (.loop env nt .busy none ps a c)),s.nx⟩
 |_,_=>False
theorem Dx.of_awp{P:Program}{nt y:Nat}{ds:List D}{HS HS':Hp}{env:Env}{ps:List Nat}{a c:Code}(hy:y%2=1)(hlen:ds.length=ps.length)(hps:∀ t ∈ ps,t<nt)
  (h:AWp P nt a (Ef P y env nt ps a c HS') ⟨(ps.zip ds).reverse++env,(y,.loop env nt .ready none ps a c)::HS,4⟩):
  Dx P y ds ((y,.loop env nt .ready none ps a c)::HS) (.val (.bool true)) ((y,.loop env nt .ready none ps a c)::HS'):=by
 unfold Dx
 intro w M0 G0 I mu vs l hga hdl hmy hw hrep
 have hb0:Ac ((y,Blk.loop env nt .ready none ps a c)::HS) y=some (.loop env nt .ready none ps a c):=by simp[Ac]
 obtain⟨k,fn,tmps,kd,h1,h2,h3,h4⟩:=hw.blk y _ hb0
 rw[hmy] at h1
 simp only[A03,A0K,A15,and_true] at h1
 subst h1
 have hvl:vs.length=ps.length:=hrep.1.trans hlen
 refine⟨fn,_,a,c,run_yield h2 (by simp[hvl]),?_⟩
 have hfold:(ps.toArray.zip vs.toArray).foldl (fun tmps (t,a)=>tmps.setIfInBounds t a) tmps=(ps.zip vs).foldl (fun t p=>t.setIfInBounds p.1 p.2) tmps:=by
  rw[<-Array.foldl_toList];simp
 rw[hfold]
 obtain⟨f1,f2⟩:=Ld (env:=env) (tmps:=tmps) hlen hvl hps h3 hrep.2 h4
 let G:Gh:=⟨G0.st,fun b=>if b=y then mu y else G0.nm b,[],Fence.wide.inRound l,0,.inr ⟨l,rfl⟩⟩
 have toG:∀ {fr I':Nat->Prop} {mu':Nat->Option Value} {h:Nat->Option Blk} {w':World},Ao w M0 G fr I' mu' h w'->mu' y=mu y/\Ao w M0 G0 fr I' mu' h w':=@fun fr I' mu' h w' R=>by
  have hk:mu' y=some (.pointer (some ⟨l,0,none⟩)):=R.keep y _ hy (by show(if y=y then mu y else _)=_;rw[if_pos rfl,hmy])
  refine⟨hk.trans hmy.symm,⟨R.blk,R.loc,R.inj,R.fresh,R.lt,R.os,R.tape,R.output,R.grown,R.old,R.iold,R.inew,fun b x hb hx=>?_,R.used⟩⟩
  by_cases hby:b=y
  ·subst hby;rw[hk];have:=hw.keep b x hb hx;rw[hmy] at this;exact this
  ·exact R.keep b x hb (by show(if b=y then mu y else G0.nm b)=_;rw[if_neg hby];exact hx)
 refine roundIn_of_wpIn (F:=Fence.wide) trivial (wpIn_mono (h w M0 G hga I mu _ w ⟨f1,BF.refl _ _ _ _,f2,⟨hw.blk,hw.loc,hw.inj,hw.fresh,hw.lt,hw.os,hw.tape,hw.output,hw.grown,hw.old,hw.iold,hw.inew,fun b x hb hx=>?_,hw.used⟩⟩) ?_)
 ·have hx':(if b=y then mu y else G0.nm b)=some x:=hx
  split at hx'
  ·rename_i e;rw[e];exact hx'
  ·exact hw.keep b x hb hx'
 ·rintro e a1 w1 ⟨x,s1,I1,mu1,hq,he,r1⟩
  cases x<;>cases e<;>simp only[Fr] at he<;>simp only[Ef] at hq
  obtain⟨hl1,hbody⟩:=hq
  obtain⟨k1,fn1,tmps1,kd1,q1,q2,q3,q4⟩:=r1.w.blk y _ hl1
  have hm1:mu1 y=some (.pointer (some ⟨l,0,none⟩)):=(toG r1.w).1.trans hmy
  rw[hm1] at q1
  simp only[A03,A0K,A15,and_true] at q1
  subst q1
  refine⟨_,run_beginRound q2 rfl,?_⟩
  rw[JL]
  obtain⟨g1,g2⟩:=r1.w.setObj (x:=.loop env nt .busy none ps a c) hl1 hm1 (.loop {state:=.busy,pending:=none,fn:=fn1,tmps:=tmps1,params:=ps.toArray,assign:=a,body:=c,defers:=kd1})
   (fun hs ho=>⟨l,fn1,tmps1,kd1,hm1,hs,q3,fun t=>(q4 t).mono (fun k hk=>ho k (by rintro rfl;exact(r1.w.loc y _ _ k hl1 hm1 rfl).2.1 hk)) (fun _ h=>h) (fun _ _ h=>h)⟩)
  rw[show s1.fs.hp=Ac s1.hp from rfl,QA] at g1
  refine wpIn_mono (hbody w M0 G hga I1 mu1 a1 _ ⟨r1.size,r1.defers.ext g2,fun t=>(r1.env t).ext g2,g1⟩) ?_
  ·rintro e a2 w2 ⟨x,s2,I2,mu2,hq2,he2,r2⟩
   cases x<;>cases e<;>simp only[Fr] at he2<;>simp only[Ee] at hq2
   obtain⟨I3,mu3,r3⟩:=hq2 w M0 G nt I2 mu2 a2 w2 ⟨r2.size,r2.defers,fun t=>by simp[St.fs,Env.get];exact .any _,r2.w⟩
   have hl3:Ac ((y,Blk.loop env nt .busy none ps a c)::HS') y=some (.loop env nt .busy none ps a c):=by simp[Ac]
   obtain⟨k3,fn3,tmps3,kd3,p1,p2,p3,p4⟩:=r3.w.blk y _ hl3
   have hm3:mu3 y=some (.pointer (some ⟨l,0,none⟩)):=(toG r3.w).1.trans hmy
   rw[hm3] at p1
   simp only[A03,A0K,A15,and_true] at p1
   subst p1
   refine⟨_,_,run_endRound none p2,?_⟩
   rw[JL]
   obtain⟨g3,g4⟩:=r3.w.setObj (x:=.loop env nt .ready none ps a c) hl3 hm3 (.loop {state:=.ready,pending:=none,fn:=fn3,tmps:=tmps3,params:=ps.toArray,assign:=a,body:=c,defers:=kd3})
    (fun hs ho=>⟨l,fn3,tmps3,kd3,hm3,hs,p3,fun t=>(p4 t).mono (fun k hk=>ho k (by rintro rfl;exact(r3.w.loc y _ _ k hl3 hm3 rfl).2.1 hk)) (fun _ h=>h) (fun _ _ h=>h)⟩)
   refine⟨_,I3,mu3,rfl,.val _ trivial,?_⟩
   have g5:=(toG g3).2
   rw[show(St.fs ⟨[],(y,Blk.loop env nt .busy none ps a c)::HS',4⟩).hp=Ac ((y,Blk.loop env nt .busy none ps a c)::HS') from rfl,QA] at g5
   refine g5.sub fun b x hx=>?_
   rw[J9]
   simp only[Ac] at hx|-
   by_cases hb:y=b
   ·subst hb;simpa using hx
   ·have:(y==b)=false:=by simpa using hb
    simpa[this,hb] using hx
def BA(P:Program)(nt:Nat)(c:Code)(Q:AE->St->Prop)(s:St):Prop:=
 ∀ w0 M0 I0,GA P w0 M0 I0->(I0.F=Fence.wide/\I0.n=0)->∀ I mu a w,Rel w0 M0 I0 nt (frN s.nx) I mu s.fs a w->c.wpIn I0.F I0.n P (Vn w0 M0 I0 nt Q) a w
section
variable{P:Program}{nt:Nat}{Q:AE->St->Prop}{s:St}
theorem AWp.w{c:Code}(h:AWp P nt c Q s):BA P nt c Q s:=fun w0 M0 I0 g _ I mu a w r=>h w0 M0 I0 g I mu a w r
theorem BA.seq{x y:Code}(h:BA P nt x (XY (fun s=>BA P nt y Q s) Q) s):BA P nt (.seq x y) Q s:=fun w0 M0 I0 g hF I mu a w r=>
 wpIn_seq (wpIn_mono (h w0 M0 I0 g hF I mu a w r) fun e a' w' hx=>by
  obtain⟨x,s',I',mu',q,he,r'⟩:=hx
  cases x<;>cases e<;>simp only[Fr] at he
  case normal.normal=>exact q w0 M0 I0 g hF I' mu' a' w' r'
  all_goals exact⟨_,s',I',mu',q,he,r'⟩)
theorem BA.block{id:Nat}{c:Code}(h:BA P nt c (HW id Q) s):BA P nt (.block id c) Q s:=fun w0 M0 I0 g hF I mu a w r=>
 wpIn_block (wpIn_mono (h w0 M0 I0 g hF I mu a w r) fun e a' w' hx=>by
  obtain⟨x,s',I',mu',q,he,r'⟩:=hx
  cases x<;>cases e<;>simp only[Fr] at he
  case exit.exit=>
   rename_i i j
   subst he
   simp only[HW] at q
   simp only[Exit.inBlock]
   by_cases hi:i=id
   ·rw[if_pos hi] at q|-;exact⟨.normal,s',I',mu',q,trivial,r'⟩
   ·rw[if_neg hi] at q|-;exact⟨.exit i,s',I',mu',q,rfl,r'⟩
  all_goals exact⟨_,s',I',mu',q,he,r'⟩)
theorem BA.seqV(fz:List Nat){x y:Code}(hm:P.follows .mixedOrders=true)(hc:Cv nt x=true)(h:VCS P nt fz x (QR (BA P nt y) Q) s):BA P nt (.seq x y) Q s:=
 BA.seq (AWp.w (AWp.mono (VC.sound hm hc h) fun e s hq=>by cases e<;>exact hq))
theorem BA.vc(fz:List Nat){c:Code}(hm:P.follows .mixedOrders=true)(hc:Cv nt c=true)(h:VCS P nt fz c Q s):BA P nt c Q s:=AWp.w (VC.sound hm hc h)
end
@[congr] theorem AWpW_congr{P:Program}{nt:Nat}{c:Code}{Q:AE->St->Prop}{s s':St}(h:G9 s=s'):BA P nt c Q s=BA P nt c Q s':=by rw[<-h];rfl
theorem Ao.keepI{w0:World}{M0:Nat->Prop}{I0:Gh}{fr I:Nat->Prop}{mu:Nat->Option Value}{hp:Nat->Option Blk}{w:World}(h:Ao w0 M0 I0 fr I mu hp w){b k:Nat}{x:Blk}(hb:hp b=some x)(hm:mu b=some (.pointer (some ⟨k,0,none⟩))):
  Ao w0 M0 I0 fr (fun j=>I j∨j=k) mu (fun c=>if c=b then none else hp c) w:=by
 have hg:∀ c y,(if c=b then none else hp c)=some y->c≠b/\hp c=some y:=fun c y hy=>by
  by_cases hc:c=b
  ·rw[if_pos hc] at hy;cases hy
  ·rw[if_neg hc] at hy;exact⟨hc,hy⟩
 have hk:=h.loc b x _ k hb hm rfl
 refine⟨fun c y hy=>(h.blk c y (hg c y hy).2).mono (fun _ _=>rfl) (fun _ h=>.inl h) (fun _ _ h=>h) (fun _ _ _ _=>rfl),fun c y v j hy hv hj=>?_,fun c d y z v u j hy hz=>h.inj c d y z v u j (hg c y hy).2 (hg d z hz).2,h.fresh,fun j hj=>?_,h.os,h.tape,h.output,h.grown,h.old,fun j hj=>.inl (h.iold j hj),fun j hj=>?_,h.keep,fun c y hy=>h.used c y (hg c y hy).2⟩
 ·obtain⟨g1,g2⟩:=hg c y hy
  have:=h.loc c y v j g2 hv hj
  exact⟨this.1,fun hI=>by rcases hI with hI|rfl;exact this.2.1 hI;exact g1 (h.inj c b y x v _ j g2 hb hv hm hj rfl),this.2.2⟩
 ·rcases hj with hj|rfl
  ·exact h.lt j hj
  ·exact hk.2.2
 ·rcases hj with hj|rfl
  ·exact h.inew j hj
  ·exact .inr hk.1
theorem MY{r:Nat->Nat}{e:Env}:∀ {l:Env},C3 r e l->∀ t,lo (e.get t) (AT r (l.get t))
 |[],_,t=>by simp only[Env.get,AT];cases e.get t<;>simp [lo]
 |(k,d)::l,h,t=>by
  simp only[Env.get]
  by_cases hk:k=t
  ·subst hk;simp only[beq_self_eq_true,cond_true];exact h.1
  ·have:(k==t)=false:=by simpa using hk
   simp only[this,cond_false];exact MY h.2 t
theorem BA.range{P:Program}{nt:Nat}{Q:AE->St->Prop}{s:St}{f:Operand}{ps:Array Tmp}{a c:Code}{g:Nat}{fs cs ds:List D}{H H':Hp}{d:D}{env:Env}(y:Nat)(r:Nat->Nat)
  (hf:evO P s.env.get f=.func (.func g) fs cs)
  (hc:A2 P g ds ((y,.loop env nt .ready none ps.toList a c)::H) d ((y,.loop env nt .ready none ps.toList a c)::H'))
  (hy:y%2=1) (hry:r y=2*s.nx) (hargs:fs++[.yld (2*s.nx)]++cs=BX r ds) (hl:ltL 4 ds=true) (henv:C3 r s.env env)
  (hh:B3 r (Ac ((2*s.nx,.loop (Fo (AT r) env) nt .ready none ps.toList a c)::s.hp)) ((y,.loop env nt .ready none ps.toList a c)::H))
  (hok0:CP (2*(s.nx+4)) r ((y,.loop env nt .ready none ps.toList a c)::H) []=true) (hok:CP (2*(s.nx+4)) r ((y,.loop env nt .ready none ps.toList a c)::H) ((y,.loop env nt .ready none ps.toList a c)::H')=true)
  (hk:Q .normal ⟨s.env,upd (DT ((2*s.nx,.loop (Fo (AT r) env) nt .ready none ps.toList a c)::s.hp) (DE (2*(s.nx+4)) r ((y,.loop env nt .ready none ps.toList a c)::H) ((y,.loop env nt .ready none ps.toList a c)::H'))) (2*s.nx) none,s.nx+8⟩):BA P nt (.rangeFunc f ps a c) Q s:=by
 intro w0 M0 G hga hF I mu act w R
 have hFn:∀ f',G.F.fn f':=fun f'=>G.fn f'
 refine wpIn_rangeFunc fun fn _=>?_
 have fr1:frN s.nx (2*s.nx+2):=⟨by omega,by omega⟩
 obtain⟨r1,e1⟩:=R.w.new fr1 (.deferred (some [])) (.pointer (some ⟨w.heap.size,0,none⟩)) rfl (.obj (.deferred (some []))) ⟨w.heap.size,by simp[Ax],World.alloc_heap_new w _⟩
 have fr2:(fun b=>frN s.nx b/\b≠2*s.nx+2) (2*s.nx):=⟨⟨by omega,by omega⟩,by omega⟩
 have hsz:(w.alloc (.deferred (some []))).heap.size=w.heap.size+1:=by simp
 have hle2:∀ v,Ext I (Ax mu (2*s.nx+2) (.pointer (some ⟨w.heap.size,0,none⟩))) (w.alloc (.deferred (some []))) I (Ax (Ax mu (2*s.nx+2) (.pointer (some ⟨w.heap.size,0,none⟩))) (2*s.nx) v) ((w.alloc (.deferred (some []))).alloc (.loop {state:=.ready,pending:=none,fn:=fn,tmps:=act.tmps,params:=ps,assign:=a,body:=c,defers:=w.heap.size})):=fun v=>
  ⟨fun _ h=>h,Bu (r1.fresh _ fr2),fun k hk=>B0 _ _ (r1.lt k hk)⟩
 obtain⟨r2,e2⟩:=r1.new (id:=2*s.nx) fr2 (.loop {state:=.ready,pending:=none,fn:=fn,tmps:=act.tmps,params:=ps,assign:=a,body:=c,defers:=w.heap.size}) (.pointer (some ⟨w.heap.size+1,0,none⟩)) (by simp[Ae]) (.loop (Fo (AT r) env) nt .ready none ps.toList a c)
  ⟨w.heap.size+1,fn,act.tmps,w.heap.size,by simp[Ax],by have:=World.alloc_heap_new (w.alloc (.deferred (some []))) (.loop {state:=.ready,pending:=none,fn:=fn,tmps:=act.tmps,params:=ps,assign:=a,body:=c,defers:=w.heap.size});rw[hsz] at this;simpa using this,R.size,fun t=>by
   rw[H8 (F:=AT r) rfl]
   exact(((R.env t).ext e1).ext (hle2 _)).lo (MY henv t)⟩
 generalize hw2:(w.alloc (.deferred (some []))).alloc (.loop {state:=.ready,pending:=none,fn:=fn,tmps:=act.tmps,params:=ps,assign:=a,body:=c,defers:=w.heap.size})=w2 at r2 e2
 generalize hmu2:Ax (Ax mu (2*s.nx+2) (.pointer (some ⟨w.heap.size,0,none⟩))) (2*s.nx) (.pointer (some ⟨w.heap.size+1,0,none⟩))=mu2 at r2 e2
 have hmD:mu2 (2*s.nx+2)=some (.pointer (some ⟨w.heap.size,0,none⟩)):=by rw[<-hmu2];simp[Ax]
 have hmL:mu2 (2*s.nx)=some (.pointer (some ⟨w.heap.size+1,0,none⟩)):=by rw[<-hmu2];simp[Ax]
 have hDw:w2.heap[w.heap.size]? =some (.deferred (some [])):=by
  rw[<-hw2]
  exact(B0 _ _ (by simp)).trans (World.alloc_heap_new w _)
 have hn1:s.fs.hp (2*s.nx)=none:=by
  cases hx:s.fs.hp (2*s.nx) with
  |none=>rfl
  |some x=>exact absurd ⟨by omega,by omega⟩ (R.w.used _ x hx)
 have hn2:s.fs.hp (2*s.nx+2)=none:=by
  cases hx:s.fs.hp (2*s.nx+2) with
  |none=>rfl
  |some x=>exact absurd ⟨by omega,by omega⟩ (R.w.used _ x hx)
 have r3:=r2.keepI (b:=2*s.nx+2) (k:=w.heap.size) (x:=.obj (.deferred (some []))) (by simp[AO]) hmD
 have hhp:∀ b x,Ac ((2*s.nx,Blk.loop (Fo (AT r) env) nt .ready none ps.toList a c)::s.hp) b=some x->(if b=2*s.nx+2 then none else AO b (AO b (s.fs.hp b) [(2*s.nx+2,some (Blk.obj (.deferred (some []))))]) [(2*s.nx,some (Blk.loop (Fo (AT r) env) nt .ready none ps.toList a c))])=some x:=fun b x hx=>by
  simp only[Ac] at hx
  by_cases h1:2*s.nx=b
  ·subst h1;simp at hx;simp[AO,hx]
  ·have h1':(2*s.nx==b)=false:=by simpa using h1
   simp only[h1',cond_false] at hx
   by_cases h2:b=2*s.nx+2
   ·subst h2;exact absurd (show s.fs.hp _=some x from hx) (by rw[hn2];simp)
   ·have h2':¬2*s.nx+2=b:=fun h=>h2 h.symm
    simp only[AO,A0t,A11,if_neg h1,if_neg h2,if_neg h2']
    exact hx
 have r4:=r3.sub hhp
 have hext:Ext I mu w (fun j=>I j∨j=w.heap.size) mu2 w2:=by
  refine⟨fun _ h=>.inl h,fun b x hx=>e2.m b x (e1.m b x hx),fun k hk=>?_⟩
  rw[e2.w k hk,e1.w k hk]
 have hxr:Rep w I mu (evO P s.env.get f) (act.eval f):=Dm (P:=P) (hga.at R.w) R.env f
 rw[hf] at hxr
 generalize hev:act.eval f=fv at hxr
 cases hxr with
 |func _ _ _ us vs hlu hlv hu hv=>
 have hga4:GA P w0 M0 G:=hga
 have hargs':B8 w2 (fun j=>I j∨j=w.heap.size) mu2 (BX r ds) (us++[Value.func (.yield (w.heap.size+1)) #[] #[]]++vs):=by
  rw[<-hargs]
  refine B8.append (B8.append ⟨hlu,fun i hi=>(hu i hi).ext hext⟩ ⟨rfl,fun i hi=>?_⟩) ⟨hlv,fun i hi=>(hv i hi).ext hext⟩
  simp only[A17,Nat.lt_one_iff] at hi
  subst hi
  exact .yld _ _ hmL
 obtain⟨M,G',muc,⟨g1,g2,g3,g4,g5,_⟩,hback⟩:=WK (id:=2*(s.nx+4)) r hga4 r4 (fun j hj=>⟨⟨⟨by omega,by omega⟩,by omega⟩,by omega⟩) (fun _ _=>rfl) hargs' hl hh hok0
 unfold A2 at hc
 obtain⟨hent,hcall⟩:=hc
 have hres:∀ W,(resolve act.eval (rangeCall f (w.heap.size+1)) 0).run P W=.ok {target:=.fn (.func g) vs.toArray,args:=us.toArray++ #[.func (.yield (w.heap.size+1)) #[] #[]]} W:=by
  intro W
  simp only[resolve,rangeCall,Deferred.ofValue,hev,A0k]
  congr 2
  apply Array.toList_inj.1
  simp[Act.eval]
 have hrun:(invoke (.fn (.func g) vs.toArray) (us.toArray++ #[Value.func (.yield (w.heap.size+1)) #[] #[]])).run P w2=.ok (.enter g (us++[Value.func (.yield (w.heap.size+1)) #[] #[]]++vs).toArray) w2:=by
  have e1:us.toArray++ #[Value.func (.yield (w.heap.size+1)) #[] #[]]++vs.toArray=(us++[Value.func (.yield (w.heap.size+1)) #[] #[]]++vs).toArray:=by apply Array.ext';simp
  simp only[invoke]
  exact(congrArg (fun z=>(callFunc g z).run P w2) e1).trans (AX hent _ w2)
 have hcall':=hcall w2 M G' _ muc _ g1 g2 g3 g4
 refine⟨w.heap.size+1,[{target:=.collected w.heap.size,args:=#[]}],w2,_,w2,g,_,w2,?_,hres w2,fun f' _=>hFn f',hrun,fun h=>(by rw[G.depth] at h;cases h),CallsIn.mono (Mr hcall') ?_⟩
 ·rw[hF.1,<-hw2];exact run_enterLoop_outer fn act.tmps ps a c
 rintro e w3 ⟨v,I3,mu3,rfl,hv3,R3⟩
 obtain⟨mu4,e4,R4,_,hlast⟩:=hback d _ v w3 I3 mu3 hok hv3 R3
 have hmL4:mu4 (2*s.nx)=some (.pointer (some ⟨w.heap.size+1,0,none⟩)):=e4.m _ _ hmL
 have hyl:Ac ((y,Blk.loop env nt .ready none ps.toList a c)::H') y=some (.loop env nt .ready none ps.toList a c):=by simp[Ac]
 have hout:(fun b=>AO b (Ac ((2*s.nx,Blk.loop (Fo (AT r) env) nt .ready none ps.toList a c)::s.hp) b) (C9 (2*(s.nx+4)) r ((y,.loop env nt .ready none ps.toList a c)::H) d ((y,.loop env nt .ready none ps.toList a c)::H')).up)=Ac (DT ((2*s.nx,Blk.loop (Fo (AT r) env) nt .ready none ps.toList a c)::s.hp) (DE (2*(s.nx+4)) r ((y,.loop env nt .ready none ps.toList a c)::H) ((y,.loop env nt .ready none ps.toList a c)::H'))):=by
  funext b
  rw[Eo];rfl
 rw[hout] at R4
 have hin:∃ x,Ac (DT ((2*s.nx,Blk.loop (Fo (AT r) env) nt .ready none ps.toList a c)::s.hp) (DE (2*(s.nx+4)) r ((y,.loop env nt .ready none ps.toList a c)::H) ((y,.loop env nt .ready none ps.toList a c)::H'))) (2*s.nx)=some x/\x=.loop (Fo (AT (Ct (2*(s.nx+4)) r)) env) nt .ready none ps.toList a c:=by
  refine⟨_,?_,rfl⟩
  have h1:=hlast y _ hyl
  have h2:Ct (2*(s.nx+4)) r y=2*s.nx:=by simp[Ct,hy,hry]
  rw[h2] at h1
  rw[<-hout]
  exact h1
 obtain⟨x,hin,hx⟩:=hin
 subst hx
 obtain⟨k5,fn5,tmps5,kd5,p1,p2,p3,p4⟩:=R4.blk _ _ hin
 rw[hmL4] at p1
 simp only[A03,A0K,A15,and_true] at p1
 subst p1
 refine⟨none,_,run_endLoop p2 (by simp),?_⟩
 rw[JL]
 obtain⟨R5,e5⟩:=R4.setObj (x:=.junk) hin hmL4 (.loop {state:=.exhausted,pending:=none,fn:=fn5,tmps:=tmps5,params:=ps.toList.toArray,assign:=a,body:=c,defers:=kd5}) (fun _ _=>trivial)
 have eall:Ext I mu w I3 mu4 (setBlock w3 (w.heap.size+1) (.loop {state:=.exhausted,pending:=none,fn:=fn5,tmps:=tmps5,params:=ps.toList.toArray,assign:=a,body:=c,defers:=kd5})):=
  ⟨fun k hk=>e4.i k (.inl hk),fun b x hx=>e4.m b x (hext.m b x hx),fun k hk=>(e5.w k (e4.i k (.inl hk))).trans ((e4.w k (.inl hk)).trans (hext.w k hk))⟩
 refine⟨.normal,_,I3,mu4,hk,trivial,⟨R.size,?_,fun t=>(R.env t).ext eall,?_⟩⟩
 ·obtain⟨rs,_,d1,d2,d3⟩:=R.defers
  refine⟨w.heap.size::rs,fun h=>absurd (h.symm.trans hF.2) (by simp),by rw[d1];rfl,A1G.2 ⟨fun hm=>?_,d2⟩,fun q hq=>?_⟩
  ·have:=R.w.lt _ (d3 _ hm).1
   omega
  ·rcases A0q.1 hq with rfl|hq
   ·have hI3:I3 w.heap.size:=e4.i _ (.inr rfl)
    exact⟨hI3,R.w.grown,by rw[e5.w _ hI3,e4.w _ (.inr rfl)];exact hDw⟩
   ·obtain⟨g1,g2,g3⟩:=d3 q hq
    exact⟨eall.i q g1,g2,by rw[eall.w q g1];exact g3⟩
 ·refine(R5.sub fun b x hx=>?_).less fun b hb=>?_
  ·have hx':Ac (upd (DT ((2*s.nx,Blk.loop (Fo (AT r) env) nt .ready none ps.toList a c)::s.hp) (DE (2*(s.nx+4)) r ((y,.loop env nt .ready none ps.toList a c)::H) ((y,.loop env nt .ready none ps.toList a c)::H'))) (2*s.nx) none) b=some x:=hx
   rw[J9] at hx'
   by_cases hb:2*s.nx=b
   ·rw[if_pos hb] at hx';cases hx'
   ·rw[if_neg hb] at hx'
    simp only[AO,A0t,A11,if_neg hb]
    exact hx'
  ·obtain⟨h1,h2⟩:=hb
   have h2':2*(s.nx+8)<=b:=h2
   exact⟨⟨⟨⟨h1,by omega⟩,by omega⟩,by omega⟩,fun j hj=>by omega⟩
theorem A2.of_awpW{P:Program}{nt:Nat}{f:FuncId}{fn:Func}{c:Code}{ds:List D}{H:Hp}{r:D}{H':Hp}(hf:P.funcs[f]? =some fn)(hb:fn.body=some c)(hn:fn.ntmps=nt)(hent:Bf P f=true)(hlen:ds.length<=nt){rs:List ResultVar}(hrs:fn.results.toList=rs)
  (h:BA P nt c (MG P rs r H') ⟨Bh 0 ds,H,4⟩):A2 P f ds H r H':=by
 subst hrs
 unfold A2
 refine⟨hent,fun w M0 G0 I mu vs hga hdl hw hrep=>?_⟩
 let G:Gh:=⟨G0.st,G0.nm,[],Fence.wide,0,.inl rfl⟩
 have hG:∀ k,G k->k<w.heap.size:=fun k hk=>hw.lt k (hw.iold k hk)
 refine callsIn_wide.1 (callsIn_of_wp_marks (n:=0) hf hb trivial (wpIn_mono (h w M0 G hga ⟨rfl,rfl⟩ I mu _ w ⟨?_,BF.refl _ _ _ _,fun t=>F1 hrep _ t,⟨hw.blk,hw.loc,hw.inj,hw.fresh,hw.lt,hw.os,hw.tape,hw.output,hw.grown,hw.old,hw.iold,hw.inew,hw.keep,hw.used⟩⟩) ?_))
 ·have:=hrep.1;simp[hn];omega
 ·rintro e a' w' ⟨x,s',I',mu',hq,he,r'⟩
  have fin:∀ d,HK P s' fn.results.toList=some d->Aw ⟨[(0,d)],s'.hp,s'.nx⟩ ⟨[(0,r)],H',4⟩->LeavesInM Fence.wide 0 P fn a'.tmps (fun e w'=>∃ v I' mu',e=.returned v/\Rep w' I' mu' r v/\Ao w M0 G0 (frN 4) I' mu' (Ac H') w') a'.defers .returning w':=by
   intro d hd hwk
   refine r'.leave hG rfl hd fun v w2 I2 _ W2 h2=>?_
   obtain⟨I3,mu3,R3⟩:=hwk w M0 G 1 I2 mu' {tmps:=#[v],defers:=[]} w2 ⟨rfl,BF.refl _ _ _ _,fun t=>by
    cases t with
    |zero=>simpa [St.fs,Env.get] using h2
    |succ t=>simp [St.fs,Env.get];exact .any _,W2⟩
   have r0:=R3.env 0
   exact⟨v,I3,mu3,rfl,by simpa[St.fs,Env.get] using r0,⟨R3.w.blk,R3.w.loc,R3.w.inj,R3.w.fresh,R3.w.lt,R3.w.os,R3.w.tape,R3.w.output,R3.w.grown,R3.w.old,R3.w.iold,R3.w.inew,R3.w.keep,R3.w.used⟩⟩
  cases x<;>cases e<;>simp only[Fr] at he<;>simp only[MG] at hq
  case normal.normal=>
   obtain⟨d,hd,hfr⟩:=hq
   exact fin d hd hfr
  case ret.ret=>
   obtain⟨d,hd,hfr⟩:=hq
   exact fin d hd hfr
theorem A0.of_awpW{P:Program}{nt:Nat}{f:FuncId}{fn:Func}{c:Code}{ds:List D}{r:D}(hf:P.funcs[f]? =some fn)(hb:fn.body=some c)(hn:fn.ntmps=nt)(hent:Bf P f=true)(hlen:ds.length<=nt){rs:List ResultVar}(hrs:fn.results.toList=rs)
  (h:BA P nt c (Uq P rs r) ⟨Bh 0 ds,[],0⟩):A0 P f ds r:=by
 subst hrs
 unfold A0
 refine⟨hent,fun w I vs hgi hI hl hrep=>?_⟩
 let G:Gh:=⟨I,fun _=>none,[],Fence.wide,0,.inl rfl⟩
 refine callsIn_wide.1 (callsIn_of_wp_marks (n:=0) hf hb trivial (wpIn_mono (h w (fun _=>False) G (fun g l hl=>⟨(hgi g l hl).1,hI g (hgi g l hl).1,fun h=>h,(hgi g l hl).2⟩) ⟨rfl,rfl⟩ I (fun _=>none) _ w ⟨?_,BF.refl _ _ _ _,fun t=>?_,⟨fun b x hx=>by simp[St.fs,Ac] at hx,fun b x v k hx=>by simp[St.fs,Ac] at hx,fun b c x y v u k hx=>by simp[St.fs,Ac] at hx,fun _ _=>rfl,hI,rfl,rfl,rfl,A08 _,fun _ _ _=>rfl,fun _ h=>h,fun _ h=>.inl h,fun b x _ h=>(by cases h),fun b x hx=>by simp[St.fs,Ac] at hx⟩⟩) ?_))
 ·simp[hl,hn];omega
 ·have hget:=EJ ds 0 t
  simp only[A0J,true_and,A1a,Nat.sub_zero] at hget
  show Rep w I (fun _=>none) ((Bh 0 ds).get t) _
  rw[hget]
  by_cases ht:t<ds.length
  ·rw[if_pos ht]
   have e:(vs.toArray++Array.replicate (fn.ntmps-vs.toArray.size) undef).getD t undef=nv vs t:=by
    simp only[nv,A02,A1g]
    rw[Array.getElem?_append_left (by simp;omega)]
    simp
   rw[e];exact hrep t ht
  ·rw[if_neg ht];exact .any _
 ·rintro e a' w' ⟨x,s',I',mu',hq,he,r'⟩
  have fin:∀ d,HK P s' fn.results.toList=some d->Go.Ab.lo (Go.Ab.frz (Ac s'.hp) 6 d) r->r.pure=true->LeavesInM Fence.wide 0 P fn a'.tmps (fun e w'=>∃ v I',e=.returned v/\Rep w' I' (fun _=>none) r v/\(∀ k,I k->I' k)/\(∀ k,I' k->I k∨w.heap.size<=k)/\(∀ k,I' k->k<w'.heap.size)/\Below w.heap.size w w') a'.defers .returning w':=by
   intro d hd hfr hpu
   refine r'.leave hI rfl hd fun v w2 I2 _ W2 h2=>?_
   have hfz:=Rep.frz (J:=fun k=>I2 k∨(w.heap.size<=k/\k<w2.heap.size)) W2 (fun k hk=>.inl hk) (fun b x v k hx hv hk=>.inr (by
     have:=W2.loc b x v k hx hv hk
     rcases this.1 with h3|h3
     ·exact h3.elim
     ·exact⟨h3,this.2.2⟩)) 6 d v h2
   have hfr':Go.Ab.lo (Go.Ab.frz s'.fs.hp 6 d) r:=hfr
   have hfz:=hfz.lo hfr'
   refine⟨v,_,rfl,hfz.unmu hpu,fun k hk=>.inl (W2.iold k hk),fun k hk=>?_,fun k hk=>?_,⟨W2.os,W2.tape,W2.output,W2.grown,fun k hk=>W2.old k hk (fun h=>h)⟩⟩
   ·rcases hk with hk|hk
    ·rcases W2.inew k hk with h3|h3|h3
     ·exact .inl h3
     ·exact h3.elim
     ·exact .inr h3
    ·exact .inr hk.1
   ·rcases hk with hk|hk
    ·exact W2.lt k hk
    ·exact hk.2
  cases x<;>cases e<;>simp only[Fr] at he<;>simp only[Uq] at hq
  case normal.normal=>
   obtain⟨d,hd,hfr,hpu⟩:=hq
   exact fin d hd hfr hpu
  case ret.ret=>
   obtain⟨d,hd,hfr,hpu⟩:=hq
   exact fin d hd hfr hpu
end Go.Ab
