/- The layer by which the program is walked, and what its functions do: part 9 of 15. -/
import Derived.Test.YtacnknlmijkobaaGreatDoorV7
import Derived.Sort.KeysCollected
import Derived.Shelf.SlIter.Nil
import Derived.Shelf.SortM.Plain
import Derived.Shelf.SortM.SortNone
import Derived.Ground.GgzProg
import Derived.Ground.SlgmProg
set_option maxHeartbeats 4000000
set_option maxRecDepth 20000
set_option linter.unusedVariables false
set_option linter.unusedSimpArgs false
set_option linter.unnecessarySimpa false
namespace Go.Ab
open Go.Proofs Go.Proofs.Tryz
theorem Dh(t:GT):Ac t=.val (.pointer none)∨∃ cs,Ac t=.ptr cs 0:=by
 cases t with
 |nil=>exact .inl B4
 |node=>exact .inr ⟨_,AW ..⟩
theorem c_get1(t:GT)(k:ByteArray)(i:Nat)(hi:i<t.es.length)(hs:∀ e ∈ t.es,Sm e.2):A0 prog 178 [.val (.int .i64 i),.ptr [Ac t] 0,.ptr [.val (.string k)] 0] (.val (.bool (!ltS (t.es.getD i zM).1 k))):=by
 have hE:=c_Entry t i hi hs
 have oT:=A3 t
 refine Zf [] func178 rfl ntmps178 results178 ?_
 (have z:=Za @Ah oT;(try push_cast[z])<;>repeat' (first|apply Zi<;>intro _|refine Zc hE ?_|exact Zo|with_reducible apply Za)<;>try push_cast[z])
theorem Uj(v:GV):Ag (CQ v)=true:=by
 have h:=BS v
 rw[A4] at h
 rw[CQ]
 simpa[Ag,D.pure] using h
theorem Qj(v:GV):(CQ v).length=6:=rfl
theorem Xe(v:GV):(CQ v).all AN=true:=rfl
theorem Tk(v:GV):(CQ v).take 6=CQ v:=rfl
attribute [push_cast] Uj Qj Xe Tk
theorem c_EntryT(t:GT)(i:Nat)(hi:i<t.es.length)(hs:∀ e ∈ t.es,Sm e.2):A0 prog 179 [Ac t,.val (.int .i64 i)] (.tup [.agg (.val (.string (t.es.getD i zM).1)::CQ (t.es.getD i zM).2),.val (.bool true)]):=by
 cases t with
 |nil=>exact absurd hi (by simp[GT.es])
 |node e k hh c f l th=>
  simp only[GT.es] at hi hs|-
  have e1:=Bk hi
  have hr:=Ll (e.getD i zM).2 (hs _ (Aj hi))
  have h0:decide ((i:Int)<0)=false:=by simp
  have h1:decide ((e.length:Int)<=i)=false:=by simp;omega
  rw[AW]
  refine Zf [] func179 rfl ntmps179 results179 ?_
  (have z:=Za e1<|Za @Ah<|Za h0 h1;(try push_cast[z])<;>repeat' (first|apply Zi<;>intro _|refine Zc (hr ..) ?_|exact Zo|with_reducible apply Za)<;>try push_cast[z])
  all_goals first|omega|skip
theorem Vc:loL z6 (CQ zV):=AJ z6
theorem VB(t:GT)(k:ByteArray)(h0:t.height=0)(h8:t.es.length<=8)(hk0:t.kids=[])(hs:∀ e ∈ t.es,Sm e.2)(hm:∀ i j,i<=j->j<t.es.length->ltS (t.es.getD i zM).1 k=false->ltS (t.es.getD j zM).1 k=false):
  A0 prog 122 [Ac t,.val (.string k)] (.tup [.agg (CQ (if DT t.es k then(t.es.getD (BC t.es k) zM).2 else zV)),.val (.bool (DT t.es k))]):=by
 have hH:=BE t
 rw[h0] at hH
 have hsz:t.size=t.es.length:=by simp[GT.size,hk0]
 have hz:=Qv t (by omega)
 rw[hsz] at hz
 have oT:=A3 t
 have hS:=MT t.es.length 178 [.ptr [Ac t] 0,.ptr [.val (.string k)] 0] (fun i=>!ltS (t.es.getD i zM).1 k) (by simp only[Ag,D.pure,oT,A0M]) (by omega) (fun i hi=>c_get1 t k i hi hs) (fun i j h h' h2=>by have:=hm i j h h';revert this h2;cases ltS (t.es.getD i zM).1 k<;>simp)
 change A0 _ _ _ (.val (.int .i64 (BC t.es k))) at hS
 rcases A14 (BC t.es k) t.es.length with hp|hp
 ·have hE:=c_EntryT t (BC t.es k) hp hs
  by_cases hkk:(t.es.getD (BC t.es k) zM).1=k
  ·have hh:DT t.es k=true:=by unfold DT;rw[decide_eq_true hp,decide_eq_true hkk];rfl
   have b1:decide ((t.es.getD (BC t.es k) zM).1=k)=true:=decide_eq_true hkk
   rw[hh]
   simp only[if_true]
   generalize BC t.es k=q at*
   generalize t.es.getD q zM=e at*
   rcases Dh t with hf|⟨cs,hf⟩
   all_goals
    rw[hf] at hH hz hS hE oT|-
    try simp only[D.pure] at oT
    refine Zf [0,8] func122 rfl ntmps122 results122 ?_
    (have z:=Za @Ah<|Za oT b1;(try push_cast[z])<;>repeat' (first|apply Zi<;>intro _|refine Zc hH ?_|refine Zc (hz ..) ?_|refine Zc hS ?_|refine Zc hE ?_|exact Zo|with_reducible apply Za)<;>try push_cast[z])
  ·have hh:DT t.es k=false:=by unfold DT;rw[decide_eq_false hkk,Bool.and_false]
   have b1:decide ((t.es.getD (BC t.es k) zM).1=k)=false:=decide_eq_false hkk
   rw[hh]
   simp only[if_false,A0C]
   generalize BC t.es k=q at*
   generalize t.es.getD q zM=e at*
   rcases Dh t with hf|⟨cs,hf⟩
   all_goals
    rw[hf] at hH hz hS hE oT|-
    try simp only[D.pure] at oT
    refine Zf [0,8] func122 rfl ntmps122 results122 ?_
    (have z:=Za @Ah<|Za oT b1;(try push_cast[z])<;>repeat' (first|apply Zi<;>intro _|refine Zc hH ?_|refine Zc (hz ..) ?_|refine Zc hS ?_|refine Zc hE ?_|exact Zo|with_reducible apply Za)<;>try push_cast[z])
    all_goals exact Vc
 ·have hh:DT t.es k=false:=by unfold DT;rw[decide_eq_false (by omega),Bool.false_and]
  have hE:=c_Entry0 t (BC t.es k) hp (by have:=posE_le t.es k;omega)
  rw[hh]
  simp only[if_false,A0C]
  generalize BC t.es k=q at*
  rcases Dh t with hf|⟨cs,hf⟩
  all_goals
   rw[hf] at hH hz hS hE oT|-
   try simp only[D.pure] at oT
   refine Zf [0,8] func122 rfl ntmps122 results122 ?_
   (have z:=Za @Ah oT;(try push_cast[z])<;>repeat' (first|apply Zi<;>intro _|refine Zc hH ?_|refine Zc (hz ..) ?_|refine Zc hS ?_|refine Zc hE ?_|exact Zo|with_reducible apply Za)<;>try push_cast[z])
   all_goals exact Vc
theorem c_getKT(t:GT)(k:ByteArray)(h0:0<t.height)(h1:0<t.kids.length)(h8:t.kids.length<=8)(hm:∀ i j,i<=j->j<t.kids.length->ltS k (t.kids.getD i .nil).first=true->ltS k (t.kids.getD j .nil).first=true)(hi:AD t.kids k<t.kids.length)(v:GV)(b:Bool)
  (hrec:A0 prog 122 [Ac (t.kids.getD (AD t.kids k) .nil),.val (.string k)] (.tup [.agg (CQ v),.val (.bool b)])):
  A0 prog 122 [Ac t,.val (.string k)] (.tup [.agg (CQ v),.val (.bool b)]):=by
 have hH:=BE t
 have b0:decide (0<t.height)=true:=decide_eq_true h0
 have hK:=EW t h1 (by omega)
 have hw:=DV t.kids k hm (by omega)
 have ea:=Bf hi
 have oT:=A3 t
 rcases Dh t with hf|⟨cs,hf⟩
 all_goals
  rw[hf] at hH hK oT|-
  try simp only[D.pure] at oT
  refine Zf [0,8] func122 rfl ntmps122 results122 ?_
  (have z:=Za b0<|Za ea<|Za @Ai.eq_1 oT;(try push_cast[z])<;>repeat' (first|apply Zi<;>intro _|refine Zc hH ?_|refine Zs [] hK ?_|refine Zq (hw ..) ?_ ?_|refine Zc (hrec ..) ?_|exact Zo|with_reducible apply Za)<;>try push_cast[z])
  all_goals first|omega|(simp;done)|exact AJ _|skip
def C3(o:Option GV):GV:=o.getD zV
theorem Vk:∀ (h:Nat) (t:GT) (k:ByteArray),Wf h t->(Aa h t).length<=1099511627776->A0 prog 122 [Ac t,.val (.string k)] (.tup [.agg (CQ (C3 (Az k (Aa h t)))),.val (.bool (Az k (Aa h t)).isSome)])
 |0,t,k,hw,hb=>by
  obtain⟨l,rfl,ho,hn⟩:=hw
  have hsrt:Srt l:=PD ho.hr
  have hg:=Vl k l hsrt
  have h:=VB (AB l) k rfl ho.hl rfl ho.hs (Jm hsrt k)
  have hfl:Aa 0 (AB l)=l:=rfl
  have hes:(AB l).es=l:=rfl
  rw[hes] at h
  rw[hfl,<-hg]
  cases hh:DT l k with
  |true=>rw [hh] at h;exact h
  |false=>rw [hh] at h;exact h
 |h+1,t,k,hw,hb=>by
  have d:=hw.d
  obtain⟨l,rfl,h2,h8,hk,hs⟩:=hw
  have hkids:(AH l).kids=l:=rfl
  have hfl:Aa (h+1) (AH l)=l.flatMap (Aa h):=rfl
  rw[hfl] at hb|-
  have hkw:∀ k ∈ l,Wf h k:=fun k hk'=>(hk k hk').1
  obtain⟨s1,s2,_,_⟩:=FY (k:=k) (show 1<=l.length by omega) hkw hs
  obtain⟨p1,p2,p3⟩:=Km (k:=k) (show 1<=l.length by omega) hkw hs
  have hmem:l.getD (AD l k) .nil ∈ l:=Aj s1
  have n1:((l.take (AD l k)).flatMap (Aa h)).find? (fun x=>decide (x.1=k))=none:=List.find?_eq_none.2 fun x hx=>by simpa using Fi (p1 x hx)
  have n2:((l.drop (AD l k+1)).flatMap (Aa h)).find? (fun x=>decide (x.1=k))=none:=List.find?_eq_none.2 fun x hx=>by simpa using(Fi (p2 x hx)).symm
  have hg:Az k (l.flatMap (Aa h))=Az k (Aa h (l.getD (AD l k) .nil)):=by
   rw[p3]
   simp only[Az,List.find?_append,n1,n2,Option.none_or,Option.or_none]
  rw[hg]
  exact c_getKT (AH l) k (by rw[d.height];omega) (by rw[hkids];omega) h8 s2 s1 _ _ (Vk h _ k (hkw _ hmem) (A0L (H1 hmem) hb))
def DB(t:GT)(l:List GE):Prop:=(t=.nil/\l=[])∨∃ h,Wf h t/\Aa h t=l
abbrev Av(t:GT):D:=.agg [Ac t]
theorem DB.srt{t:GT}{l:List GE}(h:DB t l):Srt l:=by
 rcases h with⟨_,rfl⟩|⟨h,hw,rfl⟩
 ·exact List.Pairwise.nil
 ·exact hw.d.srt
theorem DB.count{t:GT}{l:List GE}(h:DB t l):t.count=l.length:=by
 rcases h with⟨rfl,rfl⟩|⟨h,hw,rfl⟩
 ·rfl
 ·exact hw.d.count
theorem c_getNT(k:ByteArray):A0 prog 122 [Ac .nil,.val (.string k)] (.tup [.agg (CQ zV),.val (.bool false)]):=
 VB .nil k rfl (by simp[GT.es]) rfl (by simp[GT.es]) (by simp[GT.es])
theorem Nd{t:GT}{l:List GE}(h:DB t l)(hb:l.length<=1099511627776)(k:ByteArray):A0 prog 71 [Av t,.val (.string k)] (.tup [.agg (CQ (C3 (Az k l))),.val (.bool (Az k l).isSome)]):=by
 have hg:A0 prog 122 [Ac t,.val (.string k)] (.tup [.agg (CQ (C3 (Az k l))),.val (.bool (Az k l).isSome)]):=by
  rcases h with⟨rfl,rfl⟩|⟨h,hw,rfl⟩
  ·exact c_getNT k
  ·exact Vk h t k hw hb
 generalize C3 (Az k l)=v at*
 generalize(Az k l).isSome=b at*
 have oT:=A3 t
 refine Zf [0] func71 rfl ntmps71 results71 ?_
 (have z:=oT;(try push_cast[z])<;>repeat' (first|apply Zi<;>intro _|refine Zc (hg ..) ?_|exact Zo|with_reducible apply Za)<;>try push_cast[z])
 all_goals first|exact AJ _|exact Am _|skip
theorem QV{t:GT}{l:List GE}(h:DB t l)(hb:l.length<=1099511627776)(k:ByteArray):A0 prog 71 [Av t,.val (.string k)] (.tup [.agg (A5 (C3 (Az k l))),.val (.bool (Az k l).isSome)]):=(Nd h hb k).res (lo_T _ _)
theorem c_Put1(t:GT)(k:ByteArray)(v:GV)(L:GT)(hc:A0 prog 97 [Ac t,.agg (A7 (k,v))] (.tup [Ac L,Ac .nil])):
  A0 prog 55 [Av t,.val (.string k),.agg (A5 v)] (Av L):=by
 have oT:=A3 t
 have oL:=A3 L
 rw[Ah,B4] at hc
 simp only at hc
 simp only[Av]
 rcases Dh L with hf|⟨cs,hf⟩
 all_goals
  rw[hf] at hc oL|-
  try simp only[D.pure] at oL
  refine Zf [0,4] func55 rfl ntmps55 results55 ?_
  (have z:=Za oT oL;(try push_cast[z])<;>repeat' (first|apply Zi<;>intro _|refine Zc (hc ..) ?_|exact Zo|with_reducible apply Za)<;>try push_cast[z])
  all_goals first|exact AJ _|exact Am _|skip
theorem c_Put2(t:GT)(k:ByteArray)(v:GV)(L R:GT)(hR:R≠ .nil)(hok:OkK [L,R])(hc:A0 prog 97 [Ac t,.agg (A7 (k,v))] (.tup [Ac L,Ac R])):
  A0 prog 55 [Av t,.val (.string k),.agg (A5 v)] (Av (Dv [L,R])):=by
 have oT:=A3 t
 have hI:=Dy [L,R] (by simp) hok
 have hL:L≠ .nil:=(hok.hn 0 (by simp)).1
 have oI:=A3 (Dv [L,R])
 obtain⟨cs,hcs⟩:=BW hR
 obtain⟨ds,hds⟩:=BW hL
 have oR:=A3 R
 have oL:=A3 L
 simp only[A0h,A0G,Ai] at hI
 rw[Ah] at hc
 simp only at hc
 rw[hcs] at hc hI oR
 rw[hds] at hc hI oL
 simp only[D.pure] at oR oL
 simp only[Av]
 rcases Dh (Dv [L,R]) with hf|⟨es,hf⟩
 all_goals
  rw[hf] at hI oI|-
  try simp only[D.pure] at oI
  refine Zf [0,4] func55 rfl ntmps55 results55 ?_
  (have z:=Za oT<|Za oR<|Za oL oI;(try push_cast[z])<;>repeat' (first|apply Zi<;>intro _|refine Zc (hc ..) ?_|refine Zg hI ?_ ?_|exact Zo|with_reducible apply Za)<;>try push_cast[z])
  all_goals first|exact AJ _|exact Am _|skip
theorem QU{t:GT}{l:List GE}(h:DB t l)(hb:l.length<=1099511627775)(k:ByteArray)(v:GV)(hv:Sm v):∃ t',A0 prog 55 [Av t,.val (.string k),.agg (A5 v)] (Av t')/\DB t' (Br (k,v) l):=by
 rcases h with⟨rfl,rfl⟩|⟨h,hw,rfl⟩
 ·have hok:OkE [(k,v)]:=DN (by simp) (fun e he=>by rw[A0d.1 he];exact hv) (List.pairwise_singleton _ _)
  exact⟨_,c_Put1 .nil k v _ (c_withN .nil (k,v) rfl rfl hv),.inr ⟨0,Ch hok (by simp),rfl⟩⟩
 ·obtain⟨L,R,hc,hwo⟩:=UO h t (k,v) hw hv (by omega)
  obtain⟨o1,o2,o3⟩:=hwo
  have hlen:=(Dc (k,v) (Aa h t)).1
  have hps:=E6 (e:=(k,v)) hw.d.srt
  rcases o3 with⟨rfl,o4⟩|⟨o4,o5,o6,o7⟩
  ·exact⟨_,c_Put1 t k v L hc,.inr ⟨h,o1,o4⟩⟩
  ·have hf:[L,R].flatMap (Aa h)=Br (k,v) (Aa h t):=by simpa using o7
   have hk:∀ x ∈ [L,R],Wf h x/\4<=x.size:=fun x hx=>by
    simp only[A0s,A1x,or_false] at hx
    rcases hx with rfl|rfl
    ·exact⟨o1,o6⟩
    ·exact⟨o4,o5⟩
   have hok:OkK [L,R]:=EO (by simp) (by simp) (fun x hx=>(hk x hx).1) (by rw[hf];exact hps) (by rw[hf];omega)
   obtain⟨w1,w2,w3⟩:=Du (l:=[L,R]) (h:=h) (by simp) (by simp) hk (by rw[hf];exact hps)
   exact⟨_,c_Put2 t k v L R o4.d.nn hok hc,.inr ⟨h+1,w1,by rw[w2,hf]⟩⟩
theorem Qx(t t':GT)(k:ByteArray)(b:Bool)(hn:t'.count≠0)(hc:A0 prog 95 [Ac t,.val (.string k)] (.tup [Ac t',.val (.bool b)])):
  A0 prog 54 [Av t,.val (.string k)] (.tup [Av t',.val (.bool b)]):=by
 have oT:=A3 t
 have oT':=A3 t'
 have hC:=Lk t'
 have b0:(t'.count==0)=false:=by simpa using hn
 simp only[Av]
 rcases Dh t' with hf|⟨es,hf⟩
 all_goals
  rw[hf] at hc hC oT'|-
  try simp only[D.pure] at oT'
  refine Zf [0] func54 rfl ntmps54 results54 ?_
  (have z:=Za oT<|Za oT' b0;(try push_cast[z])<;>repeat' (first|apply Zi<;>intro _|refine Zc (hc ..) ?_|refine Zc hC ?_|exact Zo|with_reducible apply Za)<;>try push_cast[z])
  all_goals first|exact AJ _|exact Am _|skip
theorem c_Del2(t t':GT)(k:ByteArray)(b:Bool)(hn:t'.count=0)(hc:A0 prog 95 [Ac t,.val (.string k)] (.tup [Ac t',.val (.bool b)])):
  A0 prog 54 [Av t,.val (.string k)] (.tup [Av .nil,.val (.bool b)]):=by
 have oT:=A3 t
 have oT':=A3 t'
 have hC:=Lk t'
 have b0:(t'.count==0)=true:=by simpa using hn
 simp only[Av,B4]
 refine Zf [0] func54 rfl ntmps54 results54 ?_
 (have z:=Za oT<|Za oT' b0;(try push_cast[z])<;>repeat' (first|apply Zi<;>intro _|refine Zc (hc ..) ?_|refine Zc hC ?_|exact Zo|with_reducible apply Za)<;>try push_cast[z])
 all_goals first|exact AJ _|exact Am _|skip
theorem Y9{t:GT}{l:List GE}(h:DB t l)(hb:l.length<=1099511627775)(k:ByteArray):∃ t',A0 prog 54 [Av t,.val (.string k)] (.tup [Av t',.val (.bool (FC k l))])/\DB t' (Cm k l):=by
 rcases h with⟨rfl,rfl⟩|⟨h,hw,rfl⟩
 ·exact⟨_,c_Del2 .nil .nil k false rfl (c_wo0n .nil k rfl rfl),.inl ⟨rfl,rfl⟩⟩
 ·have d:=hw.d
  rcases Ls h t k hw (by omega) with⟨q1,q2⟩|⟨q1,t',q2,q3⟩
  ·rw[q1,Nn q1]
   exact⟨_,Qx t t k false (by rw[d.count];have:=CX d.ne;omega) q2,.inr ⟨h,hw,rfl⟩⟩
  ·rw[q1]
   cases h with
   |zero=>
    obtain⟨m,rfl,m1,m2,m3⟩:=q3
    by_cases hm:m=[]
    ·subst hm
     exact⟨_,c_Del2 t _ k true rfl q2,.inl ⟨rfl,m2.symm⟩⟩
    ·refine⟨_,Qx t _ k true ?_ q2,.inr ⟨0,Ch m1 hm,m2⟩⟩
     show(m.length:Int)≠0
     have:=CX hm;omega
   |succ h=>
    rcases q3 with⟨m1,m2,m3⟩|⟨_,m1,m2⟩
    ·exact⟨_,Qx t _ k true (by rw[m1.d.count];have:=CX m1.d.ne;omega) q2,.inr ⟨h+1,m1,m2⟩⟩
    ·exact⟨_,Qx t _ k true (by rw[m1.d.count];have:=CX m1.d.ne;omega) q2,.inr ⟨h,m1,m2⟩⟩
theorem Bb(k:ByteArray)(x:GE)(l:List GE):Az k (x::l)=if x.1=k then some x.2 else Az k l:=by
 unfold Az
 rw[List.find?_cons]
 by_cases h:x.1=k<;>simp [h]
theorem Cu{k:ByteArray}:∀ {l:List GE},(∀ y ∈ l,ltS k y.1=true)->Az k l=none
 |[],_=>rfl
 |x::l,h=>by
  rw[Bb,if_neg (fun e=>Fi (h x (A0B ..)) e.symm)]
  exact Cu fun y hy=>h y (A0p _ hy)
theorem EG(e:GE)(k:ByteArray):∀ l:List GE,Az k (Br e l)=if e.1=k then some e.2 else Az k l
 |[]=>by rw[Br,Bb]
 |x::l=>by
  rw[Br]
  split
  ·rename_i h
   rw[Bb,Bb,EG e k l]
   by_cases h1:x.1=k
   ·rw[if_pos h1,if_neg (fun e2=>by rw[h1,e2,DP] at h;cases h),if_pos h1]
   ·rw[if_neg h1,if_neg h1]
  ·split
   ·rename_i h h2
    rw[Bb,Bb,h2]
    by_cases h1:e.1=k<;>simp [h1]
   ·rw[Bb]
theorem EF(a k:ByteArray):∀ l:List GE,Az k (Cm a l)=if a=k then none else Az k l
 |[]=>by by_cases h:a=k<;>simp [Cm,Az,h]
 |x::l=>by
  have ih:=EF a k l
  unfold Cm at ih|-
  rw[List.filter_cons]
  by_cases h:x.1=a
  ·subst h
   simp only[ne_eq,not_true_eq_false,decide_false,A0C,if_false]
   rw[ih,Bb]
   by_cases h1:x.1=k<;>simp [h1]
  ·simp only[ne_eq,h,not_false_eq_true,decide_true,if_true]
   rw[Bb,Bb,ih]
   by_cases h1:x.1=k
   ·rw[if_pos h1,if_pos h1,if_neg (fun e=>h (by rw[h1,e]))]
   ·rw[if_neg h1,if_neg h1]
theorem RX(k:ByteArray):∀ l:List GE,FC k l=(Az k l).isSome
 |[]=>rfl
 |x::l=>by
  have ih:=RX k l
  unfold FC at ih|-
  rw[Bb,List.any_cons,ih]
  by_cases h:x.1=k<;>simp [h]
theorem L8:∀ {a b:List GE},Srt a->Srt b->(∀ k,Az k a=Az k b)->a=b
 |[],[],_,_,_=>rfl
 |[],y::b,_,_,h=>by have:=h y.1;rw[Bb,if_pos rfl] at this;cases this
 |x::a,[],_,_,h=>by have:=h x.1;rw[Bb,if_pos rfl] at this;cases this
 |x::a,y::b,ha,hb,h=>by
  have hx:=h x.1
  have hy:=h y.1
  rw[Bb,if_pos rfl,Bb] at hx
  rw[Bb,Bb,if_pos rfl] at hy
  have hxy:x.1=y.1:=by
   by_cases h1:y.1=x.1
   ·exact h1.symm
   ·rw[if_neg h1] at hx
    rw[if_neg (fun e=>h1 e.symm)] at hy
    have m1:ltS y.1 x.1=true:=by
     by_cases h2:ltS y.1 x.1=true
     ·exact h2
     ·have h3:=Kh (by simpa using h2) h1
      rw[Cu fun z hz=>Df h3 (hb.head z hz)] at hx
      cases hx
    rw[Cu fun z hz=>Df m1 (ha.head z hz)] at hy
    cases hy
  have hv:x.2=y.2:=by rw[if_pos hxy.symm] at hx;simpa using hx
  have hxe:x=y:=Prod.ext hxy hv
  subst hxe
  refine congrArg _ (L8 ha.tail hb.tail fun k=>?_)
  by_cases hk:x.1=k
  ·subst hk
   rw[Cu fun z hz=>ha.head z hz,Cu fun z hz=>hb.head z hz]
  ·have:=h k
   rwa[Bb,Bb,if_neg hk,if_neg hk] at this
def lk(es:List CE)(k:ByteArray):Option C5:=(es.find? fun e=>decide (e.1=k)).map (·.2.2)
theorem DZ(k:ByteArray)(x:CE)(l:List CE):lk (x::l) k=if x.1=k then some x.2.2 else lk l k:=by
 unfold lk
 rw[List.find?_cons]
 by_cases h:x.1=k<;>simp [h]
theorem Ha(k:ByteArray):∀ (es:List CE) (i:Nat),(BI k es i).map (·.2)=lk es k
 |[],_=>rfl
 |e::es,i=>by
  rw[BI,DZ]
  by_cases h:k=e.1
  ·rw[if_pos h,if_pos h.symm];rfl
  ·rw[if_neg h,if_neg (fun e=>h e.symm),Ha k es (i+1)]
theorem SB(k:ByteArray):∀ (es:List CE) (i j:Nat) (s:C5),BI k es i=some (j,s)->∃ n,es[j-i]? =some (k,n,s)/\i<=j
 |[],_,_,_,h=>by cases h
 |e::es,i,j,s,h=>by
  rw[BI] at h
  split at h
  ·rename_i hk
   simp only[A03,A05] at h
   obtain⟨rfl,rfl⟩:=h
   exact⟨e.2.1,by rw[Nat.sub_self,hk];rfl,A0a _⟩
  ·obtain⟨n,h1,h2⟩:=SB k es (i+1) j s h
   refine⟨n,?_,by omega⟩
   have:j-i=(j-(i+1))+1:=by omega
   rw[this,A0V];exact h1
structure EA(es:List CE)(ck:Nat):Prop where
 keys:(es.map (·.1)).Nodup
 births:(es.map (·.2.1)).Nodup
 lt:∀ e ∈ es,e.2.1<ck
 sm:∀ e ∈ es,Sm e.2.2.2/\(e.2.2.1=false->e.2.2.2=zV)/\e.1.size<=64
theorem Q7{es:List CE}{k:ByteArray}(h:k ∉ es.map (·.1)):lk es k=none:=by
 unfold lk
 rw[Option.map_eq_none_iff,List.find?_eq_none]
 intro e he
 have:e.1≠k:=fun h1=>h (A0l.2 ⟨e,he,h1⟩)
 simpa using this
theorem ZQ{es:List CE}{k:ByteArray}{s:C5}(h:lk es k=some s):∃ n,(k,n,s) ∈ es:=by
 unfold lk at h
 rw[A1z] at h
 obtain⟨e,he,rfl⟩:=h
 have h1:=List.find?_some he
 have h2:=List.mem_of_find?_eq_some he
 simp only[decide_eq_true_eq] at h1
 exact⟨e.2.1,by rw[<-h1];exact h2⟩
theorem NL:∀ {es:List CE} {k:ByteArray} {n:Nat} {s:C5},(es.map (·.1)).Nodup->(k,n,s) ∈ es->lk es k=some s
 |x::es,k,n,s,hn,h=>by
  rw[DZ]
  rcases A0s.1 h with h|h
  ·subst h;rw[if_pos rfl]
  ·rw[A0h,A1J] at hn
   rw[if_neg (fun e=>hn.1 (A0l.2 ⟨_,h,e.symm⟩)),NL hn.2 h]
theorem Ga{es:List CE}{k:ByteArray}(h:BI k es 0=none):lk es k=none:=by rw[<-Ha k es 0,h];rfl
theorem G9{es:List CE}{k:ByteArray}{i:Nat}{s:C5}(h:BI k es 0=some (i,s)):lk es k=some s/\∃ n,es[i]? =some (k,n,s):=by
 refine⟨by rw[<-Ha k es 0,h];rfl,?_⟩
 obtain⟨n,h1,_⟩:=SB k es 0 i s h
 exact⟨n,h1⟩
theorem ZR{es:List CE}{k:ByteArray}(h:lk es k=none):k ∉ es.map (·.1):=fun hm=>by
 obtain⟨e,he,h1⟩:=A0l.1 hm
 unfold lk at h
 rw[Option.map_eq_none_iff,List.find?_eq_none] at h
 exact h e he (by simpa using h1)
theorem WS(a b:List CE)(k:ByteArray):lk (a++b) k=(lk a k).or (lk b k):=by
 unfold lk
 rw[List.find?_append]
 cases List.find? (fun e=>decide (e.1=k)) a<;>rfl
theorem NM{k:ByteArray}{s s0:C5}:∀ {es:List CE} {i n:Nat},(es.map (·.1)).Nodup->es[i]? =some (k,n,s0)->∀ k',lk (es.modify i fun e=>(e.1,e.2.1,s)) k'=if k=k' then some s else lk es k'
 |x::es,0,n,hn,h,k'=>by
  simp only[A0U,A03] at h
  subst h
  rw[List.modify_zero_cons,DZ,DZ]
  by_cases h1:k=k'<;>simp [h1]
 |x::es,i+1,n,hn,h,k'=>by
  rw[A0V] at h
  rw[A0h,A1J] at hn
  rw[List.modify_succ_cons,DZ,DZ,NM hn.2 h k']
  by_cases h1:x.1=k'
  ·rw[if_pos h1,if_pos h1,if_neg (fun e=>hn.1 (A0l.2 ⟨_,A1G h,by rw[h1];exact e⟩))]
  ·rw[if_neg h1,if_neg h1]
theorem RU{k:ByteArray}{s0:C5}:∀ {es:List CE} {i n:Nat},(es.map (·.1)).Nodup->es[i]? =some (k,n,s0)->∀ k',lk (es.eraseIdx i) k'=if k=k' then none else lk es k'
 |x::es,0,n,hn,h,k'=>by
  simp only[A0U,A03] at h
  subst h
  rw[List.eraseIdx_cons_zero,DZ]
  rw[A0h,A1J] at hn
  by_cases h1:k=k'
  ·subst h1;rw[if_pos rfl,Q7 hn.1]
  ·simp[h1]
 |x::es,i+1,n,hn,h,k'=>by
  rw[A0V] at h
  rw[A0h,A1J] at hn
  rw[List.eraseIdx_cons_succ,DZ,DZ,RU hn.2 h k']
  by_cases h1:x.1=k'
  ·rw[if_pos h1,if_pos h1,if_neg (fun e=>hn.1 (A0l.2 ⟨_,A1G h,by rw[h1];exact e⟩))]
  ·rw[if_neg h1,if_neg h1]
theorem Q8{es:List CE}{ck:Nat}(h:EA es ck)(k:ByteArray)(s:C5)(k':ByteArray):lk (Jg es ck k s).1 k'=if k=k' then some s else lk es k':=by
 unfold Jg
 cases hf:BI k es 0 with
 |none=>
  rw[WS]
  by_cases h1:k=k'
  ·subst h1;rw[Ga hf,if_pos rfl];simp[lk]
  ·rw[if_neg h1];simp[lk,h1]
 |some p=>
  obtain⟨i,s0⟩:=p
  obtain⟨_,n,h1⟩:=G9 hf
  exact NM h.keys h1 k'
theorem lk_cdel{es:List CE}{ck:Nat}(h:EA es ck)(k:ByteArray)(k':ByteArray):lk (Ut es k) k'=if k=k' then none else lk es k':=by
 unfold Ut
 cases hf:BI k es 0 with
 |none=>
  by_cases h1:k=k'
  ·subst h1;rw[if_pos rfl];exact Ga hf
  ·rw[if_neg h1]
 |some p=>
  obtain⟨i,s0⟩:=p
  obtain⟨_,n,h1⟩:=G9 hf
  exact RU h.keys h1 k'
theorem GX(es:List CE)(i:Nat)(s:C5):(es.modify i fun e=>(e.1,e.2.1,s)).map (·.1)=es.map (·.1)/\(es.modify i fun e=>(e.1,e.2.1,s)).map (·.2.1)=es.map (·.2.1):=by
 constructor<;>
 ·apply A1B
  intro j
  simp only[A0x,A1T]
  by_cases h:i=j
  ·subst h;cases es[i]? <;>simp
  ·simp[h]
theorem M1{es:List CE}{i:Nat}{s:C5}{e:CE}(h:e ∈ es.modify i fun e=>(e.1,e.2.1,s)):∃ x ∈ es,e.1=x.1/\e.2.1=x.2.1/\(e=x∨e.2.2=s):=by
 obtain⟨j,hj,rfl⟩:=A1n.1 h
 rw[List.length_modify] at hj
 refine⟨es[j],A0X hj,?_⟩
 rw[List.getElem_modify]
 split<;>simp
theorem EA.set{es:List CE}{ck:Nat}(h:EA es ck){k:ByteArray}{s:C5}(hs:Sm s.2/\(s.1=false->s.2=zV)/\k.size<=64):EA (Jg es ck k s).1 (Jg es ck k s).2:=by
 unfold Jg
 cases hf:BI k es 0 with
 |none=>
  have hk:=ZR (Ga hf)
  refine⟨?_,?_,fun e he=>?_,fun e he=>?_⟩
  ·simp only[A0K,A0h,A0G]
   rw[List.nodup_append]
   refine⟨h.keys,by simp,fun a ha b hb e=>?_⟩
   rw[A0d] at hb
   subst hb;subst e;exact hk ha
  ·simp only[A0K,A0h,A0G]
   rw[List.nodup_append]
   refine⟨h.births,by simp,fun a ha b hb e=>?_⟩
   rw[A0d] at hb
   subst hb;subst e
   obtain⟨x,hx,h1⟩:=A0l.1 ha
   have:=h.lt x hx
   omega
  ·rcases A1t.1 he with he|he
   ·exact Nat.lt_succ_of_lt (h.lt e he)
   ·rw[A0d.1 he];exact Nat.lt_succ_self _
  ·rcases A1t.1 he with he|he
   ·exact h.sm e he
   ·rw[A0d.1 he];exact hs
 |some p=>
  obtain⟨i,s0⟩:=p
  obtain⟨_,n,h1⟩:=G9 hf
  have hk:k.size<=64:=hs.2.2
  refine⟨by rw[(GX es i s).1];exact h.keys,by rw[(GX es i s).2];exact h.births,fun e he=>?_,fun e he=>?_⟩
  ·obtain⟨x,hx,_,h3,_⟩:=M1 he
   rw[h3];exact h.lt x hx
  ·obtain⟨x,hx,h2,_,h4⟩:=M1 he
   rcases h4 with rfl|h4
   ·exact h.sm _ hx
   ·rw[h4,h2];exact⟨hs.1,hs.2.1,(h.sm x hx).2.2⟩
theorem EA.del{es:List CE}{ck:Nat}(h:EA es ck)(k:ByteArray):EA (Ut es k) ck:=by
 unfold Ut
 cases hf:BI k es 0 with
 |none=>exact h
 |some p=>
  obtain⟨i,s0⟩:=p
  have hsub:(es.eraseIdx i).Sublist es:=List.eraseIdx_sublist ..
  exact⟨List.Sublist.nodup (hsub.map _) h.keys,List.Sublist.nodup (hsub.map _) h.births,fun e he=>h.lt e (hsub.subset he),fun e he=>h.sm e (hsub.subset he)⟩
def Gi(es:List CE)(l:List GE):List GE:=es.foldl (fun a e=>if e.2.2.1 then Br (e.1,e.2.2.2) a else Cm e.1 a) l
theorem EB:∀ (es:List CE) {l:List GE},Srt l->Srt (Gi es l)
 |[],_,h=>h
 |e::es,l,h=>EB es (l:=if e.2.2.1 then Br (e.1,e.2.2.2) l else Cm e.1 l) (by split;exact E6 h;exact GK h)
def LU(s:C5):Option GV:=if s.1 then some s.2 else none
theorem CK(k:ByteArray):∀ (es:List CE) (l:List GE),(es.map (·.1)).Nodup->Az k (Gi es l)=match lk es k with|some s=>LU s|none=>Az k l
 |[],l,_=>rfl
 |e::es,l,h=>by
  rw[A0h,A1J] at h
  show Az k (Gi es (if e.2.2.1 then Br (e.1,e.2.2.2) l else Cm e.1 l))=_
  rw[CK k es _ h.2,DZ]
  by_cases h1:e.1=k
  ·subst h1
   rw[Q7 h.1,if_pos rfl]
   simp only[LU]
   cases e.2.2.1
   ·simp only[A0C,if_false];rw[EF,if_pos rfl]
   ·simp only[if_true];rw[EG,if_pos rfl]
  ·rw[if_neg h1]
   cases lk es k with
   |some s=>rfl
   |none=>
    simp only
    cases e.2.2.1
    ·simp only[A0C,if_false];rw[EF,if_neg h1]
    ·simp only[if_true];rw[EG,if_neg h1]
theorem KD{a b:List CE}{l:List GE}(hl:Srt l)(ha:(a.map (·.1)).Nodup)(hb:(b.map (·.1)).Nodup)(h:∀ k,lk a k=lk b k):Gi a l=Gi b l:=
 L8 (EB a hl) (EB b hl) fun k=>by rw[CK k a l ha,CK k b l hb,h k]
theorem VN{es:List CE}{ck:Nat}(h:EA es ck){l:List GE}(hl:Srt l){k:ByteArray}{s:C5}(hs:Sm s.2/\(s.1=false->s.2=zV)/\k.size<=64):Gi (Jg es ck k s).1 l=if s.1 then Br (k,s.2) (Gi es l) else Cm k (Gi es l):=by
 have hv:=EB es hl
 refine L8 (EB _ hl) (by split;exact E6 hv;exact GK hv) fun k'=>?_
 rw[CK k' _ l (h.set hs).keys,Q8 h]
 by_cases h1:k=k'
 ·subst h1
  rw[if_pos rfl]
  simp only[LU]
  cases s.1
  ·simp only[A0C,if_false];rw[EF,if_pos rfl]
  ·simp only[if_true];rw[EG,if_pos rfl]
 ·rw[if_neg h1]
  rw[<-CK k' es l h.keys]
  cases s.1
  ·simp only[A0C,if_false];rw[EF,if_neg h1]
  ·simp only[if_true];rw[EG,if_neg h1]
end Go.Ab
namespace Go.Ab
open Go.RowKit
theorem A2.sref_grow{P:Program}{f:FuncId}{ds:List D}{n sz m:Nat}{es es':List (List D)}(h:A2 P f (.gref 1 n::ds) [(1,.grow (es.take n) sz)] (.gref 0 m) [(0,.grow es' sz)])(hpd:Ag ds=true)(hpe:A6 es=true)(hpu:A6 es'=true)(hn:n<=es.length)(hm:es.length<=9223372036854775807):
  A2 P f (.sref 1 0 n es.length sz::ds) [(1,.rows es sz)] (.gref 0 m) [(0,.grow es' sz)]:=by
 unfold A2 at h|-
 obtain⟨hent,h⟩:=h
 refine⟨hent,fun w M0 G I mu vs hga hdl hw hr=>?_⟩
 have hb1:Ad [(1,Blk.rows es sz)] 1=some (.rows es sz):=rfl
 obtain⟨k,T,us,h1,h2,h3,h4,h5⟩:=hw.blk 1 _ hb1
 have hloc:=hw.loc 1 _ _ k hb1 h1 rfl
 let mu2:Nat->Option Value:=fun b=>if b=1 then some (.slice (some ⟨k,0,none⟩) n es.length) else mu b
 let G2:Gh:=⟨G.st,fun b=>if b=1 then none else G.nm b,[],Fence.wide,0,.inl rfl⟩
 have htl:(es.take n).length=n:=by simp;omega
 have hlk:∀ b x,Ad [(1,Blk.grow (es.take n) sz)] b=some x->b=1/\x=.grow (es.take n) sz:=fun b x hx=>by
  simp only[Ad] at hx
  by_cases hb:1=b
  ·subst hb;simp at hx;exact⟨rfl,hx.symm⟩
  ·have:(1==b)=false:=by simpa using hb
   simp[this] at hx
 have hl1:∀ v j,mu2 1=some v->Ae v=some j->j=k:=fun v j hv hj=>by
  simp only[mu2,if_true,A03] at hv
  subst hv
  simp only[Ae] at hj
  split at hj
  ·cases hj
  ·simpa using hj.symm
 have hW:Ap w M0 G2 (frN 4) I mu2 (Ad [(1,Blk.grow (es.take n) sz)]) w:=by
  refine⟨fun b x hx=>?_,fun b x v j hx hv hj=>?_,fun b c x y v u j hx hy _ _ _ _=>?_,fun b hb=>?_,hw.lt,hw.os,hw.tape,hw.output,hw.grown,hw.old,hw.iold,hw.inew,fun b x hb hx=>?_,fun b x hx hb=>?_⟩
  ·obtain⟨rfl,rfl⟩:=hlk b x hx
   refine⟨some ⟨k,0,none⟩,es.length,T,us,by simp only[mu2,if_true,htl],fun i hi=>?_,by simpa[maxLen] using hm,?_⟩
   ·have hi':i<n:=by rw[htl] at hi;exact hi
    have:nr (es.take n) i=nr es i:=by simp[nr,A02,A1Q,hi']
    rw[this];exact h4 i (by omega)
   ·rcases A17 es.length with h0|h0
    ·exact .inl ⟨h0,by rw[A0Q.1 h0];simp⟩
    ·refine .inr ⟨k,h0,rfl,h2,by rw[htl];exact hn,h3,fun i j hi hj=>?_⟩
     have hi':i<n:=by rw[htl] at hi;exact hi
     have:nr (es.take n) i=nr es i:=by simp[nr,A02,A1Q,hi']
     rw[this]
     have h6:=h5 i j (by omega) hj
     exact h6.unmu (Cf (Hn hpe i) j)
  ·obtain⟨rfl,rfl⟩:=hlk b x hx
   have:=hl1 v j hv hj
   subst this;exact hloc
  ·rw[(hlk b x hx).1,(hlk c y hy).1]
  ·have:=hw.fresh b hb
   have h2:=hb.1
   simp only[mu2]
   rw[if_neg (by omega)];exact this
  ·have hx':(if b=1 then none else G.nm b)=some x:=hx
   split at hx'
   ·cases hx'
   ·rename_i hne
    simp only[mu2,if_neg hne]
    exact hw.keep b x hb hx'
  ·obtain⟨rfl,rfl⟩:=hlk b x hx
   have:=hb.1;omega
 have hargs:Bc w I mu2 (.gref 1 n::ds) vs:=by
  obtain⟨g1,g2⟩:=hr
  refine⟨g1,fun i hi=>?_⟩
  cases i with
  |zero=>
   have:=g2 0 (by simp)
   simp only[nd,A0E] at this|-
   generalize nv vs 0=v at this
   cases this with
   |sref _ _ _ _ _ k' hk=>
    rw[h1] at hk
    simp only[A03,A0O,A16,and_true] at hk
    subst hk
    have:=Rep.gref (w:=w) (I:=I) (mu:=mu2) 1 n (some ⟨k,0,none⟩) es.length (by simp[mu2])
    simpa using this
  |succ i=>
   have h6:=g2 (i+1) hi
   have h7:=Cf hpd i
   simp only[nd,A1D] at h6|-
   exact h6.unmu h7
 refine(h w M0 G2 I mu2 vs hga rfl hW hargs).mono fun e w' ⟨v,I',mu',he,hv,R⟩=>?_
 let mu3:Nat->Option Value:=fun b=>if b=1 then mu 1 else mu' b
 have hl0:∀ b x,Ad [(0,Blk.grow es' sz)] b=some x->b=0/\x=.grow es' sz:=fun b x hx=>by
  simp only[Ad] at hx
  by_cases hb:0=b
  ·subst hb;simp at hx;exact⟨rfl,hx.symm⟩
  ·have:(0==b)=false:=by simpa using hb
   simp[this] at hx
 have h30:mu3 0=mu' 0:=by simp[mu3]
 refine⟨v,I',mu3,he,?_,⟨fun b x hx=>?_,fun b x u j hx hu hj=>?_,fun b c x y u u' j hx hy _ _ _ _=>?_,fun b hb=>?_,R.lt,R.os,R.tape,R.output,R.grown,R.old,R.iold,R.inew,fun b x hb hx=>?_,fun b x hx hb=>?_⟩⟩
 ·cases hv with
  |gref _ _ A cap hk=>exact .gref 0 m A cap (by rw[h30];exact hk)
 ·obtain⟨rfl,rfl⟩:=hl0 b x hx
  obtain⟨A,cap,T',us',g1,g2,g3,g4⟩:=R.blk 0 _ hx
  refine⟨A,cap,T',us',by rw[h30];exact g1,g2,g3,?_⟩
  rcases g4 with g4|⟨k',q0,q1,q2,q3,q4,q5⟩
  ·exact .inl g4
  ·exact .inr ⟨k',q0,q1,q2,q3,q4,fun i j hi hj=>(q5 i j hi hj).unmu (Cf (Hn hpu i) j)⟩
 ·obtain⟨rfl,rfl⟩:=hl0 b x hx
  rw[h30] at hu
  exact R.loc 0 _ u j hx hu hj
 ·rw[(hl0 b x hx).1,(hl0 c y hy).1]
 ·have h2:=hb.1
  simp only[mu3]
  rw[if_neg (by omega)]
  exact R.fresh b hb
 ·by_cases hb1:b=1
  ·subst hb1
   simp only[mu3,if_true]
   exact hw.keep 1 x hb hx
  ·simp only[mu3,if_neg hb1]
   exact R.keep b x hb (by show(if b=1 then none else G.nm b)=_;rw[if_neg hb1];exact hx)
 ·obtain⟨rfl,rfl⟩:=hl0 b x hx
  exact R.used 0 _ hx hb
def AX(ks:List ByteArray):List ByteArray:=((ks.map (·.data.toList)).mergeSort (fun x y=>decide (x<=y))).map fun l=>⟨l.toArray⟩
theorem TU{a b:List (List UInt8)}(h:a.Perm b):a.mergeSort (fun x y=>decide (x<=y))=b.mergeSort (fun x y=>decide (x<=y)):=by
 have tr:∀ x y z:List UInt8,decide (x<=y)=true->decide (y<=z)=true->decide (x<=z)=true:=fun x y z h1 h2=>decide_eq_true (List.le_trans (of_decide_eq_true h1) (of_decide_eq_true h2))
 have tl:∀ x y:List UInt8,(decide (x<=y) ||decide (y<=x))=true:=fun x y=>by
  rcases List.le_total x y with h|h<;>simp [h]
 refine List.Perm.eq_of_pairwise (le:=fun x y:List UInt8=>decide (x<=y)) (fun x y _ _ h1 h2=>List.le_antisymm (of_decide_eq_true h1) (of_decide_eq_true h2)) (List.pairwise_mergeSort tr tl a) (List.pairwise_mergeSort tr tl b) ((List.mergeSort_perm a _).trans (h.trans (List.mergeSort_perm b _).symm))
def MX(P:Program)(f g:FuncId)(K:TypeId):Prop:=∀ (Bm b nn:Nat) (D0:DataW Unit) (R:Value->Option (DataW Unit×List MemPlace)) (w:World),Bm<w.heap.size->w.cell? ⟨Bm,0,none⟩=some (.map (some b))->w.ownsMap P K R b nn D0->Maps.size D0<=maxLen->Maps.size D0*16<=140737488355328->
 Calls P f #[.func (.func g) #[] #[.pointer (some ⟨Bm,0,none⟩)]] w fun e w'=>∃ (v:Value) (ss:List (List UInt8)),e=.returned v/\ss.Perm (strKeys D0)/\w'.ownsRow w.heap.size K 1 v ss.length ((ss.mergeSort (fun x y=>decide (x<=y))).map Proofs.encStr)/\(v=.slice none 0 0↔ss=[])/\Below w.heap.size w w'
theorem A2.of_sorted{P:Program}{f g:FuncId}{K:TypeId}(he:Bl P f=true)(hu:P.underlying K=some .string)(hc:MX P f g K)(es:List (Value×Nat×D))(ck:Nat)(ks:List ByteArray)(hks:es.map (·.1)=ks.map Value.string)
  (hb:∀ y ∈ es,y.2.1<ck) (hbn:(es.map (·.2.1)).Nodup) (hkn:ks.Nodup) (hsz:∀ k ∈ ks,k.size<=9223372036854775807) (hlen:ks.length<=1048576):
  A2 P f [.func (.func g) [] [.ref 3 0 0 1]] [(1,.map es ck),(3,.rows [[.mref 1]] 1)] (.slice ((AX ks).map fun k=>[.val (.string k)]) false) [(1,.map es ck),(3,.rows [[.mref 1]] 1)]:=by
 unfold A2
 refine⟨he,fun w M0 G I mu vs hga hdl hw hr=>?_⟩
 obtain⟨km,l,m1,m2,m3,m4,m5⟩:=hw.blk 1 _ rfl
 obtain⟨kb,T,us,b1,b2,b3,b4,b5⟩:=hw.blk 3 (.rows [[.mref 1]] 1) rfl
 have hlkb:=(hw.loc 3 _ _ kb rfl b1 rfl).2.2
 obtain⟨u,rfl⟩:∃ u,us=[u]:=by
  match us,b3 with
  |[u],_=>exact ⟨u,rfl⟩
 have hu0:=b5 0 0 (by simp) (by simp)
 simp only[nr,nd,nv,A0E,Nat.zero_mul,A1c] at hu0
 cases hu0 with
 |mref _ k' hk'=>
 rw[m1] at hk'
 simp only[A03,Value.map.injEq] at hk'
 subst hk'
 obtain⟨g1,g2⟩:=hr
 obtain⟨v0,rfl⟩:∃ v,vs=[v]:=by
  match vs,g1 with
  |[v],_=>exact ⟨v,rfl⟩
 have hv0:=g2 0 (by simp)
 simp only[nd,nv,A0E] at hv0
 cases hv0 with
 |func _ _ _ us vs hl1 hl2 h h'=>
 obtain rfl:us=[]:=A0Q.1 hl1
 obtain⟨v1,rfl⟩:∃ v,vs=[v]:=by
  match vs,hl2 with
  |[v],_=>exact ⟨v,rfl⟩
 have hv1:=h' 0 (by simp)
 simp only[nd,nv,A0E] at hv1
 cases hv1 with
 |ref _ _ _ _ k' hk'=>
 rw[b1] at hk'
 simp only[A03,A0O,A16,and_true] at hk'
 subst hk'
 simp only[Nat.zero_mul,A1c,A11]
 let R:Value->Option (DataW Unit×List MemPlace):=fun _=>some (.nil,[])
 have hkey:∀ x ∈ l,∃ k ∈ ks,x.key=.string k:=fun x hx=>by
  have:x.key ∈ es.map (·.1):=by rw[<-m3];exact A0l.2 ⟨x,hx,rfl⟩
  rw[hks] at this
  obtain⟨k,hk,h⟩:=A0l.1 this
  exact⟨k,hk,h.symm⟩
 have hrd:∀ x ∈ l,∀ k,k ∈ ks->x.key=.string k->WideElems.rd P K R x=some (.string k.data.toList,.nil):=fun x hx k hk h=>by
  have hm:k.size<=maxLen:=hsz k hk
  simp only[WideElems.rd,keyOf,hu,mapKey,h,if_pos hm,A1w,R,A15]
 have hfit:WideElems.Fit P K R l.toArray ck:=by
  refine⟨?_,⟨?_,?_,?_⟩,?_⟩
  ·have:=congrArg List.length m3
   have h2:=congrArg List.length hks
   simp only[A06] at this h2
   simp only[A0y,maxLen];omega
  ·intro x hx
   have:x.born ∈ es.map (·.2.1):=by rw[<-m4];exact A0l.2 ⟨x,hx,rfl⟩
   obtain⟨y,hy,h⟩:=A0l.1 this
   rw[<-h];exact hb y hy
  ·show(l.map (·.born)).Nodup
   rw[m4];exact hbn
  ·show(l.map (·.key)).Nodup
   rw[m3,hks]
   exact List.Pairwise.map Value.string (fun a b h=>by simpa using h) hkn
  ·intro x hx
   obtain⟨k,hk,h⟩:=hkey x hx
   exact⟨_,hrd x hx k hk h⟩
 have hlk:l.length=ks.length:=by
  have:=congrArg List.length m3
  have h2:=congrArg List.length hks
  simp only[A06] at this h2
  omega
 have hown:w.ownsMap P K R km l.length (.map ((l.map (WideElems.rg P K R)).foldr DataW.insert [])):=⟨l.toArray,ck,m2,hfit,by simp,rfl⟩
 have hmap:l.map (fun x=>strOf (WideElems.rg P K R x).1)=ks.map (·.data.toList):=by
  have:∀ (l:List MapEntry) (ks:List ByteArray),(∀ x ∈ l,∀ k,k ∈ ks->x.key=.string k->WideElems.rd P K R x=some (.string k.data.toList,.nil))->l.map (·.key)=ks.map Value.string->l.map (fun x=>strOf (WideElems.rg P K R x).1)=ks.map (·.data.toList):=by
   intro l
   induction l with
   |nil=>intro ks _ h;cases ks with
    |nil=>rfl
    |cons k ks=>simp at h
   |cons x l ih=>
    intro ks hr h
    cases ks with
    |nil=>simp at h
    |cons k ks=>
     simp only[A0h,List.cons.injEq] at h|-
     refine⟨?_,ih ks (fun y hy k' hk'=>hr y (A0p _ hy) k' (A0p _ hk')) h.2⟩
     simp only[WideElems.rg,hr x (A0B ..) k (A0B ..) h.1,A0J,strOf]
  exact this l ks hrd (by rw[m3,hks])
 have hperm:(strKeys (DataW.map ((l.map (WideElems.rg P K R)).foldr DataW.insert []))).Perm (ks.map (·.data.toList)):=by
  rw[<-hmap]
  have h1:=WideShapes.sorted_perm (l.map (WideElems.rg P K R))
  have h2:=h1.map (fun p=>strOf p.1)
  rw[A10] at h2
  exact h2
 have hsize:Maps.size (DataW.map ((l.map (WideElems.rg P K R)).foldr DataW.insert []))=ks.length:=by
  rw[Maps.size_eq,(WideShapes.sorted_perm _).length_eq,A06,hlk]
 have hcell:w.cell? ⟨kb,0,none⟩=some (.map (some km)):=by
  simp[World.cell?,b2]
 refine(hc kb km l.length _ R w hlkb hcell hown (by rw[hsize];simp only[maxLen];omega) (by rw[hsize];omega)).mono fun e w' ⟨v,ss,hev,hss,⟨ho1,ho⟩,hnil,hbel⟩=>?_
 have hmerge:ss.mergeSort (fun x y=>decide (x<=y))=(ks.map (·.data.toList)).mergeSort (fun x y=>decide (x<=y)):=TU (hss.trans hperm)
 have hsl:ss.length=ks.length:=by rw[(hss.trans hperm).length_eq,A06]
 have hSl:(AX ks).length=ks.length:=by simp[AX]
 have hcells:∀ i,i<(AX ks).length->((ss.mergeSort (fun x y=>decide (x<=y))).map Proofs.encStr)[i]? =some (.string ((AX ks).getD i default)):=fun i hi=>by
  rw[hmerge]
  simp only[AX,A0x,A02]
  have hi':i<((ks.map (·.data.toList)).mergeSort (fun x y=>decide (x<=y))).length:=by simpa[AX] using hi
  rw[A09 hi']
  rfl
 have hstr:∀ i,i<(AX ks).length->okP (.string ((AX ks).getD i default)):=fun i hi=>by
  have hm:(AX ks).getD i default ∈ AX ks:=by
   rw[A02,A09 hi];exact A0X hi
  obtain⟨a,ha,hae⟩:=A0l.1 hm
  have ha':=(List.mergeSort_perm _ _).mem_iff.1 ha
  obtain⟨k,hk,rfl⟩:=A0l.1 ha'
  have:(⟨(k.data.toList).toArray⟩:ByteArray)=k:=by simp
  rw[<-hae,this]
  exact hsz k hk
 have key:∀ I':Nat->Prop,(∀ k,I k->I' k)->(∀ k,I' k->I k∨w.heap.size<=k)->(∀ k,I' k->k<w'.heap.size)->Rep w' I' mu (.slice ((AX ks).map fun k=>[.val (.string k)]) false) v->∃ v I' mu',e=.returned v/\Rep w' I' mu' (.slice ((AX ks).map fun k=>[.val (.string k)]) false) v/\Ap w M0 G (frN 4) I' mu' (Ad [(1,.map es ck),(3,.rows [[.mref 1]] 1)]) w':=
  fun I' a1 a2 a3 hv=>⟨v,I',mu,hev,hv,hw.below a1 a2 a3 hbel⟩
 rcases ho with⟨rfl,h0⟩|⟨gb,cap,cur,rfl,h1,h2,h3,h4,h5,h6⟩
 ·have hz:AX ks=[]:=A0w (by omega)
  refine key I (fun _ h=>h) (fun _ h=>.inl h) (fun k hk=>A0R (hw.lt k hk) hbel.size) ?_
  rw[hz]
  exact .slice [] false none 0 0 1 0 (fun _ _=>undef) (fun h=>absurd h (by simp)) (A0a _) (fun h=>by cases h) (by decide) (fun i hi=>absurd hi (by simp)) (fun i j hi=>absurd hi (by simp)) (fun i j hi=>absurd hi (by simp))
 ·refine key (fun k=>I k∨k=gb) (fun _ h=>.inl h) (fun k h=>h.elim .inl fun h=>.inr (by omega)) (fun k h=>?_) ?_
  ·rcases h with h|rfl
   ·exact A0R (hw.lt k h) hbel.size
   ·exact(A0k.1 h2).1
  ·have hl2:ss.length=((AX ks).map fun k=>[D.val (.string k)]).length:=by rw[A06,hSl,hsl]
   rw[hl2]
   have hL:((AX ks).map fun k=>[D.val (.string k)]).length=(AX ks).length:=A06 ..
   have hnr:∀ i,i<(AX ks).length->nr ((AX ks).map fun k=>[D.val (.string k)]) i=[.val (.string ((AX ks).getD i default))]:=fun i hi=>by
    simp only[nr,A02,A0x,A09 hi,A15,A0J]
   have:=Rep.slice (w:=w') (I:=fun k=>I k∨k=gb) (mu:=mu) ((AX ks).map fun k=>[D.val (.string k)]) false (some ⟨gb,0,none⟩) gb 0 1 cap (fun i j=>.string ((AX ks).getD i default)) (fun _=>⟨rfl,fun _=>.inr rfl⟩) (by rw[<-hl2];exact h3) (fun h=>by cases h) h4
    (fun i hi=>by rw[hL] at hi;rw[hnr i hi];rfl)
    (fun i j hi hj=>by
     rw[hL] at hi
     obtain rfl:j=0:=by omega
     have h7:=hcells i hi
     rw[<-h6,A1Q] at h7
     have hlt:i<ss.length*1:=by omega
     rw[if_pos hlt] at h7
     simp only[World.cell?,h2,A1c,Nat.mul_one,A11]
     rw[<-Array.getElem?_toList]
     simpa using h7)
    (fun i j hi hj=>by
     rw[hL] at hi
     obtain rfl:j=0:=by omega
     rw[hnr i hi]
     exact .val _ (hstr i hi))
   exact this
theorem A0.of_calls{P:Program}{f:FuncId}{ds:List D}{r:D}(he:Bl P f=true)(hr:r.pure=true)
  (h:∀ (w:World) (I:Nat->Prop) (vs:List Value),GIn P w I->(∀ k,I k->k<w.heap.size)->Bc w I (fun _=>none) ds vs->∃ v,(∀ w':World,Rep w' (fun _=>False) (fun _=>none) r v)/\Calls P f vs.toArray w fun e w'=>e=.returned v/\Below w.heap.size w w'):A0 P f ds r:=by
 unfold A0
 refine⟨he,fun w I vs hg hI hl hv=>?_⟩
 obtain⟨v,hrv,hc⟩:=h w I vs hg hI ⟨hl,hv⟩
 refine hc.mono fun e w' ⟨he,hb⟩=>⟨v,I,he,?_,fun _ h=>h,fun _ h=>.inl h,fun k hk=>A0R (hI k hk) hb.size,hb⟩
 exact(hrv w').mono (fun _ h=>h.elim) (fun _ h=>h.elim) (fun _ _ h=>h)
theorem Bc.vals{w:World}{I:Nat->Prop}{mu:Nat->Option Value}:∀ {us vs:List Value},Bc w I mu (us.map .val) vs->vs=us
 |[],vs,h=>A0Q.1 h.1
 |u::us,[],h=>by have:=h.1;simp at this
 |u::us,v::vs,h=>by
  have h0:=h.2 0 (by simp)
  simp only[nd,nv,A0h,A0E] at h0
  cases h0 with
  |val _ _=>
   rw[Bc.vals (us:=us) (vs:=vs) ⟨by have:=h.1;simpa using this,fun i hi=>by
    have:=h.2 (i+1) (by simpa using hi)
    simpa[nd,nv] using this⟩]
theorem Bc.oks{w:World}{I:Nat->Prop}{mu:Nat->Option Value}{us vs:List Value}(h:Bc w I mu (us.map .val) vs):∀ u ∈ us,okP u:=by
 intro u hu
 obtain⟨i,hi,rfl⟩:=A1n.1 hu
 have:=h.2 i (by simpa using hi)
 simp only[nd,A02,A0x,A09 hi,A15,A0J] at this
 generalize us[i]=u at this
 generalize nv vs i=x at this
 cases this with
 |val _ ok=>exact ok
theorem Hk{w:World}{v:Value}(h:okP v):Rep w (fun _=>False) (fun _=>none) (.val v) v:=.val v h
theorem Rw{w:World}{u v:Value}(h:okP u)(h':okP v):Rep w (fun _=>False) (fun _=>none) (.tup [.val u,.val v]) (.tuple #[u,v]):=
 .tup [.val u,.val v] [u,v] rfl fun i hi=>by
  match i,hi with
  |0,_=>exact Rep.val (w:=w) u h
  |1,_=>exact Rep.val (w:=w) v h'
theorem A0.of_vals{P:Program}{f:FuncId}{us:List Value}{r:D}(he:Bl P f=true)(hr:r.pure=true)
  (h:∀ (w:World) (I:Nat->Prop),GIn P w I->(∀ u ∈ us,okP u)->∃ v,(∀ w':World,Rep w' (fun _=>False) (fun _=>none) r v)/\Calls P f us.toArray w fun e w'=>e=.returned v/\Below w.heap.size w w'):A0 P f (us.map .val) r:=
 A0.of_calls he hr fun w I vs hg hI hv=>by
  obtain⟨v,h1,h2⟩:=h w I hg hv.oks
  rw[hv.vals]
  exact⟨v,h1,h2⟩
theorem A2.args{P:Program}{f:FuncId}{ds ds':List D}{H H':Hp}{r:D}(h:A2 P f ds H r H')(hl:loL ds' ds):A2 P f ds' H r H':=by
 unfold A2 at h|-
 exact⟨h.1,fun w M0 G I mu vs hga hdl hw hr=>h.2 w M0 G I mu vs hga hdl hw (by
  obtain⟨h1,h2⟩:=BD hl
  exact⟨hr.1.trans h1,fun i hi=>(hr.2 i (by omega)).lo (h2 i (by omega))⟩)⟩
def L1(P:Program)(f g:FuncId):Prop:=∀ (Bm:Nat) (w:World),Bm<w.heap.size->w.cell? ⟨Bm,0,none⟩=some (.map none)->
 Calls P f #[.func (.func g) #[] #[.pointer (some ⟨Bm,0,none⟩)]] w fun e w'=>e=.returned (.slice none 0 0)/\Below w.heap.size w w'
theorem A2.of_sortedN{P:Program}{f g:FuncId}(he:Bl P f=true)(hc:L1 P f g):
  A2 P f [.func (.func g) [] [.ref 3 0 0 1]] [(3,.rows [[.val (.map none)]] 1)] (.slice [] true) [(3,.rows [[.val (.map none)]] 1)]:=by
 unfold A2
 refine⟨he,fun w M0 G I mu vs hga hdl hw hr=>?_⟩
 obtain⟨kb,T,us,b1,b2,b3,b4,b5⟩:=hw.blk 3 (.rows [[.val (.map none)]] 1) rfl
 have hlkb:=(hw.loc 3 _ _ kb rfl b1 rfl).2.2
 obtain⟨u,rfl⟩:∃ u,us=[u]:=by
  match us,b3 with
  |[u],_=>exact ⟨u,rfl⟩
 have hu0:=b5 0 0 (by simp) (by simp)
 simp only[nr,nd,nv,A0E,Nat.zero_mul,A1c] at hu0
 cases hu0 with
 |val _ _=>
 obtain⟨g1,g2⟩:=hr
 obtain⟨v0,rfl⟩:∃ v,vs=[v]:=by
  match vs,g1 with
  |[v],_=>exact ⟨v,rfl⟩
 have hv0:=g2 0 (by simp)
 simp only[nd,nv,A0E] at hv0
 cases hv0 with
 |func _ _ _ us vs hl1 hl2 h h'=>
 obtain rfl:us=[]:=A0Q.1 hl1
 obtain⟨v1,rfl⟩:∃ v,vs=[v]:=by
  match vs,hl2 with
  |[v],_=>exact ⟨v,rfl⟩
 have hv1:=h' 0 (by simp)
 simp only[nd,nv,A0E] at hv1
 cases hv1 with
 |ref _ _ _ _ k' hk'=>
 rw[b1] at hk'
 simp only[A03,A0O,A16,and_true] at hk'
 subst hk'
 simp only[Nat.zero_mul,A1c,A11]
 have hcell:w.cell? ⟨kb,0,none⟩=some (.map none):=by simp[World.cell?,b2]
 refine(hc kb w hlkb hcell).mono fun e w' ⟨hev,hbel⟩=>⟨_,I,mu,hev,?_,hw.below (fun _ h=>h) (fun _ h=>.inl h) (fun k hk=>A0R (hw.lt k hk) hbel.size) hbel⟩
 exact .slice [] true none 0 0 1 0 (fun _ _=>undef) (fun h=>absurd h (by simp)) (A0a _) (fun _=>rfl) (by decide) (fun i hi=>absurd hi (by simp)) (fun i j hi=>absurd hi (by simp)) (fun i j hi=>absurd hi (by simp))
end Go.Ab
namespace Go.Ab
open Go.Proofs Go.Proofs.Tryz
def OV.es(o:OV):List CE:=(o.chg.getD ([],0)).1
def OV.ck(o:OV):Nat:=(o.chg.getD ([],0)).2
def OV.view(o:OV)(l:List GE):List GE:=Gi o.es l
structure OvOk(o:OV)(l:List GE):Prop where
 tr:DB o.below l
 ch:EA o.es o.ck
theorem c_OGetT(o:OV)(l:List GE)(h:OvOk o l)(hb:l.length<=1099511627776)(k:ByteArray):
  A2 prog 170 [.ref 1 0 0 3,.val (.string k)] (ovH o) (.tup [.agg (CQ (C3 (Az k (o.view l)))),.val (.bool (Az k (o.view l)).isSome)]) (ovH o):=by
 have hT:=Nd h.tr hb k
 have hv:=CK k o.es l h.ch.keys
 simp only[Av] at hT
 have hch:=h.ch
 unfold OV.view
 obtain⟨b,c,u⟩:=o
 have oB:=A3 b
 cases c with
 |none=>
  simp only[OV.es,Option.getD_none] at hv|-
  rw[hv]
  simp only[lk,List.find?_nil,Option.map_none]
  generalize C3 (Az k l)=v at*
  generalize(Az k l).isSome=x at*
  rcases u with _|u<;>simp only[PW,LT]
  all_goals
   refine Zd [] func170 rfl ntmps170 results170 ?_
   (have z:=oB;(try push_cast[z])<;>repeat' (first|apply Zi<;>intro _|refine Zc hT ?_|exact Zo|with_reducible apply Za)<;>try push_cast[z])
   all_goals first|exact AJ _|exact Am _|skip
   all_goals(apply Zw<;>push_cast)
 |some c=>
  obtain⟨es,ck⟩:=c
  simp only[OV.es,OV.ck,A0J] at hv hch|-
  cases hf:BI k es 0 with
  |none=>
   rw[Ga hf] at hv
   rw[hv]
   simp only
   generalize C3 (Az k l)=v at*
   generalize(Az k l).isSome=x at*
   rcases u with _|u<;>simp only[Ka,DL]
   all_goals
    refine Zd [] func170 rfl ntmps170 results170 ?_
    (have z:=Za oB<|Za @AU hf;(try push_cast[z])<;>repeat' (first|apply Zi<;>intro _|refine Zc hT ?_|exact Zo|with_reducible apply Za)<;>try push_cast[z])
    all_goals first|exact AJ _|exact Am _|skip
    all_goals(apply Zw<;>push_cast)
  |some p=>
   obtain⟨i,s⟩:=p
   obtain⟨h1,n,h2⟩:=G9 hf
   have hsm:=hch.sm _ (A1G h2)
   rw[h1] at hv
   rw[hv]
   have hC:=Ll s.2 hsm.1
   have ho:C3 (LU s)=s.2:=by
    unfold LU
    cases hs:s.1 with
    |true=>rfl
    |false=>exact (hsm.2.1 hs).symm
   have ho2:(LU s).isSome=s.1:=by unfold LU;cases s.1<;>rfl
   simp only[ho,ho2]
   obtain⟨sb,sv⟩:=s
   simp only at hC
   rcases u with _|u<;>simp only[Ka,DL]
   all_goals
    refine Zd [] func170 rfl ntmps170 results170 ?_
    (have z:=Za oB<|Za @AU<|Za hf @Cr;(try push_cast[z])<;>repeat' (first|apply Zi<;>intro _|refine Zc hC ?_|exact Zo|with_reducible apply Za)<;>try push_cast[z])
    all_goals first|exact AJ _|exact Am _|skip
    all_goals(apply Zw<;>push_cast)
theorem c_OGet(o:OV)(l:List GE)(h:OvOk o l)(hb:l.length<=1099511627776)(k:ByteArray):
  A2 prog 170 [.ref 1 0 0 3,.val (.string k)] (ovH o) (.tup [.agg (A5 (C3 (Az k (o.view l)))),.val (.bool (Az k (o.view l)).isSome)]) (ovH o):=(c_OGetT o l h hb k).res (lo_T _ _)
def OV.us(o:OV):List Bw:=o.und.getD []
theorem Sm_zV:Sm zV:=.mk _ _ _ _ [] [] (by simp) (by simp) (by simp) (by simp) (by decide) (by decide) (by simp)
end Go.Ab
namespace Go.Proofs
open Go.Maps Go.Proofs Go.Proofs.Tryz Go.RowKit Go.Shelf Go.Sort
def Tryz.keysA_ren:Go.Shelf.Ren:=⟨fun|7=>70|10=>121|n=>n,fun|23=>129|26=>9|3=>139|28=>136|0=>0|27=>135|33=>189|4=>4|n=>n,fun|n=>n⟩
theorem Tryz.keysA:Go.Proofs.SlLaysZ.n7 prog Tryz.keysA_ren:= {
 mixed:=by kernel_rfl
 f7:=⟨f70.name,by decide,func70.trans (congrArg some (by kernel_rfl))⟩
 f10:=⟨f121.name,by decide,func121.trans (congrArg some (by kernel_rfl))⟩
 t0:=underlying0
 a0:=isAgg0
 z0:=sizeOf0
 v0:=zeroValue0
 t4:=underlying4
 a4:=isAgg4
 z4:=sizeOf4
 v4:=zeroValue4
 t23:=underlying129
 a23:=isAgg129
 z23:=sizeOf129
 v23:=zeroValue129
 t26:=underlying9
 a26:=isAgg9
 z26:=sizeOf9
 v26:=zeroValue9
 t27:=underlying135
 a27:=isAgg135
 z27:=sizeOf135
 v27:=zeroValue135
 t28:=underlying136
 a28:=isAgg136
 z28:=sizeOf136
 v28:=zeroValue136
 t33:=underlying189
 a33:=isAgg189
 z33:=sizeOf189
 v33:=zeroValue189}
def Tryz.sortedA_ren:Go.Shelf.Ren:=⟨fun|6=>69|8=>119|9=>120|11=>174|13=>176|12=>175|23=>253|24=>254|14=>244|15=>245|16=>246|17=>247|18=>248|19=>249|20=>250|21=>251|22=>252|25=>313|26=>314|27=>315|28=>316|29=>317|30=>318|31=>346|n=>n,fun|26=>9|28=>136|24=>133|0=>0|3=>3|37=>258|48=>217|50=>27|4=>4|40=>327|39=>326|45=>235|5=>5|9=>9|51=>384|55=>387|57=>417|58=>418|33=>189|n=>n,fun|n=>n⟩
theorem Tryz.sortedA:Go.Proofs.SlLaysZ.n6 prog Tryz.sortedA_ren:= {
 mixed:=by kernel_rfl
 f6:=⟨f69.name,by decide,func69.trans (congrArg some (by kernel_rfl))⟩
 f8:=⟨f119.name,by decide,func119.trans (congrArg some (by kernel_rfl))⟩
 f11:=⟨f174.name,by decide,func174.trans (congrArg some (by kernel_rfl))⟩
 t0:=underlying0
 a0:=isAgg0
 z0:=sizeOf0
 v0:=zeroValue0
 t24:=underlying133
 a24:=isAgg133
 z24:=sizeOf133
 v24:=zeroValue133
 t26:=underlying9
 a26:=isAgg9
 z26:=sizeOf9
 v26:=zeroValue9
 t28:=underlying136
 a28:=isAgg136
 z28:=sizeOf136
 v28:=zeroValue136
 i26:=by kernel_rfl}
def Tryz.sortA_ren:Go.Shelf.Ren:=⟨fun|6=>120|8=>176|9=>175|19=>253|20=>254|21=>244|22=>245|23=>246|24=>247|25=>248|26=>249|27=>250|28=>251|29=>252|36=>313|31=>314|32=>315|37=>316|38=>317|39=>318|41=>346|n=>n,fun|27=>133|29=>9|3=>3|32=>258|26=>133|0=>0|44=>217|46=>27|4=>4|36=>327|35=>326|41=>235|5=>5|9=>9|53=>384|57=>387|63=>417|64=>418|n=>n,fun|n=>n⟩
theorem Tryz.sortA:Go.Proofs.SlLaysM.n6 prog Tryz.sortA_ren:= {
 mixed:=by kernel_rfl
 f6:=⟨f120.name,by decide,func120.trans (congrArg some (by kernel_rfl))⟩
 f8:=func176.trans (congrArg some (by kernel_rfl))
 f9:=⟨f175.name,by decide,func175.trans (congrArg some (by kernel_rfl))⟩
 f19:=func253.trans (congrArg some (by kernel_rfl))
 f20:=func254.trans (congrArg some (by kernel_rfl))
 f21:=⟨f244.name,by decide,func244.trans (congrArg some (by kernel_rfl))⟩
 f22:=⟨f245.name,by decide,func245.trans (congrArg some (by kernel_rfl))⟩
 f23:=⟨f246.name,by decide,func246.trans (congrArg some (by kernel_rfl))⟩
 f24:=⟨f247.name,by decide,func247.trans (congrArg some (by kernel_rfl))⟩
 f25:=⟨f248.name,by decide,func248.trans (congrArg some (by kernel_rfl))⟩
 f26:=⟨f249.name,by decide,func249.trans (congrArg some (by kernel_rfl))⟩
 f27:=⟨f250.name,by decide,func250.trans (congrArg some (by kernel_rfl))⟩
 f28:=⟨f251.name,by decide,func251.trans (congrArg some (by kernel_rfl))⟩
 f29:=⟨f252.name,by decide,func252.trans (congrArg some (by kernel_rfl))⟩
 f31:=func314.trans (congrArg some (by kernel_rfl))
 f32:=func315.trans (congrArg some (by kernel_rfl))
 f36:=⟨f313.name,by decide,func313.trans (congrArg some (by kernel_rfl))⟩
 f37:=⟨f316.name,by decide,func316.trans (congrArg some (by kernel_rfl))⟩
 f38:=⟨f317.name,by decide,func317.trans (congrArg some (by kernel_rfl))⟩
 f39:=⟨f318.name,by decide,func318.trans (congrArg some (by kernel_rfl))⟩
 f41:=⟨f346.name,by decide,func346.trans (congrArg some (by kernel_rfl))⟩
 t0:=underlying0
 a0:=isAgg0
 z0:=sizeOf0
 v0:=zeroValue0
 t3:=underlying3
 a3:=isAgg3
 z3:=sizeOf3
 v3:=zeroValue3
 t4:=underlying4
 a4:=isAgg4
 z4:=sizeOf4
 v4:=zeroValue4
 t5:=underlying5
 a5:=isAgg5
 z5:=sizeOf5
 v5:=zeroValue5
 t9:=underlying9
 a9:=isAgg9
 z9:=sizeOf9
 v9:=zeroValue9
 t26:=underlying133
 a26:=isAgg133
 z26:=sizeOf133
 v26:=zeroValue133
 t27:=underlying133
 a27:=isAgg133
 z27:=sizeOf133
 v27:=zeroValue133
 t29:=underlying9
 a29:=isAgg9
 z29:=sizeOf9
 v29:=zeroValue9
 t32:=underlying258
 a32:=isAgg258
 z32:=sizeOf258
 v32:=zeroValue258
 t35:=underlying326
 a35:=isAgg326
 z35:=sizeOf326
 v35:=zeroValue326
 t36:=underlying327
 a36:=isAgg327
 z36:=sizeOf327
 v36:=zeroValue327
 t41:=underlying235
 a41:=isAgg235
 z41:=sizeOf235
 v41:=zeroValue235
 t44:=underlying217
 a44:=isAgg217
 z44:=sizeOf217
 v44:=zeroValue217
 t46:=underlying27
 a46:=isAgg27
 z46:=sizeOf27
 v46:=zeroValue27
 t53:=underlying384
 a53:=isAgg384
 z53:=sizeOf384
 v53:=zeroValue384
 t57:=underlying387
 a57:=isAgg387
 z57:=sizeOf387
 v57:=zeroValue387
 t63:=underlying417
 a63:=isAgg417
 z63:=sizeOf417
 v63:=zeroValue417
 t64:=underlying418
 a64:=isAgg418
 z64:=sizeOf418
 v64:=zeroValue418}
theorem Tryz.sortsA(m:Nat):AnyZ.SortsIn prog Tryz.sortedA_ren Fence.wide m:=
 ⟨fun blk off cap ss W hH hblk hsz=>callsIn_wide.2 (AnyM.slices_Sort_string Tryz.sortA blk off cap ss W hH hblk hsz),
  fun p cap W=>callsIn_wide.2 (AnyM.slices_Sort_string_none Tryz.sortA p cap W)⟩
end Go.Proofs
namespace Go.Ab
open Go.Maps Go.Proofs Go.Proofs.Tryz Go.RowKit Go.Shelf Go.Sort
set_option maxHeartbeats 1000000 in
theorem Tp:MX prog 69 121 9:=fun Bm b nn D0 R w hBm hcell hown hmax hbytes=>by
 refine(callsIn_wide (n:=5)).1 ?_
 have hseq:SeqGives Fence.wide 2 prog 121 #[.pointer (some ⟨Bm,0,none⟩)] encStr (fun ss=>ss.Perm (strKeys D0)) (Maps.size D0) w:=
  AnyZ.keys_gives (ρ:=Tryz.keysA_ren) {Tryz.keysA with} Fence.wide _ trivial rfl (by omega) Bm b nn D0 w hBm hcell hown
 exact AnyZ.sorted_in Tryz.sortedA Fence.wide 5 trivial trivial trivial trivial rfl (by omega) (Tryz.sortsA _) (enters_of func120 (by kernel_rfl) rfl) 121 #[.pointer (some ⟨Bm,0,none⟩)] trivial (enters_of func121 (by kernel_rfl) rfl) _ _ hmax hbytes _ hseq
set_option maxHeartbeats 1000000 in
theorem Rh:L1 prog 69 121:=fun Bm w hBm hcell=>by
 refine(callsIn_wide (n:=5)).1 ?_
 have hseq:SeqGives Fence.wide 2 prog 121 #[.pointer (some ⟨Bm,0,none⟩)] encStr (fun ss:List (List UInt8)=>ss=[]) 0 w:=
  AnyZ.keys_gives_nil (ρ:=Tryz.keysA_ren) {Tryz.keysA with} Fence.wide _ trivial rfl Bm w hBm hcell
 refine CallsIn.mono (AnyZ.sorted_in Tryz.sortedA Fence.wide 5 trivial trivial trivial trivial rfl (by omega) (Tryz.sortsA _) (enters_of func120 (by kernel_rfl) rfl) 121 #[.pointer (some ⟨Bm,0,none⟩)] trivial (enters_of func121 (by kernel_rfl) rfl) _ 0 (A0D _) (by omega) w hseq) ?_
 rintro e w' ⟨v,ss,he,hS,_,hnil,hb⟩
 rw[hnil.2 hS] at he
 exact⟨he,hb⟩
theorem c_Keys(es:List CE)(ck:Nat):A2 prog 70 [.mref 1] [(1,.map (es.map CI) ck)] (.func (.func 121) [] [.ref 0 0 0 1]) [(1,.map (es.map CI) ck),(0,.rows [[.mref 1]] 1)]:=by
 refine Zd [] func70 rfl ntmps70 results70 ?_
 ((try push_cast)<;>repeat' (first|apply Zi<;>intro _|exact Zp|with_reducible apply Za)<;>try push_cast)
 apply Zr [(0,8)] rfl<;>push_cast
theorem c_KeysN:A2 prog 70 [.val (.map none)] [] (.func (.func 121) [] [.ref 0 0 0 1]) [(0,.rows [[.val (.map none)]] 1)]:=by
 refine Zd [] func70 rfl ntmps70 results70 ?_
 ((try push_cast)<;>repeat' (first|apply Zi<;>intro _|exact Zp|with_reducible apply Za)<;>try push_cast)
 apply Zr [(0,8)] rfl<;>push_cast
theorem c_Sorted(es:List CE)(ck:Nat)(h:EA es ck)(hl:es.length<=1048576):A2 prog 69 [.func (.func 121) [] [.ref 3 0 0 1]] [(1,.map (es.map CI) ck),(3,.rows [[.mref 1]] 1)] (.slice ((AX (es.map (·.1))).map fun k=>[.val (.string k)]) false) [(1,.map (es.map CI) ck),(3,.rows [[.mref 1]] 1)]:=
 A2.of_sorted (by kernel_rfl) (by kernel_rfl) Tp (es.map CI) ck (es.map (·.1)) (by rw[A10,A10];rfl)
  (fun y hy=>by obtain⟨e,he,rfl⟩:=A0l.1 hy;exact h.lt e he) (by rw[A10];exact h.births) h.keys
  (fun k hk=>by obtain⟨e,he,rfl⟩:=A0l.1 hk;exact A0L (h.sm e he).2.2 (by decide)) (by simpa using hl)
theorem XO:A2 prog 69 [.func (.func 121) [] [.ref 3 0 0 1]] [(3,.rows [[.val (.map none)]] 1)] (.slice [] true) [(3,.rows [[.val (.map none)]] 1)]:=A2.of_sortedN (by kernel_rfl) Rh
theorem XR(b:GT)(u:Option (List Bw)):A2 prog 42 [.ref 1 0 0 3] (ovH ⟨b,none,u⟩) (Av b) (ovH ⟨b,none,u⟩):=by
 have oB:=A3 b
 have hK:=c_KeysN
 have hS:=XO
 rcases u with _|u<;>simp only[PW,LT]
 ·refine Zd [] func42 rfl ntmps42 results42 ?_
  (have z:=oB;(try push_cast[z])<;>repeat' (first|apply Zi<;>intro _|refine Zs [] hK ?_|refine Zs [(3,112)] hS ?_|exact Zo|with_reducible apply Za)<;>try push_cast[z])
  refine AWp.loopI mixed (by kernel_rfl) (ι:=Unit) (fun _=>True) (fun _=>⟨[(23,.val (.int .i64 0)),(22,.val (.int .i64 0)),(21,.slice [] true),(3,.ref 64 0 0 1),(2,.ref 8 0 0 1),(0,.ref 1 0 0 3)],[(64,.rows [[Ac b]] 1),(8,.rows [[.val (.pointer none)]] 1),(1,.rows [[Ac b,.val (.map none),.slice [] true]] 3),(2,.junk),(4,.junk)],72⟩) (fun _=>0) () trivial ?_ fun i hi=>?_
  ·apply Zw<;>push_cast [oB]
  ·(have z:=oB;(try push_cast[z])<;>repeat' (first|apply Zi<;>intro _|exact Zo|with_reducible apply Za)<;>try push_cast[z])
   apply Zw<;>push_cast
 ·refine Zd [] func42 rfl ntmps42 results42 ?_
  (have z:=oB;(try push_cast[z])<;>repeat' (first|apply Zi<;>intro _|refine Zs [] hK ?_|refine Zs [(3,112)] hS ?_|exact Zo|with_reducible apply Za)<;>try push_cast[z])
  refine AWp.loopI mixed (by kernel_rfl) (ι:=Unit) (fun _=>True) (fun _=>⟨[(23,.val (.int .i64 0)),(22,.val (.int .i64 0)),(21,.slice [] true),(3,.ref 64 0 0 1),(2,.ref 8 0 0 1),(0,.ref 1 0 0 3)],[(64,.rows [[Ac b]] 1),(8,.rows [[.val (.pointer none)]] 1),(1,.rows [[Ac b,.val (.map none),.gref 4 u.length]] 3),(2,.junk),(4,.grow (u.map fun u=>[Cc u]) 1)],72⟩) (fun _=>0) () trivial ?_ fun i hi=>?_
  ·apply Zw<;>push_cast [oB]
  ·(have z:=oB;(try push_cast[z])<;>repeat' (first|apply Zi<;>intro _|exact Zo|with_reducible apply Za)<;>try push_cast[z])
   apply Zw<;>push_cast
inductive HI(es:List CE)(l:List GE)(k:ByteArray):GT->GT->Prop
 |put (s:C5) (t t':GT) (i:Nat) (h:BI k es 0=some (i,s)) (hs:s.1=true) (hn:¬((Az k l).isSome=true/\(Jh (C3 (Az k l)) s.2==0)=true)) (hc:A0 prog 55 [Av t,.val (.string k),.agg (A5 s.2)] (Av t')):HI es l k t t'
 |keep (s:C5) (t:GT) (i:Nat) (h:BI k es 0=some (i,s)) (hs:s.1=true) (hn:(Az k l).isSome=true/\(Jh (C3 (Az k l)) s.2==0)=true):HI es l k t t
 |del (s:C5) (t t':GT) (i:Nat) (x:Bool) (h:BI k es 0=some (i,s)) (hs:s.1=false) (hn:(Az k l).isSome=true) (hc:A0 prog 54 [Av t,.val (.string k)] (.tup [Av t',.val (.bool x)])):HI es l k t t'
 |none (s:C5) (t:GT) (i:Nat) (h:BI k es 0=some (i,s)) (hs:s.1=false) (hn:(Az k l).isSome=false):HI es l k t t
theorem Hj:∀ ks:List ByteArray,A6 (ks.map fun k=>[.val (.string k)])=true
 |[]=>rfl
 |k::ks=>by simp only[A0h,A6,Ag,D.pure,Hj ks,A0M]
theorem V3{ks:List ByteArray}{i:Nat}(h:i<ks.length):nr (ks.map fun k=>[D.val (.string k)]) i=[.val (.string (ks.getD i default))]:=by
 simp only[nr,A02,A0x,A09 h,A15,A0J]
theorem Rd(ks:List ByteArray):(ks.map fun k=>[D.val (.string k)]).length=ks.length:=A06 ..
def uD:Option (List Bw)->D
 |none=>.slice [] true
 |some l=>.gref 4 l.length
def uB:Option (List Bw)->Blk
 |none=>.junk
 |some l=>.grow (l.map fun u=>[Cc u]) 1
theorem Ta:uD none=.slice [] true:=rfl
theorem T9(l:List Bw):uD (some l)=.gref 4 l.length:=rfl
theorem Td:uB none=.junk:=rfl
theorem Tc(l:List Bw):uB (some l)=.grow (l.map fun u=>[Cc u]) 1:=rfl
abbrev cmS(b:GT)(es:List CE)(ck:Nat)(u:Option (List Bw))(ks:List ByteArray)(T:Nat->GT)(i:Nat):St:=⟨[(23,.val (.int .i64 i)),(22,.val (.int .i64 ks.length)),(21,.slice (ks.map fun k=>[.val (.string k)]) false),(3,.ref 64 0 0 1),(2,.ref 8 0 0 1),(0,.ref 1 0 0 3)],[(64,.rows [[Ac (T i)]] 1),(8,.rows [[.val (.pointer none)]] 1),(1,.rows [[Ac b,.mref 2,uD u]] 3),(2,.map (es.map CI) ck),(4,uB u)],72⟩
theorem XQ(u:Option (List Bw))(b:GT)(es:List CE)(ck:Nat)(l:List GE)(hl:l.length<=1048576)(hb:DB b l)(h:EA es ck)(he:es.length<=1048576)(T:Nat->GT)(h0:T 0=b)(hT:∀ i,i<es.length->HI es l ((AX (es.map (·.1))).getD i default) (T i) (T (i+1))):
  A2 prog 42 [.ref 1 0 0 3] (ovH ⟨b,some (es,ck),u⟩) (Av (T es.length)) (ovH ⟨b,some (es,ck),u⟩):=by
 have oB:=A3 b
 have hK:=c_Keys es ck
 have hS:=c_Sorted es ck h he
 have hlen:(AX (es.map (·.1))).length=es.length:=by simp[AX]
 rw[<-hlen] at hT|-
 generalize AX (es.map (·.1))=ks at*
 have hks:ks.length<=1048576:=by omega
 rcases u with _|u<;>simp only[Ka,DL]
 ·skip
  refine Zd [] func42 rfl ntmps42 results42 ?_
  (have z:=oB;(try push_cast[z])<;>repeat' (first|apply Zi<;>intro _|refine Zs [(1,2)] hK ?_|refine Zs [(1,2),(3,112)] hS ?_|exact Zo|with_reducible apply Za)<;>try push_cast[z])
  have sP:=Hj ks
  have sL:=Rd ks
  refine Zl (fun i=>i<=ks.length) (fun i=>cmS b es ck none ks T i) (fun i=>ks.length-i) 0 (A0D _) ?_ fun i hi=>?_
  ·unfold cmS;simp only[Ta,Td]
   rw[h0]
   apply Zw<;>push_cast [oB,A0H,A06,sP,sL]
  ·unfold cmS;simp only[Ta,Td]
   have oT:=A3 (T i)
   have oT':=A3 (T (i+1))
   push_cast[oB,oT]
   refine Af (fun hx=>?_) (fun hx=>?_)
   ·have hx':i<ks.length:=by simpa using hx
    have hG:=QV hb (by omega) (ks.getD i default)
    have ea:=V3 hx'
    have hr:=hT i hx'
    have hC:=fun v=>KZ (C3 (Az (ks.getD i default) l)) v
    have w1:IntKind.i64.wrap ((i:Int)+1)=((i+1:Nat):Int):=by rw[A9 (by omega) (by omega)];omega
    generalize ks.getD i default=k at*
    clear hT
    generalize hT1:T i=t at*
    generalize hT2:T (i+1)=t' at*
    have fin:∀ s':St,Ar s' (cmS b es ck none ks T (i+1))->∃ j,j<=ks.length/\ks.length-j<ks.length-i/\Ar s' (cmS b es ck none ks T j):=fun s' h=>⟨i+1,by omega,by omega,h⟩
    cases hr with
    |put s _ _ j hf hs hn hc=>
     obtain⟨sb,sv⟩:=s
     simp only at hs hn hc
     subst hs
     have hC:=hC sv
     generalize hv:C3 (Az k l)=v at*
     cases hh:(Az k l).isSome with
     |false=>
      rw[hh] at hG
      (have z:=Za oB<|Za oT<|Za oT'<|Za ea<|Za @AU<|Za hf @Cr;(try push_cast[z])<;>repeat' (first|apply Zi<;>intro _|refine Zc hG ?_|refine Zc (hc ..) ?_|exact Zo|with_reducible apply Za)<;>try push_cast[z])
      all_goals first|omega|skip
      refine fin _ ?_
      unfold cmS;simp only[Ta,Td]
      rw[hT2,w1]
      apply Zw<;>push_cast [oB,oT,oT',sP,sL]
     |true=>
      rw[hh] at hG
      cases hm:(Jh v sv==0) with
      |true=>exact absurd ⟨hh,hm⟩ hn
      |false=>
       rw[hm] at hC
       (have z:=Za oB<|Za oT<|Za oT'<|Za ea<|Za @AU<|Za hf @Cr;(try push_cast[z])<;>repeat' (first|apply Zi<;>intro _|refine Zc hG ?_|refine Zc hC ?_|refine Zc (hc ..) ?_|exact Zo|with_reducible apply Za)<;>try push_cast[z])
       all_goals first|omega|skip
       refine fin _ ?_
       unfold cmS;simp only[Ta,Td]
       rw[hT2,w1]
       apply Zw<;>push_cast [oB,oT,oT',sP,sL]
    |keep s _ j hf hs hn=>
     obtain⟨sb,sv⟩:=s
     simp only at hs hn
     subst hs
     obtain⟨hh,hm⟩:=hn
     have hC:=hC sv
     generalize hv:C3 (Az k l)=v at*
     rw[hh] at hG
     rw[hm] at hC
     (have z:=Za oB<|Za oT<|Za oT'<|Za ea<|Za @AU<|Za hf @Cr;(try push_cast[z])<;>repeat' (first|apply Zi<;>intro _|refine Zc hG ?_|refine Zc hC ?_|exact Zo|with_reducible apply Za)<;>try push_cast[z])
     all_goals first|omega|skip
     refine fin _ ?_
     unfold cmS;simp only[Ta,Td]
     rw[hT2,w1]
     apply Zw<;>push_cast [oB,oT,oT',sP,sL]
    |del s _ _ j x hf hs hn hc=>
     obtain⟨sb,sv⟩:=s
     simp only at hs hn
     subst hs
     generalize hv:C3 (Az k l)=v at*
     rw[hn] at hG
     (have z:=Za oB<|Za oT<|Za oT'<|Za ea<|Za @AU<|Za hf @Cr;(try push_cast[z])<;>repeat' (first|apply Zi<;>intro _|refine Zc hG ?_|refine Zc (hc ..) ?_|exact Zo|with_reducible apply Za)<;>try push_cast[z])
     all_goals first|omega|skip
     refine fin _ ?_
     unfold cmS;simp only[Ta,Td]
     rw[hT2,w1]
     apply Zw<;>push_cast [oB,oT,oT',sP,sL]
    |none s _ j hf hs hn=>
     obtain⟨sb,sv⟩:=s
     simp only at hs hn
     subst hs
     generalize hv:C3 (Az k l)=v at*
     rw[hn] at hG
     (have z:=Za oB<|Za oT<|Za oT'<|Za ea<|Za @AU<|Za hf @Cr;(try push_cast[z])<;>repeat' (first|apply Zi<;>intro _|refine Zc hG ?_|exact Zo|with_reducible apply Za)<;>try push_cast[z])
     all_goals first|omega|skip
     refine fin _ ?_
     unfold cmS;simp only[Ta,Td]
     rw[hT2,w1]
     apply Zw<;>push_cast [oB,oT,oT',sP,sL]
   ·have hx':i=ks.length:=by
     have:¬(i:Int)<ks.length:=by simpa using hx
     omega
    subst hx'
    (have z:=Za oB oT;(try push_cast[z])<;>repeat' (first|apply Zi<;>intro _|exact Zo|with_reducible apply Za)<;>try push_cast[z])
    apply Zw<;>push_cast [oB,oT]
 ·skip
  refine Zd [] func42 rfl ntmps42 results42 ?_
  (have z:=oB;(try push_cast[z])<;>repeat' (first|apply Zi<;>intro _|refine Zs [(1,2)] hK ?_|refine Zs [(1,2),(3,112)] hS ?_|exact Zo|with_reducible apply Za)<;>try push_cast[z])
  have sP:=Hj ks
  have sL:=Rd ks
  refine Zl (fun i=>i<=ks.length) (fun i=>cmS b es ck (some u) ks T i) (fun i=>ks.length-i) 0 (A0D _) ?_ fun i hi=>?_
  ·unfold cmS;simp only[T9,Tc]
   rw[h0]
   apply Zw<;>push_cast [oB,A0H,A06,sP,sL]
  ·unfold cmS;simp only[T9,Tc]
   have oT:=A3 (T i)
   have oT':=A3 (T (i+1))
   push_cast[oB,oT]
   refine Af (fun hx=>?_) (fun hx=>?_)
   ·have hx':i<ks.length:=by simpa using hx
    have hG:=QV hb (by omega) (ks.getD i default)
    have ea:=V3 hx'
    have hr:=hT i hx'
    have hC:=fun v=>KZ (C3 (Az (ks.getD i default) l)) v
    have w1:IntKind.i64.wrap ((i:Int)+1)=((i+1:Nat):Int):=by rw[A9 (by omega) (by omega)];omega
    generalize ks.getD i default=k at*
    clear hT
    generalize hT1:T i=t at*
    generalize hT2:T (i+1)=t' at*
    have fin:∀ s':St,Ar s' (cmS b es ck (some u) ks T (i+1))->∃ j,j<=ks.length/\ks.length-j<ks.length-i/\Ar s' (cmS b es ck (some u) ks T j):=fun s' h=>⟨i+1,by omega,by omega,h⟩
    cases hr with
    |put s _ _ j hf hs hn hc=>
     obtain⟨sb,sv⟩:=s
     simp only at hs hn hc
     subst hs
     have hC:=hC sv
     generalize hv:C3 (Az k l)=v at*
     cases hh:(Az k l).isSome with
     |false=>
      rw[hh] at hG
      (have z:=Za oB<|Za oT<|Za oT'<|Za ea<|Za @AU<|Za hf @Cr;(try push_cast[z])<;>repeat' (first|apply Zi<;>intro _|refine Zc hG ?_|refine Zc (hc ..) ?_|exact Zo|with_reducible apply Za)<;>try push_cast[z])
      all_goals first|omega|skip
      refine fin _ ?_
      unfold cmS;simp only[T9,Tc]
      rw[hT2,w1]
      apply Zw<;>push_cast [oB,oT,oT',sP,sL]
     |true=>
      rw[hh] at hG
      cases hm:(Jh v sv==0) with
      |true=>exact absurd ⟨hh,hm⟩ hn
      |false=>
       rw[hm] at hC
       (have z:=Za oB<|Za oT<|Za oT'<|Za ea<|Za @AU<|Za hf @Cr;(try push_cast[z])<;>repeat' (first|apply Zi<;>intro _|refine Zc hG ?_|refine Zc hC ?_|refine Zc (hc ..) ?_|exact Zo|with_reducible apply Za)<;>try push_cast[z])
       all_goals first|omega|skip
       refine fin _ ?_
       unfold cmS;simp only[T9,Tc]
       rw[hT2,w1]
       apply Zw<;>push_cast [oB,oT,oT',sP,sL]
    |keep s _ j hf hs hn=>
     obtain⟨sb,sv⟩:=s
     simp only at hs hn
     subst hs
     obtain⟨hh,hm⟩:=hn
     have hC:=hC sv
     generalize hv:C3 (Az k l)=v at*
     rw[hh] at hG
     rw[hm] at hC
     (have z:=Za oB<|Za oT<|Za oT'<|Za ea<|Za @AU<|Za hf @Cr;(try push_cast[z])<;>repeat' (first|apply Zi<;>intro _|refine Zc hG ?_|refine Zc hC ?_|exact Zo|with_reducible apply Za)<;>try push_cast[z])
     all_goals first|omega|skip
     refine fin _ ?_
     unfold cmS;simp only[T9,Tc]
     rw[hT2,w1]
     apply Zw<;>push_cast [oB,oT,oT',sP,sL]
    |del s _ _ j x hf hs hn hc=>
     obtain⟨sb,sv⟩:=s
     simp only at hs hn
     subst hs
     generalize hv:C3 (Az k l)=v at*
     rw[hn] at hG
     (have z:=Za oB<|Za oT<|Za oT'<|Za ea<|Za @AU<|Za hf @Cr;(try push_cast[z])<;>repeat' (first|apply Zi<;>intro _|refine Zc hG ?_|refine Zc (hc ..) ?_|exact Zo|with_reducible apply Za)<;>try push_cast[z])
     all_goals first|omega|skip
     refine fin _ ?_
     unfold cmS;simp only[T9,Tc]
     rw[hT2,w1]
     apply Zw<;>push_cast [oB,oT,oT',sP,sL]
    |none s _ j hf hs hn=>
     obtain⟨sb,sv⟩:=s
     simp only at hs hn
     subst hs
     generalize hv:C3 (Az k l)=v at*
     rw[hn] at hG
     (have z:=Za oB<|Za oT<|Za oT'<|Za ea<|Za @AU<|Za hf @Cr;(try push_cast[z])<;>repeat' (first|apply Zi<;>intro _|refine Zc hG ?_|exact Zo|with_reducible apply Za)<;>try push_cast[z])
     all_goals first|omega|skip
     refine fin _ ?_
     unfold cmS;simp only[T9,Tc]
     rw[hT2,w1]
     apply Zw<;>push_cast [oB,oT,oT',sP,sL]
   ·have hx':i=ks.length:=by
     have:¬(i:Int)<ks.length:=by simpa using hx
     omega
    subst hx'
    (have z:=Za oB oT;(try push_cast[z])<;>repeat' (first|apply Zi<;>intro _|exact Zo|with_reducible apply Za)<;>try push_cast[z])
    apply Zw<;>push_cast [oB,oT]
theorem Uh{α:Type}(Q:Nat->α->Prop)(R:Nat->α->α->Prop)(a0:α)(h0:Q 0 a0)(hs:∀ i a,Q i a->∃ b,Q (i+1) b/\R i a b):∃ f:Nat->α,f 0=a0/\∀ i,Q i (f i)/\R i (f i) (f (i+1)):=by
 let g:(i:Nat)-> {a//Q i a}:=fun i=>Nat.rec ⟨a0,h0⟩ (fun i p=>⟨Classical.choose (hs i p.1 p.2),(Classical.choose_spec (hs i p.1 p.2)).1⟩) i
 exact⟨fun i=>(g i).1,rfl,fun i=>⟨(g i).2,(Classical.choose_spec (hs i (g i).1 (g i).2)).2⟩⟩
noncomputable def Ej(es:List CE)(l a:List GE)(k:ByteArray):List GE:=
 match lk es k with
 |some s=>if s.1 then(if(Az k l).isSome&&(Jh (C3 (Az k l)) s.2==0) then a else Br (k,s.2) a) else Cm k a
 |none=>a
theorem VX{es:List CE}{l a:List GE}{k:ByteArray}(h:Srt a):Srt (Ej es l a k):=by
 unfold Ej
 split
 ·split
  ·split
   ·exact h
   ·exact E6 h
  ·exact GK h
 ·exact h
theorem VY(es:List CE)(l a:List GE)(k:ByteArray):(Ej es l a k).length<=a.length+1:=by
 unfold Ej
 split
 ·split
  ·split
   ·omega
   ·exact(Dc _ _).1
  ·have:(Cm k a).length<=a.length:=List.length_filter_le ..
   omega
 ·omega
def QK(es:List CE)(l:List GE):Prop:=∀ k v w,lk es k=some (true,v)->Az k l=some w->Jh w v=0->w=v
theorem U9{es:List CE}{l a:List GE}{k:ByteArray}(hS:QK es l)(ha:Az k a=Az k l)(k':ByteArray):Az k' (Ej es l a k)=if k=k' then(match lk es k with|some s=>LU s|none=>Az k l) else Az k' a:=by
 unfold Ej
 cases hk:lk es k with
 |none=>
  simp only
  by_cases h:k=k'
  ·subst h;rw[if_pos rfl,ha]
  ·rw[if_neg h]
 |some s=>
  obtain⟨sb,sv⟩:=s
  cases sb with
  |false=>
   simp only[A0C,if_false]
   rw[EF]
   by_cases h:k=k'
   ·subst h;simp[LU]
   ·simp[h]
  |true=>
   simp only[if_true]
   split
   ·rename_i hc
    simp only[A07] at hc
    by_cases h:k=k'
    ·subst h
     rw[if_pos rfl,ha]
     obtain⟨w,hw⟩:=Option.isSome_iff_exists.1 hc.1
     rw[hw]
     have h2:=hc.2
     rw[hw] at h2
     have:=hS k sv w hk hw (by simpa[C3] using h2)
     rw[this];rfl
    ·rw[if_neg h]
   ·rw[EG]
    by_cases h:k=k'
    ·subst h;simp[LU]
    ·simp[h]
theorem Ld{es:List CE}{l:List GE}(hS:QK es l):∀ (ks:List ByteArray) (a:List GE),ks.Nodup->(∀ k ∈ ks,Az k a=Az k l)->∀ k',(k' ∈ ks->Az k' (ks.foldl (Ej es l) a)=match lk es k' with|some s=>LU s|none=>Az k' l)/\(k' ∉ ks->Az k' (ks.foldl (Ej es l) a)=Az k' a)
 |[],a,_,_,k'=>⟨fun h=>absurd h A1x,fun _=>rfl⟩
 |k::ks,a,hn,ha,k'=>by
  rw[A1J] at hn
  have h1:=U9 hS (ha k (A0B ..))
  have ih:=Ld hS ks (Ej es l a k) hn.2 (fun x hx=>by rw[h1 x,if_neg (fun e:k=x=>hn.1 (by rw[e];exact hx)),ha x (A0p _ hx)]) k'
  rw[A0r]
  refine⟨fun h=>?_,fun h=>?_⟩
  ·by_cases h2:k' ∈ ks
   ·exact ih.1 h2
   ·rw[ih.2 h2,h1 k']
    rcases A0s.1 h with rfl|h
    ·rw[if_pos rfl]
    ·exact absurd h h2
  ·rw[ih.2 (fun h2=>h (A0p _ h2)),h1 k',if_neg (fun e:k=k'=>h (by rw[e];exact A0B ..))]
theorem Sa{es:List CE}{l:List GE}:∀ (ks:List ByteArray) {a:List GE},Srt a->Srt (ks.foldl (Ej es l) a)
 |[],_,h=>h
 |k::ks,_,h=>Sa ks (VX h)
theorem Sb(es:List CE)(l:List GE):∀ (ks:List ByteArray) (a:List GE),(ks.foldl (Ej es l) a).length<=a.length+ks.length
 |[],_=>by simp
 |k::ks,a=>by
  have h1:=Sb es l ks (Ej es l a k)
  have h2:=VY es l a k
  simp only[A0r,A0g]
  omega
theorem Tq(ks:List ByteArray):(AX ks).Perm ks:=by
 have h1:=(List.mergeSort_perm (ks.map (·.data.toList)) (fun x y=>decide (x<=y))).map (fun l:List UInt8=>(⟨l.toArray⟩:ByteArray))
 rw[A10] at h1
 have h2:(ks.map ((fun l:List UInt8=>(⟨l.toArray⟩:ByteArray)) ∘ fun k=>k.data.toList))=ks:=by
  rw[A13 (g:=id) (fun k _=>by simp),List.map_id]
 rw[h2] at h1
 exact h1
theorem Xk(o:OV)(l:List GE)(h:OvOk o l)(hl:l.length+o.es.length<=1048576)(hS:QK o.es l):∃ t',DB t' (o.view l)/\A2 prog 42 [.ref 1 0 0 3] (ovH o) (Av t') (ovH o):=by
 obtain⟨b,c,u⟩:=o
 obtain⟨hb,hch⟩:=h
 cases c with
 |none=>exact ⟨b,hb,XR b u⟩
 |some c=>
  obtain⟨es,ck⟩:=c
  simp only[OV.es,OV.ck,A0J,OV.view] at*
  have hp:=Tq (es.map (·.1))
  have hlen:(AX (es.map (·.1))).length=es.length:=by rw[hp.length_eq,A06]
  have hnd:(AX (es.map (·.1))).Nodup:=hp.nodup_iff.2 hch.keys
  have hmem:∀ k,k ∈ AX (es.map (·.1))↔k ∈ es.map (·.1):=fun k=>hp.mem_iff
  obtain⟨T,hT0,hT⟩:=Uh (fun i t=>DB t (((AX (es.map (·.1))).take i).foldl (Ej es l) l)) (fun i t t'=>i<es.length->HI es l ((AX (es.map (·.1))).getD i default) t t') b (by simpa using hb) (fun i t ht=>by
   rcases A14 i es.length with hi|hi
   ·have hi':i<(AX (es.map (·.1))).length:=by omega
    have hk:(AX (es.map (·.1))).getD i default=(AX (es.map (·.1)))[i]:=by rw[A02,A09 hi'];rfl
    have htk:(AX (es.map (·.1))).take (i+1)=(AX (es.map (·.1))).take i++[(AX (es.map (·.1)))[i]]:=by rw[A1s,A09 hi'];rfl
    have hkm:(AX (es.map (·.1)))[i] ∈ es.map (·.1):=(hmem _).1 (A0X hi')
    have hkn:(AX (es.map (·.1)))[i] ∉ (AX (es.map (·.1))).take i:=fun hm=>by
     have h2:=hnd
     rw[<-A12 (i+1) (AX (es.map (·.1))),htk,List.nodup_append] at h2
     have h3:=h2.1
     rw[List.nodup_append] at h3
     exact h3.2.2 _ hm _ (A0d.2 rfl) rfl
    have hga:=Ld hS ((AX (es.map (·.1))).take i) l (List.Sublist.nodup (List.take_sublist ..) hnd) (fun _ _=>rfl) (AX (es.map (·.1)))[i]
    have hga:=hga.2 hkn
    have hle:=Sb es l ((AX (es.map (·.1))).take i) l
    rw[A0z] at hle
    rw[hk,htk,A1H,A0r,A0Z]
    generalize((AX (es.map (·.1))).take i).foldl (Ej es l) l=a at*
    generalize(AX (es.map (·.1)))[i]=k at*
    obtain⟨s,hs⟩:∃ s,lk es k=some s:=by
     cases hlk:lk es k with
     |none=>exact absurd hkm (ZR hlk)
     |some s=>exact ⟨s,rfl⟩
    obtain⟨j,hf⟩:∃ j,BI k es 0=some (j,s):=by
     have:=Ha k es 0
     rw[hs] at this
     cases hc:BI k es 0 with
     |none=>rw [hc] at this;cases this
     |some p=>rw [hc] at this;obtain⟨j,s'⟩:=p;simp only[A15,A03] at this;exact⟨j,by rw[this]⟩
    have hsm:=hch.sm
    obtain⟨n,hmm⟩:=ZQ hs
    have hsm:=hsm _ hmm
    unfold Ej
    rw[hs]
    simp only
    cases hb1:s.1 with
    |true=>
     simp only[if_true]
     split
     ·rename_i hc
      simp only[A07] at hc
      exact⟨t,ht,fun _=>.keep s t j hf hb1 hc⟩
     ·rename_i hc
      obtain⟨t',hp,ht'⟩:=QU ht (by omega) k s.2 hsm.1
      exact⟨t',ht',fun _=>.put s t t' j hf hb1 (fun hn=>hc (by simp only[A07];exact hn)) hp⟩
    |false=>
     simp only[A0C,if_false]
     cases hg:(Az k l).isSome with
     |true=>
      obtain⟨t',hp,ht'⟩:=Y9 ht (by omega) k
      exact⟨t',ht',fun _=>.del s t t' j _ hf hb1 hg hp⟩
     |false=>
      rw[Nn (by rw[RX,hga,hg])]
      exact⟨t,ht,fun _=>.none s t j hf hb1 hg⟩
   ·rw[A08 (by omega)]
    rw[A08 (by omega)] at ht
    exact⟨t,ht,fun hi'=>absurd hi' (by omega)⟩)
  refine⟨T es.length,?_,XQ u b es ck l (by omega) hb hch (by omega) T hT0 fun i hi=>(hT i).2 hi⟩
  have hfin:=(hT es.length).1
  rw[A08 (by omega)] at hfin
  have:(AX (es.map (·.1))).foldl (Ej es l) l=Gi es l:=L8 (Sa _ hb.srt) (EB es hb.srt) fun k=>by
   rw[CK k es l hch.keys]
   by_cases hk:k ∈ AX (es.map (·.1))
   ·exact(Ld hS _ l hnd (fun _ _=>rfl) k).1 hk
   ·rw[(Ld hS _ l hnd (fun _ _=>rfl) k).2 hk,Q7 (fun hm=>hk ((hmem k).2 hm))]
  rw[this] at hfin
  exact hfin
def rw1(p:List CE×Nat)(u:Bw):List CE×Nat:=if u.was then Jg p.1 p.2 u.k u.old else(Ut p.1 u.k,p.2)
def rwd(p:List CE×Nat)(us:List Bw):List CE×Nat:=us.reverse.foldl rw1 p
def Nc:Option Bw->D
 |some u=>Cc u
 |none=>.val .nilFunc
abbrev Eg(l:List (Option Bw)):List (List D):=l.map fun o=>[Nc o]
theorem LL(r:Nat->Nat)(h:r 1=1)(o:Option Bw):AV r (Nc o)=Nc o:=by
 cases o with
 |none=>rfl
 |some u=>exact K6 r h u
theorem NK(n:Nat)(o:Option Bw):ltD n (Nc o)=true:=by
 cases o with
 |none=>rfl
 |some u=>exact M7 n u
theorem Ry(r:Nat->Nat)(h:r 1=1)(l:List (Option Bw)):Db r (Eg l)=Eg l:=by
 rw[E3,A10]
 refine A13 fun u _=>?_
 simp only[Function.comp,BZ,LL r h]
theorem M6(n:Nat):∀ l:List (Option Bw),Ev n (Eg l)=true
 |[]=>rfl
 |u::l=>by
  have:=M6 n l
  simp only[Eg,A0h,Ev,ltL,NK,Bool.true_and,A1N] at this|-
  exact this
attribute [push_cast] LL NK Ry M6
def El(us:List Bw)(j:Nat):List (Option Bw):=(us.take j).map some++List.replicate (us.length-j) none
theorem Ex(us:List Bw)(j:Nat):(El us j).length=us.length:=by
 simp only[El,A04,A06,A0z,A1a];omega
theorem WY(us:List Bw):Eg (El us us.length)=us.map fun u=>[Cc u]:=by
 simp only[El,A1h,Nat.sub_self,List.replicate_zero,A0H,Eg,A10]
 rfl
theorem WX(us:List Bw){j:Nat}(h:j<us.length):(El us (j+1))[j]? =some (some us[j]):=by
 unfold El
 rw[A0q (by simp;omega),A0x,A0n (by omega),A09 h]
 rfl
theorem WW(us:List Bw){j:Nat}(h:j<us.length):(El us (j+1)).set j none=El us j:=by
 apply A1B
 intro i
 rw[A1I]
 by_cases hi:j=i
 ·subst hi
  rw[if_pos rfl,if_pos (by rw[Ex];exact h)]
  unfold El
  rw[A0o (by simp only[A06,A0z];omega),A1v,if_pos (by simp only[A06,A0z];omega)]
 ·rw[if_neg hi]
  unfold El
  by_cases h1:i<j
  ·rw[A0q (by simp;omega),A0q (by simp;omega),A0x,A0x,A0n (by omega),A0n h1]
  ·rw[A0o (by simp;omega),A0o (by simp;omega),A1v,A1v]
   simp only[A06,A0z]
   by_cases h2:i<us.length
   ·rw[if_pos (by omega),if_pos (by omega)]
   ·rw[if_neg (by omega),if_neg (by omega)]
theorem Yp(p:List CE×Nat)(us:List Bw){i:Nat}(h:i<us.length):rwd p (us.drop i)=rw1 (rwd p (us.drop (i+1))) us[i]:=by
 unfold rwd
 rw[List.drop_eq_getElem_cons h,A1i,A1H]
 rfl
theorem W0(l:List (Option Bw))(i:Nat):(Eg l).set i [.val .nilFunc]=Eg (l.set i none):=by
 simp only[Eg,A1F];rfl
theorem S5(b c n:Nat)(t:GT):grG b c n (Ac t)=Ac t:=by
 rcases Dh t with h|⟨cs,h⟩<;>rw [h]<;>rfl
theorem grG_encC(b c n:Nat)(es:List CE):(es.map CI).map (fun p=>(p.1,p.2.1,grG b c n p.2.2))=es.map CI:=by
 rw[A10]
 exact A13 fun e _=>rfl
theorem Th(us:List Bw){m:Nat}(h:m<=us.length):(Eg (El us m)).take m=(us.take m).map fun u=>[Cc u]:=by
 simp only[Eg,El]
 rw[<-List.map_take,A1r (by simp only[A06,A0z];omega),A08 (by simp only[A06,A0z];omega),A10]
 rfl
theorem c_undo'(b:GT)(p:List CE×Nat)(l:List (Option Bw))(u:Bw):A2 prog 240
  [.ptr [.val (.bool u.was)] 0,.ptr (CP u.old) 0,.ptr [.ref 1 0 0 3] 0,.ptr [.val (.string u.k)] 0] [(1,.rows [[Ac b,.mref 2,.gref 4 l.length]] 3),(2,.map (p.1.map CI) p.2),(4,.grow (Eg l) 1)] (.tup [])
  [(1,.rows [[Ac b,.mref 2,.gref 4 l.length]] 3),(2,.map ((rw1 p u).1.map CI) (rw1 p u).2),(4,.grow (Eg l) 1)]:=by
 obtain⟨k,was,old⟩:=u
 obtain⟨es,ck⟩:=p
 unfold rw1 Jg Ut
 simp only
 cases hf:BI k es 0 with
 |none=>
  refine Zd [] func240 rfl ntmps240 results240 ?_
  (have z:=Za @AU<|Za hf @K9;(try push_cast[z])<;>repeat' (first|apply Zi<;>intro _|exact Zo|with_reducible apply Za)<;>try push_cast[z])
  all_goals(rename_i h;subst h;simp only[if_true,if_false,A0C])
  ·apply Zw<;>push_cast
  ·apply Zw<;>push_cast
 |some p=>
  obtain⟨i,s⟩:=p
  refine Zd [] func240 rfl ntmps240 results240 ?_
  (have z:=Za @AU<|Za hf<|Za @J7 @Ui;(try push_cast[z])<;>repeat' (first|apply Zi<;>intro _|exact Zo|with_reducible apply Za)<;>try push_cast[z])
  all_goals(rename_i h;subst h;simp only[if_true,if_false,A0C])
  ·apply Zw<;>push_cast
  ·apply Zw<;>push_cast
theorem Z5{l:List (Option Bw)}{i:Nat}{o:Option Bw}(h:l[i]? =some o):nr (Eg l) i=[Nc o]:=by
 simp only[nr,A02,A0x,h,A15,A0J]
theorem T8(u:Bw):Nc (some u)=.func (.func 240) [] [.ptr [.val (.bool u.was)] 0,.ptr (CP u.old) 0,.ptr [.ref 1 0 0 3] 0,.ptr [.val (.string u.k)] 0]:=rfl
abbrev bkS(b:GT)(p:List CE×Nat)(us:List Bw)(m j:Nat):St:=⟨[(5,.val (.int .i64 ((j:Int)-1))),(1,.val (.int .i64 m)),(0,.ref 1 0 0 3)],[(1,.rows [[Ac b,.mref 2,.gref 4 (El us j).length]] 3),(2,.map ((rwd p (us.drop j)).1.map CI) (rwd p (us.drop j)).2),(4,.grow (Eg (El us j)) 1)],88⟩
theorem c_Back(b:GT)(p:List CE×Nat)(us:List Bw)(m:Nat)(hm:m<=us.length)(hn:us.length<=1073741824):A2 prog 111 [.ref 1 0 0 3,.val (.int .i64 m)] (ovH ⟨b,some p,some us⟩) (.val (.int .i64 0)) (ovH ⟨b,some (rwd p (us.drop m)),some (us.take m)⟩):=by
 have oB:=A3 b
 have w1:IntKind.i64.wrap ((us.length:Int)-1)=(us.length:Int)-1:=by rw[A9 (by omega) (by omega)]
 have b1:decide ((m:Int)<0)=false:=decide_eq_false (by omega)
 have b2:decide ((us.length:Int)<(m:Int))=false:=decide_eq_false (by omega)
 obtain⟨es,ck⟩:=p
 have hE:rwd (es,ck) (us.drop m)=((rwd (es,ck) (us.drop m)).1,(rwd (es,ck) (us.drop m)).2):=rfl
 rw[hE]
 simp only[DL]
 refine Zd [] func111 rfl ntmps111 results111 ?_
 (have z:=Za oB<|Za b1<|Za b2 w1;(try push_cast[z])<;>repeat' (first|apply Zi<;>intro _|exact Zo|with_reducible apply Za)<;>try push_cast[z])
 all_goals first|omega|skip
 refine Zl (fun j=>m<=j/\j<=us.length) (fun j=>bkS b (es,ck) us m j) (fun j=>j) us.length ⟨hm,A0a _⟩ ?_ fun j hj=>?_
 ·unfold bkS
  rw[Ex,WY,List.drop_length,show rwd (es,ck) []=(es,ck) from rfl]
  apply Zw<;>push_cast [oB]
 ·have lL:=Ex us j
  unfold bkS
  push_cast[oB]
  refine Af (fun hx=>?_) (fun hx=>?_)
  ·have hx':m<j:=by
    have:(m:Int)<=(j:Int)-1:=by simpa using hx
    omega
   obtain⟨i,rfl⟩:∃ i,j=i+1:=⟨j-1,by omega⟩
   have e1:((i+1:Nat):Int)-1=(i:Int):=by omega
   rw[e1]
   have hi:i<us.length:=by omega
   have hu:=WX us hi
   have ea:=Z5 hu
   have hc:=c_undo' b (rwd (es,ck) (us.drop (i+1))) (El us (i+1)) us[i]
   have hr:=Yp (es,ck) us hi
   have hs:=W0 (El us (i+1)) i
   rw[WW us hi] at hs
   have lL':=Ex us i
   have w2:IntKind.i64.wrap ((i:Int)-1)=(i:Int)-1:=by rw[A9 (by omega) (by omega)]
   (have z:=Za oB<|Za ea<|Za @T8 lL;(try push_cast[z])<;>repeat' (first|apply Zi<;>intro _|refine Zt [(1,1),(2,2),(4,4)] (hc ..) ?_|exact Zo|with_reducible apply Za)<;>try push_cast[z])
   all_goals first|omega|skip
   refine⟨i,⟨by omega,by omega⟩,by omega,?_⟩
   rw[hr,w2]
   apply Zr [(2,258),(4,260)] rfl<;>push_cast [hs,lL,lL',oB]
  ·have hx':j=m:=by
    have:¬(m:Int)<=(j:Int)-1:=by simpa using hx
    omega
   subst hx'
   (have z:=oB;(try push_cast[z])<;>repeat' (first|apply Zi<;>intro _|exact Zo|with_reducible apply Za)<;>try push_cast[z])
   all_goals first|omega|skip
   refine Ar.trans (Ar.cut (b:=4) j rfl ?_) ?_
   ·simp only[Eg,A06,lL];omega
   ·have ht:=Th us (m:=j) (by omega)
    rw[ht]
    have g1:=S5 4 288 j b
    have g2:=grG_encC 4 288 j (rwd (es,ck) (us.drop j)).1
    generalize(rwd (es,ck) (us.drop j)).2=ck' at*
    generalize(rwd (es,ck) (us.drop j)).1=es' at*
    generalize hE':es'.map CI=E' at*
    simp only[grG] at g1 g2
    push_cast[g1,g2]
    rw[<-hE']
    apply Zr [(4,288)] rfl<;>push_cast [A0z,Nat.min_eq_left (show j<=us.length by omega),A06]
theorem XS:A0 prog 167 [.slice [] false] (.slice [] false):=by
 refine Zf [] func167 rfl ntmps167 results167 ?_
 ((try push_cast)<;>repeat' (first|apply Zi<;>intro _|exact Zp|with_reducible apply Za)<;>try push_cast)
 all_goals simp
theorem VG(t:GT)(hk0:t.kids=[]):A0 prog 100 [Ac t] (.slice [] false):=by
 cases t with
 |nil=>
  rw[B4]
  refine Zf [] func100 rfl ntmps100 results100 ?_
  ((try push_cast)<;>repeat' (first|apply Zi<;>intro _|exact Zp|with_reducible apply Za)<;>try push_cast)
  all_goals simp
 |node e k hh c f l th=>
  simp only[GT.kids] at hk0
  subst hk0
  rw[AW]
  refine Zf [] func100 rfl ntmps100 results100 ?_
  (have z:=trivial;(try push_cast)<;>repeat' (first|apply Zi<;>intro _|refine Zc (XS ..) ?_|exact Zp|with_reducible apply Za)<;>try push_cast)
theorem La{n:Nat}:∀ y:List D,y ∈ []->y.length=n:=fun _ h=>absurd h A1x
theorem L9:∀ y:List D,y ∈ []->∀ d:D,d ∈ y->AN d=true:=fun _ h=>absurd h A1x
abbrev E0(A l:List GE)(t:GT):Prop:=
  A2 prog 58 [.gref 1 A.length,Ac t] [(1,.grow (A.map A7) 7)] (.gref 0 (A++l).length) [(0,.grow ((A++l).map A7) 7)]
theorem XH(A:List GE)(t:GT)(hk0:t.kids=[])(hl:t.es≠[])(h8:t.es.length<=8)(hs:∀ e ∈ t.es,Sm e.2)(hA:A.length<=1048576):E0 A t.es t:=by
 have hE:=Dk t hl (by omega) hs
 have oT:=A3 t
 have tk:List.take t.es.length (List.map A7 t.es)=List.map A7 t.es:=A08 (by simp)
 have hK:=VG t hk0
 have e1:(A.map A7++t.es.map A7)=(A++t.es).map A7:=by simp
 have e2:A.length+t.es.length=(A++t.es).length:=by simp
 have e3:(A++t.es).length<=1048584:=by simp;omega
 unfold E0
 refine Zd [] func58 rfl ntmps58 results58 ?_
 (have z:=Za tk oT;(try push_cast[z])<;>repeat' (first|apply Zi<;>intro _|refine Zs [] hE ?_|refine Zc hK ?_|exact Zo|with_reducible apply Za)<;>try push_cast[z])
 all_goals first|omega|exact C4 _|exact DM _|exact La|exact L9|skip
 rw[e1]
 try rw[e2]
 generalize A++t.es=B at*
 refine AWp.loopI mixed (by kernel_rfl) (ι:=Unit) (fun _=>True) (fun _=>⟨[(14,.val (.int .i64 0)),(13,.val (.int .i64 0)),(12,.slice [] false),(1,Ac t),(0,.gref 40 B.length)],[(40,.grow (B.map A7) 7)],44⟩) (fun _=>0) () trivial ?_ fun i hi=>?_
 ·apply Zw<;>push_cast [oT,A11,A1A,List.flatMap_nil,A0H,Bh]
 ·(have z:=oT;(try push_cast[z])<;>repeat' (first|apply Zi<;>intro _|exact Zo|with_reducible apply Za)<;>try push_cast[z])
  apply Zr [(0,40)] rfl<;>push_cast
theorem XF(A:List GE)(t:GT)(hk0:t.kids=[])(hl:t.es=[])(hA:A.length<=1048576):E0 A [] t:=by
 have hE:=Gf t hl
 have oT:=A3 t
 have hK:=VG t hk0
 unfold E0
 rw[A0H]
 refine Zd [] func58 rfl ntmps58 results58 ?_
 (have z:=oT;(try push_cast[z])<;>repeat' (first|apply Zi<;>intro _|refine Zc hE ?_|refine Zc hK ?_|exact Zo|with_reducible apply Za)<;>try push_cast[z])
 all_goals first|omega|exact C4 _|exact DM _|exact La|exact L9|skip
 refine AWp.loopI mixed (by kernel_rfl) (ι:=Unit) (fun _=>True) (fun _=>⟨[(14,.val (.int .i64 0)),(13,.val (.int .i64 0)),(12,.slice [] false),(1,Ac t),(0,.gref 40 A.length)],[(40,.grow (A.map A7) 7)],44⟩) (fun _=>0) () trivial ?_ fun i hi=>?_
 ·apply Zw<;>push_cast [oT,A11,A1A,List.flatMap_nil,A0H,Bh]
 ·(have z:=oT;(try push_cast[z])<;>repeat' (first|apply Zi<;>intro _|exact Zo|with_reducible apply Za)<;>try push_cast[z])
  apply Zr [(0,40)] rfl<;>push_cast
theorem XG(A:List GE)(t:GT)(F:GT->List GE)(hl:t.es=[])(h0:0<t.kids.length)(h8:t.kids.length<=8)(hA:(A++t.kids.flatMap F).length<=1048576)
  (hrec:∀ i,i<t.kids.length->E0 (A++(t.kids.take i).flatMap F) (F (t.kids.getD i .nil)) (t.kids.getD i .nil)):E0 A (t.kids.flatMap F) t:=by
 have hE:=Gf t hl
 have oT:=A3 t
 have hK:=EW t h0 (by omega)
 have hA':A.length<=1048576:=by simp at hA;omega
 unfold E0 at hrec|-
 refine Zd [] func58 rfl ntmps58 results58 ?_
 (have z:=oT;(try push_cast[z])<;>repeat' (first|apply Zi<;>intro _|refine Zc hE ?_|refine Zs [] hK ?_|exact Zo|with_reducible apply Za)<;>try push_cast[z])
 all_goals first|omega|exact C4 _|exact DM _|exact La|exact L9|skip
 refine Zl (fun i=>i<=t.kids.length) (fun i=>⟨[(14,.val (.int .i64 i)),(13,.val (.int .i64 t.kids.length)),(12,.gref 64 t.kids.length),(1,Ac t),(0,.gref 40 (A++(t.kids.take i).flatMap F).length)],[(40,.grow ((A++(t.kids.take i).flatMap F).map A7) 7),(64,.grow (t.kids.map Ai) 1)],44⟩) (fun i=>t.kids.length-i) 0 (by simp) ?_ fun i hi=>?_
 ·apply Zw<;>push_cast [oT,A11,A1A,List.flatMap_nil,A0H,Bh]
 ·push_cast[oT]
  refine Af (fun hb=>?_) (fun hb=>?_)
  ·have hb':i<t.kids.length:=by simpa using hb
   have hr:=hrec i hb'
   have ea:=Bf (l:=t.kids) (i:=i) hb'
   have e3:A++(t.kids.take i).flatMap F++F (t.kids.getD i .nil)=A++(t.kids.take (i+1)).flatMap F:=by
    rw[A1s,A0A,A0b,A02,A09 hb']
    simp
   rw[e3] at hr
   (have z:=Za oT<|Za ea @Ai.eq_1;(try push_cast[z])<;>repeat' (first|apply Zi<;>intro _|refine Zs [(1,40)] (hr ..) ?_|exact Zo|with_reducible apply Za)<;>try push_cast[z])
   all_goals first|omega|skip
   refine⟨i+1,by omega,by omega,?_⟩
   have w1:IntKind.i64.wrap ((i:Int)+1)=((i+1:Nat):Int):=by rw[A9 (by omega) (by omega)];omega
   rw[w1]
   apply Zr [(40,136)] rfl<;>push_cast
  ·have hb':i=t.kids.length:=by
    have:¬(i:Int)<t.kids.length:=by simpa using hb
    omega
   subst hb'
   rw[A1h]
   (have z:=oT;(try push_cast[z])<;>repeat' (first|apply Zi<;>intro _|exact Zo|with_reducible apply Za)<;>try push_cast[z])
   apply Zr [(0,40)] rfl<;>push_cast
theorem NT:∀ (h:Nat) (t:GT) (A:List GE),Wf h t->(A++Aa h t).length<=1048576->E0 A (Aa h t) t
 |0,t,A,hw,hb=>by
  obtain⟨l,rfl,ho,hn⟩:=hw
  have hA:A.length<=1048576:=by simp at hb;omega
  exact XH A (AB l) rfl hn ho.hl ho.hs hA
 |h+1,t,A,hw,hb=>by
  obtain⟨l,rfl,h2,h8,hk,hs⟩:=hw
  have hkids:(AH l).kids=l:=rfl
  have hfl:Aa (h+1) (AH l)=l.flatMap (Aa h):=rfl
  rw[hfl] at hb|-
  refine XG A (AH l) (Aa h) rfl (by rw[hkids];omega) h8 hb fun i hi=>?_
  rw[hkids] at hi|-
  have hm:=Aj (d:=GT.nil) hi
  refine NT h _ _ (hk _ hm).1 ?_
  have e3:A++(l.take i).flatMap (Aa h)++Aa h (l.getD i .nil)=A++(l.take (i+1)).flatMap (Aa h):=by
   rw[A1s,A0A,A0b,A02,A09 hi]
   simp
  have e4:l.flatMap (Aa h)=(l.take (i+1)).flatMap (Aa h)++(l.drop (i+1)).flatMap (Aa h):=by rw[<-A0A,A12]
  rw[e3]
  rw[e4] at hb
  simp only[A04] at hb|-
  omega
theorem c_TLen(t:GT):A0 prog 59 [Av t] (.val (.int .i64 t.count)):=by
 have hC:=Lk t
 have oT:=A3 t
 refine Zf [] func59 rfl ntmps59 results59 ?_
 (have z:=oT;(try push_cast[z])<;>repeat' (first|apply Zi<;>intro _|refine Zc hC ?_|exact Zo|with_reducible apply Za)<;>try push_cast[z])
theorem z7_pure(n:Nat):A6 (List.replicate n [.val (.string ByteArray.empty),.val (.int .i64 0),.val (.bool false),.val (.int .i64 0),.val (.string ByteArray.empty),.slice [] true,.slice [] true])=true:=by
 induction n with
 |zero=>rfl
 |succ n ih=>simp only[A1L,A6,ih];rfl
theorem MS(t:GT)(l:List GE)(ht:DB t l)(hb:l.length<=1048576):A2 prog 32 [Av t] [] (.gref 0 l.length) [(0,.grow (l.map A7) 7)]:=by
 have hC:=c_TLen t
 rw[ht.count] at hC
 have oT:=A3 t
 have hg:E0 [] l t:=by
  rcases ht with⟨rfl,rfl⟩|⟨h,hw,rfl⟩
  ·exact XF [] .nil rfl rfl (by simp)
  ·exact NT h t [] hw (by simpa using hb)
 unfold E0 at hg
 rw[A0m,A0t,A0G] at hg
 have oL:A6 (l.map A7)=true:=Bu l
 have hz:=z7_pure l.length
 have hlR:(List.replicate l.length [D.val (.string ByteArray.empty),D.val (.int .i64 0),D.val (.bool false),D.val (.int .i64 0),D.val (.string ByteArray.empty),D.slice [] true,D.slice [] true]).length=l.length:=A1a
 have hs:=A2.sref_grow (es:=List.replicate l.length [D.val (.string ByteArray.empty),D.val (.int .i64 0),D.val (.bool false),D.val (.int .i64 0),D.val (.string ByteArray.empty),D.slice [] true,D.slice [] true]) hg (by simp[Ag,oT]) hz oL (A0D _) (by rw[hlR];omega)
 rw[hlR] at hs
 refine Zd [] func32 rfl ntmps32 results32 ?_
 (have z:=Za oT<|Za hz @Bh;(try push_cast[z])<;>repeat' (first|apply Zi<;>intro _|refine Zc hC ?_|refine Zs [(1,40)] (hs ..) ?_|exact Zo|with_reducible apply Za)<;>try push_cast[z])
 all_goals first|omega|skip
 apply Zr [(0,64)] rfl<;>push_cast
theorem Ar.nilgrowE{t:Nat}{env:Env}{hp:Hp}{nx:Nat}(sz:Nat):Ar ⟨(t,.slice [] true)::env,hp,nx⟩ ⟨(t,.gref (2*nx) 0)::env,(2*nx,.grow [] sz)::hp,nx+1⟩:=by
 intro w0 M0 I0 nt I mu a w r
 have hnone:mu (2*nx)=none:=r.w.fresh _ ⟨by show 2*nx%2=0;omega,A0a _⟩
 have hv:=r.env t
 have e1:(⟨(t,.slice [] true)::env,hp,nx⟩:St).fs.env t=.slice [] true:=by simp[St.fs,Env.get]
 rw[e1] at hv
 obtain⟨A,hA0⟩:∃ A,a.tmps.getD t undef=.slice A 0 0:=by
  generalize a.tmps.getD t undef=v at hv
  cases hv with
  |slice _ _ A k o sz' cap u hA hc ht hm hlen hcell h=>exact ⟨A,by rw[ht rfl];rfl⟩
 have hmm:=Bs (v:=.slice A 0 0) hnone
 have hlk:∀ c z,Ad ((2*nx,Blk.grow [] sz)::hp) c=some z->(c=2*nx/\z=.grow [] sz)∨(c≠2*nx/\Ad hp c=some z):=by
  intro c z h
  simp only[Ad] at h
  by_cases hc:2*nx=c
  ·have:(2*nx==c)=true:=by simp[hc]
   rw[this,cond_true] at h
   exact .inl ⟨hc.symm,(Option.some.inj h).symm⟩
  ·have:(2*nx==c)=false:=by simp[hc]
   rw[this,cond_false] at h
   exact .inr ⟨fun h=>hc h.symm,h⟩
 have hno:∀ j,Ae (.slice A 0 0)≠some j:=by intro j;cases A<;>simp [Ae]
 have hmu:∀ c,c≠2*nx->Ax mu (2*nx) (.slice A 0 0) c=mu c:=fun c hc=>by simp[Ax,hc]
 refine⟨I,Ax mu (2*nx) (.slice A 0 0),r.size,r.defers,fun t'=>?_,⟨fun c z h=>?_,fun c z v j h hv hj=>?_,fun c c' z z' v v' j h h' hv hv' hj hj'=>?_,fun c hc=>?_,r.w.lt,r.w.os,r.w.tape,r.w.output,r.w.grown,r.w.old,r.w.iold,r.w.inew,fun c v hc hn=>hmm c v (r.w.keep c v hc hn),fun c z h hc=>?_⟩⟩
 ·by_cases htt:t=t'
  ·subst htt
   have e2:(⟨(t,.gref (2*nx) 0)::env,(2*nx,Blk.grow [] sz)::hp,nx+1⟩:St).fs.env t=.gref (2*nx) 0:=by simp[St.fs,Env.get]
   rw[e2]
   rw[hA0]
   exact .gref _ 0 A 0 (by simp[Ax])
  ·have e2:(⟨(t,.gref (2*nx) 0)::env,(2*nx,Blk.grow [] sz)::hp,nx+1⟩:St).fs.env t'=(⟨(t,.slice [] true)::env,hp,nx⟩:St).fs.env t':=by
    have:(t==t')=false:=by simp[htt]
    simp[St.fs,Env.get,this]
   rw[e2];exact(r.env t').mono (fun _ _=>rfl) (fun _ h=>h) hmm
 ·rcases hlk c z h with⟨rfl,rfl⟩|⟨h1,h2⟩
  ·exact⟨A,0,0,[],by simp[Ax],fun i hi=>by simp at hi,A0D _,.inl ⟨rfl,rfl⟩⟩
  ·exact(r.w.blk c z h2).mono (fun _ _=>rfl) (fun _ h=>h) hmm (fun _ _ _ _=>rfl)
 ·rcases hlk c z h with⟨rfl,rfl⟩|⟨h1,h2⟩
  ·simp only[Ax,if_true,A03] at hv
   subst hv
   exact(hno j hj).elim
  ·rw[hmu c h1] at hv;exact r.w.loc c z v j h2 hv hj
 ·rcases hlk c z h with⟨rfl,rfl⟩|⟨h1,h2⟩
  ·simp only[Ax,if_true,A03] at hv
   subst hv
   exact(hno j hj).elim
  ·rcases hlk c' z' h' with⟨rfl,rfl⟩|⟨h1',h2'⟩
   ·simp only[Ax,if_true,A03] at hv'
    subst hv'
    exact(hno j hj').elim
   ·rw[hmu c h1] at hv
    rw[hmu c' h1'] at hv'
    exact r.w.inj c c' z z' v v' j h2 h2' hv hv' hj hj'
 ·obtain⟨h1,h2⟩:=hc
  have h2':2*(nx+1)<=c:=h2
  rw[hmu c (by omega)]
  exact r.w.fresh c ⟨h1,by show 2*nx<=c;omega⟩
 ·obtain⟨h1,h2⟩:=hc
  have h2':2*(nx+1)<=c:=h2
  rcases hlk c z h with⟨rfl,rfl⟩|⟨h3,h5⟩
  ·omega
  ·exact r.w.used c z h5 ⟨h1,by show 2*nx<=c;omega⟩
theorem Ar.nilgrowN{env:Env}{hp:Hp}{nx b sz:Nat}(xs:List D):Ar ⟨env,(b,.rows [xs++[.slice [] true]] (xs.length+1))::hp,nx⟩ ⟨env,(2*nx,.grow [] sz)::(b,.rows [xs++[.gref (2*nx) 0]] (xs.length+1))::hp,nx+1⟩:=by
 intro w0 M0 I0 nt I mu a w r
 have hnone:mu (2*nx)=none:=r.w.fresh _ ⟨by show 2*nx%2=0;omega,A0a _⟩
 have hbb:(⟨env,(b,.rows [xs++[.slice [] true]] (xs.length+1))::hp,nx⟩:St).fs.hp b=some (.rows [xs++[.slice [] true]] (xs.length+1)):=by simp[St.fs,Ad]
 obtain⟨kb,Tb,usb,b1,b2,b3,b4,b5⟩:=r.w.blk b _ hbb
 have hv:=b5 0 xs.length (by simp) (by omega)
 have hlast:∀ d:D,nd (xs++[d]) xs.length=d:=fun d=>by simp[nd]
 simp only[nr,A0E,hlast] at hv
 obtain⟨A,hA0⟩:∃ A,nv usb (0*(xs.length+1)+xs.length)=.slice A 0 0:=by
  generalize nv usb (0*(xs.length+1)+xs.length)=v at hv
  cases hv with
  |slice _ _ A k o sz' cap u hA hc ht hm hlen hcell h=>exact ⟨A,by rw[ht rfl];rfl⟩
 have hmm:=Bs (v:=.slice A 0 0) hnone
 have hbne:b≠2*nx:=fun e=>by rw[e,hnone] at b1;cases b1
 have hlk:∀ c z,Ad ((2*nx,Blk.grow [] sz)::(b,.rows [xs++[.gref (2*nx) 0]] (xs.length+1))::hp) c=some z->(c=2*nx/\z=.grow [] sz)∨(c≠2*nx/\∃ z',(⟨env,(b,.rows [xs++[.slice [] true]] (xs.length+1))::hp,nx⟩:St).fs.hp c=some z'/\((c=b/\z=.rows [xs++[.gref (2*nx) 0]] (xs.length+1))∨z=z')):=by
  intro c z h
  simp only[Ad] at h
  by_cases hc:2*nx=c
  ·have:(2*nx==c)=true:=by simp[hc]
   rw[this,cond_true] at h
   exact .inl ⟨hc.symm,(Option.some.inj h).symm⟩
  ·have:(2*nx==c)=false:=by simp[hc]
   rw[this,cond_false] at h
   refine .inr ⟨fun h=>hc h.symm,?_⟩
   by_cases hcb:b=c
   ·have:(b==c)=true:=by simp[hcb]
    rw[this,cond_true] at h
    subst hcb
    exact⟨_,hbb,.inl ⟨rfl,(Option.some.inj h).symm⟩⟩
   ·have:(b==c)=false:=by simp[hcb]
    rw[this,cond_false] at h
    exact⟨z,by simp[St.fs,Ad,this,h],.inr rfl⟩
 have hno:∀ j,Ae (.slice A 0 0)≠some j:=by intro j;cases A<;>simp [Ae]
 have hmu:∀ c,c≠2*nx->Ax mu (2*nx) (.slice A 0 0) c=mu c:=fun c hc=>by simp[Ax,hc]
 refine⟨I,Ax mu (2*nx) (.slice A 0 0),r.size,r.defers,fun t'=>(r.env t').mono (fun _ _=>rfl) (fun _ h=>h) hmm,⟨fun c z h=>?_,fun c z v j h hv hj=>?_,fun c c' z z' v v' j h h' hv hv' hj hj'=>?_,fun c hc=>?_,r.w.lt,r.w.os,r.w.tape,r.w.output,r.w.grown,r.w.old,r.w.iold,r.w.inew,fun c v hc hn=>hmm c v (r.w.keep c v hc hn),fun c z h hc=>?_⟩⟩
 ·rcases hlk c z h with⟨rfl,rfl⟩|⟨h1,z',h2,h3⟩
  ·exact⟨A,0,0,[],by simp[Ax],fun i hi=>by simp at hi,A0D _,.inl ⟨rfl,rfl⟩⟩
  ·rcases h3 with⟨rfl,rfl⟩|rfl
   ·refine⟨kb,Tb,usb,hmm _ _ b1,b2,b3,fun i hi=>?_,fun i j hi hj=>?_⟩
    ·obtain rfl:i=0:=by simpa using hi
     simp[nr]
    ·obtain rfl:i=0:=by simpa using hi
     have hold:=b5 0 j (by simp) hj
     simp only[nr,A0E] at hold|-
     rcases A14 j xs.length with hlt|hge
     ·have hl:∀ d:D,nd (xs++[d]) j=nd xs j:=fun d=>by simp only[nd,A02,A0q hlt]
      rw[hl] at hold|-
      exact hold.mono (fun _ _=>rfl) (fun _ h=>h) hmm
     ·obtain rfl:j=xs.length:=by omega
      rw[hlast,hA0]
      exact .gref _ 0 A 0 (by simp[Ax])
   ·exact(r.w.blk c z h2).mono (fun _ _=>rfl) (fun _ h=>h) hmm (fun _ _ _ _=>rfl)
 ·rcases hlk c z h with⟨rfl,rfl⟩|⟨h1,z',h2,_⟩
  ·simp only[Ax,if_true,A03] at hv
   subst hv
   exact(hno j hj).elim
  ·rw[hmu c h1] at hv;exact r.w.loc c z' v j h2 hv hj
 ·rcases hlk c z h with⟨rfl,rfl⟩|⟨h1,z1,h2,_⟩
  ·simp only[Ax,if_true,A03] at hv
   subst hv
   exact(hno j hj).elim
  ·rcases hlk c' z' h' with⟨rfl,rfl⟩|⟨h1',z2,h2',_⟩
   ·simp only[Ax,if_true,A03] at hv'
    subst hv'
    exact(hno j hj').elim
   ·rw[hmu c h1] at hv
    rw[hmu c' h1'] at hv'
    exact r.w.inj c c' z1 z2 v v' j h2 h2' hv hv' hj hj'
 ·obtain⟨h1,h2⟩:=hc
  have h2':2*(nx+1)<=c:=h2
  rw[hmu c (by omega)]
  exact r.w.fresh c ⟨h1,by show 2*nx<=c;omega⟩
 ·obtain⟨h1,h2⟩:=hc
  have h2':2*(nx+1)<=c:=h2
  rcases hlk c z h with⟨rfl,rfl⟩|⟨h3,z',h5,_⟩
  ·omega
  ·exact r.w.used c z' h5 ⟨h1,by show 2*nx<=c;omega⟩
theorem Ar.nilgrow3{env:Env}{hp:Hp}{nx b sz:Nat}{x y:D}:Ar ⟨env,(b,.rows [[x,y,.slice [] true]] 3)::hp,nx⟩ ⟨env,(2*nx,.grow [] sz)::(b,.rows [[x,y,.gref (2*nx) 0]] 3)::hp,nx+1⟩:=Ar.nilgrowN [x,y]
theorem A2.weakIn{P:Program}{f:FuncId}{ds ds':List D}{H H0 H':Hp}{r:D}(hl:ds'.length=ds.length)(hw:Ar ⟨Be 0 ds',H0,4⟩ ⟨Be 0 ds,H,4⟩)(h:A2 P f ds H r H'):A2 P f ds' H0 r H':=by
 unfold A2 at h|-
 refine⟨h.1,fun w M0 G I mu vs hga hdl hwr hr=>?_⟩
 have hR:Rel w M0 G vs.length (frN 4) I mu (⟨Be 0 ds',H0,4⟩:St).fs {tmps:=vs.toArray,defers:=G.dl} w:=
  ⟨by simp,BJ.refl _ _ _ _,fun t=>by
   have:=Ff hr 0 t
   simpa[St.fs] using this,hwr⟩
 obtain⟨I',mu',R⟩:=hw w M0 G vs.length I mu _ w hR
 refine h.2 w M0 G I' mu' vs hga hdl R.w ⟨by rw[hr.1,hl],fun i hi=>?_⟩
 have:=R.env i
 have hget:=EY ds 0 i
 simp only[A0D,true_and,A1c,Nat.sub_zero] at hget
 simp only[St.fs,hget] at this
 have hlt:i<vs.length:=by rw[hr.1,hl];exact hi
 simpa[hi,nv,A02,A1g] using this
end Go.Ab
