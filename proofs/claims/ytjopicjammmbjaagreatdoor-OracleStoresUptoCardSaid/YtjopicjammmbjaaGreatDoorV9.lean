/- The layer by which the program is walked, and what its functions do: part 10 of 16. -/
import Derived.Test.YtjopicjammmbjaaGreatDoorV8
import Derived.Lib.ValidLaws
import Derived.RangeFuncBound
import Derived.Shelf.Abstract
import Derived.Shelf.RegionOpen
import Derived.OwnWalkIn
import Derived.TacticsInMore
import Derived.LoopNIn
import Derived.LoopIn
import Derived.Maps.OwnIn
import Derived.Lib.MapLaws
import Derived.Laws.IdiomStrings
set_option maxHeartbeats 4000000
set_option maxRecDepth 20000
set_option linter.unusedVariables false
set_option linter.unusedSimpArgs false
set_option linter.unnecessarySimpa false
namespace Go.Ab
open Go.Proofs Go.Proofs.Tryz
theorem XI(b:GT)(u:Option (List Bt)):A4 prog 38 [.ref 1 0 0 3] (ovH ⟨b,none,u⟩) (Be b) (ovH ⟨b,none,u⟩):=by
 have oB:=A5 b
 have hK:=c_KeysN
 have hS:=XD
 rcases u with _|u<;>simp only[KL,JA]
 ·refine Zd [] func38 rfl ntmps38 results38 ?_
  (have z:=oB;(try push_cast[z])<;>repeat' (first|apply Zi<;>intro _|refine Zs [] hK ?_|refine Zs [(3,112)] hS ?_|exact Zo|with_reducible apply Za)<;>try push_cast[z])
  refine AWp.loopI mixed (by kernel_rfl) (ι:=Unit) (fun _=>True) (fun _=>⟨[(23,.val (.int .i64 0)),(22,.val (.int .i64 0)),(21,.slice [] true),(3,.ref 64 0 0 1),(2,.ref 8 0 0 1),(0,.ref 1 0 0 3)],[(64,.rows [[Ag b]] 1),(8,.rows [[.val (.pointer none)]] 1),(1,.rows [[Ag b,.val (.map none),.slice [] true]] 3),(2,.junk),(4,.junk)],72⟩) (fun _=>0) () trivial ?_ fun i hi=>?_
  ·apply Zw<;>push_cast [oB]
  ·(have z:=oB;(try push_cast[z])<;>repeat' (first|apply Zi<;>intro _|exact Zo|with_reducible apply Za)<;>try push_cast[z])
   apply Zw<;>push_cast
 ·refine Zd [] func38 rfl ntmps38 results38 ?_
  (have z:=oB;(try push_cast[z])<;>repeat' (first|apply Zi<;>intro _|refine Zs [] hK ?_|refine Zs [(3,112)] hS ?_|exact Zo|with_reducible apply Za)<;>try push_cast[z])
  refine AWp.loopI mixed (by kernel_rfl) (ι:=Unit) (fun _=>True) (fun _=>⟨[(23,.val (.int .i64 0)),(22,.val (.int .i64 0)),(21,.slice [] true),(3,.ref 64 0 0 1),(2,.ref 8 0 0 1),(0,.ref 1 0 0 3)],[(64,.rows [[Ag b]] 1),(8,.rows [[.val (.pointer none)]] 1),(1,.rows [[Ag b,.val (.map none),.gref 4 u.length]] 3),(2,.junk),(4,.grow (u.map fun u=>[Bj u]) 1)],72⟩) (fun _=>0) () trivial ?_ fun i hi=>?_
  ·apply Zw<;>push_cast [oB]
  ·(have z:=oB;(try push_cast[z])<;>repeat' (first|apply Zi<;>intro _|exact Zo|with_reducible apply Za)<;>try push_cast[z])
   apply Zw<;>push_cast
inductive J6(es:List CE)(l:List GE)(k:ByteArray):GT->GT->Prop
 |put (s:C8) (t t':GT) (i:Nat) (h:BQ k es 0=some (i,s)) (hs:s.1=true) (hn:¬((Ah k l).isSome=true/\(HE (AH (Ah k l)) s.2==0)=true)) (hc:A3 prog 54 [Be t,.val (.string k),.agg (Aa s.2)] (Be t')):J6 es l k t t'
 |keep (s:C8) (t:GT) (i:Nat) (h:BQ k es 0=some (i,s)) (hs:s.1=true) (hn:(Ah k l).isSome=true/\(HE (AH (Ah k l)) s.2==0)=true):J6 es l k t t
 |del (s:C8) (t t':GT) (i:Nat) (x:Bool) (h:BQ k es 0=some (i,s)) (hs:s.1=false) (hn:(Ah k l).isSome=true) (hc:A3 prog 55 [Be t,.val (.string k)] (.tup [Be t',.val (.bool x)])):J6 es l k t t'
 |none (s:C8) (t:GT) (i:Nat) (h:BQ k es 0=some (i,s)) (hs:s.1=false) (hn:(Ah k l).isSome=false):J6 es l k t t
theorem EP:∀ ks:List ByteArray,Am (ks.map fun k=>[.val (.string k)])=true
 |[]=>rfl
 |k::ks=>by simp only[A0k,Am,Av,D.pure,EP ks,A0X]
theorem Vi{ks:List ByteArray}{i:Nat}(h:i<ks.length):nr (ks.map fun k=>[D.val (.string k)]) i=[.val (.string (ks.getD i default))]:=by
 simp only[nr,A03,A0A,A06 h,A0U,A0D]
theorem Rs(ks:List ByteArray):(ks.map fun k=>[D.val (.string k)]).length=ks.length:=A0b ..
def uD:Option (List Bt)->D
 |none=>.slice [] true
 |some l=>.gref 4 l.length
def uB:Option (List Bt)->Blk
 |none=>.junk
 |some l=>.grow (l.map fun u=>[Bj u]) 1
theorem Tp:uD none=.slice [] true:=rfl
theorem To(l:List Bt):uD (some l)=.gref 4 l.length:=rfl
theorem Tr:uB none=.junk:=rfl
theorem Tq(l:List Bt):uB (some l)=.grow (l.map fun u=>[Bj u]) 1:=rfl
abbrev cmS(b:GT)(es:List CE)(ck:Nat)(u:Option (List Bt))(ks:List ByteArray)(T:Nat->GT)(i:Nat):St:=⟨[(23,.val (.int .i64 i)),(22,.val (.int .i64 ks.length)),(21,.slice (ks.map fun k=>[.val (.string k)]) false),(3,.ref 64 0 0 1),(2,.ref 8 0 0 1),(0,.ref 1 0 0 3)],[(64,.rows [[Ag (T i)]] 1),(8,.rows [[.val (.pointer none)]] 1),(1,.rows [[Ag b,.mref 2,uD u]] 3),(2,.map (es.map Ck) ck),(4,uB u)],72⟩
theorem XH(u:Option (List Bt))(b:GT)(es:List CE)(ck:Nat)(l:List GE)(hl:l.length<=1048576)(hb:DF b l)(h:Do es ck)(he:es.length<=1048576)(T:Nat->GT)(h0:T 0=b)(hT:∀ i,i<es.length->J6 es l ((Au (es.map (·.1))).getD i default) (T i) (T (i+1))):
  A4 prog 38 [.ref 1 0 0 3] (ovH ⟨b,some (es,ck),u⟩) (Be (T es.length)) (ovH ⟨b,some (es,ck),u⟩):=by
 have oB:=A5 b
 have hK:=c_Keys es ck
 have hS:=c_Sorted es ck h he
 have hlen:(Au (es.map (·.1))).length=es.length:=by simp[Au]
 rw[<-hlen] at hT|-
 generalize Au (es.map (·.1))=ks at*
 have hks:ks.length<=1048576:=by omega
 rcases u with _|u<;>simp only[Ho,Dw]
 ·skip
  refine Zd [] func38 rfl ntmps38 results38 ?_
  (have z:=oB;(try push_cast[z])<;>repeat' (first|apply Zi<;>intro _|refine Zs [(1,2)] hK ?_|refine Zs [(1,2),(3,112)] hS ?_|exact Zo|with_reducible apply Za)<;>try push_cast[z])
  have sP:=EP ks
  have sL:=Rs ks
  refine Zl (fun i=>i<=ks.length) (fun i=>cmS b es ck none ks T i) (fun i=>ks.length-i) 0 (A0t _) ?_ fun i hi=>?_
  ·unfold cmS;simp only[Tp,Tr]
   rw[h0]
   apply Zw<;>push_cast [oB,A0E,A0b,sP,sL]
  ·unfold cmS;simp only[Tp,Tr]
   have oT:=A5 (T i)
   have oT':=A5 (T (i+1))
   push_cast[oB,oT]
   refine A6 (fun hx=>?_) (fun hx=>?_)
   ·have hx':i<ks.length:=by simpa using hx
    have hG:=Ro hb (by omega) (ks.getD i default)
    have ea:=Vi hx'
    have hr:=hT i hx'
    have hC:=fun v=>Ft (AH (Ah (ks.getD i default) l)) v
    have w1:IntKind.i64.wrap ((i:Int)+1)=((i+1:Nat):Int):=by rw[A9 (by omega) (by omega)];omega
    generalize ks.getD i default=k at*
    clear hT
    generalize hT1:T i=t at*
    generalize hT2:T (i+1)=t' at*
    have fin:∀ s':St,Ar s' (cmS b es ck none ks T (i+1))->∃ j,j<=ks.length/\ks.length-j<ks.length-i/\Ar s' (cmS b es ck none ks T j):=fun s' h=>⟨i+1,by omega,by omega,h⟩
    cases hr with
    |put s _ _ j hf hs hn hc=>
     obtain⟨sb,sv⟩:=s
     simp only at hs hn hc
     subst hs
     have hC:=hC sv
     generalize hv:AH (Ah k l)=v at*
     cases hh:(Ah k l).isSome with
     |false=>
      rw[hh] at hG
      (have z:=Za oB<|Za oT<|Za oT'<|Za ea<|Za @AO<|Za hf @CA;(try push_cast[z])<;>repeat' (first|apply Zi<;>intro _|refine Zc hG ?_|refine Zc (hc ..) ?_|exact Zo|with_reducible apply Za)<;>try push_cast[z])
      all_goals first|omega|skip
      refine fin _ ?_
      unfold cmS;simp only[Tp,Tr]
      rw[hT2,w1]
      apply Zw<;>push_cast [oB,oT,oT',sP,sL]
     |true=>
      rw[hh] at hG
      cases hm:(HE v sv==0) with
      |true=>exact absurd ⟨hh,hm⟩ hn
      |false=>
       rw[hm] at hC
       (have z:=Za oB<|Za oT<|Za oT'<|Za ea<|Za @AO<|Za hf @CA;(try push_cast[z])<;>repeat' (first|apply Zi<;>intro _|refine Zc hG ?_|refine Zc hC ?_|refine Zc (hc ..) ?_|exact Zo|with_reducible apply Za)<;>try push_cast[z])
       all_goals first|omega|skip
       refine fin _ ?_
       unfold cmS;simp only[Tp,Tr]
       rw[hT2,w1]
       apply Zw<;>push_cast [oB,oT,oT',sP,sL]
    |keep s _ j hf hs hn=>
     obtain⟨sb,sv⟩:=s
     simp only at hs hn
     subst hs
     obtain⟨hh,hm⟩:=hn
     have hC:=hC sv
     generalize hv:AH (Ah k l)=v at*
     rw[hh] at hG
     rw[hm] at hC
     (have z:=Za oB<|Za oT<|Za oT'<|Za ea<|Za @AO<|Za hf @CA;(try push_cast[z])<;>repeat' (first|apply Zi<;>intro _|refine Zc hG ?_|refine Zc hC ?_|exact Zo|with_reducible apply Za)<;>try push_cast[z])
     all_goals first|omega|skip
     refine fin _ ?_
     unfold cmS;simp only[Tp,Tr]
     rw[hT2,w1]
     apply Zw<;>push_cast [oB,oT,oT',sP,sL]
    |del s _ _ j x hf hs hn hc=>
     obtain⟨sb,sv⟩:=s
     simp only at hs hn
     subst hs
     generalize hv:AH (Ah k l)=v at*
     rw[hn] at hG
     (have z:=Za oB<|Za oT<|Za oT'<|Za ea<|Za @AO<|Za hf @CA;(try push_cast[z])<;>repeat' (first|apply Zi<;>intro _|refine Zc hG ?_|refine Zc (hc ..) ?_|exact Zo|with_reducible apply Za)<;>try push_cast[z])
     all_goals first|omega|skip
     refine fin _ ?_
     unfold cmS;simp only[Tp,Tr]
     rw[hT2,w1]
     apply Zw<;>push_cast [oB,oT,oT',sP,sL]
    |none s _ j hf hs hn=>
     obtain⟨sb,sv⟩:=s
     simp only at hs hn
     subst hs
     generalize hv:AH (Ah k l)=v at*
     rw[hn] at hG
     (have z:=Za oB<|Za oT<|Za oT'<|Za ea<|Za @AO<|Za hf @CA;(try push_cast[z])<;>repeat' (first|apply Zi<;>intro _|refine Zc hG ?_|exact Zo|with_reducible apply Za)<;>try push_cast[z])
     all_goals first|omega|skip
     refine fin _ ?_
     unfold cmS;simp only[Tp,Tr]
     rw[hT2,w1]
     apply Zw<;>push_cast [oB,oT,oT',sP,sL]
   ·have hx':i=ks.length:=by
     have:¬(i:Int)<ks.length:=by simpa using hx
     omega
    subst hx'
    (have z:=Za oB oT;(try push_cast[z])<;>repeat' (first|apply Zi<;>intro _|exact Zo|with_reducible apply Za)<;>try push_cast[z])
    apply Zw<;>push_cast [oB,oT]
 ·skip
  refine Zd [] func38 rfl ntmps38 results38 ?_
  (have z:=oB;(try push_cast[z])<;>repeat' (first|apply Zi<;>intro _|refine Zs [(1,2)] hK ?_|refine Zs [(1,2),(3,112)] hS ?_|exact Zo|with_reducible apply Za)<;>try push_cast[z])
  have sP:=EP ks
  have sL:=Rs ks
  refine Zl (fun i=>i<=ks.length) (fun i=>cmS b es ck (some u) ks T i) (fun i=>ks.length-i) 0 (A0t _) ?_ fun i hi=>?_
  ·unfold cmS;simp only[To,Tq]
   rw[h0]
   apply Zw<;>push_cast [oB,A0E,A0b,sP,sL]
  ·unfold cmS;simp only[To,Tq]
   have oT:=A5 (T i)
   have oT':=A5 (T (i+1))
   push_cast[oB,oT]
   refine A6 (fun hx=>?_) (fun hx=>?_)
   ·have hx':i<ks.length:=by simpa using hx
    have hG:=Ro hb (by omega) (ks.getD i default)
    have ea:=Vi hx'
    have hr:=hT i hx'
    have hC:=fun v=>Ft (AH (Ah (ks.getD i default) l)) v
    have w1:IntKind.i64.wrap ((i:Int)+1)=((i+1:Nat):Int):=by rw[A9 (by omega) (by omega)];omega
    generalize ks.getD i default=k at*
    clear hT
    generalize hT1:T i=t at*
    generalize hT2:T (i+1)=t' at*
    have fin:∀ s':St,Ar s' (cmS b es ck (some u) ks T (i+1))->∃ j,j<=ks.length/\ks.length-j<ks.length-i/\Ar s' (cmS b es ck (some u) ks T j):=fun s' h=>⟨i+1,by omega,by omega,h⟩
    cases hr with
    |put s _ _ j hf hs hn hc=>
     obtain⟨sb,sv⟩:=s
     simp only at hs hn hc
     subst hs
     have hC:=hC sv
     generalize hv:AH (Ah k l)=v at*
     cases hh:(Ah k l).isSome with
     |false=>
      rw[hh] at hG
      (have z:=Za oB<|Za oT<|Za oT'<|Za ea<|Za @AO<|Za hf @CA;(try push_cast[z])<;>repeat' (first|apply Zi<;>intro _|refine Zc hG ?_|refine Zc (hc ..) ?_|exact Zo|with_reducible apply Za)<;>try push_cast[z])
      all_goals first|omega|skip
      refine fin _ ?_
      unfold cmS;simp only[To,Tq]
      rw[hT2,w1]
      apply Zw<;>push_cast [oB,oT,oT',sP,sL]
     |true=>
      rw[hh] at hG
      cases hm:(HE v sv==0) with
      |true=>exact absurd ⟨hh,hm⟩ hn
      |false=>
       rw[hm] at hC
       (have z:=Za oB<|Za oT<|Za oT'<|Za ea<|Za @AO<|Za hf @CA;(try push_cast[z])<;>repeat' (first|apply Zi<;>intro _|refine Zc hG ?_|refine Zc hC ?_|refine Zc (hc ..) ?_|exact Zo|with_reducible apply Za)<;>try push_cast[z])
       all_goals first|omega|skip
       refine fin _ ?_
       unfold cmS;simp only[To,Tq]
       rw[hT2,w1]
       apply Zw<;>push_cast [oB,oT,oT',sP,sL]
    |keep s _ j hf hs hn=>
     obtain⟨sb,sv⟩:=s
     simp only at hs hn
     subst hs
     obtain⟨hh,hm⟩:=hn
     have hC:=hC sv
     generalize hv:AH (Ah k l)=v at*
     rw[hh] at hG
     rw[hm] at hC
     (have z:=Za oB<|Za oT<|Za oT'<|Za ea<|Za @AO<|Za hf @CA;(try push_cast[z])<;>repeat' (first|apply Zi<;>intro _|refine Zc hG ?_|refine Zc hC ?_|exact Zo|with_reducible apply Za)<;>try push_cast[z])
     all_goals first|omega|skip
     refine fin _ ?_
     unfold cmS;simp only[To,Tq]
     rw[hT2,w1]
     apply Zw<;>push_cast [oB,oT,oT',sP,sL]
    |del s _ _ j x hf hs hn hc=>
     obtain⟨sb,sv⟩:=s
     simp only at hs hn
     subst hs
     generalize hv:AH (Ah k l)=v at*
     rw[hn] at hG
     (have z:=Za oB<|Za oT<|Za oT'<|Za ea<|Za @AO<|Za hf @CA;(try push_cast[z])<;>repeat' (first|apply Zi<;>intro _|refine Zc hG ?_|refine Zc (hc ..) ?_|exact Zo|with_reducible apply Za)<;>try push_cast[z])
     all_goals first|omega|skip
     refine fin _ ?_
     unfold cmS;simp only[To,Tq]
     rw[hT2,w1]
     apply Zw<;>push_cast [oB,oT,oT',sP,sL]
    |none s _ j hf hs hn=>
     obtain⟨sb,sv⟩:=s
     simp only at hs hn
     subst hs
     generalize hv:AH (Ah k l)=v at*
     rw[hn] at hG
     (have z:=Za oB<|Za oT<|Za oT'<|Za ea<|Za @AO<|Za hf @CA;(try push_cast[z])<;>repeat' (first|apply Zi<;>intro _|refine Zc hG ?_|exact Zo|with_reducible apply Za)<;>try push_cast[z])
     all_goals first|omega|skip
     refine fin _ ?_
     unfold cmS;simp only[To,Tq]
     rw[hT2,w1]
     apply Zw<;>push_cast [oB,oT,oT',sP,sL]
   ·have hx':i=ks.length:=by
     have:¬(i:Int)<ks.length:=by simpa using hx
     omega
    subst hx'
    (have z:=Za oB oT;(try push_cast[z])<;>repeat' (first|apply Zi<;>intro _|exact Zo|with_reducible apply Za)<;>try push_cast[z])
    apply Zw<;>push_cast [oB,oT]
theorem GG{α:Type}(Q:Nat->α->Prop)(R:Nat->α->α->Prop)(a0:α)(h0:Q 0 a0)(hs:∀ i a,Q i a->∃ b,Q (i+1) b/\R i a b):∃ f:Nat->α,f 0=a0/\∀ i,Q i (f i)/\R i (f i) (f (i+1)):=by
 let g:(i:Nat)-> {a//Q i a}:=fun i=>Nat.rec ⟨a0,h0⟩ (fun i p=>⟨Classical.choose (hs i p.1 p.2),(Classical.choose_spec (hs i p.1 p.2)).1⟩) i
 exact⟨fun i=>(g i).1,rfl,fun i=>⟨(g i).2,(Classical.choose_spec (hs i (g i).1 (g i).2)).2⟩⟩
noncomputable def EB(es:List CE)(l a:List GE)(k:ByteArray):List GE:=
 match lk es k with
 |some s=>if s.1 then(if(Ah k l).isSome&&(HE (AH (Ah k l)) s.2==0) then a else AU (k,s.2) a) else BE k a
 |none=>a
theorem We{es:List CE}{l a:List GE}{k:ByteArray}(h:Srt a):Srt (EB es l a k):=by
 unfold EB
 split
 ·split
  ·split
   ·exact h
   ·exact Ek h
  ·exact Hk h
 ·exact h
theorem Wg(es:List CE)(l a:List GE)(k:ByteArray):(EB es l a k).length<=a.length+1:=by
 unfold EB
 split
 ·split
  ·split
   ·omega
   ·exact(CY _ _).1
  ·have:(BE k a).length<=a.length:=A0Y ..
   omega
 ·omega
def Rf(es:List CE)(l:List GE):Prop:=∀ k v w,lk es k=some (true,v)->Ah k l=some w->HE w v=0->w=v
theorem Uq{es:List CE}{l a:List GE}{k:ByteArray}(hS:Rf es l)(ha:Ah k a=Ah k l)(k':ByteArray):Ah k' (EB es l a k)=if k=k' then(match lk es k with|some s=>LL s|none=>Ah k l) else Ah k' a:=by
 unfold EB
 cases hk:lk es k with
 |none=>
  simp only
  by_cases h:k=k'
  ·subst h;rw[if_pos rfl,ha]
  ·rw[if_neg h]
 |some s=>
  obtain⟨sb,sv⟩:=s
  cases sb with
  |false=>
   simp only[A0q,if_false]
   rw[ET]
   by_cases h:k=k'
   ·subst h;simp[LL]
   ·simp[h]
  |true=>
   simp only[if_true]
   split
   ·rename_i hc
    simp only[A0c] at hc
    by_cases h:k=k'
    ·subst h
     rw[if_pos rfl,ha]
     obtain⟨w,hw⟩:=Option.isSome_iff_exists.1 hc.1
     rw[hw]
     have h2:=hc.2
     rw[hw] at h2
     have:=hS k sv w hk hw (by simpa[AH] using h2)
     rw[this];rfl
    ·rw[if_neg h]
   ·rw[EU]
    by_cases h:k=k'
    ·subst h;simp[LL]
    ·simp[h]
theorem LW{es:List CE}{l:List GE}(hS:Rf es l):∀ (ks:List ByteArray) (a:List GE),ks.Nodup->(∀ k ∈ ks,Ah k a=Ah k l)->∀ k',(k' ∈ ks->Ah k' (ks.foldl (EB es l) a)=match lk es k' with|some s=>LL s|none=>Ah k' l)/\(k' ∉ ks->Ah k' (ks.foldl (EB es l) a)=Ah k' a)
 |[],a,_,_,k'=>⟨fun h=>absurd h A1i,fun _=>rfl⟩
 |k::ks,a,hn,ha,k'=>by
  rw[A1h] at hn
  have h1:=Uq hS (ha k (A0C ..))
  have ih:=LW hS ks (EB es l a k) hn.2 (fun x hx=>by rw[h1 x,if_neg (fun e:k=x=>hn.1 (by rw[e];exact hx)),ha x (A0l _ hx)]) k'
  rw[A0y]
  refine⟨fun h=>?_,fun h=>?_⟩
  ·by_cases h2:k' ∈ ks
   ·exact ih.1 h2
   ·rw[ih.2 h2,h1 k']
    rcases A0o.1 h with rfl|h
    ·rw[if_pos rfl]
    ·exact absurd h h2
  ·rw[ih.2 (fun h2=>h (A0l _ h2)),h1 k',if_neg (fun e:k=k'=>h (by rw[e];exact A0C ..))]
theorem SC{es:List CE}{l:List GE}:∀ (ks:List ByteArray) {a:List GE},Srt a->Srt (ks.foldl (EB es l) a)
 |[],_,h=>h
 |k::ks,_,h=>SC ks (We h)
theorem SD(es:List CE)(l:List GE):∀ (ks:List ByteArray) (a:List GE),(ks.foldl (EB es l) a).length<=a.length+ks.length
 |[],_=>by simp
 |k::ks,a=>by
  have h1:=SD es l ks (EB es l a k)
  have h2:=Wg es l a k
  simp only[A0y,A0g]
  omega
theorem Ju(ks:List ByteArray):(Au ks).Perm ks:=by
 have h1:=(List.mergeSort_perm (ks.map (·.data.toList)) (fun x y=>decide (x<=y))).map (fun l:List UInt8=>(⟨l.toArray⟩:ByteArray))
 rw[A1o] at h1
 have h2:(ks.map ((fun l:List UInt8=>(⟨l.toArray⟩:ByteArray)) ∘ fun k=>k.data.toList))=ks:=by
  rw[A1p (g:=id) (fun k _=>by simp),List.map_id]
 rw[h2] at h1
 exact h1
theorem Xk(o:OV)(l:List GE)(h:XT o l)(hl:l.length+o.es.length<=1048576)(hS:Rf o.es l):∃ t',DF t' (o.view l)/\A4 prog 38 [.ref 1 0 0 3] (ovH o) (Be t') (ovH o):=by
 obtain⟨b,c,u⟩:=o
 obtain⟨hb,hch⟩:=h
 cases c with
 |none=>exact ⟨b,hb,XI b u⟩
 |some c=>
  obtain⟨es,ck⟩:=c
  simp only[OV.es,OV.ck,A0D,OV.view] at*
  have hp:=Ju (es.map (·.1))
  have hlen:(Au (es.map (·.1))).length=es.length:=by rw[hp.length_eq,A0b]
  have hnd:(Au (es.map (·.1))).Nodup:=hp.nodup_iff.2 hch.keys
  have hmem:∀ k,k ∈ Au (es.map (·.1))↔k ∈ es.map (·.1):=fun k=>hp.mem_iff
  obtain⟨T,hT0,hT⟩:=GG (fun i t=>DF t (((Au (es.map (·.1))).take i).foldl (EB es l) l)) (fun i t t'=>i<es.length->J6 es l ((Au (es.map (·.1))).getD i default) t t') b (by simpa using hb) (fun i t ht=>by
   rcases A0v i es.length with hi|hi
   ·have hi':i<(Au (es.map (·.1))).length:=by omega
    have hk:(Au (es.map (·.1))).getD i default=(Au (es.map (·.1)))[i]:=by rw[A03,A06 hi'];rfl
    have htk:(Au (es.map (·.1))).take (i+1)=(Au (es.map (·.1))).take i++[(Au (es.map (·.1)))[i]]:=by rw[A20,A06 hi'];rfl
    have hkm:(Au (es.map (·.1)))[i] ∈ es.map (·.1):=(hmem _).1 (A18 hi')
    have hkn:(Au (es.map (·.1)))[i] ∉ (Au (es.map (·.1))).take i:=fun hm=>by
     have h2:=hnd
     rw[<-A0R (i+1) (Au (es.map (·.1))),htk,List.nodup_append] at h2
     have h3:=h2.1
     rw[List.nodup_append] at h3
     exact h3.2.2 _ hm _ (A0d.2 rfl) rfl
    have hga:=LW hS ((Au (es.map (·.1))).take i) l (List.Sublist.nodup (List.take_sublist ..) hnd) (fun _ _=>rfl) (Au (es.map (·.1)))[i]
    have hga:=hga.2 hkn
    have hle:=SD es l ((Au (es.map (·.1))).take i) l
    rw[A0s] at hle
    rw[hk,htk,A1Z,A0y,A1c]
    generalize((Au (es.map (·.1))).take i).foldl (EB es l) l=a at*
    generalize(Au (es.map (·.1)))[i]=k at*
    obtain⟨s,hs⟩:∃ s,lk es k=some s:=by
     cases hlk:lk es k with
     |none=>exact absurd hkm (lk_key hlk)
     |some s=>exact ⟨s,rfl⟩
    obtain⟨j,hf⟩:∃ j,BQ k es 0=some (j,s):=by
     have:=G5 k es 0
     rw[hs] at this
     cases hc:BQ k es 0 with
     |none=>rw [hc] at this;cases this
     |some p=>rw [hc] at this;obtain⟨j,s'⟩:=p;simp only[A0U,A04] at this;exact⟨j,by rw[this]⟩
    have hsm:=hch.sm
    obtain⟨n,hmm⟩:=Uk hs
    have hsm:=hsm _ hmm
    unfold EB
    rw[hs]
    simp only
    cases hb1:s.1 with
    |true=>
     simp only[if_true]
     split
     ·rename_i hc
      simp only[A0c] at hc
      exact⟨t,ht,fun _=>.keep s t j hf hb1 hc⟩
     ·rename_i hc
      obtain⟨t',hp,ht'⟩:=Y0 ht (by omega) k s.2 hsm.1
      exact⟨t',ht',fun _=>.put s t t' j hf hb1 (fun hn=>hc (by simp only[A0c];exact hn)) hp⟩
    |false=>
     simp only[A0q,if_false]
     cases hg:(Ah k l).isSome with
     |true=>
      obtain⟨t',hp,ht'⟩:=Y1 ht (by omega) k
      exact⟨t',ht',fun _=>.del s t t' j _ hf hb1 hg hp⟩
     |false=>
      rw[KG (by rw[F9,hga,hg])]
      exact⟨t,ht,fun _=>.none s t j hf hb1 hg⟩
   ·rw[A0f (by omega)]
    rw[A0f (by omega)] at ht
    exact⟨t,ht,fun hi'=>absurd hi' (by omega)⟩)
  refine⟨T es.length,?_,XH u b es ck l (by omega) hb hch (by omega) T hT0 fun i hi=>(hT i).2 hi⟩
  have hfin:=(hT es.length).1
  rw[A0f (by omega)] at hfin
  have:(Au (es.map (·.1))).foldl (EB es l) l=FI es l:=LQ (SC _ hb.srt) (Da es hb.srt) fun k=>by
   rw[Cz k es l hch.keys]
   by_cases hk:k ∈ Au (es.map (·.1))
   ·exact(LW hS _ l hnd (fun _ _=>rfl) k).1 hk
   ·rw[(LW hS _ l hnd (fun _ _=>rfl) k).2 hk,Qm (fun hm=>hk ((hmem k).2 hm))]
  rw[this] at hfin
  exact hfin
def rw1(p:List CE×Nat)(u:Bt):List CE×Nat:=if u.was then JG p.1 p.2 u.k u.old else(UH p.1 u.k,p.2)
def rwd(p:List CE×Nat)(us:List Bt):List CE×Nat:=us.reverse.foldl rw1 p
def NJ:Option Bt->D
 |some u=>Bj u
 |none=>.val .nilFunc
abbrev EA(l:List (Option Bt)):List (List D):=l.map fun o=>[NJ o]
theorem Mn(r:Nat->Nat)(h:r 1=1)(o:Option Bt):B3 r (NJ o)=NJ o:=by
 cases o with
 |none=>rfl
 |some u=>exact KF r h u
theorem P8(n:Nat)(o:Option Bt):ltD n (NJ o)=true:=by
 cases o with
 |none=>rfl
 |some u=>exact MI n u
theorem RJ(r:Nat->Nat)(h:r 1=1)(l:List (Option Bt)):DB r (EA l)=EA l:=by
 rw[Ei,A1o]
 refine A1p fun u _=>?_
 simp only[Function.comp,Ca,Mn r h]
theorem MH(n:Nat):∀ l:List (Option Bt),EJ n (EA l)=true
 |[]=>rfl
 |u::l=>by
  have:=MH n l
  simp only[EA,A0k,EJ,ltL,P8,Bool.true_and,A22] at this|-
  exact this
attribute [push_cast] Mn P8 RJ MH
def EC(us:List Bt)(j:Nat):List (Option Bt):=(us.take j).map some++List.replicate (us.length-j) none
theorem EL(us:List Bt)(j:Nat):(EC us j).length=us.length:=by
 simp only[EC,A08,A0b,A0s,A1s];omega
theorem X0(us:List Bt):EA (EC us us.length)=us.map fun u=>[Bj u]:=by
 simp only[EC,A0Q,Nat.sub_self,List.replicate_zero,A0E,EA,A1o]
 rfl
theorem WZ(us:List Bt){j:Nat}(h:j<us.length):(EC us (j+1))[j]? =some (some us[j]):=by
 unfold EC
 rw[A0x (by simp;omega),A0A,A0z (by omega),A06 h]
 rfl
theorem WY(us:List Bt){j:Nat}(h:j<us.length):(EC us (j+1)).set j none=EC us j:=by
 apply A1z
 intro i
 rw[List.getElem?_set]
 by_cases hi:j=i
 ·subst hi
  rw[if_pos rfl,if_pos (by rw[EL];exact h)]
  unfold EC
  rw[A0r (by simp only[A0b,A0s];omega),A1D,if_pos (by simp only[A0b,A0s];omega)]
 ·rw[if_neg hi]
  unfold EC
  by_cases h1:i<j
  ·rw[A0x (by simp;omega),A0x (by simp;omega),A0A,A0A,A0z (by omega),A0z h1]
  ·rw[A0r (by simp;omega),A0r (by simp;omega),A1D,A1D]
   simp only[A0b,A0s]
   by_cases h2:i<us.length
   ·rw[if_pos (by omega),if_pos (by omega)]
   ·rw[if_neg (by omega),if_neg (by omega)]
theorem Yi(p:List CE×Nat)(us:List Bt){i:Nat}(h:i<us.length):rwd p (us.drop i)=rw1 (rwd p (us.drop (i+1))) us[i]:=by
 unfold rwd
 rw[List.drop_eq_getElem_cons h,A1y,A1Z]
 rfl
theorem Wi(l:List (Option Bt))(i:Nat):(EA l).set i [.val .nilFunc]=EA (l.set i none):=by
 simp only[EA,A1I];rfl
theorem Su(b c n:Nat)(t:GT):grG b c n (Ag t)=Ag t:=by
 rcases Dd t with h|⟨cs,h⟩<;>rw [h]<;>rfl
theorem grG_encC(b c n:Nat)(es:List CE):(es.map Ck).map (fun p=>(p.1,p.2.1,grG b c n p.2.2))=es.map Ck:=by
 rw[A1o]
 exact A1p fun e _=>rfl
theorem Tv(us:List Bt){m:Nat}(h:m<=us.length):(EA (EC us m)).take m=(us.take m).map fun u=>[Bj u]:=by
 simp only[EA,EC]
 rw[<-A1J,A1x (by simp only[A0b,A0s];omega),A0f (by simp only[A0b,A0s];omega),A1o]
 rfl
theorem c_undo'(b:GT)(p:List CE×Nat)(l:List (Option Bt))(u:Bt):A4 prog 159
  [.ptr [.val (.bool u.was)] 0,.ptr (CB u.old) 0,.ptr [.ref 1 0 0 3] 0,.ptr [.val (.string u.k)] 0] [(1,.rows [[Ag b,.mref 2,.gref 4 l.length]] 3),(2,.map (p.1.map Ck) p.2),(4,.grow (EA l) 1)] (.tup [])
  [(1,.rows [[Ag b,.mref 2,.gref 4 l.length]] 3),(2,.map ((rw1 p u).1.map Ck) (rw1 p u).2),(4,.grow (EA l) 1)]:=by
 obtain⟨k,was,old⟩:=u
 obtain⟨es,ck⟩:=p
 unfold rw1 JG UH
 simp only
 cases hf:BQ k es 0 with
 |none=>
  refine Zd [] func159 rfl ntmps159 results159 ?_
  (have z:=Za @AO<|Za hf @KK;(try push_cast[z])<;>repeat' (first|apply Zi<;>intro _|exact Zo|with_reducible apply Za)<;>try push_cast[z])
  all_goals(rename_i h;subst h;simp only[if_true,if_false,A0q])
  ·apply Zw<;>push_cast
  ·apply Zw<;>push_cast
 |some p=>
  obtain⟨i,s⟩:=p
  refine Zd [] func159 rfl ntmps159 results159 ?_
  (have z:=Za @AO<|Za hf<|Za @Jv @Uw;(try push_cast[z])<;>repeat' (first|apply Zi<;>intro _|exact Zo|with_reducible apply Za)<;>try push_cast[z])
  all_goals(rename_i h;subst h;simp only[if_true,if_false,A0q])
  ·apply Zw<;>push_cast
  ·apply Zw<;>push_cast
theorem ZD{l:List (Option Bt)}{i:Nat}{o:Option Bt}(h:l[i]? =some o):nr (EA l) i=[NJ o]:=by
 simp only[nr,A03,A0A,h,A0U,A0D]
theorem Tn(u:Bt):NJ (some u)=.func (.func 159) [] [.ptr [.val (.bool u.was)] 0,.ptr (CB u.old) 0,.ptr [.ref 1 0 0 3] 0,.ptr [.val (.string u.k)] 0]:=rfl
abbrev bkS(b:GT)(p:List CE×Nat)(us:List Bt)(m j:Nat):St:=⟨[(5,.val (.int .i64 ((j:Int)-1))),(1,.val (.int .i64 m)),(0,.ref 1 0 0 3)],[(1,.rows [[Ag b,.mref 2,.gref 4 (EC us j).length]] 3),(2,.map ((rwd p (us.drop j)).1.map Ck) (rwd p (us.drop j)).2),(4,.grow (EA (EC us j)) 1)],88⟩
theorem c_Back(b:GT)(p:List CE×Nat)(us:List Bt)(m:Nat)(hm:m<=us.length)(hn:us.length<=1073741824):A4 prog 76 [.ref 1 0 0 3,.val (.int .i64 m)] (ovH ⟨b,some p,some us⟩) (.val (.int .i64 0)) (ovH ⟨b,some (rwd p (us.drop m)),some (us.take m)⟩):=by
 have oB:=A5 b
 have w1:IntKind.i64.wrap ((us.length:Int)-1)=(us.length:Int)-1:=by rw[A9 (by omega) (by omega)]
 have b1:decide ((m:Int)<0)=false:=decide_eq_false (by omega)
 have b2:decide ((us.length:Int)<(m:Int))=false:=decide_eq_false (by omega)
 obtain⟨es,ck⟩:=p
 have hE:rwd (es,ck) (us.drop m)=((rwd (es,ck) (us.drop m)).1,(rwd (es,ck) (us.drop m)).2):=rfl
 rw[hE]
 simp only[Dw]
 refine Zd [] func76 rfl ntmps76 results76 ?_
 (have z:=Za oB<|Za b1<|Za b2 w1;(try push_cast[z])<;>repeat' (first|apply Zi<;>intro _|exact Zo|with_reducible apply Za)<;>try push_cast[z])
 all_goals first|omega|skip
 refine Zl (fun j=>m<=j/\j<=us.length) (fun j=>bkS b (es,ck) us m j) (fun j=>j) us.length ⟨hm,A0e _⟩ ?_ fun j hj=>?_
 ·unfold bkS
  rw[EL,X0,List.drop_length,show rwd (es,ck) []=(es,ck) from rfl]
  apply Zw<;>push_cast [oB]
 ·have lL:=EL us j
  unfold bkS
  push_cast[oB]
  refine A6 (fun hx=>?_) (fun hx=>?_)
  ·have hx':m<j:=by
    have:(m:Int)<=(j:Int)-1:=by simpa using hx
    omega
   obtain⟨i,rfl⟩:∃ i,j=i+1:=⟨j-1,by omega⟩
   have e1:((i+1:Nat):Int)-1=(i:Int):=by omega
   rw[e1]
   have hi:i<us.length:=by omega
   have hu:=WZ us hi
   have ea:=ZD hu
   have hc:=c_undo' b (rwd (es,ck) (us.drop (i+1))) (EC us (i+1)) us[i]
   have hr:=Yi (es,ck) us hi
   have hs:=Wi (EC us (i+1)) i
   rw[WY us hi] at hs
   have lL':=EL us i
   have w2:IntKind.i64.wrap ((i:Int)-1)=(i:Int)-1:=by rw[A9 (by omega) (by omega)]
   (have z:=Za oB<|Za ea<|Za @Tn lL;(try push_cast[z])<;>repeat' (first|apply Zi<;>intro _|refine Zt [(1,1),(2,2),(4,4)] (hc ..) ?_|exact Zo|with_reducible apply Za)<;>try push_cast[z])
   all_goals first|omega|skip
   refine⟨i,⟨by omega,by omega⟩,by omega,?_⟩
   rw[hr,w2]
   apply Zr [(2,258),(4,260)] rfl<;>push_cast [hs,lL,lL',oB]
  ·have hx':j=m:=by
    have:¬(m:Int)<=(j:Int)-1:=by simpa using hx
    omega
   subst hx'
   (have z:=oB;(try push_cast[z])<;>repeat' (first|apply Zi<;>intro _|exact Zo|with_reducible apply Za)<;>try push_cast[z])
   all_goals first|omega|skip
   refine Ar.trans (Ar.cut (b:=4) j rfl ?_) ?_
   ·simp only[EA,A0b,lL];omega
   ·have ht:=Tv us (m:=j) (by omega)
    rw[ht]
    have g1:=Su 4 288 j b
    have g2:=grG_encC 4 288 j (rwd (es,ck) (us.drop j)).1
    generalize(rwd (es,ck) (us.drop j)).2=ck' at*
    generalize(rwd (es,ck) (us.drop j)).1=es' at*
    generalize hE':es'.map Ck=E' at*
    simp only[grG] at g1 g2
    push_cast[g1,g2]
    rw[<-hE']
    apply Zr [(4,288)] rfl<;>push_cast [A0s,Nat.min_eq_left (show j<=us.length by omega),A0b]
theorem XJ:A3 prog 92 [.slice [] false] (.slice [] false):=by
 refine Zf [] func92 rfl ntmps92 results92 ?_
 ((try push_cast)<;>repeat' (first|apply Zi<;>intro _|exact Zp|with_reducible apply Za)<;>try push_cast)
 all_goals simp
theorem VT(t:GT)(hk0:t.kids=[]):A3 prog 57 [Ag t] (.slice [] false):=by
 cases t with
 |nil=>
  rw[At]
  refine Zf [] func57 rfl ntmps57 results57 ?_
  ((try push_cast)<;>repeat' (first|apply Zi<;>intro _|exact Zp|with_reducible apply Za)<;>try push_cast)
  all_goals simp
 |node e k hh c f l th=>
  simp only[GT.kids] at hk0
  subst hk0
  rw[AZ]
  refine Zf [] func57 rfl ntmps57 results57 ?_
  (have z:=trivial;(try push_cast)<;>repeat' (first|apply Zi<;>intro _|refine Zc (XJ ..) ?_|exact Zp|with_reducible apply Za)<;>try push_cast)
theorem LT{n:Nat}:∀ y:List D,y ∈ []->y.length=n:=fun _ h=>absurd h A1i
theorem LS:∀ y:List D,y ∈ []->∀ d:D,d ∈ y->BF d=true:=fun _ h=>absurd h A1i
abbrev Eg(A l:List GE)(t:GT):Prop:=
  A4 prog 39 [.gref 1 A.length,Ag t] [(1,.grow (A.map Ac) 7)] (.gref 0 (A++l).length) [(0,.grow ((A++l).map Ac) 7)]
theorem XA(A:List GE)(t:GT)(hk0:t.kids=[])(hl:t.es≠[])(h8:t.es.length<=8)(hs:∀ e ∈ t.es,Sm e.2)(hA:A.length<=1048576):Eg A t.es t:=by
 have hE:=DE t hl (by omega) hs
 have oT:=A5 t
 have tk:List.take t.es.length (List.map Ac t.es)=List.map Ac t.es:=A0f (by simp)
 have hK:=VT t hk0
 have e1:(A.map Ac++t.es.map Ac)=(A++t.es).map Ac:=by simp
 have e2:A.length+t.es.length=(A++t.es).length:=by simp
 have e3:(A++t.es).length<=1048584:=by simp;omega
 unfold Eg
 refine Zd [] func39 rfl ntmps39 results39 ?_
 (have z:=Za tk oT;(try push_cast[z])<;>repeat' (first|apply Zi<;>intro _|refine Zs [] hE ?_|refine Zc hK ?_|exact Zo|with_reducible apply Za)<;>try push_cast[z])
 all_goals first|omega|exact B4 _|exact Cp _|exact LT|exact LS|skip
 rw[e1]
 try rw[e2]
 generalize A++t.es=B at*
 refine AWp.loopI mixed (by kernel_rfl) (ι:=Unit) (fun _=>True) (fun _=>⟨[(14,.val (.int .i64 0)),(13,.val (.int .i64 0)),(12,.slice [] false),(1,Ag t),(0,.gref 40 B.length)],[(40,.grow (B.map Ac) 7)],44⟩) (fun _=>0) () trivial ?_ fun i hi=>?_
 ·apply Zw<;>push_cast [oT,A1b,List.take_zero,A28,A0E,BG]
 ·(have z:=oT;(try push_cast[z])<;>repeat' (first|apply Zi<;>intro _|exact Zo|with_reducible apply Za)<;>try push_cast[z])
  apply Zr [(0,40)] rfl<;>push_cast
theorem Xy(A:List GE)(t:GT)(hk0:t.kids=[])(hl:t.es=[])(hA:A.length<=1048576):Eg A [] t:=by
 have hE:=GU t hl
 have oT:=A5 t
 have hK:=VT t hk0
 unfold Eg
 rw[A0E]
 refine Zd [] func39 rfl ntmps39 results39 ?_
 (have z:=oT;(try push_cast[z])<;>repeat' (first|apply Zi<;>intro _|refine Zc hE ?_|refine Zc hK ?_|exact Zo|with_reducible apply Za)<;>try push_cast[z])
 all_goals first|omega|exact B4 _|exact Cp _|exact LT|exact LS|skip
 refine AWp.loopI mixed (by kernel_rfl) (ι:=Unit) (fun _=>True) (fun _=>⟨[(14,.val (.int .i64 0)),(13,.val (.int .i64 0)),(12,.slice [] false),(1,Ag t),(0,.gref 40 A.length)],[(40,.grow (A.map Ac) 7)],44⟩) (fun _=>0) () trivial ?_ fun i hi=>?_
 ·apply Zw<;>push_cast [oT,A1b,List.take_zero,A28,A0E,BG]
 ·(have z:=oT;(try push_cast[z])<;>repeat' (first|apply Zi<;>intro _|exact Zo|with_reducible apply Za)<;>try push_cast[z])
  apply Zr [(0,40)] rfl<;>push_cast
theorem Xz(A:List GE)(t:GT)(F:GT->List GE)(hl:t.es=[])(h0:0<t.kids.length)(h8:t.kids.length<=8)(hA:(A++t.kids.flatMap F).length<=1048576)
  (hrec:∀ i,i<t.kids.length->Eg (A++(t.kids.take i).flatMap F) (F (t.kids.getD i .nil)) (t.kids.getD i .nil)):Eg A (t.kids.flatMap F) t:=by
 have hE:=GU t hl
 have oT:=A5 t
 have hK:=Ev t h0 (by omega)
 have hA':A.length<=1048576:=by simp at hA;omega
 unfold Eg at hrec|-
 refine Zd [] func39 rfl ntmps39 results39 ?_
 (have z:=oT;(try push_cast[z])<;>repeat' (first|apply Zi<;>intro _|refine Zc hE ?_|refine Zs [] hK ?_|exact Zo|with_reducible apply Za)<;>try push_cast[z])
 all_goals first|omega|exact B4 _|exact Cp _|exact LT|exact LS|skip
 refine Zl (fun i=>i<=t.kids.length) (fun i=>⟨[(14,.val (.int .i64 i)),(13,.val (.int .i64 t.kids.length)),(12,.gref 64 t.kids.length),(1,Ag t),(0,.gref 40 (A++(t.kids.take i).flatMap F).length)],[(40,.grow ((A++(t.kids.take i).flatMap F).map Ac) 7),(64,.grow (t.kids.map Ak) 1)],44⟩) (fun i=>t.kids.length-i) 0 (by simp) ?_ fun i hi=>?_
 ·apply Zw<;>push_cast [oT,A1b,List.take_zero,A28,A0E,BG]
 ·push_cast[oT]
  refine A6 (fun hb=>?_) (fun hb=>?_)
  ·have hb':i<t.kids.length:=by simpa using hb
   have hr:=hrec i hb'
   have ea:=B9 (l:=t.kids) (i:=i) hb'
   have e3:A++(t.kids.take i).flatMap F++F (t.kids.getD i .nil)=A++(t.kids.take (i+1)).flatMap F:=by
    rw[A20,A0u,A05,A03,A06 hb']
    simp
   rw[e3] at hr
   (have z:=Za oT<|Za ea @Ak.eq_1;(try push_cast[z])<;>repeat' (first|apply Zi<;>intro _|refine Zs [(1,40)] (hr ..) ?_|exact Zo|with_reducible apply Za)<;>try push_cast[z])
   all_goals first|omega|skip
   refine⟨i+1,by omega,by omega,?_⟩
   have w1:IntKind.i64.wrap ((i:Int)+1)=((i+1:Nat):Int):=by rw[A9 (by omega) (by omega)];omega
   rw[w1]
   apply Zr [(40,136)] rfl<;>push_cast
  ·have hb':i=t.kids.length:=by
    have:¬(i:Int)<t.kids.length:=by simpa using hb
    omega
   subst hb'
   rw[A0Q]
   (have z:=oT;(try push_cast[z])<;>repeat' (first|apply Zi<;>intro _|exact Zo|with_reducible apply Za)<;>try push_cast[z])
   apply Zr [(0,40)] rfl<;>push_cast
theorem Ph:∀ (h:Nat) (t:GT) (A:List GE),Wf h t->(A++A8 h t).length<=1048576->Eg A (A8 h t) t
 |0,t,A,hw,hb=>by
  obtain⟨l,rfl,ho,hn⟩:=hw
  have hA:A.length<=1048576:=by simp at hb;omega
  exact XA A (AC l) rfl hn ho.hl ho.hs hA
 |h+1,t,A,hw,hb=>by
  obtain⟨l,rfl,h2,h8,hk,hs⟩:=hw
  have hkids:(AF l).kids=l:=rfl
  have hfl:A8 (h+1) (AF l)=l.flatMap (A8 h):=rfl
  rw[hfl] at hb|-
  refine Xz A (AF l) (A8 h) rfl (by rw[hkids];omega) h8 hb fun i hi=>?_
  rw[hkids] at hi|-
  have hm:=Ad (d:=GT.nil) hi
  refine Ph h _ _ (hk _ hm).1 ?_
  have e3:A++(l.take i).flatMap (A8 h)++A8 h (l.getD i .nil)=A++(l.take (i+1)).flatMap (A8 h):=by
   rw[A20,A0u,A05,A03,A06 hi]
   simp
  have e4:l.flatMap (A8 h)=(l.take (i+1)).flatMap (A8 h)++(l.drop (i+1)).flatMap (A8 h):=by rw[<-A0u,A0R]
  rw[e3]
  rw[e4] at hb
  simp only[A08] at hb|-
  omega
theorem c_TLen(t:GT):A3 prog 40 [Be t] (.val (.int .i64 t.count)):=by
 have hC:=LZ t
 have oT:=A5 t
 refine Zf [] func40 rfl ntmps40 results40 ?_
 (have z:=oT;(try push_cast[z])<;>repeat' (first|apply Zi<;>intro _|refine Zc hC ?_|exact Zo|with_reducible apply Za)<;>try push_cast[z])
theorem z7_pure(n:Nat):Am (List.replicate n [.val (.string ByteArray.empty),.val (.int .i64 0),.val (.bool false),.val (.int .i64 0),.val (.string ByteArray.empty),.slice [] true,.slice [] true])=true:=by
 induction n with
 |zero=>rfl
 |succ n ih=>simp only[List.replicate_succ,Am,ih];rfl
theorem Nt(t:GT)(l:List GE)(ht:DF t l)(hb:l.length<=1048576):A4 prog 25 [Be t] [] (.gref 0 l.length) [(0,.grow (l.map Ac) 7)]:=by
 have hC:=c_TLen t
 rw[ht.count] at hC
 have oT:=A5 t
 have hg:Eg [] l t:=by
  rcases ht with⟨rfl,rfl⟩|⟨h,hw,rfl⟩
  ·exact Xy [] .nil rfl rfl (by simp)
  ·exact Ph h t [] hw (by simpa using hb)
 unfold Eg at hg
 rw[A09,A0i,A0S] at hg
 have oL:Am (l.map Ac)=true:=A7 l
 have hz:=z7_pure l.length
 have hlR:(List.replicate l.length [D.val (.string ByteArray.empty),D.val (.int .i64 0),D.val (.bool false),D.val (.int .i64 0),D.val (.string ByteArray.empty),D.slice [] true,D.slice [] true]).length=l.length:=A1s
 have hs:=A4.sref_grow (es:=List.replicate l.length [D.val (.string ByteArray.empty),D.val (.int .i64 0),D.val (.bool false),D.val (.int .i64 0),D.val (.string ByteArray.empty),D.slice [] true,D.slice [] true]) hg (by simp[Av,oT]) hz oL (A0t _) (by rw[hlR];omega)
 rw[hlR] at hs
 refine Zd [] func25 rfl ntmps25 results25 ?_
 (have z:=Za oT<|Za hz @BG;(try push_cast[z])<;>repeat' (first|apply Zi<;>intro _|refine Zc hC ?_|refine Zs [(1,40)] (hs ..) ?_|exact Zo|with_reducible apply Za)<;>try push_cast[z])
 all_goals first|omega|skip
 apply Zr [(0,64)] rfl<;>push_cast
end Go.Ab
namespace Go.Ab
open Go.RowKit
theorem Ar.nilgrowE{t:Nat}{env:Env}{hp:Hp}{nx:Nat}(sz:Nat):Ar ⟨(t,.slice [] true)::env,hp,nx⟩ ⟨(t,.gref (2*nx) 0)::env,(2*nx,.grow [] sz)::hp,nx+1⟩:=by
 intro w0 M0 I0 nt I mu a w r
 have hnone:mu (2*nx)=none:=r.w.fresh _ ⟨by show 2*nx%2=0;omega,A0e _⟩
 have hv:=r.env t
 have e1:(⟨(t,.slice [] true)::env,hp,nx⟩:St).fs.env t=.slice [] true:=by simp[St.fs,Env.get]
 rw[e1] at hv
 obtain⟨A,hA0⟩:∃ A,a.tmps.getD t undef=.slice A 0 0:=by
  generalize a.tmps.getD t undef=v at hv
  cases hv with
  |slice _ _ A k o sz' cap u hA hc ht hm hlen hcell h=>exact ⟨A,by rw[ht rfl];rfl⟩
 have hmm:=BO (v:=.slice A 0 0) hnone
 have hlk:∀ c z,Ai ((2*nx,Blk.grow [] sz)::hp) c=some z->(c=2*nx/\z=.grow [] sz)∨(c≠2*nx/\Ai hp c=some z):=by
  intro c z h
  simp only[Ai] at h
  by_cases hc:2*nx=c
  ·have:(2*nx==c)=true:=by simp[hc]
   rw[this,cond_true] at h
   exact .inl ⟨hc.symm,(Option.some.inj h).symm⟩
  ·have:(2*nx==c)=false:=by simp[hc]
   rw[this,cond_false] at h
   exact .inr ⟨fun h=>hc h.symm,h⟩
 have hno:∀ j,Ap (.slice A 0 0)≠some j:=by intro j;cases A<;>simp [Ap]
 have hmu:∀ c,c≠2*nx->AN mu (2*nx) (.slice A 0 0) c=mu c:=fun c hc=>by simp[AN,hc]
 refine⟨I,AN mu (2*nx) (.slice A 0 0),r.size,r.defers,fun t'=>?_,⟨fun c z h=>?_,fun c z v j h hv hj=>?_,fun c c' z z' v v' j h h' hv hv' hj hj'=>?_,fun c hc=>?_,r.w.lt,r.w.os,r.w.tape,r.w.output,r.w.grown,r.w.old,r.w.iold,r.w.inew,fun c v hc hn=>hmm c v (r.w.keep c v hc hn),fun c z h hc=>?_⟩⟩
 ·by_cases htt:t=t'
  ·subst htt
   have e2:(⟨(t,.gref (2*nx) 0)::env,(2*nx,Blk.grow [] sz)::hp,nx+1⟩:St).fs.env t=.gref (2*nx) 0:=by simp[St.fs,Env.get]
   rw[e2]
   rw[hA0]
   exact .gref _ 0 A 0 (by simp[AN])
  ·have e2:(⟨(t,.gref (2*nx) 0)::env,(2*nx,Blk.grow [] sz)::hp,nx+1⟩:St).fs.env t'=(⟨(t,.slice [] true)::env,hp,nx⟩:St).fs.env t':=by
    have:(t==t')=false:=by simp[htt]
    simp[St.fs,Env.get,this]
   rw[e2];exact(r.env t').mono (fun _ _=>rfl) (fun _ h=>h) hmm
 ·rcases hlk c z h with⟨rfl,rfl⟩|⟨h1,h2⟩
  ·exact⟨A,0,0,[],by simp[AN],fun i hi=>by simp at hi,A0t _,.inl ⟨rfl,rfl⟩⟩
  ·exact(r.w.blk c z h2).mono (fun _ _=>rfl) (fun _ h=>h) hmm (fun _ _ _ _=>rfl)
 ·rcases hlk c z h with⟨rfl,rfl⟩|⟨h1,h2⟩
  ·simp only[AN,if_true,A04] at hv
   subst hv
   exact(hno j hj).elim
  ·rw[hmu c h1] at hv;exact r.w.loc c z v j h2 hv hj
 ·rcases hlk c z h with⟨rfl,rfl⟩|⟨h1,h2⟩
  ·simp only[AN,if_true,A04] at hv
   subst hv
   exact(hno j hj).elim
  ·rcases hlk c' z' h' with⟨rfl,rfl⟩|⟨h1',h2'⟩
   ·simp only[AN,if_true,A04] at hv'
    subst hv'
    exact(hno j hj').elim
   ·rw[hmu c h1] at hv
    rw[hmu c' h1'] at hv'
    exact r.w.inj c c' z z' v v' j h2 h2' hv hv' hj hj'
 ·obtain⟨h1,h2⟩:=hc
  have h2':2*(nx+1)<=c:=h2
  rw[hmu c (by omega)]
  exact r.w.fresh c ⟨h1,by show 2*nx<=c;omega⟩
 ·obtain⟨h1,h2⟩:=hc
  have h2':2*(nx+1)<=c:=h2
  rcases hlk c z h with⟨rfl,rfl⟩|⟨h3,h5⟩
  ·omega
  ·exact r.w.used c z h5 ⟨h1,by show 2*nx<=c;omega⟩
theorem Ar.nilgrowN{env:Env}{hp:Hp}{nx b sz:Nat}(xs:List D):Ar ⟨env,(b,.rows [xs++[.slice [] true]] (xs.length+1))::hp,nx⟩ ⟨env,(2*nx,.grow [] sz)::(b,.rows [xs++[.gref (2*nx) 0]] (xs.length+1))::hp,nx+1⟩:=by
 intro w0 M0 I0 nt I mu a w r
 have hnone:mu (2*nx)=none:=r.w.fresh _ ⟨by show 2*nx%2=0;omega,A0e _⟩
 have hbb:(⟨env,(b,.rows [xs++[.slice [] true]] (xs.length+1))::hp,nx⟩:St).fs.hp b=some (.rows [xs++[.slice [] true]] (xs.length+1)):=by simp[St.fs,Ai]
 obtain⟨kb,Tb,usb,b1,b2,b3,b4,b5⟩:=r.w.blk b _ hbb
 have hv:=b5 0 xs.length (by simp) (by omega)
 have hlast:∀ d:D,nd (xs++[d]) xs.length=d:=fun d=>by simp[nd]
 simp only[nr,A0K,hlast] at hv
 obtain⟨A,hA0⟩:∃ A,nv usb (0*(xs.length+1)+xs.length)=.slice A 0 0:=by
  generalize nv usb (0*(xs.length+1)+xs.length)=v at hv
  cases hv with
  |slice _ _ A k o sz' cap u hA hc ht hm hlen hcell h=>exact ⟨A,by rw[ht rfl];rfl⟩
 have hmm:=BO (v:=.slice A 0 0) hnone
 have hbne:b≠2*nx:=fun e=>by rw[e,hnone] at b1;cases b1
 have hlk:∀ c z,Ai ((2*nx,Blk.grow [] sz)::(b,.rows [xs++[.gref (2*nx) 0]] (xs.length+1))::hp) c=some z->(c=2*nx/\z=.grow [] sz)∨(c≠2*nx/\∃ z',(⟨env,(b,.rows [xs++[.slice [] true]] (xs.length+1))::hp,nx⟩:St).fs.hp c=some z'/\((c=b/\z=.rows [xs++[.gref (2*nx) 0]] (xs.length+1))∨z=z')):=by
  intro c z h
  simp only[Ai] at h
  by_cases hc:2*nx=c
  ·have:(2*nx==c)=true:=by simp[hc]
   rw[this,cond_true] at h
   exact .inl ⟨hc.symm,(Option.some.inj h).symm⟩
  ·have:(2*nx==c)=false:=by simp[hc]
   rw[this,cond_false] at h
   refine .inr ⟨fun h=>hc h.symm,?_⟩
   by_cases hcb:b=c
   ·have:(b==c)=true:=by simp[hcb]
    rw[this,cond_true] at h
    subst hcb
    exact⟨_,hbb,.inl ⟨rfl,(Option.some.inj h).symm⟩⟩
   ·have:(b==c)=false:=by simp[hcb]
    rw[this,cond_false] at h
    exact⟨z,by simp[St.fs,Ai,this,h],.inr rfl⟩
 have hno:∀ j,Ap (.slice A 0 0)≠some j:=by intro j;cases A<;>simp [Ap]
 have hmu:∀ c,c≠2*nx->AN mu (2*nx) (.slice A 0 0) c=mu c:=fun c hc=>by simp[AN,hc]
 refine⟨I,AN mu (2*nx) (.slice A 0 0),r.size,r.defers,fun t'=>(r.env t').mono (fun _ _=>rfl) (fun _ h=>h) hmm,⟨fun c z h=>?_,fun c z v j h hv hj=>?_,fun c c' z z' v v' j h h' hv hv' hj hj'=>?_,fun c hc=>?_,r.w.lt,r.w.os,r.w.tape,r.w.output,r.w.grown,r.w.old,r.w.iold,r.w.inew,fun c v hc hn=>hmm c v (r.w.keep c v hc hn),fun c z h hc=>?_⟩⟩
 ·rcases hlk c z h with⟨rfl,rfl⟩|⟨h1,z',h2,h3⟩
  ·exact⟨A,0,0,[],by simp[AN],fun i hi=>by simp at hi,A0t _,.inl ⟨rfl,rfl⟩⟩
  ·rcases h3 with⟨rfl,rfl⟩|rfl
   ·refine⟨kb,Tb,usb,hmm _ _ b1,b2,b3,fun i hi=>?_,fun i j hi hj=>?_⟩
    ·obtain rfl:i=0:=by simpa using hi
     simp[nr]
    ·obtain rfl:i=0:=by simpa using hi
     have hold:=b5 0 j (by simp) hj
     simp only[nr,A0K] at hold|-
     rcases A0v j xs.length with hlt|hge
     ·have hl:∀ d:D,nd (xs++[d]) j=nd xs j:=fun d=>by simp only[nd,A03,A0x hlt]
      rw[hl] at hold|-
      exact hold.mono (fun _ _=>rfl) (fun _ h=>h) hmm
     ·obtain rfl:j=xs.length:=by omega
      rw[hlast,hA0]
      exact .gref _ 0 A 0 (by simp[AN])
   ·exact(r.w.blk c z h2).mono (fun _ _=>rfl) (fun _ h=>h) hmm (fun _ _ _ _=>rfl)
 ·rcases hlk c z h with⟨rfl,rfl⟩|⟨h1,z',h2,_⟩
  ·simp only[AN,if_true,A04] at hv
   subst hv
   exact(hno j hj).elim
  ·rw[hmu c h1] at hv;exact r.w.loc c z' v j h2 hv hj
 ·rcases hlk c z h with⟨rfl,rfl⟩|⟨h1,z1,h2,_⟩
  ·simp only[AN,if_true,A04] at hv
   subst hv
   exact(hno j hj).elim
  ·rcases hlk c' z' h' with⟨rfl,rfl⟩|⟨h1',z2,h2',_⟩
   ·simp only[AN,if_true,A04] at hv'
    subst hv'
    exact(hno j hj').elim
   ·rw[hmu c h1] at hv
    rw[hmu c' h1'] at hv'
    exact r.w.inj c c' z1 z2 v v' j h2 h2' hv hv' hj hj'
 ·obtain⟨h1,h2⟩:=hc
  have h2':2*(nx+1)<=c:=h2
  rw[hmu c (by omega)]
  exact r.w.fresh c ⟨h1,by show 2*nx<=c;omega⟩
 ·obtain⟨h1,h2⟩:=hc
  have h2':2*(nx+1)<=c:=h2
  rcases hlk c z h with⟨rfl,rfl⟩|⟨h3,z',h5,_⟩
  ·omega
  ·exact r.w.used c z' h5 ⟨h1,by show 2*nx<=c;omega⟩
theorem Ar.nilgrow3{env:Env}{hp:Hp}{nx b sz:Nat}{x y:D}:Ar ⟨env,(b,.rows [[x,y,.slice [] true]] 3)::hp,nx⟩ ⟨env,(2*nx,.grow [] sz)::(b,.rows [[x,y,.gref (2*nx) 0]] 3)::hp,nx+1⟩:=Ar.nilgrowN [x,y]
theorem Ar.nilgrow1{env:Env}{hp:Hp}{nx b sz:Nat}:Ar ⟨env,(b,.rows [[.slice [] true]] 1)::hp,nx⟩ ⟨env,(2*nx,.grow [] sz)::(b,.rows [[.gref (2*nx) 0]] 1)::hp,nx+1⟩:=Ar.nilgrowN []
theorem A4.weakIn{P:Program}{f:FuncId}{ds ds':List D}{H H0 H':Hp}{r:D}(hl:ds'.length=ds.length)(hw:Ar ⟨Bq 0 ds',H0,4⟩ ⟨Bq 0 ds,H,4⟩)(h:A4 P f ds H r H'):A4 P f ds' H0 r H':=by
 unfold A4 at h|-
 refine⟨h.1,fun w M0 G I mu vs hga hdl hwr hr=>?_⟩
 have hR:Rel w M0 G vs.length (frN 4) I mu (⟨Bq 0 ds',H0,4⟩:St).fs {tmps:=vs.toArray,defers:=G.dl} w:=
  ⟨by simp,BR.refl _ _ _ _,fun t=>by
   have:=Fu hr 0 t
   simpa[St.fs] using this,hwr⟩
 obtain⟨I',mu',R⟩:=hw w M0 G vs.length I mu _ w hR
 refine h.2 w M0 G I' mu' vs hga hdl R.w ⟨by rw[hr.1,hl],fun i hi=>?_⟩
 have:=R.env i
 have hget:=Ff ds 0 i
 simp only[A0t,true_and,A1m,Nat.sub_zero] at hget
 simp only[St.fs,hget] at this
 have hlt:i<vs.length:=by rw[hr.1,hl];exact hi
 simpa[hi,nv,A03,A1n] using this
end Go.Ab
namespace Go.Ab
open Go.Proofs Go.Proofs.Tryz
structure OQ where
 chg:Option (List CE×Nat)
 us:List Bt
def OQ.es(q:OQ):List CE:=(q.chg.getD ([],0)).1
def OQ.ck(q:OQ):Nat:=(q.chg.getD ([],0)).2
def cD(n:Nat)(q:OQ):D:=match q.chg with|none=>.val (.map none)|some _=>.mref n
def cB(q:OQ):Blk:=match q.chg with|none=>.junk|some x=>.map (x.1.map Ck) x.2
def oq(b:GT)(q:OQ):OV:=⟨b,q.chg,some q.us⟩
def oqH(b:GT)(q:OQ):Hp:=[(1,.rows [[Ag b,cD 2 q,.gref 4 q.us.length]] 3),(2,cB q),(4,.grow (q.us.map fun u=>[Bj u]) 1)]
theorem F1(b:GT)(q:OQ):ovH (oq b q)=oqH b q:=by
 obtain⟨c,us⟩:=q
 cases c with
 |none=>rfl
 |some x=>rfl
theorem renD_cD(r:Nat->Nat)(n:Nat)(q:OQ):B3 r (cD n q)=cD (r n) q:=by
 obtain⟨c,us⟩:=q
 cases c<;>rfl
theorem ltD_cD{m n:Nat}(q:OQ)(h:okN m n=true):ltD m (cD n q)=true:=by
 obtain⟨c,us⟩:=q
 cases c with
 |none=>rfl
 |some x=>exact h
theorem frz_cD(hp:Nat->Option Blk)(k n:Nat)(q:OQ):frz hp k (cD n q)=cD n q:=by
 obtain⟨c,us⟩:=q
 cases c<;>cases k<;>rfl
theorem renB_cB(r:Nat->Nat)(q:OQ):FA r (cB q)=cB q:=by
 obtain⟨c,us⟩:=q
 cases c with
 |none=>rfl
 |some x=>simp only[cB,FA,RI]
theorem ltB_cB(n:Nat)(q:OQ):ltB n (cB q)=true:=by
 obtain⟨c,us⟩:=q
 cases c with
 |none=>rfl
 |some x=>simp only[cB,ltB,Vn]
theorem mapB_cB(hp:Nat->Option Blk)(n:Nat)(q:OQ):JB (frz hp n) (cB q)=cB q:=by
 obtain⟨c,us⟩:=q
 cases c with
 |none=>rfl
 |some x=>simp only[cB,JB,SB]
attribute [push_cast] renD_cD ltD_cD frz_cD renB_cB ltB_cB mapB_cB
def OQ.view(q:OQ)(l:List GE):List GE:=FI q.es l
structure Ey(b:GT)(q:OQ)(l:List GE):Prop where
 tr:DF b l
 ch:Do q.es q.ck
 us:q.chg=none->q.us=[]
theorem Ey.ov{b:GT}{q:OQ}{l:List GE}(h:Ey b q l):XT (oq b q) l:=by
 exact⟨h.tr,h.ch⟩
theorem JY(b:GT)(q:OQ)(l:List GE):(oq b q).view l=q.view l:=rfl
theorem Z9(b:GT)(q:OQ):(oq b q).us=q.us:=rfl
theorem Ey.srt{b:GT}{q:OQ}{l:List GE}(h:Ey b q l):Srt (q.view l):=Da _ h.tr.srt
def OQ.step(q:OQ)(k:ByteArray)(s:C8):OQ:=
 ⟨some ((JG q.es q.ck k s).1,(JG q.es q.ck k s).2),q.us++[⟨k,(BQ k q.es 0).isSome,((BQ k q.es 0).map (·.2)).getD (false,zV)⟩]⟩
theorem Vh(b:GT)(q:OQ)(k:ByteArray)(s:C8):(oq b q).step k s=oq b (q.step k s):=rfl
theorem Ey.step{b:GT}{q:OQ}{l:List GE}(h:Ey b q l){k:ByteArray}{s:C8}(hs:Sm s.2/\(s.1=false->s.2=zV)/\k.size<=64):Ey b (q.step k s) l/\(q.step k s).view l=if s.1 then AU (k,s.2) (q.view l) else BE k (q.view l):=
 ⟨⟨h.tr,h.ch.set hs,fun e=>by cases e⟩,VZ h.ch h.tr.srt hs⟩
section
variable{b:GT}{q:OQ}{l:List GE}(h:Ey b q l)(hb:l.length<=1099511627776)(k:ByteArray)
include h hb
theorem Vf:A4 prog 120 [.ref 1 0 0 3,.val (.string k)] (oqH b q) (.tup [.agg (Aa (AH (Ah k (q.view l)))),.val (.bool (Ah k (q.view l)).isSome)]) (oqH b q):=by
 have:=UP (oq b q) l h.ov hb k
 rwa[F1,JY] at this
theorem q_GetT:A4 prog 120 [.ref 1 0 0 3,.val (.string k)] (oqH b q) (.tup [.agg (CQ (AH (Ah k (q.view l)))),.val (.bool (Ah k (q.view l)).isSome)]) (oqH b q):=by
 have:=VQ (oq b q) l h.ov hb k
 rwa[F1,JY] at this
theorem q_Del0(hh:CG k (q.view l)=false):A4 prog 78 [.ref 1 0 0 3,.val (.string k)] (oqH b q) (.val (.bool false)) (oqH b q):=by
 have:=c_ODel0 (oq b q) l h.ov hb k (by rw[JY];exact hh)
 rwa[F1] at this
theorem q_Del1(hh:CG k (q.view l)=true)(hn:q.us.length<1073741824):A4 prog 78 [.ref 1 0 0 3,.val (.string k)] (oqH b q) (.val (.bool true)) (oqH b (q.step k (false,zV))):=by
 have:=c_ODel1 (oq b q) l h.ov hb k (by rw[JY];exact hh) (by rw[Z9];exact hn)
 rwa[Vh,F1,F1] at this
end
theorem CX(b:GT)(q:OQ):A4 prog 74 [.ref 1 0 0 3] (oqH b q) (.val (.int .i64 (q.us.length:Nat))) (oqH b q):=by
 have:=c_Mark (oq b q)
 rw[F1] at this
 rw[<-Z9 b q]
 exact this
theorem q_step(b:GT)(q:OQ)(k:ByteArray)(s:C8)(hn:q.us.length<1073741824):A4 prog 118 [.ref 1 0 0 3,.val (.string k),.agg (CB s)] (oqH b q) (.tup []) (oqH b (q.step k s)):=by
 have:=c_step (oq b q) k s (by show(oq b q).us.length<_;rw[Z9];exact hn)
 rwa[Vh,F1,F1] at this
def OQ.back(q:OQ)(m:Nat):OQ:=⟨q.chg.map fun c=>rwd c (q.us.drop m),q.us.take m⟩
theorem c_BackN(b:GT):A4 prog 76 [.ref 1 0 0 3,.val (.int .i64 (0:Nat))] (ovH ⟨b,none,some []⟩) (.val (.int .i64 0)) (ovH ⟨b,none,some []⟩):=by
 have oB:=A5 b
 simp only[JA]
 refine Zd [] func76 rfl ntmps76 results76 ?_
 (have z:=oB;(try push_cast[z])<;>repeat' (first|apply Zi<;>intro _|exact Zo|with_reducible apply Za)<;>try push_cast[z])
 refine AWp.loopI mixed (by kernel_rfl) (ι:=Unit) (fun j=>True) (fun j=>⟨[(5,.val (.int .i64 (-1))),(1,.val (.int .i64 0)),(0,.ref 1 0 0 3)],[(1,.rows [[Ag b,.val (.map none),.gref 4 0]] 3),(2,.junk),(4,.grow [] 1)],88⟩) (fun j=>0) () trivial ?_ fun j hj=>?_
 ·apply Zw<;>push_cast [oB]
  all_goals decide
 ·(have z:=oB;(try push_cast[z])<;>repeat' (first|apply Zi<;>intro _|exact Zo|with_reducible apply Za)<;>try push_cast[z])
  all_goals first|omega|exact LT|exact LS|skip
  refine Ar.trans (Ar.cut (b:=4) 0 rfl (A0e _)) ?_
  have g1:=Su 4 288 0 b
  simp only[grG] at g1
  push_cast[g1]
  apply Zr [(4,288)] rfl<;>push_cast [oB]
theorem q_Back(b:GT)(q:OQ)(hq:q.chg=none->q.us=[])(m:Nat)(hm:m<=q.us.length)(hn:q.us.length<=1073741824):A4 prog 76 [.ref 1 0 0 3,.val (.int .i64 m)] (oqH b q) (.val (.int .i64 0)) (oqH b (q.back m)):=by
 rw[<-F1,<-F1]
 obtain⟨c,us⟩:=q
 cases c with
 |none=>
  have hu:us=[]:=hq rfl
  subst hu
  obtain rfl:m=0:=Nat.le_zero.1 hm
  exact c_BackN b
 |some x=>
  obtain⟨es,ck⟩:=x
  exact c_Back b (es,ck) us m hm hn
theorem Vg(b:GT):A4 prog 36 [.agg [Ag b]] [] (.ref 0 0 0 3) [(0,.rows [[Ag b,.val (.map none),.gref 4 0]] 3),(2,.junk),(4,.grow [] 1)]:=by
 refine Zd [] func36 rfl ntmps36 results36 ?_
 ((try push_cast)<;>repeat' (first|apply Zi<;>intro _|exact Zp|with_reducible apply Za)<;>try push_cast)
 have hs:Ar ⟨[(0,.ref 40 0 0 3)],[(40,.rows [[Ag b,.val (.map none),.slice [] true]] 3),(8,.rows [[Ag b]] 1)],28⟩ ⟨[(0,.ref 40 0 0 3)],[(40,.rows [[Ag b,.val (.map none),.slice [] true]] 3)],28⟩:=by
  have oB:=A5 b
  apply Zw<;>push_cast [oB]
 refine Ar.trans hs (Ar.trans (Ar.nilgrow3 (sz:=1)) ?_)
 apply Zr [(0,40),(4,56),(2,1000)] rfl<;>push_cast
def UOk(u:Bt):Prop:=Sm u.old.2/\(u.old.1=false->u.old.2=zV)/\u.k.size<=64
theorem TH{p:List CE×Nat}(h:Do p.1 p.2){u:Bt}(hu:UOk u):Do (rw1 p u).1 (rw1 p u).2:=by
 unfold rw1
 split
 ·exact h.set hu
 ·exact h.del u.k
theorem Uj{p:List CE×Nat}(h:Do p.1 p.2)(u:Bt)(k:ByteArray):lk (rw1 p u).1 k=if u.k=k then(if u.was then some u.old else none) else lk p.1 k:=by
 unfold rw1
 cases u.was with
 |true=>simp only[if_true];exact Qn h u.k u.old k
 |false=>simp only[A0q,if_false];exact lk_cdel h u.k k
theorem Yh(p:List CE×Nat)(us:List Bt)(u:Bt):rwd p (us++[u])=rwd (rw1 p u) us:=by
 simp[rwd]
theorem rwd_app(p:List CE×Nat)(a b:List Bt):rwd p (a++b)=rwd (rwd p b) a:=by
 simp[rwd]
theorem TG{us:List Bt}(hu:∀ u ∈ us,UOk u):∀ {p:List CE×Nat},Do p.1 p.2->Do (rwd p us).1 (rwd p us).2:=by
 have:∀ (l:List Bt),(∀ u ∈ l,UOk u)->∀ {p:List CE×Nat},Do p.1 p.2->Do (l.foldl rw1 p).1 (l.foldl rw1 p).2:=by
  intro l
  induction l with
  |nil=>intro _ p h;exact h
  |cons u l ih=>intro hl p h;exact ih (fun x hx=>hl x (A0l _ hx)) (TH h (hl u (A0C ..)))
 exact fun {p} h=>this us.reverse (fun u hu'=>hu u (List.mem_reverse.1 hu')) h
theorem rwd_lk{us:List Bt}(hu:∀ u ∈ us,UOk u):∀ {p p':List CE×Nat},Do p.1 p.2->Do p'.1 p'.2->(∀ k,lk p.1 k=lk p'.1 k)->∀ k,lk (rwd p us).1 k=lk (rwd p' us).1 k:=by
 have:∀ (l:List Bt),(∀ u ∈ l,UOk u)->∀ {p p':List CE×Nat},Do p.1 p.2->Do p'.1 p'.2->(∀ k,lk p.1 k=lk p'.1 k)->∀ k,lk (l.foldl rw1 p).1 k=lk (l.foldl rw1 p').1 k:=by
  intro l
  induction l with
  |nil=>intro _ p p' _ _ h k;exact h k
  |cons u l ih=>
   intro hl p p' h h' hk k
   have hu:=hl u (A0C ..)
   exact ih (fun x hx=>hl x (A0l _ hx)) (TH h hu) (TH h' hu) (fun k=>by rw[Uj h,Uj h',hk k]) k
 exact fun {p p'} h h' hk k=>this us.reverse (fun u hu'=>hu u (List.mem_reverse.1 hu')) h h' hk k
structure JM(q q':OQ):Prop where
 ex:∃ ext,q'.us=q.us++ext/\(∀ u ∈ ext,UOk u)/\∀ k,lk (rwd (q'.es,q'.ck) ext).1 k=lk q.es k
theorem JM.refl(q:OQ):JM q q:=⟨[],by simp,by simp,fun k=>rfl⟩
theorem JM.trans{q q' q'':OQ}(h':Do q'.es q'.ck)(h'':Do q''.es q''.ck)(a:JM q q')(b:JM q' q''):JM q q'':=by
 obtain⟨e1,a1,a2,a3⟩:=a
 obtain⟨e2,b1,b2,b3⟩:=b
 refine⟨e1++e2,by rw[b1,a1,A05],fun u hu=>(A1a.1 hu).elim (a2 u) (b2 u),fun k=>?_⟩
 rw[rwd_app,<-a3 k]
 exact rwd_lk (p:=rwd (q''.es,q''.ck) e2) (p':=(q'.es,q'.ck)) a2 (TG b2 h'') h' b3 k
theorem QG(k:ByteArray)(es:List CE):(BQ k es 0).isSome=(lk es k).isSome/\((BQ k es 0).map (·.2))=lk es k:=by
 have:=G5 k es 0
 rw[<-this]
 cases BQ k es 0<;>simp
theorem OQ.step_es(q:OQ)(k:ByteArray)(s:C8):(q.step k s).es=(JG q.es q.ck k s).1:=rfl
theorem OQ.step_us(q:OQ)(k:ByteArray)(s:C8):(q.step k s).us=q.us++[⟨k,(BQ k q.es 0).isSome,((BQ k q.es 0).map (·.2)).getD (false,zV)⟩]:=rfl
theorem JM.step{q:OQ}(h:Do q.es q.ck){k:ByteArray}{s:C8}(hs:Sm s.2/\(s.1=false->s.2=zV)/\k.size<=64):JM q (q.step k s):=by
 obtain⟨c1,c2⟩:=QG k q.es
 refine⟨[⟨k,(lk q.es k).isSome,(lk q.es k).getD (false,zV)⟩],by rw[OQ.step_us,c1,c2],fun u hu=>?_,fun k'=>?_⟩
 ·rw[A0d.1 hu]
  cases hl:lk q.es k with
  |none=>exact ⟨Sm_zV,fun _=>rfl,hs.2.2⟩
  |some old=>
   obtain⟨n,hm⟩:=Uk hl
   have:=h.sm _ hm
   exact⟨this.1,this.2.1,hs.2.2⟩
 ·have hc:Do (q.step k s).es (q.step k s).ck:=h.set hs
  show lk (rw1 ((q.step k s).es,(q.step k s).ck) ⟨k,(lk q.es k).isSome,(lk q.es k).getD (false,zV)⟩).1 k'=_
  rw[Uj (p:=((q.step k s).es,(q.step k s).ck)) hc]
  simp only[OQ.step_es]
  rw[Qn h]
  by_cases hk:k=k'
  ·subst hk
   cases lk q.es k<;>simp
  ·simp[hk]
theorem OQ.back_ok{b:GT}{q q':OQ}{l:List GE}(hq:Ey b q l)(hq':Ey b q' l)(e:JM q q'):Ey b (q'.back q.us.length) l/\(q'.back q.us.length).view l=q.view l/\JM q (q'.back q.us.length)/\q.us.length<=q'.us.length:=by
 obtain⟨ext,e1,e2,e3⟩:=e
 have hle:q.us.length<=q'.us.length:=by rw[e1,A08];omega
 obtain⟨c,us⟩:=q'
 have e1':us=q.us++ext:=e1
 have hd:us.drop q.us.length=ext:=by rw[e1',List.drop_left]
 have ht:us.take q.us.length=q.us:=by rw[e1',List.take_left]
 cases c with
 |none=>
  have hu:us=[]:=hq'.us rfl
  subst hu
  have hx:ext=[]:=(List.append_eq_nil_iff.1 e1'.symm).2
  subst hx
  simp only[OQ.back,ht,Option.map_none]
  refine⟨⟨hq.tr,hq'.ch,fun _=>(List.append_eq_nil_iff.1 e1'.symm).1⟩,Lh hq.tr.srt hq'.ch.keys hq.ch.keys (fun k=>e3 k),⟨[],by rw[A0E],by simp,fun k=>e3 k⟩,hle⟩
 |some x=>
  obtain⟨es,ck⟩:=x
  have hch:Do (rwd (es,ck) ext).1 (rwd (es,ck) ext).2:=TG e2 hq'.ch
  simp only[OQ.back,hd,ht,A0U]
  refine⟨⟨hq.tr,hch,fun e=>by cases e⟩,Lh hq.tr.srt hch.keys hq.ch.keys e3,⟨[],by rw[A0E],by simp,fun k=>e3 k⟩,hle⟩
theorem GP(s:ByteArray):A3 prog 196 [.val (.string s)] (.val (.bool (B1 s))):=by
 have h:=NF s
 refine Zf [] func196 rfl ntmps196 results196 ?_
 (have z:=trivial;(try push_cast)<;>repeat' (first|apply Zi<;>intro _|refine Zc h ?_|exact Zp|with_reducible apply Za)<;>try push_cast)
noncomputable def C7(k:ByteArray):Int:=Gz (B1 k) k
theorem Nr(k:ByteArray):A3 prog 117 [.val (.string k)] (.val (.int .i64 (C7 k))):=Xw k _ (GP k)
theorem E6{k:ByteArray}(h:C7 k=0):k.size<=64:=by
 unfold C7 Gz at h
 split at h
 ·cases h
 ·split at h
  ·cases h
  ·omega
section
variable(b:GT)(q:OQ)(k:ByteArray)(v:GV)
theorem q_PutK(hk:C7 k≠0):A4 prog 77 [.ref 1 0 0 3,.val (.string k),.agg (Aa v)] (oqH b q) (.val (.int .i64 8)) (oqH b q):=by
 have hK:=Nr k
 have b1:(C7 k !=0)=true:=by simpa using hk
 have oB:=A5 b
 simp only[oqH]
 refine Zd [] func77 rfl ntmps77 results77 ?_
 (have z:=Za b1 oB;(try push_cast[z])<;>repeat' (first|apply Zi<;>intro _|refine Zc hK ?_|exact Zo|with_reducible apply Za)<;>try push_cast[z])
 apply Zw<;>push_cast [oB]
theorem q_PutF(f:Int)(hF:A3 prog 116 [.agg (Aa v)] (.val (.int .i64 f)))(hk:C7 k=0)(hf:f≠0):A4 prog 77 [.ref 1 0 0 3,.val (.string k),.agg (Aa v)] (oqH b q) (.val (.int .i64 f)) (oqH b q):=by
 have hK:=Nr k
 rw[hk] at hK
 have b1:(f !=0)=true:=by simpa using hf
 have oB:=A5 b
 simp only[oqH]
 refine Zd [] func77 rfl ntmps77 results77 ?_
 (have z:=Za b1 oB;(try push_cast[z])<;>repeat' (first|apply Zi<;>intro _|refine Zc hK ?_|refine Zc hF ?_|exact Zo|with_reducible apply Za)<;>try push_cast[z])
 apply Zw<;>push_cast [oB]
theorem q_Put(hF:A3 prog 116 [.agg (Aa v)] (.val (.int .i64 0)))(hk:C7 k=0)(hs:Sm v)(hn:q.us.length<1073741824):A4 prog 77 [.ref 1 0 0 3,.val (.string k),.agg (Aa v)] (oqH b q) (.val (.int .i64 0)) (oqH b (q.step k (true,v))):=by
 have hK:=Nr k
 rw[hk] at hK
 have hC:=UQ v hs
 have hS:=q_step b q k (true,v) hn
 rw[CA] at hS
 have oB:=A5 b
 simp only[oqH] at hS|-
 generalize q.step k (true,v)=q' at*
 refine Zd [] func77 rfl ntmps77 results77 ?_
 (have z:=oB;(try push_cast[z])<;>repeat' (first|apply Zi<;>intro _|refine Zc hK ?_|refine Zc hF ?_|refine Zc hC ?_|refine Zs [(1,1),(2,2),(4,4)] hS ?_|exact Zo|with_reducible apply Za)<;>try push_cast[z])
 apply Zr [(2,146),(4,148)] rfl<;>push_cast [oB]
end
noncomputable def Bv(f:Int)(k:ByteArray):Int:=if C7 k=0 then f else 8
structure Led(b:GT)(l:List GE)(q q':OQ)(n:Nat)(L:List GE):Prop where
 ok:Ey b q' l
 view:q'.view l=L
 ext:JM q q'
 len:q'.us.length<=q.us.length+n
theorem Led.refl{b:GT}{l:List GE}{q:OQ}(h:Ey b q l)(n:Nat):Led b l q q n (q.view l):=⟨h,rfl,.refl q,by omega⟩
theorem Led.trans{b:GT}{l:List GE}{q q' q'':OQ}{n m:Nat}{L L':List GE}(a:Led b l q q' n L)(c:Led b l q' q'' m L'):Led b l q q'' (n+m) L':=
 ⟨c.ok,c.view,a.ext.trans a.ok.ch c.ok.ch c.ext,by have:=a.len;have:=c.len;omega⟩
theorem Led.mono{b:GT}{l:List GE}{q q':OQ}{n m:Nat}{L:List GE}(a:Led b l q q' n L)(h:n<=m):Led b l q q' m L:=⟨a.ok,a.view,a.ext,by have:=a.len;omega⟩
theorem Led.step{b:GT}{q:OQ}{l:List GE}(h:Ey b q l){k:ByteArray}{s:C8}(hs:Sm s.2/\(s.1=false->s.2=zV)/\k.size<=64):Led b l q (q.step k s) 1 (if s.1 then AU (k,s.2) (q.view l) else BE k (q.view l)):=
 ⟨(h.step hs).1,(h.step hs).2,JM.step h.ch hs,by rw[OQ.step_us,A08];exact A0e _⟩
theorem Mr{b:GT}{q:OQ}{l:List GE}(h:Ey b q l)(k:ByteArray)(v:GV)(f:Int)(hF:A3 prog 116 [.agg (Aa v)] (.val (.int .i64 f)))(hs:Sm v)(hn:q.us.length<1073741824):
  ∃ q',A4 prog 77 [.ref 1 0 0 3,.val (.string k),.agg (Aa v)] (oqH b q) (.val (.int .i64 (Bv f k))) (oqH b q')/\Led b l q q' 1 (if Bv f k=0 then AU (k,v) (q.view l) else q.view l):=by
 unfold Bv
 by_cases hk:C7 k=0
 ·simp only[if_pos hk]
  by_cases hf:f=0
  ·subst hf
   exact⟨_,q_Put b q k v hF hk hs hn,Led.step h (s:=(true,v)) ⟨hs,(fun e=>by cases e),E6 hk⟩⟩
  ·exact⟨q,q_PutF b q k v f hF hk hf,by rw[if_neg hf];exact .refl h 1⟩
 ·simp only[if_neg hk]
  exact⟨q,q_PutK b q k v hk,by rw[if_neg (by decide)];exact .refl h 1⟩
theorem U8{b:GT}{q:OQ}{l:List GE}(h:Ey b q l)(hb:l.length<=1099511627776)(k:ByteArray)(hk:k.size<=64)(hn:q.us.length<1073741824):
  ∃ q',A4 prog 78 [.ref 1 0 0 3,.val (.string k)] (oqH b q) (.val (.bool (CG k (q.view l)))) (oqH b q')/\Led b l q q' 1 (BE k (q.view l)):=by
 cases hh:CG k (q.view l) with
 |true=>exact ⟨_,q_Del1 h hb k hh hn,Led.step h (s:=(false,zV)) ⟨Sm_zV,fun _=>rfl,hk⟩⟩
 |false=>exact ⟨q,q_Del0 h hb k hh,by rw[KG hh];exact .refl h 1⟩
theorem QX(s:ByteArray)(i:Nat)(h:i<s.size):atR s i=if (Lib.decodeL (s.data.toList.drop i)).1=65533/\(Lib.decodeL (s.data.toList.drop i)).2=1 then(0,0) else Lib.decodeL (s.data.toList.drop i):=by
 have hl:s.data.toList.length=s.size:=rfl
 unfold atR atN
 rw[if_neg (by omega),Lib.decodeL_drop,Lib.decode_N,hl]
 rfl
theorem Fr{s:ByteArray}{i:Nat}(h:i<s.size):s.data.toList.drop i≠[]:=by
 have hl:s.data.toList.length=s.size:=rfl
 intro e
 have:=congrArg List.length e
 rw[A0n,A0i] at this
 omega
theorem XL{s:ByteArray}{i:Nat}(h:i<s.size)(hn:(atR s i).2≠0):atR s i=Lib.decodeL (s.data.toList.drop i)/\i+(atR s i).2<=s.size/\1<=(atR s i).2:=by
 have hl:s.data.toList.length=s.size:=rfl
 have h2:=Lib.decodeL_le _ (Fr h)
 rw[A0n] at h2
 rw[QX s i h] at hn|-
 split at hn
 ·exact absurd rfl hn
 ·rename_i hc
  rw[if_neg hc]
  exact⟨rfl,by omega,by omega⟩
theorem Tl(s:ByteArray)(i:Nat)(h:i<s.size):Lib.validD (s.data.toList.drop i)=if (atR s i).2=0 then false else Lib.validD (s.data.toList.drop (i+(atR s i).2)):=by
 have hw:=Lib.decodeL_width (s.data.toList.drop i)
 rw[Lib.validD_step _ (Fr h),QX s i h]
 split
 ·simp
 ·rw[if_neg (by omega),List.drop_drop]
theorem JW(s:ByteArray)(hs:s.size<=4611686018427387904):A3 prog 147 [.val (.string s)] (.val (.bool (B1 s))):=by
 have hl:s.data.toList.length=s.size:=rfl
 refine Zf [] func147 rfl ntmps147 results147 ?_
 ((try push_cast)<;>repeat' (first|apply Zi<;>intro _|exact Zp|with_reducible apply Za)<;>try push_cast)
 refine Zl (fun i=>i<=s.size/\Lib.validD (s.data.toList.drop i)=B1 s) (fun i=>⟨[(3,.val (.int .i64 i)),(0,.val (.string s))],[],40⟩) (fun i=>s.size-i) 0 ⟨A0t _,by rw[A1T];rfl⟩ ?_ fun i hi=>?_
 ·apply Zw<;>push_cast
 ·obtain⟨h1,h2⟩:=hi
  push_cast
  refine A6 (fun ha=>?_) (fun ha=>?_)
  ·have hi':i<s.size:=by simpa using ha
   have hA:=r_At s i hs (by omega)
   have hv:=Tl s i hi'
   have hw:=fun hn=>XL hi' hn
   generalize atR s i=x at*
   obtain⟨r,n⟩:=x
   simp only at hv hw hA
   by_cases hn:n=0
   ·subst hn
    rw[if_pos rfl,h2] at hv
    (have z:=trivial;(try push_cast)<;>repeat' (first|apply Zi<;>intro _|refine Zc hA ?_|exact Zp|with_reducible apply Za)<;>try push_cast)
    all_goals first|omega|skip
    rw[hv]
   ·obtain⟨_,w2,w3⟩:=hw hn
    rw[if_neg hn,h2] at hv
    have b1:((n:Int)==0)=false:=by simpa using hn
    (have z:=b1;(try push_cast[z])<;>repeat' (first|apply Zi<;>intro _|refine Zc hA ?_|exact Zo|with_reducible apply Za)<;>try push_cast[z])
    all_goals first|omega|skip
    refine⟨i+n,⟨w2,hv.symm⟩,by omega,?_⟩
    apply Zw<;>push_cast
    exact A9 (by omega) (by omega)
  ·have hi':i=s.size:=by simp at ha;omega
   subst hi'
   rw[<-h2,A0B (by omega)]
   ((try push_cast)<;>repeat' (first|apply Zi<;>intro _|exact Zp|with_reducible apply Za)<;>try push_cast)
   rfl
theorem JV(k:ByteArray)(hs:k.size<=4611686018427387904):A3 prog 102 [.val (.string k)] (.val (.int .i64 (C7 k))):=by
 have hV:=JW k hs
 unfold C7 Gz
 refine Zk [] func102 rfl ntmps102 results102 fun H Hb=>?_
 (have z:=trivial;(try push_cast)<;>repeat' (first|apply Zi<;>intro _|refine Zc hV ?_|exact Zp|with_reducible apply Za)<;>try push_cast)
 all_goals(clear hV H Hb;first|(simp_all;done)|(simp_all;omega)|grind)
end Go.Ab
namespace Go.Proofs
open Go.Ab Go.Proofs Go.Proofs.Tryz Go.RowKit Go.Shelf
attribute [local go_sem] Oper.semAt_some
def rnA(s:ByteArray)(p:Nat):Nat×Nat:=Lib.decodeL (s.data.toList.drop p)
def Yt(s:ByteArray)(p:Nat):Array Value:=#[.int .i64 p,.int .i32 (rnA s p).1]
def rnK(s:ByteArray)(bx:Nat)(w0:World)(p:Nat)(W:World):Prop:=Below w0.heap.size w0 W/\W.cell? ⟨bx,0,none⟩=some (.string s)/\p<=s.size/\Lib.validD (s.data.toList.drop p)=true
theorem Ys(s:ByteArray)(p:Nat)(h:p<s.size):Lib.decodeGo (s.extract p s.size)=rnA s p:=by
 have hl:s.data.toList.length=s.size:=rfl
 have e:s.extract p s.size=⟨(s.data.toList.drop p).toArray⟩:=by
  apply ByteArray.ext
  rw[ByteArray.data_extract]
  apply Array.ext'
  rw[Array.toList_extract]
  show((s.data.toList.drop p).take (s.size-p))=_
  rw[A0f (by rw[A0n];omega)]
 rw[e]
 unfold Lib.decodeGo
 rw[if_neg ?_]
 ·rfl
 ·show ¬(s.data.toList.drop p).toArray.size=0
  rw[A0H,A0n];omega
theorem RG{s:ByteArray}{p:Nat}(h:p<s.size)(hv:Lib.validD (s.data.toList.drop p)=true):¬((rnA s p).1=65533/\(rnA s p).2=1)/\Lib.validD (s.data.toList.drop (p+(rnA s p).2))=true/\p+(rnA s p).2<=s.size/\1<=(rnA s p).2/\(rnA s p).1<=1114111:=by
 have hl:s.data.toList.length=s.size:=rfl
 rw[Lib.validD_step _ (Fr h)] at hv
 have h2:=Lib.decodeL_le _ (Fr h)
 have h3:=Lib.decodeL_width (s.data.toList.drop p)
 have h4:=Lib.decodeL_rune (s.data.toList.drop p)
 rw[A0n] at h2
 unfold rnA
 split at hv
 ·cases hv
 ·rename_i hc
  rw[List.drop_drop] at hv
  exact⟨hc,hv,by omega,by omega,h4⟩
set_option maxRecDepth 100000 in
set_option maxHeartbeats 1000000 in
theorem c_runes1(n:Nat)(s:ByteArray)(hs:s.size<=1048576)(bx:Nat)(w0:World)(hT:∀ W,Below w0.heap.size w0 W->Lib.Utf8Tabs (Tryz.sDecode_ren.g 3) (Tryz.sDecode_ren.g 4) W):
  Tells n prog 266 #[.pointer (some ⟨bx,0,none⟩)] (Yt s) (fun p=>p+(rnA s p).2) (fun p=>p<s.size) 0 s.size (rnK s bx w0):=by
 intro l J hK hJb hY W h0
 refine callsIn_of_wp func266 rfl trivial ?_
 simp only[ntmps266,A0H,A0g,A0i,Nat.reduceAdd,Nat.reduceSub,A1M,A1N,A21,A1r,A09,A07]
 gi_wp2
 gi_loopw [3] (fun p wr=>∃ q:Nat,p=.int .i64 q/\J q wr) (fun p wr=>s.size-(intOf p).toNat)
 case atStart=>exact ⟨0,rfl,h0⟩
 case round=>
  obtain⟨q,rfl,hJ⟩:=hrel
  obtain⟨k1,k2,k3,k4⟩:=hK _ _ hJ
  by_cases hq:q<s.size
  ·obtain⟨v1,v2,v3,v4,v5⟩:=RG hq k4
   have hsl:=Ys s q hq
   have hD:=Any.utf8_DecodeRuneInString Tryz.sDecode (s.extract q s.size) wr (hT wr k1)
   rw[hsl] at hD
   have hY2:=fun W h=>hY q W h hq
   unfold Yt at hY2
   generalize rnA s q=x at*
   obtain⟨r,wd⟩:=x
   simp only at*
   have hv:¬((r:Int)=65533/\(wd:Int)=1):=by omega
   gi_wp2
   refine⟨trivial,fun h=>(by cases h),(callsIn_wide.2 hD).mono ?_⟩
   rintro e w2 ⟨rfl,hb⟩
   obtain⟨fn,tmps,assign,body,hy,hR⟩:=hY2 w2 (hJb q wr w2 hJ hb)
   rcases Decidable.em (r=65533) with rfl|hr
   ·have hw:¬((wd:Int)=1):=by omega
    have hw2:((wd:Int)==1)=false:=by simpa using hw
    change(Instr.yield l #[Value.int .i64 q,Value.int .i32 65533]).run _ _=_ at hy
    gi_wp2
    refine⟨fun h=>(by cases h),hR.mono ?_⟩
    rintro e w3 ⟨rfl,hJ3⟩
    gi_wp2
    go_roundw
    case rel=>exact ⟨q+wd,by simp,hJ3⟩
    case measure=>simp only[intOf];omega
   ·have hr2:¬((r:Int)=65533):=by omega
    gi_wp2
    refine⟨fun h=>(by cases h),hR.mono ?_⟩
    rintro e w3 ⟨rfl,hJ3⟩
    gi_wp2
    go_roundw
    case rel=>exact ⟨q+wd,by simp,hJ3⟩
    case measure=>simp only[intOf];omega
  ·obtain rfl:q=s.size:=by omega
   gi_wp2
   go_end0
   exact⟨⟨_,rfl⟩,hJ⟩
attribute [local go_sem] Oper.semAt_some
set_option maxHeartbeats 1000000 in
theorem c_runes(n:Nat)(s:ByteArray)(w:World):
  CallsIn Fence.wide n prog 255 #[.string s] w fun e w'=>e=.returned (.func (.func 266) #[] #[.pointer (some ⟨w.heap.size,0,none⟩)])/\w'=w.alloc (.cells #[.string s] 9):=by
 refine callsIn_of_wp func255 rfl trivial ?_
 simp only[ntmps255,A0H,A0g,A0i,Nat.reduceAdd,Nat.reduceSub,A1M,A1N,A21,A1r,A09,A07]
 gi_wp2
 go_ret
 exact⟨rfl,rfl⟩
set_option maxHeartbeats 1000000 in
theorem c_stands(n:Nat)(r:Nat)(w:World):
  CallsIn Fence.wide n prog 256 #[.int .i32 r] w fun e w'=>e=.returned (.bool (decide (32<=r/\r≠34/\r≠92)))/\w'=w:=by
 refine callsIn_of_wp func256 rfl trivial ?_
 simp only[ntmps256,A0H,A0g,A0i,Nat.reduceAdd,Nat.reduceSub,A1M,A1N,A21,A1r,A09,A07]
 gi_wp2
 ·rename_i h1 h2
  obtain rfl:r=34:=by omega
  go_ret
  exact⟨rfl,rfl⟩
 ·rename_i h1 h2
  go_ret
  refine⟨?_,rfl⟩
  refine congrArg Ending.returned (?_:Value.bool ((r:Int) !=34&&(r:Int) !=92)=Value.bool (decide (32<=r/\r≠34/\r≠92)))
  congr 1
  rw[Bool.eq_iff_iff]
  simp
  omega
 ·rename_i h1
  go_ret
  refine⟨?_,rfl⟩
  have:decide (32<=r)=false:=decide_eq_false (by omega)
  rw[this]
  rfl
def letD:DataW Unit:=(((((((DataW.map []).put (.int .i32 34) (.lit (.int .i32 34))).put (.int .i32 92) (.lit (.int .i32 92))).put (.int .i32 8) (.lit (.int .i32 98))).put (.int .i32 9) (.lit (.int .i32 116))).put (.int .i32 10) (.lit (.int .i32 110))).put (.int .i32 12) (.lit (.int .i32 102))).put (.int .i32 13) (.lit (.int .i32 114))
abbrev ML(b:Nat)(w:World):Prop:=w.ownsMap prog 21 (plainElem (H:=Unit) prog 21) b 7 letD
def Hu(r:Nat):Option UInt8:=if r=8 then some 98 else if r=9 then some 116 else if r=10 then some 110 else if r=12 then some 102 else if r=13 then some 114 else if r=34 then some 34 else if r=92 then some 92 else none
theorem Vq:letD=.map [(.int .i32 8,.lit (.int .i32 98)),(.int .i32 9,.lit (.int .i32 116)),(.int .i32 10,.lit (.int .i32 110)),(.int .i32 12,.lit (.int .i32 102)),(.int .i32 13,.lit (.int .i32 114)),(.int .i32 34,.lit (.int .i32 34)),(.int .i32 92,.lit (.int .i32 92))]:=by
 rfl
theorem letD_has(r:Nat):Maps.has letD (.int .i32 r)=(Hu r).isSome:=by
 rw[Vq,Maps.has_eq]
 have h:∀ a:Nat,(Lit.sameKey (.int .i32 a) (.int .i32 r))=decide (r=a):=fun a=>by
  simp only[Lit.sameKey,true_and]
  exact decide_eq_decide.2 (by omega)
 have e:((([(Lit.int .i32 8,DataW.lit (H:=Unit) (.int .i32 98)),(.int .i32 9,.lit (.int .i32 116)),(.int .i32 10,.lit (.int .i32 110)),(.int .i32 12,.lit (.int .i32 102)),(.int .i32 13,.lit (.int .i32 114)),(.int .i32 34,.lit (.int .i32 34)),(.int .i32 92,.lit (.int .i32 92))]).any fun p=>p.1.sameKey (.int .i32 r)))=(decide (r=8) ||(decide (r=9) ||(decide (r=10) ||(decide (r=12) ||(decide (r=13) ||(decide (r=34) ||decide (r=92))))))):=by
  simp only[List.any_cons,List.any_nil,A23]
  exact congr (congrArg _ (h 8)) (congr (congrArg _ (h 9)) (congr (congrArg _ (h 10)) (congr (congrArg _ (h 12)) (congr (congrArg _ (h 13)) (congr (congrArg _ (h 34)) (h 92))))))
 rw[e]
 unfold Hu
 repeat' split
 all_goals simp_all
theorem letD_at(r:Nat)(c:Int)(h:letD.atKey (.int .i32 r) (.lit (.int .i32 0))=.lit (.int .i32 c))(b:UInt8)(hb:Hu r=some b):c=b.toNat:=by
 rw[Vq] at h
 unfold Hu at hb
 repeat' split at hb
 all_goals first
  |(cases hb;subst_vars;have:=DataW.lit.inj h;cases this;rfl)
  |cases hb
set_option maxHeartbeats 1000000 in
theorem Xv(n:Nat)(w:World):
  CallsIn Fence.wide n prog 258 #[] w fun e w'=>e=.returned (.map (some w.heap.size))/\ML w.heap.size w'/\Below w.heap.size w w':=by
 have hmm:=@run_makeMap prog
 have K:=Maps.int_keyed underlying21
 have hw:∀ a:Nat,a<=127->keyOf prog 21 (.int .i32 a)=some (.int .i32 a)/\plainElem (H:=Unit) prog 21 (.int .i32 a)=some (.lit (.int .i32 a),[]):=fun a ha=>by
  have:(Lit.int .i32 a).wf=true:=by simp[Lit.wf,IntKind.min,IntKind.max,IntKind.bits,IntKind.signed];omega
  exact⟨Maps.keyOf_int_mk underlying21 this,plainElem_int underlying21 this⟩
 have h0:=World.ownsMap_made w prog 21 (plainElem (H:=Unit) prog 21)
 obtain⟨w1,r1,h1,g1⟩:=h0.update K underlying303 (by decide) (hw 34 (by decide)).1 (hw 34 (by decide)).2
 obtain⟨w2,r2,h2,g2⟩:=h1.update K underlying303 (by decide) (hw 92 (by decide)).1 (hw 92 (by decide)).2
 obtain⟨w3,r3,h3,g3⟩:=h2.update K underlying303 (by decide) (hw 8 (by decide)).1 (hw 98 (by decide)).2
 obtain⟨w4,r4,h4,g4⟩:=h3.update K underlying303 (by decide) (hw 9 (by decide)).1 (hw 116 (by decide)).2
 obtain⟨w5,r5,h5,g5⟩:=h4.update K underlying303 (by decide) (hw 10 (by decide)).1 (hw 110 (by decide)).2
 obtain⟨w6,r6,h6,g6⟩:=h5.update K underlying303 (by decide) (hw 12 (by decide)).1 (hw 102 (by decide)).2
 obtain⟨w7,r7,h7,g7⟩:=h6.update K underlying303 (by decide) (hw 13 (by decide)).1 (hw 114 (by decide)).2
 refine callsIn_of_wp func258 rfl trivial ?_
 simp only[ntmps258,A0H,A0g,A0i,Nat.reduceAdd,Nat.reduceSub,A1M,A1N,A21,A1r,A09,A07]
 simp only[Int.cast_ofNat_Int] at r1 r2 r3 r4 r5 r6 r7
 gi_wp2
 go_ret
 refine⟨rfl,h7,?_⟩
 have hlt:∀ {D:DataW Unit} {n:Nat} {a:World},a.ownsMap prog 21 (plainElem (H:=Unit) prog 21) w.heap.size n D->w.heap.size<a.heap.size:=fun ⟨_,_,h,_⟩=>(A0F.1 h).1
 have gb:∀ {a b:World},w.heap.size<a.heap.size->a.grownBy b (some w.heap.size)->Below w.heap.size a b:=fun {a b} hs g=>⟨g.os,g.tape,g.output,g.size,fun k hk=>g.block k (by omega) (by simp;omega)⟩
 exact(((((((((Below.refl _ w).alloc (A0e _) _).trans (gb (hlt h0) g1)).trans (gb (hlt h1) g2)).trans (gb (hlt h2) g3)).trans (gb (hlt h3) g4)).trans (gb (hlt h4) g5)).trans (gb (hlt h5) g6)).trans (gb (hlt h6) g7))
end Go.Proofs
namespace Go.Ab
open Go.Proofs Go.Proofs.Tryz
def KO(v:GV):Bool:=
 if v.kind<1∨6<v.kind then true
 else !((v.kind==2 ||!v.b)&&((v.kind==3 ||v.n==0)&&((v.kind==4 ||noS v.s)&&((v.kind==5 ||(v.list.length:Int)==0)&&(v.kind==6 ||(v.obj.length:Int)==0)))))
mutual
noncomputable def Ba:GV->Nat->Int
 |.mk k b n s l o,d=>
  if KO (.mk k b n s l o)=true then 9 else if 64<d then 5
  else if k=4 then(if B1 s=true then 0 else 3)
  else if k=5 then CZ l (d+1)
  else if k=6 then Em none o (d+1) else 0
noncomputable def CZ:List GV->Nat->Int
 |[],_=>0
 |v::l,d=>if Ba v d≠0 then Ba v d else CZ l d
noncomputable def Em:Option ByteArray->List (ByteArray×GV)->Nat->Int
 |_,[],_=>0
 |p,(k,v)::l,d=>if B1 k=false then 3 else if(match p with|none=>true|some q=>ltS q k)=false then 8 else if Ba v d≠0 then Ba v d else Em (some k) l d
end
theorem K1(v:GV)(d:Nat):Ba v d=if KO v=true then 9 else if 64<d then 5
  else if v.kind=4 then(if B1 v.s=true then 0 else 3)
  else if v.kind=5 then CZ v.list (d+1)
  else if v.kind=6 then Em none v.obj (d+1) else 0:=by cases v;rfl
mutual
def C4:GV->Nat
 |.mk k _ _ _ l o=>if k=5 then 1+BX l else if k=6 then 1+D6 o else 1
def BX:List GV->Nat
 |[]=>0
 |v::l=>max (C4 v) (BX l)
def D6:List (ByteArray×GV)->Nat
 |[]=>0
 |(_,v)::l=>max (C4 v) (D6 l)
end
theorem Ng(v:GV):C4 v=if v.kind=5 then 1+BX v.list else if v.kind=6 then 1+D6 v.obj else 1:=by cases v;unfold C4;rfl
def Lq(p:Nat×Nat):Nat:=if p.1=34∨p.1=92∨p.1=8∨p.1=9∨p.1=10∨p.1=12∨p.1=13 then 2 else if p.1<32 then 6 else p.2
def Jf:Nat->List UInt8->Nat
 |0,_=>0
 |n+1,l=>if l=[] then 0 else Lq (Lib.decodeL l)+Jf n (l.drop (Lib.decodeL l).2)
def LK(s:ByteArray):Nat:=if B1 s=true then 2+Jf s.data.toList.length s.data.toList else 0
mutual
def CM:GV->Nat
 |.mk k b n s l o=>if k=1 then 4 else if k=2 then(if b then 4 else 5) else if k=3 then(Lib.itoa n).length else if k=4 then LK s
  else if k=5 then 2+(l.length-1)+BC l else if k=6 then 2+(o.length-1)+Bw o else 4
def BC:List GV->Nat
 |[]=>0
 |v::l=>CM v+BC l
def Bw:List (ByteArray×GV)->Nat
 |[]=>0
 |(k,v)::l=>LK k+1+CM v+Bw l
end
theorem EK(v:GV):CM v=if v.kind=1 then 4 else if v.kind=2 then(if v.b then 4 else 5) else if v.kind=3 then(Lib.itoa v.n).length else if v.kind=4 then LK v.s
  else if v.kind=5 then 2+(v.list.length-1)+BC v.list else if v.kind=6 then 2+(v.obj.length-1)+Bw v.obj else 4:=by cases v;unfold CM;rfl
noncomputable def Al(v:GV):Int:=if Ba v 1≠0 then Ba v 1 else if 16<C4 v then 5 else if 1024<CM v then 6 else 0
mutual
def wtV:GV->Nat
 |.mk _ _ _ s l o=>s.size+(l.length+Fw l)+(o.length+J7 o)
def Fw:List GV->Nat
 |[]=>0
 |v::l=>wtV v+Fw l
def J7:List (ByteArray×GV)->Nat
 |[]=>0
 |(k,v)::l=>k.size+wtV v+J7 l
end
theorem XV(v:GV):wtV v=v.s.size+(v.list.length+Fw v.list)+(v.obj.length+J7 v.obj):=by cases v;simp only[wtV,GV.s,GV.list,GV.obj]
theorem Dr(s:ByteArray):noS s=decide (s=⟨#[]⟩):=by unfold noS;rw[Nv]
theorem Sa(s:ByteArray):noS s=decide (s.size=0):=by
 unfold noS;rw[Nv];congr 1;exact propext (Fe s)
theorem noS_eq{s:ByteArray}(h:noS s=true):s=ByteArray.empty:=by
 unfold noS at h;rw[Nv] at h;exact of_decide_eq_true h
theorem E1{v:GV}(h:KO v=false):1<=v.kind/\v.kind<=6/\(v.kind≠2->v.b=false)/\(v.kind≠3->v.n=0)/\(v.kind≠4->v.s=ByteArray.empty)/\(v.kind≠5->v.list=[])/\(v.kind≠6->v.obj=[]):=by
 unfold KO at h
 split at h
 ·cases h
 ·rename_i hk
  simp only[A1q,A0c,A1P,beq_iff_eq,A1e] at h
  obtain⟨h1,h2,h3,h4,h5⟩:=h
  refine⟨by omega,by omega,fun h=>h1.resolve_left h,fun h=>h2.resolve_left h,fun h=>noS_eq (h3.resolve_left h),fun h=>?_,fun h=>?_⟩
  ·have:=h4.resolve_left h
   exact A0G.1 (by omega)
  ·have:=h5.resolve_left h
   exact A0G.1 (by omega)
theorem E4{v:GV}{d:Nat}(h:Ba v d=0):KO v=false/\d<=64/\(v.kind=4->B1 v.s=true)/\(v.kind=5->CZ v.list (d+1)=0)/\(v.kind=6->Em none v.obj (d+1)=0):=by
 rw[K1] at h
 split at h
 ·cases h
 ·rename_i h1
  split at h
  ·cases h
  ·rename_i h2
   refine⟨by simpa using h1,by omega,fun hk=>?_,fun hk=>?_,fun hk=>?_⟩
   ·rw[if_pos hk] at h
    split at h
    ·assumption
    ·cases h
   ·rw[if_neg (by omega),if_pos hk] at h;exact h
   ·rw[if_neg (by omega),if_neg (by omega),if_pos hk] at h;exact h
theorem HR{d:Nat}:∀ {l:List GV},CZ l d=0->∀ v ∈ l,Ba v d=0
 |[],_,v,hv=>by cases hv
 |x::l,h,v,hv=>by
  simp only[CZ] at h
  split at h
  ·rename_i h1;exact absurd h h1
  ·rename_i h1
   rcases A0o.1 hv with rfl|hv
   ·simpa using h1
   ·exact HR h v hv
noncomputable def MF(p:Option ByteArray)(k:ByteArray)(v:GV)(d:Nat):Int:=if B1 k=false then 3 else if(match p with|none=>true|some q=>ltS q k)=false then 8 else Ba v d
theorem Dx(p:Option ByteArray)(k:ByteArray)(v:GV)(l:List (ByteArray×GV))(d:Nat):Em p ((k,v)::l) d=if MF p k v d≠0 then MF p k v d else Em (some k) l d:=by
 simp only[Em,MF]
 cases p with
 |none=>
  simp only
  split
  ·simp
  ·simp
 |some q=>
  simp only
  split
  ·simp
  ·split
   ·simp
   ·rfl
theorem FU{p:Option ByteArray}{k:ByteArray}{v:GV}{d:Nat}(h:MF p k v d=0):B1 k=true/\Ba v d=0:=by
 unfold MF at h
 generalize(match p with|none=>true|some q=>ltS q k)=o at h
 split at h
 ·exact absurd h (by decide)
 ·rename_i h0
  split at h
  ·exact absurd h (by decide)
  ·exact⟨by simpa using h0,h⟩
theorem HT{d:Nat}:∀ {p:Option ByteArray} {l:List (ByteArray×GV)},Em p l d=0->∀ v ∈ l,Ba v.2 d=0/\B1 v.1=true
 |_,[],_,v,hv=>by cases hv
 |p,(k,x)::l,h,v,hv=>by
  rw[Dx] at h
  split at h
  ·rename_i h1;exact absurd h h1
  ·rename_i h1
   have h2:=FU (by simpa using h1)
   rcases A0o.1 hv with rfl|hv
   ·exact⟨h2.2,h2.1⟩
   ·exact HT h v hv
theorem Nk{α:Type}{f:α->α->Int}:∀ {a b:List α},(∀ x ∈ a,∀ y ∈ b,f x y=0->x=y)->CR f a b=0->a=b
 |[],[],_,_=>rfl
 |[],_::_,_,h=>by simp[CR] at h
 |_::_,[],_,h=>by simp[CR] at h
 |x::a,y::b,hf,h=>by
  simp only[CR] at h
  split at h
  ·rename_i h1
   rw[hf x (by simp) y (by simp) h1,Nk (fun x hx y hy=>hf x (by simp[hx]) y (by simp[hy])) h]
  ·rename_i h1;exact absurd h h1
theorem L6:∀ {a b:List UInt8},Bo a b=0->a=b
 |[],[],_=>rfl
 |[],_::_,h=>by simp[Bo] at h
 |_::_,[],h=>by simp[Bo] at h
 |x::a,y::b,h=>by
  simp only[Bo] at h
  split at h
  ·rename_i h1;subst h1;rw[L6 h]
  ·split at h<;>cases h
theorem NY{a b:Int}(h:E2 a b=0):a=b:=by
 unfold E2 at h
 split at h
 ·cases h
 ·split at h
  ·cases h
  ·omega
theorem UT{a b:Bool}(h:Jq a b=0):a=b:=by cases a<;>cases b<;>simp [Jq] at h|-
theorem KC:∀ (n:Nat) (v u:GV) (d e:Nat),SizeOf.sizeOf v<=n->Ba v d=0->Ba u e=0->Jb n v u=0->v=u
 |0,.mk k b i s l o,u,d,e,hn,_,_,_=>by simp at hn
 |n+1,.mk k b i s l o,.mk k' b' i' s' l' o',d,e,hn,hv,hu,hc=>by
  rw[Bi] at hc
  change(if k≠k' then E2 k k' else if k=2 then Jq b b' else if k=3 then E2 i i' else if k=4 then Ep s s' else if k=5 then CR (Jb n) l l' else if k=6 then CR (HC n) o o' else 0)=0 at hc
  obtain⟨v1,v2,v3,v4,v5⟩:=E4 hv
  obtain⟨u1,u2,u3,u4,u5⟩:=E4 hu
  obtain⟨a1,a2,a3,a4,a5,a6,a7⟩:=E1 v1
  obtain⟨c1,c2,c3,c4,c5,c6,c7⟩:=E1 u1
  simp only[GV.kind,GV.b,GV.n,GV.s,GV.list,GV.obj] at*
  by_cases hk:k=k'
  ·rw[if_neg (by simpa using hk)] at hc
   subst hk
   have hb:b=b':=by
    by_cases h:k=2
    ·rw[if_pos h] at hc;exact UT hc
    ·rw[a3 h,c3 h]
   have hi:i=i':=by
    by_cases h:k=3
    ·rw[if_neg (by omega),if_pos h] at hc;exact NY hc
    ·rw[a4 h,c4 h]
   have hs:s=s':=by
    by_cases h:k=4
    ·rw[if_neg (by omega),if_neg (by omega),if_pos h] at hc;exact Ld (L6 hc)
    ·rw[a5 h,c5 h]
   have hl:l=l':=by
    by_cases h:k=5
    ·rw[if_neg (by omega),if_neg (by omega),if_neg (by omega),if_pos h] at hc
     refine Nk (fun x hx y hy hxy=>?_) hc
     have hlt:=List.sizeOf_lt_of_mem hx
     exact KC n x y (d+1) (e+1) (by simp at hn;omega) (HR (v4 h) x hx) (HR (u4 h) y hy) hxy
    ·rw[a6 h,c6 h]
   have ho:o=o':=by
    by_cases h:k=6
    ·rw[if_neg (by omega),if_neg (by omega),if_neg (by omega),if_neg (by omega),if_pos h] at hc
     refine Nk (fun x hx y hy hxy=>?_) hc
     have hlt:=List.sizeOf_lt_of_mem hx
     obtain⟨xk,xv⟩:=x
     obtain⟨yk,yv⟩:=y
     simp only[HC] at hxy
     split at hxy
     ·rename_i h1
      rw[KC n xv yv (d+1) (e+1) (by simp at hn hlt;omega) (HT (v5 h) _ hx).1 (HT (u5 h) _ hy).1 hxy,Ld (L6 h1)]
     ·rename_i h1;exact absurd hxy h1
    ·rw[a7 h,c7 h]
   subst hb hi hs hl ho
   rfl
  ·rw[if_pos hk] at hc
   exact absurd (NY hc) hk
theorem same_eq{v u:GV}{d e:Nat}(hv:Ba v d=0)(hu:Ba u e=0)(h:HE v u=0):v=u:=KC _ v u d e (A0e _) hv hu h
theorem MW{v:GV}(h:Al v=0):Ba v 1=0/\C4 v<=16/\CM v<=1024:=by
 unfold Al at h
 split at h
 ·rename_i h1;exact absurd h h1
 ·rename_i h1
  split at h
  ·cases h
  ·split at h
   ·cases h
   ·exact⟨by simpa using h1,by omega,by omega⟩
theorem Mk(l:List UInt8):(Lib.decodeL l).2<=Lq (Lib.decodeL l)/\Lq (Lib.decodeL l)<=6:=by
 have key:∀ n b0 b1 b2 b3,(Lib.decodeN n b0 b1 b2 b3).2<=Lq (Lib.decodeN n b0 b1 b2 b3)/\Lq (Lib.decodeN n b0 b1 b2 b3)<=6:=by
  intro n b0 b1 b2 b3
  unfold Lib.decodeN Lq
  repeat' split
  all_goals(simp only at*;omega)
 unfold Lib.decodeL
 rw[Lib.decode_at]
 exact key _ _ _ _ _
theorem RT:∀ (n:Nat) (l:List UInt8),l.length<=n->l.length<=Jf n l
 |0,l,h=>by simp at h;subst h;simp[Jf]
 |n+1,l,h=>by
  simp only[Jf]
  split
  ·rename_i h1;subst h1;simp
  ·rename_i h1
   have h2:=Lib.decodeL_le l h1
   have h3:=Lib.decodeL_width l
   have h4:=(Mk l).1
   have h5:=RT n (l.drop (Lib.decodeL l).2) (by rw[A0n];omega)
   rw[A0n] at h5
   omega
theorem RQ:∀ (n:Nat) (l:List UInt8),Jf n l<=6*l.length
 |0,l=>by simp[Jf]
 |n+1,l=>by
  simp only[Jf]
  split
  ·rename_i h1;subst h1;simp
  ·rename_i h1
   have h2:=Lib.decodeL_le l h1
   have h3:=Lib.decodeL_width l
   have h4:=(Mk l).2
   have h5:=RQ n (l.drop (Lib.decodeL l).2)
   rw[A0n] at h5
   omega
theorem JX(s:ByteArray):(B1 s=true->s.size<=LK s)/\LK s<=2+6*s.size:=by
 have h:=RT _ s.data.toList (A0e _)
 have h2:=RQ s.data.toList.length s.data.toList
 have h3:s.data.toList.length=s.size:=rfl
 unfold LK
 split
 ·exact⟨fun _=>by omega,by omega⟩
 ·exact⟨fun h=>absurd h (by assumption),by omega⟩
mutual
theorem Ti:∀ (v:GV) (d:Nat),Ba v d=0->wtV v<=CM v
 |.mk k b i s l o,d,h=>by
  obtain⟨v1,v2,v3,v4,v5⟩:=E4 h
  obtain⟨a1,a2,a3,a4,a5,a6,a7⟩:=E1 v1
  simp only[GV.kind,GV.b,GV.n,GV.s,GV.list,GV.obj] at*
  simp only[wtV,CM]
  have q1:=JX s
  by_cases k5:k=5
  ·have h1:=V0 l (d+1) (v4 k5)
   have e1:=a5 (by omega)
   have e2:=a7 (by omega)
   subst e1 e2
   simp only[k5,J7,A0i]
   simp
   omega
  ·have e1:=a6 k5
   subst e1
   by_cases k6:k=6
   ·have h1:=V1 none o (d+1) (v5 k6)
    have e2:=a5 (by omega)
    subst e2
    simp only[k6,Fw,A0i]
    simp
    omega
   ·have e2:=a7 k6
    subst e2
    by_cases k4:k=4
    ·have q2:=q1.1 (v3 k4)
     simp only[k4,Fw,J7,A0i]
     simp
     omega
    ·have e3:=a5 k4
     subst e3
     simp[Fw,J7]
theorem V0:∀ (l:List GV) (d:Nat),CZ l d=0->Fw l<=BC l
 |[],_,_=>A0e _
 |v::l,d,h=>by
  simp only[CZ] at h
  split at h
  ·rename_i h1;exact absurd h h1
  ·rename_i h1
   have h2:=Ti v d (by simpa using h1)
   have h3:=V0 l d h
   simp only[Fw,BC];omega
theorem V1:∀ (p:Option ByteArray) (l:List (ByteArray×GV)) (d:Nat),Em p l d=0->J7 l<=Bw l
 |_,[],_,_=>A0e _
 |p,(k,v)::l,d,h=>by
  rw[Dx] at h
  split at h
  ·rename_i h1;exact absurd h h1
  ·rename_i h1
   have h2:=Ti v d (FU (by simpa using h1)).2
   have h3:=V1 (some k) l d h
   have h4:=(JX k).1 (FU (by simpa using h1)).1
   simp only[J7,Bw];omega
end
mutual
theorem Qo:∀ (v:GV),Sm v->CM v<=24+30*wtV v
 |.mk k b i s l o,h=>by
  have hn:=h.int
  have hL:=Vr l h.list
  have hO:=Vt o h.obj
  have q1:=JX s
  simp only[GV.n] at hn
  have q2:=Lib.itoa_length_le i hn.1 hn.2
  simp only[wtV,CM]
  repeat' split
  all_goals omega
theorem Vr:∀ (l:List GV),(∀ x ∈ l,Sm x)->BC l<=24*l.length+30*Fw l
 |[],_=>by simp[BC]
 |v::l,h=>by
  have h1:=Qo v (h v (by simp))
  have h2:=Vr l fun x hx=>h x (by simp[hx])
  simp only[BC,Fw,A0g];omega
theorem Vt:∀ (l:List (ByteArray×GV)),(∀ x ∈ l,Sm x.2)->Bw l<=28*l.length+30*J7 l
 |[],_=>by simp[Bw]
 |(k,v)::l,h=>by
  have h1:=Qo v (h (k,v) (by simp))
  have h2:=Vt l fun x hx=>h x (by simp[hx])
  have h3:=JX k
  simp only[Bw,J7,A0g];omega
end
theorem QA{v:GV}(h:Al v=0):wtV v<=1024:=by
 obtain⟨h1,_,h2⟩:=MW h
 exact A0L (Ti v 1 h1) h2
end Go.Ab
namespace Go.Proofs
open Go.Ab Go.Proofs Go.Proofs.Tryz Go.RowKit Go.Shelf
attribute [local go_sem] Oper.semAt_some
def J9(n:Nat):UInt8:=if n<10 then(48+n).toUInt8 else(87+n).toUInt8
def JS(l:List UInt8):List UInt8:=
 if 32<=(Lib.decodeL l).1/\(Lib.decodeL l).1≠34/\(Lib.decodeL l).1≠92 then Lib.encodeRune (Lib.decodeL l).1
 else match Hu (Lib.decodeL l).1 with
  |some c=>[92,c]
  |none=>[92,117,48,48,J9 ((Lib.decodeL l).1/16),J9 ((Lib.decodeL l).1%16)]
def Ej:Nat->List UInt8->List UInt8
 |0,_=>[]
 |n+1,l=>if l=[] then [] else JS l++Ej n (l.drop (Lib.decodeL l).2)
theorem FR(n:Nat):Ej n []=[]:=by cases n<;>simp [Ej]
theorem KI:∀ (n m:Nat) (l:List UInt8),l.length<=n->l.length<=m->Ej n l=Ej m l
 |0,m,l,h,_=>by
  have:l=[]:=A0G.1 (by omega)
  subst this;rw[FR,FR]
 |n+1,0,l,_,h=>by
  have:l=[]:=A0G.1 (by omega)
  subst this;rw[FR,FR]
 |n+1,m+1,l,h,k=>by
  simp only[Ej]
  have h1:=Lib.decodeL_width l
  split
  ·rfl
  ·rename_i hn
   have:0<l.length:=List.length_pos_iff.2 hn
   rw[KI n m _ (by rw[A0n];omega) (by rw[A0n];omega)]
theorem NT(l:List UInt8)(h:l≠[]):Ej l.length l=JS l++Ej (l.drop (Lib.decodeL l).2).length (l.drop (Lib.decodeL l).2):=by
 have h1:=Lib.decodeL_width l
 have h2:0<l.length:=List.length_pos_iff.2 h
 rw[KI l.length (l.length-1+1) l (by omega) (by omega)]
 simp only[Ej,if_neg h]
 rw[KI (l.length-1) (l.drop (Lib.decodeL l).2).length _ (by rw[A0n];omega) (by omega)]
theorem NR(l:List UInt8)(h:l≠[])(hv:¬((Lib.decodeL l).1=65533/\(Lib.decodeL l).2=1)):(JS l).length=Lq (Lib.decodeL l):=by
 have e:=Lib.encode_decode l h hv
 have hl:=Lib.decodeL_le l h
 unfold JS Lq
 generalize Lib.decodeL l=x at*
 obtain⟨r,wd⟩:=x
 simp only at*
 by_cases c:32<=r/\r≠34/\r≠92
 ·rw[if_pos c,e,A0s,if_neg (by omega),if_neg (by omega)]
  omega
 ·rw[if_neg c]
  unfold Hu
  repeat' split
  all_goals first
   |rfl
   |(exfalso;simp_all;done)
   |(exfalso;omega)
   |skip
  all_goals
   rename_i hq hr
   rcases hr with rfl|rfl|rfl|rfl|rfl|rfl|rfl<;>simp at hq
theorem RU:∀ (n:Nat) (l:List UInt8),l.length<=n->Lib.validD l=true->(Ej n l).length=Jf n l
 |0,l,_,_=>rfl
 |n+1,l,h,hv=>by
  simp only[Ej,Jf]
  split
  ·rfl
  ·rename_i hn
   rw[Lib.validD_step l hn] at hv
   split at hv
   ·cases hv
   ·rename_i hc
    have h1:=Lib.decodeL_width l
    have h2:0<l.length:=List.length_pos_iff.2 hn
    rw[A08,NR l hn hc,RU n _ (by rw[A0n];omega) hv]
def DT(s:ByteArray):ByteArray:=if B1 s=true then⟨([34]++Ej s.data.toList.length s.data.toList++[34]).toArray⟩ else ByteArray.empty
theorem HM(s:ByteArray):(DT s).size=LK s:=by
 unfold DT LK
 split
 ·rename_i h
  show([34]++Ej s.data.toList.length s.data.toList++[34]).toArray.size=_
  rw[A0H,A08,A08,RU _ _ (A0e _) h]
  simp;omega
 ·rfl
def EG(W W':World):Prop:=∀ (k:Nat) (o:Obj),W.heap[k]? =some o->(∀ r,o≠Obj.loop r)->W'.heap[k]? =some o
theorem EG.below{W W':World}(h:Below W.heap.size W W'):EG W W':=fun k o hk _=>(h.block k (A0F.1 hk).1).trans hk
theorem EG.put{W:World}{l:Nat}{r:Loop}(o':Obj)(h:W.heap[l]? =some (Obj.loop r)):EG W (W.putObj l o'):=fun k o hk ho=>(World.putObj_heap_other (fun e=>by subst e;rw[h] at hk;exact ho r (Option.some.inj hk).symm)).trans hk
theorem Hn{W W':World}(hk:EG W W'){B:Nat}{e:TypeId}{v:Value}{n:Nat}{xs:List Value}(h:W.ownsRowF B e 1 v n xs):W'.ownsRowF B e 1 v n xs:=by
 refine⟨h.1,?_⟩
 rcases h.2 with hn|⟨g,cap,cur,fz,hv,hbg,hg,rest⟩
 ·exact .inl hn
 ·exact .inr ⟨g,cap,cur,fz,hv,hbg,hk g _ hg (fun r e=>by cases e),rest⟩
theorem Lc{W W':World}(hk:EG W W'){B b:Nat}{l:List UInt8}(h:Tryz.bld B b l W):Tryz.bld B b l W':=by
 rcases h with⟨hB,v,hb,ho,hne⟩|⟨hB,v,hb,ho,hne⟩
 ·exact .inl ⟨hB,v,hk _ _ hb (fun r e=>by cases e),Hn hk ho,hne⟩
 ·exact .inr ⟨hB,v,hk _ _ hb (fun r e=>by cases e),Hn hk ho,hne⟩
theorem Ul{W W':World}(hk:EG W W'){m:Nat}(h:ML m W):ML m W':=by
 obtain⟨es,c,hb,rest⟩:=h
 exact⟨es,c,hk _ _ hb (fun r e=>by cases e),rest⟩
theorem WW{W W':World}{b:Nat}(hk:Lib.OthersKept 5 (some b) W W'){m:Nat}(hm:m≠b)(h:ML m W):ML m W':=by
 obtain⟨es,c,hb,rest⟩:=h
 exact⟨es,c,hk _ _ hb (fun e=>hm (Option.some.inj e)) (fun _ _ e=>by cases e),rest⟩
theorem Dz{B b:Nat}{l:List UInt8}{W:World}(h:Tryz.bld B b l W):b<W.heap.size:=by
 rcases h with⟨_,v,hb,_⟩|⟨_,v,hb,_⟩<;>exact (A0F.1 hb).1
theorem letM_ne{B b:Nat}{l:List UInt8}{W:World}{m:Nat}(h:Tryz.bld B b l W)(hm:ML m W):m≠b:=by
 obtain⟨es,c,hb,_⟩:=hm
 rcases h with⟨_,v,hb2,_⟩|⟨_,v,hb2,_⟩<;>(intro e;subst e;rw[hb] at hb2;cases hb2)
theorem Le{W W':World}{b b4:Nat}{l:List UInt8}{B:Nat}(hB:Tryz.bld B b l W)(hk:Lib.OthersKept 5 (some b) W W')(h4:b4≠b){v:Value}(h:W.heap[b4]? =some (.cells #[v] 303 (0,0))):W'.heap[b4]? =some (.cells #[v] 303 (0,0)):=
 hk _ _ h (fun e=>h4 (Option.some.inj e)) (fun _ _ e=>by simp at e)
theorem box_kept{W W':World}{b bx:Nat}(hk:Lib.OthersKept 5 (some b) W W')(hx:bx≠b){v:Value}(h:W.heap[bx]? =some (.cells #[v] 9 (0,0))):W'.heap[bx]? =some (.cells #[v] 9 (0,0)):=
 hk _ _ h (fun e=>hx (Option.some.inj e)) (fun _ _ e=>by simp at e)
theorem Lt{W W':World}{b:Nat}{l:List UInt8}{B:Nat}(hB:Tryz.bld B b l W)(hb:Below B W W')(hk:Lib.OthersKept 5 (some b) W W'):KeepsOthers W W':=
 ⟨hb.size,fun k o hk2 ho=>hk k o hk2 (fun e=>by
  cases e
  rcases hB with⟨_,v,hb2,_⟩|⟨_,v,hb2,_⟩<;>(rw[hk2] at hb2;cases hb2;cases ho)) (fun _ _ e=>by subst e;cases ho)⟩
def MapC(b4:Nat)(W:World):Prop:=W.heap[b4]? =some (.cells #[.map none] 303 (0,0))∨∃ m,W.heap[b4]? =some (.cells #[.map (some m)] 303 (0,0))/\ML m W
theorem MapC.keepL{W W':World}(hk:EG W W'){b4:Nat}(h:MapC b4 W):MapC b4 W':=by
 rcases h with h|⟨m,h1,h2⟩
 ·exact .inl (hk _ _ h (fun r e=>by cases e))
 ·exact .inr ⟨m,hk _ _ h1 (fun r e=>by cases e),Ul hk h2⟩
theorem Fc{W W':World}(hk:EG W W'){b:Nat}{v:Value}{T:TypeId}(h:W.heap[b]? =some (.cells #[v] T (0,0))):W'.heap[b]? =some (.cells #[v] T (0,0)):=hk _ _ h (fun r e=>by cases e)
structure Rh(s:ByteArray)(w0:World)(b4 b bx:Nat)(p:Nat)(W:World):Prop where
 text:∃ acc:List UInt8,Tryz.bld b b acc W/\[34]++Ej s.data.toList.length s.data.toList=acc++Ej (s.data.toList.drop p).length (s.data.toList.drop p)/\acc.length<=6*p+1
 below:Below w0.heap.size w0 W
 blt:w0.heap.size<=b
 ne4:b4≠b
 nex:bx≠b
 box:W.heap[bx]? =some (.cells #[.string s] 9 (0,0))
 map:MapC b4 W
 le:p<=s.size
 ok:Lib.validD (s.data.toList.drop p)=true
theorem Rh.keepL{s:ByteArray}{w0:World}{b4 b bx p:Nat}{W W':World}(h:Rh s w0 b4 b bx p W)(hk:EG W W')(hb:Below w0.heap.size w0 W'):Rh s w0 b4 b bx p W':=by
 obtain⟨⟨acc,h1,h2,h3⟩,h4,q1,q2,q3,h5,h6,h7,h8⟩:=h
 exact⟨⟨acc,Lc hk h1,h2,h3⟩,hb,q1,q2,q3,Fc hk h5,h6.keepL hk,h7,h8⟩
structure Nz(s:ByteArray)(w0:World)(b4 b bx:Nat)(W:World)(acc:List UInt8)(W':World):Prop where
 bld:Tryz.bld b b acc W'
 below:Below w0.heap.size w0 W'
 blt:w0.heap.size<=b
 ne4:b4≠b
 nex:bx≠b
 box:W'.heap[bx]? =some (.cells #[.string s] 9 (0,0))
 map:MapC b4 W'
 keep:KeepsOthers W W'
theorem Rh.start{s:ByteArray}{w0:World}{b4 b bx p:Nat}{W:World}(h:Rh s w0 b4 b bx p W):∃ acc:List UInt8,Nz s w0 b4 b bx W acc W/\[34]++Ej s.data.toList.length s.data.toList=acc++Ej (s.data.toList.drop p).length (s.data.toList.drop p)/\acc.length<=6*p+1:=by
 obtain⟨⟨acc,h1,h2,h3⟩,h4,q1,q2,q3,h5,h6,h7,h8⟩:=h
 exact⟨acc,⟨h1,h4,q1,q2,q3,h5,h6,KeepsOthers.refl _⟩,h2,h3⟩
theorem Nz.write{s:ByteArray}{w0:World}{b4 b bx:Nat}{W W1 W2:World}{acc acc':List UInt8}(h:Nz s w0 b4 b bx W acc W1)(hB:Tryz.bld b b acc' W2)(hb:Below b W1 W2)(hk:Lib.OthersKept 5 (some b) W1 W2):Nz s w0 b4 b bx W acc' W2:=by
 obtain⟨h1,h2,h3,h4,h5,h6,h7,h8⟩:=h
 refine⟨hB,h2.trans (hb.mono h3),h3,h4,h5,box_kept hk h5 h6,?_,h8.trans (Lt h1 hb hk)⟩
 rcases h7 with h7|⟨m,m1,m2⟩
 ·exact .inl (Le h1 hk h4 h7)
 ·exact .inr ⟨m,Le h1 hk h4 m1,WW hk (letM_ne h1 m2) m2⟩
theorem Nz.letters{s:ByteArray}{w0:World}{b4 b bx:Nat}{W W1 W2:World}{acc:List UInt8}(h:Nz s w0 b4 b bx W acc W1)(h0:W1.heap[b4]? =some (.cells #[.map none] 303 (0,0)))(hb:Below W1.heap.size W1 W2){m:Nat}(hm:ML m W2)(hx:bx≠b4)(hw4:w0.heap.size<=b4):
  Nz s w0 b4 b bx W acc (W2.setCell ⟨b4,0,none⟩ (.map (some m)))/\(W2.setCell ⟨b4,0,none⟩ (.map (some m))).heap[b4]? =some (.cells #[.map (some m)] 303 (0,0))/\ML m (W2.setCell ⟨b4,0,none⟩ (.map (some m))):=by
 obtain⟨h1,h2,h3,h4,h5,h6,h7,h8⟩:=h
 have hk:=EG.below hb
 have e4:W2.heap[b4]? =some (.cells #[.map none] 303 (0,0)):=Fc hk h0
 have o:∀ k,k≠b4->(W2.setCell ⟨b4,0,none⟩ (.map (some m))).heap[k]? =W2.heap[k]?:=fun k h=>Below.heap_setCell _ _ _ _ h
 have n4:(W2.setCell ⟨b4,0,none⟩ (.map (some m))).heap[b4]? =some (.cells #[.map (some m)] 303 (0,0)):=by
  simp[World.setCell,Array.getElem?_modify,e4]
 have hm':ML m (W2.setCell ⟨b4,0,none⟩ (.map (some m))):=by
  obtain⟨es,c,hh,rest⟩:=hm
  exact⟨es,c,(o m (fun e=>by subst e;rw[hh] at e4;cases e4)).trans hh,rest⟩
 refine⟨⟨?_,?_,h3,h4,h5,(o _ hx).trans (Fc hk h6),.inr ⟨m,n4,hm'⟩,?_⟩,n4,hm'⟩
 ·have hB:=Lc hk h1
  have hgb:∀ {v:Value} {l:List Value},W2.ownsRowF b 5 1 v l.length l->(W2.setCell ⟨b4,0,none⟩ (.map (some m))).ownsRowF b 5 1 v l.length l:=fun {v l} ho=>by
   refine⟨ho.1,?_⟩
   rcases ho.2 with hn|⟨g,cap,cur,fz,hv,hbg,hg,rest⟩
   ·exact .inl hn
   ·exact .inr ⟨g,cap,cur,fz,hv,hbg,(o g (fun e=>by subst e;rw[hg] at e4;simp at e4)).trans hg,rest⟩
  rcases hB with⟨hB,v,hb,ho,hne⟩|⟨hB,v,hb,ho,hne⟩
  ·exact .inl ⟨hB,v,(o b (fun e=>h4 e.symm)).trans hb,hgb ho,hne⟩
  ·exact .inr ⟨hB,v,(o b (fun e=>h4 e.symm)).trans hb,hgb ho,hne⟩
 ·exact(h2.trans (hb.mono h2.size)).setCell (p:=⟨b4,0,none⟩) hw4 _
 ·exact(h8.trans ⟨hb.size,fun k o hk2 _=>(hb.block k (A0F.1 hk2).1).trans hk2⟩).trans (KeepsOthers.setCell _ _ _)
theorem Nz.next{s:ByteArray}{w0:World}{b4 b bx p:Nat}{W W':World}{acc:List UInt8}(hp:p<s.size)(hv:Lib.validD (s.data.toList.drop p)=true)(e:[34]++Ej s.data.toList.length s.data.toList=acc++Ej (s.data.toList.drop p).length (s.data.toList.drop p))(hl:acc.length<=6*p+1){x:List UInt8}(hx:x=JS (s.data.toList.drop p))(h:Nz s w0 b4 b bx W (acc++x) W'):KeepsOthers W W'/\Rh s w0 b4 b bx (p+(rnA s p).2) W':=by
 obtain⟨v1,v2,v3,v4,v5⟩:=RG hp hv
 subst hx
 obtain⟨h1,h2,h3,h4,h5,h6,h7,h8⟩:=h
 refine⟨h8,⟨⟨_,h1,?_,?_⟩,h2,h3,h4,h5,h6,h7,v3,v2⟩⟩
 ·rw[e,NT _ (Fr hp),List.drop_drop,A05]
  rfl
 ·rw[A08,NR _ (Fr hp) v1]
  have:=(Mk (s.data.toList.drop p)).2
  unfold rnA at*
  omega
theorem Pa{m:Nat}{W:World}(h:ML m W)(r:Nat)(hr:r<=1114111):∃ c:Int,(Instr.lookup 303 (.map (some m)) (.int .i32 r) true).run prog W=.ok (.tuple #[.int .i32 c,.bool (Hu r).isSome]) W/\∀ b,Hu r=some b->c=b.toNat:=by
 have hw:(Lit.int .i32 r).wf=true:=by simp[Lit.wf,IntKind.min,IntKind.max,IntKind.bits,IntKind.signed];omega
 obtain⟨v,ps,hrun,hv⟩:=h.look_ok (Maps.int_keyed underlying21) underlying303 (zeroValue21 W) (plainElem_int underlying21 (q:=.i32) (a:=0) (by decide)) (Maps.keyOf_int_mk underlying21 hw)
 obtain⟨c,rfl,hc,hwc⟩:=plainElem_int_inv underlying21 hv
 rw[letD_has] at hrun
 exact⟨c,hrun,fun b hb=>letD_at r c (congrArg Prod.fst hc) b hb⟩
theorem VF(m:Option Nat)(w:World):(binOp .eql 303 (.map m) (.map none)).run prog w=.ok (.bool m.isNone) w:=by
 have h:(Op.equal 303 (.map m) (.map none)).run prog w=.ok m.isNone w:=GY (P:=prog) (w:=w) 9999 underlying303 m
 simp only[binOp,A0m,h,Result.andThen,A0w]
theorem and_15{r:Nat}(h:r<32):bits BinOp.and IntKind.i32 (r:Int) 15=((r%16:Nat):Int):=by
 have key:∀ i:Fin 32,bits BinOp.and IntKind.i32 (i.val:Int) 15=((i.val%16:Nat):Int):=by decide
 exact key ⟨r,h⟩
theorem Qv{i:Nat}(h:i<16)(h2:i<(⟨#[48,49,50,51,52,53,54,55,56,57,97,98,99,100,101,102]⟩:ByteArray).size):(⟨#[48,49,50,51,52,53,54,55,56,57,97,98,99,100,101,102]⟩:ByteArray)[i]'h2=J9 i:=by
 have key:∀ i:Fin 16,(⟨#[48,49,50,51,52,53,54,55,56,57,97,98,99,100,101,102]⟩:ByteArray)[i.val]'(by show i.val<16;exact i.isLt)=J9 i.val:=by decide
 exact key ⟨i,h⟩
theorem Sg{r:Nat}{b:UInt8}(h:Hu r=some b):Lib.encodeRune b.toNat=[b]/\b.toNat<=127:=by
 unfold Hu at h
 repeat' split at h
 all_goals first
  |(cases h;exact⟨by decide,by decide⟩)
  |cases h
theorem Pb{r:Nat}(h:Hu r=none)(hs:¬(32<=r/\r≠34/\r≠92)):r<32:=by
 unfold Hu at h
 repeat' split at h
 all_goals first
  |(cases h;done)
  |omega
set_option maxHeartbeats 1000000 in
theorem c_valid(n:Nat)(s:ByteArray)(w:World)(hs:s.size<=1048576)(hT:Lib.Utf8Tabs (Tryz.sValid_ren.g 3) (Tryz.sValid_ren.g 4) w):
  CallsIn Fence.wide n prog 196 #[.string s] w fun e w'=>e=.returned (.bool (B1 s))/\Below w.heap.size w w':=by
 have hV:=Any.utf8_ValidString Tryz.sValid s w (A0L hs (by decide)) hT
 refine callsIn_of_wp func196 rfl trivial ?_
 simp only[ntmps196,A0H,A0g,A0i,Nat.reduceAdd,Nat.reduceSub,A1M,A1N,A21,A1r,A09,A07]
 gi_wp2
 refine⟨trivial,fun h=>(by cases h),(callsIn_wide.2 hV).mono ?_⟩
 rintro e w2 ⟨rfl,hb⟩
 gi_wp2
 go_ret
 exact⟨rfl,hb⟩
attribute [local go_sem] Oper.semAt_some
theorem Xj(w:World)(l:List UInt8):(convert 250 9 (.slice (some ⟨w.heap.size,0,none⟩) l.length l.length)).run prog (w.alloc (.cells (Lib.byteCells l).toArray 5))=.ok (.string ⟨l.toArray⟩) (w.alloc (.cells (Lib.byteCells l).toArray 5)):=by
 refine run_convert_bytes_back _ 250 9 5 _ _ l underlying250 underlying5 underlying9 fun j hj=>?_
 have e:(⟨w.heap.size,0,none⟩:Addr).add j=⟨w.heap.size,j,none⟩:=by unfold Addr.add;split<;>simp_all
 rw[e]
 simp only[World.cell?,World.alloc_heap_new w (.cells (Lib.byteCells l).toArray 5)]
 simp[Lib.byteCells,hj]
set_option maxRecDepth 1000000 in
set_option maxHeartbeats 2000000 in
theorem w_Bytes(n:Nat)(r:Nat)(hr:r<=1114111)(hs:¬(55296<=r/\r<=57343))(w:World):
  CallsIn Fence.wide n prog 219 #[.int .i64 r] w fun e w'=>e=.returned (.string ⟨(Lib.encodeRune r).toArray⟩)/\Below w.heap.size w w':=by
 refine callsIn_of_wp func219 rfl trivial ?_
 simp only[ntmps219,A0H,A0g,A0i,Nat.reduceAdd,Nat.reduceSub,A1M,A1N,A21,A1r,A09,A07]
 have e:=Lib.byteCells_encodeRune (r:Int)
 have hcv:=Xj w (Lib.encodeRune r)
 rw[e] at hcv
 have hln:(Lib.encodeRune (r:Int)).length=(Lib.runeCells (r:Int)).length:=by rw[<-e,Lib.byteCells_length]
 rw[hln] at hcv
 unfold Lib.runeCells at hcv
 clear hln e
 generalize(⟨(Lib.encodeRune (r:Int)).toArray⟩:ByteArray)=q at*
 by_cases c1:r<128
 ·have:(r:Int)<128:=by omega
  rw[Lib.encodeRuneZ_one (by omega) (by omega)] at hcv
  simp only[A0k,A0S,A0g,A0i] at hcv
  gi_wp2
  go_ret
  exact⟨rfl,(Below.refl _ w).alloc (A0e _) _⟩
 ·by_cases c2:r<2048
  ·rw[Lib.encodeRuneZ_two (by omega) (by omega)] at hcv
   simp only[A0k,A0S,A0g,A0i] at hcv
   gi_wp2
   go_ret
   exact⟨rfl,(Below.refl _ w).alloc (A0e _) _⟩
  ·by_cases c3:r<65536
   ·rw[Lib.encodeRuneZ_three (by omega)] at hcv
    simp only[A0k,A0S,A0g,A0i] at hcv
    gi_wp2
    go_ret
    exact⟨rfl,(Below.refl _ w).alloc (A0e _) _⟩
   ·rw[Lib.encodeRuneZ_four (by omega) (by omega)] at hcv
    simp only[A0k,A0S,A0g,A0i] at hcv
    gi_wp2
    go_ret
    exact⟨rfl,(Below.refl _ w).alloc (A0e _) _⟩
end Go.Proofs
