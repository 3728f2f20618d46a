/- The layer by which the program is walked, and what its functions do: part 15 of 16. -/
import Derived.Test.YtjopicjammmbjaaGreatDoorV13
set_option maxHeartbeats 4000000
set_option maxRecDepth 20000
set_option linter.unusedVariables false
set_option linter.unusedSimpArgs false
set_option linter.unnecessarySimpa false
set_option linter.unusedSectionVars false
namespace Go.Ab
open Go.Proofs Go.Proofs.Tryz Go.RowKit Go.Shelf
theorem RW:∀ {l:List GE} {e:GE},(∀ x ∈ l,ltS x.1 e.1=true)->AU e l=l++[e]
 |[],_,_=>rfl
 |x::l,e,h=>by
  simp only[AU]
  rw[if_pos (h x (by simp)),RW fun y hy=>h y (by simp[hy])]
  rfl
theorem Sx(k:ByteArray)(L:List GE):(Ah k L).isSome=CG k L:=by
 unfold Ah CG
 rw[Option.isSome_map]
 induction L with
 |nil=>rfl
 |cons x L ih=>
  simp only[List.find?_cons,List.any_cons]
  cases decide (x.1=k)<;>simp [ih]
theorem Sd{p t:ByteArray}{L:List GE}{e:GE}{b:List GE}:∀ {a:List GE},(∀ x ∈ a,mvF p t L x=0)->mvF p t L e≠0->(Gu p t L (a++e::b)).1=mvF p t L e
 |[],_,h=>by rw[A09,JZ,if_pos h]
 |x::a,h0,h=>by
  rw[A07,JZ,if_neg (by simp[h0 x (by simp)])]
  exact Sd (a:=a) (fun y hy=>h0 y (by simp[hy])) h
theorem RH(k p:ByteArray)(h:C1 k p=true):Hh k p=k.extract p.size k.size:=by
 have hl:k.data.toList.length=k.size:=rfl
 have hp:p.size=p.data.toList.length:=rfl
 unfold C1 at h
 unfold Hh Lib.trimPrefix
 rw[if_pos h]
 apply ByteArray.ext
 rw[ByteArray.data_extract]
 apply Array.ext'
 rw[Array.toList_extract]
 show _=(k.data.toList.drop p.size).take (k.size-p.size)
 rw[A0f (by rw[A0n];omega),hp]
theorem XK{p:ByteArray}{L:List GE}{i:Nat}(hi:i<L.length):Bs p (L.take (i+1))=Bs p (L.take i)++(if C1 (L.getD i zM).1 p then [L.getD i zM] else [])/\E3 p (L.take (i+1))=E3 p (L.take i)++(if C1 (L.getD i zM).1 p then [] else [L.getD i zM]):=by
 have e:L[i]=L.getD i zM:=by rw[A03,A06 hi];rfl
 unfold Bs E3
 rw[A10 hi,A1B,A1B,e]
 generalize L.getD i zM=x at*
 cases hb:C1 x.1 p<;>simp [hb,List.filter_cons]
theorem A01{p:ByteArray}{L:List GE}{i:Nat}(hi:i<L.length)(hb:C1 (L.getD i zM).1 p=true):Bs p L=Bs p (L.take i)++L.getD i zM::Bs p (L.drop (i+1)):=by
 conv=>lhs;rw[<-A0R i L,BI (d:=zM) hi]
 unfold Bs
 rw[A1B,List.filter_cons,if_pos hb]
theorem r_move(L:List GE)(h:VOk L)(hn:L.length<=100000)(p t:ByteArray)(hp:p.size<=1048576)(ht:t.size<=1048576):
  A3 prog 67 [AR L,.val (.string p),.val (.string t)] (.tup [AR (if(CP Al p t L).1=0 then(CP Al p t L).2 else L),.val (.int .i64 (CP Al p t L).1)]):=by
 have oM:=A7 L
 have hks:∀ e ∈ L,e.1.size<=64:=fun e he=>E6 (h.key e he)
 obtain⟨c,hc⟩:∃ c,c=(CP Al p t L).1:=⟨_,rfl⟩
 obtain⟨R,hR⟩:∃ R,R=(if(CP Al p t L).1=0 then(CP Al p t L).2 else L):=⟨_,rfl⟩
 rw[<-hR,<-hc]
 have herr:∀ i,i<L.length->(∀ x ∈ Bs p (L.take i),mvF p t L x=0)->C1 (L.getD i zM).1 p=true->mvF p t L (L.getD i zM)≠0->c=mvF p t L (L.getD i zM)/\R=L:=fun i hi h0 hb hf=>by
  have e:=Sd (b:=Bs p (L.drop (i+1))) h0 hf
  rw[<-A01 hi hb] at e
  have e2:(CP Al p t L).1=mvF p t L (L.getD i zM):=by
   unfold CP
   rw[if_pos (by rw[e];exact hf)]
   exact e
  exact⟨hc.trans e2,by rw[hR,e2,if_neg hf]⟩
 refine Zf [] func67 rfl ntmps67 results67 ?_
 (have z:=oM;(try push_cast[z])<;>repeat' (first|apply Zi<;>intro _|exact Zo|with_reducible apply Za)<;>try push_cast[z])
 refine Zl (fun i=>i<=L.length/\∀ x ∈ Bs p (L.take i),mvF p t L x=0) (fun i=>⟨[(10,.val (.int .i64 i)),(9,.gref 56 ((Bs p (L.take i)).map (mvT p t)).length),(8,.ref 24 0 0 1),(0,AR L),(1,.val (.string p)),(2,.val (.string t))],[(24,mB (E3 p (L.take i))),(56,.grow (((Bs p (L.take i)).map (mvT p t)).map Ac) 7)],60⟩) (fun i=>L.length-i) 0 ⟨A0t _,by simp[Bs]⟩ ?_ fun i hi=>?_
 ·refine Ar.trans (s':=⟨[(9,.slice [] true),(10,.val (.int .i64 0)),(8,.ref 24 0 0 1),(0,AR L),(1,.val (.string p)),(2,.val (.string t))],[(24,.rows [[.slice [] true]] 1)],28⟩) ?_ ?_
  ·apply Zw<;>push_cast [oM]
  refine Ar.trans (Ar.nilgrowE 7) ?_
  have e1:Bs p (L.take 0)=[]:=by simp[Bs]
  have e2:E3 p (L.take 0)=[]:=by simp[E3]
  rw[e1,e2]
  apply Zw<;>push_cast [oM]
  all_goals exact fun h=>h.elim
 ·obtain⟨h1,h2⟩:=hi
  push_cast[oM]
  refine A6 (fun ha=>?_) (fun ha=>?_)
  ·have hi':i<L.length:=by simpa using ha
   have e1:=AV hi'
   have hmem:=Ad (d:=zM) hi'
   obtain⟨tb,tn⟩:=XK (p:=p) hi'
   have hk:=hks _ hmem
   have hB:=RP (L.getD i zM).1 p (by omega)
   have w1:IntKind.i64.wrap (↑i+1)=↑i+1:=A9 (by omega) (by omega)
   have herr':=herr i hi' h2
   cases hb:C1 (L.getD i zM).1 p with
   |false=>
    rw[hb] at hB tb tn
    simp only[A0q,if_false,A0E] at tb tn
    have hlt:∀ x ∈ E3 p (L.take i),ltS x.1 (L.getD i zM).1=true:=fun x hx=>by
     have hx':=(A11.1 hx).1
     obtain⟨j,hj,rfl⟩:=List.getElem_of_mem hx'
     rw[A0s] at hj
     have:=LP h.srt (i:=j) (j:=i) (by omega) hi'
     rw[List.getElem_take]
     rwa[show L.getD j zM=L[j] by rw[A03,A06 (by omega)];rfl] at this
    have hnl:(E3 p (L.take i)).length<=i:=by
     have:=A0Y (fun e:GE=>!C1 e.1 p) (L.take i)
     rw[A0s] at this
     unfold E3;omega
    have hPut:=c_MPut (E3 p (L.take i)) (L.getD i zM) (by omega)
    rw[Kb,RW hlt,<-tn] at hPut
    have o1:=A7 (E3 p (L.take i))
    have o2:=A7 (E3 p (L.take (i+1)))
    have o3:=A7 ((Bs p (L.take i)).map (mvT p t))
    rw[A0] at hPut
    have e1':nr (L.map Ac) i=.val (.string (L.getD i zM).1)::Aa (L.getD i zM).2:=e1
    rw[A0] at e1'
    clear herr herr' hc hR
    generalize L.getD i zM=x at*
    obtain⟨xk,xv⟩:=x
    simp only at*
    (have z:=Za oM<|Za e1'<|Za o1<|Za o2 o3;(try push_cast[z])<;>repeat' (first|apply Zi<;>intro _|refine Zc hB ?_|refine Zs [(1,24)] (hPut ..) ?_|exact Zo|with_reducible apply Za)<;>try push_cast[z])
    all_goals first|omega|skip
    refine⟨i+1,⟨hi',by rw[tb];exact h2⟩,by omega,?_⟩
    rw[tb]
    apply Zw<;>push_cast [oM,o2,o3]
    all_goals first|exact w1|skip
   |true=>
    rw[hb] at hB tb tn
    simp only[if_true,A0E] at tb tn
    have hM:=JV (BL (L.getD i zM).1 p t) (by unfold BL;rw[RH _ _ hb,A15,ByteArray.size_extract];omega)
    have hG:=Ve h.srt (by omega:L.length<=1048575) (BL (L.getD i zM).1 p t)
    have hB2:=fun hh=>RP (BL (L.getD i zM).1 p t) p hh
    have hmv:mvF p t L (L.getD i zM)=if C7 (BL (L.getD i zM).1 p t)≠0 then 8 else if(Ah (BL (L.getD i zM).1 p t) L).isSome=true/\C1 (BL (L.getD i zM).1 p t) p=false then 13 else 0:=by
     unfold mvF;rw[Sx]
    have hnk:BL (L.getD i zM).1 p t=t++(L.getD i zM).1.extract p.size (L.getD i zM).1.size:=by unfold BL;rw[RH _ _ hb]
    have hbl:p.size<=(L.getD i zM).1.size:=by
     unfold C1 Lib.hasPrefix at hb
     exact(List.isPrefixOf_iff_prefix.1 hb).length_le
    have hgl:(Bs p (L.take i)).length<=i:=by
     have:=A0Y (fun e:GE=>C1 e.1 p) (L.take i)
     rw[A0s] at this
     unfold Bs;omega
    have hsz:(BL (L.getD i zM).1 p t).size<=2097152:=by rw[hnk,A15,ByteArray.size_extract];omega
    have hB3:=hB2 (by omega)
    have o1:=A7 (E3 p (L.take i))
    have o3:=A7 ((Bs p (L.take i)).map (mvT p t))
    have e1':nr (L.map Ac) i=.val (.string (L.getD i zM).1)::Aa (L.getD i zM).2:=e1
    rw[A0] at e1' hG
    clear hB2 herr hc hR
    obtain⟨nk,hnk2⟩:∃ nk,nk=BL (L.getD i zM).1 p t:=⟨_,rfl⟩
    have hfin:C7 nk=0->((Ah nk L).isSome=true->C1 nk p=true)->mvF p t L (L.getD i zM)=0:=fun q1 q2=>by
     rw[hmv,<-hnk2,if_neg (by simp[q1]),if_neg (fun hh=>by rw[q2 hh.1] at hh;exact absurd hh.2 (by decide))]
    rw[<-hnk2] at hM hG hmv hnk hsz hB3
    have hmT:mvT p t (L.getD i zM)=(nk,(L.getD i zM).2):=by rw[hnk2]
    generalize AH (Ah nk L)=gv at*
    generalize(Ah nk L).isSome=gx at*
    clear hnk2
    generalize L.getD i zM=x at*
    obtain⟨xk,xv⟩:=x
    simp only at*
    have zx:(xk.extract p.size xk.size).size=xk.size-p.size:=by rw[ByteArray.size_extract];omega
    by_cases hky:C7 nk=0
    case neg=>
     have b1:(C7 nk !=0)=true:=by simpa using hky
     rw[if_pos hky] at hmv
     obtain⟨q1,q2⟩:=herr' hb (by rw[hmv];decide)
     rw[q1,q2,hmv]
     (have z:=Za oM<|Za e1'<|Za o1<|Za o3<|Za b1<|Za zx (hnk).symm;(try push_cast[z])<;>repeat' (first|apply Zi<;>intro _|refine Zc hB ?_|refine Zc hM ?_|exact Zo|with_reducible apply Za)<;>try push_cast[z])
     all_goals first|omega|skip
    rw[hky] at hM
    by_cases hbad:gx=true/\C1 nk p=false
    ·obtain⟨g1,g2⟩:=hbad
     rw[if_neg (by simp[hky]),if_pos ⟨g1,g2⟩] at hmv
     obtain⟨q1,q2⟩:=herr' hb (by rw[hmv];decide)
     rw[q1,q2,hmv]
     subst g1
     rw[g2] at hB3
     (have z:=Za oM<|Za e1'<|Za o1<|Za o3<|Za zx (hnk).symm;(try push_cast[z])<;>repeat' (first|apply Zi<;>intro _|refine Zc hB ?_|refine Zc hM ?_|refine Zc hG ?_|refine Zc hB3 ?_|exact Zo|with_reducible apply Za)<;>try push_cast[z])
     all_goals first|omega|skip
    ·have hf0:=hfin hky (fun hh=>by
      cases hq:C1 nk p with
      |true=>rfl
      |false=>exact absurd ⟨hh,hq⟩ hbad)
     have h2':∀ x ∈ Bs p (L.take (i+1)),mvF p t L x=0:=fun x hx=>by
      rw[tb] at hx
      rcases A1a.1 hx with hx|hx
      ·exact h2 x hx
      ·rw[A0d.1 hx];exact hf0
     have et:((Bs p (L.take (i+1))).map (mvT p t))=(Bs p (L.take i)).map (mvT p t)++[(nk,xv)]:=by rw[tb,A12,A0k,A0S,hmT]
     have o4:=A7 ((Bs p (L.take (i+1))).map (mvT p t))
     have hG1:((Bs p (L.take i)).map (mvT p t)).length<=i:=by rw[A0b];exact hgl
     rw[et] at o4
     have hmm:(((Bs p (L.take i)).map (mvT p t))++[(nk,xv)]).map Ac=(((Bs p (L.take i)).map (mvT p t))).map Ac++[.val (.string nk)::Aa xv]:=by rw[A12];rfl
     rw[hmm,A0 xv] at o4
     have hl2:(Bs p (L.take (i+1))).length=(Bs p (L.take i)).length+1:=by rw[tb];simp
     cases gx with
     |false=>
      (have z:=Za oM<|Za e1'<|Za o1<|Za o3<|Za o4<|Za zx (hnk).symm;(try push_cast[z])<;>repeat' (first|apply Zi<;>intro _|refine Zc hB ?_|refine Zc hM ?_|refine Zc hG ?_|exact Zo|with_reducible apply Za)<;>try push_cast[z])
      all_goals first|omega|(intro y hy;cases hy;done)|(intro y hy;cases A0d.1 hy;rfl)|exact B4 _|(intro y hy d hd;cases A0d.1 hy;simp only[A0o,A1i,or_false] at hd;rcases hd with rfl|rfl|rfl|rfl|rfl|rfl|rfl<;>rfl)|skip
      refine⟨i+1,⟨hi',h2'⟩,by omega,?_⟩
      rw[tn,et,hmm,A0 xv,hl2]
      apply Zr [(56,584)] rfl<;>push_cast [oM,o1,o3,o4]
      all_goals first|exact w1|skip
     |true=>
      have hbt:C1 nk p=true:=by
       cases hq:C1 nk p with
       |true=>rfl
       |false=>exact absurd ⟨rfl,hq⟩ hbad
      rw[hbt] at hB3
      (have z:=Za oM<|Za e1'<|Za o1<|Za o3<|Za o4<|Za zx (hnk).symm;(try push_cast[z])<;>repeat' (first|apply Zi<;>intro _|refine Zc hB ?_|refine Zc hM ?_|refine Zc hG ?_|refine Zc hB3 ?_|exact Zo|with_reducible apply Za)<;>try push_cast[z])
      all_goals first|omega|(intro y hy;cases hy;done)|(intro y hy;cases A0d.1 hy;rfl)|exact B4 _|(intro y hy d hd;cases A0d.1 hy;simp only[A0o,A1i,or_false] at hd;rcases hd with rfl|rfl|rfl|rfl|rfl|rfl|rfl<;>rfl)|skip
      refine⟨i+1,⟨hi',h2'⟩,by omega,?_⟩
      rw[tn,et,hmm,A0 xv,hl2]
      apply Zr [(56,584)] rfl<;>push_cast [oM,o1,o3,o4]
      all_goals first|exact w1|skip
  ·have hi':i=L.length:=by simp at ha;omega
   subst hi'
   rw[A0Q] at h2|-
   have hfits:∀ e ∈ (Bs p L).map (mvT p t),C7 e.1=0/\Al e.2=0/\Sm e.2:=fun e he=>by
    obtain⟨x,hx,rfl⟩:=A0j.1 he
    have hx':x ∈ L:=(A11.1 hx).1
    have hm0:=h2 x hx
    refine⟨?_,h.fit x hx',h.sm x hx'⟩
    unfold mvF at hm0
    split at hm0
    ·exact absurd hm0 (by decide)
    ·rename_i hq;simpa using hq
   have hmv:CP Al p t L=(0,Dg ((Bs p L).map (mvT p t)) (E3 p L)):=by
    unfold CP
    rw[MB h2,if_neg (by simp),Hm fun e he=>by
     obtain⟨q1,q2,q3⟩:=hfits e he
     unfold Bv;rw[if_pos q1,q2]]
   rw[hmv] at hc hR
   simp only[if_true] at hR
   have hR0:VOk (E3 p L):=h.sub List.filter_sublist
   have hlen:(E3 p L).length+((Bs p L).map (mvT p t)).length<=200000:=by
    have a1:=A0Y (fun e:GE=>C1 e.1 p) L
    have a2:=A0Y (fun e:GE=>!C1 e.1 p) L
    rw[A0b]
    unfold E3 Bs;omega
   have hGl:(Bs p L).length=((Bs p L).map (mvT p t)).length:=by rw[A0b]
   generalize(Bs p L).map (mvT p t)=G at*
   generalize E3 p L=R0 at*
   subst hc
   have oG:=A7 G
   have o0:=A7 R0
   clear herr hmv h2
   (have z:=Za oM<|Za oG o0;(try push_cast[z])<;>repeat' (first|apply Zi<;>intro _|exact Zo|with_reducible apply Za)<;>try push_cast[z])
   all_goals first|omega|skip
   rw[hGl]
   refine Zl (fun i=>i<=G.length) (fun i=>⟨[(16,.val (.int .i64 i)),(15,.val (.int .i64 0)),(9,.slice (G.map Ac) false),(8,AR (Dg (G.take i) R0))],[],200⟩) (fun i=>G.length-i) 0 (A0t _) ?_ fun i hi=>?_
   ·refine Ar.trans (Ar.fzB (b:=56) (x:=.grow (G.map Ac) 7) rfl) ?_
    refine Ar.trans (Ar.fzB (b:=24) (x:=mB R0) rfl) ?_
    have e0:Dg (G.take 0) R0=R0:=by simp[Dg]
    rw[e0]
    push_cast[oM,oG,o0]
    apply Zw<;>push_cast [oM,oG,o0]
   ·obtain⟨hRk,hRl⟩:=MS (g:=G.take i) (R:=R0) (fun e he=>hfits e (A0W he)) hR0
    have oR:=A7 (Dg (G.take i) R0)
    push_cast[oM,oG,oR]
    refine A6 (fun ha=>?_) (fun ha=>?_)
    ·have hi':i<G.length:=by simpa using ha
     have e1:=AV hi'
     have hm:=Ad (d:=zM) hi'
     obtain⟨q1,q2,q3⟩:=hfits _ hm
     have w1:IntKind.i64.wrap (↑i+1)=↑i+1:=A9 (by omega) (by omega)
     have hl:(Dg (G.take i) R0).length<=1048575:=by rw[A0s] at hRl;omega
     have hFt:=KH (G.getD i zM).2 q3 (by have:=QA q2;omega)
     rw[q2] at hFt
     have hP:=Q1 hl (G.getD i zM).1 (G.getD i zM).2 (by have:=E6 q1;omega) 0 hFt
     have hz:Bv 0 (G.getD i zM).1=0:=by unfold Bv;rw[if_pos q1]
     rw[hz,if_pos rfl] at hP
     have hfs:Dg (G.take (i+1)) R0=AU (G.getD i zM) (Dg (G.take i) R0):=by
      rw[A10 hi',MR]
      congr 1
      rw[A03,A06 hi'];rfl
     have hP2:A3 prog 61 [AR (Dg (G.take i) R0),.val (.string (G.getD i zM).1),.agg (Aa (G.getD i zM).2)] (.tup [AR (Dg (G.take (i+1)) R0),.val (.int .i64 0)]):=by rw[hfs];exact hP
     have oR2:=A7 (Dg (G.take (i+1)) R0)
     clear hP hfs hRk hRl
     have e1':nr (G.map Ac) i=.val (.string (G.getD i zM).1)::Aa (G.getD i zM).2:=e1
     rw[A0] at e1' hP2
     generalize G.getD i zM=x at*
     generalize Dg (G.take i) R0=R1 at*
     (have z:=Za oM<|Za oG<|Za oR<|Za oR2 e1';(try push_cast[z])<;>repeat' (first|apply Zi<;>intro _|refine Zc hP2 ?_|exact Zo|with_reducible apply Za)<;>try push_cast[z])
     all_goals first|omega|skip
     refine⟨i+1,hi',by omega,?_⟩
     apply Zw<;>push_cast [oR2]
     all_goals first|exact w1|skip
    ·have hi':i=G.length:=by simp at ha;omega
     subst hi'
     rw[A0Q] at oR|-
     rw[hR]
     (have z:=oR;(try push_cast[z])<;>repeat' (first|apply Zi<;>intro _|exact Zo|with_reducible apply Za)<;>try push_cast[z])
     all_goals first|omega|skip
theorem A4.sz{P:Program}{f:FuncId}{ds:List D}{H:Hp}{r:D}{H':Hp}(he:Bc P f=true)(h:szL ds->A4 P f ds H r H'):A4 P f ds H r H':=by
 unfold A4
 exact⟨he,fun w M0 G I mu vs hga hdl hw hr=>by
  have hs:szL ds:=Fx fun i hi=>(hr.2 i hi).sz
  have:=h hs
  unfold A4 at this
  exact this.2 w M0 G I mu vs hga hdl hw hr⟩
section
variable{L X:List GE}{m:GM}{c:Int}
theorem r_step1(hk:m.kind=1)(hP:A3 prog 61 [AR L,.val (.string m.key),.agg (Aa m.value)] (.tup [AR X,.val (.int .i64 c)])):
  A4 prog 44 [AR L,.agg (Aj m)] [] (.tup [AR X,.val (.int .i64 c)]) []:=by
 have oM:=A7 L
 have oX:=A7 X
 rw[A0] at hP
 rw[Ae,A0 m.was,A0 m.value,hk]
 simp only[A07,A09,A05]
 refine Zd [8] func44 rfl ntmps44 results44 ?_
 (have z:=Za oM oX;(try push_cast[z])<;>repeat' (first|apply Zi<;>intro _|refine Zc hP ?_|exact Zo|with_reducible apply Za)<;>try push_cast[z])
 apply Zw<;>push_cast [oX]
theorem r_step3(hk:m.kind=3)(hP:A3 prog 64 [AR L,.val (.string m.key),.val (.int .i64 m.n)] (.tup [AR X,.val (.int .i64 c)])):
  A4 prog 44 [AR L,.agg (Aj m)] [] (.tup [AR X,.val (.int .i64 c)]) []:=by
 have oM:=A7 L
 have oX:=A7 X
 rw[Ae,A0 m.was,A0 m.value,hk]
 simp only[A07,A09,A05]
 refine Zd [8] func44 rfl ntmps44 results44 ?_
 (have z:=Za oM oX;(try push_cast[z])<;>repeat' (first|apply Zi<;>intro _|refine Zc hP ?_|exact Zo|with_reducible apply Za)<;>try push_cast[z])
 apply Zw<;>push_cast [oX]
theorem r_step5(hk:m.kind=5)(hP:A3 prog 66 [AR L,.val (.string m.key),.agg (Aa m.value)] (.tup [AR X,.val (.int .i64 c)])):
  A4 prog 44 [AR L,.agg (Aj m)] [] (.tup [AR X,.val (.int .i64 c)]) []:=by
 have oM:=A7 L
 have oX:=A7 X
 rw[A0] at hP
 rw[Ae,A0 m.was,A0 m.value,hk]
 simp only[A07,A09,A05]
 refine Zd [8] func44 rfl ntmps44 results44 ?_
 (have z:=Za oM oX;(try push_cast[z])<;>repeat' (first|apply Zi<;>intro _|refine Zc hP ?_|exact Zo|with_reducible apply Za)<;>try push_cast[z])
 apply Zw<;>push_cast [oX]
theorem r_step6(hk:m.kind=6)(hP:A3 prog 67 [AR L,.val (.string m.key),.val (.string m.to)] (.tup [AR X,.val (.int .i64 c)])):
  A4 prog 44 [AR L,.agg (Aj m)] [] (.tup [AR X,.val (.int .i64 c)]) []:=by
 have oM:=A7 L
 have oX:=A7 X
 rw[Ae,A0 m.was,A0 m.value,hk]
 simp only[A07,A09,A05]
 refine Zd [8] func44 rfl ntmps44 results44 ?_
 (have z:=Za oM oX;(try push_cast[z])<;>repeat' (first|apply Zi<;>intro _|refine Zc hP ?_|exact Zo|with_reducible apply Za)<;>try push_cast[z])
 apply Zw<;>push_cast [oX]
theorem YH(hk:m.kind=2)(hn:L.length<=1048575)(h:C5 L m.key=false):
  A4 prog 44 [AR L,.agg (Aj m)] [] (.tup [AR L,.val (.int .i64 12)]) []:=by
 have oM:=A7 L
 have hC:=HH L (by omega)
 have hD:=VS L m.key hn h
 rw[Ae,A0 m.was,A0 m.value,hk]
 simp only[A07,A09,A05]
 refine Zd [8] func44 rfl ntmps44 results44 ?_
 (have z:=oM;(try push_cast[z])<;>repeat' (first|apply Zi<;>intro _|refine Zs [] hC ?_|refine Zs [(1,90)] hD ?_|exact Zo|with_reducible apply Za)<;>try push_cast[z])
 apply Zw<;>push_cast [oM]
theorem YG(hk:m.kind=2)(hn:L.length<=1048575)(h:C5 L m.key=true):
  A4 prog 44 [AR L,.agg (Aj m)] [] (.tup [AR (C6 L (AB L m.key)),.val (.int .i64 0)]) []:=by
 have oM:=A7 L
 have oX:=A7 (C6 L (AB L m.key))
 have hC:=HH L (by omega)
 have hD:=VR L m.key hn h
 rw[Ae,A0 m.was,A0 m.value,hk]
 simp only[A07,A09,A05]
 refine Zd [8] func44 rfl ntmps44 results44 ?_
 (have z:=Za oM oX;(try push_cast[z])<;>repeat' (first|apply Zi<;>intro _|refine Zs [] hC ?_|refine Zs [(1,90)] hD ?_|exact Zo|with_reducible apply Za)<;>try push_cast[z])
 refine Ar.trans (Ar.fzB (b:=90) (x:=mB (C6 L (AB L m.key))) rfl) ?_
 push_cast[oX]
 apply Zw<;>push_cast [oX]
theorem YD(hk:m.kind=4)(hA:A3 prog 65 [AR L,.val (.string m.key),.val (.bool m.had),.agg (Aa m.was)] (.val (.bool false))):A4 prog 44 [AR L,.agg (Aj m)] [] (.tup [AR L,.val (.int .i64 13)]) []:=by
 have oM:=A7 L
 rw[A0] at hA
 rw[Ae,A0 m.was,A0 m.value,hk]
 simp only[A07,A09,A05]
 refine Zd [8] func44 rfl ntmps44 results44 ?_
 (have z:=oM;(try push_cast[z])<;>repeat' (first|apply Zi<;>intro _|refine Zc hA ?_|exact Zo|with_reducible apply Za)<;>try push_cast[z])
 apply Zw<;>push_cast [oM]
theorem YC(hk:m.kind=4)(hh:m.has=true)(hA:A3 prog 65 [AR L,.val (.string m.key),.val (.bool m.had),.agg (Aa m.was)] (.val (.bool true)))(hP:A3 prog 61 [AR L,.val (.string m.key),.agg (Aa m.value)] (.tup [AR X,.val (.int .i64 c)])):A4 prog 44 [AR L,.agg (Aj m)] [] (.tup [AR X,.val (.int .i64 c)]) []:=by
 rw[A0] at hP
 have oM:=A7 L
 have oX:=A7 X
 rw[A0] at hA
 rw[Ae,A0 m.was,A0 m.value,hk,hh]
 simp only[A07,A09,A05]
 refine Zd [8] func44 rfl ntmps44 results44 ?_
 (have z:=Za oM oX;(try push_cast[z])<;>repeat' (first|apply Zi<;>intro _|refine Zc hA ?_|refine Zc hP ?_|exact Zo|with_reducible apply Za)<;>try push_cast[z])
 apply Zw<;>push_cast [oX]
theorem YF(hk:m.kind=4)(hh:m.has=false)(hn:L.length<=1048575)(h:C5 L m.key=false)(hA:A3 prog 65 [AR L,.val (.string m.key),.val (.bool m.had),.agg (Aa m.was)] (.val (.bool true))):A4 prog 44 [AR L,.agg (Aj m)] [] (.tup [AR L,.val (.int .i64 0)]) []:=by
 have hC:=HH L (by omega)
 have hD:=VS L m.key hn h
 have oM:=A7 L
 rw[A0] at hA
 rw[Ae,A0 m.was,A0 m.value,hk,hh]
 simp only[A07,A09,A05]
 refine Zd [8] func44 rfl ntmps44 results44 ?_
 (have z:=oM;(try push_cast[z])<;>repeat' (first|apply Zi<;>intro _|refine Zc hA ?_|refine Zs [] hC ?_|refine Zs [(1,210)] hD ?_|exact Zo|with_reducible apply Za)<;>try push_cast[z])
 refine Ar.trans (Ar.fzB (b:=210) (x:=mB L) rfl) ?_
 push_cast[oM]
 apply Zw<;>push_cast [oM]
theorem YE(hk:m.kind=4)(hh:m.has=false)(hn:L.length<=1048575)(h:C5 L m.key=true)(hA:A3 prog 65 [AR L,.val (.string m.key),.val (.bool m.had),.agg (Aa m.was)] (.val (.bool true))):A4 prog 44 [AR L,.agg (Aj m)] [] (.tup [AR (C6 L (AB L m.key)),.val (.int .i64 0)]) []:=by
 have hC:=HH L (by omega)
 have hD:=VR L m.key hn h
 have oX:=A7 (C6 L (AB L m.key))
 have oM:=A7 L
 rw[A0] at hA
 rw[Ae,A0 m.was,A0 m.value,hk,hh]
 simp only[A07,A09,A05]
 refine Zd [8] func44 rfl ntmps44 results44 ?_
 (have z:=Za oM oX;(try push_cast[z])<;>repeat' (first|apply Zi<;>intro _|refine Zc hA ?_|refine Zs [] hC ?_|refine Zs [(1,210)] hD ?_|exact Zo|with_reducible apply Za)<;>try push_cast[z])
 refine Ar.trans (Ar.fzB (b:=210) (x:=mB (C6 L (AB L m.key))) rfl) ?_
 push_cast[oX]
 apply Zw<;>push_cast [oX]
theorem YB(hk:m.kind=7)(hA:A3 prog 65 [AR L,.val (.string m.key),.val (.bool m.had),.agg (Aa m.was)] (.val (.bool false))):A4 prog 44 [AR L,.agg (Aj m)] [] (.tup [AR L,.val (.int .i64 13)]) []:=by
 have oM:=A7 L
 rw[A0] at hA
 rw[Ae,A0 m.was,A0 m.value,hk]
 simp only[A07,A09,A05]
 refine Zd [8] func44 rfl ntmps44 results44 ?_
 (have z:=oM;(try push_cast[z])<;>repeat' (first|apply Zi<;>intro _|refine Zc hA ?_|exact Zo|with_reducible apply Za)<;>try push_cast[z])
 apply Zw<;>push_cast [oM]
theorem V8(hk:m.kind=7)(hlen:m.list.length<=1048576)(hA:A3 prog 65 [AR L,.val (.string m.key),.val (.bool m.had),.agg (Aa m.was)] (.val (.bool true)))(G:Nat->List GE)(h0:G 0=L)(J:Nat)(hJ:J<=m.list.length)
  (h1:∀ i,i<J->A4 prog 44 [AR (G i),.agg (Aj (m.list.getD i zU))] [] (.tup [AR (G (i+1)),.val (.int .i64 0)]) [])
  (h2:J<m.list.length->∃ Y,c≠0/\X=L/\A4 prog 44 [AR (G J),.agg (Aj (m.list.getD J zU))] [] (.tup [AR Y,.val (.int .i64 c)]) [])
  (h3:J=m.list.length->c=0/\X=G J):A4 prog 44 [AR L,.agg (Aj m)] [] (.tup [AR X,.val (.int .i64 c)]) []:=by
 have oM:=A7 L
 have oX:=A7 X
 rw[A0] at hA
 rw[Ae,A0 m.was,A0 m.value,hk]
 simp only[A07,A09,A05]
 refine Zd [8] func44 rfl ntmps44 results44 ?_
 (have z:=oM;(try push_cast[z])<;>repeat' (first|apply Zi<;>intro _|refine Zc hA ?_|exact Zo|with_reducible apply Za)<;>try push_cast[z])
 refine Zl (fun i=>i<=J) (fun i=>⟨[(9,.val (.int .i64 i)),(8,AR (G i)),(3,.ptr [.val (.int .i64 7),.val (.string m.key),.val (.string m.to),.val (.int .i64 m.n),.val (.bool m.had),.val (.int .i64 m.was.kind),.val (.bool m.was.b),.val (.int .i64 m.was.n),.val (.string m.was.s),.slice (m.was.list.map Aa) false,.slice (m.was.obj.map Ac) false,.val (.bool m.has),.val (.int .i64 m.value.kind),.val (.bool m.value.b),.val (.int .i64 m.value.n),.val (.string m.value.s),.slice (m.value.list.map Aa) false,.slice (m.value.obj.map Ac) false,.slice (m.list.map Aj) false] 0),(0,AR L)],[],400⟩) (fun i=>J-i) 0 (A0t _) ?_ fun i hi=>?_
 ·rw[h0]
  apply Zw<;>push_cast [oM]
 ·have oG:=A7 (G i)
  have oG1:=A7 (G (i+1))
  push_cast[oM,oG]
  refine A6 (fun ha=>?_) (fun ha=>?_)
  ·have hi':i<m.list.length:=by simpa using ha
   have e1:=Cd hi'
   have w1:IntKind.i64.wrap (↑i+1)=↑i+1:=A9 (by omega) (by omega)
   have oY:=AW (m.list.getD i zU)
   rcases A0v i J with hiJ|hiJ
   ·have hr:=h1 i hiJ
    clear h1 h2 h3
    generalize m.list.getD i zU=x at*
    (have z:=Za oM<|Za oG<|Za oG1<|Za e1 oY;(try push_cast[z])<;>repeat' (first|apply Zi<;>intro _|refine Zs [] (hr ..) ?_|exact Zo|with_reducible apply Za)<;>try push_cast[z])
    all_goals first|omega|skip
    refine⟨i+1,hiJ,by omega,?_⟩
    apply Zw<;>push_cast [oM,oG1]
    all_goals first|exact w1|skip
   ·obtain rfl:i=J:=by omega
    obtain⟨Y,c0,hX,hr⟩:=h2 hi'
    have oYY:=A7 Y
    have b1:(c !=0)=true:=by simpa using c0
    clear h1 h2 h3
    generalize m.list.getD i zU=x at*
    rw[hX]
    (have z:=Za oM<|Za oG<|Za @oYY<|Za e1<|Za oY b1;(try push_cast[z])<;>repeat' (first|apply Zi<;>intro _|refine Zs [] (hr ..) ?_|exact Zo|with_reducible apply Za)<;>try push_cast[z])
    all_goals first|omega|skip
    apply Zw<;>push_cast [oM]
  ·have hi':¬i<m.list.length:=by simpa using ha
   obtain rfl:i=J:=by omega
   obtain⟨c0,hX⟩:=h3 (by omega)
   rw[c0,hX]
   (have z:=Za oM oG;(try push_cast[z])<;>repeat' (first|apply Zi<;>intro _|exact Zo|with_reducible apply Za)<;>try push_cast[z])
   all_goals first|omega|skip
   apply Zw<;>push_cast [oG]
end
theorem remL_id{k:ByteArray}{L:List GE}(h:CG k L=false):BE k L=L:=by
 unfold CG at h
 unfold BE
 refine A1Q.2 fun x hx=>?_
 have:=List.any_eq_false.1 h x hx
 simpa using this
theorem Xa{L:List GE}(h:VOk L){k:ByteArray}(hk:k.size=0):Ah k L=none:=by
 cases hg:Ah k L with
 |none=>rfl
 |some v=>
  have:=ME hg
  have h0:=h.key _ this
  unfold C7 Gz at h0
  rw[if_pos hk] at h0
  cases h0
theorem Ya(F:GV->Int)(m:GM)(L:List GE):Bk F m L=if m.kind=1 then(Bv (F m.value) m.key,if Bv (F m.value) m.key=0 then AU (m.key,m.value) L else L)
   else if m.kind=2 then(if CG m.key L=true then(0,BE m.key L) else(12,L))
   else if m.kind=3 then(FX L m.key m.n (F (E8 L m.key m.n)),if FX L m.key m.n (F (E8 L m.key m.n))=0 then AU (m.key,E8 L m.key m.n) L else L)
   else if m.kind=4 then(QJ m L (F m.value),SZ m L (F m.value))
   else if m.kind=5 then(G8 L m.key (F (D9 L m.key m.value)),if G8 L m.key (F (D9 L m.key m.value))=0 then AU (m.key,D9 L m.key m.value) L else L)
   else if m.kind=6 then CP F m.key m.to L
   else if m.kind=7 then(if m.key.size≠0/\DU m L=false then(13,L) else Cl F m.list L)
   else(9,L):=by cases m;rfl
theorem YI:∀ (n:Nat) (m:GM) (d:Nat) (L:List GE),SizeOf.sizeOf m<=n->SmU m->wtU m<=1048576->Ay Al m d=0->VOk L->L.length+AQ m<=8192->
  ∃ X,A4 prog 44 [AR L,.agg (Aj m)] [] (.tup [AR X,.val (.int .i64 (Bk Al m L).1)]) []/\((Bk Al m L).1=0->X=(Bk Al m L).2)
 |0,m,d,L,hn,_,_,_,_,_=>by cases m;simp at hn
 |n+1,m,d,L,hn,hm,hw,h0,hL,hsz=>by
  obtain⟨_,m1,m2,m3,m4,m5,m6⟩:=hm
  obtain⟨p1,p2,p3,p4,p5,p6⟩:=Ly h0
  have hwe:=Kq m
  have hst:=Ya Al m L
  have hln:L.length<=1048575:=by omega
  have hkk:m.key.size<=4611686018427387904:=by omega
  have hov:=Qb hL m.key
  have hhe:=Qw m.key L hL.srt
  have hA:=r_As hL.srt hln m.key m.had m.was
  change A3 _ _ _ (.val (.bool (DU m L))) at hA
  by_cases k1:m.kind=1
  ·rw[if_pos k1] at hst
   have hP:=Q1 hln m.key m.value hkk (Al m.value) (KH _ m2 (by omega))
   rw[hst]
   exact⟨_,r_step1 k1 hP,fun _=>rfl⟩
  rw[if_neg k1] at hst
  by_cases k2:m.kind=2
  ·rw[if_pos k2] at hst
   cases hh:C5 L m.key with
   |true=>
    rw[<-hhe,hh,if_pos rfl] at hst
    rw[hst]
    exact⟨_,YG k2 hln hh,fun _=>LX _ _ hL.srt hh⟩
   |false=>
    rw[<-hhe,hh,if_neg (by decide)] at hst
    rw[hst]
    exact⟨_,YH k2 hln hh,fun h=>absurd h (show ¬((12:Int)=0) by decide)⟩
  rw[if_neg k2] at hst
  by_cases k3:m.kind=3
  ·rw[if_pos k3] at hst
   rw[hst]
   refine⟨_,A4.sz (by kernel_rfl) fun hz=>?_,fun _=>rfl⟩
   have hz1:=hz.2.1
   rw[Ae] at hz1
   have hz2:=hz1.2.2.2.1
   simp only[szD,okP,E9,Ea] at hz2
   exact r_step3 k3 (r_inc hL.srt hln m.key m.n hkk (by omega) (by omega) hov.1 _ (KH _ (Qt _ _ _) (by rw[Vw];omega)))
  rw[if_neg k3] at hst
  by_cases k4:m.kind=4
  ·rw[if_pos k4] at hst
   unfold QJ SZ at hst
   cases hs:DU m L with
   |false=>
    rw[hs] at hA hst
    rw[if_neg (by decide),if_neg (by decide)] at hst
    rw[hst]
    exact⟨_,YD k4 hA,fun h=>absurd h (show ¬((13:Int)=0) by decide)⟩
   |true=>
    rw[hs] at hA hst
    rw[if_pos rfl,if_pos rfl] at hst
    cases hh:m.has with
    |true=>
     rw[hh] at hst
     simp only[if_true] at hst
     have hP:=Q1 hln m.key m.value hkk (Al m.value) (KH _ m2 (by omega))
     rw[hst]
     exact⟨_,YC k4 hh hA hP,fun _=>rfl⟩
    |false=>
     rw[hh] at hst
     simp only[A0q,if_false] at hst
     rw[hst]
     cases hq:C5 L m.key with
     |true=>exact ⟨_,YE k4 hh hln hq hA,fun _=>LX _ _ hL.srt hq⟩
     |false=>exact ⟨_,YF k4 hh hln hq hA,fun _=>(remL_id (by rw[<-hhe];exact hq)).symm⟩
  rw[if_neg k4] at hst
  by_cases k5:m.kind=5
  ·rw[if_pos k5] at hst
   have ha:=Ra hL m.key m2
   have hP:=r_add hL.srt hln m.key m.value hkk hov.1 _ (KH _ ha.1 (by omega))
   rw[hst]
   exact⟨_,r_step5 k5 hP,fun _=>rfl⟩
  rw[if_neg k5] at hst
  by_cases k6:m.kind=6
  ·rw[if_pos k6] at hst
   have hP:=r_move L hL (by omega) m.key m.to m3 m4
   rw[hst]
   exact⟨_,r_step6 k6 hP,fun h=>if_pos h⟩
  rw[if_neg k6] at hst
  by_cases k7:m.kind=7
  ·rw[if_pos k7] at hst
   by_cases hs:m.key.size≠0/\DU m L=false
   ·rw[if_pos hs] at hst
    rw[hs.2] at hA
    rw[hst]
    exact⟨_,YB k7 hA,fun h=>absurd h (show ¬((13:Int)=0) by decide)⟩
   ·rw[if_neg hs] at hst
    have hsd:DU m L=true:=by
     by_cases hk0:m.key.size=0
     ·have hhad:m.had=false:=by
       unfold Cy at p3
       have e6:(m.kind==6)=false:=by simpa using k6
       have e7:(m.kind==7)=true:=by simpa using k7
       have en:noS m.key=true:=by rw[Sa];exact decide_eq_true hk0
       rw[e6,e7,en] at p3
       simpa using p3
      unfold DU
      rw[Xa hL hk0,hhad]
      rfl
     ·cases h2:DU m L with
      |true=>rfl
      |false=>exact absurd ⟨hk0,h2⟩ hs
    rw[hsd] at hA
    have hse:=EY m
    let V:Nat->List GE:=fun i=>Vs Al m.list L i
    have hV0:V 0=L:=VV _ _ _
    have hVs:∀ i,i<m.list.length->V (i+1)=(Bk Al (m.list.getD i zU) (V i)).2:=fun i hi=>Rb _ hi
    have hone:∀ i (hi:i<m.list.length),VOk (V i)->(V i).length<=L.length+Bf (m.list.take i)->∃ X,A4 prog 44 [AR (V i),.agg (Aj (m.list.getD i zU))] [] (.tup [AR X,.val (.int .i64 (Bk Al (m.list.getD i zU) (V i)).1)]) []/\((Bk Al (m.list.getD i zU) (V i)).1=0->X=(Bk Al (m.list.getD i zU) (V i)).2):=fun i hi hv hl=>by
     have hmem:=Ad (d:=zU) hi
     have h1:=GM.list_lt hmem
     have h2:=FH hmem
     obtain⟨t1,t2⟩:=CV hi
     exact YI n _ (d+1) _ (by omega) (m6 _ hmem) (by omega) (Fk p6 i hi) hv (by omega)
    have hall:∀ J,J<=m.list.length->(∀ i,i<J->(Bk Al (m.list.getD i zU) (V i)).1=0)->VOk (V J)/\(V J).length<=L.length+Bf (m.list.take J):=fun J=>by
     induction J with
     |zero=>intro _ _;rw[hV0];exact⟨hL,by simp[Bf]⟩
     |succ J ih=>
      intro hJ hz
      obtain⟨a,b⟩:=ih (by omega) fun i hi=>hz i (by omega)
      have hi:J<m.list.length:=by omega
      have hzJ:=hz J (by omega)
      obtain⟨c1,c2⟩:=JO (m.list.getD J zU) (V J) (m6 _ (Ad hi)) a
      obtain⟨t1,t2⟩:=CV hi
      unfold Gn at c1 c2
      rw[if_pos hzJ,<-hVs J hi] at c1 c2
      exact⟨c1,by omega⟩
    have hstep1:∀ J,J<=m.list.length->(∀ i,i<J->(Bk Al (m.list.getD i zU) (V i)).1=0)->∀ i,i<J->A4 prog 44 [AR (V i),.agg (Aj (m.list.getD i zU))] [] (.tup [AR (V (i+1)),.val (.int .i64 0)]) []:=fun J hJ hz i hi=>by
     obtain⟨a,b⟩:=hall i (by omega) fun j hj=>hz j (by omega)
     obtain⟨X,q1,q2⟩:=hone i (by omega) a b
     rw[hz i hi] at q1
     rw[q2 (hz i hi),<-hVs i (by omega)] at q1
     exact q1
    rcases Ge Al m.list L with⟨c1,c2⟩|⟨J,c1,c2,c3,c4⟩
    ·rw[hst,c1]
     exact⟨V m.list.length,V8 k7 m5 hA V hV0 m.list.length (A0e _) (hstep1 _ (A0e _) c2) (fun h=>absurd h (Nat.lt_irrefl _)) (fun _=>⟨rfl,rfl⟩),fun _=>rfl⟩
    ·rw[hst]
     obtain⟨a,b⟩:=hall J (by omega) c2
     obtain⟨Y,q1,q2⟩:=hone J c1 a b
     rw[show(Bk Al (m.list.getD J zU) (V J)).1=(Cl Al m.list L).1 from c3] at q1
     exact⟨L,V8 k7 m5 hA V hV0 J (by omega) (hstep1 J (by omega) c2) (fun _=>⟨Y,c4,rfl,q1⟩) (fun h=>by omega),fun h=>absurd h c4⟩
  ·rw[if_neg k7] at hst
   exfalso
   unfold AD at p1
   have e1:(m.kind==1)=false:=by simpa using k1
   have e2:(m.kind==2)=false:=by simpa using k2
   have e3:(m.kind==3)=false:=by simpa using k3
   have e4:(m.kind==4)=false:=by simpa using k4
   have e5:(m.kind==5)=false:=by simpa using k5
   have e6:(m.kind==6)=false:=by simpa using k6
   have e7:(m.kind==7)=false:=by simpa using k7
   simp[e1,e2,e3,e4,e5,e6,e7] at p1
theorem r_Run{L:List GE}(hV:VOk L)(hl:L.length<=8000)(m:GM)(hm:SmU m)(hw:wtU m<=1048576)(hz:AQ m<=1099511627776):
  A3 prog 27 [AR L,.agg (Aj m)] (.tup [AR (DY m L).2,.val (.int .i64 (DY m L).1)]):=by
 have hM:=r_mMay m hm (by omega) hz
 have oM:=A7 L
 unfold DY
 by_cases hc:K0 Al m=0
 ·rw[if_neg (by simpa using hc)]
  rw[hc] at hM
  unfold K0 at hc
  have h64:AQ m<=64:=by
   rcases A0v 64 (AQ m) with h|h
   ·rw[if_pos h] at hc;cases hc
   ·exact h
  rw[if_neg (by omega)] at hc
  obtain⟨X,hS,hX⟩:=YI _ m 1 L (A0e _) hm hw hc hV (by omega)
  have oX:=A7 X
  have oU:=AW m
  unfold Gn
  by_cases hcs:(Bk Al m L).1=0
  ·rw[if_pos hcs,<-hX hcs]
   rw[hcs] at hS|-
   rw[Ae,A0 m.was,A0 m.value] at hM hS|-
   simp only[A07,A09,A05] at hM hS|-
   refine Zf [0] func27 rfl ntmps27 results27 ?_
   (have z:=Za oM oX;(try push_cast[z])<;>repeat' (first|apply Zi<;>intro _|refine Zc hM ?_|refine Zs [] hS ?_|exact Zo|with_reducible apply Za)<;>try push_cast[z])
  ·rw[if_neg hcs]
   have b1:((Bk Al m L).1 !=0)=true:=by simpa using hcs
   generalize(Bk Al m L).1=c at*
   rw[Ae,A0 m.was,A0 m.value] at hM hS|-
   simp only[A07,A09,A05] at hM hS|-
   refine Zf [0] func27 rfl ntmps27 results27 ?_
   (have z:=Za oM<|Za oX b1;(try push_cast[z])<;>repeat' (first|apply Zi<;>intro _|refine Zc hM ?_|refine Zs [] hS ?_|exact Zo|with_reducible apply Za)<;>try push_cast[z])
 ·rw[if_pos hc]
  have b1:(K0 Al m !=0)=true:=by simpa using hc
  generalize K0 Al m=c at*
  rw[Ae,A0 m.was,A0 m.value] at hM|-
  simp only[A07,A09,A05] at hM|-
  refine Zf [0] func27 rfl ntmps27 results27 ?_
  (have z:=Za oM b1;(try push_cast[z])<;>repeat' (first|apply Zi<;>intro _|refine Zc hM ?_|exact Zo|with_reducible apply Za)<;>try push_cast[z])
noncomputable def BA(l:List GR):Nat->List GE
 |0=>[]
 |i+1=>(DY (l.getD i zR).m (BA l i)).2
structure Fv(l:List GR):Prop where
 len:l.length<=40
 sm:∀ r ∈ l,SmU r.m
 wt:∀ r ∈ l,wtU r.m<=1048576
 sz:∀ r ∈ l,AQ r.m<=1099511627776
 rng:∀ r ∈ l,0<=r.id/\r.id<=18446744073709551615
theorem runL_ok{m:GM}{L:List GE}(hm:SmU m)(hL:VOk L):VOk (DY m L).2/\(DY m L).2.length<=L.length+64:=by
 unfold DY
 by_cases hc:K0 Al m=0
 ·rw[if_neg (by simpa using hc)]
  obtain⟨a,b⟩:=JO m L hm hL
  refine⟨a,?_⟩
  have:AQ m<=64:=by
   unfold K0 at hc
   rcases A0v 64 (AQ m) with h|h
   ·rw[if_pos h] at hc;cases hc
   ·exact h
  simp only
  omega
 ·rw[if_pos hc]
  exact⟨hL,by simp only;omega⟩
theorem J2{l:List GR}(h:Fv l):∀ i,i<=l.length->VOk (BA l i)/\(BA l i).length<=64*i
 |0,_=>⟨VOk.nil,A0e _⟩
 |i+1,hi=>by
  obtain⟨a,b⟩:=J2 h i (by omega)
  obtain⟨c,d⟩:=runL_ok (h.sm _ (Ad (d:=zR) (by omega:i<l.length))) a
  exact⟨c,by show(DY (l.getD i zR).m (BA l i)).2.length<=_;omega⟩
theorem r_H{l:List GR}(h:Fv l)(k:Nat)(hk:k<=l.length):A4 prog 14 [.slice (l.map CI) false,.val (.int .i64 k)] [] (AR (BA l k)) []:=by
 have hlen:=h.len
 have oL:=B0 l
 refine Zb [] func14 rfl ntmps14 results14 fun H Hb=>?_
 (have z:=oL;(try push_cast[z])<;>repeat' (first|apply Zi<;>intro _|exact Zo|with_reducible apply Za)<;>try push_cast[z])
 refine Zl (fun i=>i<=k) (fun i=>⟨[(6,.val (.int .i64 i)),(5,AR (BA l i)),(0,.slice (l.map CI) false),(1,.val (.int .i64 k))],[],100⟩) (fun i=>k-i) 0 (A0t _) ?_ fun i hi=>?_
 ·refine Ar.trans (Ar.fzB (b:=24) (x:=.rows [[.slice [] true]] 1) rfl) ?_
  push_cast
  apply Zw<;>push_cast
  exact⟨trivial,fun h=>h.elim⟩
 ·obtain⟨hv,hvl⟩:=J2 h i (by omega)
  have oD:=A7 (BA l i)
  push_cast[oL,oD]
  refine A6 (fun ha=>?_) (fun ha=>?_)
  ·have hik:i<k:=by simpa using ha
   have hi':i<l.length:=by omega
   have e1:=Gt hi'
   have hmem:=Ad (d:=zR) hi'
   have w1:IntKind.i64.wrap (↑i+1)=↑i+1:=A9 (by omega) (by omega)
   have hR:=r_Run hv (by omega) (l.getD i zR).m (h.sm _ hmem) (h.wt _ hmem) (h.sz _ hmem)
   have hd:(DY (l.getD i zR).m (BA l i)).2=BA l (i+1):=rfl
   rw[hd] at hR
   have oD1:=A7 (BA l (i+1))
   generalize(DY (l.getD i zR).m (BA l i)).1=c at*
   rw[Fq] at e1
   have oU:=AW (l.getD i zR).m
   generalize l.getD i zR=x at*
   rw[Ae,A0 x.m.was,A0 x.m.value] at e1 hR
   simp only[A07,A09,A05] at e1 hR
   generalize BA l i=D1 at*
   generalize hD2:BA l (i+1)=D2 at*
   (have z:=Za oL<|Za oD<|Za oD1 e1;(try push_cast[z])<;>repeat' (first|apply Zi<;>intro _|refine Zc hR ?_|exact Zo|with_reducible apply Za)<;>try push_cast[z])
   all_goals first|omega|skip
   refine⟨i+1,hik,by omega,?_⟩
   rw[hD2]
   apply Zw<;>push_cast [oD1]
   all_goals first|exact w1|skip
  ·have hik:i=k:=by simp at ha;omega
   subst hik
   (have z:=oD;(try push_cast[z])<;>repeat' (first|apply Zi<;>intro _|exact Zo|with_reducible apply Za)<;>try push_cast[z])
   apply Zw<;>push_cast [oD]
theorem c_H1{l:List GR}(k:Nat)(hk:l.length<k)(hk2:k<=18446744073709551615)(hlen:l.length<=40):A3 prog 10 [.slice (l.map CI) false,.val (.int .u64 k)] (.tup [.slice [] true,.val (.int .i64 17)]):=by
 have oL:=B0 l
 have wl:IntKind.u64.wrap (l.length:Int)=l.length:=by simp only[IntKind.wrap,IntKind.bits,IntKind.signed];simp;omega
 have b1:decide ((l.length:Int)<k)=true:=decide_eq_true (by omega)
 refine Zk [] func10 rfl ntmps10 results10 fun H Hb=>?_
 (have z:=Za oL<|Za wl b1;(try push_cast[z])<;>repeat' (first|apply Zi<;>intro _|exact Zo|with_reducible apply Za)<;>try push_cast[z])
theorem c_H0{l:List GR}(h:Fv l)(k:Nat)(hk:k<=l.length):A4 prog 10 [.slice (l.map CI) false,.val (.int .u64 k)] [] (.tup [.gref 0 (BA l k).length,.val (.int .i64 0)]) [(0,.grow ((BA l k).map Ac) 7)]:=by
 have hlen:=h.len
 have oL:=B0 l
 have wl:IntKind.u64.wrap (l.length:Int)=l.length:=by simp only[IntKind.wrap,IntKind.bits,IntKind.signed];simp;omega
 have b1:decide ((l.length:Int)<k)=false:=decide_eq_false (by omega)
 refine Zb [] func10 rfl ntmps10 results10 fun H Hb=>?_
 (have z:=Za oL<|Za wl b1;(try push_cast[z])<;>repeat' (first|apply Zi<;>intro _|exact Zo|with_reducible apply Za)<;>try push_cast[z])
 all_goals first|omega|skip
 ·intro x hx
  obtain⟨r,-,rfl⟩:=A0j.1 hx
  exact Fp r
 have hT:DF .nil (BA l 0):=Or.inl ⟨rfl,rfl⟩
 rw[<-A1J]
 have hq:(l.take k).length=k:=by simp;omega
 have hg:∀ i,i<k->(l.take k).getD i zR=l.getD i zR:=by
  intro i hi
  simp[List.getD,A1C,hi]
 have oQ:=B0 (l.take k)
 generalize l.take k=q at*
 refine AWp.loopI mixed (by kernel_rfl) (ι:=Nat×GT) (fun x=>x.1<=k/\DF x.2 (BA l x.1)) (fun x=>⟨[(18,.val (.int .i64 x.1)),(17,.val (.int .i64 k)),(16,.slice (q.map CI) false),(6,.ref 64 0 0 1)],[(64,.rows [[Ag x.2]] 1)],100⟩) (fun x=>k-x.1) (0,.nil) ⟨A0t _,hT⟩ ?_ ?_
 ·apply Zw<;>push_cast [oQ,At]
  all_goals first|omega|skip
  all_goals trace_state
 ·rintro⟨i,t⟩ ⟨hi,ht⟩
  simp only at hi ht
  obtain⟨hv,hvl⟩:=J2 h i (by omega)
  have oT:=A5 t
  push_cast[oQ,oT]
  refine A6 (fun ha=>?_) (fun ha=>?_)
  ·have hik:i<k:=by simpa using ha
   have hi':i<l.length:=by omega
   have e1:=Gt (show i<q.length by omega)
   rw[hg i hik] at e1
   have hmem:=Ad (d:=zR) hi'
   have w1:IntKind.i64.wrap (↑i+1)=↑i+1:=A9 (by omega) (by omega)
   obtain⟨t',hR,ht',-,-⟩:=Yr VE ht hv (by omega) (l.getD i zR).m (h.sm _ hmem) (h.wt _ hmem) (h.sz _ hmem)
   have hd:(DY (l.getD i zR).m (BA l i)).2=BA l (i+1):=rfl
   rw[hd] at ht'
   have oT1:=A5 t'
   generalize(DY (l.getD i zR).m (BA l i)).1=c at*
   rw[Fq] at e1
   have oU:=AW (l.getD i zR).m
   generalize l.getD i zR=x at*
   rw[Ae,A0 x.m.was,A0 x.m.value] at e1 hR
   simp only[A07,A09,A05] at e1 hR
   (have z:=Za oQ<|Za oT<|Za oT1 e1;(try push_cast[z])<;>repeat' (first|apply Zi<;>intro _|refine Zc hR ?_|exact Zo|with_reducible apply Za)<;>try push_cast[z])
   all_goals first|omega|skip
   refine⟨(i+1,t'),⟨hik,ht'⟩,(by simp only;omega),?_⟩
   apply Zw<;>push_cast [oT1]
   all_goals first|exact w1|skip
  ·have hik:i=k:=by simp at ha;omega
   subst hik
   have hE:=Nt t _ ht (by omega)
   (have z:=oT;(try push_cast[z])<;>repeat' (first|apply Zi<;>intro _|refine Zs [] hE ?_|exact Zo|with_reducible apply Za)<;>try push_cast[z])
   all_goals first|omega|skip
   apply Zr [(0,216)] rfl<;>push_cast [A7 (BA l i)]
noncomputable def DV(l:List GR)(c:Int):Nat->Int
 |0=>0
 |i+1=>if (l.getD i zR).client=c then(l.getD i zR).id else DV l c i
theorem Ka(l:List GR)(c:Int)(i:Nat):DV l c (i+1)=if (l.getD i zR).client=c then(l.getD i zR).id else DV l c i:=rfl
theorem U7{l:List GR}(hlen:l.length<=40)(c:Int)(k:Nat)(hk:k<=l.length):A3 prog 12 [.slice (l.map CI) false,.val (.int .u64 c),.val (.int .i64 k)] (.val (.int .u64 (DV l c k))):=by
 have oL:=B0 l
 refine Zf [] func12 rfl ntmps12 results12 ?_
 (have z:=oL;(try push_cast[z])<;>repeat' (first|apply Zi<;>intro _|exact Zo|with_reducible apply Za)<;>try push_cast[z])
 refine Zl (fun i=>i<=k) (fun i=>⟨[(8,.val (.int .i64 i)),(7,.val (.int .u64 (DV l c i))),(0,.slice (l.map CI) false),(1,.val (.int .u64 c)),(2,.val (.int .i64 k))],[],100⟩) (fun i=>k-i) 0 (A0t _) ?_ fun i hi=>?_
 ·apply Zw<;>push_cast [oL]
  all_goals rfl
 ·push_cast[oL]
  refine A6 (fun ha=>?_) (fun ha=>?_)
  ·have hik:i<k:=by simpa using ha
   have hi':i<l.length:=by omega
   have e1:=Gt hi'
   have w1:IntKind.i64.wrap (↑i+1)=↑i+1:=A9 (by omega) (by omega)
   have hd:decide ((i:Int)<(l.length:Int))=true:=decide_eq_true (by omega)
   rw[Fq] at e1
   have hs:=Ka l c i
   have oU:=AW (l.getD i zR).m
   generalize l.getD i zR=x at*
   rw[Ae,A0 x.m.was,A0 x.m.value] at e1
   simp only[A07,A09,A05] at e1
   by_cases hc:x.client=c
   ·have hb:(x.client==c)=true:=by simpa using hc
    rw[if_pos hc] at hs
    (have z:=Za oL<|Za e1<|Za hd hb;(try push_cast[z])<;>repeat' (first|apply Zi<;>intro _|exact Zo|with_reducible apply Za)<;>try push_cast[z])
    all_goals first|omega|skip
    refine⟨i+1,hik,by omega,?_⟩
    rw[hs]
    apply Zw<;>push_cast [oL]
    all_goals first|exact w1|skip
   ·have hb:(x.client==c)=false:=by simpa using hc
    rw[if_neg hc] at hs
    (have z:=Za oL<|Za e1<|Za hd hb;(try push_cast[z])<;>repeat' (first|apply Zi<;>intro _|exact Zo|with_reducible apply Za)<;>try push_cast[z])
    all_goals first|omega|skip
    refine⟨i+1,hik,by omega,?_⟩
    rw[hs]
    apply Zw<;>push_cast [oL]
    all_goals first|exact w1|skip
  ·have hik:i=k:=by simp at ha;omega
   subst hik
   (have z:=oL;(try push_cast[z])<;>repeat' (first|apply Zi<;>intro _|exact Zo|with_reducible apply Za)<;>try push_cast[z])
theorem ZC{l:List GR}(hlen:l.length<=40)(c:Int)(v:Nat)(hv:v<=18446744073709551615):A3 prog 11 [.slice (l.map CI) false,.val (.int .u64 c),.val (.int .u64 v)] (.val (.int .u64 (DV l c (min v l.length)))):=by
 have oL:=B0 l
 have wl:IntKind.u64.wrap (l.length:Int)=l.length:=by simp only[IntKind.wrap,IntKind.bits,IntKind.signed];simp;omega
 refine Zf [] func11 rfl ntmps11 results11 ?_
 (have z:=Za oL wl;(try push_cast[z])<;>repeat' (first|apply Zi<;>intro _|exact Zo|with_reducible apply Za)<;>try push_cast[z])
 all_goals first|omega|skip
 refine Zl (fun i=>i<=l.length/\DV l c (min v l.length)=DV l c i) (fun i=>⟨[(7,.val (.int .u64 i)),(0,.slice (l.map CI) false),(1,.val (.int .u64 c))],[],100⟩) (fun i=>i) (min v l.length) ⟨Nat.min_le_right _ _,rfl⟩ ?_ ?_
 ·apply Zw<;>push_cast [oL]
  all_goals first|(split<;>simp_all<;>omega)|skip
  all_goals trace_state
 ·rintro i ⟨hi,hl⟩
  rw[hl]
  push_cast[oL]
  refine A6 (fun ha=>?_) (fun ha=>?_)
  ·obtain⟨j,rfl⟩:∃ j,i=j+1:=⟨i-1,by have:0<i:=by simpa using ha
                                    omega⟩
   have hi':j<l.length:=by omega
   have e1:=Gt hi'
   have w1:IntKind.u64.wrap (↑j+1-1)=↑j:=by simp only[IntKind.wrap,IntKind.bits,IntKind.signed];simp;omega
   have w2:IntKind.u64.wrap (((j+1:Nat):Int)-1)=↑j:=by simp only[IntKind.wrap,IntKind.bits,IntKind.signed];simp;omega
   rw[Fq] at e1
   have hs:=Ka l c j
   have oU:=AW (l.getD j zR).m
   generalize l.getD j zR=x at*
   rw[Ae,A0 x.m.was,A0 x.m.value] at e1
   simp only[A07,A09,A05] at e1
   by_cases hc:x.client=c
   ·have hb:(x.client==c)=true:=by simpa using hc
    rw[if_pos hc] at hs
    rw[hs]
    (have z:=Za oL<|Za e1<|Za w1<|Za w2 hb;(try push_cast[z])<;>repeat' (first|apply Zi<;>intro _|exact Zo|with_reducible apply Za)<;>try push_cast[z])
    all_goals first|omega|skip
   ·have hb:(x.client==c)=false:=by simpa using hc
    rw[if_neg hc] at hs
    rw[hs]
    (have z:=Za oL<|Za e1<|Za w1<|Za w2 hb;(try push_cast[z])<;>repeat' (first|apply Zi<;>intro _|exact Zo|with_reducible apply Za)<;>try push_cast[z])
    all_goals first|omega|skip
    refine⟨j,⟨by omega,rfl⟩,by omega,?_⟩
    apply Zw<;>push_cast [oL]
    all_goals first|exact w1|exact w2|skip
  ·have hik:i=0:=by simp at ha;omega
   subst hik
   (have z:=oL;(try push_cast[z])<;>repeat' (first|apply Zi<;>intro _|exact Zo|with_reducible apply Za)<;>try push_cast[z])
   all_goals first|rfl|skip
noncomputable def Dh(i:Nat)(last:Int)(code:Int)(r:GR):Int:=
 if r.version=i+1 then if r.client=0 then 2 else if r.id<=last then 15 else if last+1<r.id then 14 else if r.code=code then 0 else 13 else 16
noncomputable def Gb(l:List GR)(i:Nat):Int:=
 Dh i (DV l (l.getD i zR).client i) (DY (l.getD i zR).m (BA l i)).1 (l.getD i zR)
theorem KZ{l:List GR}(h:Fv l)(c:Int):∀ k,k<=l.length->0<=DV l c k/\DV l c k<=18446744073709551615
 |0,_=>⟨Int.le_refl _,by show(0:Int)<=_;omega⟩
 |i+1,hk=>by
  rw[Ka]
  split
  ·exact h.rng _ (Ad (d:=zR) (by omega:i<l.length))
  ·exact KZ h c i (by omega)
theorem r_wrong{l:List GR}(h:Fv l)(i:Nat)(hi:i<l.length):A4 prog 29 [.slice (l.map CI) false,.val (.int .i64 i)] [] (.val (.int .i64 (Gb l i))) []:=by
 have hlen:=h.len
 have oL:=B0 l
 have e1:=Gt hi
 have hmem:=Ad (d:=zR) hi
 obtain⟨hv,hvl⟩:=J2 h i (by omega)
 have hL:=U7 hlen (l.getD i zR).client i (by omega)
 have hH:=r_H h i (by omega)
 have oD:=A7 (BA l i)
 have hR:=r_Run hv (by omega) (l.getD i zR).m (h.sm _ hmem) (h.wt _ hmem) (h.sz _ hmem)
 have hw:Gb l i=Dh i (DV l (l.getD i zR).client i) (DY (l.getD i zR).m (BA l i)).1 (l.getD i zR):=rfl
 obtain⟨hl0,hl1⟩:=KZ h (l.getD i zR).client i (by omega)
 obtain⟨hr0,hr1⟩:=h.rng _ hmem
 have oD1:=A7 (DY (l.getD i zR).m (BA l i)).2
 have w0:IntKind.u64.wrap (i:Int)=i:=by simp only[IntKind.wrap,IntKind.bits,IntKind.signed];simp;omega
 have w1:IntKind.u64.wrap (↑i+1)=↑i+1:=by simp only[IntKind.wrap,IntKind.bits,IntKind.signed];simp;omega
 rw[hw]
 clear hw
 generalize(DY (l.getD i zR).m (BA l i)).2=D2 at*
 generalize(DY (l.getD i zR).m (BA l i)).1=c at*
 generalize DV l (l.getD i zR).client i=last at*
 rw[Fq] at e1
 have oU:=AW (l.getD i zR).m
 generalize l.getD i zR=x at*
 rw[Ae,A0 x.m.was,A0 x.m.value] at e1 hR
 simp only[A07,A09,A05] at e1 hR
 generalize BA l i=D1 at*
 unfold Dh
 by_cases c1:x.version=i+1
 ·have b1:(x.version !=(i:Int)+1)=false:=by simpa using c1
  rw[if_pos c1]
  by_cases c2:x.client=0
  ·have b2:(x.client==0)=true:=by simpa using c2
   rw[if_pos c2]
   refine Zd [] func29 rfl ntmps29 results29 ?_
   (have z:=Za oL<|Za e1<|Za oD<|Za oD1<|Za w0<|Za w1<|Za b1 b2;(try push_cast[z])<;>repeat' (first|apply Zi<;>intro _|refine Zc hL ?_|refine Zs [] hH ?_|refine Zc hR ?_|exact Zo|with_reducible apply Za)<;>try push_cast[z])
   all_goals first|omega|(apply Zw<;>push_cast)|skip
  ·have b2:(x.client==0)=false:=by simpa using c2
   rw[if_neg c2]
   by_cases c3:x.id<=last
   ·have b3:decide (x.id<=last)=true:=decide_eq_true c3
    rw[if_pos c3]
    refine Zd [] func29 rfl ntmps29 results29 ?_
    (have z:=Za oL<|Za e1<|Za oD<|Za oD1<|Za w0<|Za w1<|Za b1<|Za b2 b3;(try push_cast[z])<;>repeat' (first|apply Zi<;>intro _|refine Zc hL ?_|refine Zs [] hH ?_|refine Zc hR ?_|exact Zo|with_reducible apply Za)<;>try push_cast[z])
    all_goals first|omega|(apply Zw<;>push_cast)|skip
   ·have b3:decide (x.id<=last)=false:=decide_eq_false c3
    have w2:IntKind.u64.wrap (last+1)=last+1:=by simp only[IntKind.wrap,IntKind.bits,IntKind.signed];simp;omega
    rw[if_neg c3]
    by_cases c4:last+1<x.id
    ·have b4:decide (last+1<x.id)=true:=decide_eq_true c4
     rw[if_pos c4]
     refine Zd [] func29 rfl ntmps29 results29 ?_
     (have z:=Za oL<|Za e1<|Za oD<|Za oD1<|Za w0<|Za w1<|Za w2<|Za b1<|Za b2<|Za b3 b4;(try push_cast[z])<;>repeat' (first|apply Zi<;>intro _|refine Zc hL ?_|refine Zs [] hH ?_|refine Zc hR ?_|exact Zo|with_reducible apply Za)<;>try push_cast[z])
     all_goals first|omega|(apply Zw<;>push_cast)|skip
    ·have b4:decide (last+1<x.id)=false:=decide_eq_false c4
     rw[if_neg c4]
     by_cases c5:x.code=c
     ·have b5:(x.code !=c)=false:=by simpa using c5
      rw[if_pos c5]
      refine Zd [] func29 rfl ntmps29 results29 ?_
      (have z:=Za oL<|Za e1<|Za oD<|Za oD1<|Za w0<|Za w1<|Za w2<|Za b1<|Za b2<|Za b3<|Za b4 b5;(try push_cast[z])<;>repeat' (first|apply Zi<;>intro _|refine Zc hL ?_|refine Zs [] hH ?_|refine Zc hR ?_|exact Zo|with_reducible apply Za)<;>try push_cast[z])
      all_goals first|omega|(apply Zw<;>push_cast)|skip
     ·have b5:(x.code !=c)=true:=by simpa using c5
      rw[if_neg c5]
      refine Zd [] func29 rfl ntmps29 results29 ?_
      (have z:=Za oL<|Za e1<|Za oD<|Za oD1<|Za w0<|Za w1<|Za w2<|Za b1<|Za b2<|Za b3<|Za b4 b5;(try push_cast[z])<;>repeat' (first|apply Zi<;>intro _|refine Zc hL ?_|refine Zs [] hH ?_|refine Zc hR ?_|exact Zo|with_reducible apply Za)<;>try push_cast[z])
      all_goals first|omega|(apply Zw<;>push_cast)|skip
 ·have b1:(x.version !=(i:Int)+1)=true:=by simpa using c1
  rw[if_neg c1]
  refine Zd [] func29 rfl ntmps29 results29 ?_
  (have z:=Za oL<|Za e1<|Za oD<|Za oD1<|Za w0<|Za w1 b1;(try push_cast[z])<;>repeat' (first|apply Zi<;>intro _|refine Zc hL ?_|refine Zs [] hH ?_|refine Zc hR ?_|exact Zo|with_reducible apply Za)<;>try push_cast[z])
  all_goals first|omega|(apply Zw<;>push_cast)|skip
noncomputable def Hx(l:List GR):Nat->Nat->Int×Int
 |0,_=>(0,0)
 |n+1,i=>if Gb l i=0 then Hx l n (i+1) else(i,Gb l i)
noncomputable def Dn(l:List GR):Int×Int:=Hx l l.length 0
theorem SE(l:List GR){i:Nat}(h:i<l.length):Hx l (l.length-i) i=if Gb l i=0 then Hx l (l.length-(i+1)) (i+1) else(i,Gb l i):=by
 have:l.length-i=(l.length-(i+1))+1:=by omega
 rw[this]
 rfl
theorem r_Log{l:List GR}(h:Fv l):A4 prog 16 [.slice (l.map CI) false] [] (.tup [.val (.int .i64 (Dn l).1),.val (.int .i64 (Dn l).2)]) []:=by
 have hlen:=h.len
 have oL:=B0 l
 refine Zd [] func16 rfl ntmps16 results16 ?_
 (have z:=oL;(try push_cast[z])<;>repeat' (first|apply Zi<;>intro _|exact Zo|with_reducible apply Za)<;>try push_cast[z])
 refine Zl (fun i=>i<=l.length/\Dn l=Hx l (l.length-i) i) (fun i=>⟨[(4,.val (.int .i64 i)),(0,.slice (l.map CI) false)],[],100⟩) (fun i=>l.length-i) 0 ⟨A0t _,rfl⟩ ?_ ?_
 ·apply Zw<;>push_cast [oL]
 ·rintro i ⟨hi,hl⟩
  rw[hl]
  push_cast[oL]
  refine A6 (fun ha=>?_) (fun ha=>?_)
  ·have hik:i<l.length:=by simpa using ha
   have w1:IntKind.i64.wrap (↑i+1)=↑i+1:=A9 (by omega) (by omega)
   have hW:=r_wrong h i hik
   have hs:=SE l hik
   rw[hs]
   rw[hs] at hl
   generalize Gb l i=c at*
   by_cases hc:c=0
   ·have hb:(c !=0)=false:=by simpa using hc
    rw[if_pos hc] at hl|-
    (have z:=Za oL hb;(try push_cast[z])<;>repeat' (first|apply Zi<;>intro _|refine Zs [] hW ?_|exact Zo|with_reducible apply Za)<;>try push_cast[z])
    all_goals first|omega|skip
    refine⟨i+1,⟨hik,?_⟩,by omega,?_⟩
    ·first|rfl|exact hl
    ·apply Zw<;>push_cast [oL]
     all_goals first|exact w1|skip
   ·have hb:(c !=0)=true:=by simpa using hc
    rw[if_neg hc] at hl|-
    (have z:=Za oL hb;(try push_cast[z])<;>repeat' (first|apply Zi<;>intro _|refine Zs [] hW ?_|exact Zo|with_reducible apply Za)<;>try push_cast[z])
    all_goals first|omega|(apply Zw<;>push_cast [oL])|skip
  ·have hik:i=l.length:=by simp at ha;omega
   subst hik
   have h0:Hx l (l.length-l.length) l.length=(0,0):=by rw[Nat.sub_self];rfl
   rw[h0]
   (have z:=oL;(try push_cast[z])<;>repeat' (first|apply Zi<;>intro _|exact Zo|with_reducible apply Za)<;>try push_cast[z])
   all_goals first|omega|(apply Zw<;>push_cast [oL])|skip
abbrev IE:=Int×Nat×Int
def Kj(e:IE):Value×Nat×D:=(.int .u64 e.1,e.2.1,.val (.int .u64 e.2.2))
def LA(k:Int):List IE->Nat->Option (Nat×Int)
 |[],_=>none
 |e::es,i=>if k=e.1 then some (i,e.2.2) else LA k es (i+1)
theorem BH(k:Int):∀ (es:List IE) (i:Nat),EE (.int .u64) (.int .u64 k) (es.map Kj) i=some ((LA k es i).map fun p=>(p.1,.val (.int .u64 p.2)))
 |[],i=>rfl
 |e::es,i=>by
  simp only[A0k,EE,Kj,keq,LA]
  by_cases h:k=e.1
  ·simp[h]
  ·simp only[h,decide_false,if_false]
   exact BH k es (i+1)
theorem TD(es:List IE)(i:Nat)(v:Int):JR (es.map Kj) i (.val (.int .u64 v))=(es.modify i fun e=>(e.1,e.2.1,v)).map Kj:=by
 apply A1z
 intro j
 simp only[JR,A1K,A0A]
 by_cases h:i=j
 ·subst h;cases es[i]? <;>simp [Kj]
 ·simp[h]
theorem WE(es:List IE)(ck:Nat)(k v:Int):es.map Kj++[(.int .u64 k,ck,.val (.int .u64 v))]=(es++[(k,ck,v)]).map Kj:=by simp[Kj]
def iv(c:Int):List IE->Int
 |[]=>0
 |e::es=>if c=e.1 then e.2.2 else iv c es
theorem Vv(k:Int):∀ (es:List IE) (i:Nat),LA k es i=none->iv k es=0/\∀ (v:Int) (ck:Nat) (c:Int),iv c (es++[(k,ck,v)])=if k=c then v else iv c es
 |[],i,_=>⟨rfl,fun v ck c=>by simp only[A09,iv];by_cases h:k=c<;>simp [h,eq_comm]⟩
 |e::es,i,h=>by
  simp only[LA] at h
  split at h
  ·cases h
  ·rename_i hk
   obtain⟨a,b⟩:=Vv k es (i+1) h
   refine⟨by simp only[iv,if_neg hk,a],fun v ck c=>?_⟩
   simp only[A07,iv,b]
   by_cases h1:k=c
   ·subst h1;simp[hk]
   ·simp[h1]
theorem Vu(k:Int):∀ (es:List IE) (i j:Nat) (v0:Int),LA k es i=some (j,v0)->iv k es=v0/\i<=j/\∀ (v:Int) (c:Int),iv c (es.modify (j-i) fun e=>(e.1,e.2.1,v))=if k=c then v else iv c es
 |[],i,j,v0,h=>by cases h
 |e::es,i,j,v0,h=>by
  simp only[LA] at h
  split at h
  ·rename_i hk
   simp only[A04,A0a] at h
   obtain⟨rfl,rfl⟩:=h
   refine⟨by simp only[iv,if_pos hk],A0e _,fun v c=>?_⟩
   rw[Nat.sub_self]
   simp only[List.modify_zero_cons,iv]
   by_cases h1:k=c
   ·subst h1;simp[hk]
   ·have:¬c=e.1:=fun h=>h1 (hk.trans h.symm)
    simp[h1,this]
  ·rename_i hk
   obtain⟨a,b,d⟩:=Vu k es (i+1) j v0 h
   refine⟨by simp only[iv,if_neg hk,a],by omega,fun v c=>?_⟩
   have hj:j-i=(j-(i+1))+1:=by omega
   rw[hj]
   simp only[List.modify_succ_cons,iv,d]
   by_cases h1:k=c
   ·subst h1;simp[hk]
   ·simp[h1]
theorem SI(g:Nat->Nat)(q:List IE):(q.map Kj).map (fun p=>(p.1,p.2.1,B3 g p.2.2))=q.map Kj:=by
 rw[A1o]
 refine A1p fun e _=>?_
 simp[Kj,B3]
theorem VH(n:Nat)(q:List IE):((q.map Kj).all fun p=>ltD n p.2.2)=true:=by simp[Kj,ltD]
theorem treesOf{l:List GR}(h:Fv l):∃ T:Nat->GT,T 0=.nil/\∀ i,i<l.length->DF (T i) (BA l i)->
  A3 prog 24 [Be (T i),.agg (Aj (l.getD i zR).m)] (.tup [Be (T (i+1)),.val (.int .i64 (DY (l.getD i zR).m (BA l i)).1)])/\DF (T (i+1)) (BA l (i+1)):=by
 have step:∀ i t,∃ t',i<l.length->DF t (BA l i)->A3 prog 24 [Be t,.agg (Aj (l.getD i zR).m)] (.tup [Be t',.val (.int .i64 (DY (l.getD i zR).m (BA l i)).1)])/\DF t' (BA l (i+1)):=by
  intro i t
  by_cases hh:i<l.length/\DF t (BA l i)
  ·obtain⟨hi,ht⟩:=hh
   have hlen:=h.len
   obtain⟨hv,hvl⟩:=J2 h i (by omega)
   have hmem:=Ad (d:=zR) hi
   obtain⟨t',hR,ht',-,-⟩:=Yr VE ht hv (by omega) (l.getD i zR).m (h.sm _ hmem) (h.wt _ hmem) (h.sz _ hmem)
   exact⟨t',fun _ _=>⟨hR,ht'⟩⟩
  ·exact⟨.nil,fun a b=>absurd ⟨a,b⟩ hh⟩
 exact⟨fun i=>Nat.rec .nil (fun i t=>Classical.choose (step i t)) i,rfl,fun i hi ht=>Classical.choose_spec (step i _) hi ht⟩
theorem XZ{l:List GR}(h:Fv l):∃ T:Nat->GT,T 0=.nil/\(∀ i,i<=l.length->DF (T i) (BA l i))/\∀ i,i<l.length->
  A3 prog 24 [Be (T i),.agg (Aj (l.getD i zR).m)] (.tup [Be (T (i+1)),.val (.int .i64 (DY (l.getD i zR).m (BA l i)).1)]):=by
 obtain⟨T,h0,hT⟩:=treesOf h
 have hk:∀ i,i<=l.length->DF (T i) (BA l i):=by
  intro i
  induction i with
  |zero=>intro _;rw[h0];exact Or.inl ⟨rfl,rfl⟩
  |succ i ih=>intro hi;exact(hT i (by omega) (ih (by omega))).2
 exact⟨T,h0,hk,fun i hi=>(hT i hi (hk i (by omega))).1⟩
theorem S9{l:List GR}(h:Fv l):∃ t,A4 prog 28 [.slice (l.map CI) false] [] (.tup [Be t,.val (.int .i64 (Dn l).1),.val (.int .i64 (Dn l).2)]) []/\((Dn l).2=0->DF t (BA l l.length)):=by
 have hlen:=h.len
 obtain⟨T,hT0,hT,hTr⟩:=XZ h
 have oL:=B0 l
 refine⟨if(Dn l).2=0 then T l.length else .nil,?_,fun h0=>by rw[if_pos h0];exact hT _ (A0e _)⟩
 refine Zd [] func28 rfl ntmps28 results28 ?_
 (have z:=oL;(try push_cast[z])<;>repeat' (first|apply Zi<;>intro _|exact Zo|with_reducible apply Za)<;>try push_cast[z])
 refine AWp.scope (Zy ?_)
 (have z:=oL;(try push_cast[z])<;>repeat' (first|apply Zi<;>intro _|exact Zo|with_reducible apply Za)<;>try push_cast[z])
 refine AWp.loopI mixed (by kernel_rfl) (ι:=Nat×List IE×Nat) (fun x=>x.1<=l.length/\Dn l=Hx l (l.length-x.1) x.1/\∀ c,iv c x.2.1=DV l c x.1) (fun x=>⟨[(16,.val (.int .i64 x.1)),(15,.val (.int .i64 l.length)),(14,.slice (l.map CI) false),(6,.mref 40),(5,.ref 32 0 0 1),(2,.ref 8 0 0 1)],[(40,.map (x.2.1.map Kj) x.2.2),(32,.rows [[Ag (T x.1)]] 1),(8,.rows [[.val (.pointer none)]] 1)],100⟩) (fun x=>l.length-x.1) (0,[],0) ⟨A0t _,rfl,fun c=>rfl⟩ ?_ ?_
 ·rw[hT0]
  apply Zw<;>push_cast [oL,At]
 ·rintro⟨i,es,ck⟩ ⟨hi,hl,hes⟩
  simp only at hi hl hes
  have oT:=A5 (T i)
  push_cast[oL,oT]
  refine A6 (fun ha=>?_) (fun ha=>?_)
  ·have hik:i<l.length:=by simpa using ha
   have e1:=Gt hik
   have hR:=hTr i hik
   have hs:=SE l hik
   have hw:Gb l i=Dh i (DV l (l.getD i zR).client i) (DY (l.getD i zR).m (BA l i)).1 (l.getD i zR):=rfl
   have hrl:=KZ h (l.getD i zR).client i (by omega)
   have hrr:=h.rng _ (Ad (d:=zR) hik)
   have hec:=hes (l.getD i zR).client
   have oT1:=A5 (T (i+1))
   have w0:IntKind.u64.wrap (i:Int)=i:=by simp only[IntKind.wrap,IntKind.bits,IntKind.signed];simp;omega
   have w1:IntKind.u64.wrap (↑i+1)=↑i+1:=by simp only[IntKind.wrap,IntKind.bits,IntKind.signed];simp;omega
   have w9:IntKind.i64.wrap (↑i+1)=↑i+1:=A9 (by omega) (by omega)
   rw[hs] at hl
   clear hs
   generalize Gb l i=w at*
   generalize(DY (l.getD i zR).m (BA l i)).1=c at*
   rw[Fq] at e1
   have oU:=AW (l.getD i zR).m
   generalize hxx:l.getD i zR=x at*
   rw[Ae,A0 x.m.was,A0 x.m.value] at e1 hR
   simp only[A07,A09,A05] at e1 hR
   rw[<-hec] at hw hrl
   rcases hf:LA x.client es 0 with _|⟨j,v0⟩
   ·obtain⟨hv,hup⟩:=Vv _ _ _ hf
    rw[hv] at hw hrl
    have hv0:0<=(0:Int)/\(0:Int)<=18446744073709551615:=hrl
    by_cases c1:x.version=i+1
    ·have b1:(x.version !=(i:Int)+1)=false:=by simpa using c1
     by_cases c2:x.client=0
     ·have b2:(x.client==0)=true:=by simpa using c2
      have hw':w=2:=by rw[hw];unfold Dh;rw[if_pos c1,if_pos c2]
      subst hw'
      rw[if_neg (by decide)] at hl
      have hq:(if(Dn l).2=0 then T l.length else .nil)=.nil:=by rw[hl];rfl
      rw[hq,hl]
      (have z:=Za oL<|Za e1<|Za oT<|Za oT1<|Za w0<|Za w1<|Za w9<|Za @BH<|Za hf<|Za @At<|Za b1 b2;(try push_cast[z])<;>repeat' (first|apply Zi<;>intro _|refine Zc hR ?_|exact Zo|with_reducible apply Za)<;>try push_cast[z])
      all_goals first|omega|(apply Zw<;>push_cast [oL,At])|skip
     ·have b2:(x.client==0)=false:=by simpa using c2
      by_cases c3:x.id<=(0:Int)
      ·have b3:decide (x.id<=(0:Int))=true:=decide_eq_true c3
       have hw':w=15:=by rw[hw];unfold Dh;rw[if_pos c1,if_neg c2,if_pos c3]
       subst hw'
       rw[if_neg (by decide)] at hl
       have hq:(if(Dn l).2=0 then T l.length else .nil)=.nil:=by rw[hl];rfl
       rw[hq,hl]
       (have z:=Za oL<|Za e1<|Za oT<|Za oT1<|Za w0<|Za w1<|Za w9<|Za @BH<|Za hf<|Za @At<|Za b1<|Za b2 b3;(try push_cast[z])<;>repeat' (first|apply Zi<;>intro _|refine Zc hR ?_|exact Zo|with_reducible apply Za)<;>try push_cast[z])
       all_goals first|omega|(apply Zw<;>push_cast [oL,At])|skip
      ·have b3:decide (x.id<=(0:Int))=false:=decide_eq_false c3
       have w2:IntKind.u64.wrap (x.id-(0:Int))=x.id-(0:Int):=by simp only[IntKind.wrap,IntKind.bits,IntKind.signed];simp;omega
       by_cases c4:(0:Int)+1<x.id
       ·have b4:decide (1<x.id-(0:Int))=true:=decide_eq_true (by omega)
        have c4':(0:Int)<x.id:=by omega
        have hw':w=14:=by rw[hw];unfold Dh;rw[if_pos c1,if_neg c2,if_neg c3,if_pos c4]
        subst hw'
        rw[if_neg (by decide)] at hl
        have hq:(if(Dn l).2=0 then T l.length else .nil)=.nil:=by rw[hl];rfl
        rw[hq,hl]
        (have z:=Za oL<|Za e1<|Za oT<|Za oT1<|Za w0<|Za w1<|Za w9<|Za @BH<|Za hf<|Za @At<|Za b1<|Za b2<|Za b3<|Za w2 b4;(try push_cast[z])<;>repeat' (first|apply Zi<;>intro _|refine Zc hR ?_|exact Zo|with_reducible apply Za)<;>try push_cast[z])
        all_goals first|omega|(apply Zw<;>push_cast [oL,At])|skip
       ·have b4:decide (1<x.id-(0:Int))=false:=decide_eq_false (by omega)
        by_cases c5:x.code=c
        ·have b5:(c==x.code)=true:=by simpa using c5.symm
         have hw':w=0:=by rw[hw];unfold Dh;rw[if_pos c1,if_neg c2,if_neg c3,if_neg c4,if_pos c5]
         subst hw'
         rw[if_pos rfl] at hl
         (have z:=Za oL<|Za e1<|Za oT<|Za oT1<|Za w0<|Za w1<|Za w9<|Za @BH<|Za hf<|Za @WE<|Za @At<|Za b1<|Za b2<|Za b3<|Za w2<|Za b4 b5;(try push_cast[z])<;>repeat' (first|apply Zi<;>intro _|refine Zc hR ?_|exact Zo|with_reducible apply Za)<;>try push_cast[z])
         all_goals first|omega|skip
         refine⟨(i+1,es++[(x.client,ck,x.id)],ck+1),⟨hik,hl,fun c'=>?_⟩,by simp only;omega,?_⟩
         ·simp only[hup x.id ck,Ka,hxx,hes]
         ·apply Zw<;>push_cast [oL,oT1]
          all_goals first|exact w9|exact VH _ _|exact (congrArg (fun q=>Blk.map q _) (SI _ _)).symm|skip
        ·have b5:(c==x.code)=false:=by simpa using fun h=>c5 h.symm
         have hw':w=13:=by rw[hw];unfold Dh;rw[if_pos c1,if_neg c2,if_neg c3,if_neg c4,if_neg c5]
         subst hw'
         rw[if_neg (by decide)] at hl
         have hq:(if(Dn l).2=0 then T l.length else .nil)=.nil:=by rw[hl];rfl
         rw[hq,hl]
         (have z:=Za oL<|Za e1<|Za oT<|Za oT1<|Za w0<|Za w1<|Za w9<|Za @BH<|Za hf<|Za @At<|Za b1<|Za b2<|Za b3<|Za w2<|Za b4 b5;(try push_cast[z])<;>repeat' (first|apply Zi<;>intro _|refine Zc hR ?_|exact Zo|with_reducible apply Za)<;>try push_cast[z])
         all_goals first|omega|(apply Zw<;>push_cast [oL,At])|skip
    ·have b1:(x.version !=(i:Int)+1)=true:=by simpa using c1
     have hw':w=16:=by rw[hw];unfold Dh;rw[if_neg c1]
     subst hw'
     rw[if_neg (by decide)] at hl
     have hq:(if(Dn l).2=0 then T l.length else .nil)=.nil:=by rw[hl];rfl
     rw[hq,hl]
     (have z:=Za oL<|Za e1<|Za oT<|Za oT1<|Za w0<|Za w1<|Za w9<|Za @BH<|Za hf<|Za @At b1;(try push_cast[z])<;>repeat' (first|apply Zi<;>intro _|refine Zc hR ?_|exact Zo|with_reducible apply Za)<;>try push_cast[z])
     all_goals first|omega|(apply Zw<;>push_cast [oL,At])|skip
   ·obtain⟨hv,-,hup⟩:=Vu _ _ _ _ _ hf
    rw[hv] at hw hrl
    rw[Nat.sub_zero] at hup
    have hv0:0<=v0/\v0<=18446744073709551615:=hrl
    by_cases c1:x.version=i+1
    ·have b1:(x.version !=(i:Int)+1)=false:=by simpa using c1
     by_cases c2:x.client=0
     ·have b2:(x.client==0)=true:=by simpa using c2
      have hw':w=2:=by rw[hw];unfold Dh;rw[if_pos c1,if_pos c2]
      subst hw'
      rw[if_neg (by decide)] at hl
      have hq:(if(Dn l).2=0 then T l.length else .nil)=.nil:=by rw[hl];rfl
      rw[hq,hl]
      (have z:=Za oL<|Za e1<|Za oT<|Za oT1<|Za w0<|Za w1<|Za w9<|Za @BH<|Za hf<|Za @At<|Za b1 b2;(try push_cast[z])<;>repeat' (first|apply Zi<;>intro _|refine Zc hR ?_|exact Zo|with_reducible apply Za)<;>try push_cast[z])
      all_goals first|omega|(apply Zw<;>push_cast [oL,At])|skip
     ·have b2:(x.client==0)=false:=by simpa using c2
      by_cases c3:x.id<=v0
      ·have b3:decide (x.id<=v0)=true:=decide_eq_true c3
       have hw':w=15:=by rw[hw];unfold Dh;rw[if_pos c1,if_neg c2,if_pos c3]
       subst hw'
       rw[if_neg (by decide)] at hl
       have hq:(if(Dn l).2=0 then T l.length else .nil)=.nil:=by rw[hl];rfl
       rw[hq,hl]
       (have z:=Za oL<|Za e1<|Za oT<|Za oT1<|Za w0<|Za w1<|Za w9<|Za @BH<|Za hf<|Za @At<|Za b1<|Za b2 b3;(try push_cast[z])<;>repeat' (first|apply Zi<;>intro _|refine Zc hR ?_|exact Zo|with_reducible apply Za)<;>try push_cast[z])
       all_goals first|omega|(apply Zw<;>push_cast [oL,At])|skip
      ·have b3:decide (x.id<=v0)=false:=decide_eq_false c3
       have w2:IntKind.u64.wrap (x.id-v0)=x.id-v0:=by simp only[IntKind.wrap,IntKind.bits,IntKind.signed];simp;omega
       by_cases c4:v0+1<x.id
       ·have b4:decide (1<x.id-v0)=true:=decide_eq_true (by omega)
        have c4':v0<x.id:=by omega
        have hw':w=14:=by rw[hw];unfold Dh;rw[if_pos c1,if_neg c2,if_neg c3,if_pos c4]
        subst hw'
        rw[if_neg (by decide)] at hl
        have hq:(if(Dn l).2=0 then T l.length else .nil)=.nil:=by rw[hl];rfl
        rw[hq,hl]
        (have z:=Za oL<|Za e1<|Za oT<|Za oT1<|Za w0<|Za w1<|Za w9<|Za @BH<|Za hf<|Za @At<|Za b1<|Za b2<|Za b3<|Za w2 b4;(try push_cast[z])<;>repeat' (first|apply Zi<;>intro _|refine Zc hR ?_|exact Zo|with_reducible apply Za)<;>try push_cast[z])
        all_goals first|omega|(apply Zw<;>push_cast [oL,At])|skip
       ·have b4:decide (1<x.id-v0)=false:=decide_eq_false (by omega)
        by_cases c5:x.code=c
        ·have b5:(c==x.code)=true:=by simpa using c5.symm
         have hw':w=0:=by rw[hw];unfold Dh;rw[if_pos c1,if_neg c2,if_neg c3,if_neg c4,if_pos c5]
         subst hw'
         rw[if_pos rfl] at hl
         (have z:=Za oL<|Za e1<|Za oT<|Za oT1<|Za w0<|Za w1<|Za w9<|Za @BH<|Za hf<|Za @TD<|Za @At<|Za b1<|Za b2<|Za b3<|Za w2<|Za b4 b5;(try push_cast[z])<;>repeat' (first|apply Zi<;>intro _|refine Zc hR ?_|exact Zo|with_reducible apply Za)<;>try push_cast[z])
         all_goals first|omega|skip
         refine⟨(i+1,es.modify j fun e=>(e.1,e.2.1,x.id),ck),⟨hik,hl,fun c'=>?_⟩,by simp only;omega,?_⟩
         ·simp only[hup x.id,Ka,hxx,hes]
         ·apply Zw<;>push_cast [oL,oT1]
          all_goals first|exact w9|exact VH _ _|exact (congrArg (fun q=>Blk.map q _) (SI _ _)).symm|skip
        ·have b5:(c==x.code)=false:=by simpa using fun h=>c5 h.symm
         have hw':w=13:=by rw[hw];unfold Dh;rw[if_pos c1,if_neg c2,if_neg c3,if_neg c4,if_neg c5]
         subst hw'
         rw[if_neg (by decide)] at hl
         have hq:(if(Dn l).2=0 then T l.length else .nil)=.nil:=by rw[hl];rfl
         rw[hq,hl]
         (have z:=Za oL<|Za e1<|Za oT<|Za oT1<|Za w0<|Za w1<|Za w9<|Za @BH<|Za hf<|Za @At<|Za b1<|Za b2<|Za b3<|Za w2<|Za b4 b5;(try push_cast[z])<;>repeat' (first|apply Zi<;>intro _|refine Zc hR ?_|exact Zo|with_reducible apply Za)<;>try push_cast[z])
         all_goals first|omega|(apply Zw<;>push_cast [oL,At])|skip
    ·have b1:(x.version !=(i:Int)+1)=true:=by simpa using c1
     have hw':w=16:=by rw[hw];unfold Dh;rw[if_neg c1]
     subst hw'
     rw[if_neg (by decide)] at hl
     have hq:(if(Dn l).2=0 then T l.length else .nil)=.nil:=by rw[hl];rfl
     rw[hq,hl]
     (have z:=Za oL<|Za e1<|Za oT<|Za oT1<|Za w0<|Za w1<|Za w9<|Za @BH<|Za hf<|Za @At b1;(try push_cast[z])<;>repeat' (first|apply Zi<;>intro _|refine Zc hR ?_|exact Zo|with_reducible apply Za)<;>try push_cast[z])
     all_goals first|omega|(apply Zw<;>push_cast [oL,At])|skip
  ·have hik:i=l.length:=by simp at ha;omega
   subst hik
   have h0:Hx l (l.length-l.length) l.length=(0,0):=by rw[Nat.sub_self];rfl
   rw[h0] at hl
   have hq:(if(Dn l).2=0 then T l.length else .nil)=T l.length:=by rw[hl];rfl
   rw[hq,hl]
   (have z:=Za oL oT;(try push_cast[z])<;>repeat' (first|apply Zi<;>intro _|exact Zo|with_reducible apply Za)<;>try push_cast[z])
   all_goals first|omega|(apply Zw<;>push_cast [oL,oT])|skip
theorem o_Log{l:List GR}(h:Fv l):A4 prog 15 [.slice (l.map CI) false] [] (.tup [.val (.int .i64 (Dn l).1),.val (.int .i64 (Dn l).2)]) []:=by
 have oL:=B0 l
 obtain⟨t,hF,-⟩:=S9 h
 have oT:=A5 t
 generalize Dn l=q at*
 refine Zd [] func15 rfl ntmps15 results15 ?_
 (have z:=Za oL oT;(try push_cast[z])<;>repeat' (first|apply Zi<;>intro _|refine Zs [] hF ?_|exact Zo|with_reducible apply Za)<;>try push_cast[z])
 all_goals first|omega|(apply Zw<;>push_cast [oL,oT])|skip
noncomputable def Mc(s:GS):Int:=
 if s.version=s.ran.length then if(Dn s.ran).2=0 then if BM (BA s.ran s.ran.length) s.map=true then 0 else 8 else(Dn s.ran).2 else 17
theorem r_Store{s:GS}(h:Fv s.ran):A4 prog 20 [.agg (JF s)] [] (.val (.int .i64 (Mc s))) []:=by
 obtain⟨ver,mp,l⟩:=s
 simp only at h
 have hlen:=h.len
 have oL:=B0 l
 have oM:=A7 mp
 have hG:=r_Log h
 have hH:=r_H h l.length (A0e _)
 have hS:=FE (BA l l.length) mp
 have oD:=A7 (BA l l.length)
 have wl:IntKind.u64.wrap (l.length:Int)=l.length:=by simp only[IntKind.wrap,IntKind.bits,IntKind.signed];simp;omega
 have hX:Mc ⟨ver,mp,l⟩=if ver=l.length then if(Dn l).2=0 then if BM (BA l l.length) mp=true then 0 else 8 else(Dn l).2 else 17:=rfl
 rw[hX]
 clear hX
 rw[show JF ⟨ver,mp,l⟩=[.val (.int .u64 ver),.slice (mp.map Ac) false,.slice (l.map CI) false] from rfl]
 generalize Dn l=q at*
 obtain⟨q1,q2⟩:=q
 simp only at hG|-
 generalize BM (BA l l.length) mp=bb at*
 generalize BA l l.length=D1 at*
 by_cases c1:ver=l.length
 ·have b1:(ver !=(l.length:Int))=false:=by simpa using c1
  rw[if_pos c1]
  by_cases c2:q2=0
  ·have b2:(q2 !=0)=false:=by simpa using c2
   rw[if_pos c2]
   cases bb with
   |true=>
    rw[if_pos rfl]
    refine Zd [] func20 rfl ntmps20 results20 ?_
    (have z:=Za oL<|Za oM<|Za oD<|Za wl<|Za b1 b2;(try push_cast[z])<;>repeat' (first|apply Zi<;>intro _|refine Zs [] hG ?_|refine Zs [] hH ?_|refine Zc hS ?_|exact Zo|with_reducible apply Za)<;>try push_cast[z])
    all_goals first|omega|(apply Zw<;>push_cast)|skip
   |false=>
    rw[if_neg (by decide)]
    refine Zd [] func20 rfl ntmps20 results20 ?_
    (have z:=Za oL<|Za oM<|Za oD<|Za wl<|Za b1 b2;(try push_cast[z])<;>repeat' (first|apply Zi<;>intro _|refine Zs [] hG ?_|refine Zs [] hH ?_|refine Zc hS ?_|exact Zo|with_reducible apply Za)<;>try push_cast[z])
    all_goals first|omega|(apply Zw<;>push_cast)|skip
  ·have b2:(q2 !=0)=true:=by simpa using c2
   rw[if_neg c2]
   refine Zd [] func20 rfl ntmps20 results20 ?_
   (have z:=Za oL<|Za oM<|Za oD<|Za wl<|Za b1 b2;(try push_cast[z])<;>repeat' (first|apply Zi<;>intro _|refine Zs [] hG ?_|refine Zs [] hH ?_|refine Zc hS ?_|exact Zo|with_reducible apply Za)<;>try push_cast[z])
   all_goals first|omega|(apply Zw<;>push_cast)|skip
 ·have b1:(ver !=(l.length:Int))=true:=by simpa using c1
  rw[if_neg c1]
  refine Zd [] func20 rfl ntmps20 results20 ?_
  (have z:=Za oL<|Za oM<|Za oD<|Za wl b1;(try push_cast[z])<;>repeat' (first|apply Zi<;>intro _|exact Zo|with_reducible apply Za)<;>try push_cast[z])
  all_goals first|omega|(apply Zw<;>push_cast)|skip
theorem o_Store{s:GS}(h:Fv s.ran):A4 prog 19 [.agg (JF s)] [] (.val (.int .i64 (Mc s))) []:=by
 obtain⟨ver,mp,l⟩:=s
 simp only at h
 have hlen:=h.len
 have oL:=B0 l
 have oM:=A7 mp
 obtain⟨t,hF,hT⟩:=S9 h
 have oT:=A5 t
 have hS:=c_same (BA l l.length) mp
 have oD:=A7 (BA l l.length)
 obtain⟨hv,hvl⟩:=J2 h l.length (A0e _)
 have wl:IntKind.u64.wrap (l.length:Int)=l.length:=by simp only[IntKind.wrap,IntKind.bits,IntKind.signed];simp;omega
 have hX:Mc ⟨ver,mp,l⟩=if ver=l.length then if(Dn l).2=0 then if BM (BA l l.length) mp=true then 0 else 8 else(Dn l).2 else 17:=rfl
 rw[hX]
 clear hX
 rw[show JF ⟨ver,mp,l⟩=[.val (.int .u64 ver),.slice (mp.map Ac) false,.slice (l.map CI) false] from rfl]
 generalize Dn l=q at*
 obtain⟨q1,q2⟩:=q
 simp only at hF hT|-
 generalize BM (BA l l.length) mp=bb at*
 generalize BA l l.length=D1 at*
 by_cases c1:ver=l.length
 ·have b1:(ver !=(l.length:Int))=false:=by simpa using c1
  rw[if_pos c1]
  by_cases c2:q2=0
  ·have b2:(q2 !=0)=false:=by simpa using c2
   have hE:=Nt t _ (hT c2) (by omega)
   rw[if_pos c2]
   cases bb with
   |true=>
    rw[if_pos rfl]
    refine Zd [] func19 rfl ntmps19 results19 ?_
    (have z:=Za oL<|Za oM<|Za oD<|Za oT<|Za wl<|Za b1 b2;(try push_cast[z])<;>repeat' (first|apply Zi<;>intro _|refine Zs [] hF ?_|refine Zs [] hE ?_|refine Zq hS ?_ ?_|exact Zo|with_reducible apply Za)<;>try push_cast[z])
    all_goals first|omega|(apply Zw<;>push_cast)|skip
   |false=>
    rw[if_neg (by decide)]
    refine Zd [] func19 rfl ntmps19 results19 ?_
    (have z:=Za oL<|Za oM<|Za oD<|Za oT<|Za wl<|Za b1 b2;(try push_cast[z])<;>repeat' (first|apply Zi<;>intro _|refine Zs [] hF ?_|refine Zs [] hE ?_|refine Zq hS ?_ ?_|exact Zo|with_reducible apply Za)<;>try push_cast[z])
    all_goals first|omega|(apply Zw<;>push_cast)|skip
  ·have b2:(q2 !=0)=true:=by simpa using c2
   rw[if_neg c2]
   refine Zd [] func19 rfl ntmps19 results19 ?_
   (have z:=Za oL<|Za oM<|Za oD<|Za oT<|Za wl<|Za b1 b2;(try push_cast[z])<;>repeat' (first|apply Zi<;>intro _|refine Zs [] hF ?_|exact Zo|with_reducible apply Za)<;>try push_cast[z])
   all_goals first|omega|(apply Zw<;>push_cast)|skip
 ·have b1:(ver !=(l.length:Int))=true:=by simpa using c1
  rw[if_neg c1]
  refine Zd [] func19 rfl ntmps19 results19 ?_
  (have z:=Za oL<|Za oM<|Za oD<|Za wl b1;(try push_cast[z])<;>repeat' (first|apply Zi<;>intro _|exact Zo|with_reducible apply Za)<;>try push_cast[z])
  all_goals first|omega|(apply Zw<;>push_cast)|skip
def FB(l:List GR):Bool:=l.all (fun r=>decide (r.id<=4611686018427387903))&&decide (l.length<=40)
structure JL(l:List GR):Prop where
 len:l.length<=1099511627776
 sm:∀ r ∈ l,SmU r.m
 wt:∀ r ∈ l,wtU r.m<=1048576
 sz:∀ r ∈ l,AQ r.m<=1099511627776
 pos:∀ r ∈ l,0<=r.id
theorem JL.ok{l:List GR}(h:JL l)(hp:FB l=true):Fv l:=by
 unfold FB at hp
 rw[A0c,A0p] at hp
 obtain⟨a,b⟩:=hp
 exact⟨of_decide_eq_true b,h.sm,h.wt,h.sz,fun r hr=>⟨h.pos r hr,by have:=of_decide_eq_true (a r hr);omega⟩⟩
theorem Q7{l:List GR}{i:Nat}(hi:i<l.length)(h:¬(l.getD i zR).id<=4611686018427387903):FB l=false:=by
 unfold FB
 cases ha:l.all (fun r=>decide (r.id<=4611686018427387903)) with
 |false=>rfl
 |true=>
  rw[A0p] at ha
  exact absurd (of_decide_eq_true (ha _ (Ad (d:=zR) hi))) h
theorem S0{l:List GR}(h:∀ j,j<l.length->(l.getD j zR).id<=4611686018427387903):FB l=decide ((l.length:Int)<=40):=by
 unfold FB
 have ha:l.all (fun r=>decide (r.id<=4611686018427387903))=true:=by
  rw[A0p]
  intro r hr
  obtain⟨j,hj,rfl⟩:=List.getElem_of_mem hr
  have:=h j hj
  rw[show l.getD j zR=l[j] by simp[List.getD,hj]] at this
  exact decide_eq_true this
 rw[ha,Bool.true_and]
 by_cases hl:l.length<=40
 ·rw[decide_eq_true hl,decide_eq_true (by omega)]
 ·rw[decide_eq_false hl,decide_eq_false (by omega)]
theorem Qq{l:List GR}(hlen:l.length<=1099511627776):A3 prog 8 [.slice (l.map CI) false] (.val (.bool (FB l))):=by
 have oL:=B0 l
 refine Zf [] func8 rfl ntmps8 results8 ?_
 (have z:=oL;(try push_cast[z])<;>repeat' (first|apply Zi<;>intro _|exact Zo|with_reducible apply Za)<;>try push_cast[z])
 refine Zl (fun i=>i<=l.length/\∀ j,j<i->(l.getD j zR).id<=4611686018427387903) (fun i=>⟨[(3,.val (.int .i64 i)),(0,.slice (l.map CI) false)],[],100⟩) (fun i=>l.length-i) 0 ⟨A0t _,fun j hj=>absurd hj (Nat.not_lt_zero _)⟩ ?_ ?_
 ·apply Zw<;>push_cast [oL]
 ·rintro i ⟨hi,hl⟩
  push_cast[oL]
  refine A6 (fun ha=>?_) (fun ha=>?_)
  ·have hik:i<l.length:=by simpa using ha
   have e1:=Gt hik
   have w1:IntKind.i64.wrap (↑i+1)=↑i+1:=A9 (by omega) (by omega)
   have hpf:=Q7 hik
   have hlt:(l.getD i zR).id<=4611686018427387903->∀ j,j<i+1->(l.getD j zR).id<=4611686018427387903:=by
    intro h j hj
    rcases A0v j i with h1|h1
    ·exact hl j h1
    ·have:j=i:=by omega
     subst this
     exact h
   rw[Fq] at e1
   have oU:=AW (l.getD i zR).m
   generalize l.getD i zR=x at*
   rw[Ae,A0 x.m.was,A0 x.m.value] at e1
   simp only[A07,A09,A05] at e1
   by_cases hc:x.id<=4611686018427387903
   ·have hb:decide (4611686018427387903<x.id)=false:=decide_eq_false (by omega)
    (have z:=Za oL<|Za e1 hb;(try push_cast[z])<;>repeat' (first|apply Zi<;>intro _|exact Zo|with_reducible apply Za)<;>try push_cast[z])
    all_goals first|omega|skip
    refine⟨i+1,⟨hik,hlt hc⟩,by omega,?_⟩
    apply Zw<;>push_cast [oL]
    all_goals first|exact w1|skip
   ·have hb:decide (4611686018427387903<x.id)=true:=decide_eq_true (by omega)
    rw[hpf hc]
    (have z:=Za oL<|Za e1 hb;(try push_cast[z])<;>repeat' (first|apply Zi<;>intro _|exact Zo|with_reducible apply Za)<;>try push_cast[z])
    all_goals first|omega|skip
  ·have hik:i=l.length:=by simp at ha;omega
   subst hik
   rw[S0 hl]
   (have z:=oL;(try push_cast[z])<;>repeat' (first|apply Zi<;>intro _|exact Zo|with_reducible apply Za)<;>try push_cast[z])
   all_goals first|omega|skip
section
variable(hk:A4 prog 9 [] [] (.val (.bool true)) [])
include hk
theorem law_Logs{l:List GR}(h:JL l):A4 prog 4 [.slice (l.map CI) false] [] (.val (.bool true)) []:=by
 have oL:=B0 l
 have hP:=Qq h.len
 cases hp:FB l with
 |false=>
  rw[hp] at hP
  refine Zd [] func4 rfl ntmps4 results4 ?_
  (have z:=oL;(try push_cast[z])<;>repeat' (first|apply Zi<;>intro _|refine Zc hP ?_|refine Zs [] (hk ..) ?_|exact Zo|with_reducible apply Za)<;>try push_cast[z])
  all_goals first|omega|(apply Zw<;>push_cast)|skip
 |true=>
  rw[hp] at hP
  have hO:=o_Log (h.ok hp)
  have hR:=r_Log (h.ok hp)
  generalize Dn l=q at*
  obtain⟨q1,q2⟩:=q
  simp only at hO hR
  have b1:(q1==q1)=true:=by simp
  have b2:(q2==q2)=true:=by simp
  refine Zd [] func4 rfl ntmps4 results4 ?_
  (have z:=Za oL<|Za b1 b2;(try push_cast[z])<;>repeat' (first|apply Zi<;>intro _|refine Zc hP ?_|refine Zs [] hO ?_|refine Zs [] hR ?_|refine Zs [] (hk ..) ?_|exact Zo|with_reducible apply Za)<;>try push_cast[z])
  all_goals first|omega|(apply Zw<;>push_cast)|skip
theorem law_Stores{s:GS}(h:JL s.ran):A4 prog 6 [.agg (JF s)] [] (.val (.bool true)) []:=by
 have hP:=Qq h.len
 have oS:=Ps s
 cases hp:FB s.ran with
 |false=>
  rw[hp] at hP
  clear hp h
  obtain⟨ver,mp,l⟩:=s
  rw[show JF ⟨ver,mp,l⟩=[.val (.int .u64 ver),.slice (mp.map Ac) false,.slice (l.map CI) false] from rfl] at*
  simp only at hP
  have oL:=B0 l
  have oM:=A7 mp
  refine Zd [] func6 rfl ntmps6 results6 ?_
  (have z:=Za oL oM;(try push_cast[z])<;>repeat' (first|apply Zi<;>intro _|refine Zc hP ?_|refine Zs [] (hk ..) ?_|exact Zo|with_reducible apply Za)<;>try push_cast[z])
  all_goals first|omega|(apply Zw<;>push_cast)|skip
 |true=>
  rw[hp] at hP
  have hO:=o_Store (h.ok hp)
  have hR:=r_Store (h.ok hp)
  generalize Mc s=q at*
  clear hp h
  obtain⟨ver,mp,l⟩:=s
  rw[show JF ⟨ver,mp,l⟩=[.val (.int .u64 ver),.slice (mp.map Ac) false,.slice (l.map CI) false] from rfl] at*
  simp only at hP
  have oL:=B0 l
  have oM:=A7 mp
  have b1:(q==q)=true:=by simp
  refine Zd [] func6 rfl ntmps6 results6 ?_
  (have z:=Za oL<|Za oM b1;(try push_cast[z])<;>repeat' (first|apply Zi<;>intro _|refine Zc hP ?_|refine Zs [] hO ?_|refine Zs [] hR ?_|refine Zs [] (hk ..) ?_|exact Zo|with_reducible apply Za)<;>try push_cast[z])
  all_goals first|omega|(apply Zw<;>push_cast)|skip
end
theorem JH{α:Type}{f:α->α->Int}:∀ {a:List α},(∀ x ∈ a,f x x=0)->CR f a a=0
 |[],_=>rfl
 |x::a,hf=>by
  simp only[CR]
  rw[if_pos (hf x (by simp))]
  exact JH fun x hx=>hf x (by simp[hx])
theorem Xm:∀ (n:Nat) (v:GV),SizeOf.sizeOf v<=n->Jb n v v=0:=by
 intro n
 induction n with
 |zero=>intro v h;cases v;simp at h
 |succ n ih=>
  intro v hv
  rw[Bi,if_neg (by simp)]
  split
  ·unfold Jq;simp
  split
  ·exact WM _
  split
  ·exact PF _
  split
  ·exact JH fun x hx=>ih x (by have:=GV.list_lt hx;omega)
  split
  ·refine JH fun x hx=>?_
   simp only[HC]
   rw[if_pos (PF _)]
   exact ih x.2 (by have:=GV.obj_lt hx;omega)
  rfl
theorem TF(p:GE):Fh p p=true:=by
 unfold Fh HE
 rw[Xm _ _ (A0e _)]
 simp
theorem Lm:∀ a:List GE,BM a a=true
 |[]=>rfl
 |p::a=>by unfold BM;rw[TF,Lm a];rfl
section
variable(hk:A4 prog 9 [] [] (.val (.bool true)) [])
include hk
theorem law_Tells{l:List GR}(h:JL l)(v:Nat)(hv:v<=18446744073709551615)(c:Int):A4 prog 3 [.slice (l.map CI) false,.val (.int .u64 v),.val (.int .u64 c)] [] (.val (.bool true)) []:=by
 have oL:=B0 l
 have hP:=Qq h.len
 cases hp:FB l with
 |false=>
  rw[hp] at hP
  refine Zd [] func3 rfl ntmps3 results3 ?_
  (have z:=oL;(try push_cast[z])<;>repeat' (first|apply Zi<;>intro _|refine Zc hP ?_|refine Zs [] (hk ..) ?_|exact Zo|with_reducible apply Za)<;>try push_cast[z])
  all_goals first|omega|(apply Zw<;>push_cast)|skip
 |true=>
  rw[hp] at hP
  have hK:=h.ok hp
  have hlen:=hK.len
  have hO:=ZC hlen c v hv
  have wl:IntKind.u64.wrap (l.length:Int)=l.length:=by simp only[IntKind.wrap,IntKind.bits,IntKind.signed];simp;omega
  by_cases c1:l.length<v
  ·have b1:decide ((l.length:Int)<v)=true:=decide_eq_true (by omega)
   have hH:=c_H1 v c1 hv hlen
   rw[Nat.min_eq_right (by omega)] at hO
   have hR:=U7 hlen c l.length (A0e _)
   generalize DV l c l.length=q at*
   have b2:(q==q)=true:=by simp
   refine Zd [] func3 rfl ntmps3 results3 ?_
   (have z:=Za oL<|Za wl<|Za b1 b2;(try push_cast[z])<;>repeat' (first|apply Zi<;>intro _|refine Zc hP ?_|refine Zc hH ?_|refine Zc hO ?_|refine Zc hR ?_|refine Zs [] (hk ..) ?_|exact Zo|with_reducible apply Za)<;>try push_cast[z])
   all_goals first|omega|(apply Zw<;>push_cast)|skip
  ·have b1:decide ((l.length:Int)<v)=false:=decide_eq_false (by omega)
   have hH:=c_H0 hK v (by omega)
   rw[Nat.min_eq_left (by omega)] at hO
   have hR:=U7 hlen c v (by omega)
   have hJ:=r_H hK v (by omega)
   have hS:=FE (BA l v) (BA l v)
   rw[Lm] at hS
   have oD:=A7 (BA l v)
   have wv:IntKind.i64.wrap (v:Int)=v:=A9 (by omega) (by omega)
   generalize DV l c v=q at*
   generalize BA l v=D1 at*
   have b2:(q==q)=true:=by simp
   refine Zd [] func3 rfl ntmps3 results3 ?_
   (have z:=Za oL<|Za oD<|Za wl<|Za wv<|Za b1 b2;(try push_cast[z])<;>repeat' (first|apply Zi<;>intro _|refine Zc hP ?_|refine Zs [] hH ?_|refine Zc hO ?_|refine Zc hR ?_|refine Zs [] hJ ?_|refine Zq hS ?_ ?_|refine Zs [] (hk ..) ?_|exact Zo|with_reducible apply Za)<;>try push_cast[z])
   all_goals first|omega|(apply Zw<;>push_cast)|skip
end
theorem list2{α:Type}{l:List α}(h:l.length=2):∃ a0 a1,l=[a0,a1]:=by
 match l,h with
 |[a0,a1],_=>exact ⟨a0,a1,rfl⟩
theorem list6{α:Type}{l:List α}(h:l.length=6):∃ a0 a1 a2 a3 a4 a5,l=[a0,a1,a2,a3,a4,a5]:=by
 match l,h with
 |[a0,a1,a2,a3,a4,a5],_=>exact ⟨a0,a1,a2,a3,a4,a5,rfl⟩
theorem list9{α:Type}{l:List α}(h:l.length=9):∃ a0 a1 a2 a3 a4 a5 a6 a7 a8,l=[a0,a1,a2,a3,a4,a5,a6,a7,a8]:=by
 match l,h with
 |[a0,a1,a2,a3,a4,a5,a6,a7,a8],_=>exact ⟨a0,a1,a2,a3,a4,a5,a6,a7,a8,rfl⟩
theorem list5{α:Type}{l:List α}(h:l.length=5):∃ a0 a1 a2 a3 a4,l=[a0,a1,a2,a3,a4]:=by
 match l,h with
 |[a0,a1,a2,a3,a4],_=>exact ⟨a0,a1,a2,a3,a4,rfl⟩
theorem list3{α:Type}{l:List α}(h:l.length=3):∃ a0 a1 a2,l=[a0,a1,a2]:=by
 match l,h with
 |[a0,a1,a2],_=>exact ⟨a0,a1,a2,rfl⟩
theorem Rk:∀ l:List GV,Fw l=(l.map wtV).sum
 |[]=>by simp[Fw]
 |v::l=>by simp[Fw,Rk l]
theorem Rl:∀ l:List (ByteArray×GV),J7 l=(l.map fun y=>y.1.size+wtV y.2).sum
 |[]=>by simp[J7]
 |(k,v)::l=>by simp[J7,Rl l]
theorem uSum:∀ l:List GM,(l.map fun y=>wtU y+AQ y).sum=Rm l+Bf l
 |[]=>by simp[Rm,Bf]
 |v::l=>by simp only[A0k,A1S,uSum l,Rm,Bf];omega
theorem wf64{n:Int}(h:(Lit.int .i64 n).wf=true): -9223372036854775808<=n/\n<=9223372036854775807:=by
 simp only[Lit.wf,A0c,decide_eq_true_eq] at h
 simpa[IntKind.min,IntKind.max,IntKind.signed,IntKind.bits] using h
section
variable{H:Type}{enc:TypeId×Value->H}{w:World}{sp:Nat->Bool}{held:Bool}
theorem rdb_M(n:Nat)(ih:∀ m,m<n->∀ (cs:List Value) (x:DataW H×List MemPlace),DataW.trod enc prog w 0 sp held m 63 cs=some x->∃ y:GV,RR w (Aa y) cs/\wtV y+1<=bk x/\(bk x<=1048576->Sm y)):∀ (cs:List Value) (x:DataW H×List MemPlace),DataW.trod enc prog w 0 sp held n 104 cs=some x->∃ y:GE,RR w (Ac y) cs/\(y.1.size+wtV y.2)+1<=bk x/\(bk x<=1048576->y.1.size<=1048576/\Sm y.2):=by
 intro cs x h
 obtain⟨m,xs,rfl,hl,hb,hn,hf⟩:=FQ underlying104 h
 obtain⟨y0,y1,rfl⟩:=list2 hn
 simp only[A0k,A0S,A1S,List.sum_nil] at hb
 rw[LG] at hl
 have h0:=hf 0 _ rfl
 change _=some y0 at h0
 obtain⟨a0,r0,b0⟩:=Mq underlying9 h0
 change RR w _ ((cs.drop 0).take (prog.cellsOf 9)) at r0
 rw[Eq] at r0
 have h1:=hf 1 _ rfl
 change _=some y1 at h1
 obtain⟨a1,r1,b1,p1⟩:=ih m (by omega) _ _ h1
 change RR w _ ((cs.drop 1).take (prog.cellsOf 63)) at r1
 rw[Ec] at r1
 refine⟨(a0,a1),?_,?_,fun hle=>?_⟩
 rotate_left
 ·simp only;omega
 ·exact⟨by simp only;omega,p1 (by omega)⟩
 have e:=RR.step (off:=0) (k:=1) r0 (RR.step (off:=1) (k:=6) r1 (RR.fin hl))
 rw[Ao]
 simpa using e
theorem Yz:∀ (n:Nat) (cs:List Value) (x:DataW H×List MemPlace),DataW.trod enc prog w 0 sp held n 63 cs=some x->∃ y:GV,RR w (Aa y) cs/\wtV y+1<=bk x/\(bk x<=1048576->Sm y):=by
 intro n
 induction n using Nat.strongRecOn with
 |_ n ih=>
 intro cs x h
 obtain⟨m,xs,rfl,hl,hb,hn,hf⟩:=FQ underlying63 h
 obtain⟨y0,y1,y2,y3,y4,y5,rfl⟩:=list6 hn
 simp only[A0k,A0S,A1S,List.sum_nil] at hb
 rw[Ec] at hl
 have h0:=hf 0 _ rfl
 change _=some y0 at h0
 obtain⟨a0,r0,f0,b0⟩:=Gq underlying59 h0
 change RR w _ ((cs.drop 0).take (prog.cellsOf 59)) at r0
 rw[Xp] at r0
 have h1:=hf 1 _ rfl
 change _=some y1 at h1
 obtain⟨a1,r1,b1⟩:=PZ underlying4 h1
 change RR w _ ((cs.drop 1).take (prog.cellsOf 4)) at r1
 rw[L7] at r1
 have h2:=hf 2 _ rfl
 change _=some y2 at h2
 obtain⟨a2,r2,f2,b2⟩:=Gq underlying2 h2
 change RR w _ ((cs.drop 2).take (prog.cellsOf 2)) at r2
 rw[Nm] at r2
 have h3:=hf 3 _ rfl
 change _=some y3 at h3
 obtain⟨a3,r3,b3⟩:=Mq underlying9 h3
 change RR w _ ((cs.drop 3).take (prog.cellsOf 9)) at r3
 rw[Eq] at r3
 have h4:=hf 4 _ rfl
 change _=some y4 at h4
 obtain⟨a4,r4,b4,p4⟩:=FP Aa wtV Sm underlying60 Ec (by decide) AS (fun m' cs x hm h=>ih m' (by omega) cs x h) h4
 change RR w _ ((cs.drop 4).take (prog.cellsOf 60)) at r4
 rw[SX] at r4
 have h5:=hf 5 _ rfl
 change _=some y5 at h5
 obtain⟨a5,r5,b5,p5⟩:=FP Ac (fun y=>y.1.size+wtV y.2) (fun y=>y.1.size<=1048576/\Sm y.2) underlying61 LG (by decide) Fa (fun m' cs x hm h=>rdb_M m' (fun m'' hm''=>ih m'' (by omega)) cs x h) h5
 change RR w _ ((cs.drop 5).take (prog.cellsOf 61)) at r5
 rw[QI] at r5
 have q4:=b4;have q5:=b5
 refine⟨.mk a0 a1 a2 a3 a4 a5,?_,?_,fun hle=>?_⟩
 rotate_left
 ·rw[XV];simp only[GV.s,GV.list,GV.obj];rw[Rk,Rl];omega
 ·have k4:=p4 (by omega);have k5:=p5 (by omega)
  have h2:=wf64 f2
  exact .mk a0 a1 a2 a3 a4 a5 (by omega) (by omega) k4 (fun z hz=>(k5 z hz).2) h2 (by omega) (fun z hz=>(k5 z hz).1)
 have e:=(RR.step (off:=0) (k:=1) r0 (RR.step (off:=1) (k:=1) r1 (RR.step (off:=2) (k:=1) r2 (RR.step (off:=3) (k:=1) r3 (RR.step (off:=4) (k:=1) r4 (RR.step (off:=5) (k:=1) r5 (RR.fin hl)))))))
 rw[A0]
 simpa[A05,GV.kind,GV.b,GV.n,GV.s,GV.list,GV.obj,GM.kind,GM.key,GM.to,GM.n,GM.had,GM.was,GM.has,GM.value,GM.list,encI] using e
theorem rdb_E:∀ (n:Nat) (cs:List Value) (x:DataW H×List MemPlace),DataW.trod enc prog w 0 sp held n 70 cs=some x->∃ y:GE,RR w (Ac y) cs/\(y.1.size+wtV y.2)+1<=bk x/\(bk x<=1048576->y.1.size<=1048576/\Sm y.2):=by
 intro n
 intro cs x h
 obtain⟨m,xs,rfl,hl,hb,hn,hf⟩:=FQ underlying70 h
 obtain⟨y0,y1,rfl⟩:=list2 hn
 simp only[A0k,A0S,A1S,List.sum_nil] at hb
 rw[Np] at hl
 have h0:=hf 0 _ rfl
 change _=some y0 at h0
 obtain⟨a0,r0,b0⟩:=Mq underlying9 h0
 change RR w _ ((cs.drop 0).take (prog.cellsOf 9)) at r0
 rw[Eq] at r0
 have h1:=hf 1 _ rfl
 change _=some y1 at h1
 obtain⟨a1,r1,b1,p1⟩:=Yz _ _ _ h1
 change RR w _ ((cs.drop 1).take (prog.cellsOf 63)) at r1
 rw[Ec] at r1
 refine⟨(a0,a1),?_,?_,fun hle=>?_⟩
 rotate_left
 ·simp only;omega
 ·exact⟨by simp only;omega,p1 (by omega)⟩
 have e:=(RR.step (off:=0) (k:=1) r0 (RR.step (off:=1) (k:=6) r1 (RR.fin hl)))
 rw[Ao]
 simpa[A05,GV.kind,GV.b,GV.n,GV.s,GV.list,GV.obj,GM.kind,GM.key,GM.to,GM.n,GM.had,GM.was,GM.has,GM.value,GM.list,encI] using e
theorem rdb_U:∀ (n:Nat) (cs:List Value) (x:DataW H×List MemPlace),DataW.trod enc prog w 0 sp held n 66 cs=some x->∃ y:GM,RR w (Aj y) cs/\(wtU y+AQ y)+1<=bk x/\(bk x<=1048576->SmU y):=by
 intro n
 induction n using Nat.strongRecOn with
 |_ n ih=>
 intro cs x h
 obtain⟨m,xs,rfl,hl,hb,hn,hf⟩:=FQ underlying66 h
 obtain⟨y0,y1,y2,y3,y4,y5,y6,y7,y8,rfl⟩:=list9 hn
 simp only[A0k,A0S,A1S,List.sum_nil] at hb
 rw[GO] at hl
 have h0:=hf 0 _ rfl
 change _=some y0 at h0
 obtain⟨a0,r0,f0,b0⟩:=Gq underlying58 h0
 change RR w _ ((cs.drop 0).take (prog.cellsOf 58)) at r0
 rw[QH] at r0
 have h1:=hf 1 _ rfl
 change _=some y1 at h1
 obtain⟨a1,r1,b1⟩:=Mq underlying9 h1
 change RR w _ ((cs.drop 1).take (prog.cellsOf 9)) at r1
 rw[Eq] at r1
 have h2:=hf 2 _ rfl
 change _=some y2 at h2
 obtain⟨a2,r2,b2⟩:=Mq underlying9 h2
 change RR w _ ((cs.drop 2).take (prog.cellsOf 9)) at r2
 rw[Eq] at r2
 have h3:=hf 3 _ rfl
 change _=some y3 at h3
 obtain⟨a3,r3,f3,b3⟩:=Gq underlying2 h3
 change RR w _ ((cs.drop 3).take (prog.cellsOf 2)) at r3
 rw[Nm] at r3
 have h4:=hf 4 _ rfl
 change _=some y4 at h4
 obtain⟨a4,r4,b4⟩:=PZ underlying4 h4
 change RR w _ ((cs.drop 4).take (prog.cellsOf 4)) at r4
 rw[L7] at r4
 have h5:=hf 5 _ rfl
 change _=some y5 at h5
 obtain⟨a5,r5,b5,p5⟩:=Yz _ _ _ h5
 change RR w _ ((cs.drop 5).take (prog.cellsOf 63)) at r5
 rw[Ec] at r5
 have h6:=hf 6 _ rfl
 change _=some y6 at h6
 obtain⟨a6,r6,b6⟩:=PZ underlying4 h6
 change RR w _ ((cs.drop 11).take (prog.cellsOf 4)) at r6
 rw[L7] at r6
 have h7:=hf 7 _ rfl
 change _=some y7 at h7
 obtain⟨a7,r7,b7,p7⟩:=Yz _ _ _ h7
 change RR w _ ((cs.drop 12).take (prog.cellsOf 63)) at r7
 rw[Ec] at r7
 have h8:=hf 8 _ rfl
 change _=some y8 at h8
 obtain⟨a8,r8,b8,p8⟩:=FP Aj (fun y=>wtU y+AQ y) SmU underlying64 GO (by decide) Fo (fun m' cs x hm h=>ih m' (by omega) cs x h) h8
 change RR w _ ((cs.drop 18).take (prog.cellsOf 64)) at r8
 rw[NE] at r8
 refine⟨.mk a0 a1 a2 a3 a4 a5 a6 a7 a8,?_,?_,fun hle=>?_⟩
 rotate_left
 ·rw[Kq,EY];simp only[GM.key,GM.to,GM.was,GM.value,GM.list]
  have:=uSum a8
  omega
 ·have k8:=p8 (by omega)
  have:=uSum a8
  exact .mk _ (p5 (by omega)) (p7 (by omega)) (by simp only[GM.key];omega) (by simp only[GM.to];omega) (by simp only[GM.list];omega) k8
 have e:=(RR.step (off:=0) (k:=1) r0 (RR.step (off:=1) (k:=1) r1 (RR.step (off:=2) (k:=1) r2 (RR.step (off:=3) (k:=1) r3 (RR.step (off:=4) (k:=1) r4 (RR.step (off:=5) (k:=6) r5 (RR.step (off:=11) (k:=1) r6 (RR.step (off:=12) (k:=6) r7 (RR.step (off:=18) (k:=1) r8 (RR.fin hl))))))))))
 rw[Ae]
 simpa[A05,GV.kind,GV.b,GV.n,GV.s,GV.list,GV.obj,GM.kind,GM.key,GM.to,GM.n,GM.had,GM.was,GM.has,GM.value,GM.list,encI] using e
theorem rdb_R:∀ (n:Nat) (cs:List Value) (x:DataW H×List MemPlace),DataW.trod enc prog w 0 sp held n 68 cs=some x->∃ y:GR,RR w (CI y) cs/\(wtU y.m+AQ y.m)+1<=bk x/\(bk x<=1048576->SmU y.m/\0<=y.id):=by
 intro n
 intro cs x h
 obtain⟨m,xs,rfl,hl,hb,hn,hf⟩:=FQ underlying68 h
 obtain⟨y0,y1,y2,y3,y4,rfl⟩:=list5 hn
 simp only[A0k,A0S,A1S,List.sum_nil] at hb
 rw[No] at hl
 have h0:=hf 0 _ rfl
 change _=some y0 at h0
 obtain⟨a0,r0,f0,b0⟩:=Gq underlying23 h0
 change RR w _ ((cs.drop 0).take (prog.cellsOf 23)) at r0
 rw[Fs] at r0
 have h1:=hf 1 _ rfl
 change _=some y1 at h1
 obtain⟨a1,r1,f1,b1⟩:=Gq underlying23 h1
 change RR w _ ((cs.drop 1).take (prog.cellsOf 23)) at r1
 rw[Fs] at r1
 have h2:=hf 2 _ rfl
 change _=some y2 at h2
 obtain⟨a2,r2,f2,b2⟩:=Gq underlying23 h2
 change RR w _ ((cs.drop 2).take (prog.cellsOf 23)) at r2
 rw[Fs] at r2
 have h3:=hf 3 _ rfl
 change _=some y3 at h3
 obtain⟨a3,r3,b3,p3⟩:=rdb_U _ _ _ h3
 change RR w _ ((cs.drop 3).take (prog.cellsOf 66)) at r3
 rw[GO] at r3
 have h4:=hf 4 _ rfl
 change _=some y4 at h4
 obtain⟨a4,r4,f4,b4⟩:=Gq underlying27 h4
 change RR w _ ((cs.drop 22).take (prog.cellsOf 27)) at r4
 rw[UG] at r4
 refine⟨⟨a0,a1,a2,a3,a4⟩,?_,?_,fun hle=>?_⟩
 rotate_left
 ·simp only;omega
 ·exact⟨p3 (by omega),by simp only[Lit.wf,A0c,decide_eq_true_eq] at f2;simpa[IntKind.min,IntKind.signed] using f2.1⟩
 have e:=(RR.step (off:=0) (k:=1) r0 (RR.step (off:=1) (k:=1) r1 (RR.step (off:=2) (k:=1) r2 (RR.step (off:=3) (k:=19) r3 (RR.step (off:=22) (k:=1) r4 (RR.fin hl))))))
 rw[Fq]
 simpa[A05,GV.kind,GV.b,GV.n,GV.s,GV.list,GV.obj,GM.kind,GM.key,GM.to,GM.n,GM.had,GM.was,GM.has,GM.value,GM.list,encI] using e
theorem rdb_S:∀ (n:Nat) (cs:List Value) (x:DataW H×List MemPlace),DataW.trod enc prog w 0 sp held n 43 cs=some x->∃ y:GS,RR w (JF y) cs/\(bk x<=1048576->JL y.ran):=by
 intro n
 intro cs x h
 obtain⟨m,xs,rfl,hl,hb,hn,hf⟩:=FQ underlying43 h
 obtain⟨y0,y1,y2,rfl⟩:=list3 hn
 simp only[A0k,A0S,A1S,List.sum_nil] at hb
 rw[UF] at hl
 have h0:=hf 0 _ rfl
 change _=some y0 at h0
 obtain⟨a0,r0,f0,b0⟩:=Gq underlying23 h0
 change RR w _ ((cs.drop 0).take (prog.cellsOf 23)) at r0
 rw[Fs] at r0
 have h1:=hf 1 _ rfl
 change _=some y1 at h1
 obtain⟨a1,r1,b1,p1⟩:=FP Ac (fun y=>y.1.size+wtV y.2) (fun y=>y.1.size<=1048576/\Sm y.2) underlying26 Np (by decide) Fa (fun m' cs x hm h=>rdb_E m' cs x h) h1
 change RR w _ ((cs.drop 1).take (prog.cellsOf 26)) at r1
 rw[SY] at r1
 have h2:=hf 2 _ rfl
 change _=some y2 at h2
 obtain⟨a2,r2,b2,p2⟩:=FP CI (fun y=>wtU y.m+AQ y.m) (fun y=>SmU y.m/\0<=y.id) underlying22 No (by decide) Fp (fun m' cs x hm h=>rdb_R m' cs x h) h2
 change RR w _ ((cs.drop 2).take (prog.cellsOf 22)) at r2
 rw[Xo] at r2
 refine⟨⟨a0,a1,a2⟩,?_,fun hle=>?_⟩
 rotate_left
 ·have k:=p2 (by omega)
  have hm:∀ y ∈ a2,wtU y.m+AQ y.m<=1048576:=fun y hy=>by
   have:=Qi (f:=fun y:GR=>wtU y.m+AQ y.m) hy
   omega
  exact⟨by simp only;omega,fun y hy=>(k y hy).1,fun y hy=>by have:=hm y hy;omega,fun y hy=>by have:=hm y hy;omega,fun y hy=>(k y hy).2⟩
 have e:=(RR.step (off:=0) (k:=1) r0 (RR.step (off:=1) (k:=1) r1 (RR.step (off:=2) (k:=1) r2 (RR.fin hl))))
 rw[JF]
 simpa[A05,GV.kind,GV.b,GV.n,GV.s,GV.list,GV.obj,GM.kind,GM.key,GM.to,GM.n,GM.had,GM.was,GM.has,GM.value,GM.list,encI] using e
theorem rdb_Rs(n:Nat)(cs:List Value)(x:DataW H×List MemPlace)(h:DataW.trod enc prog w 0 sp held n 22 cs=some x)(hb:bk x<=1048576):∃ l:List GR,RR w [.slice (l.map CI) false] cs/\JL l:=by
 obtain⟨l,r,b,p⟩:=FP CI (fun y=>wtU y.m+AQ y.m) (fun y=>SmU y.m/\0<=y.id) underlying22 No (by decide) Fp (fun m' cs x hm h=>rdb_R m' cs x h) h
 have k:=p hb
 have hm:∀ y ∈ l,wtU y.m+AQ y.m<=1048576:=fun y hy=>by
  have:=Qi (f:=fun y:GR=>wtU y.m+AQ y.m) hy
  omega
 exact⟨l,r,by omega,fun y hy=>(k y hy).1,fun y hy=>by have:=hm y hy;omega,fun y hy=>by have:=hm y hy;omega,fun y hy=>(k y hy).2⟩
end
theorem A02{P:Program}{f:FuncId}{ds:List D}{vs:List Value}{W:World}(h:A4 P f ds [] (.val (.bool true)) [])(hg:GIn P W (fun k=>k<W.heap.size))(hr:RR W ds vs):Calls P f vs.toArray W fun e W'=>e=.returned (.bool true)/\Below W.heap.size W W':=by
 unfold A4 at h
 let G:Gh:=⟨fun k=>k<W.heap.size,fun _=>none,[],Fence.wide,0,.inl rfl⟩
 refine(h.2 W (fun _=>False) G (fun k=>k<W.heap.size) (fun _=>none) vs (fun g l hl=>⟨(hg g l hl).1,(hg g l hl).1,fun h=>h,(hg g l hl).2⟩) rfl
  ⟨fun b x hx=>by simp[Ai] at hx,fun b x v k hx=>by simp[Ai] at hx,fun b c x y v u k hx=>by simp[Ai] at hx,fun _ _=>rfl,fun _ h=>h,rfl,rfl,rfl,A0e _,fun _ _ _=>rfl,fun _ h=>h,fun _ h=>.inl h,fun b x _ h=>(by cases h),fun b x hx=>by simp[Ai] at hx⟩ hr).mono ?_
 rintro e W' ⟨v,I',mu',he,hv,W2⟩
 subst he
 exact⟨by rw[hv.val_inv],⟨W2.os,W2.tape,W2.output,W2.grown,fun k hk=>W2.old k hk (fun h=>h)⟩⟩
def kL:List GR:=[⟨1,7,1,.mk 3 ⟨#[110]⟩ ByteArray.empty 1 false zV false zV [],0⟩,⟨2,7,2,.mk 2 ⟨#[109]⟩ ByteArray.empty 0 false zV false zV [],0⟩]
def kE:List GE:=[(⟨#[110]⟩,.mk 3 false 1 ByteArray.empty [] [])]
def kZ:List D:=[.val (.int .i64 0),.val (.bool false),.val (.int .i64 0),.val (.string ByteArray.empty),.slice [] true,.slice [] true]
def kM(k:Int)(s:ByteArray)(n:Int):List D:=[.val (.int .i64 k),.val (.string s),.val (.string ByteArray.empty),.val (.int .i64 n),.val (.bool false)]++kZ++[.val (.bool false)]++kZ++[.slice [] true]
def X2:List (List D):=[[.val (.int .u64 1),.val (.int .u64 7),.val (.int .u64 1)]++kM 3 ⟨#[110]⟩ 1++[.val (.int .i64 0)],[.val (.int .u64 2),.val (.int .u64 7),.val (.int .u64 2)]++kM 2 ⟨#[109]⟩ 0++[.val (.int .i64 0)]]
def kEit:List (List D):=[[.val (.string ⟨#[110]⟩),.val (.int .i64 3),.val (.bool false),.val (.int .i64 1),.val (.string ByteArray.empty),.slice [] true,.slice [] true]]
theorem kV_ok:Sm zV:=.mk _ _ _ _ [] [] (by simp) (by simp) (by simp) (by simp) (by decide) (by decide) (by simp)
theorem kU_ok(k:Int)(s:ByteArray)(n:Int)(hs:s.size<=1048576):SmU (.mk k s ByteArray.empty n false zV false zV []):=.mk _ kV_ok kV_ok hs (by show ByteArray.empty.size<=1048576;decide) (by simp[GM.list]) (by simp[GM.list])
theorem kL_ok:Fv kL:=by
 refine⟨by decide,?_,?_,?_,?_⟩
 ·intro r hr
  simp only[kL,A0o,A1i,or_false] at hr
  rcases hr with rfl|rfl
  ·exact kU_ok _ _ _ (by decide)
  ·exact kU_ok _ _ _ (by decide)
 ·intro r hr
  simp only[kL,A0o,A1i,or_false] at hr
  rcases hr with rfl|rfl<;>decide
 ·intro r hr
  simp only[kL,A0o,A1i,or_false] at hr
  rcases hr with rfl|rfl<;>decide
 ·intro r hr
  simp only[kL,A0o,A1i,or_false] at hr
  rcases hr with rfl|rfl<;>decide
theorem kH:BA kL 1=kE:=by kernel_rfl
theorem kLog:Dn kL=(1,13):=by kernel_rfl
theorem kLast:DV kL 7 (min 2 kL.length)=2:=by kernel_rfl
theorem kSame:BM kE kE=true:=by kernel_rfl
theorem kLit_lo:E5 X2 (kL.map CI):=by
 rw[show kL.map CI=[[.val (.int .u64 1),.val (.int .u64 7),.val (.int .u64 1),.val (.int .i64 3),.val (.string ⟨#[110]⟩),.val (.string ByteArray.empty),.val (.int .i64 1),.val (.bool false),.val (.int .i64 0),.val (.bool false),.val (.int .i64 0),.val (.string ByteArray.empty),.slice [] false,.slice [] false,.val (.bool false),.val (.int .i64 0),.val (.bool false),.val (.int .i64 0),.val (.string ByteArray.empty),.slice [] false,.slice [] false,.slice [] false,.val (.int .i64 0)],
  [.val (.int .u64 2),.val (.int .u64 7),.val (.int .u64 2),.val (.int .i64 2),.val (.string ⟨#[109]⟩),.val (.string ByteArray.empty),.val (.int .i64 0),.val (.bool false),.val (.int .i64 0),.val (.bool false),.val (.int .i64 0),.val (.string ByteArray.empty),.slice [] false,.slice [] false,.val (.bool false),.val (.int .i64 0),.val (.bool false),.val (.int .i64 0),.val (.string ByteArray.empty),.slice [] false,.slice [] false,.slice [] false,.val (.int .i64 0)]] by kernel_rfl]
 simp only[X2,kM,kZ,A07,A09,A05]
 push_cast
 simp
theorem kEit_lo:E5 kEit (kE.map Ac):=by
 rw[show kE.map Ac=[[.val (.string ⟨#[110]⟩),.val (.int .i64 3),.val (.bool false),.val (.int .i64 1),.val (.string ByteArray.empty),.slice [] false,.slice [] false]] by kernel_rfl]
 simp only[kEit]
 push_cast
 simp
theorem lo_sl{a b:List (List D)}{t:Bool}(h:E5 a b):lo (.slice a t) (.slice b false):=by
 rw[K6]
 exact⟨h,fun h=>by cases h⟩
theorem l_known:A4 prog 9 [] [] (.val (.bool true)) []:=by
 have lL:=lo_sl (t:=true) kLit_lo
 have hH:=A4.args (c_H0 kL_ok 1 (by decide)) (ds':=[.slice X2 true,.val (.int .u64 1)]) ⟨lL,An _,trivial⟩
 have hO:=A4.args (o_Log kL_ok) (ds':=[.slice X2 true]) ⟨lL,trivial⟩
 have hL:=A3.lo (ZC (l:=kL) (by decide) 7 2 (by decide)) (ds':=[.slice X2 true,.val (.int .u64 7),.val (.int .u64 2)]) ⟨lL,An _,An _,trivial⟩
 have hS:=A3.lo (FE kE kE) (ds':=[.slice (kE.map Ac) false,.slice kEit false]) ⟨An _,lo_sl kEit_lo,trivial⟩
 rw[kH] at hH
 rw[kLog] at hO
 rw[kLast] at hL
 rw[kSame] at hS
 simp only[X2,kEit,kM,kZ,A07,A09,A05] at hH hO hL hS
 have oE:=A7 kE
 have hl:kE.length=1:=rfl
 rw[hl] at hH
 generalize hG:kE.map Ac=G at*
 have hl2:G.length=1:=by rw[<-hG];rfl
 refine A4.of_awp func9 rfl ntmps9 (by kernel_rfl) (by simp) (congrArg Array.toList results9) (AWp.sz fun H Hb=>AWp.seq (Zy ?_))
 push_cast
 refine AWp.seq (VC.sound (fz:=[48]) mixed (by kernel_rfl) ?_)
 push_cast
 refine Zy ?_
 (have z:=Za oE hl2;(try push_cast[z])<;>repeat' (first|apply Zi<;>intro _|refine Zs [] hH ?_|refine Zs [] hO ?_|refine Zq hS ?_ ?_|refine Zc hL ?_|exact Zo|with_reducible apply Za)<;>try push_cast[z])
 all_goals first|omega|(apply Zw<;>push_cast)|skip
end Go.Ab
