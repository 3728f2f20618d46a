/- The layer by which the program is walked, and what its functions do: part 10 of 15. -/
import Derived.Test.YtiobcncfjaoniaaGreatDoorV8
import Derived.Shelf.Unicode.ValidAny
import Derived.Shelf.Unicode.DecodeAny
import Derived.Shelf.Strconv.Itoa4
import Derived.Shelf.Small.Wraps
import Derived.Shelf.Strings.Prefix
import Derived.Lib.AppendIntMem
import Derived.Lib.ItoaLen
import Derived.Lib.MapLaws
import Derived.Lib.ValidLaws
set_option maxHeartbeats 4000000
set_option maxRecDepth 20000
set_option linter.unusedVariables false
set_option linter.unusedSimpArgs false
set_option linter.unnecessarySimpa false
namespace Go.Ab
open Go.Proofs Go.Proofs.Tryz
def rw1(p:List CE×Nat)(u:Br):List CE×Nat:=if u.was then HT p.1 p.2 u.k u.old else(U8 p.1 u.k,p.2)
def rwd(p:List CE×Nat)(us:List Br):List CE×Nat:=us.reverse.foldl rw1 p
def MV:Option Br->D
 |some u=>C7 u
 |none=>.val .nilFunc
abbrev E6(l:List (Option Br)):List (List D):=l.map fun o=>[MV o]
theorem Ln(r:Nat->Nat)(h:r 1=1)(o:Option Br):AT r (MV o)=MV o:=by
 cases o with
 |none=>rfl
 |some u=>exact JJ r h u
theorem Ns(n:Nat)(o:Option Br):ltD n (MV o)=true:=by
 cases o with
 |none=>rfl
 |some u=>exact LK n u
theorem Re(r:Nat->Nat)(h:r 1=1)(l:List (Option Br)):D9 r (E6 l)=E6 l:=by
 rw[DU,A13]
 refine A14 fun u _=>?_
 simp only[Function.comp,BX,Ln r h]
theorem LJ(n:Nat):∀ l:List (Option Br),Eg n (E6 l)=true
 |[]=>rfl
 |u::l=>by
  have:=LJ n l
  simp only[E6,A0j,Eg,ltL,Ns,Bool.true_and,Bool.and_true] at this|-
  exact this
attribute [push_cast] Ln Ns Re LJ
def Eb(us:List Br)(j:Nat):List (Option Br):=(us.take j).map some++List.replicate (us.length-j) none
theorem Eh(us:List Br)(j:Nat):(Eb us j).length=us.length:=by
 simp only[Eb,A04,A07,A0C,A1k];omega
theorem WC(us:List Br):E6 (Eb us us.length)=us.map fun u=>[C7 u]:=by
 simp only[Eb,A1j,Nat.sub_self,List.replicate_zero,A0R,E6,A13]
 rfl
theorem WB(us:List Br){j:Nat}(h:j<us.length):(Eb us (j+1))[j]? =some (some us[j]):=by
 unfold Eb
 rw[A0o (by simp;omega),A0u,A0r (by omega),A0b h]
 rfl
theorem WA(us:List Br){j:Nat}(h:j<us.length):(Eb us (j+1)).set j none=Eb us j:=by
 apply A1A
 intro i
 rw[A1B]
 by_cases hi:j=i
 ·subst hi
  rw[if_pos rfl,if_pos (by rw[Eh];exact h)]
  unfold Eb
  rw[A0p (by simp only[A07,A0C];omega),A1w,if_pos (by simp only[A07,A0C];omega)]
 ·rw[if_neg hi]
  unfold Eb
  by_cases h1:i<j
  ·rw[A0o (by simp;omega),A0o (by simp;omega),A0u,A0u,A0r (by omega),A0r h1]
  ·rw[A0p (by simp;omega),A0p (by simp;omega),A1w,A1w]
   simp only[A07,A0C]
   by_cases h2:i<us.length
   ·rw[if_pos (by omega),if_pos (by omega)]
   ·rw[if_neg (by omega),if_neg (by omega)]
theorem Y1(p:List CE×Nat)(us:List Br){i:Nat}(h:i<us.length):rwd p (us.drop i)=rw1 (rwd p (us.drop (i+1))) us[i]:=by
 unfold rwd
 rw[List.drop_eq_getElem_cons h,A1i,A1F]
 rfl
theorem VG(l:List (Option Br))(i:Nat):(E6 l).set i [.val .nilFunc]=E6 (l.set i none):=by
 simp only[E6,A1u];rfl
theorem RM(b c n:Nat)(t:GT):grG b c n (A8 t)=A8 t:=by
 rcases De t with h|⟨cs,h⟩<;>rw [h]<;>rfl
theorem ZP(b c n:Nat)(es:List CE):(es.map Cy).map (fun p=>(p.1,p.2.1,grG b c n p.2.2))=es.map Cy:=by
 rw[A13]
 exact A14 fun e _=>rfl
theorem ST(us:List Br){m:Nat}(h:m<=us.length):(E6 (Eb us m)).take m=(us.take m).map fun u=>[C7 u]:=by
 simp only[E6,Eb]
 rw[<-List.map_take,A1s (by simp only[A07,A0C];omega),A05 (by simp only[A07,A0C];omega),A13]
 rfl
theorem c_undo'(b:GT)(p:List CE×Nat)(l:List (Option Br))(u:Br):A2 prog 279
  [.ptr [.val (.bool u.was)] 0,.ptr (CM u.old) 0,.ptr [.ref 1 0 0 3] 0,.ptr [.val (.string u.k)] 0] [(1,.rows [[A8 b,.mref 2,.gref 4 l.length]] 3),(2,.map (p.1.map Cy) p.2),(4,.grow (E6 l) 1)] (.tup [])
  [(1,.rows [[A8 b,.mref 2,.gref 4 l.length]] 3),(2,.map ((rw1 p u).1.map Cy) (rw1 p u).2),(4,.grow (E6 l) 1)]:=by
 obtain⟨k,was,old⟩:=u
 obtain⟨es,ck⟩:=p
 unfold rw1 HT U8
 simp only
 cases hf:BE k es 0 with
 |none=>
  refine Zd [] func279 rfl ntmps279 results279 ?_
  (have z:=Za @AS<|Za hf @JM;(try push_cast[z])<;>repeat' (first|apply Zi<;>intro _|exact Zo|with_reducible apply Za)<;>try push_cast[z])
  all_goals(rename_i h;subst h;simp only[if_true,if_false,A0A])
  ·apply Zw<;>push_cast
  ·apply Zw<;>push_cast
 |some p=>
  obtain⟨i,s⟩:=p
  refine Zd [] func279 rfl ntmps279 results279 ?_
  (have z:=Za @AS<|Za hf<|Za @HI @TU;(try push_cast[z])<;>repeat' (first|apply Zi<;>intro _|exact Zo|with_reducible apply Za)<;>try push_cast[z])
  all_goals(rename_i h;subst h;simp only[if_true,if_false,A0A])
  ·apply Zw<;>push_cast
  ·apply Zw<;>push_cast
theorem YH{l:List (Option Br)}{i:Nat}{o:Option Br}(h:l[i]? =some o):nr (E6 l) i=[MV o]:=by
 simp only[nr,A02,A0u,h,A1c,A0L]
theorem SL(u:Br):MV (some u)=.func (.func 279) [] [.ptr [.val (.bool u.was)] 0,.ptr (CM u.old) 0,.ptr [.ref 1 0 0 3] 0,.ptr [.val (.string u.k)] 0]:=rfl
abbrev bkS(b:GT)(p:List CE×Nat)(us:List Br)(m j:Nat):St:=⟨[(5,.val (.int .i64 ((j:Int)-1))),(1,.val (.int .i64 m)),(0,.ref 1 0 0 3)],[(1,.rows [[A8 b,.mref 2,.gref 4 (Eb us j).length]] 3),(2,.map ((rwd p (us.drop j)).1.map Cy) (rwd p (us.drop j)).2),(4,.grow (E6 (Eb us j)) 1)],88⟩
theorem c_Back(b:GT)(p:List CE×Nat)(us:List Br)(m:Nat)(hm:m<=us.length)(hn:us.length<=1073741824):A2 prog 191 [.ref 1 0 0 3,.val (.int .i64 m)] (ovH ⟨b,some p,some us⟩) (.val (.int .i64 0)) (ovH ⟨b,some (rwd p (us.drop m)),some (us.take m)⟩):=by
 have oB:=A5 b
 have w1:IntKind.i64.wrap ((us.length:Int)-1)=(us.length:Int)-1:=by rw[Aa (by omega) (by omega)]
 have b1:decide ((m:Int)<0)=false:=decide_eq_false (by omega)
 have b2:decide ((us.length:Int)<(m:Int))=false:=decide_eq_false (by omega)
 obtain⟨es,ck⟩:=p
 have hE:rwd (es,ck) (us.drop m)=((rwd (es,ck) (us.drop m)).1,(rwd (es,ck) (us.drop m)).2):=rfl
 rw[hE]
 simp only[DG]
 refine Zd [] func191 rfl ntmps191 results191 ?_
 (have z:=Za oB<|Za b1<|Za b2 w1;(try push_cast[z])<;>repeat' (first|apply Zi<;>intro _|exact Zo|with_reducible apply Za)<;>try push_cast[z])
 all_goals first|omega|skip
 refine Zl (fun j=>m<=j/\j<=us.length) (fun j=>bkS b (es,ck) us m j) (fun j=>j) us.length ⟨hm,A08 _⟩ ?_ fun j hj=>?_
 ·unfold bkS
  rw[Eh,WC,List.drop_length,show rwd (es,ck) []=(es,ck) from rfl]
  apply Zw<;>push_cast [oB]
 ·have lL:=Eh us j
  unfold bkS
  push_cast[oB]
  refine Al (fun hx=>?_) (fun hx=>?_)
  ·have hx':m<j:=by
    have:(m:Int)<=(j:Int)-1:=by simpa using hx
    omega
   obtain⟨i,rfl⟩:∃ i,j=i+1:=⟨j-1,by omega⟩
   have e1:((i+1:Nat):Int)-1=(i:Int):=by omega
   rw[e1]
   have hi:i<us.length:=by omega
   have hu:=WB us hi
   have ea:=YH hu
   have hc:=c_undo' b (rwd (es,ck) (us.drop (i+1))) (Eb us (i+1)) us[i]
   have hr:=Y1 (es,ck) us hi
   have hs:=VG (Eb us (i+1)) i
   rw[WA us hi] at hs
   have lL':=Eh us i
   have w2:IntKind.i64.wrap ((i:Int)-1)=(i:Int)-1:=by rw[Aa (by omega) (by omega)]
   (have z:=Za oB<|Za ea<|Za @SL lL;(try push_cast[z])<;>repeat' (first|apply Zi<;>intro _|refine Zt [(1,1),(2,2),(4,4)] (hc ..) ?_|exact Zo|with_reducible apply Za)<;>try push_cast[z])
   all_goals first|omega|skip
   refine⟨i,⟨by omega,by omega⟩,by omega,?_⟩
   rw[hr,w2]
   apply Zr [(2,258),(4,260)] rfl<;>push_cast [hs,lL,lL',oB]
  ·have hx':j=m:=by
    have:¬(m:Int)<=(j:Int)-1:=by simpa using hx
    omega
   subst hx'
   (have z:=oB;(try push_cast[z])<;>repeat' (first|apply Zi<;>intro _|exact Zo|with_reducible apply Za)<;>try push_cast[z])
   all_goals first|omega|skip
   refine Aw.trans (Aw.cut (b:=4) j rfl ?_) ?_
   ·simp only[E6,A07,lL];omega
   ·have ht:=ST us (m:=j) (by omega)
    rw[ht]
    have g1:=RM 4 288 j b
    have g2:=ZP 4 288 j (rwd (es,ck) (us.drop j)).1
    generalize(rwd (es,ck) (us.drop j)).2=ck' at*
    generalize(rwd (es,ck) (us.drop j)).1=es' at*
    generalize hE':es'.map Cy=E' at*
    simp only[grG] at g1 g2
    push_cast[g1,g2]
    rw[<-hE']
    apply Zr [(4,288)] rfl<;>push_cast [A0C,Nat.min_eq_left (show j<=us.length by omega),A07]
end Go.Ab
namespace Go.Ab
open Go.RowKit
theorem Aw.nilgrowE{t:Nat}{env:Env}{hp:Hp}{nx:Nat}(sz:Nat):Aw ⟨(t,.slice [] true)::env,hp,nx⟩ ⟨(t,.gref (2*nx) 0)::env,(2*nx,.grow [] sz)::hp,nx+1⟩:=by
 intro w0 M0 I0 nt I mu a w r
 have hnone:mu (2*nx)=none:=r.w.fresh _ ⟨by show 2*nx%2=0;omega,A08 _⟩
 have hv:=r.env t
 have e1:(⟨(t,.slice [] true)::env,hp,nx⟩:St).fs.env t=.slice [] true:=by simp[St.fs,Env.get]
 rw[e1] at hv
 obtain⟨A,hA0⟩:∃ A,a.tmps.getD t undef=.slice A 0 0:=by
  generalize a.tmps.getD t undef=v at hv
  cases hv with
  |slice _ _ A k o sz' cap u hA hc ht hm hlen hcell h=>exact ⟨A,by rw[ht rfl];rfl⟩
 have hmm:=Bu (v:=.slice A 0 0) hnone
 have hlk:∀ c z,Ac ((2*nx,Blk.grow [] sz)::hp) c=some z->(c=2*nx/\z=.grow [] sz)∨(c≠2*nx/\Ac hp c=some z):=by
  intro c z h
  simp only[Ac] at h
  by_cases hc:2*nx=c
  ·have:(2*nx==c)=true:=by simp[hc]
   rw[this,cond_true] at h
   exact .inl ⟨hc.symm,(Option.some.inj h).symm⟩
  ·have:(2*nx==c)=false:=by simp[hc]
   rw[this,cond_false] at h
   exact .inr ⟨fun h=>hc h.symm,h⟩
 have hno:∀ j,Ae (.slice A 0 0)≠some j:=by intro j;cases A<;>simp [Ae]
 have hmu:∀ c,c≠2*nx->Ax mu (2*nx) (.slice A 0 0) c=mu c:=fun c hc=>by simp[Ax,hc]
 refine⟨I,Ax mu (2*nx) (.slice A 0 0),r.size,r.defers,fun t'=>?_,⟨fun c z h=>?_,fun c z v j h hv hj=>?_,fun c c' z z' v v' j h h' hv hv' hj hj'=>?_,fun c hc=>?_,r.w.lt,r.w.os,r.w.tape,r.w.output,r.w.grown,r.w.old,r.w.iold,r.w.inew,fun c v hc hn=>hmm c v (r.w.keep c v hc hn),fun c z h hc=>?_⟩⟩
 ·by_cases htt:t=t'
  ·subst htt
   have e2:(⟨(t,.gref (2*nx) 0)::env,(2*nx,Blk.grow [] sz)::hp,nx+1⟩:St).fs.env t=.gref (2*nx) 0:=by simp[St.fs,Env.get]
   rw[e2]
   rw[hA0]
   exact .gref _ 0 A 0 (by simp[Ax])
  ·have e2:(⟨(t,.gref (2*nx) 0)::env,(2*nx,Blk.grow [] sz)::hp,nx+1⟩:St).fs.env t'=(⟨(t,.slice [] true)::env,hp,nx⟩:St).fs.env t':=by
    have:(t==t')=false:=by simp[htt]
    simp[St.fs,Env.get,this]
   rw[e2];exact(r.env t').mono (fun _ _=>rfl) (fun _ h=>h) hmm
 ·rcases hlk c z h with⟨rfl,rfl⟩|⟨h1,h2⟩
  ·exact⟨A,0,0,[],by simp[Ax],fun i hi=>by simp at hi,A0J _,.inl ⟨rfl,rfl⟩⟩
  ·exact(r.w.blk c z h2).mono (fun _ _=>rfl) (fun _ h=>h) hmm (fun _ _ _ _=>rfl)
 ·rcases hlk c z h with⟨rfl,rfl⟩|⟨h1,h2⟩
  ·simp only[Ax,if_true,A03] at hv
   subst hv
   exact(hno j hj).elim
  ·rw[hmu c h1] at hv;exact r.w.loc c z v j h2 hv hj
 ·rcases hlk c z h with⟨rfl,rfl⟩|⟨h1,h2⟩
  ·simp only[Ax,if_true,A03] at hv
   subst hv
   exact(hno j hj).elim
  ·rcases hlk c' z' h' with⟨rfl,rfl⟩|⟨h1',h2'⟩
   ·simp only[Ax,if_true,A03] at hv'
    subst hv'
    exact(hno j hj').elim
   ·rw[hmu c h1] at hv
    rw[hmu c' h1'] at hv'
    exact r.w.inj c c' z z' v v' j h2 h2' hv hv' hj hj'
 ·obtain⟨h1,h2⟩:=hc
  have h2':2*(nx+1)<=c:=h2
  rw[hmu c (by omega)]
  exact r.w.fresh c ⟨h1,by show 2*nx<=c;omega⟩
 ·obtain⟨h1,h2⟩:=hc
  have h2':2*(nx+1)<=c:=h2
  rcases hlk c z h with⟨rfl,rfl⟩|⟨h3,h5⟩
  ·omega
  ·exact r.w.used c z h5 ⟨h1,by show 2*nx<=c;omega⟩
theorem Aw.nilgrowN{env:Env}{hp:Hp}{nx b sz:Nat}(xs:List D):Aw ⟨env,(b,.rows [xs++[.slice [] true]] (xs.length+1))::hp,nx⟩ ⟨env,(2*nx,.grow [] sz)::(b,.rows [xs++[.gref (2*nx) 0]] (xs.length+1))::hp,nx+1⟩:=by
 intro w0 M0 I0 nt I mu a w r
 have hnone:mu (2*nx)=none:=r.w.fresh _ ⟨by show 2*nx%2=0;omega,A08 _⟩
 have hbb:(⟨env,(b,.rows [xs++[.slice [] true]] (xs.length+1))::hp,nx⟩:St).fs.hp b=some (.rows [xs++[.slice [] true]] (xs.length+1)):=by simp[St.fs,Ac]
 obtain⟨kb,Tb,usb,b1,b2,b3,b4,b5⟩:=r.w.blk b _ hbb
 have hv:=b5 0 xs.length (by simp) (by omega)
 have hlast:∀ d:D,nd (xs++[d]) xs.length=d:=fun d=>by simp[nd]
 simp only[nr,A0H,hlast] at hv
 obtain⟨A,hA0⟩:∃ A,nv usb (0*(xs.length+1)+xs.length)=.slice A 0 0:=by
  generalize nv usb (0*(xs.length+1)+xs.length)=v at hv
  cases hv with
  |slice _ _ A k o sz' cap u hA hc ht hm hlen hcell h=>exact ⟨A,by rw[ht rfl];rfl⟩
 have hmm:=Bu (v:=.slice A 0 0) hnone
 have hbne:b≠2*nx:=fun e=>by rw[e,hnone] at b1;cases b1
 have hlk:∀ c z,Ac ((2*nx,Blk.grow [] sz)::(b,.rows [xs++[.gref (2*nx) 0]] (xs.length+1))::hp) c=some z->(c=2*nx/\z=.grow [] sz)∨(c≠2*nx/\∃ z',(⟨env,(b,.rows [xs++[.slice [] true]] (xs.length+1))::hp,nx⟩:St).fs.hp c=some z'/\((c=b/\z=.rows [xs++[.gref (2*nx) 0]] (xs.length+1))∨z=z')):=by
  intro c z h
  simp only[Ac] at h
  by_cases hc:2*nx=c
  ·have:(2*nx==c)=true:=by simp[hc]
   rw[this,cond_true] at h
   exact .inl ⟨hc.symm,(Option.some.inj h).symm⟩
  ·have:(2*nx==c)=false:=by simp[hc]
   rw[this,cond_false] at h
   refine .inr ⟨fun h=>hc h.symm,?_⟩
   by_cases hcb:b=c
   ·have:(b==c)=true:=by simp[hcb]
    rw[this,cond_true] at h
    subst hcb
    exact⟨_,hbb,.inl ⟨rfl,(Option.some.inj h).symm⟩⟩
   ·have:(b==c)=false:=by simp[hcb]
    rw[this,cond_false] at h
    exact⟨z,by simp[St.fs,Ac,this,h],.inr rfl⟩
 have hno:∀ j,Ae (.slice A 0 0)≠some j:=by intro j;cases A<;>simp [Ae]
 have hmu:∀ c,c≠2*nx->Ax mu (2*nx) (.slice A 0 0) c=mu c:=fun c hc=>by simp[Ax,hc]
 refine⟨I,Ax mu (2*nx) (.slice A 0 0),r.size,r.defers,fun t'=>(r.env t').mono (fun _ _=>rfl) (fun _ h=>h) hmm,⟨fun c z h=>?_,fun c z v j h hv hj=>?_,fun c c' z z' v v' j h h' hv hv' hj hj'=>?_,fun c hc=>?_,r.w.lt,r.w.os,r.w.tape,r.w.output,r.w.grown,r.w.old,r.w.iold,r.w.inew,fun c v hc hn=>hmm c v (r.w.keep c v hc hn),fun c z h hc=>?_⟩⟩
 ·rcases hlk c z h with⟨rfl,rfl⟩|⟨h1,z',h2,h3⟩
  ·exact⟨A,0,0,[],by simp[Ax],fun i hi=>by simp at hi,A0J _,.inl ⟨rfl,rfl⟩⟩
  ·rcases h3 with⟨rfl,rfl⟩|rfl
   ·refine⟨kb,Tb,usb,hmm _ _ b1,b2,b3,fun i hi=>?_,fun i j hi hj=>?_⟩
    ·obtain rfl:i=0:=by simpa using hi
     simp[nr]
    ·obtain rfl:i=0:=by simpa using hi
     have hold:=b5 0 j (by simp) hj
     simp only[nr,A0H] at hold|-
     rcases A0O j xs.length with hlt|hge
     ·have hl:∀ d:D,nd (xs++[d]) j=nd xs j:=fun d=>by simp only[nd,A02,A0o hlt]
      rw[hl] at hold|-
      exact hold.mono (fun _ _=>rfl) (fun _ h=>h) hmm
     ·obtain rfl:j=xs.length:=by omega
      rw[hlast,hA0]
      exact .gref _ 0 A 0 (by simp[Ax])
   ·exact(r.w.blk c z h2).mono (fun _ _=>rfl) (fun _ h=>h) hmm (fun _ _ _ _=>rfl)
 ·rcases hlk c z h with⟨rfl,rfl⟩|⟨h1,z',h2,_⟩
  ·simp only[Ax,if_true,A03] at hv
   subst hv
   exact(hno j hj).elim
  ·rw[hmu c h1] at hv;exact r.w.loc c z' v j h2 hv hj
 ·rcases hlk c z h with⟨rfl,rfl⟩|⟨h1,z1,h2,_⟩
  ·simp only[Ax,if_true,A03] at hv
   subst hv
   exact(hno j hj).elim
  ·rcases hlk c' z' h' with⟨rfl,rfl⟩|⟨h1',z2,h2',_⟩
   ·simp only[Ax,if_true,A03] at hv'
    subst hv'
    exact(hno j hj').elim
   ·rw[hmu c h1] at hv
    rw[hmu c' h1'] at hv'
    exact r.w.inj c c' z1 z2 v v' j h2 h2' hv hv' hj hj'
 ·obtain⟨h1,h2⟩:=hc
  have h2':2*(nx+1)<=c:=h2
  rw[hmu c (by omega)]
  exact r.w.fresh c ⟨h1,by show 2*nx<=c;omega⟩
 ·obtain⟨h1,h2⟩:=hc
  have h2':2*(nx+1)<=c:=h2
  rcases hlk c z h with⟨rfl,rfl⟩|⟨h3,z',h5,_⟩
  ·omega
  ·exact r.w.used c z' h5 ⟨h1,by show 2*nx<=c;omega⟩
theorem Aw.nilgrow3{env:Env}{hp:Hp}{nx b sz:Nat}{x y:D}:Aw ⟨env,(b,.rows [[x,y,.slice [] true]] 3)::hp,nx⟩ ⟨env,(2*nx,.grow [] sz)::(b,.rows [[x,y,.gref (2*nx) 0]] 3)::hp,nx+1⟩:=Aw.nilgrowN [x,y]
theorem A2.weakIn{P:Program}{f:FuncId}{ds ds':List D}{H H0 H':Hp}{r:D}(hl:ds'.length=ds.length)(hw:Aw ⟨Bh 0 ds',H0,4⟩ ⟨Bh 0 ds,H,4⟩)(h:A2 P f ds H r H'):A2 P f ds' H0 r H':=by
 unfold A2 at h|-
 refine⟨h.1,fun w M0 G I mu vs hga hdl hwr hr=>?_⟩
 have hR:Rel w M0 G vs.length (frN 4) I mu (⟨Bh 0 ds',H0,4⟩:St).fs {tmps:=vs.toArray,defers:=G.dl} w:=
  ⟨by simp,BF.refl _ _ _ _,fun t=>by
   have:=F1 hr 0 t
   simpa[St.fs] using this,hwr⟩
 obtain⟨I',mu',R⟩:=hw w M0 G vs.length I mu _ w hR
 refine h.2 w M0 G I' mu' vs hga hdl R.w ⟨by rw[hr.1,hl],fun i hi=>?_⟩
 have:=R.env i
 have hget:=EJ ds 0 i
 simp only[A0J,true_and,A1a,Nat.sub_zero] at hget
 simp only[St.fs,hget] at this
 have hlt:i<vs.length:=by rw[hr.1,hl];exact hi
 simpa[hi,nv,A02,A1g] using this
end Go.Ab
namespace Go.Ab
open Go.Proofs Go.Proofs.Tryz
structure OQ where
 chg:Option (List CE×Nat)
 us:List Br
def OQ.es(q:OQ):List CE:=(q.chg.getD ([],0)).1
def OQ.ck(q:OQ):Nat:=(q.chg.getD ([],0)).2
def cD(n:Nat)(q:OQ):D:=match q.chg with|none=>.val (.map none)|some _=>.mref n
def cB(q:OQ):Blk:=match q.chg with|none=>.junk|some x=>.map (x.1.map Cy) x.2
def oq(b:GT)(q:OQ):OV:=⟨b,q.chg,some q.us⟩
def oqH(b:GT)(q:OQ):Hp:=[(1,.rows [[A8 b,cD 2 q,.gref 4 q.us.length]] 3),(2,cB q),(4,.grow (q.us.map fun u=>[C7 u]) 1)]
theorem HO(b:GT)(q:OQ):ovH (oq b q)=oqH b q:=by
 obtain⟨c,us⟩:=q
 cases c with
 |none=>rfl
 |some x=>rfl
theorem renD_cD(r:Nat->Nat)(n:Nat)(q:OQ):AT r (cD n q)=cD (r n) q:=by
 obtain⟨c,us⟩:=q
 cases c<;>rfl
theorem ltD_cD{m n:Nat}(q:OQ)(h:okN m n=true):ltD m (cD n q)=true:=by
 obtain⟨c,us⟩:=q
 cases c with
 |none=>rfl
 |some x=>exact h
theorem renB_cB(r:Nat->Nat)(q:OQ):EM r (cB q)=cB q:=by
 obtain⟨c,us⟩:=q
 cases c with
 |none=>rfl
 |some x=>simp only[cB,EM,Rd]
theorem ltB_cB(n:Nat)(q:OQ):ltB n (cB q)=true:=by
 obtain⟨c,us⟩:=q
 cases c with
 |none=>rfl
 |some x=>simp only[cB,ltB,UQ]
attribute [push_cast] renD_cD ltD_cD renB_cB ltB_cB
def OQ.view(q:OQ)(l:List GE):List GE:=FV q.es l
structure Fq(b:GT)(q:OQ)(l:List GE):Prop where
 tr:FU b l
 ch:Ek q.es q.ck
 us:q.chg=none->q.us=[]
theorem Fq.ov{b:GT}{q:OQ}{l:List GE}(h:Fq b q l):OvOk (oq b q) l:=by
 exact⟨h.tr,h.ch⟩
theorem UI(b:GT)(q:OQ)(l:List GE):(oq b q).view l=q.view l:=rfl
theorem oq_us(b:GT)(q:OQ):(oq b q).us=q.us:=rfl
def OQ.step(q:OQ)(k:ByteArray)(s:C1):OQ:=
 ⟨some ((HT q.es q.ck k s).1,(HT q.es q.ck k s).2),q.us++[⟨k,(BE k q.es 0).isSome,((BE k q.es 0).map (·.2)).getD (false,zV)⟩]⟩
theorem oq_step(b:GT)(q:OQ)(k:ByteArray)(s:C1):(oq b q).step k s=oq b (q.step k s):=rfl
theorem Fq.step{b:GT}{q:OQ}{l:List GE}(h:Fq b q l){k:ByteArray}{s:C1}(hs:Sm s.2/\(s.1=false->s.2=zV)/\k.size<=64):Fq b (q.step k s) l/\(q.step k s).view l=if s.1 then Bt (k,s.2) (q.view l) else Cf k (q.view l):=
 ⟨⟨h.tr,h.ch.set hs,fun e=>by cases e⟩,Vt h.ch h.tr.srt hs⟩
section
variable{b:GT}{q:OQ}{l:List GE}(h:Fq b q l)(hb:l.length<=1099511627776)(k:ByteArray)
include h hb
theorem q_Get:A2 prog 235 [.ref 1 0 0 3,.val (.string k)] (oqH b q) (.tup [.agg (A4 (Cc (AA k (q.view l)))),.val (.bool (AA k (q.view l)).isSome)]) (oqH b q):=by
 have:=c_OGet (oq b q) l h.ov hb k
 rwa[HO,UI] at this
end
theorem Pw(b:GT)(q:OQ):A2 prog 189 [.ref 1 0 0 3] (oqH b q) (.val (.int .i64 (q.us.length:Nat))) (oqH b q):=by
 have:=c_Mark (oq b q)
 rw[HO] at this
 rw[<-oq_us b q]
 exact this
theorem q_step(b:GT)(q:OQ)(k:ByteArray)(s:C1)(hn:q.us.length<1073741824):A2 prog 234 [.ref 1 0 0 3,.val (.string k),.agg (CM s)] (oqH b q) (.tup []) (oqH b (q.step k s)):=by
 have:=c_step (oq b q) k s (by show(oq b q).us.length<_;rw[oq_us];exact hn)
 rwa[oq_step,HO,HO] at this
def OQ.back(q:OQ)(m:Nat):OQ:=⟨q.chg.map fun c=>rwd c (q.us.drop m),q.us.take m⟩
theorem c_BackN(b:GT):A2 prog 191 [.ref 1 0 0 3,.val (.int .i64 (0:Nat))] (ovH ⟨b,none,some []⟩) (.val (.int .i64 0)) (ovH ⟨b,none,some []⟩):=by
 have oB:=A5 b
 simp only[Lw]
 refine Zd [] func191 rfl ntmps191 results191 ?_
 (have z:=oB;(try push_cast[z])<;>repeat' (first|apply Zi<;>intro _|exact Zo|with_reducible apply Za)<;>try push_cast[z])
 refine AWp.loopI mixed (by kernel_rfl) (ι:=Unit) (fun j=>True) (fun j=>⟨[(5,.val (.int .i64 (-1))),(1,.val (.int .i64 0)),(0,.ref 1 0 0 3)],[(1,.rows [[A8 b,.val (.map none),.gref 4 0]] 3),(2,.junk),(4,.grow [] 1)],88⟩) (fun j=>0) () trivial ?_ fun j hj=>?_
 ·apply Zw<;>push_cast [oB]
  all_goals decide
 ·(have z:=oB;(try push_cast[z])<;>repeat' (first|apply Zi<;>intro _|exact Zo|with_reducible apply Za)<;>try push_cast[z])
  all_goals first|omega|exact nil_len|exact nil_one|skip
  refine Aw.trans (Aw.cut (b:=4) 0 rfl (A08 _)) ?_
  have g1:=RM 4 288 0 b
  simp only[grG] at g1
  push_cast[g1]
  apply Zr [(4,288)] rfl<;>push_cast [oB]
theorem q_Back(b:GT)(q:OQ)(hq:q.chg=none->q.us=[])(m:Nat)(hm:m<=q.us.length)(hn:q.us.length<=1073741824):A2 prog 191 [.ref 1 0 0 3,.val (.int .i64 m)] (oqH b q) (.val (.int .i64 0)) (oqH b (q.back m)):=by
 rw[<-HO,<-HO]
 obtain⟨c,us⟩:=q
 cases c with
 |none=>
  have hu:us=[]:=hq rfl
  subst hu
  obtain rfl:m=0:=Nat.le_zero.1 hm
  exact c_BackN b
 |some x=>
  obtain⟨es,ck⟩:=x
  exact c_Back b (es,ck) us m hm hn
theorem UG(b:GT):A2 prog 72 [.agg [A8 b]] [] (.ref 0 0 0 3) [(0,.rows [[A8 b,.val (.map none),.gref 4 0]] 3),(2,.junk),(4,.grow [] 1)]:=by
 refine Zd [] func72 rfl ntmps72 results72 ?_
 ((try push_cast)<;>repeat' (first|apply Zi<;>intro _|exact Zp|with_reducible apply Za)<;>try push_cast)
 have hs:Aw ⟨[(0,.ref 40 0 0 3)],[(40,.rows [[A8 b,.val (.map none),.slice [] true]] 3),(8,.rows [[A8 b]] 1)],28⟩ ⟨[(0,.ref 40 0 0 3)],[(40,.rows [[A8 b,.val (.map none),.slice [] true]] 3)],28⟩:=by
  have oB:=A5 b
  apply Zw<;>push_cast [oB]
 refine Aw.trans hs (Aw.trans (Aw.nilgrow3 (sz:=1)) ?_)
 apply Zr [(0,40),(4,56),(2,1000)] rfl<;>push_cast
def UOk(u:Br):Prop:=Sm u.old.2/\(u.old.1=false->u.old.2=zV)/\u.k.size<=64
theorem rw1_ok{p:List CE×Nat}(h:Ek p.1 p.2){u:Br}(hu:UOk u):Ek (rw1 p u).1 (rw1 p u).2:=by
 unfold rw1
 split
 ·exact h.set hu
 ·exact h.del u.k
theorem lk_rw1{p:List CE×Nat}(h:Ek p.1 p.2)(u:Br)(k:ByteArray):lk (rw1 p u).1 k=if u.k=k then(if u.was then some u.old else none) else lk p.1 k:=by
 unfold rw1
 cases u.was with
 |true=>simp only[if_true];exact PN h u.k u.old k
 |false=>simp only[A0A,if_false];exact lk_cdel h u.k k
theorem XZ(p:List CE×Nat)(us:List Br)(u:Br):rwd p (us++[u])=rwd (rw1 p u) us:=by
 simp[rwd]
theorem Y0{us:List Br}(hu:∀ u ∈ us,UOk u):∀ {p:List CE×Nat},Ek p.1 p.2->Ek (rwd p us).1 (rwd p us).2:=by
 have:∀ (l:List Br),(∀ u ∈ l,UOk u)->∀ {p:List CE×Nat},Ek p.1 p.2->Ek (l.foldl rw1 p).1 (l.foldl rw1 p).2:=by
  intro l
  induction l with
  |nil=>intro _ p h;exact h
  |cons u l ih=>intro hl p h;exact ih (fun x hx=>hl x (A0n _ hx)) (rw1_ok h (hl u (A0z ..)))
 exact fun {p} h=>this us.reverse (fun u hu'=>hu u (List.mem_reverse.1 hu')) h
structure MS(q q':OQ):Prop where
 ex:∃ ext,q'.us=q.us++ext/\(∀ u ∈ ext,UOk u)/\∀ k,lk (rwd (q'.es,q'.ck) ext).1 k=lk q.es k
theorem MS.refl(q:OQ):MS q q:=⟨[],by simp,by simp,fun k=>rfl⟩
theorem Q3(k:ByteArray)(es:List CE):(BE k es 0).isSome=(lk es k).isSome/\((BE k es 0).map (·.2))=lk es k:=by
 have:=GB k es 0
 rw[<-this]
 cases BE k es 0<;>simp
theorem OQ.step_es(q:OQ)(k:ByteArray)(s:C1):(q.step k s).es=(HT q.es q.ck k s).1:=rfl
theorem OQ.step_us(q:OQ)(k:ByteArray)(s:C1):(q.step k s).us=q.us++[⟨k,(BE k q.es 0).isSome,((BE k q.es 0).map (·.2)).getD (false,zV)⟩]:=rfl
theorem MS.step{q:OQ}(h:Ek q.es q.ck){k:ByteArray}{s:C1}(hs:Sm s.2/\(s.1=false->s.2=zV)/\k.size<=64):MS q (q.step k s):=by
 obtain⟨c1,c2⟩:=Q3 k q.es
 refine⟨[⟨k,(lk q.es k).isSome,(lk q.es k).getD (false,zV)⟩],by rw[OQ.step_us,c1,c2],fun u hu=>?_,fun k'=>?_⟩
 ·rw[A0a.1 hu]
  cases hl:lk q.es k with
  |none=>exact ⟨Sm_zV,fun _=>rfl,hs.2.2⟩
  |some old=>
   obtain⟨n,hm⟩:=Zx hl
   have:=h.sm _ hm
   exact⟨this.1,this.2.1,hs.2.2⟩
 ·have hc:Ek (q.step k s).es (q.step k s).ck:=h.set hs
  show lk (rw1 ((q.step k s).es,(q.step k s).ck) ⟨k,(lk q.es k).isSome,(lk q.es k).getD (false,zV)⟩).1 k'=_
  rw[lk_rw1 (p:=((q.step k s).es,(q.step k s).ck)) hc]
  simp only[OQ.step_es]
  rw[PN h]
  by_cases hk:k=k'
  ·subst hk
   cases lk q.es k<;>simp
  ·simp[hk]
theorem OQ.back_ok{b:GT}{q q':OQ}{l:List GE}(hq:Fq b q l)(hq':Fq b q' l)(e:MS q q'):Fq b (q'.back q.us.length) l/\(q'.back q.us.length).view l=q.view l/\MS q (q'.back q.us.length)/\q.us.length<=q'.us.length:=by
 obtain⟨ext,e1,e2,e3⟩:=e
 have hle:q.us.length<=q'.us.length:=by rw[e1,A04];omega
 obtain⟨c,us⟩:=q'
 have e1':us=q.us++ext:=e1
 have hd:us.drop q.us.length=ext:=by rw[e1',List.drop_left]
 have ht:us.take q.us.length=q.us:=by rw[e1',List.take_left]
 cases c with
 |none=>
  have hu:us=[]:=hq'.us rfl
  subst hu
  have hx:ext=[]:=(List.append_eq_nil_iff.1 e1'.symm).2
  subst hx
  simp only[OQ.back,ht,Option.map_none]
  refine⟨⟨hq.tr,hq'.ch,fun _=>(List.append_eq_nil_iff.1 e1'.symm).1⟩,Kg hq.tr.srt hq'.ch.keys hq.ch.keys (fun k=>e3 k),⟨[],by rw[A0R],by simp,fun k=>e3 k⟩,hle⟩
 |some x=>
  obtain⟨es,ck⟩:=x
  have hch:Ek (rwd (es,ck) ext).1 (rwd (es,ck) ext).2:=Y0 e2 hq'.ch
  simp only[OQ.back,hd,ht,A1c]
  refine⟨⟨hq.tr,hch,fun e=>by cases e⟩,Kg hq.tr.srt hch.keys hq.ch.keys e3,⟨[],by rw[A0R],by simp,fun k=>e3 k⟩,hle⟩
end Go.Ab
namespace Go.Proofs
open Go.Proofs Go.Proofs.Tryz Go.RowKit Go.Shelf
def Tryz.sValid_ren:Go.Shelf.Ren:=⟨fun|196=>168|259=>215|n=>n,fun|9=>9|4=>4|3=>3|5=>5|12=>12|119=>319|0=>0|46=>203|139=>322|138=>321|53=>33|n=>n,fun|3=>1|4=>2|n=>n⟩
theorem Tryz.sValid:Go.Proofs.Lays.n196 prog Tryz.sValid_ren:= {
 mixed:=by kernel_rfl
 f196:=func168.trans (congrArg some (by kernel_rfl))
 f259:=func215.trans (congrArg some (by kernel_rfl))
 t0:=underlying0
 a0:=isAgg0
 z0:=sizeOf0
 v0:=zeroValue0
 t3:=underlying3
 a3:=isAgg3
 z3:=sizeOf3
 v3:=zeroValue3
 t4:=underlying4
 a4:=isAgg4
 z4:=sizeOf4
 v4:=zeroValue4
 t5:=underlying5
 a5:=isAgg5
 z5:=sizeOf5
 v5:=zeroValue5
 t9:=underlying9
 a9:=isAgg9
 z9:=sizeOf9
 v9:=zeroValue9
 t12:=underlying12
 a12:=isAgg12
 z12:=sizeOf12
 v12:=zeroValue12
 t46:=underlying203
 a46:=isAgg203
 z46:=sizeOf203
 v46:=zeroValue203
 t53:=underlying33
 a53:=isAgg33
 z53:=sizeOf33
 v53:=zeroValue33
 t119:=underlying319
 a119:=isAgg319
 z119:=sizeOf319
 t138:=underlying321
 a138:=isAgg321
 z138:=sizeOf321
 v138:=zeroValue321
 t139:=underlying322
 a139:=isAgg322
 z139:=sizeOf322
 v139:=zeroValue322
 g3:=by kernel_rfl
 g4:=by kernel_rfl}
def Tryz.sDecode_ren:Go.Shelf.Ren:=⟨fun|197=>222|260=>270|n=>n,fun|9=>9|21=>21|3=>3|4=>4|5=>5|105=>329|119=>319|0=>0|46=>203|139=>322|138=>321|n=>n,fun|3=>1|4=>2|n=>n⟩
theorem Tryz.sDecode:Go.Proofs.Lays.n197 prog Tryz.sDecode_ren:= {
 mixed:=by kernel_rfl
 f197:=func222.trans (congrArg some (by kernel_rfl))
 f260:=func270.trans (congrArg some (by kernel_rfl))
 t0:=underlying0
 a0:=isAgg0
 z0:=sizeOf0
 v0:=zeroValue0
 t3:=underlying3
 a3:=isAgg3
 z3:=sizeOf3
 v3:=zeroValue3
 t4:=underlying4
 a4:=isAgg4
 z4:=sizeOf4
 v4:=zeroValue4
 t5:=underlying5
 a5:=isAgg5
 z5:=sizeOf5
 v5:=zeroValue5
 t9:=underlying9
 a9:=isAgg9
 z9:=sizeOf9
 v9:=zeroValue9
 t21:=underlying21
 a21:=isAgg21
 z21:=sizeOf21
 v21:=zeroValue21
 t46:=underlying203
 a46:=isAgg203
 z46:=sizeOf203
 v46:=zeroValue203
 t105:=underlying329
 a105:=isAgg329
 z105:=sizeOf329
 v105:=zeroValue329
 t119:=underlying319
 a119:=isAgg319
 z119:=sizeOf319
 t138:=underlying321
 a138:=isAgg321
 z138:=sizeOf321
 v138:=zeroValue321
 t139:=underlying322
 a139:=isAgg322
 z139:=sizeOf322
 v139:=zeroValue322
 g3:=by kernel_rfl
 g4:=by kernel_rfl}
def Tryz.sItoa_ren:Go.Shelf.Ren:=⟨fun|173=>57|246=>111|283=>170|284=>171|285=>172|286=>173|129=>159|317=>217|318=>218|319=>219|320=>220|337=>268|338=>269|n=>n,fun|2=>2|3=>3|9=>9|4=>4|171=>260|0=>0|53=>33|37=>36|5=>5|173=>262|212=>326|51=>151|20=>20|213=>327|46=>203|232=>404|233=>405|n=>n,fun|17=>3|18=>4|19=>5|n=>n⟩
theorem Tryz.sItoa:Go.Proofs.LaysM.n173 prog Tryz.sItoa_ren:= {
 mixed:=by kernel_rfl
 f129:=func159.trans (congrArg some (by kernel_rfl))
 f173:=func57.trans (congrArg some (by kernel_rfl))
 f246:=func111.trans (congrArg some (by kernel_rfl))
 f283:=func170.trans (congrArg some (by kernel_rfl))
 f284:=func171.trans (congrArg some (by kernel_rfl))
 f285:=func172.trans (congrArg some (by kernel_rfl))
 f286:=func173.trans (congrArg some (by kernel_rfl))
 f317:=func217.trans (congrArg some (by kernel_rfl))
 f318:=func218.trans (congrArg some (by kernel_rfl))
 f319:=func219.trans (congrArg some (by kernel_rfl))
 f320:=func220.trans (congrArg some (by kernel_rfl))
 f337:=func268.trans (congrArg some (by kernel_rfl))
 f338:=func269.trans (congrArg some (by kernel_rfl))
 t0:=underlying0
 a0:=isAgg0
 z0:=sizeOf0
 v0:=zeroValue0
 t2:=underlying2
 a2:=isAgg2
 z2:=sizeOf2
 v2:=zeroValue2
 t3:=underlying3
 a3:=isAgg3
 z3:=sizeOf3
 v3:=zeroValue3
 t4:=underlying4
 a4:=isAgg4
 z4:=sizeOf4
 v4:=zeroValue4
 t5:=underlying5
 a5:=isAgg5
 z5:=sizeOf5
 v5:=zeroValue5
 t9:=underlying9
 a9:=isAgg9
 z9:=sizeOf9
 v9:=zeroValue9
 t20:=underlying20
 a20:=isAgg20
 z20:=sizeOf20
 v20:=zeroValue20
 t37:=underlying36
 a37:=isAgg36
 z37:=sizeOf36
 v37:=zeroValue36
 t46:=underlying203
 a46:=isAgg203
 z46:=sizeOf203
 v46:=zeroValue203
 t51:=underlying151
 a51:=isAgg151
 z51:=sizeOf151
 v51:=zeroValue151
 t53:=underlying33
 a53:=isAgg33
 z53:=sizeOf33
 v53:=zeroValue33
 t171:=underlying260
 a171:=isAgg260
 z171:=sizeOf260
 v171:=zeroValue260
 t173:=underlying262
 a173:=isAgg262
 z173:=sizeOf262
 v173:=zeroValue262
 t212:=underlying326
 a212:=isAgg326
 z212:=sizeOf326
 v212:=zeroValue326
 t213:=underlying327
 a213:=isAgg327
 z213:=sizeOf327
 t232:=underlying404
 a232:=isAgg404
 z232:=sizeOf404
 v232:=zeroValue404
 t233:=underlying405
 a233:=isAgg405
 z233:=sizeOf405
 v233:=zeroValue405
 g17:=by kernel_rfl
 g18:=by kernel_rfl
 g19:=by kernel_rfl
 i0:=by kernel_rfl
 i2:=by kernel_rfl
 i3:=by kernel_rfl
 i4:=by kernel_rfl
 i5:=by kernel_rfl
 i9:=by kernel_rfl
 i20:=by kernel_rfl
 i37:=by kernel_rfl
 i46:=by kernel_rfl
 i51:=by kernel_rfl
 i53:=by kernel_rfl
 i171:=by kernel_rfl
 i173:=by kernel_rfl
 i212:=by kernel_rfl
 i232:=by kernel_rfl
 i233:=by kernel_rfl
 m17:=by kernel_rfl
 m18:=by kernel_rfl
 m19:=by kernel_rfl}
def Tryz.sBool_ren:Go.Shelf.Ren:=⟨fun|121=>55|214=>110|n=>n,fun|4=>4|9=>9|n=>n,fun|n=>n⟩
theorem Tryz.sBool:Go.Proofs.Lays.n121 prog Tryz.sBool_ren:= {
 mixed:=by kernel_rfl
 f121:=func55.trans (congrArg some (by kernel_rfl))
 f214:=func110.trans (congrArg some (by kernel_rfl))
 t4:=underlying4
 a4:=isAgg4
 z4:=sizeOf4
 v4:=zeroValue4
 t9:=underlying9
 a9:=isAgg9
 z9:=sizeOf9
 v9:=zeroValue9}
def Tryz.sHas_ren:Go.Shelf.Ren:=⟨fun|99=>282|206=>319|n=>n,fun|9=>9|4=>4|3=>3|n=>n,fun|n=>n⟩
theorem Tryz.sHas:Go.Proofs.Lays.n99 prog Tryz.sHas_ren:= {
 mixed:=by kernel_rfl
 f99:=func282.trans (congrArg some (by kernel_rfl))
 f206:=func319.trans (congrArg some (by kernel_rfl))
 t3:=underlying3
 a3:=isAgg3
 z3:=sizeOf3
 v3:=zeroValue3
 t4:=underlying4
 a4:=isAgg4
 z4:=sizeOf4
 v4:=zeroValue4
 t9:=underlying9
 a9:=isAgg9
 z9:=sizeOf9
 v9:=zeroValue9}
end Go.Proofs
namespace Go.Ab
open Go.Proofs Go.Proofs.Tryz Go.RowKit Go.Shelf
theorem PV{l:List Value}{T:TypeId}{fz:Nat×Nat}{w:World}{g i:Nat}{v:Value}(h:w.heap[g]? =some (.cells l.toArray T fz))(hi:l[i]? =some v):w.cell? ⟨g,i,none⟩=some v:=by
 simp[World.cell?,h,hi]
theorem at_of{α:Type}{f g:Nat->α}{n:Nat}(h:(List.range n).map f=(List.range n).map g){i:Nat}(hi:i<n):f i=g i:=by
 have:=congrArg (fun l=>l[i]?) h
 simpa[A0u,A1T hi] using this
theorem ZU{c:Nat}(h:c<256):GF[c]? =some (.int .u8 (Lib.firstT c)):=at_of (f:=fun c=>GF[c]?) (g:=fun c=>some (.int .u8 (Lib.firstT c))) (n:=256) (by kernel_rfl) h
theorem lo_ok{c:Nat}(h:c<16):DA[2*c]? =some (.int .u8 (Lib.accLo c)):=at_of (f:=fun c=>DA[2*c]?) (g:=fun c=>some (.int .u8 (Lib.accLo c))) (n:=16) (by kernel_rfl) h
theorem hi_ok{c:Nat}(h:c<16):DA[2*c+1]? =some (.int .u8 (Lib.accHi c)):=at_of (f:=fun c=>DA[2*c+1]?) (g:=fun c=>some (.int .u8 (Lib.accHi c))) (n:=16) (by kernel_rfl) h
theorem EO{P:Program}{g3 g4:Nat}{w:World}{I:Nat->Prop}(h3:KK P g3=some GF)(h4:KK P g4=some DA)(h:GIn P w I):Lib.Utf8Tabs g3 g4 w:=by
 obtain⟨_,T,fz,h5⟩:=h g3 _ h3
 obtain⟨_,T',fz',h6⟩:=h g4 _ h4
 exact⟨fun c hc=>PV h5 (ZU hc),fun i hi=>⟨PV h6 (lo_ok hi),PV h6 (hi_ok hi)⟩⟩
theorem Ym:Px=Lib.pow10Tab.map fun z=>Value.int .u64 z:=by kernel_rfl
theorem XO{P:Program}{g:Nat}{w:World}{I:Nat->Prop}(hg:P.globalNamed "internal/strconv.uint64pow10"=some g)(h3:KK P g=some Px)(h:GIn P w I):Lib.TabIs P w "internal/strconv.uint64pow10" .u64 Lib.pow10Tab:=by
 obtain⟨_,T,fz,h5⟩:=h g _ h3
 unfold Lib.TabIs World.var?
 rw[hg,A1x,h5,Ym]
def AH(s:ByteArray):Bool:=Lib.validD s.data.toList
theorem MR(s:ByteArray):A0 prog 168 [.val (.string s)] (.val (.bool (AH s))):=
 A0.of_vals (us:=[.string s]) (by kernel_rfl) rfl fun w I hg ho=>⟨.bool (AH s),fun _=>GK trivial,Any.utf8_ValidString Tryz.sValid s w (ho _ (A0a.2 rfl)) (EO (by kernel_rfl) (by kernel_rfl) hg)⟩
theorem TK(n:Int)(h0: -9223372036854775808<=n)(h1:n<=9223372036854775807):(Lib.itoa n).length<=9223372036854775807:=A0M (Lib.itoa_length_le n h0 h1) (by decide)
theorem KF(n:Int)(h0: -9223372036854775808<=n)(h1:n<=9223372036854775807):A0 prog 57 [.val (.int .i64 n),.val (.int .i64 10)] (.val (.string ⟨(Lib.itoa n).toArray⟩)):=
 A0.of_vals (us:=[.int .i64 n,.int .i64 10]) (by kernel_rfl) rfl fun w I hg ho=>⟨.string ⟨(Lib.itoa n).toArray⟩,fun _=>GK (TK n h0 h1),by
  obtain⟨g,hg1,hg2⟩:∃ g,prog.globalNamed "internal/strconv.uint64pow10"=some g/\KK prog g=some Px:=⟨(prog.globalNamed "internal/strconv.uint64pow10").getD 0,by kernel_rfl,by kernel_rfl⟩
  refine(Any.strconv_FormatInt_10 Tryz.sItoa n h0 h1 w (XO hg1 hg2 hg)).mono fun e w' ⟨he,k,os,hw⟩=>⟨he,?_⟩
  subst hw
  exact Lib.below_grow _ w (A08 _) k os⟩
theorem Qb(b:Bool):A0 prog 55 [.val (.bool b)] (.val (.string ⟨(Lib.formatBool b).toArray⟩)):=
 A0.of_vals (us:=[.bool b]) (by kernel_rfl) rfl fun w I hg ho=>⟨.string ⟨(Lib.formatBool b).toArray⟩,fun _=>GK (Ly (by cases b<;>rfl)),by
  refine(Any.strconv_FormatBool Tryz.sBool b w).mono fun e w' ⟨he,hw⟩=>⟨he,?_⟩
  subst hw;exact Below.refl _ _⟩
theorem SA(s p:ByteArray):A0 prog 282 [.val (.string s),.val (.string p)] (.val (.bool (Lib.hasPrefix s.data.toList p.data.toList))):=
 A0.of_vals (us:=[.string s,.string p]) (by kernel_rfl) rfl fun w I hg ho=>⟨.bool (Lib.hasPrefix s.data.toList p.data.toList),fun _=>GK trivial,by
  refine(Any.strings_HasPrefix Tryz.sHas s p w).mono fun e w' ⟨he,hw⟩=>⟨he,?_⟩
  subst hw;exact Below.refl _ _⟩
theorem FR(s:ByteArray):A0 prog 108 [.val (.string s)] (.val (.bool (AH s))):=by
 have h:=MR s
 refine Zf [] func108 rfl ntmps108 results108 ?_
 (have z:=trivial;(try push_cast)<;>repeat' (first|apply Zi<;>intro _|refine Zc h ?_|exact Zp|with_reducible apply Za)<;>try push_cast)
noncomputable def FL(k:ByteArray):Int:=FK (AH k) k
theorem Q8(k:ByteArray):A0 prog 137 [.val (.string k)] (.val (.int .i64 (FL k))):=Xg k _ (FR k)
theorem WG{k:ByteArray}(h:FL k=0):k.size<=64:=by
 unfold FL FK at h
 split at h
 ·cases h
 ·split at h
  ·cases h
  ·omega
section
variable(b:GT)(q:OQ)(k:ByteArray)(v:GV)
theorem q_PutK(hk:FL k≠0):A2 prog 192 [.ref 1 0 0 3,.val (.string k),.agg (A4 v)] (oqH b q) (.val (.int .i64 8)) (oqH b q):=by
 have hK:=Q8 k
 have b1:(FL k !=0)=true:=by simpa using hk
 have oB:=A5 b
 simp only[oqH]
 refine Zd [] func192 rfl ntmps192 results192 ?_
 (have z:=Za b1 oB;(try push_cast[z])<;>repeat' (first|apply Zi<;>intro _|refine Zc hK ?_|exact Zo|with_reducible apply Za)<;>try push_cast[z])
 apply Zw<;>push_cast [oB]
theorem q_PutF(f:Int)(hF:A0 prog 85 [.agg (A4 v)] (.val (.int .i64 f)))(hk:FL k=0)(hf:f≠0):A2 prog 192 [.ref 1 0 0 3,.val (.string k),.agg (A4 v)] (oqH b q) (.val (.int .i64 f)) (oqH b q):=by
 have hK:=Q8 k
 rw[hk] at hK
 have b1:(f !=0)=true:=by simpa using hf
 have oB:=A5 b
 simp only[oqH]
 refine Zd [] func192 rfl ntmps192 results192 ?_
 (have z:=Za b1 oB;(try push_cast[z])<;>repeat' (first|apply Zi<;>intro _|refine Zc hK ?_|refine Zc hF ?_|exact Zo|with_reducible apply Za)<;>try push_cast[z])
 apply Zw<;>push_cast [oB]
theorem q_Put(hF:A0 prog 85 [.agg (A4 v)] (.val (.int .i64 0)))(hk:FL k=0)(hs:Sm v)(hn:q.us.length<1073741824):A2 prog 192 [.ref 1 0 0 3,.val (.string k),.agg (A4 v)] (oqH b q) (.val (.int .i64 0)) (oqH b (q.step k (true,v))):=by
 have hK:=Q8 k
 rw[hk] at hK
 have hC:=K9 v hs
 have hS:=q_step b q k (true,v) hn
 rw[Ci] at hS
 have oB:=A5 b
 simp only[oqH] at hS|-
 generalize q.step k (true,v)=q' at*
 refine Zd [] func192 rfl ntmps192 results192 ?_
 (have z:=oB;(try push_cast[z])<;>repeat' (first|apply Zi<;>intro _|refine Zc hK ?_|refine Zc hF ?_|refine Zc hC ?_|refine Zs [(1,1),(2,2),(4,4)] hS ?_|exact Zo|with_reducible apply Za)<;>try push_cast[z])
 apply Zr [(2,146),(4,148)] rfl<;>push_cast [oB]
end
noncomputable def G7(f:Int)(k:ByteArray):Int:=if FL k=0 then f else 8
structure Led(b:GT)(l:List GE)(q q':OQ)(n:Nat)(L:List GE):Prop where
 ok:Fq b q' l
 view:q'.view l=L
 ext:MS q q'
 len:q'.us.length<=q.us.length+n
theorem Led.refl{b:GT}{l:List GE}{q:OQ}(h:Fq b q l)(n:Nat):Led b l q q n (q.view l):=⟨h,rfl,.refl q,by omega⟩
theorem Led.mono{b:GT}{l:List GE}{q q':OQ}{n m:Nat}{L:List GE}(a:Led b l q q' n L)(h:n<=m):Led b l q q' m L:=⟨a.ok,a.view,a.ext,by have:=a.len;omega⟩
theorem Led.step{b:GT}{q:OQ}{l:List GE}(h:Fq b q l){k:ByteArray}{s:C1}(hs:Sm s.2/\(s.1=false->s.2=zV)/\k.size<=64):Led b l q (q.step k s) 1 (if s.1 then Bt (k,s.2) (q.view l) else Cf k (q.view l)):=
 ⟨(h.step hs).1,(h.step hs).2,MS.step h.ch hs,by rw[OQ.step_us,A04];exact A08 _⟩
theorem Yk{b:GT}{q:OQ}{l:List GE}(h:Fq b q l)(k:ByteArray)(v:GV)(f:Int)(hF:A0 prog 85 [.agg (A4 v)] (.val (.int .i64 f)))(hs:Sm v)(hn:q.us.length<1073741824):
  ∃ q',A2 prog 192 [.ref 1 0 0 3,.val (.string k),.agg (A4 v)] (oqH b q) (.val (.int .i64 (G7 f k))) (oqH b q')/\Led b l q q' 1 (if G7 f k=0 then Bt (k,v) (q.view l) else q.view l):=by
 unfold G7
 by_cases hk:FL k=0
 ·simp only[if_pos hk]
  by_cases hf:f=0
  ·subst hf
   exact⟨_,q_Put b q k v hF hk hs hn,Led.step h (s:=(true,v)) ⟨hs,(fun e=>by cases e),WG hk⟩⟩
  ·exact⟨q,q_PutF b q k v f hF hk hf,by rw[if_neg hf];exact .refl h 1⟩
 ·simp only[if_neg hk]
  exact⟨q,q_PutK b q k v hk,by rw[if_neg (by decide)];exact .refl h 1⟩
def FD(v:GV):Bool:=
 if v.kind<1∨6<v.kind then true
 else !((v.kind==2 ||!v.b)&&((v.kind==3 ||v.n==0)&&((v.kind==4 ||noS v.s)&&((v.kind==5 ||(v.list.length:Int)==0)&&(v.kind==6 ||(v.obj.length:Int)==0)))))
mutual
noncomputable def Bj:GV->Nat->Int
 |.mk k b n s l o,d=>
  if FD (.mk k b n s l o)=true then 9 else if 64<d then 5
  else if k=4 then(if AH s=true then 0 else 3)
  else if k=5 then Ea l (d+1)
  else if k=6 then FY none o (d+1) else 0
noncomputable def Ea:List GV->Nat->Int
 |[],_=>0
 |v::l,d=>if Bj v d≠0 then Bj v d else Ea l d
noncomputable def FY:Option ByteArray->List (ByteArray×GV)->Nat->Int
 |_,[],_=>0
 |p,(k,v)::l,d=>if AH k=false then 3 else if(match p with|none=>true|some q=>ltS q k)=false then 8 else if Bj v d≠0 then Bj v d else FY (some k) l d
end
theorem EV(v:GV)(d:Nat):Bj v d=if FD v=true then 9 else if 64<d then 5
  else if v.kind=4 then(if AH v.s=true then 0 else 3)
  else if v.kind=5 then Ea v.list (d+1)
  else if v.kind=6 then FY none v.obj (d+1) else 0:=by cases v;rfl
mutual
def CW:GV->Nat
 |.mk k _ _ _ l o=>if k=5 then 1+D3 l else if k=6 then 1+D4 o else 1
def D3:List GV->Nat
 |[]=>0
 |v::l=>max (CW v) (D3 l)
def D4:List (ByteArray×GV)->Nat
 |[]=>0
 |(_,v)::l=>max (CW v) (D4 l)
end
theorem Mi(v:GV):CW v=if v.kind=5 then 1+D3 v.list else if v.kind=6 then 1+D4 v.obj else 1:=by cases v;unfold CW;rfl
def Kn(p:Nat×Nat):Nat:=if p.1=34∨p.1=92∨p.1=8∨p.1=9∨p.1=10∨p.1=12∨p.1=13 then 2 else if p.1<32 then 6 else p.2
def Hm:Nat->List UInt8->Nat
 |0,_=>0
 |n+1,l=>if l=[] then 0 else Kn (Lib.decodeL l)+Hm n (l.drop (Lib.decodeL l).2)
def Lp(s:ByteArray):Nat:=if AH s=true then 2+Hm s.data.toList.length s.data.toList else 0
mutual
def Dt:GV->Nat
 |.mk k b n s l o=>if k=1 then 4 else if k=2 then(if b then 4 else 5) else if k=3 then(Lib.itoa n).length else if k=4 then Lp s
  else if k=5 then 2+(l.length-1)+BM l else if k=6 then 2+(o.length-1)+BD o else 4
def BM:List GV->Nat
 |[]=>0
 |v::l=>Dt v+BM l
def BD:List (ByteArray×GV)->Nat
 |[]=>0
 |(k,v)::l=>Lp k+1+Dt v+BD l
end
theorem EX(v:GV):Dt v=if v.kind=1 then 4 else if v.kind=2 then(if v.b then 4 else 5) else if v.kind=3 then(Lib.itoa v.n).length else if v.kind=4 then Lp v.s
  else if v.kind=5 then 2+(v.list.length-1)+BM v.list else if v.kind=6 then 2+(v.obj.length-1)+BD v.obj else 4:=by cases v;unfold Dt;rfl
noncomputable def Bi(v:GV):Int:=if Bj v 1≠0 then Bj v 1 else if 16<CW v then 5 else if 1024<Dt v then 6 else 0
mutual
def wtV:GV->Nat
 |.mk _ _ _ s l o=>s.size+(l.length+Vq l)+(o.length+Vr o)
def Vq:List GV->Nat
 |[]=>0
 |v::l=>wtV v+Vq l
def Vr:List (ByteArray×GV)->Nat
 |[]=>0
 |(k,v)::l=>k.size+wtV v+Vr l
end
theorem Pb(v:GV):wtV v=v.s.size+(v.list.length+Vq v.list)+(v.obj.length+Vr v.obj):=by cases v;simp only[wtV,GV.s,GV.list,GV.obj]
theorem UK(s:ByteArray):noS s=decide (s=⟨#[]⟩):=by unfold noS;rw[P7]
theorem noS_eq{s:ByteArray}(h:noS s=true):s=ByteArray.empty:=by
 unfold noS at h;rw[P7] at h;exact of_decide_eq_true h
theorem Lz{v:GV}(h:FD v=false):1<=v.kind/\v.kind<=6/\(v.kind≠2->v.b=false)/\(v.kind≠3->v.n=0)/\(v.kind≠4->v.s=ByteArray.empty)/\(v.kind≠5->v.list=[])/\(v.kind≠6->v.obj=[]):=by
 unfold FD at h
 split at h
 ·cases h
 ·rename_i hk
  simp only[Bool.not_eq_false',A09,Bool.or_eq_true,beq_iff_eq,Bool.not_eq_true'] at h
  obtain⟨h1,h2,h3,h4,h5⟩:=h
  refine⟨by omega,by omega,fun h=>h1.resolve_left h,fun h=>h2.resolve_left h,fun h=>noS_eq (h3.resolve_left h),fun h=>?_,fun h=>?_⟩
  ·have:=h4.resolve_left h
   exact A0U.1 (by omega)
  ·have:=h5.resolve_left h
   exact A0U.1 (by omega)
theorem HP{v:GV}{d:Nat}(h:Bj v d=0):FD v=false/\d<=64/\(v.kind=4->AH v.s=true)/\(v.kind=5->Ea v.list (d+1)=0)/\(v.kind=6->FY none v.obj (d+1)=0):=by
 rw[EV] at h
 split at h
 ·cases h
 ·rename_i h1
  split at h
  ·cases h
  ·rename_i h2
   refine⟨by simpa using h1,by omega,fun hk=>?_,fun hk=>?_,fun hk=>?_⟩
   ·rw[if_pos hk] at h
    split at h
    ·assumption
    ·cases h
   ·rw[if_neg (by omega),if_pos hk] at h;exact h
   ·rw[if_neg (by omega),if_neg (by omega),if_pos hk] at h;exact h
theorem JS{d:Nat}:∀ {l:List GV},Ea l d=0->∀ v ∈ l,Bj v d=0
 |[],_,v,hv=>by cases hv
 |x::l,h,v,hv=>by
  simp only[Ea] at h
  split at h
  ·rename_i h1;exact absurd h h1
  ·rename_i h1
   rcases A0q.1 hv with rfl|hv
   ·simpa using h1
   ·exact JS h v hv
noncomputable def LH(p:Option ByteArray)(k:ByteArray)(v:GV)(d:Nat):Int:=if AH k=false then 3 else if(match p with|none=>true|some q=>ltS q k)=false then 8 else Bj v d
theorem EB(p:Option ByteArray)(k:ByteArray)(v:GV)(l:List (ByteArray×GV))(d:Nat):FY p ((k,v)::l) d=if LH p k v d≠0 then LH p k v d else FY (some k) l d:=by
 simp only[FY,LH]
 cases p with
 |none=>
  simp only
  split
  ·simp
  ·simp
 |some q=>
  simp only
  split
  ·simp
  ·split
   ·simp
   ·rfl
theorem Nf{p:Option ByteArray}{k:ByteArray}{v:GV}{d:Nat}(h:LH p k v d=0):AH k=true/\Bj v d=0:=by
 unfold LH at h
 generalize(match p with|none=>true|some q=>ltS q k)=o at h
 split at h
 ·exact absurd h (by decide)
 ·rename_i h0
  split at h
  ·exact absurd h (by decide)
  ·exact⟨by simpa using h0,h⟩
theorem JT{d:Nat}:∀ {p:Option ByteArray} {l:List (ByteArray×GV)},FY p l d=0->∀ v ∈ l,Bj v.2 d=0/\AH v.1=true
 |_,[],_,v,hv=>by cases hv
 |p,(k,x)::l,h,v,hv=>by
  rw[EB] at h
  split at h
  ·rename_i h1;exact absurd h h1
  ·rename_i h1
   have h2:=Nf (by simpa using h1)
   rcases A0q.1 hv with rfl|hv
   ·exact⟨h2.2,h2.1⟩
   ·exact JT h v hv
theorem Mo{α:Type}{f:α->α->Int}:∀ {a b:List α},(∀ x ∈ a,∀ y ∈ b,f x y=0->x=y)->CO f a b=0->a=b
 |[],[],_,_=>rfl
 |[],_::_,_,h=>by simp[CO] at h
 |_::_,[],_,h=>by simp[CO] at h
 |x::a,y::b,hf,h=>by
  simp only[CO] at h
  split at h
  ·rename_i h1
   rw[hf x (by simp) y (by simp) h1,Mo (fun x hx y hy=>hf x (by simp[hx]) y (by simp[hy])) h]
  ·rename_i h1;exact absurd h h1
theorem K5:∀ {a b:List UInt8},Co a b=0->a=b
 |[],[],_=>rfl
 |[],_::_,h=>by simp[Co] at h
 |_::_,[],h=>by simp[Co] at h
 |x::a,y::b,h=>by
  simp only[Co] at h
  split at h
  ·rename_i h1;subst h1;rw[K5 h]
  ·split at h<;>cases h
theorem Nc{a b:Int}(h:FE a b=0):a=b:=by
 unfold FE at h
 split at h
 ·cases h
 ·split at h
  ·cases h
  ·omega
theorem Um{a b:Bool}(h:P6 a b=0):a=b:=by cases a<;>cases b<;>simp [P6] at h|-
theorem JG:∀ (n:Nat) (v u:GV) (d e:Nat),SizeOf.sizeOf v<=n->Bj v d=0->Bj u e=0->MP n v u=0->v=u
 |0,.mk k b i s l o,u,d,e,hn,_,_,_=>by simp at hn
 |n+1,.mk k b i s l o,.mk k' b' i' s' l' o',d,e,hn,hv,hu,hc=>by
  rw[K4] at hc
  change(if k≠k' then FE k k' else if k=2 then P6 b b' else if k=3 then FE i i' else if k=4 then CH s s' else if k=5 then CO (MP n) l l' else if k=6 then CO (cmpP n) o o' else 0)=0 at hc
  obtain⟨v1,v2,v3,v4,v5⟩:=HP hv
  obtain⟨u1,u2,u3,u4,u5⟩:=HP hu
  obtain⟨a1,a2,a3,a4,a5,a6,a7⟩:=Lz v1
  obtain⟨c1,c2,c3,c4,c5,c6,c7⟩:=Lz u1
  simp only[GV.kind,GV.b,GV.n,GV.s,GV.list,GV.obj] at*
  by_cases hk:k=k'
  ·rw[if_neg (by simpa using hk)] at hc
   subst hk
   have hb:b=b':=by
    by_cases h:k=2
    ·rw[if_pos h] at hc;exact Um hc
    ·rw[a3 h,c3 h]
   have hi:i=i':=by
    by_cases h:k=3
    ·rw[if_neg (by omega),if_pos h] at hc;exact Nc hc
    ·rw[a4 h,c4 h]
   have hs:s=s':=by
    by_cases h:k=4
    ·rw[if_neg (by omega),if_neg (by omega),if_pos h] at hc;exact MD (K5 hc)
    ·rw[a5 h,c5 h]
   have hl:l=l':=by
    by_cases h:k=5
    ·rw[if_neg (by omega),if_neg (by omega),if_neg (by omega),if_pos h] at hc
     refine Mo (fun x hx y hy hxy=>?_) hc
     have hlt:=List.sizeOf_lt_of_mem hx
     exact JG n x y (d+1) (e+1) (by simp at hn;omega) (JS (v4 h) x hx) (JS (u4 h) y hy) hxy
    ·rw[a6 h,c6 h]
   have ho:o=o':=by
    by_cases h:k=6
    ·rw[if_neg (by omega),if_neg (by omega),if_neg (by omega),if_neg (by omega),if_pos h] at hc
     refine Mo (fun x hx y hy hxy=>?_) hc
     have hlt:=List.sizeOf_lt_of_mem hx
     obtain⟨xk,xv⟩:=x
     obtain⟨yk,yv⟩:=y
     simp only[cmpP] at hxy
     split at hxy
     ·rename_i h1
      rw[JG n xv yv (d+1) (e+1) (by simp at hn hlt;omega) (JT (v5 h) _ hx).1 (JT (u5 h) _ hy).1 hxy,MD (K5 h1)]
     ·rename_i h1;exact absurd hxy h1
    ·rw[a7 h,c7 h]
   subst hb hi hs hl ho
   rfl
  ·rw[if_pos hk] at hc
   exact absurd (Nc hc) hk
theorem same_eq{v u:GV}{d e:Nat}(hv:Bj v d=0)(hu:Bj u e=0)(h:MQ v u=0):v=u:=JG _ v u d e (A08 _) hv hu h
theorem RT{v:GV}(h:Bi v=0):Bj v 1=0/\CW v<=16/\Dt v<=1024:=by
 unfold Bi at h
 split at h
 ·rename_i h1;exact absurd h h1
 ·rename_i h1
  split at h
  ·cases h
  ·split at h
   ·cases h
   ·exact⟨by simpa using h1,by omega,by omega⟩
theorem Lg(l:List UInt8):(Lib.decodeL l).2<=Kn (Lib.decodeL l)/\Kn (Lib.decodeL l)<=6:=by
 have key:∀ n b0 b1 b2 b3,(Lib.decodeN n b0 b1 b2 b3).2<=Kn (Lib.decodeN n b0 b1 b2 b3)/\Kn (Lib.decodeN n b0 b1 b2 b3)<=6:=by
  intro n b0 b1 b2 b3
  unfold Lib.decodeN Kn
  repeat' split
  all_goals(simp only at*;omega)
 unfold Lib.decodeL
 rw[Lib.decode_at]
 exact key _ _ _ _ _
theorem Rk:∀ (n:Nat) (l:List UInt8),l.length<=n->l.length<=Hm n l
 |0,l,h=>by simp at h;subst h;simp[Hm]
 |n+1,l,h=>by
  simp only[Hm]
  split
  ·rename_i h1;subst h1;simp
  ·rename_i h1
   have h2:=Lib.decodeL_le l h1
   have h3:=Lib.decodeL_width l
   have h4:=(Lg l).1
   have h5:=Rk n (l.drop (Lib.decodeL l).2) (by rw[A0s];omega)
   rw[A0s] at h5
   omega
theorem Rj:∀ (n:Nat) (l:List UInt8),Hm n l<=6*l.length
 |0,l=>by simp[Hm]
 |n+1,l=>by
  simp only[Hm]
  split
  ·rename_i h1;subst h1;simp
  ·rename_i h1
   have h2:=Lib.decodeL_le l h1
   have h3:=Lib.decodeL_width l
   have h4:=(Lg l).2
   have h5:=Rj n (l.drop (Lib.decodeL l).2)
   rw[A0s] at h5
   omega
theorem Pv(s:ByteArray):(AH s=true->s.size<=Lp s)/\Lp s<=2+6*s.size:=by
 have h:=Rk _ s.data.toList (A08 _)
 have h2:=Rj s.data.toList.length s.data.toList
 have h3:s.data.toList.length=s.size:=rfl
 unfold Lp
 split
 ·exact⟨fun _=>by omega,by omega⟩
 ·exact⟨fun h=>absurd h (by assumption),by omega⟩
mutual
theorem TD:∀ (v:GV),Sm v->Dt v<=24+30*wtV v
 |.mk k b i s l o,h=>by
  have hn:=h.int
  have hL:=UU l h.list
  have hO:=A01 o h.obj
  have q1:=Pv s
  simp only[GV.n] at hn
  have q2:=Lib.itoa_length_le i hn.1 hn.2
  simp only[wtV,Dt]
  repeat' split
  all_goals omega
theorem UU:∀ (l:List GV),(∀ x ∈ l,Sm x)->BM l<=24*l.length+30*Vq l
 |[],_=>by simp[BM]
 |v::l,h=>by
  have h1:=TD v (h v (by simp))
  have h2:=UU l fun x hx=>h x (by simp[hx])
  simp only[BM,Vq,A0g];omega
theorem A01:∀ (l:List (ByteArray×GV)),(∀ x ∈ l,Sm x.2)->BD l<=28*l.length+30*Vr l
 |[],_=>by simp[BD]
 |(k,v)::l,h=>by
  have h1:=TD v (h (k,v) (by simp))
  have h2:=A01 l fun x hx=>h x (by simp[hx])
  have h3:=Pv k
  simp only[BD,Vr,A0g];omega
end
noncomputable def begU(s:ByteArray):Bool:=decide ((s.size:Int)<=64)&&AH s
theorem KD(s:ByteArray):A0 prog 136 [.val (.string s)] (.val (.bool (begU s))):=by
 have h:=FR s
 refine Zk [] func136 rfl ntmps136 results136 fun H Hb=>?_
 (have z:=trivial;(try push_cast)<;>repeat' (first|apply Zi<;>intro _|refine Zc h ?_|exact Zp|with_reducible apply Za)<;>try push_cast)
 all_goals(clear H Hb h;first|(simp_all [begU];done)|(simp_all [begU];omega))
noncomputable def E1(m:GM):Bool:=if m.kind==6 then begU m.key&&begU m.to else if m.kind==7&&noS m.key then !m.had else FL m.key==0
theorem Vh(m:GM):A0 prog 83 [.agg (Ap m)] (.val (.bool (E1 m))):=by
 have h1:=KD m.key
 have h2:=KD m.to
 have h3:=Q8 m.key
 rw[AY,A7 m.was,A7 m.value]
 simp only[A0d,A0h,A0c]
 refine Zk [0] func83 rfl ntmps83 results83 fun H Hb=>?_
 (have z:=trivial;(try push_cast)<;>repeat' (first|apply Zi<;>intro _|refine Zc h1 ?_|refine Zc h2 ?_|refine Zc h3 ?_|exact Zp|with_reducible apply Za)<;>try push_cast)
 all_goals(clear H Hb h1 h2 h3;simp_all [E1,UK])
mutual
noncomputable def Cw(F:GV->Int):GM->Nat->Int
 |.mk kd k t n h w i v l,d=>
  if Ch (.mk kd k t n h w i v l)=true then 9 else if 6<d then 5 else if E1 (.mk kd k t n h w i v l)=false then 8
  else if h=true/\F w≠0 then F w
  else if(kd=1∨kd=5∨kd=4/\i=true)/\F v≠0 then F v
  else DI F l (d+1)
noncomputable def DI(F:GV->Int):List GM->Nat->Int
 |[],_=>0
 |m::l,d=>if Cw F m d≠0 then Cw F m d else DI F l d
end
theorem Jb(F:GV->Int)(m:GM)(d:Nat):Cw F m d=if Ch m=true then 9 else if 6<d then 5 else if E1 m=false then 8
  else if m.had=true/\F m.was≠0 then F m.was
  else if(m.kind=1∨m.kind=5∨m.kind=4/\m.has=true)/\F m.value≠0 then F m.value
  else DI F m.list (d+1):=by cases m;rfl
theorem Kv{F:GV->Int}{d:Nat}:∀ {l:List GM},DI F l d=0->∀ i,i<l.length->Cw F (l.getD i zU) d=0
 |[],_,i,h=>by simp at h
 |m::l,h,i,hi=>by
  simp only[DI] at h
  split at h
  ·rename_i h1;exact absurd h h1
  ·rename_i h1
   cases i with
   |zero=>simpa using h1
   |succ i=>simpa using Kv h i (by simpa using hi)
theorem LN{F:GV->Int}{d:Nat}:∀ {l:List GM},DI F l d≠0->∃ J,J<l.length/\(∀ i,i<J->Cw F (l.getD i zU) d=0)/\Cw F (l.getD J zU) d=DI F l d
 |[],h=>by simp[DI] at h
 |m::l,h=>by
  simp only[DI] at h|-
  by_cases h1:Cw F m d≠0
  ·exact⟨0,by simp,fun i hi=>by omega,by simp[h1]⟩
  ·simp only[if_neg h1] at h|-
   obtain⟨J,a,b,c⟩:=LN h
   refine⟨J+1,by simpa using a,fun i hi=>?_,by simpa using c⟩
   cases i with
   |zero=>simpa using h1
   |succ i=>simpa using b i (by omega)
inductive SmU:GM->Prop where
 |mk (m:GM) (was:Sm m.was) (value:Sm m.value) (key:m.key.size<=1048576) (totext:m.to.size<=1048576) (len:m.list.length<=1048576) (list:∀ x ∈ m.list,SmU x):SmU m
mutual
def wtU:GM->Nat
 |.mk _ k t _ _ w _ v l=>k.size+t.size+wtV w+wtV v+(l.length+XD l)
def XD:List GM->Nat
 |[]=>0
 |m::l=>wtU m+XD l
end
theorem L3(m:GM):wtU m=m.key.size+m.to.size+wtV m.was+wtV m.value+(m.list.length+XD m.list):=by cases m;rfl
theorem L2{l:List GM}{x:GM}(h:x ∈ l):wtU x<=XD l:=by
 induction l with
 |nil=>cases h
 |cons y l ih=>
  simp only[XD]
  rcases A0q.1 h with rfl|h
  ·omega
  ·have:=ih h;omega
section
variable{F:GV->Int}(hF:∀ v,Sm v->wtV v<=2097152->A0 prog 85 [.agg (A4 v)] (.val (.int .i64 (F v))))
include hF
theorem Q7(m:GM)(d:Nat)(hm:SmU m)(hwt:wtU m<=2097152)(hd:d<=1000)(h0:Cw F m d=0):A0 prog 45 [.agg (Ap m),.val (.int .i64 d)] (.tup []):=by
 have hrec:∀ x,SizeOf.sizeOf x<SizeOf.sizeOf m->SmU x->wtU x<=2097152->d+1<=1000->Cw F x (d+1)=0->A0 prog 45 [.agg (Ap x),.val (.int .i64 ((d+1:Nat):Int))] (.tup []):=fun x _ h1 h4 h2 h3=>Q7 x (d+1) h1 h4 h2 h3
 obtain⟨_,hw,hv,hk,ht,hl,hls⟩:=hm
 rw[Jb] at h0
 have s1:Ch m=false:=by cases h:Ch m<;>simp [h] at h0|-
 rw[if_neg (by simp[s1])] at h0
 have s2:d<=6:=by
  rcases A0O 6 d with h|h
  ·simp[h] at h0
  ·exact h
 rw[if_neg (by omega)] at h0
 have s3:E1 m=true:=by cases h:E1 m<;>simp [h] at h0|-
 rw[if_neg (by simp[s3])] at h0
 have s4:m.had=true->F m.was=0:=fun h=>Classical.byContradiction fun h2=>by rw[if_pos ⟨h,h2⟩] at h0;exact h2 h0
 rw[if_neg (fun h=>h.2 (s4 h.1))] at h0
 have s5:(m.kind=1∨m.kind=5∨m.kind=4/\m.has=true)->F m.value=0:=fun h=>Classical.byContradiction fun h2=>by rw[if_pos ⟨h,h2⟩] at h0;exact h2 h0
 rw[if_neg (fun h=>h.2 (s5 h.1))] at h0
 have k1:=P2 m
 have k3:=Vh m
 rw[s1] at k1
 rw[s3] at k3
 have hwe:=L3 m
 have k4:=hF m.was hw (by omega)
 have k5:=hF m.value hv (by omega)
 have b2:decide ((d:Int)<=6)=true:=decide_eq_true (by omega)
 have w1:IntKind.i64.wrap (↑d+1)=↑d+1:=Aa (by omega) (by omega)
 have k0:(m.had=true->A0 prog 84 [.val (.int .i64 (F m.was))] (.tup [])):=fun h=>by rw[s4 h];exact Q6
 have k6:(m.kind=1∨m.kind=5∨m.kind=4/\m.has=true)->A0 prog 84 [.val (.int .i64 (F m.value))] (.tup []):=fun h=>by rw[s5 h];exact Q6
 have hls':∀ i,i<m.list.length->A0 prog 45 [.agg (Ap (m.list.getD i zU)),.val (.int .i64 ((d:Int)+1))] (.tup []):=fun i hi=>by
  have:=hrec _ (GM.list_lt (Ak hi)) (hls _ (Ak hi)) (by have:=L2 (Ak (d:=zU) hi);omega) (by omega) (Kv h0 i hi)
  rwa[A1P] at this
 clear h0 hrec hF
 rw[AY] at*
 generalize F m.was=fw at*
 generalize F m.value=fv at*
 rw[A7] at k4 k5
 simp only[A7 m.was,A7 m.value,A0d,A0h,A0c] at*
 refine Zf [0] func45 rfl ntmps45 results45 ?_
 (have z:=b2;(try push_cast[z])<;>repeat' (first|apply Zi<;>intro _|refine Zc k1 ?_|refine Zc k3 ?_|refine Zc k4 ?_|refine Zc k5 ?_|refine Zc (DP ..) ?_|exact Zo|with_reducible apply Za|(with_reducible show A1 _ _ _ _ _ _ _ _;refine A1.call (by(try push_cast[z]);exact k0 (by assumption)) (by first|exact .inl rfl|exact .inr ⟨_,_,_,rfl,rfl,rfl⟩) rfl (by first|rfl|push_cast [z]) ?_)<;>try push_cast[z]|(with_reducible show A1 _ _ _ _ _ _ _ _;refine A1.call (by(try push_cast[z]);exact k6 (by simp_all)) (by first|exact .inl rfl|exact .inr ⟨_,_,_,rfl,rfl,rfl⟩) rfl (by first|rfl|push_cast [z]) ?_)<;>try push_cast[z]|fail)<;>try push_cast[z])
 all_goals
  refine Zl (fun i=>i<=m.list.length) (fun i=>⟨[(46,.val (.int .i64 i)),(45,.val (.int .i64 m.list.length)),(44,.slice (m.list.map Ap) false),(1,.val (.int .i64 d))],[],400⟩) (fun i=>m.list.length-i) 0 (by simp) ?_ fun i hi=>?_
  ·apply Zw<;>push_cast
  ·push_cast
   refine Al (fun ha=>?_) (fun ha=>?_)
   ·have hi':i<m.list.length:=by simpa using ha
    have e1:=PH hi'
    have hr:=hls' i hi'
    (have z:=Za e1 w1;(try push_cast[z])<;>repeat' (first|apply Zi<;>intro _|refine Zc (hr ..) ?_|exact Zo|with_reducible apply Za)<;>try push_cast[z])
    all_goals first|omega|skip
    refine⟨i+1,hi',by omega,?_⟩
    apply Zw<;>push_cast
    exact Aa (by omega) (by omega)
   ·((try push_cast)<;>repeat' (first|apply Zi<;>intro _|exact Zp|with_reducible apply Za)<;>try push_cast)
termination_by SizeOf.sizeOf m
end
section
variable{F:GV->Int}(hF:∀ v,Sm v->wtV v<=2097152->A0 prog 85 [.agg (A4 v)] (.val (.int .i64 (F v))))
include hF
theorem Yq(m:GM)(d:Nat)(hm:SmU m)(hwt:wtU m<=2097152)(hd:d<=1000)(h0:Cw F m d≠0):EK prog 45 [.agg (Ap m),.val (.int .i64 d)] (wD (Cw F m d)):=by
 have hrec:∀ x,SizeOf.sizeOf x<SizeOf.sizeOf m->SmU x->wtU x<=2097152->d+1<=1000->Cw F x (d+1)≠0->EK prog 45 [.agg (Ap x),.val (.int .i64 ((d+1:Nat):Int))] (wD (Cw F x (d+1))):=fun x _ h1 h4 h2 h3=>Yq x (d+1) h1 h4 h2 h3
 have hok:∀ x,SmU x->wtU x<=2097152->d+1<=1000->Cw F x (d+1)=0->A0 prog 45 [.agg (Ap x),.val (.int .i64 ((d+1:Nat):Int))] (.tup []):=fun x h1 h4 h2 h3=>Q7 hF x (d+1) h1 h4 h2 h3
 obtain⟨_,hw,hv,hk,ht,hl,hls⟩:=hm
 rw[Jb] at h0|-
 have k1:=P2 m
 have k3:=Vh m
 have hwe:=L3 m
 have k4:=hF m.was hw (by omega)
 have k5:=hF m.value hv (by omega)
 by_cases s1:Ch m=true
 ·simp only[if_pos s1]
  rw[s1] at k1
  clear hrec hok h0
  rw[AY m] at*
  rw[A7 m.was,A7 m.value] at*
  simp only[A0d,A0h,A0c] at*
  refine EK.of_awp func45 rfl ntmps45 (by kernel_rfl) (by simp) (AWp.sz fun H Hb=>VC.sound (fz:=[0]) mixed (by kernel_rfl) ?_)
  (have z:=trivial;(try push_cast)<;>repeat' (first|apply Zi<;>intro _|refine Zc k1 ?_|exact Zp|with_reducible apply Za|(with_reducible show A1 _ _ _ _ _ _ _ _;refine A1.pan (by(try push_cast);exact Py ..) rfl (by first|rfl|push_cast) rfl ?_)<;>try push_cast|fail)<;>try push_cast)
  all_goals first|exact ⟨Am _,rfl⟩|skip
 ·simp only[if_neg s1] at h0|-
  have s1:Ch m=false:=by simpa using s1
  rw[s1] at k1
  by_cases s2:6<d
  ·simp only[if_pos s2]
   have b2:decide ((d:Int)<=6)=false:=decide_eq_false (by omega)
   clear hrec hok h0
   rw[AY m] at*
   rw[A7 m.was,A7 m.value] at*
   simp only[A0d,A0h,A0c] at*
   refine EK.of_awp func45 rfl ntmps45 (by kernel_rfl) (by simp) (AWp.sz fun H Hb=>VC.sound (fz:=[0]) mixed (by kernel_rfl) ?_)
   (have z:=b2;(try push_cast[z])<;>repeat' (first|apply Zi<;>intro _|refine Zc k1 ?_|refine Zc (DP ..) ?_|exact Zo|with_reducible apply Za|(with_reducible show A1 _ _ _ _ _ _ _ _;refine A1.pan (by(try push_cast[z]);exact Py ..) rfl (by first|rfl|push_cast [z]) rfl ?_)<;>try push_cast[z]|fail)<;>try push_cast[z])
   all_goals first|exact ⟨Am _,rfl⟩|skip
  ·simp only[if_neg s2] at h0|-
   have b2:decide ((d:Int)<=6)=true:=decide_eq_true (by omega)
   by_cases s3:E1 m=false
   ·simp only[if_pos s3]
    rw[s3] at k3
    clear hrec hok h0
    rw[AY m] at*
    rw[A7 m.was,A7 m.value] at*
    simp only[A0d,A0h,A0c] at*
    refine EK.of_awp func45 rfl ntmps45 (by kernel_rfl) (by simp) (AWp.sz fun H Hb=>VC.sound (fz:=[0]) mixed (by kernel_rfl) ?_)
    (have z:=b2;(try push_cast[z])<;>repeat' (first|apply Zi<;>intro _|refine Zc k1 ?_|refine Zc k3 ?_|refine Zc (DP ..) ?_|exact Zo|with_reducible apply Za|(with_reducible show A1 _ _ _ _ _ _ _ _;refine A1.pan (by(try push_cast[z]);exact Py ..) rfl (by first|rfl|push_cast [z]) rfl ?_)<;>try push_cast[z]|fail)<;>try push_cast[z])
    all_goals first|exact ⟨Am _,rfl⟩|skip
   ·simp only[if_neg s3] at h0|-
    have s3:E1 m=true:=by simpa using s3
    rw[s3] at k3
    by_cases s4:m.had=true/\F m.was≠0
    ·simp only[if_pos s4]
     obtain⟨hh,hf⟩:=s4
     clear hrec hok h0
     rw[AY m] at*
     generalize F m.was=fw at*
     rw[A7 m.was,A7 m.value] at*
     simp only[A0d,A0h,A0c] at*
     have hp:=Yp fw hf
     refine EK.of_awp func45 rfl ntmps45 (by kernel_rfl) (by simp) (AWp.sz fun H Hb=>VC.sound (fz:=[0]) mixed (by kernel_rfl) ?_)
     (have z:=b2;(try push_cast[z])<;>repeat' (first|apply Zi<;>intro _|refine Zc k1 ?_|refine Zc k3 ?_|refine Zc (DP ..) ?_|refine Zc k4 ?_|exact Zo|with_reducible apply Za|(with_reducible show A1 _ _ _ _ _ _ _ _;refine A1.pan (by(try push_cast[z]);exact hp ..) rfl (by first|rfl|push_cast [z]) rfl ?_)<;>try push_cast[z]|fail)<;>try push_cast[z])
     all_goals first|exact ⟨Am _,rfl⟩|exact absurd hh (by rw[‹m.had=false›];decide)|skip
    ·simp only[if_neg s4] at h0|-
     have k0:(m.had=true->A0 prog 84 [.val (.int .i64 (F m.was))] (.tup [])):=fun h=>by
      have:F m.was=0:=Classical.byContradiction fun h2=>s4 ⟨h,h2⟩
      rw[this];exact Q6
     by_cases s5:(m.kind=1∨m.kind=5∨m.kind=4/\m.has=true)/\F m.value≠0
     ·simp only[if_pos s5]
      obtain⟨hh,hf⟩:=s5
      have hp:=Yp (F m.value) hf
      clear hrec hok h0
      rw[AY m] at*
      generalize F m.was=fw at*
      generalize F m.value=fv at*
      rw[A7 m.was,A7 m.value] at*
      simp only[A0d,A0h,A0c] at*
      refine EK.of_awp func45 rfl ntmps45 (by kernel_rfl) (by simp) (AWp.sz fun H Hb=>VC.sound (fz:=[0]) mixed (by kernel_rfl) ?_)
      (have z:=b2;(try push_cast[z])<;>repeat' (first|apply Zi<;>intro _|refine Zc k1 ?_|refine Zc k3 ?_|refine Zc (DP ..) ?_|refine Zc k4 ?_|refine Zc k5 ?_|exact Zo|with_reducible apply Za|(with_reducible show A1 _ _ _ _ _ _ _ _;refine A1.call (by(try push_cast[z]);exact k0 (by assumption)) (by first|exact .inl rfl|exact .inr ⟨_,_,_,rfl,rfl,rfl⟩) rfl (by first|rfl|push_cast [z]) ?_)<;>try push_cast[z]|(with_reducible show A1 _ _ _ _ _ _ _ _;refine A1.pan (by(try push_cast[z]);exact hp ..) rfl (by first|rfl|push_cast [z]) rfl ?_)<;>try push_cast[z]|fail)<;>try push_cast[z])
      all_goals first|exact ⟨Am _,rfl⟩|(exfalso;simp_all;done)|skip
     ·simp only[if_neg s5] at h0|-
      have k6:(m.kind=1∨m.kind=5∨m.kind=4/\m.has=true)->A0 prog 84 [.val (.int .i64 (F m.value))] (.tup []):=fun h=>by
       have:F m.value=0:=Classical.byContradiction fun h2=>s5 ⟨h,h2⟩
       rw[this];exact Q6
      obtain⟨J,hJ,hz,hj⟩:=LN h0
      have w1:IntKind.i64.wrap (↑d+1)=↑d+1:=Aa (by omega) (by omega)
      have hls':∀ i,i<J->A0 prog 45 [.agg (Ap (m.list.getD i zU)),.val (.int .i64 ((d:Int)+1))] (.tup []):=fun i hi=>by
       have:=hok (m.list.getD i zU) (hls _ (Ak (by omega))) (by have:=L2 (Ak (d:=zU) (show i<m.list.length by omega));omega) (by omega) (hz i hi)
       rwa[A1P] at this
      have hp:EK prog 45 [.agg (Ap (m.list.getD J zU)),.val (.int .i64 ((d:Int)+1))] (wD (DI F m.list (d+1))):=by
       have:=hrec (m.list.getD J zU) (GM.list_lt (Ak hJ)) (hls _ (Ak hJ)) (by have:=L2 (Ak (d:=zU) hJ);omega) (by omega) (by rw[hj];exact h0)
       rwa[A1P,hj] at this
      generalize DI F m.list (d+1)=c at*
      clear hrec hok hF
      rw[AY m] at*
      generalize F m.was=fw at*
      generalize F m.value=fv at*
      rw[A7 m.was] at k4
      rw[A7 m.value] at k5
      simp only[A7 m.was,A7 m.value,A0d,A0h,A0c] at*
      refine EK.of_awp func45 rfl ntmps45 (by kernel_rfl) (by simp) (AWp.sz fun H Hb=>VC.sound (fz:=[0]) mixed (by kernel_rfl) ?_)
      (have z:=b2;(try push_cast[z])<;>repeat' (first|apply Zi<;>intro _|refine Zc k1 ?_|refine Zc k3 ?_|refine Zc k4 ?_|refine Zc k5 ?_|refine Zc (DP ..) ?_|exact Zo|with_reducible apply Za|(with_reducible show A1 _ _ _ _ _ _ _ _;refine A1.call (by(try push_cast[z]);exact k0 (by assumption)) (by first|exact .inl rfl|exact .inr ⟨_,_,_,rfl,rfl,rfl⟩) rfl (by first|rfl|push_cast [z]) ?_)<;>try push_cast[z]|(with_reducible show A1 _ _ _ _ _ _ _ _;refine A1.call (by(try push_cast[z]);exact k6 (by simp_all)) (by first|exact .inl rfl|exact .inr ⟨_,_,_,rfl,rfl,rfl⟩) rfl (by first|rfl|push_cast [z]) ?_)<;>try push_cast[z]|fail)<;>try push_cast[z])
      all_goals first|omega|skip
      all_goals
       refine Zl (fun i=>i<=J) (fun i=>⟨[(46,.val (.int .i64 i)),(45,.val (.int .i64 m.list.length)),(44,.slice (m.list.map Ap) false),(1,.val (.int .i64 d))],[],400⟩) (fun i=>m.list.length-i) 0 (by simp) ?_ fun i hi=>?_
       ·apply Zw<;>push_cast
       ·push_cast
        refine Al (fun ha=>?_) (fun ha=>?_)
        ·have hi':i<m.list.length:=by simpa using ha
         have e1:=PH hi'
         rcases A0O i J with hij|hij
         ·have hr:=hls' i hij
          (have z:=Za e1 w1;(try push_cast[z])<;>repeat' (first|apply Zi<;>intro _|refine Zc (hr ..) ?_|exact Zo|with_reducible apply Za)<;>try push_cast[z])
          all_goals first|omega|skip
          refine⟨i+1,hij,by omega,?_⟩
          apply Zw<;>push_cast
          exact Aa (by omega) (by omega)
         ·obtain rfl:i=J:=by omega
          (have z:=Za e1 w1;(try push_cast[z])<;>repeat' (first|apply Zi<;>intro _|exact Zo|with_reducible apply Za|(with_reducible show A1 _ _ _ _ _ _ _ _;refine A1.pan (by(try push_cast[z]);exact hp ..) rfl (by first|rfl|push_cast [z]) rfl ?_)<;>try push_cast[z]|fail)<;>try push_cast[z])
          all_goals first|omega|exact ⟨Am _,rfl⟩|skip
        ·exact absurd ha (by simp;omega)
termination_by SizeOf.sizeOf m
end
def CatC(P:Program)(rs:List ResultVar)(g:FuncId)(cs:List D)(rB:D)(HB':Hp)(o:Option D)(s:St):Prop:=
 ∃(rD:Nat->Nat) (csD:List D) (HD HD':Hp),Qs P g csD o HD HD'/\cs=BX rD csD/\ltL 4 csD=true/\B3 rD (Ac s.hp) HD/\CP (2*s.nx) rD HD []=true/\CP (2*s.nx) rD HD HD'=true/\
   ∃ d,HK P ⟨s.env,DT s.hp (DE (2*s.nx) rD HD HD'),s.nx+4⟩ rs=some d/\Aw ⟨[(0,d)],DT s.hp (DE (2*s.nx) rD HD HD'),s.nx+4⟩ ⟨[(0,rB)],HB',4⟩
def P9(P:Program)(rs:List ResultVar)(g:FuncId)(cs:List D)(rB:D)(HB':Hp):AE->St->Prop
 |.ret,s|.normal,s=>CatC P rs g cs rB HB' none s
 |.panic d,s=>d.pure=true/\CatC P rs g cs rB HB' (some d) s
 |_,_=>False
def Pa(P:Program)(nt:Nat)(rs:List ResultVar)(g:FuncId)(t:Nat)(caps:Array Operand)(B:Code)(r:D)(H':Hp)(r1:Nat->Nat)(cs:List D)(env':Env)(HB:Hp)(rB:D)(HB':Hp):AE->St->Prop
 |.normal,s=>caps.toList.map (evO P s.env.get)=BX r1 cs/\ltL 0 cs=true/\BX (fun b=>b) cs=cs/\C3 r1 ((t,.any)::s.env) env'/\Ho 4 env'=true/\B3 r1 (Ac s.hp) HB/\CP (2*s.nx) r1 HB []=true/\CP (2*s.nx) r1 HB HB'=true/\
   AWp P nt B (P9 P rs g cs rB HB') ⟨env',HB,4⟩/\Aw ⟨[(0,AT (Ct (2*s.nx) r1) rB)],DT s.hp (DE (2*s.nx) r1 HB HB'),s.nx+4⟩ ⟨[(0,r)],H',4⟩
 |_,_=>False
theorem A2.of_awp_catch{P:Program}{nt:Nat}{f:FuncId}{fn:Func}(As:List Code){B:Code}{ds:List D}{H:Hp}{r:D}{H':Hp}{id t g:Nat}{caps:Array Operand}{T1 T2:TypeId}{ps1 ps2:String}{af1 af2:Array Edge}{ts:Array TypeId}(hf:P.funcs[f]? =some fn)
  (hb:fn.body=some (As.foldr .seq (.seq (.region id #[⟨some t,.makeFunc (.func g) #[] caps,T1,ps1,af1,none⟩,⟨none,.defer {callee:=.value (.tmp t),args:=#[],argTypes:=ts},T2,ps2,af2,none⟩] false) B)))
  (hn:fn.ntmps=nt) (hent:Bf P f=true) (hlen:ds.length<=nt) (ht:t<nt) {rs:List ResultVar} (hrs:fn.results.toList=rs) (r1:Nat->Nat) (cs:List D) (env':Env) (HB:Hp) (rB:D) (HB':Hp)
  (h:AWpL P nt As (Pa P nt rs g t caps B r H' r1 cs env' HB rB HB' .normal) ⟨Bh 0 ds,H,4⟩):A2 P f ds H r H':=by
 subst hrs
 unfold A2
 refine⟨hent,fun w M0 G0 I mu vs hga hdl hw hrep=>?_⟩
 let G:Gh:=⟨G0.st,G0.nm,[],Fence.wide,1,.inl rfl⟩
 have hG:∀ k,G k->k<w.heap.size:=fun k hk=>hw.lt k (hw.iold k hk)
 refine callsIn_wide.1 (callsIn_of_wp_marks (n:=1) hf hb trivial (G8 (I0:=G) hga ?_ As _ h I mu _ w ⟨?_,BF.refl _ _ _ _,fun t=>F1 hrep _ t,⟨hw.blk,hw.loc,hw.inj,hw.fresh,hw.lt,hw.os,hw.tape,hw.output,hw.grown,hw.old,hw.iold,hw.inew,hw.keep,hw.used⟩⟩))
 case refine_2=>have:=hrep.1;simp[hn];omega
 rintro s1 I1 mu1 a1 w1 hq R1
 simp only[Pa] at hq
 obtain⟨c1,c2,c3,c4,c5,c6,c7,c8,hB,hW⟩:=hq
 show Code.wpIn _ _ _ _ _ _ _
 refine wpIn_seq (wpIn_region ?_)
 have hcap:B8 w1 I1 mu1 (BX r1 cs) (caps.toList.map a1.eval):=by
  rw[<-c1]
  exact B8.args (args:=caps) fun y _=>Dm (GA.at (I0:=G) hga R1.w) R1.env y
 have hcsl:(caps.toList.map a1.eval).toArray=caps.map a1.eval:=by apply Array.ext';simp
 have o1:(execOp a1.eval ⟨some t,.makeFunc (.func g) #[] caps,T1,ps1,af1,none⟩).run P w1=.ok (.value (.func (.func g) #[] (caps.map a1.eval))) w1:=by simp[execOp,Instr.makeFunc]
 have hev:(a1.put (some t) (.func (.func g) #[] (caps.map a1.eval))).eval (.tmp t)=.func (.func g) #[] (caps.map a1.eval):=by
  have:t<a1.tmps.size:=by rw[R1.size];exact ht
  simp[Act.put,Act.eval,this]
 have o2:(execOp (a1.put (some t) (.func (.func g) #[] (caps.map a1.eval))).eval ⟨none,.defer {callee:=.value (.tmp t),args:=#[],argTypes:=ts},T2,ps2,af2,none⟩).run P w1=.ok (.defer {target:=.fn (.func g) (caps.map a1.eval),args:=#[]}) w1:=by
  simp only[execOp,resolve,hev,Deferred.ofValue,A0e,A0k,Result.andThen]
  simp
 have hd1:a1.defers=[]:=by
  obtain⟨rs,d0,d1,_⟩:=R1.defers
  rw[d0 rfl] at d1;exact d1
 have hvs:(caps.toList.map a1.eval).toArray=caps.map a1.eval:=hcsl
 obtain⟨M,G2,muc,⟨g1,g2,g3,g4,g5,g6,g7,g8⟩,hback⟩:=WK (id:=2*s1.nx) r1 (show GA P w M0 G from hga) R1.w (fun j hj=>⟨by omega,by show 2*s1.nx<=2*s1.nx+2*j;omega⟩) (fun _ _=>rfl) hcap (Ds (A0J 4) c2) c6 c7
 generalize hclo:Value.func (.func g) #[] (caps.map a1.eval)=clo at o1 o2 hev
 let d:Deferred:= {target:=.fn (.func g) (caps.map a1.eval),args:=#[]}
 let G3:Gh:=⟨G2.st,G2.nm,[d],Fence.wide,1,.inl rfl⟩
 have hG3:∀ k,G3 k->k<w1.heap.size:=fun k hk=>g3.lt k (g3.iold k hk)
 have henv:∀ t',Rep w1 I1 muc (env'.get t') ((a1.put (some t) clo).tmps.getD t' undef):=by
  intro t'
  have h1:Rep w1 I1 mu1 (Env.get ((t,.any)::s1.env) t') ((a1.put (some t) clo).tmps.getD t' undef):=by
   simp only[Env.get]
   by_cases hh:t=t'
   ·subst hh;simp only[beq_self_eq_true,cond_true];exact .any _
   ·have:(t==t')=false:=by simpa using hh
    simp only[this,cond_false]
    have:=R1.env t'
    simp only[Act.put,A1g,A1l hh] at this|-
    exact this
  rcases Fu c4 c5 t' with⟨d',h2,h3,h4⟩|h2
  ·rw[h2]
   exact(h1.lo h3).ren g5 rfl h4
  ·rw[h2];exact .any _
 have hsz:(a1.put (some t) clo).tmps.size=nt:=by rw[Ev];exact R1.size
 show wpOpsIn Fence.wide 1 P _ _ [0,1] a1 w1
 simp only[wpOpsIn,A18,A0S,A0T,Region.wanted]
 simp only[if_true]
 refine Cz (G:=G) o1 ?_
 refine⟨fun f' _=>G.fn f',?_⟩
 rw[show Fence.wide.round=none from rfl,Oper.semAt_none,o2]
 show Code.wpIn Fence.wide 1 P B _ ({tmps:=(a1.put (some t) clo).tmps,defers:=d::(a1.put (some t) clo).defers}:Act) w1
 rw[DF,hd1]
 refine wpIn_mono (hB w1 M G3 g1 I1 muc {tmps:=(a1.put (some t) clo).tmps,defers:=[d]} w1 ⟨hsz,BF.refl _ _ _ _,henv,⟨g3.blk,g3.loc,g3.inj,g3.fresh,g3.lt,g3.os,g3.tape,g3.output,g3.grown,g3.old,g3.iold,g3.inew,g3.keep,g3.used⟩⟩) ?_
 rintro e a2 w2 ⟨x,s2,I2,mu2,hq2,he2,R2⟩
 have hd2:a2.defers=[d]:=by
  obtain⟨rs,d0,d1,_⟩:=R2.defers
  rw[d0 rfl] at d1;exact d1
 have hold:∀ k,I1 k->w2.heap[k]? =w1.heap[k]?:=fun k hk=>R2.w.old k (R1.w.lt k hk) (fun hM=>g7 k hM hk)
 have fin:∀ (o:Option D) (u u':FrameMode),RecU w2 I2 mu2 o u u'->(∀ d,o=some d->d.pure=true)->settle u'=.returning->u≠ .run->CatC P fn.results.toList g cs rB HB' o s2->LeavesInM Fence.wide 1 P fn a2.tmps (fun e w'=>∃ v I' mu',e=.returned v/\Rep w' I' mu' r v/\Ao w M0 G0 (frN 4) I' mu' (Ac H') w') a2.defers u w2:=by
  rintro o u u' hrec hpure hset hrun ⟨rD,csD,HD,HD',hD,q1,q2,q3,q4,q5,dd,q6,q7⟩
  rw[hd2]
  have hcs2:B8 w2 I2 mu2 (BX rD csD) (caps.toList.map a1.eval):=by
   rw[<-q1]
   refine⟨g4.1,fun i hi=>?_⟩
   have h1:=g4.2 i hi
   have hnd:nd cs i=AT (fun b=>b) (nd cs i):=by
    have:=BK (r:=fun b=>b) hi
    rw[c3] at this;exact this
   have h2:Rep w1 I1 mu2 (nd cs i) (nv (caps.toList.map a1.eval) i):=Rep.ren (r:=fun b=>b) (n:=0) (fun b x hb hx=>by
    have hb':b%2=1:=by simpa[okN] using hb
    exact R2.w.keep b x hb' (g8 b x hb' hx)) h1 hnd (E0 c2 i)
   exact h2.mono hold (fun k hk=>R2.w.iold k (g6 k hk)) (fun _ _ h=>h)
  obtain⟨M4,G4,muc4,⟨f1,f2,f3,f4,f5,_⟩,hback4⟩:=WK (id:=2*s2.nx) rD (show GA P w1 M G3 from g1) R2.w (fun j hj=>⟨by omega,by show 2*s2.nx<=2*s2.nx+2*j;omega⟩) (fun _ _=>rfl) hcs2 q2 q3 q4
  have hinv:(invoke (.fn (.func g) (caps.map a1.eval)) #[]).run P w2=.ok (.enter g (caps.toList.map a1.eval).toArray) w2:=by
   have e1:#[]++caps.map a1.eval=(caps.toList.map a1.eval).toArray:=by apply Array.ext';simp
   simp only[invoke]
   exact(congrArg (fun z=>(callFunc g z).run P w2) e1).trans (AX hD.1 _ w2)
  have hrec':RecU w2 I2 muc4 o u u':=by
   cases o with
   |none=>exact hrec
   |some d=>
    obtain⟨v,hv,hu⟩:=hrec
    exact⟨v,hv.unmu (hpure d rfl),hu⟩
  refine⟨hrun,.inr ⟨fun h=>(by cases h),Fn.func g,caps.map a1.eval,g,_,rfl,hinv,fun f' _=>G3.fn f',(hD.2 w2 M4 G4 I2 muc4 _ u u' f1 f2 f3 f4 hrec').mono ?_⟩⟩
  rintro e u'' w3 ⟨rfl,v,I3,mu3,rfl,R3⟩
  show LeavesInM Fence.wide 1 P fn a2.tmps _ [] (settle u'') w3
  rw[hset]
  obtain⟨mu4,e4,R4,_⟩:=hback4 .any HD' v w3 I3 mu3 q5 (.any _) R3
  have hout:(fun b=>AO b (s2.fs.hp b) (C9 (2*s2.nx) rD HD .any HD').up)=Ac (DT s2.hp (DE (2*s2.nx) rD HD HD')):=by
   funext b;rw[Eo];rfl
  rw[hout] at R4
  have R4':=R4.less (fr':=frN (s2.nx+4)) fun b hb=>⟨⟨hb.1,by have:=hb.2;omega⟩,fun j hj=>by have:=hb.2;omega⟩
  obtain⟨v5,h5,h6⟩:=Gk (P:=P) (a:=a2) (w:=w3) (I:=I3) (mu:=mu4) (w0:=w1) (M0:=M) (I0:=⟨G3.st,G3.nm,a2.defers,Fence.wide,1,.inl rfl⟩) (fr:=frN (s2.nx+4)) (nt:=nt) (s:=⟨s2.env,DT s2.hp (DE (2*s2.nx) rD HD HD'),s2.nx+4⟩)
   ⟨R2.size,BF.refl _ _ _ _,fun t'=>(R2.env t').ext e4,⟨R4'.blk,R4'.loc,R4'.inj,R4'.fresh,R4'.lt,R4'.os,R4'.tape,R4'.output,R4'.grown,R4'.old,R4'.iold,R4'.inew,R4'.keep,R4'.used⟩⟩ fn q6
  obtain⟨I6,mu6,R6⟩:=q7 w1 M G2 1 I3 mu4 {tmps:=#[v5],defers:=G2.dl} w3 ⟨rfl,BF.refl _ _ _ _,fun t'=>by
   cases t' with
   |zero=>simpa [St.fs,Env.get] using h6
   |succ t'=>simp [St.fs,Env.get];exact .any _,⟨R4'.blk,R4'.loc,R4'.inj,R4'.fresh,R4'.lt,R4'.os,R4'.tape,R4'.output,R4'.grown,R4'.old,R4'.iold,R4'.inew,R4'.keep,R4'.used⟩⟩
  have r0:Rep w3 I6 mu6 rB v5:=by simpa[St.fs,Env.get] using R6.env 0
  obtain⟨mu7,e7,R7,h7,_⟩:=hback rB HB' v5 w3 I6 mu6 c8 r0 R6.w
  have hout7:(fun b=>AO b (s1.fs.hp b) (C9 (2*s1.nx) r1 HB rB HB').up)=Ac (DT s1.hp (DE (2*s1.nx) r1 HB HB')):=by
   funext b;rw[Eo];rfl
  rw[hout7] at R7
  have R7':=R7.less (fr':=frN (s1.nx+4)) fun b hb=>⟨⟨hb.1,by have:=hb.2;omega⟩,fun j hj=>by have:=hb.2;omega⟩
  obtain⟨I8,mu8,R8⟩:=hW w M0 G 1 I6 mu7 {tmps:=#[v5],defers:=[]} w3 ⟨rfl,BF.refl _ _ _ _,fun t'=>by
   cases t' with
   |zero=>simpa [St.fs,Env.get,C9] using h7
   |succ t'=>simp [St.fs,Env.get];exact .any _,R7'⟩
  have r8:Rep w3 I8 mu8 r v5:=by simpa[St.fs,Env.get] using R8.env 0
  exact⟨v5,h5,v5,I8,mu8,rfl,r8,⟨R8.w.blk,R8.w.loc,R8.w.inj,R8.w.fresh,R8.w.lt,R8.w.os,R8.w.tape,R8.w.output,R8.w.grown,R8.w.old,R8.w.iold,R8.w.inew,R8.w.keep,R8.w.used⟩⟩
 cases x<;>cases e<;>simp only[Fr] at he2<;>simp only[P9] at hq2
 ·exact fin none .returning .returning ⟨rfl,rfl⟩ (fun d h=>by cases h) rfl (by simp) hq2
 ·exact fin none .returning .returning ⟨rfl,rfl⟩ (fun d h=>by cases h) rfl (by simp) hq2
 ·obtain⟨v,rfl,hv⟩:=he2
  exact fin (some _) _ _ ⟨v,hv,rfl,rfl⟩ (fun d h=>by cases h;exact hq2.1) rfl (by simp) hq2.2
theorem A1.panV{P:Program}{ops:Array Oper}{nx:Nat}{dst:Option Tmp}{T:TypeId}{ps:String}{af:Array Edge}{x:Operand}{l:List Oper}{pos:Nat}{acc:List Eff}{s:St}{K:List Eff->St->Prop}{f:FuncId}{args:Array Operand}{ts:Array TypeId}{fs cs ds:List D}{r:D}(hx:evO P s.env.get x=.func (.func f) fs cs)(hc:EK P f ds r)(ha:fs++args.toList.map (evO P s.env.get)++cs=ds)(hpu:Af ds=true)(hrp:r.pure=true)(hk:K [] ⟨(Bg,r)::s.env,s.hp,s.nx⟩):
  A1 P ops nx (⟨dst,.call {callee:=.value x,args:=args,argTypes:=ts},T,ps,af,none⟩::l) pos acc s K:=by
 refine A1.panic0 (d:=r) ?_ hk
 intro w0 M0 I0 nt fr I mu a w hga rr K Q hQ
 refine⟨by simp[Region.wanted],?_⟩
 subst ha
 unfold EK at hc
 have hev:∀ y,Rep w I mu (evO P s.env.get y) (a.eval y):=fun y=>Dm (hga.at rr.w) rr.env y
 have hxr:=hev x
 rw[hx] at hxr
 have hargs:=B8.args (w:=w) (I:=I) (mu:=mu) (ev:=evO P s.env.get) (a:=a) (args:=args) fun y _=>hev y
 generalize he:a.eval x=fv at hxr
 cases hxr with
 |func _ _ _ us vs hl hk' h1 h2=>
 have hall:=((B8.append (B8.append ⟨hl,h1⟩ hargs) ⟨hk',h2⟩).unmu (mu':=fun _=>none) hpu)
 have hcall:=hc.2 w I _ (hga.at rr.w) rr.w.lt hall.1 hall.2
 have hrun:(execOp a.eval ⟨dst,.call {callee:=.value x,args:=args,argTypes:=ts},T,ps,af,none⟩).run P w=.ok (.enter f (us++args.toList.map a.eval++vs).toArray) w:=by
  have e1:us.toArray++args.map a.eval++vs.toArray=(us++args.toList.map a.eval++vs).toArray:=by apply Array.ext';simp
  simp only[execOp,resolve,he,Deferred.ofValue,A0e,A0k,Result.andThen,invoke]
  exact(congrArg (fun z=>(callFunc f z).run P w) e1).trans (AX hc.1 _ w)
 refine C2 hrun ?_
 refine hcall.mono fun e w' ⟨v,I',he,hv,h1,h2,h3,h4⟩=>?_
 subst he
 have g1:=rr.w.below h1 h2 h3 h4
 have g2:Ext I mu w I' mu w':=⟨h1,fun _ _ h=>h,fun k hk=>h4.block k (rr.w.lt k hk)⟩
 exact hQ v w' I' ⟨rr.size,rr.defers.ext g2,fun t=>(rr.env t).ext g2,g1⟩ (hv.unmu hrp)
abbrev NY(c:Int):Hp:=[(3,.rows [[.val (.int .i64 c)]] 1)]
theorem Yj:Qs prog 80 [.ref 3 0 0 1] none (NY 0) (NY 0):=by
 refine Qs.of_awp (t:=4) func80 rfl ntmps80 (by kernel_rfl) (by simp) (by decide) (congrArg Array.toList results80) ?_
 change AWp _ _ _ _ ⟨(4,.val .nilIface)::Bh 0 [.ref 3 0 0 1],[(3,.rows [[.val (.int .i64 0)]] 1)],4⟩
 refine Zy ?_
 push_cast
 refine A1.nilNil (by push_cast) (by push_cast) (fun a w h1 h2=>?_) ?_
 ·have u:=run_underlying (P:=prog) underlying20
  simp only[execOp,h1,h2,eqGuard,binOp]
  unfold Op.equal Op.maxDepth Op.equalIn
  simp[u]
 ·((try push_cast)<;>repeat' (first|apply Zi<;>intro _|exact Zp|with_reducible apply Za)<;>try push_cast)
  simp only[NY]
  apply Zw<;>push_cast
theorem r_catS(c:Int):Qs prog 80 [.ref 3 0 0 1] (some (wD c)) (NY 0) (NY c):=by
 refine Qs.of_awp (t:=4) func80 rfl ntmps80 (by kernel_rfl) (by simp) (by decide) (congrArg Array.toList results80) ?_
 change AWp _ _ _ _ ⟨(4,wD c)::Bh 0 [.ref 3 0 0 1],[(3,.rows [[.val (.int .i64 0)]] 1)],4⟩
 refine Zy ?_
 push_cast
 refine A1.ifNil (by push_cast;rfl) (by push_cast) (fun a v w h1 h2=>?_) ?_
 ·have u:=run_underlying (P:=prog) underlying20
  simp only[execOp,h1,h2,eqGuard,binOp]
  unfold Op.equal Op.maxDepth Op.equalIn
  simp[u]
 ·((try push_cast)<;>repeat' (first|apply Zi<;>intro _|exact Zp|with_reducible apply Za)<;>try push_cast)
  refine A1.assert (by push_cast;rfl) (fun v w=>?_) ?_
  ·simp[Instr.typeAssert,go_sem,underlying166]
  ·((try push_cast)<;>repeat' (first|apply Zi<;>intro _|exact Zp|with_reducible apply Za)<;>try push_cast)
   simp only[NY]
   apply Zw<;>push_cast
section
variable{F:GV->Int}(hF:∀ v,Sm v->wtV v<=2097152->A0 prog 85 [.agg (A4 v)] (.val (.int .i64 (F v))))
include hF
theorem c_May1(m:GM)(hm:SmU m)(hwt:wtU m<=2097152)(h0:Cw F m 1=0):A0 prog 44 [.ptr (Ap m) 0] (.tup []):=by
 have h:A0 prog 45 [.agg (Ap m),.val (.int .i64 1)] (.tup []):=Q7 hF m 1 hm hwt (by omega) h0
 refine Zf [] func44 rfl ntmps44 results44 ?_
 (have z:=trivial;(try push_cast)<;>repeat' (first|apply Zi<;>intro _|refine Zc h ?_|exact Zp|with_reducible apply Za)<;>try push_cast)
theorem p_May1(m:GM)(hm:SmU m)(hwt:wtU m<=2097152)(h0:Cw F m 1≠0):EK prog 44 [.ptr (Ap m) 0] (wD (Cw F m 1)):=by
 have h:EK prog 45 [.agg (Ap m),.val (.int .i64 1)] (wD (Cw F m 1)):=Yq hF m 1 hm hwt (by omega) h0
 generalize Cw F m 1=c at*
 refine EK.of_awp func44 rfl ntmps44 (by kernel_rfl) (by simp) (AWp.sz fun H Hb=>Zy ?_)
 (have z:=trivial;(try push_cast)<;>repeat' (first|apply Zi<;>intro _|exact Zp|with_reducible apply Za|(with_reducible show A1 _ _ _ _ _ _ _ _;refine A1.pan (by(try push_cast);exact h ..) rfl (by first|rfl|push_cast) rfl ?_)<;>try push_cast|fail)<;>try push_cast)
 exact⟨Am _,rfl⟩
end
theorem Xj(ds:List D)(hds:Af ds=true)(h:A0 prog 44 ds (.tup [])):A2 prog 43 [.func (.func 44) [] ds] [] (.val (.int .i64 0)) []:=by
 refine A2.of_awp_catch [_] func43 rfl ntmps43 (by kernel_rfl) (by simp) (by decide) (congrArg Array.toList results43) (BG [(3,8)]) [.ref 3 0 0 1] [(2,.ref 3 0 0 1),(0,.func (.func 44) [] ds)] [(3,.rows [[.val (.int .i64 0)]] 1)] (.val (.int .i64 0)) [(3,.rows [[.val (.int .i64 0)]] 1)] ?_
 refine Zy ?_
 (have z:=@hds;(try push_cast[z])<;>repeat' (first|apply Zi<;>intro _|exact Zo|with_reducible apply Za)<;>try push_cast[z])
 refine(show Pa _ _ _ _ _ _ _ _ _ _ _ _ _ _ _ _ _ from⟨?_,?_,?_,?_,?_,?_,?_,?_,?_,?_⟩)
 ·push_cast[hds]
 ·push_cast[hds]
 ·push_cast[hds]
 ·push_cast[hds,C3]
 ·push_cast[hds]
 ·push_cast[hds,B3]
 ·push_cast[hds]
 ·push_cast[hds]
 ·refine Zy ?_
  (have z:=@hds;(try push_cast[z])<;>repeat' (first|apply Zi<;>intro _|refine Zv h ?_|exact Zo|with_reducible apply Za)<;>try push_cast[z])
  refine(show P9 _ _ _ _ _ _ _ _ from⟨BG [],[.ref 3 0 0 1],_,_,Yj,?_,?_,?_,?_,?_,.val (.int .i64 0),?_,?_⟩)
  ·push_cast[hds]
  ·push_cast[hds]
  ·push_cast[hds,B3]
  ·push_cast[hds]
  ·push_cast[hds]
  ·push_cast[hds]
  ·push_cast[hds]
   apply Zw<;>push_cast [hds]
 ·push_cast[hds]
  apply Zw<;>push_cast [hds]
theorem Xi(ds:List D)(hds:Af ds=true)(c:Int)(h:EK prog 44 ds (wD c)):A2 prog 43 [.func (.func 44) [] ds] [] (.val (.int .i64 c)) []:=by
 refine A2.of_awp_catch [_] func43 rfl ntmps43 (by kernel_rfl) (by simp) (by decide) (congrArg Array.toList results43) (BG [(3,8)]) [.ref 3 0 0 1] [(2,.ref 3 0 0 1),(0,.func (.func 44) [] ds)] [(3,.rows [[.val (.int .i64 0)]] 1)] (.val (.int .i64 c)) [(3,.rows [[.val (.int .i64 c)]] 1)] ?_
 refine Zy ?_
 (have z:=@hds;(try push_cast[z])<;>repeat' (first|apply Zi<;>intro _|exact Zo|with_reducible apply Za)<;>try push_cast[z])
 refine(show Pa _ _ _ _ _ _ _ _ _ _ _ _ _ _ _ _ _ from⟨?_,?_,?_,?_,?_,?_,?_,?_,?_,?_⟩)
 ·push_cast[hds,Bg]
 ·push_cast[hds,Bg]
 ·push_cast[hds,Bg]
 ·push_cast[hds,C3]
 ·push_cast[hds,Bg]
 ·push_cast[hds,B3]
 ·push_cast[hds,Bg]
 ·push_cast[hds,Bg]
 ·refine Zy ?_
  (have z:=@hds;(try push_cast[z])<;>repeat' (first|apply Zi<;>intro _|exact Zo|with_reducible apply Za|(with_reducible show A1 _ _ _ _ _ _ _ _;refine A1.panV rfl (by(try push_cast[z]);exact h ..) rfl (by first|rfl|push_cast [z]) rfl ?_)<;>try push_cast[z]|fail)<;>try push_cast[z])
  refine(show P9 _ _ _ _ _ _ _ _ from⟨rfl,BG [],[.ref 3 0 0 1],_,_,r_catS c,?_,?_,?_,?_,?_,.val (.int .i64 c),?_,?_⟩)
  ·push_cast[hds,Bg]
  ·push_cast[hds,Bg]
  ·push_cast[hds,B3]
  ·push_cast[hds,Bg]
  ·push_cast[hds,Bg]
  ·push_cast[hds,Bg]
  ·push_cast[hds,Bg]
   apply Zw<;>push_cast [hds,Bg]
 ·push_cast[hds,Bg]
  apply Zw<;>push_cast [hds,Bg]
noncomputable def Wn(F:GV->Int)(m:GM):Int:=if 64<Di m then 6 else Cw F m 1
theorem c_mMay{F:GV->Int}(hF:∀ v,Sm v->wtV v<=2097152->A0 prog 85 [.agg (A4 v)] (.val (.int .i64 (F v))))(m:GM)(hm:SmU m)(hwt:wtU m<=2097152)(hz:Di m<=1099511627776):A0 prog 22 [.agg (Ap m)] (.val (.int .i64 (Wn F m))):=by
 have hS:=Vf m hz
 have oU:=Au m
 unfold Wn
 by_cases h64:64<Di m
 ·rw[if_pos h64]
  have b1:decide ((64:Int)<(Di m:Nat))=true:=decide_eq_true (by omega)
  refine Zf [0] func22 rfl ntmps22 results22 ?_
  (have z:=Za b1 oU;(try push_cast[z])<;>repeat' (first|apply Zi<;>intro _|refine Zc hS ?_|exact Zo|with_reducible apply Za)<;>try push_cast[z])
 ·rw[if_neg h64]
  have b1:decide ((64:Int)<(Di m:Nat))=false:=decide_eq_false (by omega)
  by_cases hc:Cw F m 1=0
  ·have hC:=Xj [.ptr (Ap m) 0] (by simp[Af,D.pure,oU]) (c_May1 hF m hm hwt hc)
   rw[hc]
   refine Zf [0] func22 rfl ntmps22 results22 ?_
   (have z:=Za b1 oU;(try push_cast[z])<;>repeat' (first|apply Zi<;>intro _|refine Zc hS ?_|refine Zs [] hC ?_|exact Zo|with_reducible apply Za)<;>try push_cast[z])
  ·have hC:=Xi [.ptr (Ap m) 0] (by simp[Af,D.pure,oU]) _ (p_May1 hF m hm hwt hc)
   generalize Cw F m 1=c at*
   refine Zf [0] func22 rfl ntmps22 results22 ?_
   (have z:=Za b1 oU;(try push_cast[z])<;>repeat' (first|apply Zi<;>intro _|refine Zc hS ?_|refine Zs [] hC ?_|exact Zo|with_reducible apply Za)<;>try push_cast[z])
theorem keyM_n:FL tN=0:=by
 unfold FL FK AH
 decide
theorem ZH:FL tK=0:=by
 unfold FL FK AH
 decide
theorem LD:noS ByteArray.empty=true:=by rw[YM];decide
theorem Ur:D7 zV=true:=by simp[D7,zV,GV.kind,GV.b,GV.n,GV.s,GV.list,GV.obj,LD]
theorem Z6(F:GV->Int)(n:Int):Cw F (SMu.inc n).m 1=0:=by
 have hk:=keyM_n
 rw[Jb]
 have h1:Ch (SMu.inc n).m=false:=by
  simp[Ch,SMu.m,GM.kind,GM.had,GM.was,GM.to,GM.n,GM.has,GM.value,GM.list,LD,Ur]
 have h2:E1 (SMu.inc n).m=true:=by
  simp only[E1,SMu.m,GM.kind,GM.key,GM.to,GM.had,hk]
  decide
 rw[h1,h2]
 simp[SMu.m,GM.had,GM.kind,GM.list,DI]
theorem Z5(F:GV->Int)(hF:F Bn=0):Cw F SMu.put.m 1=0:=by
 have hk:=ZH
 rw[Jb]
 have h1:Ch SMu.put.m=false:=by
  simp[Ch,SMu.m,GM.kind,GM.had,GM.was,GM.to,GM.n,GM.has,GM.value,GM.list,LD,Ur]
 have h2:E1 SMu.put.m=true:=by
  simp only[E1,SMu.m,GM.kind,GM.key,GM.to,GM.had,hk]
  decide
 rw[h1,h2]
 simp[SMu.m,GM.had,GM.kind,GM.list,GM.value,DI,hF]
theorem PJ(F:GV->Int)(hF:F Bn=0)(m:SMu):Wn F m.m=0:=by
 unfold Wn
 cases m with
 |inc n=>
  rw[if_neg (by rw[Fc];simp[SMu.m,GM.list,C4]),Z6]
 |put=>
  rw[if_neg (by rw[Fc];simp[SMu.m,GM.list,C4]),Z5 F hF]
theorem XT:Sm zV:=.mk _ _ _ _ _ _ (by decide) (by decide) (fun _ h=>by cases h) (fun _ h=>by cases h) (by decide) (by decide) (fun _ h=>by cases h)
theorem UB:Sm Bn:=.mk _ _ _ _ _ _ (by decide) (by decide) (fun _ h=>by cases h) (fun _ h=>by cases h) (by decide) (by decide) (fun _ h=>by cases h)
theorem XV(m:SMu):SmU m.m:=by
 cases m with
 |inc n=>exact .mk _ XT XT (by decide:tN.size<=1048576) (by decide:ByteArray.size .empty<=1048576) (by decide:List.length ([]:List GM)<=1048576) (fun _ h=>by cases h)
 |put=>exact .mk _ XT UB (by decide:tK.size<=1048576) (by decide:ByteArray.size .empty<=1048576) (by decide:List.length ([]:List GM)<=1048576) (fun _ h=>by cases h)
theorem XC(m:SMu):wtU m.m<=2:=by
 cases m with
 |inc n=>rw [L3,Pb,Pb];exact(by decide:tN.size+ByteArray.size .empty+(ByteArray.size .empty+(0+0)+(0+0))+(ByteArray.size .empty+(0+0)+(0+0))+(0+0)<=2)
 |put=>rw [L3,Pb,Pb];exact(by decide:tK.size+ByteArray.size .empty+(ByteArray.size .empty+(0+0)+(0+0))+(ByteArray.size .empty+(0+0)+(0+0))+(0+0)<=2)
theorem L9(m:SMu):Di m.m=1:=by
 cases m<;>rw [Fc]<;>rfl
def rgF(k:Nat)(T:Nat->GT):Nat->List GT
 |0=>List.replicate k .nil
 |i+1=>(rgF k T i).set ((i+1)%k) (T (i+1))
theorem Fy(k:Nat)(T:Nat->GT):∀ i,(rgF k T i).length=k
 |0=>by simp[rgF]
 |i+1=>by rw[rgF,A0N,Fy k T i]
theorem Yd(k:Nat)(T:Nat->GT)(hk:0<k)(h0:T 0=.nil)(i:Nat):(rgF k T i).getD (i%k) .nil=T i:=by
 cases i with
 |zero=>rw [h0,Nat.zero_mod];cases k<;>simp [rgF]
 |succ i=>
  have h1:=Fy k T i
  have h2:(i+1)%k<k:=Nat.mod_lt _ hk
  rw[rgF,A02,A1B,if_pos rfl,if_pos (by omega)]
  rfl
def raF(c:Nat)(u:Nat->GM)(e:Nat->Int)(i:Nat):List (List D):=(List.range i).map fun j=>Lj j c (u j) (e j)
theorem raF_s(c:Nat)(u:Nat->GM)(e:Nat->Int)(i:Nat):raF c u e (i+1)=raF c u e i++[Lj i c (u i) (e i)]:=by simp[raF,List.range_succ]
theorem GL(c:Nat)(u:Nat->GM)(e:Nat->Int)(i:Nat):(raF c u e i).length=i:=by simp[raF]
theorem Dn(c:Nat)(u:Nat->GM)(e:Nat->Int)(i:Nat):A3 (raF c u e i)=true:=by
 unfold raF;exact Ar (fun j=>JH j c (u j) (e j)) _
def dnF(e:Nat->Int):Nat->Nat
 |0=>0
 |i+1=>if e i=0 then dnF e i+1 else dnF e i
def flF(e:Nat->Int):Nat->Nat
 |0=>0
 |i+1=>if e i=0 then flF e i else flF e i+1
theorem dnfl(e:Nat->Int):∀ i,dnF e i+flF e i=i
 |0=>rfl
 |i+1=>by have:=dnfl e i;simp only[dnF,flF];split<;>omega
theorem SvOk.of{k:Nat}{T:Nat->GT}{c:Nat}{u:Nat->GM}{e:Nat->Int}(hk:0<k)(hk2:k<=1024)(i:Nat)(hi:i<=1000):SvOk k i (min (i+1) k) (i%k) (rgF k T i) (raF c u e i):=
 ⟨Dn c u e i,GL c u e i,Fy k T i,hk,hk2,by omega,by omega,by omega,hi,rfl⟩
def tbH(c i:Nat):Hp:=if i=0 then [(5,MJ)] else [(5,.rows [[.mref 0,.gref 4 i,.val (.int .u64 i),.val (.int .u64 0)]] 4),(0,nmB c i),(2,.grow (ntL i) 2),(4,.grow (owL c i) 2)]
theorem XM(c:Nat):tbH c 0=[(5,MJ)]:=rfl
theorem SS(c:Nat){i:Nat}(h:0<i):tbH c i=[(5,.rows [[.mref 0,.gref 4 i,.val (.int .u64 i),.val (.int .u64 0)]] 4),(0,nmB c i),(2,.grow (ntL i) 2),(4,.grow (owL c i) 2)]:=by unfold tbH;rw[if_neg (by omega)]
def svH(k c:Nat)(T:Nat->GT)(u:Nat->GM)(e:Nat->Int)(i:Nat):Hp:=[(1,svB i),(3,lgB k i (min (i+1) k)),(7,rgB (rgF k T i)),(6,.grow (raF c u e i) 23)]
structure ItOk(b n:Nat)(u:Nat->GM)(L:List (List D)):Prop where
 pure:A3 L=true
 len:L.length=n
 lt:b<n
 n1:n<=64
 item:∀ j,j<b->nr L j=.val (.int .u64 ((j:Int)+1))::Ap (u j)
 gap:∃ (q:Nat) (v:GM),b+1<q/\q<=1048576/\nr L b=.val (.int .u64 q)::Ap v
def psS(k c n:Nat)(T:Nat->GT)(u:Nat->GM)(e:Nat->Int)(L:List (List D))(nx tl rq rs i:Nat):St:=
 ⟨[(28,.val (.int .i64 i)),(27,.val (.int .i64 n)),(26,.slice L false),(8,.ref tl 0 0 4),(6,.ref rq 0 0 2),(4,.ref rs 0 0 4),(0,.ref 1 0 0 3)],
  (tl,.rows [[.val (.int .i64 0),.val (.int .i64 (dnF e i)),.val (.int .i64 (flF e i)),.val (.bool false)]] 4)::(rq,.rows [[.val (.int .u64 c),.slice L false]] 2)::(rs,.rows [[.val (.int .i64 0),.val (.int .i64 0),.val (.int .i64 0),.val (.bool false)]] 4)::(svH k c T u e i++tbH c i),nx⟩
abbrev svX1(k:Nat)(X:List (List D)):Hp:=[(1,svB 0),(3,lgB k 0 1),(7,.rows X 1),(6,.grow [] 23)]
theorem c_push(k c b n:Nat)(T:Nat->GT)(u:Nat->GM)(e:Nat->Int)(F L:List (List D))(oF:A3 F=true)(hc:BI c)(hk:0<k)(hk1:2<=k)(hk2:k<=1024)(hL:ItOk b n u L)(h0:T 0=.nil)
  (hRun:∀ i,i<b->A0 prog 36 [AL (T i),.agg (Ap (u i))] (.tup [AL (T (i+1)),.val (.int .i64 (e i))]))
  (hD:A0 prog 16 [.slice F false] (.tup [.agg [.val (.int .u64 c),.slice L false],.val (.int .i64 0)])):
  A2 prog 7 [.ref 1 0 0 3,.slice F false] (svH k c T u e 0++tbH c 0)
   (.tup [.agg [.val (.int .i64 0),.val (.int .i64 (dnF e b)),.val (.int .i64 (flF e b)),.val (.bool true)],.val (.int .i64 0)]) (svH k c T u e b++if b<k then tbH c b else []):=by
 obtain⟨oL,lL,hbn,hn,hit,q,v,hq1,hq2,hgap⟩:=hL
 have hok:=fun i hi=>SvOk.of (k:=k) (T:=T) (c:=c) (u:=u) (e:=e) hk hk2 i hi
 have hreal:=Mv _ (Bd (rgF k T 0)) 0 (min 1 k) [] rfl
 have m1:min (0+1) k=1:=by omega
 have hlen:=fun i=>Fy k T i
 rw[XM]
 unfold svH rgB
 rw[m1]
 rw[A1a] at*
 have m2:min 1 k=1:=by omega
 rw[m2] at hreal
 have er0:raF c u e 0=[]:=rfl
 rw[er0]
 have oX:=Bd (rgF k T 0)
 have lX:((rgF k T 0).map fun t=>[A8 t]).length=k:=by simp[hlen]
 have et:((rgF k T 0).map fun t=>[A8 t]).take k=(rgF k T 0).map fun t=>[A8 t]:=A05 (by omega)
 generalize hX:((rgF k T 0).map fun t=>[A8 t])=X at*
 change A0 _ _ [.ptr [.ptr [.slice X false,.val (.int .u64 0),.val (.int .i64 1)] 0,.any,.slice [] false] 0] _ at hreal
 have c0:(if k<=k/\k<=k/\k<=9223372036854775807 then D.slice X true else .sref 7 0 k k 1)=.slice X true:=if_pos ⟨A08 _,A08 _,by omega⟩
 refine Zd [] func7 rfl ntmps7 results7 ?_
 (have z:=Za oX<|Za oL<|Za oF<|Za lL<|Za lX<|Za et c0;(try push_cast[z])<;>repeat' (first|apply Zi<;>intro _|refine Zc hD ?_|exact Zo|with_reducible apply Za|((with_reducible show A1 _ _ _ _ _ _ _ _);refine A1.lend (svX1 k X) _ rfl (by exact hreal ..) (by first|exact .inl rfl|exact .inr ⟨_,_,_,rfl,rfl,rfl⟩) ?_ ?_ ?_ (by first|rfl|push_cast [z]) ?_;(· push_cast[z]<;>(with_unfolding_all exact A9 _));(· push_cast[z]<;>first|exact fun _=>trivial|(with_unfolding_all exact A9 _));(· push_cast[z]);try push_cast[z])|fail)<;>try push_cast[z])
 all_goals first|omega|skip
 refine AWp.scope (Zy ?_)
 (have z:=Za oX<|Za oL<|Za oF<|Za lL<|Za lX<|Za et c0;(try push_cast[z])<;>repeat' (first|apply Zi<;>intro _|refine Zc hD ?_|exact Zo|with_reducible apply Za|((with_reducible show A1 _ _ _ _ _ _ _ _);refine A1.lend (svX1 k X) _ rfl (by exact hreal ..) (by first|exact .inl rfl|exact .inr ⟨_,_,_,rfl,rfl,rfl⟩) ?_ ?_ ?_ (by first|rfl|push_cast [z]) ?_;(· push_cast[z]<;>(with_unfolding_all exact A9 _));(· push_cast[z]<;>first|exact fun _=>trivial|(with_unfolding_all exact A9 _));(· push_cast[z]);try push_cast[z])|fail)<;>try push_cast[z])
 all_goals first|omega|skip
 refine Zl (fun j=>j<=b) (psS k c n T u e L 84 128 88 8) (fun j=>b+1-j) 0 (A0J _) ?_ fun j hj=>?_
 ·have d0:dnF e 0=0:=rfl
  have f0:flF e 0=0:=rfl
  unfold psS svH rgB
  rw[XM,m1,er0,hX,d0,f0]
  apply Zw<;>push_cast [oX,oL]
 ·rename_i zz;clear z zz hreal et lX oX c0 hX X
  unfold psS svH rgB
  rcases A0O j b with hjb|hjb
  ·rcases A16 j with hj0|hj0
   ·subst hj0
    have hE:=c_exec0 k c (min 2 k) (1%k) (rgF k T 0) (T 1) (u 0) (e 0) hc (by have:=hok 0 (by omega);rw[Nat.zero_mod,m1] at this;exact this) rfl rfl (by have:=hRun 0 hjb;rw[<-Yd k T hk h0 0,Nat.zero_mod] at this;exact this)
    change A2 _ _ _ _ _ [_,_,(7,rgB (rgF k T 1)),(6,.grow (raF c u e 1) 23),_,_,_,_] at hE
    have hLs:=Ms c
    have e1:=hit 0 hjb
    change nr L 0=.val (.int .u64 1)::Ap (u 0) at e1
    have oX:=Bd (rgF k T 0)
    have oX':=Bd (rgF k T 1)
    rw[XM,m1,er0,show dnF e 0=0 from rfl,show flF e 0=0 from rfl]
    have oN1:=BS 1
    have oO1:=CA c 1
    have oR1:=Dn c u e 1
    have oU:=Au (u 0)
    unfold rgB at hE
    have c1:decide ((0:Int)<n)=true:=decide_eq_true (by omega)
    have w1:IntKind.u64.wrap 1=1:=by decide
    have w2:IntKind.i64.wrap 1=1:=by decide
    have hd1:dnF e 1=if e 0=0 then 1 else 0:=rfl
    have hf1:flF e 1=if e 0=0 then 0 else 1:=rfl
    generalize hX:((rgF k T 0).map fun t=>[A8 t])=X at*
    generalize hX':((rgF k T 1).map fun t=>[A8 t])=X' at*
    generalize hR':raF c u e 1=R' at*
    generalize hNL:ntL 1=NL' at*
    generalize hOL:owL c 1=OL' at*
    rw[AY,A7 (u 0).was,A7 (u 0).value] at*
    simp only[A0d,A0h,A0c] at*
    by_cases he:e 0=0
    ·have b1:(e 0==0)=true:=by simpa using he
     rw[if_pos he] at hd1 hf1
     (have z:=Za oL<|Za lL<|Za e1<|Za oX<|Za oX'<|Za oN1<|Za oO1<|Za oR1<|Za oU<|Za c1<|Za w1<|Za w2 b1;(try push_cast[z])<;>repeat' (first|apply Zi<;>intro _|refine Zs [(5,5)] (hLs ..) ?_|refine Zs [(1,1),(3,3),(7,7),(6,6),(5,5)] hE ?_|exact Zo|with_reducible apply Za)<;>try push_cast[z])
     all_goals first|omega|skip
     refine⟨1,by omega,by omega,?_⟩
     rw[SS c Nat.zero_lt_one,show min (1+1) k=min 2 k from rfl,hd1,hf1,hX',hR',hNL,hOL]
     apply Zr [(0,400),(2,402),(4,404),(6,406)] rfl<;>push_cast [oL,oX',oN1,oO1,oR1,w2]
    ·have b1:(e 0==0)=false:=by simpa using he
     rw[if_neg he] at hd1 hf1
     (have z:=Za oL<|Za lL<|Za e1<|Za oX<|Za oX'<|Za oN1<|Za oO1<|Za oR1<|Za oU<|Za c1<|Za w1<|Za w2 b1;(try push_cast[z])<;>repeat' (first|apply Zi<;>intro _|refine Zs [(5,5)] (hLs ..) ?_|refine Zs [(1,1),(3,3),(7,7),(6,6),(5,5)] hE ?_|exact Zo|with_reducible apply Za)<;>try push_cast[z])
     all_goals first|omega|skip
     refine⟨1,by omega,by omega,?_⟩
     rw[SS c Nat.zero_lt_one,show min (1+1) k=min 2 k from rfl,hd1,hf1,hX',hR',hNL,hOL]
     apply Zr [(0,400),(2,402),(4,404),(6,406)] rfl<;>push_cast [oL,oX',oN1,oO1,oR1,w2]
   ·have hE:=c_exec k j (min (j+1) k) (min (j+1+1) k) (j%k) ((j+1)%k) c (rgF k T j) (raF c u e j) (T (j+1)) (u j) (e j) hc (hok j (by omega)) hj0 (by omega) rfl (by rw[Yd k T hk h0];exact hRun j hjb)
    rw[<-raF_s] at hE
    have hLs:=KU c j (by omega)
    have e1:=hit j hjb
    have oX:=Bd (rgF k T j)
    have oX':=Bd (rgF k T (j+1))
    change A2 _ _ _ _ _ [_,_,(7,rgB (rgF k T (j+1))),_,_,_,_,_] at hE
    rw[SS c hj0]
    have oN:=BS j
    have oN1:=BS (j+1)
    have oO:=CA c j
    have oO1:=CA c (j+1)
    have oR:=Dn c u e j
    have oR1:=Dn c u e (j+1)
    have oU:=Au (u j)
    unfold rgB at hE
    have c1:decide ((j:Int)<n)=true:=decide_eq_true (by omega)
    have c2:decide ((j:Int)+1<=j)=false:=decide_eq_false (by omega)
    have c3:decide ((j:Int)+1<(j:Int)+1)=false:=decide_eq_false (by omega)
    have w1:IntKind.u64.wrap ((j:Int)+1)=(j:Int)+1:=Hi (by omega) (by omega)
    have w2:IntKind.i64.wrap ((j:Int)+1)=(j:Int)+1:=Aa (by omega) (by omega)
    have hdf:=dnfl e j
    have w3:IntKind.i64.wrap ((dnF e j:Int)+1)=(dnF e j:Int)+1:=Aa (by omega) (by omega)
    have w4:IntKind.i64.wrap ((flF e j:Int)+1)=(flF e j:Int)+1:=Aa (by omega) (by omega)
    have hd1:dnF e (j+1)=if e j=0 then dnF e j+1 else dnF e j:=rfl
    have hf1:flF e (j+1)=if e j=0 then flF e j else flF e j+1:=rfl
    generalize hX:((rgF k T j).map fun t=>[A8 t])=X at*
    generalize hX':((rgF k T (j+1)).map fun t=>[A8 t])=X' at*
    generalize hR:raF c u e j=R at*
    generalize hR':raF c u e (j+1)=R' at*
    generalize ntL j=NL at*
    generalize hNL:ntL (j+1)=NL' at*
    generalize owL c j=OL at*
    generalize hOL:owL c (j+1)=OL' at*
    generalize dnF e j=d at*
    generalize flF e j=f at*
    rw[AY,A7 (u j).was,A7 (u j).value] at*
    simp only[A0d,A0h,A0c] at*
    by_cases he:e j=0
    ·have b1:(e j==0)=true:=by simpa using he
     rw[if_pos he] at hd1 hf1
     (have z:=Za oL<|Za lL<|Za e1<|Za oX<|Za oX'<|Za oN<|Za oN1<|Za oO<|Za oO1<|Za oR<|Za oR1<|Za oU<|Za c1<|Za c2<|Za c3<|Za w1<|Za w2<|Za w3<|Za w4 b1;(try push_cast[z])<;>repeat' (first|apply Zi<;>intro _|refine Zs [(5,5),(11,0),(13,2),(15,4)] (hLs ..) ?_|refine Zs [(1,1),(3,3),(7,7),(6,6),(5,5),(11,0),(2,2),(4,4)] hE ?_|exact Zo|with_reducible apply Za)<;>try push_cast[z])
     all_goals first|omega|skip
     refine⟨j+1,by omega,by omega,?_⟩
     rw[SS c (by omega),hd1,hf1,hX',hR',hNL,hOL]
     apply Zr [(2,402),(4,404),(6,406)] rfl<;>push_cast [oL,oX',oN1,oO1,oR1,w2]
    ·have b1:(e j==0)=false:=by simpa using he
     rw[if_neg he] at hd1 hf1
     (have z:=Za oL<|Za lL<|Za e1<|Za oX<|Za oX'<|Za oN<|Za oN1<|Za oO<|Za oO1<|Za oR<|Za oR1<|Za oU<|Za c1<|Za c2<|Za c3<|Za w1<|Za w2<|Za w3<|Za w4 b1;(try push_cast[z])<;>repeat' (first|apply Zi<;>intro _|refine Zs [(5,5),(11,0),(13,2),(15,4)] (hLs ..) ?_|refine Zs [(1,1),(3,3),(7,7),(6,6),(5,5),(11,0),(2,2),(4,4)] hE ?_|exact Zo|with_reducible apply Za)<;>try push_cast[z])
     all_goals first|omega|skip
     refine⟨j+1,by omega,by omega,?_⟩
     rw[SS c (by omega),hd1,hf1,hX',hR',hNL,hOL]
     apply Zr [(2,402),(4,404),(6,406)] rfl<;>push_cast [oL,oX',oN1,oO1,oR1,w2]
  ·obtain rfl:j=b:=by omega
   have c1:decide ((j:Int)<n)=true:=decide_eq_true (by omega)
   have c2:decide ((q:Int)<=j)=false:=decide_eq_false (by omega)
   have c3:decide ((j:Int)+1<q)=true:=decide_eq_true (by omega)
   have w1:IntKind.u64.wrap ((j:Int)+1)=(j:Int)+1:=Hi (by omega) (by omega)
   have oX:=Bd (rgF k T j)
   have oR:=Dn c u e j
   have lR:=GL c u e j
   have oU:=Au v
   have lX:((rgF k T j).map fun t=>[A8 t]).length=k:=by simp[hlen]
   have et:((rgF k T j).map fun t=>[A8 t]).take k=(rgF k T j).map fun t=>[A8 t]:=A05 (by omega)
   have hO:=Sq _ oX j (min (j+1) k) (j+1-min (j+1) k) (raF c u e j) oR (by omega) (by omega) (by omega) (by omega)
   have hdf:=dnfl e j
   generalize hX:((rgF k T j).map fun t=>[A8 t])=X at*
   have c0:(if k<=k/\k<=k/\k<=9223372036854775807 then D.slice X true else .sref 7 0 k k 1)=.slice X true:=if_pos ⟨A08 _,A08 _,by omega⟩
   generalize hR:raF c u e j=R at*
   rw[AY,A7 v.was,A7 v.value] at*
   simp only[A0d,A0h,A0c] at*
   rcases A16 j with hj0|hj0
   ·subst hj0
    have hLs:=Ms c
    have hF:=Sk
    rw[if_pos hk,XM,m1,show dnF e 0=0 from rfl,show flF e 0=0 from rfl]
    have em:0+1-min (0+1) k=0:=by omega
    rw[em,m1] at hO
    have hR0:R=[]:=hR.symm
    subst hR0
    change A0 _ _ [.ptr [.ptr [.slice X false,.val (.int .u64 0),.val (.int .i64 1)] 0,.any,.slice [] false] 0] (.val (.int .u64 0)) at hO
    have c1':decide ((0:Int)<n)=true:=c1
    have c2':decide ((q:Int)<=0)=false:=c2
    have c3':decide ((1:Int)<q)=true:=decide_eq_true (by omega)
    have w1':IntKind.u64.wrap 1=1:=by decide
    (have z:=Za oL<|Za lL<|Za @hgap<|Za oX<|Za oU<|Za lX<|Za et<|Za c0<|Za c1'<|Za c2'<|Za c3' w1';(try push_cast[z])<;>repeat' (first|apply Zi<;>intro _|refine Zs [(5,5)] (hLs ..) ?_|refine Zs [(5,5)] hF ?_|exact Zo|with_reducible apply Za|((with_reducible show A1 _ _ _ _ _ _ _ _);refine A1.lend (svX1 k X) _ rfl (by exact hO ..) (by first|exact .inl rfl|exact .inr ⟨_,_,_,rfl,rfl,rfl⟩) ?_ ?_ ?_ (by first|rfl|push_cast [z]) ?_;(· push_cast[z]<;>(with_unfolding_all exact A9 _));(· push_cast[z]<;>first|exact fun _=>trivial|(with_unfolding_all exact A9 _));(· push_cast[z]);try push_cast[z])|fail)<;>try push_cast[z])
    all_goals first|omega|skip
    apply Zw<;>push_cast [oX]
   ·have hLs:=KU c j (by omega)
    rw[SS c hj0]
    have oN:=BS j
    have oO:=CA c j
    have hF2:=fun (h:k<=j)=>X3 c j (j+1-min (j+1) k) hc (by omega) (by omega)
    generalize ntL j=NL at*
    generalize owL c j=OL at*
    rcases A0O j k with hjk|hjk
    ·rw[if_pos hjk]
     have em:j+1-min (j+1) k=0:=by omega
     rw[em] at hO
     have hF:=Mt j
     generalize hm:min (j+1) k=m at*
     (have z:=Za oL<|Za lL<|Za @hgap<|Za oX<|Za oN<|Za oO<|Za oR<|Za lR<|Za oU<|Za lX<|Za et<|Za c0<|Za c1<|Za c2<|Za c3 w1;(try push_cast[z])<;>repeat' (first|apply Zi<;>intro _|refine Zs [(5,5),(11,0),(13,2),(15,4)] (hLs ..) ?_|refine Zs [(5,5),(11,0),(15,4)] hF ?_|exact Zo|with_reducible apply Za|((with_reducible show A1 _ _ _ _ _ _ _ _);refine A1.lend (svX k j m X R) _ rfl (by exact hO ..) (by first|exact .inl rfl|exact .inr ⟨_,_,_,rfl,rfl,rfl⟩) ?_ ?_ ?_ (by first|rfl|push_cast [z]) ?_;(· push_cast[z]<;>(with_unfolding_all exact A9 _));(· push_cast[z]<;>first|exact fun _=>trivial|(with_unfolding_all exact A9 _));(· push_cast[z]);try push_cast[z])|fail)<;>try push_cast[z])
     all_goals first|omega|skip
     apply Zw<;>push_cast [oX,oN,oO,oR]
    ·rw[if_neg (by omega)]
     have hF:=hF2 hjk
     generalize hm:min (j+1) k=m at*
     generalize j+1-m=o at*
     (have z:=Za oL<|Za lL<|Za @hgap<|Za oX<|Za oN<|Za oO<|Za oR<|Za lR<|Za oU<|Za lX<|Za et<|Za c0<|Za c1<|Za c2<|Za c3 w1;(try push_cast[z])<;>repeat' (first|apply Zi<;>intro _|refine Zs [(5,5),(11,0),(13,2),(15,4)] (hLs ..) ?_|refine Zs [(5,5),(11,0),(13,2),(15,4)] hF ?_|exact Zo|with_reducible apply Za|((with_reducible show A1 _ _ _ _ _ _ _ _);refine A1.lend (svX k j m X R) _ rfl (by exact hO ..) (by first|exact .inl rfl|exact .inr ⟨_,_,_,rfl,rfl,rfl⟩) ?_ ?_ ?_ (by first|rfl|push_cast [z]) ?_;(· push_cast[z]<;>(with_unfolding_all exact A9 _));(· push_cast[z]<;>first|exact fun _=>trivial|(with_unfolding_all exact A9 _));(· push_cast[z]);try push_cast[z])|fail)<;>try push_cast[z])
     all_goals first|omega|skip
     apply Zw<;>push_cast [oX,oR]
end Go.Ab
