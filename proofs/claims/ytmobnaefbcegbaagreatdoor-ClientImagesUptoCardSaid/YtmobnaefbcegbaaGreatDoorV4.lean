/- The program is walked: part 5 of 18. -/
import Derived.Test.YtmobnaefbcegbaaGreatDoorV3
import Derived.Test.YtmobnaefbcegbaaGreatDoorProg
import Derived.KernelRfl
import Derived.Lib.Bytealg
set_option maxHeartbeats 4000000
set_option maxRecDepth 20000
set_option linter.all false
namespace Go.Ab
open Go.RowKit
def G8(P:Program)(f:FuncId)(ds:List D)(r:D):Prop:=
 By P f=true/\∀(w:World) (I:Nat->Prop) (vs:List Value),GIn P w I->(∀k,I k->k<w.heap.size)->vs.length=ds.length->(∀i,i<ds.length->Rep w I (λ_=>none) (nd ds i) (nv vs i))->
  Calls P f vs.toArray w λe w'=>∃v I',e=.panicked [{v,recovered:=false}]/\Rep w' I' (λ_=>none) r v/\(∀k,I k->I' k)/\(∀k,I' k->I k\/w.heap.size<=k)/\(∀k,I' k->k<w'.heap.size)/\Below w.heap.size w w'
section
variable{P:Program}{ops:Array Oper}{nx:Nat}{dst:Option Tmp}{T:TypeId}{ps:String}{af:Array Edge}{x:Operand}{l:List Oper}{pos:Nat}{acc:List Eff}{s:St}{K:List Eff->St->Prop}
def A5.panic0{o:Oper}{d:D}(h:SoundP P ops o s.fs d)(C:K [] ⟨(BF,d)::s.env,s.hp,s.nx⟩):A5 P ops nx (o::l) pos acc s K:=by
 rw[BA];unfold BT;exact .inr (.inr ⟨d,h,_,rfl,C⟩)
def A5.panicOp{t:TypeId}{d:D}(M:evO P s.env.get x=.iface t d)(N:K [] ⟨(BF,.iface t d)::s.env,s.hp,s.nx⟩):A5 P ops nx (⟨dst,.panic x,T,ps,af,none⟩::l) pos acc s K:=by
 refine A5.panic0 ?_ N;intro w0 M0 I0 nt fr I mu a w O r K Q U;refine⟨by simp[Region.wanted],λf _=>I0.fn f,?_⟩;have C:Rep w I mu (evO P s.env.get x) (a.eval x):=Ei (O.at r.w) r.env x;rw[M] at C;generalize V:a.eval x=v at C;have Y:=C;cases C with
 |iface _ _ u h=>
 have Z:(execOp a.eval ⟨dst,.panic x,T,ps,af,none⟩).run P w=.halt (.panic (.iface t u)) w:=by
  have hp:(Instr.panic (.iface t u)).run P w=.halt (.panic (.iface t u)) w:=rfl;simp[execOp,V,A2o,hp,Result.andThen]
 rw[Oper.semAt_eq _ _ _ (by simp_all),Z];exact U _ w I r Y
def A5.pan{f:FuncId}{args:Array Operand}{ts:Array TypeId}{ds:List D}{r:D}(hc:G8 P f ds r)(Y:args.toList.map (evO P s.env.get)=ds)(Z:An ds=true)(a0:r.pure=true)(N:K [] ⟨(BF,r)::s.env,s.hp,s.nx⟩):
  A5 P ops nx (⟨dst,.call {callee:=.value (.func f),args:=args,argTypes:=ts},T,ps,af,none⟩::l) pos acc s K:=by
 refine A5.panic0 ?_ N;intro w0 M0 I0 nt fr I mu a w U C K Q hQ;refine⟨by simp[Region.wanted],?_⟩;subst Y;have a1:∀i,i<(args.toList.map (evO P s.env.get)).length->Rep w I (λ_=>none) (nd (args.toList.map (evO P s.env.get)) i) (nv (args.toList.map a.eval) i):=by
  intro i hi;simp at hi;have h1:nd (args.toList.map (evO P s.env.get)) i=evO P s.env.get args[i]:=by simp[nd,A29,hi]
  have h2:nv (args.toList.map a.eval) i=a.eval args[i]:=by simp[nv,A29,hi]
  have O:Rep w I mu (evO P s.env.get args[i]) (a.eval args[i]):=Ei (U.at C.w) C.env _;have M:=CK Z i;rw[h1] at M;rw[h1,h2];exact O.unmu M
 have a2:=hc.2 w I (args.toList.map a.eval) (U.at C.w) C.w.lt (by simp) a1;have a3:(execOp a.eval ⟨dst,.call {callee:=.value (.func f),args:=args,argTypes:=ts},T,ps,af,none⟩).run P w=.ok (.enter f (args.toList.map a.eval).toArray) w:=by
  have e1:args.map a.eval=(args.toList.map a.eval).toArray:=by grind
  have e2:#[]++args.map a.eval++ #[]=(args.toList.map a.eval).toArray:=by simp_all
  exact(congrArg (λz=>(callFunc f z).run P w) e2).trans (Bj hc.1 _ w)
 refine Ci a3 ?_;refine a2.mono λe w' ⟨v,I',he,hv,h1,h2,O,M⟩=>?_;subst he;have g1:=C.w.below h1 h2 O M;have V:Ext I mu w I' mu w':=⟨h1,λ_ _ h=>h,λk N=>M.block k (C.w.lt k N)⟩
 exact hQ v w' I' ⟨C.size,C.defers.ext V,λt=>(C.env t).ext V,g1⟩ (hv.unmu a0)
end
def RetPan(r:D):AE->St->Prop
 |.panic d,_=>lo d r/\r.pure=true
 |_,_=>False
def G8.of_awp{P:Program}{nt:Nat}{f:FuncId}{fn:Func}{c:Code}{ds:List D}{r:D}(hf:P.funcs[f]? =some fn)(hb:fn.body=some c)(hn:fn.ntmps=nt)(a0:By P f=true)(a4:ds.length<=nt)
  (h:AWp P nt c (RetPan r) ⟨BB 0 ds,[],0⟩):G8 P f ds r:=by
 refine⟨a0,λw I vs M N hl a1=>?_⟩;let G:Gh:=⟨I,λ_=>none,[],Fence.wide,0,.inl rfl⟩
 refine callsIn_wide.1 (callsIn_of_wp_marks hf hb trivial (wpIn_mono (h w (λ_=>False) G (λg l hl=>⟨(M g l hl).1,N g (M g l hl).1,λh=>h,(M g l hl).2⟩) I (λ_=>none) _ w ⟨?_,C8.refl _ _ _ _,λt=>Gq ⟨hl,a1⟩ _ t,⟨λb x O=>by simp[St.fs,Ak] at O,(by simp_all),(by simp_all),λ_ _=>rfl,N,rfl,rfl,rfl,A2e _,λ_ _ _=>rfl,λ_ h=>h,λ_ h=>.inl h,(by simp_all),λb x O=>by simp[St.fs,Ak] at O⟩⟩) ?_))
 ·simp_all
 ·rintro e a' w' ⟨x,s',I',mu',V,Y,Z⟩;cases x<;>cases e<;>simp [He] at Y<;>simp [RetPan] at V;obtain⟨v,rfl,hv⟩:=Y;obtain⟨a2,a3⟩:=V;obtain⟨rs,_,d1,d2,d3⟩:=Z.defers;obtain⟨C,w2⟩:=Z.w.shut N d3;show LeavesInM _ _ _ _ _ _ a'.defers _ _;rw[d1];refine HA (by simp) rs w' d2 (by simp_all) ?_;exact⟨v,_,rfl,((w2 _ _ hv).lo a2).unmu a3,C.iold,λk U=>by rcases C.inew k U with h3|h3|h3;exact .inl h3;exact h3.elim;exact .inr h3,C.lt,⟨C.os,C.tape,C.output,C.grown,λk U=>C.old k U (λh=>h)⟩⟩
attribute [irreducible] G8
end Go.Ab
namespace Go.Ab
open Go.Proofs Go.Proofs.Tryz
variable{α:Type}{P:Program}{ops:Array Oper}{s':St}{C:Bool}
def AW{P:Program}:∀ {l:List (Nat×TI)},l.map (λp=>Au P p.1)=l.map (λp=>some p.2)->∀ {k t:Nat} {x:TI},l[k]? =some (t,x)->Au P t=some x
 |[],_,k,t,x,h=>by simp at h
 |p::l,h,0,t,x,hk=>by simp at hk;subst hk;simpa using(List.cons.inj h).1
 |p::l,h,k+1,t,x,hk=>AW (List.cons.inj h).2 (by simpa using hk)
abbrev tyP(n:Nat):TI:=⟨1,false,[(.pointer none)],8,(.ptr n)⟩
abbrev tyS(n:Nat):TI:=⟨1,false,[(.slice none 0 0)],24,(.slice n)⟩
abbrev tyN(k:IntKind)(n:Nat):TI:=⟨1,false,[(.int k 0)],n,(.int k)⟩
abbrev tyF:TI:=⟨1,false,[.nilFunc],8,.func⟩
abbrev tI4:TI:=⟨1,false,[(.bool false)],1,.bool⟩
abbrev tI9:TI:=⟨1,false,[(.string bea)],16,.str⟩
abbrev tI20:TI:=⟨1,false,[.nilIface],16,.iface⟩
abbrev tI26:TI:=⟨6,true,[(.int .u64 0),(.int .u64 0),(.int .u64 0),(.int .u64 0),(.slice none 0 0),(.slice none 0 0)],80,(.struct [(0,(1,false)),(1,(1,false)),(2,(1,false)),(3,(1,false)),(4,(1,false)),(5,(1,false))])⟩
abbrev tI43:TI:=⟨6,true,[(.int .i64 0),(.bool false),(.int .i64 0),(.string bea),(.slice none 0 0),(.slice none 0 0)],88,(.struct [(0,(1,false)),(1,(1,false)),(2,(1,false)),(3,(1,false)),(4,(1,false)),(5,(1,false))])⟩
abbrev tI46:TI:=⟨19,true,[(.int .i64 0),(.string bea),(.string bea),(.int .i64 0),(.bool false),(.int .i64 0),(.bool false),(.int .i64 0),(.string bea),(.slice none 0 0),(.slice none 0 0),(.bool false),(.int .i64 0),(.bool false),(.int .i64 0),(.string bea),(.slice none 0 0),(.slice none 0 0),(.slice none 0 0)],264,(.struct [(0,(1,false)),(1,(1,false)),(2,(1,false)),(3,(1,false)),(4,(1,false)),(5,(6,true)),(11,(1,false)),(12,(6,true)),(18,(1,false))])⟩
abbrev tI53:TI:=⟨2,true,[(.int .u64 0),(.slice none 0 0)],32,(.struct [(0,(1,false)),(1,(1,false))])⟩
abbrev tI58:TI:=⟨20,true,[(.int .u64 0),(.int .i64 0),(.string bea),(.string bea),(.int .i64 0),(.bool false),(.int .i64 0),(.bool false),(.int .i64 0),(.string bea),(.slice none 0 0),(.slice none 0 0),(.bool false),(.int .i64 0),(.bool false),(.int .i64 0),(.string bea),(.slice none 0 0),(.slice none 0 0),(.slice none 0 0)],272,(.struct [(0,(1,false)),(1,(19,true))])⟩
abbrev tI63:TI:=⟨8,true,[(.int .i64 0),(.string bea),(.int .i64 0),(.bool false),(.int .i64 0),(.string bea),(.slice none 0 0),(.slice none 0 0)],112,(.struct [(0,(1,false)),(1,(1,false)),(2,(6,true))])⟩
abbrev tI66:TI:=⟨5,true,[(.int .u64 0),(.int .u64 0),(.int .u64 0),(.int .u64 0),(.slice none 0 0)],56,(.struct [(0,(1,false)),(1,(1,false)),(2,(1,false)),(3,(1,false)),(4,(1,false))])⟩
abbrev tI71:TI:=⟨1,true,[(.pointer none)],8,(.struct [(0,(0,true)),(0,(1,false))])⟩
abbrev tI74:TI:=⟨7,true,[(.string bea),(.int .i64 0),(.bool false),(.int .i64 0),(.string bea),(.slice none 0 0),(.slice none 0 0)],104,(.struct [(0,(1,false)),(1,(6,true))])⟩
abbrev tI83:TI:=⟨6,true,[(.int .u64 0),(.int .u64 0),(.int .u64 0),(.pointer none),(.pointer none),(.pointer none)],48,(.struct [(0,(1,false)),(1,(1,false)),(2,(1,false)),(3,(1,true)),(4,(1,true)),(5,(1,false))])⟩
abbrev tI91:TI:=⟨7,true,[(.int .u64 0),(.int .u64 0),(.int .u64 0),(.int .u64 0),(.int .u64 0),(.pointer none),(.slice none 0 0)],72,(.struct [(0,(1,false)),(1,(1,false)),(2,(1,false)),(3,(1,false)),(4,(1,false)),(5,(1,false)),(6,(1,false))])⟩
abbrev tI93:TI:=⟨1,true,[(.slice none 0 0)],24,(.struct [(0,(1,false))])⟩
abbrev tI96:TI:=⟨2,true,[(.int .u64 0),(.slice none 0 0)],32,(.struct [(0,(1,false)),(1,(1,false))])⟩
abbrev tI107:TI:=⟨23,true,[(.int .i64 0),(.int .u64 0),(.slice none 0 0),(.int .u64 0),(.int .i64 0),(.string bea),(.string bea),(.int .i64 0),(.bool false),(.int .i64 0),(.bool false),(.int .i64 0),(.string bea),(.slice none 0 0),(.slice none 0 0),(.bool false),(.int .i64 0),(.bool false),(.int .i64 0),(.string bea),(.slice none 0 0),(.slice none 0 0),(.slice none 0 0)],312,(.struct [(0,(1,false)),(1,(2,true)),(3,(20,true))])⟩
def tiL0:List (Nat×TI):=[(1,tyF),(2,tyN .i64 8),(3,tyN .i64 8),(4,tI4),(5,tyN .u8 1),(9,tI9),(20,tI20),(22,tyN .u64 8),(23,tyS 74),(24,tyS 58),(26,tI26),(27,tyF),(28,tyP 83),(29,tyN .i64 8),(38,tyN .i64 8),(39,tyN .i64 8),(40,tyS 43),(41,tyS 165),(43,tI43),(44,tyS 46),(46,tI46),(49,tyS 5),(53,tI53),(58,tI58),(60,tyN .i64 8),(63,tI63),(64,tyS 63),(66,tI66),(69,tyP 282),(71,tI71),(74,tI74),(77,tyP 96),(83,tI83),(89,tyP 93),(91,tI91),(93,tI93),(96,tI96),(105,tyP 107),(107,tI107),(108,tyF)]
def Be:tiL0.map (λp=>Au prog p.1)=tiL0.map (λp=>some p.2):=by kernel_rfl
def ti1:Au prog 1=some tyF:=AW Be (k:=0) rfl
def ti2:Au prog 2=some (tyN .i64 8):=AW Be (k:=1) rfl
def ti3:Au prog 3=some (tyN .i64 8):=AW Be (k:=2) rfl
def ti4:Au prog 4=some tI4:=AW Be (k:=3) rfl
def ti5:Au prog 5=some (tyN .u8 1):=AW Be (k:=4) rfl
def ti9:Au prog 9=some tI9:=AW Be (k:=5) rfl
def ti20:Au prog 20=some tI20:=AW Be (k:=6) rfl
def ti22:Au prog 22=some (tyN .u64 8):=AW Be (k:=7) rfl
def ti23:Au prog 23=some (tyS 74):=AW Be (k:=8) rfl
def ti24:Au prog 24=some (tyS 58):=AW Be (k:=9) rfl
def ti26:Au prog 26=some tI26:=AW Be (k:=10) rfl
def ti27:Au prog 27=some tyF:=AW Be (k:=11) rfl
def ti28:Au prog 28=some (tyP 83):=AW Be (k:=12) rfl
def ti29:Au prog 29=some (tyN .i64 8):=AW Be (k:=13) rfl
def ti38:Au prog 38=some (tyN .i64 8):=AW Be (k:=14) rfl
def ti39:Au prog 39=some (tyN .i64 8):=AW Be (k:=15) rfl
def ti40:Au prog 40=some (tyS 43):=AW Be (k:=16) rfl
def ti41:Au prog 41=some (tyS 165):=AW Be (k:=17) rfl
def ti43:Au prog 43=some tI43:=AW Be (k:=18) rfl
def ti44:Au prog 44=some (tyS 46):=AW Be (k:=19) rfl
def ti46:Au prog 46=some tI46:=AW Be (k:=20) rfl
def ti49:Au prog 49=some (tyS 5):=AW Be (k:=21) rfl
def ti53:Au prog 53=some tI53:=AW Be (k:=22) rfl
def ti58:Au prog 58=some tI58:=AW Be (k:=23) rfl
def ti60:Au prog 60=some (tyN .i64 8):=AW Be (k:=24) rfl
def ti63:Au prog 63=some tI63:=AW Be (k:=25) rfl
def ti64:Au prog 64=some (tyS 63):=AW Be (k:=26) rfl
def ti66:Au prog 66=some tI66:=AW Be (k:=27) rfl
def ti69:Au prog 69=some (tyP 282):=AW Be (k:=28) rfl
def ti71:Au prog 71=some tI71:=AW Be (k:=29) rfl
def ti74:Au prog 74=some tI74:=AW Be (k:=30) rfl
def ti77:Au prog 77=some (tyP 96):=AW Be (k:=31) rfl
def ti83:Au prog 83=some tI83:=AW Be (k:=32) rfl
def ti89:Au prog 89=some (tyP 93):=AW Be (k:=33) rfl
def ti91:Au prog 91=some tI91:=AW Be (k:=34) rfl
def ti93:Au prog 93=some tI93:=AW Be (k:=35) rfl
def ti96:Au prog 96=some tI96:=AW Be (k:=36) rfl
def ti105:Au prog 105=some (tyP 107):=AW Be (k:=37) rfl
def ti107:Au prog 107=some tI107:=AW Be (k:=38) rfl
def ti108:Au prog 108=some tyF:=AW Be (k:=39) rfl
abbrev tI141:TI:=⟨2,true,[(.string bea),.nilFunc],24,(.struct [(0,(1,false)),(1,(1,false))])⟩
abbrev tI152:TI:=⟨2,true,[(.int .i64 0),.nilFunc],16,(.struct [(0,(1,false)),(1,(1,false))])⟩
abbrev tI165:TI:=⟨7,true,[(.string bea),(.int .i64 0),(.bool false),(.int .i64 0),(.string bea),(.slice none 0 0),(.slice none 0 0)],104,(.struct [(0,(1,false)),(1,(6,true))])⟩
abbrev tI170:TI:=⟨1,true,[(.int .i64 0)],8,(.struct [(0,(1,false))])⟩
abbrev tI172:TI:=⟨1,false,[(.map none)],8,(.map 9 182)⟩
abbrev tI175:TI:=⟨3,true,[(.pointer none),(.map none),(.slice none 0 0)],40,(.struct [(0,(1,true)),(1,(1,false)),(2,(1,false))])⟩
abbrev tI182:TI:=⟨7,true,[(.bool false),(.int .i64 0),(.bool false),(.int .i64 0),(.string bea),(.slice none 0 0),(.slice none 0 0)],96,(.struct [(0,(1,false)),(1,(6,true))])⟩
abbrev tI191:TI:=⟨2,true,[(.pointer none),(.slice none 0 0)],32,(.struct [(0,(1,false)),(1,(1,false))])⟩
abbrev tI193:TI:=⟨4,true,[(.bool false),(.pointer none),(.slice none 0 0),(.int .i64 0)],48,(.struct [(0,(1,false)),(1,(2,true)),(3,(1,false))])⟩
abbrev tI201:TI:=⟨2,true,[(.int .u8 0),(.slice none 0 0)],32,(.struct [(0,(1,false)),(1,(1,false))])⟩
abbrev tI251:TI:=⟨1,false,[(.map none)],8,(.map 9 322)⟩
abbrev tI273:TI:=⟨1,false,[(.map none)],8,(.map 5 272)⟩
abbrev tI275:TI:=⟨3,true,[(.string bea),(.int .i64 0),(.map none)],32,(.struct [(0,(1,false)),(1,(1,false)),(2,(1,false))])⟩
abbrev tI282:TI:=⟨7,true,[(.slice none 0 0),(.slice none 0 0),(.int .i64 0),(.int .i64 0),(.string bea),(.string bea),(.bool false)],104,(.struct [(0,(1,false)),(1,(1,false)),(2,(1,false)),(3,(1,false)),(4,(1,false)),(5,(1,false)),(6,(1,false))])⟩
abbrev tI313:TI:=⟨8,true,[(.string bea),(.string bea),(.string bea),(.string bea),(.string bea),(.string bea),(.string bea),(.string bea)],128,(.arr 8 9)⟩
abbrev tI322:TI:=⟨4,true,[(.int .i64 0),(.slice none 0 0),.nilFunc,.nilFunc],48,(.struct [(0,(1,false)),(1,(1,false)),(2,(1,false)),(3,(1,false))])⟩
abbrev tI324:TI:=⟨7,true,[(.string bea),(.int .i64 0),(.bool false),(.int .i64 0),(.string bea),(.slice none 0 0),(.slice none 0 0)],104,(.struct [(0,(1,false)),(1,(6,true))])⟩
abbrev tI329:TI:=⟨2,true,[(.string bea),(.int .i64 0)],24,(.struct [(0,(1,false)),(1,(1,false))])⟩
abbrev tI336:TI:=⟨1,false,[(.pointer none)],8,.other⟩
def tiL1:List (Nat×TI):=[(126,tyS 3),(131,tyP 175),(141,tI141),(149,tyS 152),(152,tI152),(157,tyS 69),(165,tI165),(170,tI170),(172,tI172),(173,tyS 1),(175,tI175),(176,tyS 9),(182,tI182),(189,tyP 191),(191,tI191),(193,tI193),(196,tyP 193),(198,tyN .u8 1),(199,tyS 5),(201,tI201),(202,tyF),(204,tyS 202),(212,tyS 141),(251,tI251),(255,tyF),(265,tyN .u32 4),(272,tyF),(273,tI273),(275,tI275),(282,tI282),(305,tyN .u64 8),(313,tI313),(316,tyS 324),(318,tyS 329),(319,tyF),(322,tI322),(324,tI324),(327,tyN .i64 8),(329,tI329),(336,tI336)]
def Bd:tiL1.map (λp=>Au prog p.1)=tiL1.map (λp=>some p.2):=by kernel_rfl
def ti126:Au prog 126=some (tyS 3):=AW Bd (k:=0) rfl
def ti131:Au prog 131=some (tyP 175):=AW Bd (k:=1) rfl
def ti141:Au prog 141=some tI141:=AW Bd (k:=2) rfl
def ti149:Au prog 149=some (tyS 152):=AW Bd (k:=3) rfl
def ti152:Au prog 152=some tI152:=AW Bd (k:=4) rfl
def ti157:Au prog 157=some (tyS 69):=AW Bd (k:=5) rfl
def ti165:Au prog 165=some tI165:=AW Bd (k:=6) rfl
def ti170:Au prog 170=some tI170:=AW Bd (k:=7) rfl
def ti172:Au prog 172=some tI172:=AW Bd (k:=8) rfl
def ti173:Au prog 173=some (tyS 1):=AW Bd (k:=9) rfl
def ti175:Au prog 175=some tI175:=AW Bd (k:=10) rfl
def ti176:Au prog 176=some (tyS 9):=AW Bd (k:=11) rfl
def ti182:Au prog 182=some tI182:=AW Bd (k:=12) rfl
def ti189:Au prog 189=some (tyP 191):=AW Bd (k:=13) rfl
def ti191:Au prog 191=some tI191:=AW Bd (k:=14) rfl
def ti193:Au prog 193=some tI193:=AW Bd (k:=15) rfl
def ti196:Au prog 196=some (tyP 193):=AW Bd (k:=16) rfl
def ti198:Au prog 198=some (tyN .u8 1):=AW Bd (k:=17) rfl
def ti199:Au prog 199=some (tyS 5):=AW Bd (k:=18) rfl
def ti201:Au prog 201=some tI201:=AW Bd (k:=19) rfl
def ti202:Au prog 202=some tyF:=AW Bd (k:=20) rfl
def ti204:Au prog 204=some (tyS 202):=AW Bd (k:=21) rfl
def ti212:Au prog 212=some (tyS 141):=AW Bd (k:=22) rfl
def ti251:Au prog 251=some tI251:=AW Bd (k:=23) rfl
def ti255:Au prog 255=some tyF:=AW Bd (k:=24) rfl
def ti265:Au prog 265=some (tyN .u32 4):=AW Bd (k:=25) rfl
def ti272:Au prog 272=some tyF:=AW Bd (k:=26) rfl
def ti273:Au prog 273=some tI273:=AW Bd (k:=27) rfl
def ti275:Au prog 275=some tI275:=AW Bd (k:=28) rfl
def ti282:Au prog 282=some tI282:=AW Bd (k:=29) rfl
def ti305:Au prog 305=some (tyN .u64 8):=AW Bd (k:=30) rfl
def ti313:Au prog 313=some tI313:=AW Bd (k:=31) rfl
def ti316:Au prog 316=some (tyS 324):=AW Bd (k:=32) rfl
def ti318:Au prog 318=some (tyS 329):=AW Bd (k:=33) rfl
def ti319:Au prog 319=some tyF:=AW Bd (k:=34) rfl
def ti322:Au prog 322=some tI322:=AW Bd (k:=35) rfl
def ti324:Au prog 324=some tI324:=AW Bd (k:=36) rfl
def ti327:Au prog 327=some (tyN .i64 8):=AW Bd (k:=37) rfl
def ti329:Au prog 329=some tI329:=AW Bd (k:=38) rfl
def ti336:Au prog 336=some tI336:=AW Bd (k:=39) rfl
abbrev tI339:TI:=⟨3,true,[(.pointer none),(.pointer none),(.int .u64 0)],24,(.struct [(0,(1,false)),(1,(1,false)),(2,(1,false))])⟩
abbrev tI345:TI:=⟨2,true,[.nilFunc,.nilFunc],16,(.struct [(0,(1,false)),(1,(1,false))])⟩
abbrev tI347:TI:=⟨1,false,[.nilIface],16,.iface⟩
abbrev tI369:TI:=⟨2,true,[(.pointer none),(.slice none 0 0)],32,(.struct [(0,(1,false)),(1,(1,false))])⟩
abbrev tI416:TI:=⟨16,true,[(.int .u32 0),(.int .u32 0),(.int .u32 0),(.int .u32 0),(.int .u32 0),(.int .u32 0),(.int .u32 0),(.int .u32 0),(.int .u32 0),(.int .u32 0),(.int .u32 0),(.int .u32 0),(.int .u32 0),(.int .u32 0),(.int .u32 0),(.int .u32 0)],64,(.arr 16 265)⟩
abbrev tI423:TI:=⟨1,false,[(.map none)],8,(.map 9 453)⟩
abbrev tI453:TI:=⟨0,true,[],0,(.struct [])⟩
abbrev tI461:TI:=⟨3,true,[(.string bea),(.string bea),(.bool false)],40,(.struct [(0,(1,false)),(1,(1,false)),(2,(1,false))])⟩
def tiL2:List (Nat×TI):=[(339,tI339),(341,tyF),(345,tI345),(347,tI347),(367,tyS 89),(369,tI369),(416,tI416),(423,tI423),(453,tI453),(461,tI461)]
def Gr:tiL2.map (λp=>Au prog p.1)=tiL2.map (λp=>some p.2):=by kernel_rfl
def ti339:Au prog 339=some tI339:=AW Gr (k:=0) rfl
def ti341:Au prog 341=some tyF:=AW Gr (k:=1) rfl
def ti345:Au prog 345=some tI345:=AW Gr (k:=2) rfl
def ti347:Au prog 347=some tI347:=AW Gr (k:=3) rfl
def ti367:Au prog 367=some (tyS 89):=AW Gr (k:=4) rfl
def ti369:Au prog 369=some tI369:=AW Gr (k:=5) rfl
def ti416:Au prog 416=some tI416:=AW Gr (k:=6) rfl
def ti423:Au prog 423=some tI423:=AW Gr (k:=7) rfl
def ti453:Au prog 453=some tI453:=AW Gr (k:=8) rfl
def ti461:Au prog 461=some tI461:=AW Gr (k:=9) rfl
attribute [push_cast] ti1 ti2 ti3 ti4 tI4 ti5 ti9 tI9 ti20 tI20 ti22 ti23 ti24 ti26 tI26 ti27 ti28 ti29 ti38 ti39 ti40 ti41 ti43 tI43 ti44 ti46 tI46 ti49 ti53 tI53 ti58 tI58 ti60 ti63 tI63 ti64 ti66 tI66 ti69 ti71 tI71 ti74 tI74 ti77 ti83 tI83 ti89 ti91 tI91 ti93 tI93 ti96 tI96 ti105 ti107 tI107 ti108 ti126 ti131 ti141 tI141 ti149 ti152 tI152 ti157 ti165 tI165 ti170 tI170 ti172 tI172 ti173 ti175 tI175 ti176 ti182 tI182 ti189 ti191 tI191 ti193 tI193 ti196 ti198 ti199 ti201 tI201 ti202 ti204 ti212 ti251 tI251 ti255 ti265 ti272 ti273 tI273 ti275 tI275 ti282 tI282 ti305 ti313 tI313 ti316 ti318 ti319 ti322 tI322 ti324 tI324 ti327 ti329 tI329 ti336 tI336 ti339 tI339 ti341 ti345 tI345 ti347 tI347 ti367 ti369 tI369 ti416 tI416 ti423 tI423 ti453 tI453 ti461 tI461
attribute [push_cast] tyP tyS tyN tyF
def mixed:prog.follows .mixedOrders=true:=by kernel_rfl
attribute [push_cast] GoS_nil GoS_none GoS_some A18 A19 A16 A17 XC Vk gD Xa pickL Yy Zh tq Kp arrQ arrE pv pvc Yl boxE Tw Qq NF LF Kl Kx nilE binX YO YP nilMD Xr mapE YV WA delE Sq T8 zD UY Gk keq Ez PO binE nilD Mn LN unE Ze PP HI HE SV LR NS bnd Lt YT lenE minE maxE LG NI NH LH Z9 Ti capE Se US MW FQ HL evO TR XL Vz Ak upd del F0 St.app gOf KK frz KD LX Yn D.pure An Aa BB seqQ KT Value.oneCell'
def lo_self(d:D):lo d d=True:=eq_true (Av d)
def Lk(d:List D):loL d d=True:=eq_true (B0 d)
def A0S(d:LLa):EM d d=True:=eq_true (Bp d)
def loB_self(x:Blk):loB x x=True:=eq_true (Ag x)
def Fa(es es':LLa)(t C:Bool):lo (.slice es t) (.slice es' C)=(EM es es'/\(C=true->t=true)):=by simp[lo]
def Mi(cs C:List D):lo (.agg cs) (.agg C)=loL cs C:=by simp only[lo]
def lo_tup(cs C:List D):lo (.tup cs) (.tup C)=loL cs C:=by simp only[lo]
def lo_ptr(cs C:List D)(o M:Nat):lo (.ptr cs o) (.ptr C M)=(o=M/\loL cs C):=by simp[lo]
def lo_func(f C:Fn)(fs cs M N:List D):lo (.func f fs cs) (.func C M N)=(f=C/\loL fs M/\loL cs N):=by simp[lo]
def lo_any(d:D):lo d .any=True:=by cases d<;>simp [lo]
def lo_val(v C:Value):lo (.val v) (.val C)=(v=C):=by simp[lo]
attribute [push_cast] lo_func Fa Mi lo_tup lo_ptr lo_any lo_val Value.int.injEq Value.bool.injEq Value.string.injEq or_true true_or
def loB_rows(es es':LLa)(sz C:Nat):loB (.rows es sz) (.rows es' C)=(EM es es'/\sz=C):=rfl
def loB_grow(es es':LLa)(sz C:Nat):loB (.grow es sz) (.grow es' C)=(EM es es'/\sz=C):=rfl
def loB_map(es es':List (Value×Nat×D))(c C:Nat):loB (.map es c) (.map es' C)=(Blk.map es c=.map es' C):=rfl
def loB_iter(m a:Nat)(b:List Nat)(c C M:Nat)(N:List Nat)(O:Nat):loB (.iter m a b c) (.iter C M N O)=(Blk.iter m a b c=.iter C M N O):=rfl
def loB_obj(o C:Obj):loB (.obj o) (.obj C)=(Blk.obj o=.obj C):=rfl
def loB_pr(g C:Nat)(p M:Value->Value->Option Obj->Prop):loB (.pr g p) (.pr C M)=(Blk.pr g p=.pr C M):=rfl
attribute [push_cast] loB_pr loB_rows loB_grow loB_map loB_iter loB_obj loB_self loL EM lo_self Lk A0S
def nd_zero(d:D)(r:List D):nd (d::r) 0=d:=rfl
def nd_succ(d:D)(r:List D)(i:Nat):nd (d::r) (i+1)=nd r i:=rfl
def nr_zero(d:List D)(r:LLa):nr (d::r) 0=d:=rfl
def nr_succ(d:List D)(r:LLa)(i:Nat):nr (d::r) (i+1)=nr r i:=rfl
def ofV_int(k:IntKind)(n:Int):ofV (.int k n)=bif decide (DJ k<=n)&&decide (n<=DK k) then .val (.int k n) else .any:=rfl
def ofV_bool(b:Bool):ofV (.bool b)=.val (.bool b):=rfl
def Xo(a:Array UInt8):ofV (.string ⟨a⟩)=bif decide (a.size<=9223372036854775807) then .val (.string ⟨a⟩) else .any:=rfl
attribute [push_cast] DJ DK
def A0K:ofV (.string bea)=.val (.string bea):=rfl
def oneD_int(k:IntKind)(n:Int):AV (.val (.int k n))=true:=rfl
def A0J(b:Bool):AV (.val (.bool b))=true:=rfl
def UX(b:Baa):AV (.val (.string b))=true:=rfl
def SC(p:Option Addr):AV (.val (.pointer p))=true:=rfl
def oneD_map(p:Option Nat):AV (.val (.map p))=true:=rfl
def SD:AV (.val .nilFunc)=true:=rfl
def Qw:AV (.val .nilIface)=true:=rfl
def Xm(es:LLa)(t:Bool):AV (.slice es t)=true:=rfl
def oneD_ptr(cs:List D)(o:Nat):AV (.ptr cs o)=true:=rfl
def oneD_ref(b i o s:Nat):AV (.ref b i o s)=true:=rfl
def A0E(b i l c s:Nat):AV (.sref b i l c s)=true:=rfl
def A0H(b l:Nat):AV (.gref b l)=true:=rfl
def A0F(b:Nat):AV (.mref b)=true:=rfl
def A0I(f:Fn)(fs cs:List D):AV (.func f fs cs)=true:=rfl
def Xn(t:TypeId)(d:D):AV (.iface t d)=true:=rfl
def oneD_gel(b i o s:Nat):AV (.gel b i o s)=true:=rfl
def A0G(b i o s:Nat):AV (.gsub b i o s)=true:=rfl
def oneD_agg(cs:List D):AV (.agg cs)=false:=rfl
def oneD_tup(cs:List D):AV (.tup cs)=false:=rfl
def oneD_any:AV .any=false:=rfl
attribute [push_cast] A0K oneD_gel A0G oneD_int A0J UX SC oneD_map SD Qw Xm oneD_ptr oneD_ref A0E A0H A0F A0I Xn oneD_agg oneD_tup oneD_any
def SE:ofV (.slice none 0 0)=.slice [] true:=rfl
def UZ(p:Option Addr):ofV (.pointer p)=.val (.pointer p):=rfl
def ofV_map(p:Option Nat):ofV (.map p)=.val (.map p):=rfl
def V0:ofV .nilFunc=.val .nilFunc:=rfl
def SF:ofV .nilIface=.val .nilIface:=rfl
def A0a(M C:List α):AI M 0 C=C++M.drop C.length:=by simp[AI]
def A0b(x:α)(C M:List α)(n:Nat):AI (x::C) (n+1) M=x::AI C n M:=by
 simp[AI,Nat.add_right_comm]
attribute [push_cast] nd_zero nd_succ nr_zero nr_succ ofV_int ofV_bool Xo SE UZ ofV_map V0 SF A0a A0b
attribute [push_cast] cond_true cond_false A2m A2E A2l A2r A2Z A3B List.getElem?_nil A3W List.drop_succ_cons List.drop_nil A3V A3i List.take_nil A2d A2h A2y List.set_cons_zero List.set_cons_succ A3R List.replicate_zero List.all_cons List.all_nil A3M Bool.true_and A2L A2i and_true true_and and_self ite_true ite_false if_true if_false eq_self A33 A3q A2Q A3k A3g Option.map_none Option.bind_some Option.bind_none A2j A2G A37 A2A Option.isNone_none Option.isNone_some Bool.not_true Bool.not_false List.mapM_cons List.mapM_nil Option.pure_def Option.bind_eq_bind decide_true decide_false exists_eq_left exists_eq_left' not_true_eq_false not_false_eq_true forall_const
attribute [push_cast] List.any_cons List.any_nil ne_eq id_eq Bool.or_true A43 Bool.true_or A42 Bool.and_false Bool.false_and beq_self_eq_true bne_self_eq_false Int.toNat_natCast A3T Nat.add_zero Nat.sub_zero iff_self
def J7{α:Type}(x:α):α:=x
def tick_eq(x:α):J7 x=x:=congrArg (λy=>y) rfl
attribute [push_cast] tick_eq
@[congr] def GoS_congr{nx:Nat}{l:List Oper}{pos:Nat}{acc:List Eff}{s:St}{K:List Eff->St->Prop}(h:J7 s=s'):GoS P ops nx l pos acc s K=GoS P ops nx l pos acc s' K:=by rw[<-h];rfl
@[congr] def RunXS_congr{nx:Nat}{l:List Oper}{pos:Nat}{acc:List Eff}{s:St}{K:List Eff->St->Prop}(h:J7 s=s'):A5 P ops nx l pos acc s K=A5 P ops nx l pos acc s' K
:=by rw[<-h];rfl
@[congr] def goOn_congr{r C:Option (Eff×Prop)}{go:Eff->Prop}{stuck:Prop}(h:J7 r=C):T3 r go stuck=T3 C go stuck:=by rw[<-h];rfl
@[congr] def gpick_congr{b:Bool}{go skip:St->Prop}{s:St}(h:J7 b=C):Kn b go skip s=Kn C go skip s:=by rw[<-h];rfl
@[congr] def gwork_congr{x C:Option (Nat×D)}{M:Bool}{s:St}{go skip:St->Prop}{stuck:Prop}(h:J7 x=C):Lp x M s go skip stuck=Lp C M s go skip stuck:=by rw[<-h];rfl
@[congr] def dpick_congr{b:Bool}{d:D}{r:Env}{t:Nat}(h:J7 b=C):PZ b d r t=PZ C d r t:=by rw[<-h];rfl
@[congr] def gsplit_congr{g:Option (Nat×Bool)}{s:St}{go skip:St->Prop}{stuck:Prop}(h:J7 s=s'):Gw ops g s go skip stuck=Gw ops g s' go skip stuck:=by rw[<-h];rfl
@[congr] def bsplit_congr{b:Bool}{x y:Prop}(h:J7 b=C):Fj b x y=Fj C x y:=by rw[<-h];rfl
def Wl(x y:Prop):Fj true x y=x:=by simp[Fj]
def Tx(x y:Prop):Fj false x y=y:=by simp[Fj]
def Ad{b:Bool}{x y:Prop}(h:b=true->x)(k:b=false->y):Fj b x y:=⟨h,k⟩
attribute [push_cast] Wl Tx
@[congr] def AWp_congr{nt:Nat}{c:Code}{Q:AE->St->Prop}{s:St}(h:J7 s=s'):AWp P nt c Q s=AWp P nt c Q s':=by rw[<-h];rfl
end Go.Ab
namespace Go.Ab
open Go.RowKit
variable{E:List Eff}{P:Program}{nt:Nat}{c:Code}{Q:AE->St->Prop}{y:Prop}
def MI(d:D)(x y:Prop):Prop:=
 match d with
 |.val (.bool b)=>Fj b x y
 |.abool n pos=>((pos=true->n=0)->x)/\((pos=false->n=0)->y)
 |_=>False
def A01(ops:Array Oper)(E:List Eff):Prop:=El ops (GH E)=true
@[congr] def ordB_congr{ops:Array Oper}{u:Unit}(h:J7 ()=u):A01 ops E=A01 ops E:=rfl
def Ul(R:(AE->St->Prop)->St->Prop)(Q:AE->St->Prop):AE->St->Prop
 |.normal,s=>R Q s
 |e,s=>Q e s
def VC(P:Program)(nt:Nat)(fz:List Nat):Code->(AE->St->Prop)->St->Prop
 |.skip,Q,s=>Q .normal s
 |.ret,Q,s=>Q .ret s
 |.exit id,Q,s=>Q (.exit id) s
 |.label _,Q,s=>Q .normal s
 |.seq a b,Q,s=>VC P nt fz a (Ul (VC P nt fz b) Q) s
 |.block id c,Q,s=>VC P nt fz c (KT id Q) s
 |.cond c a b,Q,s=>MI (evO P s.env.get c) (VC P nt fz a Q s) (VC P nt fz b Q s)
 |.region _ ops draw,Q,s=>Go P ops s.nx ops.toList 0 [] s (λE s'=>cond draw (A01 ops E/\Q .normal (fzL fz ⟨s'.env,s'.hp,s.nx+4*ops.size⟩)) (Nk ops.toList E (Q .normal (fzL fz ⟨s'.env,s'.hp,s.nx+4*ops.size⟩)) (UT Q (s.nx+4*ops.size) s')))
 |.loop c,Q,s=>AWp P nt (.loop c) Q s
 |.scope c,Q,s=>AWp P nt (.scope c) Q s
 |.rangeFunc f ps a b,Q,s=>AWp P nt (.rangeFunc f ps a b) Q s
 |.goto l,Q,s=>AWp P nt (.goto l) Q s
 |.refuse w,Q,s=>AWp P nt (.refuse w) Q s
noncomputable section
def VCS:Program->Nat->List Nat->Code->(AE->St->Prop)->St->Prop:=Sf VC
def Fl:VCS=VC:=LS VC
section
variable(P:Program)(nt:Nat)(fz:List Nat)(Q:AE->St->Prop)(s:St)
def VCS_skip:VCS P nt fz .skip Q s=Q .normal s:=by rw[Fl];rfl
def VCS_ret:VCS P nt fz .ret Q s=Q .ret s:=by rw[Fl];rfl
def VCS_exit(id:Nat):VCS P nt fz (.exit id) Q s=Q (.exit id) s:=by rw[Fl];rfl
def A27(l:Nat):VCS P nt fz (.label l) Q s=Q .normal s:=by rw[Fl];rfl
def VCS_seq(a b:Code):VCS P nt fz (.seq a b) Q s=VCS P nt fz a (Ul (VCS P nt fz b) Q) s:=by rw[Fl];rfl
def A28(id:Nat)(c:Code):VCS P nt fz (.block id c) Q s=VCS P nt fz c (KT id Q) s:=by rw[Fl];rfl
def VCS_cond(c:Operand)(a b:Code):VCS P nt fz (.cond c a b) Q s=MI (evO P s.env.get c) (VCS P nt fz a Q s) (VCS P nt fz b Q s):=by rw[Fl];rfl
def TH(id:Nat)(l:List Oper):VCS P nt fz (.region id l.toArray true) Q s=GoS P l.toArray s.nx l 0 [] s (λE s'=>A01 l.toArray E/\Q .normal (fzL fz ⟨s'.env,s'.hp,s.nx+4*l.length⟩)):=by rw[Fl,Cu];rfl
def TJ(id:Nat)(l:List Oper):VCS P nt fz (.region id l.toArray false) Q s=GoS P l.toArray s.nx l 0 [] s (λE s'=>Nk l E (Q .normal (fzL fz ⟨s'.env,s'.hp,s.nx+4*l.length⟩)) (UT Q (s.nx+4*l.length) s')):=by rw[Fl,Cu];rfl
def VCS_loop(c:Code):VCS P nt fz (.loop c) Q s=AWp P nt (.loop c) Q s:=by rw[Fl];rfl
def A26(c:Code):VCS P nt fz (.scope c) Q s=AWp P nt (.scope c) Q s:=by rw[Fl];rfl
end
def Uk(R:(AE->St->Prop)->St->Prop)(Q:AE->St->Prop)(s:St):Ul R Q .normal s=R Q s:=rfl
def A0d(R:(AE->St->Prop)->St->Prop)(Q:AE->St->Prop)(s:St)(i:Nat):Ul R Q (.exit i) s=Q (.exit i) s:=rfl
def A0c(R:(AE->St->Prop)->St->Prop)(Q:AE->St->Prop)(s:St)(i:Nat):Ul R Q (.goto i) s=Q (.goto i) s:=rfl
def seqW_ret(R:(AE->St->Prop)->St->Prop)(Q:AE->St->Prop)(s:St):Ul R Q .ret s=Q .ret s:=rfl
def WT(R:(AE->St->Prop)->St->Prop)(Q:AE->St->Prop)(s:St)(d:D):Ul R Q (.panic d) s=Q (.panic d) s:=rfl
@[congr] def VCS_congr{fz:List Nat}{s s':St}(h:J7 s=s'):VCS P nt fz c Q s=VCS P nt fz c Q s':=by rw[<-h];rfl
end
@[congr] def regK_congr{l:List Oper}{x:Prop}{u:Unit}(h:J7 ()=u):Nk l E x y=Nk l E x y:=rfl
def regK_rev(l:List Oper)(e:Eff)(E:List Eff)(x y:Prop):Nk l (List.reverse (e::E)) x y=x:=by
 unfold Nk;simp_all
def regK_nil(o:Oper)(l:List Oper)(x y:Prop):Nk (o::l) [] x y=y:=congrArg (λx=>x) rfl
def panQ_eq(Q:AE->St->Prop)(nx:Nat)(s:St):UT Q nx s=Q (.panic (s.env.get BF)) ⟨(BF,.any)::s.env,s.hp,nx⟩:=congrArg (λx=>x) rfl
@[congr] def panQ_congr{nx:Nat}{s s':St}(h:J7 s=s'):UT Q nx s=UT Q nx s':=by rw[<-h];rfl
attribute [push_cast] regK_rev regK_nil panQ_eq
@[congr] def CondVC_congr{d C:D}{x:Prop}(h:J7 d=C):MI d x y=MI C x y:=by rw[<-h];rfl
theorem AWp.same{s:St}(h:AWp P nt c (λe s=>∃s',s'.fs=s.fs/\s'.nx=s.nx/\Q e s') s):AWp P nt c Q s:=λw0 M0 I0 g I mu a w r b k cs C hb M=>by
 obtain⟨e,N,w',⟨x,s',I',mu',⟨O,h1,h2,U⟩,V,Z⟩,Y⟩:=h w0 M0 I0 g I mu a w r b k cs C hb M;exact⟨e,N,w',⟨x,O,I',mu',U,V,by simp_all⟩,Y⟩
def QW(Q:AE->St->Prop):AE->St->Prop
 |.normal,s=>∃s',Aq s s'/\Q .normal s'
 |e,s=>Q e s
def AWp.postW{s:St}(h:AWp P nt c (QW Q) s):AWp P nt c Q s:=λw0 M0 I0 g I mu a w r b k cs U hb V=>by
 obtain⟨e,C,w',⟨x,s',I',mu',M,Y,N⟩,O⟩:=h w0 M0 I0 g I mu a w r b k cs U hb V;cases x with
 |normal=>
  obtain⟨Z,h1,h2⟩:=M;obtain⟨a0,a1,a2⟩:=h1 w0 M0 I0 nt I' mu' C w' N;exact⟨e,C,w',⟨.normal,Z,a0,a1,h2,by cases e<;>simp_all [He],a2⟩,O⟩
 |_=>exact ⟨e,C,w',⟨_,s',I',mu',M,Y,N⟩,O⟩
def Run.mono{P:Program}{ops:Array Oper}{nx:Nat}{K M:List Eff->St->Prop}(C:∀E s,K E s->M E s):∀ {l:List Oper} {pos:Nat} {acc:List Eff} {s:St},Run P ops nx l pos acc s K->Run P ops nx l pos acc s M
 |[],_,_,_,h=>C _ _ h
 |_::_,_,_,_,.inl ⟨e,h1,h2⟩=>.inl ⟨e,h1,Run.mono C h2⟩
 |_::_,_,_,_,.inr (.inl ⟨F,he,h1,h2⟩)=>.inr (.inl ⟨F,he,h1,λe hF=>Run.mono C (h2 e hF)⟩)
 |_::_,_,_,_,.inr (.inr ⟨d,h1,h2⟩)=>.inr (.inr ⟨d,h1,C _ _ h2⟩)
def QQ{l:List Oper}{x C M:Prop}(h:Nk l E x y)(N:x->C)(O:y->M):Nk l E C M:=by
 cases E with
 |nil=>cases l with
  |nil=>exact N h
  |cons o l=>exact O h
 |cons e E=>cases l<;>exact N h
def Dh(nt:Nat):Code->Bool
 |.seq a b=>Dh nt a&&Dh nt b
 |.block _ c=>Dh nt c
 |.cond _ a b=>Dh nt a&&Dh nt b
 |.region _ ops _=>Lc nt ops.toList
 |_=>true
def VC.sound0{P:Program}{nt:Nat}{fz:List Nat}(hm:P.follows .mixedOrders=true):∀ {c:Code} {Q:AE->St->Prop} {s:St},Dh nt c=true->VC P nt fz c Q s->AWp P nt c Q s
 |.skip,_,_,_,h=>AWp.skip h
 |.ret,_,_,_,h=>AWp.ret h
 |.exit _,_,_,_,h=>AWp.exit h
 |.label _,_,_,_,h=>AWp.label h
 |.seq a b,Q,s,hc,h=>by
  simp[Dh,A2i] at hc;exact AWp.seq (AWp.mono (VC.sound0 hm hc.1 h) λe s M=>by
   cases e with
   |normal=>exact VC.sound0 hm hc.2 M
   |_=>exact M)
 |.block _ c,_,_,hc,h=>AWp.block (VC.sound0 hm hc h)
 |.cond c a b,Q,s,hc,h=>by
  simp[Dh,A2i] at hc;simp[VC] at h;unfold MI at h;split at h
  ·rename_i x C;exact AWp.cond C (λhb=>VC.sound0 hm hc.1 (h.1 hb)) (λhb=>VC.sound0 hm hc.2 (h.2 hb))
  ·rename_i C;exact AWp.condA C (λhn=>VC.sound0 hm hc.1 (h.1 hn)) (λhn=>VC.sound0 hm hc.2 (h.2 hn))
  ·exact h.elim
 |.region id ops draw,Q,s,hc,h=>by
  have O:=h;have N:Lc nt ops.toList=true:=hc;obtain⟨l⟩:=ops;have hr:=(Go.run O).out;cases draw with
  |false=>
   refine AWp.postW (AWp.same (AWp.region N (Run.mono (λE t h=>?_) hr)));obtain⟨s',h1,h2⟩:=h;refine QQ h2 (λh2=>⟨⟨s'.env,s'.hp,s.nx+4*l.length⟩,h1,rfl,_,Aq.fzL _ _,h2⟩) λh2=>?_;have U:s'.env.get BF=t.env.get BF:=congrFun (congrArg FSt.env h1) BF;refine⟨⟨(BF,.any)::s'.env,s'.hp,s.nx+4*l.length⟩,?_,rfl,?_⟩
   ·have:=FSt.app_eq h1 (some BF) ⟨.any,[],[]⟩;simpa[St.app,F0,St.fs] using this
   ·rw[<-U];exact h2
  |true=>exact AWp.postW (AWp.same (AWp.region_draw hm N (Run.mono (λE t h=>by obtain⟨s',h1,h2,V⟩:=h;exact⟨h2,⟨s'.env,s'.hp,s.nx+4*l.length⟩,h1,rfl,_,Aq.fzL _ _,V⟩) hr)))
 |.loop _,_,_,_,h=>h
 |.scope _,_,_,_,h=>h
 |.rangeFunc _ _ _ _,_,_,_,h=>h
 |.goto _,_,_,_,h=>h
 |.refuse _,_,_,_,h=>h
def VC.sound{fz:List Nat}(hm:P.follows .mixedOrders=true){s:St}(hc:Dh nt c=true)(h:VCS P nt fz c Q s):AWp P nt c Q s:=by
 rw[Fl] at h;exact VC.sound0 hm hc h
mutual
def szD:D->Prop
 |.val v=>okP v
 |.agg cs=>szL cs
 |.tup cs=>szL cs
 |.slice es _=>es.length<=9223372036854775807/\Ua es
 |.ptr cs _=>szL cs
 |.iface _ d=>szD d
 |.func _ fs cs=>szL fs/\szL cs
 |_=>True
def szL:List D->Prop
 |[]=>True
 |d::l=>szD d/\szL l
def Ua:LLa->Prop
 |[]=>True
 |d::l=>szL d/\Ua l
end
def Gs:∀ {l:List D},(∀i,i<l.length->szD (nd l i))->szL l
 |[],_=>trivial
 |d::l,h=>⟨by simpa[nd] using h 0 (by simp),Gs λi hi=>by simpa[nd] using h (i+1) (by simp_all)⟩
def Nq:∀ {l:LLa},(∀i,i<l.length->szL (nr l i))->Ua l
 |[],_=>trivial
 |d::l,h=>⟨by simpa[nr] using h 0 (by simp),Nq λi hi=>by simpa[nr] using h (i+1) (by simp_all)⟩
def szLL_map{α:Type}{f:α->List D}{l:List α}:Ua (l.map f)↔∀x ∈ l,szL (f x):=by
 induction l<;>simp [Ua, *]
def Rep.sz{w:World}{I:Nat->Prop}{mu:Nat->Option Value}{d:D}{v:Value}(h:Rep w I mu d v):szD d:=by
 induction h with
 |any v=>trivial
 |val v ok=>exact ok
 |cond g d v _ _ _=>trivial
 |agg cs us hl _ C=>exact Gs C
 |tup cs us hl _ C=>exact Gs C
 |slice es t A k o sz cap u U hc ht hm V M _ C=>
  exact⟨A2N hc hm,Nq λi hi=>Gs (by simp_all)⟩
 |ptr cs off k o u N M _ C=>exact Gs C
 |ref _ _ _ _ _ _=>trivial
 |sref _ _ _ _ _ _ _=>trivial
 |gref _ _ _ _ _=>trivial
 |mref _ _ _=>trivial
 |yld _ _ _=>trivial
 |func fn fs cs us vs hl N _ _ C O=>exact ⟨Gs C,Gs O⟩
 |iface t d v _ C=>exact C
 |abool n pos b h=>trivial
 |gel _ _ _ _ _ _ _ _=>trivial
 |gsub _ _ _ _ _ _ _ _ _ _ _=>trivial
def szB:Blk->Prop
 |.rows es _=>Ua es
 |.grow es _=>es.length<=9223372036854775807/\Ua es
 |.map es _=>∀p ∈ es,szD p.2.2
 |_=>True
def DQ.sz{w:World}{I:Nat->Prop}{mu:Nat->Option Value}{b:Nat}{x:Blk}(h:DQ w I mu b x):szB x:=by
 cases x with
 |rows es sz=>
  obtain⟨k,T,us,h1,h2,C,M,N⟩:=h;exact Nq λi hi=>Gs λj O=>(N i j hi (by simp_all)).sz
 |grow es sz=>
  obtain⟨A,cap,T,us,h1,h2,C,M⟩:=h;rcases M with⟨N,U⟩|⟨k,Z,q1,q2,V,q4,Y⟩
  ·subst U;exact⟨by simp,trivial⟩
  ·exact⟨A2N V C,Nq λi hi=>Gs λj O=>(Y i j hi (by simp_all)).sz⟩
 |iter m a0 seen last=>trivial
 |obj o=>trivial
 |loop _ _ _ _ _ _ _=>trivial
 |pr _ _=>trivial
 |junk=>trivial
 |map es ck=>
  obtain⟨k,l,h1,h2,C,_,M⟩:=h;intro p hp;obtain⟨i,hi⟩:=List.getElem?_of_mem hp;have hl:l.length=es.length:=by have:=congrArg List.length C;grind
  have hlt:=(List.getElem?_eq_some_iff.1 hi).1;exact(M i (l[i]'(by omega)) p (A2f (by omega)) hi).sz
def AWp.sz{P:Program}{nt:Nat}{c:Code}{Q:AE->St->Prop}{s:St}(h:(∀t,szD (s.env.get t))->(∀b x,Ak s.hp b=some x->szB x)->AWp P nt c Q s):AWp P nt c Q s:=λw0 M0 I0 g I mu a w r=>
 h (λt=>(r.env t).sz) (λb x C=>DQ.sz (r.w.blk b x C)) w0 M0 I0 g I mu a w r
def fzD_fun(b:Nat)(x:Blk):fzD b x=frz (Ld b x) 4:=rfl
def Sl(r:Nat->Nat)(a b:LLa):E5 r (a++b)=E5 r a++E5 r b:=by simp[F2]
def N1(n:Nat):∀(a b:LLa),Fv n (a++b)=(Fv n a&&Fv n b)
 |[],b=>by simp[Fv]
 |x::a,b=>by simp[Fv,N1 n a b,Bool.and_assoc]
def V6:∀(a b c:LLa),EM (a++b) (a++c)=EM b c
 |[],b,c=>rfl
 |x::a,b,c=>by simp_all [EM,V6,B0,true_and]
attribute [push_cast] Sl N1 V6
def C6:List (Nat×Nat)->Nat->Nat
 |[],b=>b
 |(a,c)::l,b=>bif a==b then c else C6 l b
def UA:∀ {l:List (Nat×Nat)},(l.all λp=>p.1%2==0)=true->∀b,b%2=1->C6 l b=b
 |[],_,b,_=>rfl
 |(a,c)::l,h,b,hb=>by
  simp only[List.all_cons,A2i,beq_iff_eq] at h;have:(a==b)=false:=by
   grind
  simp[C6,this,cond_false];exact UA h.2 b hb
attribute [push_cast] H8 eAll
attribute [push_cast] C6 Fb Lf Ju
attribute [push_cast] szD szL Ua szB szLL_map okP
attribute [push_cast] Rb mapH reS unD un0D unB grS grG G6 HY Fk Yd Fd Et Et.flatL
def A0q(r:Nat->Nat)(es:LLa)(sz:Nat):Gb r (.rows es sz)=.rows (E5 r es) sz:=rfl
def A0u(r:Nat->Nat)(es:LLa)(sz:Nat):Gb r (.grow es sz)=.grow (E5 r es) sz:=rfl
def renB_map(r:Nat->Nat)(es:List (Value×Nat×D))(ck:Nat):Gb r (.map es ck)=.map (es.map λp=>(p.1,p.2.1,Bu r p.2.2)) ck:=rfl
def A0t(r:Nat->Nat)(m a:Nat)(b:List Nat)(c:Nat):Gb r (.iter m a b c)=.iter (r m) a b c:=rfl
def renB_obj(r:Nat->Nat)(o:Obj):Gb r (.obj o)=.obj o:=rfl
def renB_pr(r:Nat->Nat)(g:Nat)(p:Value->Value->Option Obj->Prop):Gb r (.pr g p)=.pr (r g) p:=rfl
def A0s(r:Nat->Nat):Gb r .junk=.junk:=rfl
def A0r(r:Nat->Nat)(env:Env)(nt:Nat)(st:LoopState)(C:Option Code)(ps:List Nat)(a c:Code):Gb r (.loop env nt st C ps a c)=.loop (H8 (Bu r) env) nt st C ps a c:=rfl
def ltB_rows(n:Nat)(es:LLa)(sz:Nat):ltB n (.rows es sz)=Fv n es:=rfl
def ltB_grow(n:Nat)(es:LLa)(sz:Nat):ltB n (.grow es sz)=Fv n es:=rfl
def ltB_map(n:Nat)(es:List (Value×Nat×D))(ck:Nat):ltB n (.map es ck)=es.all λp=>ltD n p.2.2:=rfl
def ltB_iter(n m a:Nat)(b:List Nat)(c:Nat):ltB n (.iter m a b c)=okN n m:=rfl
def ltB_obj(n:Nat)(o:Obj):ltB n (.obj o)=true:=rfl
def ltB_pr(n g:Nat)(p:Value->Value->Option Obj->Prop):ltB n (.pr g p)=okN n g:=rfl
def ltB_junk(n:Nat):ltB n .junk=true:=rfl
def ltB_loop(n:Nat)(env:Env)(nt:Nat)(st:LoopState)(C:Option Code)(ps:List Nat)(a c:Code):ltB n (.loop env nt st C ps a c)=eAll (ltD n) env:=rfl
def A0N(F:D->D)(es:LLa)(sz:Nat):K8 F (.rows es sz)=.rows (es.map λr=>r.map F) sz:=rfl
def A0R(F:D->D)(es:LLa)(sz:Nat):K8 F (.grow es sz)=.grow (es.map λr=>r.map F) sz:=rfl
def mapB_map(F:D->D)(es:List (Value×Nat×D))(ck:Nat):K8 F (.map es ck)=.map (es.map λp=>(p.1,p.2.1,F p.2.2)) ck:=rfl
def A0Q(F:D->D)(m a:Nat)(b:List Nat)(c:Nat):K8 F (.iter m a b c)=.iter m a b c:=rfl
def mapB_obj(F:D->D)(o:Obj):K8 F (.obj o)=.obj o:=rfl
def mapB_pr(F:D->D)(g:Nat)(p:Value->Value->Option Obj->Prop):K8 F (.pr g p)=.pr g p:=rfl
def A0P(F:D->D):K8 F .junk=.junk:=rfl
def A0O(F:D->D)(env:Env)(nt:Nat)(st:LoopState)(C:Option Code)(ps:List Nat)(a c:Code):K8 F (.loop env nt st C ps a c)=.loop (H8 F env) nt st C ps a c:=rfl
attribute [push_cast] renB_pr ltB_pr mapB_pr A0q A0u renB_map A0t renB_obj A0s A0r ltB_rows ltB_grow ltB_map ltB_iter ltB_obj ltB_junk ltB_loop A0N A0R mapB_map A0Q mapB_obj A0P A0O fzL fzS fzE fzD_fun fzH Ld okN VCS_skip VCS_ret VCS_exit A27 VCS_seq A28 VCS_cond TH TJ VCS_loop A26 Uk A0d A0c seqW_ret WT MI Cs MO MO.junkB CJ EE Df DH Bq Ph Qt Ki Qx Va ltD ltL Fv Bu Co E5
end Go.Ab
namespace Go.Ab
open Go.Proofs Go.Proofs.Tryz Go.RowKit
variable{P:Program}{nt i:Nat}{c:Code}{Q:AE->St->Prop}{ops:Array Oper}{E:List Eff}{C:List (List Nat×List Nat)}{α:Type}{l:List α}
abbrev iD(n:Int):D:=.val (.int .i64 n)
abbrev uD'(n:Int):D:=.val (.int .u64 n)
abbrev sD(s:Baa):D:=.val (.string s)
abbrev bD(b:Bool):D:=.val (.bool b)
def loopQ(R:St->Prop)(Q:AE->St->Prop):AE->St->Prop
 |.normal,s=>R s
 |e,s=>Q e s
def AWp.loopI{s:St}{ι:Type}(hm:P.follows .mixedOrders=true)(hc:Dh nt c=true)(Inv:ι->Prop)(S:ι->St)(m:ι->Nat)(C:ι)(hi:Inv C)(h0:Aq s (S C))
  (round:∀i,Inv i->VCS P nt [] c (loopQ (λs'=>∃j,Inv j/\m j<m i/\Aq s' (S j)) Q) (S i)):AWp P nt (.loop c) Q s:=by
 refine AWp.loop (ι:= {i//Inv i}) (λi=>S i.1) (λi=>m i.1) ⟨C,hi⟩ h0 λi=>AWp.mono (VC.sound hm hc (round i.1 i.2)) λe s' h=>?_;cases e with
 |normal=>obtain ⟨j,h1,h2,M⟩:=h;exact⟨⟨j,h1⟩,h2,M⟩
 |_=>exact h
def MY(h:GH E=C)(k:El ops C=true):A01 ops E:=by rw[A01,h];exact k
attribute [push_cast] loopQ GO Ch KE Jv D8 Mh
def sm(a b:List D):Prop:=a=b
@[congr] def sm_congr{a C b:List D}(h:J7 a=C):sm a b=sm C b:=by rw[<-h];rfl
def Sd(a:List D):sm a a:=rfl
def Za{a b:Prop}(h:a)(k:b):a/\b:=⟨h,k⟩
def Zi{b:Bool}{x y:Prop}(h:b=true->x)(k:b=false->y):Fj b x y:=Ad h k
section
variable{P:Program}{ops:Array Oper}{nx:Nat}{dst:Option Tmp}{T:TypeId}{ps:String}{af:Array Edge}{gd:Option (Nat×Bool)}{f:FuncId}{x:Operand}{args:Array Operand}{ts:Array TypeId}{fs cs ds:List D}{d r:D}{H H':Hp}{l:List Oper}{pos:Nat}{acc:List Eff}{s:St}{K:List Eff->St->Prop}
def Zc(hc:A0 P f ds r)(C:GoS P ops nx l (pos+1) (⟨r,[],[]⟩::acc) (s.app dst ⟨r,[],[]⟩) K)(M:sm (args.toList.map (evO P s.env.get)) ds:=by (try push_cast(config:= {maxSteps:=9999999}) [z]);exact Sd _)(N:DO ops s gd:=by first|exact .inl rfl|exact .inr ⟨_,_,_,rfl,rfl,rfl⟩)
  (O:An ds=true:=by first|rfl|push_cast (config:= {maxSteps:=9999999}) [z]):A5 P ops nx (⟨dst,.call {callee:=.value (.func f),args:=args,argTypes:=ts},T,ps,af,gd⟩::l) pos acc s K:=A5.call hc N M O C
def Zv(hc:A0 P f ds r)(C:GoS P ops nx l (pos+1) (⟨r,[],[]⟩::acc) (s.app dst ⟨r,[],[]⟩) K)(M:evO P s.env.get x=.func (.func f) fs cs:=by rfl)(N:sm (fs++args.toList.map (evO P s.env.get)++cs) ds:=by (try push_cast(config:= {maxSteps:=9999999}) [z]);exact Sd _)(O:DO ops s gd:=by first|exact .inl rfl|exact .inr ⟨_,_,_,rfl,rfl,rfl⟩)
  (U:An ds=true:=by first|rfl|push_cast (config:= {maxSteps:=9999999}) [z]):A5 P ops nx (⟨dst,.call {callee:=.value x,args:=args,argTypes:=ts},T,ps,af,gd⟩::l) pos acc s K:=A5.callV M hc O N U C
def Zs(C:List (Nat×Nat))(hc:A4 P f ds H d H')(M:GoS P ops nx l (pos+1) (CJ (2*(nx+4*pos)) (C6 C) H d H'::acc) (s.app dst (CJ (2*(nx+4*pos)) (C6 C) H d H')) K)(N:args.toList.map (evO P s.env.get)=Co (C6 C) ds:=by push_cast(config:= {maxSteps:=9999999}) [z]<;>with_unfolding_all exact Ag _)(O:DO ops s gd:=by first|exact .inl rfl|exact .inr ⟨_,_,_,rfl,rfl,rfl⟩)
  (hl:ltL 4 ds=true:=by push_cast(config:= {maxSteps:=9999999}) [z]<;>with_unfolding_all exact Ag _) (hh:Bq (C6 C) (Ak s.hp) H:=by push_cast(config:= {maxSteps:=9999999}) [z]<;>with_unfolding_all exact Ag _) (U:DH (2*(nx+4*pos)) (C6 C) H H'=true:=by push_cast(config:= {maxSteps:=9999999}) [z]<;>with_unfolding_all exact Ag _):A5 P ops nx (⟨dst,.call {callee:=.value (.func f),args:=args,argTypes:=ts},T,ps,af,gd⟩::l) pos acc s K:=A5.scall (C6 C) hc O N hl hh U M
def Zt(C:List (Nat×Nat))(hc:A4 P f ds H d H')(M:GoS P ops nx l (pos+1) (CJ (2*(nx+4*pos)) (C6 C) H d H'::acc) (s.app dst (CJ (2*(nx+4*pos)) (C6 C) H d H')) K)(N:evO P s.env.get x=.func (.func f) fs cs:=by rfl)(O:fs++args.toList.map (evO P s.env.get)++cs=Co (C6 C) ds:=by push_cast(config:= {maxSteps:=9999999}) [z]<;>with_unfolding_all exact Ag _)(U:DO ops s gd:=by first|exact .inl rfl|exact .inr ⟨_,_,_,rfl,rfl,rfl⟩)
  (hl:ltL 4 ds=true:=by push_cast(config:= {maxSteps:=9999999}) [z]<;>with_unfolding_all exact Ag _) (hh:Bq (C6 C) (Ak s.hp) H:=by push_cast(config:= {maxSteps:=9999999}) [z]<;>with_unfolding_all exact Ag _) (V:DH (2*(nx+4*pos)) (C6 C) H H'=true:=by push_cast(config:= {maxSteps:=9999999}) [z]<;>with_unfolding_all exact Ag _):A5 P ops nx (⟨dst,.call {callee:=.value x,args:=args,argTypes:=ts},T,ps,af,gd⟩::l) pos acc s K:=A5.scallV (C6 C) N hc U O hl hh V M
def Zq{bs:List Nat}(hc:A0 P f ds r)(C:Fk (Ak s.hp) (args.toList.map (evO P s.env.get)))(M:GoS P ops nx l (pos+1) (⟨r,[],bs⟩::acc) (s.app dst ⟨r,[],bs⟩) K)(N:Fd (args.toList.map (evO P s.env.get))=bs:=by (try push_cast(config:= {maxSteps:=9999999}) [z]);rfl)(O:sm ((args.toList.map (evO P s.env.get)).map (G6 (Ak s.hp))) ds:=by (try push_cast(config:= {maxSteps:=9999999}) [z]);exact Sd _)(U:DO ops s gd:=by first|exact .inl rfl|exact .inr ⟨_,_,_,rfl,rfl,rfl⟩)
  (V:An ds=true:=by push_cast(config:= {maxSteps:=9999999}) [z]) (hf:Et r=true:=by push_cast(config:= {maxSteps:=9999999}) [z]):A5 P ops nx (⟨dst,.call {callee:=.value (.func f),args:=args,argTypes:=ts},T,ps,af,gd⟩::l) pos acc s K:=A5.borrow N hc U O C V hf M
def Zg{bs:List Nat}(hc:A0 P f ds r)(C:Fk (Ak s.hp) (args.toList.map (evO P s.env.get)))(M:GoS P ops nx l (pos+1) (⟨r,bs.map λc=>(c,none),bs⟩::acc) (s.app dst ⟨r,bs.map λc=>(c,none),bs⟩) K)(N:Fd (args.toList.map (evO P s.env.get))=bs:=by (try push_cast(config:= {maxSteps:=9999999}) [z]);rfl)(O:sm ((args.toList.map (evO P s.env.get)).map (G6 (Ak s.hp))) ds:=by (try push_cast(config:= {maxSteps:=9999999}) [z]);exact Sd _)(U:DO ops s gd:=by first|exact .inl rfl|exact .inr ⟨_,_,_,rfl,rfl,rfl⟩)
  (V:An ds=true:=by push_cast(config:= {maxSteps:=9999999}) [z]):A5 P ops nx (⟨dst,.call {callee:=.value (.func f),args:=args,argTypes:=ts},T,ps,af,gd⟩::l) pos acc s K:=A5.give N hc U O C V M
end
def Zo(h:GH E=C:=by push_cast(config:= {maxSteps:=9999999}) [GH,z];rfl)(k:El ops C=true:=by kernel_rfl):A01 ops E:=MY h k
def Zp(h:GH E=C:=by push_cast(config:= {maxSteps:=9999999}) [GH];rfl)(k:El ops C=true:=by kernel_rfl):A01 ops E:=MY h k
def Zw{s S:St}(C:Cs id s.env S.env)(hh:MO s.nx id s.hp S.hp)(M:Ki S.nx S.env=true)(N:Qx S.nx S.hp=true)(O:Va id S.hp=true):Aq s S:=Aq.sub id (λ_ _=>rfl) C hh M N O
def Zr{s S:St}(C:List (Nat×Nat))(hr:(C.all λp=>p.1%2==0)=true)(M:Cs (C6 C) s.env S.env)(hh:MO s.nx (C6 C) s.hp S.hp)(N:Ki S.nx S.env=true)(O:Qx S.nx S.hp=true)(U:Va (C6 C) S.hp=true):Aq s S:=Aq.sub (C6 C) (UA hr) M hh N O U
section
variable{nt:Nat}{f:FuncId}{c:Code}{ds:List D}{H:Hp}{r:D}{H':Hp}{rl:List ResultVar}{x1 x2 y3:String}{x3 x4 x5:Array TypeId}{x6 y4:Nat}{y1 y2:Bool}{y5:Option Nat}{y6:List Departure}{y7:Array String}
def Zb(fz:List Nat)(h:(∀t,szD (Env.get (BB 0 ds) t))->(∀b x,Ak H b=some x->szB x)->VCS prog nt fz c (Qt prog rl r H') ⟨BB 0 ds,H,4⟩)
  (hf:prog.funcs[f]? =some ⟨x1,x2,x3,x4,x5,x6,nt,⟨rl⟩,some c,y1,y2,y3,y4,y5,y6,y7⟩:=by rfl)(M:By prog f=true:=by kernel_rfl) (N:ds.length<=nt:=by simp) (hc:Dh nt c=true:=by kernel_rfl):A4 prog f ds H r H':=
 A4.of_awp hf rfl rfl M N rfl (AWp.sz λh0 h1=>VC.sound mixed hc (h h0 h1))
def Zk(fz:List Nat)(h:(∀t,szD (Env.get (BB 0 ds) t))->(∀b x,Ak [] b=some x->szB x)->VCS prog nt fz c (Yn prog rl r) ⟨BB 0 ds,[],0⟩)
  (hf:prog.funcs[f]? =some ⟨x1,x2,x3,x4,x5,x6,nt,⟨rl⟩,some c,y1,y2,y3,y4,y5,y6,y7⟩:=by rfl)(M:By prog f=true:=by kernel_rfl) (N:ds.length<=nt:=by simp) (hc:Dh nt c=true:=by kernel_rfl):A0 prog f ds r:=
 A0.of_awp hf rfl rfl M N rfl (AWp.sz λh0 h1=>VC.sound mixed hc (h h0 h1))
def Zd(fz:List Nat)(h:VCS prog nt fz c (Qt prog rl r H') ⟨BB 0 ds,H,4⟩)
  (hf:prog.funcs[f]? =some ⟨x1,x2,x3,x4,x5,x6,nt,⟨rl⟩,some c,y1,y2,y3,y4,y5,y6,y7⟩:=by rfl)(M:By prog f=true:=by kernel_rfl) (N:ds.length<=nt:=by simp) (hc:Dh nt c=true:=by kernel_rfl):A4 prog f ds H r H':=
 A4.of_awp hf rfl rfl M N rfl (VC.sound mixed hc h)
def Zf(fz:List Nat)(h:VCS prog nt fz c (Yn prog rl r) ⟨BB 0 ds,[],0⟩)
  (hf:prog.funcs[f]? =some ⟨x1,x2,x3,x4,x5,x6,nt,⟨rl⟩,some c,y1,y2,y3,y4,y5,y6,y7⟩:=by rfl)(M:By prog f=true:=by kernel_rfl) (N:ds.length<=nt:=by simp) (hc:Dh nt c=true:=by kernel_rfl):A0 prog f ds r:=
 A0.of_awp hf rfl rfl M N rfl (VC.sound mixed hc h)
end
def Pc'{p:Prop}(h:p:=by first|(push_cast;done)|((try push_cast);rfl)):p:=h
def Zy{s:St}(h:VCS prog nt [] c Q s)(hc:Dh nt c=true:=by kernel_rfl):AWp prog nt c Q s:=VC.sound mixed hc h
def Zl{s:St}(Inv:Nat->Prop)(S:Nat->St)(m:Nat->Nat)(C:Nat)(hi:Inv C)(h0:Aq s (S C))
  (round:∀i,Inv i->VCS prog nt [] c (loopQ (λs'=>∃j,Inv j/\m j<m i/\Aq s' (S j)) Q) (S i)) (hc:Dh nt c=true:=by kernel_rfl):AWp prog nt (.loop c) Q s:=AWp.loopI mixed hc Inv S m C hi h0 round
def A0.res{f:FuncId}{ds:List D}{r C:D}(h:A0 P f ds r)(hl:Go.Ab.lo r C):A0 P f ds C:=by
 unfold A0 at h|-;exact⟨h.1,λw I vs a b c d=>(h.2 w I vs a b c d).mono λe w' ⟨v,I',M,N,x⟩=>⟨v,I',M,N.lo hl,x⟩⟩
def A4.res{f:FuncId}{ds:List D}{H H':Hp}{r C:D}(h:A4 P f ds H r H')(hl:Go.Ab.lo r C):A4 P f ds H C H':=by
 unfold A4 at h|-;exact⟨h.1,λw M0 G I mu vs a b c d=>(h.2 w M0 G I mu vs a b c d).mono λe w' ⟨v,I',mu',M,N,x⟩=>⟨v,I',mu',M,N.lo hl,x⟩⟩
def bl(a:Baa):Lua:=a.data.toList
def BD:Lua->Lua->Int
 |[],[]=>0
 |[],_::_=> -1
 |_::_,[]=>1
 |x::a,y::b=>if x=y then BD a b else if x<y then-1 else 1
def CO(a b:Baa):Int:=BD (bl a) (bl b)
def Eb(a:Baa):(bl a).length=a.size:=rfl
def MD{a b:Baa}(h:bl a=bl b):a=b:=by
 cases a;cases b;simp[bl] at h;simp_all
def Ud(a:Baa)(i:Nat):BZ a i=(((bl a).getD i 0).toNat:Int):=by simp[BZ,bl]
def A9{n:Int}(h: -9223372036854775808<=n)(k:n<9223372036854775808):IntKind.i64.wrap n=n:=by
 grind [IntKind.wrap,IntKind.bits,IntKind.signed]
def Cc[BEq α][LawfulBEq α]{a b:α}(h:(a !=b)=false):a=b:=by simp_all
def wrap_u8(x:UInt8):IntKind.i64.wrap (x.toNat:Int)=x.toNat:=by
 have:=x.toNat_lt;exact A9 Om Om
theorem C7{d:α}(h:i<l.length):l.drop i=l.getD i d::l.drop (i+1):=by
 simp_all
def RQ:∀(a b:Lua) (i:Nat),i<=a.length->i<=b.length->(∀j,j<i->a.getD j 0=b.getD j 0)->BD a b=BD (a.drop i) (b.drop i)
 |_,_,0,_,_,_=>Sq'
 |[],_,i+1,h,_,_=>by simp at h
 |_::_,[],i+1,_,h,_=>by simp at h
 |x::a,y::b,i+1,h,k,e=>by
  have C:=e 0 Om;simp at C;subst C;simp[BD,if_pos,List.drop_succ_cons];exact RQ a b i (by simpa using h) (by simpa using k) (by grind)
def EI(a b:Int):Int:=if a<b then-1 else if b<a then 1 else 0
inductive GV where
 |mk (kind:Int) (b:Bool) (n:Int) (s:ByteArray) (list:List GV) (obj:List (ByteArray×GV))
namespace GV
def kind:GV->Int|mk k _ _ _ _ _=>k
def b:GV->Bool|mk _ b _ _ _ _=>b
def n:GV->Int|mk _ _ n _ _ _=>n
def s:GV->Baa|mk _ _ _ s _ _=>s
def list:GV->List GV|mk _ _ _ _ l _=>l
def obj:GV->List (Baa×GV)|mk _ _ _ _ _ o=>o
def list_lt{x v:GV}(h:x ∈ v.list):SizeOf.sizeOf x<SizeOf.sizeOf v:=by
 cases v with
 |mk k b n s l o=>have:=List.sizeOf_lt_of_mem (show x ∈ l from h);simp;omega
def obj_lt{x:Baa×GV}{v:GV}(h:x ∈ v.obj):SizeOf.sizeOf x.2<SizeOf.sizeOf v:=by
 cases v with
 |mk k b n s l o=>
  have:=List.sizeOf_lt_of_mem (show x ∈ o from h);grind
end GV
mutual
def A7:GV->List D
 |.mk k b n s l o=>[iD k,bD b,iD n,sD s,.slice (JB l) false,.slice (JC o) false]
def JB:List GV->LLa
 |[]=>[]
 |v::l=>A7 v::JB l
def JC:List (Baa×GV)->LLa
 |[]=>[]
 |(k,v)::l=>(sD k::A7 v)::JC l
end
def Rw:∀l:List GV,JB l=l.map A7
 |[]=>rfl
 |v::l=>by simp[JB,Rw l]
def A8(p:Baa×GV):List D:=sD p.1::A7 p.2
def RA:∀l:List (Baa×GV),JC l=l.map A8
 |[]=>rfl
 |(k,v)::l=>by simp[JC,RA l,A8]
def A3(v:GV):A7 v=[iD v.kind,bD v.b,iD v.n,sD v.s,.slice (v.list.map A7) false,.slice (v.obj.map A8) false]:=by
 cases v;simp[A7,Rw,RA,GV.kind,GV.b,GV.n,GV.s,GV.list,GV.obj]
def Aj(p:Baa×GV):A8 p=sD p.1::A7 p.2:=rfl
mutual
def Bn:∀v:GV,An (A7 v)=true
 |.mk k b n s l o=>by simp only[A7,An,D.pure,PR l,PX o,A2L]
def PR:∀l:List GV,Aa (JB l)=true
 |[]=>rfl
 |v::l=>by simp only[JB,Aa,Bn v,PR l,A2L]
def PX:∀l:List (Baa×GV),Aa (JC l)=true
 |[]=>rfl
 |(k,v)::l=>by simp only[JC,Aa,An,D.pure,Bn v,PX l,A2L]
end
def AH(v:GV):(A7 v).length=6:=by rw[A3];rfl
def Aw{α:Type}{f:α->List D}(h:∀x,An (f x)=true):∀l:List α,Aa (l.map f)=true
 |[]=>rfl
 |x::l=>by simp[Aa,h x,Aw h l,A2L]
def E8(l:List GV):Aa (l.map A7)=true:=Aw Bn l
def Ap(p:Baa×GV):An (A8 p)=true:=by simp[A8,An,D.pure,Bn,A2L]
def Ac(l:List (Baa×GV)):Aa (l.map A8)=true:=Aw Ap l
def DT{f:α->List D}(d:α)(h:i<l.length):nr (l.map f) i=f (l.getD i d):=by
 simp[nr,A29,h]
abbrev zM:Baa×GV:=(bea,.mk 0 false 0 bea [] [])
def zV:GV:=.mk 0 false 0 bea [] []
def DU{l:List GV}(h:i<l.length):nr (l.map A7) i=A7 (l.getD i zV):=DT zV h
def Bc{l:List (Baa×GV)}(h:i<l.length):nr (l.map A8) i=A8 (l.getD i zM):=DT _ h
def GG(v:GV):(A7 v).take 6=A7 v:=A2g (by rw[AH];omega)
attribute [push_cast] GG Bn E8 Ap Ac AH A2k
theorem Ae{d:α}(h:i<l.length):l.getD i d ∈ l:=by
 simp_all
def Dj{α:Type}(f:α->α->Int):List α->List α->Int
 |[],[]=>0
 |[],_::_=> -1
 |_::_,[]=>1
 |x::a,y::b=>if f x y=0 then Dj f a b else f x y
def KP{α:Type}(f:α->α->Int)(d:α):∀(a b:List α) (i:Nat),i<=a.length->i<=b.length->(∀j,j<i->f (a.getD j d) (b.getD j d)=0)->Dj f a b=Dj f (a.drop i) (b.drop i)
 |_,_,0,_,_,_=>Sq'
 |[],_,i+1,h,_,_=>by simp at h
 |_::_,[],i+1,_,h,_=>by simp at h
 |x::a,y::b,i+1,h,k,e=>by
  have C:=e 0 Om;simp at C;simp[Dj,if_pos C,List.drop_succ_cons];exact KP f d a b i (by simp_all) (by simp_all) λj M=>by grind
def FK(f:α->α->Int)(d:α)(a b:List α)(i:Nat)(h:i<=a.length)(k:i<=b.length)(e:∀j,j<i->f (a.getD j d) (b.getD j d)=0)(o:¬(i<a.length/\i<b.length)):Dj f a b=EI a.length b.length:=by
 rw[KP f d a b i h k e];by_cases C:i<a.length
 ·have:b.drop i=[]:=by simp_all
  rw[C7 (d:=d) C];grind [Dj,EI]
 ·have h1:a.drop i=[]:=by simp_all
  by_cases hb:i<b.length
  ·rw[C7 (d:=d) hb];grind [Dj,EI]
  grind [Dj,EI]
def H9(f:α->α->Int)(d:α)(a b:List α)(i:Nat)(h:i<a.length)(k:i<b.length)(e:∀j,j<i->f (a.getD j d) (b.getD j d)=0)(o:f (a.getD i d) (b.getD i d)≠0):Dj f a b=f (a.getD i d) (b.getD i d):=by
 rw[KP f d a b i Om Om e,C7 (d:=d) h,C7 (d:=d) k];simp only[Dj,if_neg o]
def Ks(a b:Bool):Int:=if a=b then 0 else if b then-1 else 1
def Kc:Nat->GV->GV->Int
 |0,_,_=>0
 |n+1,v,u=>
  if v.kind≠u.kind then EI v.kind u.kind
  else if v.kind=2 then Ks v.b u.b
  else if v.kind=3 then EI v.n u.n
  else if v.kind=4 then CO v.s u.s
  else if v.kind=5 then Dj (Kc n) v.list u.list
  else if v.kind=6 then Dj (λx y=>if CO x.1 y.1=0 then Kc n x.2 y.2 else CO x.1 y.1) v.obj u.obj
  else 0
def JE(n:Nat)(x y:Baa×GV):Int:=if CO x.1 y.1=0 then Kc n x.2 y.2 else CO x.1 y.1
theorem BI(n:Nat)(v u:GV):Kc (n+1) v u=
  if v.kind≠u.kind then EI v.kind u.kind
  else if v.kind=2 then Ks v.b u.b
  else if v.kind=3 then EI v.n u.n
  else if v.kind=4 then CO v.s u.s
  else if v.kind=5 then Dj (Kc n) v.list u.list
  else if v.kind=6 then Dj (JE n) v.obj u.obj
  else 0:=rfl
def FL(a b:Int):A0 prog 128 [iD a,iD b] (iD (EI a b)):=by
 refine Zf [] ?_
 (push_cast<;>repeat' (first|apply Zi<;>intro _|apply Za)<;>push_cast)
 all_goals grind [EI]
def Zm(a b:Baa):A0 prog 129 [sD a,sD b] (iD (CO a b)):=by
 refine Zk [] λH Hb=>?_;have h0:=H 0;push_cast at h0;push_cast;refine Zl (λi=>i<=a.size/\i<=b.size/\∀j,j<i->(bl a).getD j 0=(bl b).getD j 0) (λi=>⟨[(5,iD i),(0,sD a),(1,sD b)],[],0⟩) (λi=>a.size-i) 0 Sq' ?_ λi hi=>?_
 ·apply Zw<;>push_cast
 ·obtain⟨h1,h2,O⟩:=hi;have C:=RQ (bl a) (bl b) i h1 h2 O
  (have z:=trivial;push_cast<;>repeat' (first|apply Zi<;>intro _|refine Zc (FL ..) ?_|exact Zp|apply Za)<;>push_cast)
  all_goals simp only[decide_eq_true_eq,decide_eq_false_iff_not,Ud,wrap_u8] at*
  all_goals first|omega|skip
  ·have M:(bl a).drop i=(bl a).getD i 0::(bl a).drop (i+1):=C7 (by rw[Eb];omega);have N:(bl b).drop i=(bl b).getD i 0::(bl b).drop (i+1):=C7 (by rw[Eb];omega);rename_i h;rw[CO,C,M,N];generalize(bl a).getD i 0=x at*;generalize(bl b).getD i 0=y at*;have U:x≠y:=λe=>by subst e;simp at h
   simp only[BD,if_neg U,EI,UInt8.lt_iff_toNat_lt];have:=λe=>U (UInt8.toNat_inj.1 e);grind
  ·rename_i h;refine⟨i+1,⟨Om,Om,λj Y=>?_⟩,Om,?_⟩
   ·by_cases V:j=i
    ·subst V;have h:=Cc h;exact UInt8.toNat_inj.1 (Int.ofNat_inj.1 h)
    ·exact O j Om
   ·apply Zw<;>push_cast;rw[A9 Om Om]
  ·rw[CO,C];have:(bl b).drop i=[]:=A2v (by rw[Eb];omega);have M:(bl a).drop i=(bl a).getD i 0::(bl a).drop (i+1):=C7 (by rw[Eb];omega);rw[this,M];grind [EI,BD]
  ·rw[CO,C];have:(bl a).drop i=[]:=A2v (by rw[Eb];omega);have hi:i=a.size:=Om;rw[this];by_cases hb:a.size=b.size
   ·have:(bl b).drop i=[]:=A2v (by rw[Eb];omega);rw[this];simp[BD,EI,hb]
   ·have N:(bl b).drop i=(bl b).getD i 0::(bl b).drop (i+1):=C7 (by rw[Eb];omega);rw[N];grind [EI,BD]
def To(n:Nat):∀(v u:GV),SizeOf.sizeOf v<=n->A0 prog 80 [.agg (A7 v),.agg (A7 u)] (iD (Kc n v u)):=by
 induction n with
 |zero=>intro v u h;cases v;simp at h
 |succ n ih=>
 intro v u hn;rw[A3 v,A3 u];refine Zk [] λH Hb=>?_;have h0:=H 0;push_cast at h0
 (have z:=trivial;push_cast<;>repeat' (first|apply Zi<;>intro _|refine Zc (FL ..) ?_|refine Zc (Zm ..) ?_|exact Zp|apply Za)<;>push_cast)
 all_goals simp only[beq_iff_eq,beq_eq_false_iff_ne,bne_iff_ne] at*
 ·grind [BI]
 ·grind [BI,Ks]
 ·grind [BI,Ks]
 ·grind [BI,Ks]
 ·grind [BI]
 ·grind [BI]
 ·rename_i hk _ _ _ h5;refine Zl (λi=>i<=v.list.length/\i<=u.list.length/\∀j,j<i->Kc n (v.list.getD j zV) (u.list.getD j zV)=0) (λi=>⟨[(5,iD i),(2,.ref 0 0 0 6),(3,.ref 8 0 0 6)],[(0,.rows [A7 v] 6),(8,.rows [A7 u] 6)],8⟩) (λi=>v.list.length-i) 0 Sq' ?_ λi hi=>?_
  ·apply Zw<;>push_cast [A3 v,A3 u]
  ·obtain⟨h1,h2,C⟩:=hi;push_cast[A3 v,A3 u];refine Ad (λN=>?_) (λN=>?_)
   ·push_cast[A3 v,A3 u];refine Ad (λhb=>?_) (λhb=>?_)
    ·have M:i<v.list.length:=by simpa using N
     have O:i<u.list.length:=by simpa using hb
     have U:=DU M;have V:=DU O;have hs:SizeOf.sizeOf (v.list.getD i zV)<=n:=by
      have:=GV.list_lt (Ae (d:=zV) M);omega
     (have z:=Za U<|Za V<|Za (A3 v) (A3 u);push_cast[z]<;>repeat' (first|apply Zi<;>intro _|exact Zo|with_reducible apply Za|(with_reducible show A5 _ _ _ _ _ _ _ _;refine A5.call (by(try push_cast[z]);exact ih _ _ (by assumption)) Gda rfl (by first|rfl|push_cast [z]) ?_)|fail)<;>push_cast[z])<;>try omega
     ·rename_i h;have h:=bne_iff_ne.1 h;have e:=H9 (Kc n) zV v.list u.list i M O C h;grind [BI]
     ·rename_i h;have h:=Cc h;refine⟨i+1,⟨Om,Om,λj hj=>?_⟩,Om,?_⟩
      ·by_cases Y:j=i
       ·subst Y;exact h
       ·exact C j Om
      ·apply Zw<;>push_cast [A3 v,A3 u];rw[A9 Om Om]
    ·(have z:=Za (A3 v) (A3 u);push_cast[z]<;>repeat' (first|apply Zi<;>intro _|refine Zc (FL ..) ?_|apply Za)<;>push_cast[z])
     have e:=FK (Kc n) zV v.list u.list i h1 h2 C (λ⟨_,h⟩=>by simp at hb;omega);grind [BI]
   ·(have z:=Za (A3 v) (A3 u);push_cast[z]<;>repeat' (first|apply Zi<;>intro _|refine Zc (FL ..) ?_|apply Za)<;>push_cast[z])
    have e:=FK (Kc n) zV v.list u.list i h1 h2 C (λ⟨h,_⟩=>by simp at N;omega);grind [BI]
 ·rename_i hk _ _ _ _ h5;refine Zl (λi=>i<=v.obj.length/\i<=u.obj.length/\∀j,j<i->JE n (v.obj.getD j zM) (u.obj.getD j zM)=0) (λi=>⟨[(7,iD i),(2,.ref 0 0 0 6),(3,.ref 8 0 0 6)],[(0,.rows [A7 v] 6),(8,.rows [A7 u] 6)],8⟩) (λi=>v.obj.length-i) 0 Sq' ?_ λi hi=>?_
  ·apply Zw<;>push_cast [A3 v,A3 u]
  ·obtain⟨h1,h2,C⟩:=hi;push_cast[A3 v,A3 u];refine Ad (λN=>?_) (λN=>?_)
   ·push_cast[A3 v,A3 u];refine Ad (λhb=>?_) (λhb=>?_)
    ·have M:i<v.obj.length:=by simpa using N
     have O:i<u.obj.length:=by simpa using hb
     have U:=Bc M;have V:=Bc O;have hs:SizeOf.sizeOf (v.obj.getD i zM).2<=n:=by
      have:=GV.obj_lt (Ae (d:=zM) M);omega
     (have z:=Za U<|Za V<|Za @Aj<|Za (A3 v) (A3 u);push_cast[z]<;>repeat' (first|apply Zi<;>intro _|refine Zc (Zm ..) ?_|exact Zo|with_reducible apply Za|(with_reducible show A5 _ _ _ _ _ _ _ _;refine A5.call (by(try push_cast[z]);exact ih _ _ (by assumption)) Gda rfl (by first|rfl|push_cast [z]) ?_)|fail)<;>push_cast[z])<;>try omega
     ·rename_i h;have h:=bne_iff_ne.1 h;have Z:JE n (v.obj.getD i zM) (u.obj.getD i zM)≠0:=by simp only[JE,if_neg h];exact h
      have e:=H9 (JE n) zM v.obj u.obj i M O C Z;simp only[JE,if_neg h] at e;grind [BI]
     ·rename_i g h;have g:=Cc g;have h:=bne_iff_ne.1 h;have Z:JE n (v.obj.getD i zM) (u.obj.getD i zM)≠0:=by simp only[JE,if_pos g];exact h
      have e:=H9 (JE n) zM v.obj u.obj i M O C Z;simp only[JE,if_pos g] at e;grind [BI]
     ·rename_i g h;have g:=Cc g;have h:=Cc h;refine⟨i+1,⟨Om,Om,λj hj=>?_⟩,Om,?_⟩
      ·by_cases Y:j=i
       ·subst Y;simp only[JE,if_pos g];exact h
       ·exact C j Om
      ·apply Zw<;>push_cast [A3 v,A3 u];rw[A9 Om Om]
    ·(have z:=Za (A3 v) (A3 u);push_cast[z]<;>repeat' (first|apply Zi<;>intro _|refine Zc (FL ..) ?_|apply Za)<;>push_cast[z])
     have e:=FK (JE n) zM v.obj u.obj i h1 h2 C (λ⟨_,h⟩=>by simp at hb;omega);grind [BI]
   ·(have z:=Za (A3 v) (A3 u);push_cast[z]<;>repeat' (first|apply Zi<;>intro _|refine Zc (FL ..) ?_|apply Za)<;>push_cast[z])
    have e:=FK (JE n) zM v.obj u.obj i h1 h2 C (λ⟨h,_⟩=>by simp at N;omega);grind [BI]
 ·grind [BI]
def VQ:∀(a b:Lua),Lib.compareBytes a b=BD a b
 |[],[]=>rfl
 |[],_::_=>rfl
 |_::_,[]=>rfl
 |x::a,y::b=>by
  simp only[Lib.compareBytes,BD,VQ a b];by_cases h:x=y
  ·subst h;simp[UInt8.lt_irrefl]
  ·rw[if_neg h];by_cases h1:x<y
   ·simp[h1]
   ·have:y<x:=UInt8.lt_of_le_of_ne (UInt8.not_lt.1 h1) (λe=>h e.symm);simp[h1,this]
def TS(a b:Baa):MF prog 372 [sD a,sD b] (iD (CO a b)):=
 MF.of (e:=Extern.BytealgCompare.compare) func372 Kq' Kq' Kq' Kq' λw I mu vs h=>by
  obtain⟨v,u,rfl,C,M⟩:=h.two;have N:=C.val_inv;have hb:=M.val_inv;subst N hb;refine⟨_,Lib.run_compareString a b w,?_⟩;rw[VQ];refine .val _ ?_;have:∀x y:Lua,-1<=BD x y/\BD x y<=1:=by
   intro x
   induction x with
   |nil=>intro y;cases y<;>simp [BD]
   |cons p x O=>intro y;cases y with
    |nil=>simp [BD]
    |cons q y=>simp only[BD];have:=O y;split<;>(try split)<;>omega
  have:=this a.data.toList b.data.toList;simp only[okP,DJ,DK,CO,bl];omega
def MA(a b:Baa):A0 prog 313 [sD a,sD b] (iD (CO a b)):=by
 refine Zf [] ?_
 (have z:=trivial;push_cast<;>repeat' (first|with_reducible apply Za|(with_reducible show A5 _ _ _ _ _ _ _ _;refine A5.ext (by(try push_cast);exact TS ..) Gda rfl ?_)|fail)<;>push_cast)
def ET(a b:Baa):A0 prog 244 [sD a,sD b] (iD (CO a b)):=by
 refine Zf [] ?_
 (have z:=trivial;push_cast<;>repeat' (first|refine Zc (MA ..) ?_|apply Za)<;>push_cast)
def A1G(a:Int):A0 prog 312 [iD a] (bD false):=by
 refine Zf [] ?_
 (push_cast<;>repeat' apply Za)
def c_isNaNK(a:Int):A0 prog 311 [iD a] (bD false):=by
 refine Zf [] ?_
 (push_cast<;>repeat' apply Za)
def c_isNaNi(a:Int):A0 prog 373 [iD a] (bD false):=by
 refine Zf [] ?_
 (push_cast<;>repeat' apply Za)
def c_cmp64(a b:Int):A0 prog 243 [iD a,iD b] (iD (EI a b)):=by
 refine Zf [] ?_
 (have z:=trivial;push_cast<;>repeat' (first|apply Zi<;>intro _|refine Zc (A1G ..) ?_|apply Za)<;>push_cast)
 all_goals grind [EI]
def c_cmpK(a b:Int):A0 prog 241 [iD a,iD b] (iD (EI a b)):=by
 refine Zf [] ?_
 (have z:=trivial;push_cast<;>repeat' (first|apply Zi<;>intro _|refine Zc (c_isNaNK ..) ?_|apply Za)<;>push_cast)
 all_goals grind [EI]
def c_cmpi(a b:Int):A0 prog 314 [iD a,iD b] (iD (EI a b)):=by
 refine Zf [] ?_
 (have z:=trivial;push_cast<;>repeat' (first|apply Zi<;>intro _|refine Zc (c_isNaNi ..) ?_|apply Za)<;>push_cast)
 all_goals grind [EI]
def c_rank(b:Bool):A0 prog 242 [bD b] (iD (if b then 1 else 0)):=by
 refine Zf [] ?_
 (push_cast<;>repeat' apply Za<;>push_cast)
 all_goals simp_all
def Y6(a b:List GV)(g:Nat)(f:GV->GV->Int)(h:∀x ∈ a,∀y ∈ b,A0 prog g [.agg (A7 x),.agg (A7 y)] (iD (f x y))):
  A0 prog 245 [.slice (a.map A7) false,.slice (b.map A7) false,.func (.func g) [] []] (iD (Dj f a b)):=by
 refine Zk [] λH Hb=>?_;have h0:=H 0;push_cast at h0;have h1:=H 1;push_cast at h1;push_cast;refine Zl (λi=>i<=a.length/\i<=b.length/\∀j,j<i->f (a.getD j zV) (b.getD j zV)=0) (λi=>⟨[(14,iD i),(13,iD (if(b.length:Int)<a.length then b.length else a.length)),(0,.slice (a.map A7) false),(1,.slice (b.map A7) false),(2,.func (.func g) [] [])],[],0⟩) (λi=>a.length-i) 0 Sq' ?_ λi hi=>?_
 ·apply Zw<;>push_cast
 ·obtain⟨h1,h2,M⟩:=hi;push_cast;refine Ad (λC=>?_) (λC=>?_)
  ·have N:i<a.length/\i<b.length:=by simp at C;split at C<;>omega
   obtain⟨O,U⟩:=N;have V:=DU O;have Y:=DU U
   (have z:=Za V Y;push_cast[z]<;>repeat' (first|apply Zi<;>intro _|refine Zv (h _ (Ae O) _ (Ae U)) ?_|exact Zo|apply Za)<;>push_cast[z])<;>try omega
   ·rename_i k;have k:=bne_iff_ne.1 k;rw[H9 f zV a b i O U M k]
   ·rename_i k;have k:=Cc k;refine⟨i+1,⟨Om,Om,λj hj=>?_⟩,Om,?_⟩
    ·by_cases Z:j=i
     ·subst Z;exact k
     ·exact M j Om
    ·apply Zw<;>push_cast;rw[A9 Om Om]
  ·have N:¬(i<a.length/\i<b.length):=by simp at C;split at C<;>omega
   (have z:=trivial;push_cast<;>repeat' (first|refine Zc (c_cmpi ..) ?_|apply Za)<;>push_cast)
   rw[FK f zV a b i h1 h2 M N]
def H7(p:Baa×GV):(A8 p).length=7:=by rw[Aj,A2l,AH]
def CI(p:Baa×GV):(A8 p).take 7=A8 p:=A2g (by rw[H7];exact A2e _)
def Y7(a b:List (Baa×GV))(g:Nat)(f:Baa×GV->Baa×GV->Int)(h:∀x ∈ a,∀y ∈ b,A0 prog g [.agg (A8 x),.agg (A8 y)] (iD (f x y))):
  A0 prog 246 [.slice (a.map A8) false,.slice (b.map A8) false,.func (.func g) [] []] (iD (Dj f a b)):=by
 refine Zk [] λH Hb=>?_;have h0:=H 0;push_cast at h0;have h1:=H 1;push_cast at h1;push_cast;refine Zl (λi=>i<=a.length/\i<=b.length/\∀j,j<i->f (a.getD j zM) (b.getD j zM)=0) (λi=>⟨[(14,iD i),(13,iD (if(b.length:Int)<a.length then b.length else a.length)),(0,.slice (a.map A8) false),(1,.slice (b.map A8) false),(2,.func (.func g) [] [])],[],0⟩) (λi=>a.length-i) 0 Sq' ?_ λi hi=>?_
 ·apply Zw<;>push_cast
 ·obtain⟨h1,h2,M⟩:=hi;push_cast;refine Ad (λC=>?_) (λC=>?_)
  ·have N:i<a.length/\i<b.length:=by simp at C;split at C<;>omega
   obtain⟨O,U⟩:=N;have V:=Bc O;have Y:=Bc U
   (have z:=Za V<|Za Y<|Za @CI @H7;push_cast[z]<;>repeat' (first|apply Zi<;>intro _|refine Zv (h _ (Ae O) _ (Ae U)) ?_|exact Zo|apply Za)<;>push_cast[z])<;>try omega
   ·rename_i k;have k:=bne_iff_ne.1 k;rw[H9 f zM a b i O U M k]
   ·rename_i k;have k:=Cc k;refine⟨i+1,⟨Om,Om,λj hj=>?_⟩,Om,?_⟩
    ·by_cases Z:j=i
     ·subst Z;exact k
     ·exact M j Om
    ·apply Zw<;>push_cast;rw[A9 Om Om]
  ·have N:¬(i<a.length/\i<b.length):=by simp at C;split at C<;>omega
   (have z:=trivial;push_cast<;>repeat' (first|refine Zc (c_cmpi ..) ?_|apply Za)<;>push_cast)
   rw[FK f zM a b i h1 h2 M N]
def Lv(v:GV):(A7 v).all AV=true:=by rw[A3];rfl
def BW(p:Baa×GV):(A8 p).all AV=true:=by rw[Aj,A3];rfl
attribute [push_cast] Lv BW
def Mz(x y:Baa×GV)(c:Int)(h:A0 prog 175 [.agg (A7 x.2),.agg (A7 y.2)] (iD c)):
  A0 prog 247 [.agg (A8 x),.agg (A8 y)] (iD (if CO x.1 y.1=0 then c else CO x.1 y.1)):=by
 rw[Aj,Aj];refine Zf [] ?_
 (have z:=trivial;push_cast<;>repeat' (first|apply Zi<;>intro _|refine Zc (ET ..) ?_|refine Zc h ?_|apply Za)<;>push_cast)
 all_goals grind
def A1X(n:Nat):∀(v u:GV),SizeOf.sizeOf v<=n->A0 prog 175 [.agg (A7 v),.agg (A7 u)] (iD (Kc n v u)):=by
 induction n with
 |zero=>intro v u h;cases v;simp at h
 |succ n M=>
 intro v u hn;have hl:∀x ∈ v.list,∀y ∈ u.list,A0 prog 175 [.agg (A7 x),.agg (A7 y)] (iD (Kc n x y)):=λx C y _=>M x y (by have:=GV.list_lt C;omega);have N:∀x ∈ v.obj,∀y ∈ u.obj,A0 prog 247 [.agg (A8 x),.agg (A8 y)] (iD (JE n x y)):=λx C y _=>Mz x y _ (M x.2 y.2 (by have:=GV.obj_lt C;omega));rw[A3 v,A3 u];refine Zk [] λH Hb=>?_;have h0:=H 0;push_cast at h0
 (have z:=trivial;push_cast<;>repeat' (first|apply Zi<;>intro _|refine Zc (c_cmpK ..) ?_|refine Zc (c_cmp64 ..) ?_|refine Zc (c_rank ..) ?_|refine Zc (ET ..) ?_|exact Zp|with_reducible apply Za|(with_reducible show A5 _ _ _ _ _ _ _ _;refine A5.call (by(try push_cast);exact Y6 _ _ _ _ hl) Gda rfl (by first|rfl|push_cast) ?_)|(with_reducible show A5 _ _ _ _ _ _ _ _;refine A5.call (by(try push_cast);exact Y7 _ _ _ _ N) Gda rfl (by first|rfl|push_cast) ?_)|fail)<;>push_cast)
 all_goals simp only[beq_iff_eq,beq_eq_false_iff_ne,bne_iff_ne] at*
 all_goals first
  |grind [BI]
  |(have e:EI (if v.b=true then 1 else 0) (if u.b=true then 1 else 0)=Ks v.b u.b:=by cases v.b<;>cases u.b<;>rfl
    grind [BI])
noncomputable def J2(v u:GV):Int:=Kc (SizeOf.sizeOf v) v u
def Yc(v u:GV):A0 prog 175 [.agg (A7 v),.agg (A7 u)] (iD (J2 v u)):=A1X _ v u (A2e _)
def EY(v u:GV):A0 prog 80 [.agg (A7 v),.agg (A7 u)] (iD (J2 v u)):=To _ v u (A2e _)
def JH(v u:GV):A0 prog 109 [.agg (A7 v),.agg (A7 u)] (bD (J2 v u==0)):=by
 refine Zf [] ?_
 (have z:=trivial;push_cast<;>repeat' (first|refine Zc (Yc ..) ?_|apply Za)<;>push_cast)
abbrev GE:=Baa×GV
inductive GM where
 |mk (kind:Int) (key to:ByteArray) (n:Int) (had:Bool) (was:GV) (has:Bool) (value:GV) (list:List GM)
namespace GM
def kind:GM->Int|mk k _ _ _ _ _ _ _ _=>k
def key:GM->Baa|mk _ k _ _ _ _ _ _ _=>k
def to:GM->Baa|mk _ _ t _ _ _ _ _ _=>t
def n:GM->Int|mk _ _ _ n _ _ _ _ _=>n
def had:GM->Bool|mk _ _ _ _ h _ _ _ _=>h
def was:GM->GV|mk _ _ _ _ _ w _ _ _=>w
def has:GM->Bool|mk _ _ _ _ _ _ h _ _=>h
def value:GM->GV|mk _ _ _ _ _ _ _ v _=>v
def list:GM->List GM|mk _ _ _ _ _ _ _ _ l=>l
def list_lt{x m:GM}(h:x ∈ m.list):SizeOf.sizeOf x<SizeOf.sizeOf m:=by
 cases m with
 |mk k a b n h1 w h2 v l=>have:=List.sizeOf_lt_of_mem (show x ∈ l from h);simp;omega
end GM
mutual
def Ai:GM->List D
 |.mk k a b n h w i v l=>[iD k,sD a,sD b,iD n,bD h]++A7 w++[bD i]++A7 v++[.slice (N7 l) false]
def N7:List GM->LLa
 |[]=>[]
 |m::l=>Ai m::N7 l
end
def Rx:∀l:List GM,N7 l=l.map Ai
 |[]=>rfl
 |v::l=>by simp[N7,Rx l]
def Ay(m:GM):Ai m=[iD m.kind,sD m.key,sD m.to,iD m.n,bD m.had]++A7 m.was++[bD m.has]++A7 m.value++[.slice (m.list.map Ai) false]:=by
 cases m;simp[Ai,Rx,GM.kind,GM.key,GM.to,GM.n,GM.had,GM.was,GM.has,GM.value,GM.list]
def Ej:∀(a b:List D),An (a++b)=(An a&&An b)
 |[],b=>by simp[An]
 |d::a,b=>by simp[An,Ej a b,Bool.and_assoc]
mutual
def Ax:∀m:GM,An (Ai m)=true
 |.mk k a b n h w i v l=>by simp only[Ai,Ej,An,D.pure,Bn,PS l,A2L]
def PS:∀l:List GM,Aa (N7 l)=true
 |[]=>rfl
 |m::l=>by simp only[N7,Aa,Ax m,PS l,A2L]
end
def AB(m:GM):(Ai m).length=19:=by rw[Ay];simp[AH]
def EQ(l:List GM):Aa (l.map Ai)=true:=Aw Ax l
def C4(m:GM):(Ai m).all AV=true:=by rw[Ay];simp only[List.all_append,Lv];rfl
def BQ(m:GM):(Ai m).take 19=Ai m:=A2g (by rw[AB];omega)
def zU:GM:=.mk 0 bea bea 0 false zV false zV []
def EV{l:List GM}(h:i<l.length):nr (l.map Ai) i=Ai (l.getD i zU):=DT zU h
attribute [push_cast] Ax EQ AB C4 BQ H7 CI
structure GN where
 id:Int
 m:GM
def AN(x:GN):List D:=uD' x.id::Ai x.m
def Lw(x:GN):AN x=uD' x.id::Ai x.m:=rfl
def Cw(x:GN):An (AN x)=true:=by simp[AN,An,D.pure,Ax,A2L]
def Fc(x:GN):(AN x).length=20:=by simp[AN,AB]
def Bk(l:List GN):Aa (l.map AN)=true:=Aw Cw l
def PW(x:GN):(AN x).all AV=true:=by simp[AN,List.all_cons,C4];rfl
def QG(x:GN):(AN x).take 20=AN x:=A2g (by rw[Fc];omega)
def zN:GN:=⟨0,zU⟩
def SG{l:List GN}(h:i<l.length):nr (l.map AN) i=AN (l.getD i zN):=DT zN h
attribute [push_cast] Cw Bk Fc PW QG
structure GR where
 version:Int
 client:Int
 id:Int
 m:GM
 code:Int
def encR(x:GR):List D:=[uD' x.version,uD' x.client,uD' x.id]++Ai x.m++[iD x.code]
structure GI where
 client:Int
 cookie:Int
 last:Int
 next:Int
 base:List GE
 pending:List GN
structure GW where
 image:GI
 head:List GE
 saved:Int
def encI(x:GI):List D:=[uD' x.client,uD' x.cookie,uD' x.last,uD' x.next,.slice (x.base.map A8) false,.slice (x.pending.map AN) false]
def encW(x:GW):List D:=[uD' x.image.client,uD' x.image.cookie,uD' x.image.last,uD' x.image.next,.slice (x.image.base.map A8) false,.slice (x.image.pending.map AN) false,.slice (x.head.map A8) false,uD' x.saved]
def Vv(x:GW):(encW x).length=8:=rfl
attribute [push_cast] Vv
structure GS where
 version:Int
 map:List GE
 ran:List GR
def encS(x:GS):List D:=[uD' x.version,.slice (x.map.map A8) false,.slice (x.ran.map encR) false]
def encS_all(x:GS):(encS x).all AV=true:=rfl
def Vw(x:GS):(encS x).length=3:=rfl
def ZY(x:GS):(encS x).take 3=encS x:=rfl
def encW_all(x:GW):(encW x).all AV=true:=rfl
def ZX(x:GW):(encW x).take 8=encW x:=rfl
attribute [push_cast] encS_all Vw ZY encW_all ZX
def baLoop(a:Baa):∀(n i:Nat) (r:Lua),a.size-i=n->ByteArray.toList.loop a i r=r.reverse++a.data.toList.drop i:=by
 intro n
 induction n with
 |zero=>
  intro i r h;unfold ByteArray.toList.loop;have:¬i<a.size:=Om;rw[if_neg this];simp_all
 |succ n C=>
  intro i r h;unfold ByteArray.toList.loop;have hi:i<a.size:=Om;rw[if_pos hi,C (i+1) _ Om];have M:i<a.data.toList.length:=hi;have N:a.get! i=a.data.toList[i]:=by
   show a.data[i]! =a.data.toList[i];simp_all
  rw[List.drop_eq_getElem_cons M,N];simp
def baL(a:Baa):a.toList=a.data.toList:=by
 unfold ByteArray.toList;rw[baLoop a _ 0 [] rfl];simp
def RZ(a b:Baa):(a.toList==b.toList)=decide (a=b):=by
 rw[baL,baL];by_cases h:a=b
 ·simp_all
 ·have:a.data.toList≠b.data.toList:=λe=>h (MD e);simp_all
def ltS(a b:Baa):Bool:=decide (CO a b<0)
def Rk:∀a b:Lua,Op.bytesLess a b=decide (BD a b<0)
 |[],[]=>by simp[Op.bytesLess,BD]
 |[],_::_=>by simp[Op.bytesLess,BD]
 |_::_,[]=>by simp[Op.bytesLess,BD]
 |x::a,y::b=>by
  simp[Op.bytesLess,BD,Rk a b];by_cases h:x=y
  ·subst h;simp
  ·by_cases h1:x<y
   ·simp[h,h1]
   ·simp[h,h1]
def VP:∀a b:Lua,BD b a= -BD a b
 |[],[]=>rfl
 |[],_::_=>rfl
 |_::_,[]=>rfl
 |x::a,y::b=>by
  simp[BD];by_cases h:x=y
  ·subst h;simp[VP a b]
  grind
theorem WO(a b:Baa):Op.bytesLess a.toList b.toList=ltS a b:=by rw[baL,baL,Rk];rfl
def XU:∀ {x y:Lua},BD x y=0->x=y:=by
 intro x
 induction x with
 |nil=>intro y C;cases y<;>simp_all [BD]
 |cons p x M=>intro y C;cases y with
  |nil=>simp [BD] at C
  |cons q y=>
   grind [BD]
theorem Qe(a b:Baa):CO b a= -CO a b:=VP _ _
theorem Th(a b:Baa):CO a b=0↔a=b:=by
 constructor
 ·exact λh=>MD (XU h)
 ·intro h;subst h;have:=Qe a a;omega
def str_gt(a b:Baa):(!(Op.bytesLess a.toList b.toList ||a.toList==b.toList))=ltS b a:=by
 grind [WO,Qe,Th,ltS,decide_eq_false_iff_not]
def str_le(a b:Baa):(Op.bytesLess a.toList b.toList ||a.toList==b.toList)= !ltS b a:=by rw[<-str_gt a b];simp
def le_norm(a b:Baa):(ltS a b ||decide (a=b))= !ltS b a:=by
 have:=str_le a b;rw[WO,RZ] at this;exact this
attribute [push_cast] WO RZ le_norm Bool.not_not
inductive GT where
 |nil
 |node (es:List GE) (kids:List GT) (height count:Int) (first last:ByteArray) (thin:Bool)
namespace GT
def es:GT->List GE|nil=>[]|node e _ _ _ _ _ _=>e
def kids:GT->List GT|nil=>[]|node _ k _ _ _ _ _=>k
def height:GT->Int|nil=>0|node _ _ h _ _ _ _=>h
def count:GT->Int|nil=>0|node _ _ _ c _ _ _=>c
def first:GT->Baa|nil=>bea|node _ _ _ _ f _ _=>f
def last:GT->Baa|nil=>bea|node _ _ _ _ _ l _=>l
def thin:GT->Bool|nil=>false|node _ _ _ _ _ _ t=>t
end GT
mutual
def Ah:GT->D
 |.nil=>.val (.pointer none)
 |.node e k h c f l t=>.ptr [.slice (e.map A8) false,.slice (Rz k) false,iD h,iD c,sD f,sD l,bD t] 0
def Rz:List GT->LLa
 |[]=>[]
 |t::l=>[Ah t]::Rz l
end
def Ar(t:GT):List D:=[Ah t]
def Ry:∀l:List GT,Rz l=l.map Ar
 |[]=>rfl
 |t::l=>by simp[Rz,Ry l,Ar]
def Bl:Ah .nil=.val (.pointer none):=by simp only[Ah]
def Bi(e:List GE)(k:List GT)(h c:Int)(f l:Baa)(t:Bool):Ah (.node e k h c f l t)=.ptr [.slice (e.map A8) false,.slice (k.map Ar) false,iD h,iD c,sD f,sD l,bD t] 0:=by
 simp[Ah,Ry]
mutual
def A6:∀t:GT,(Ah t).pure=true
 |.nil=>by simp only[Ah,D.pure]
 |.node e k h c f l t=>by simp only[Ah,D.pure,An,Ac,PV k,A2L]
def PV:∀l:List GT,Aa (Rz l)=true
 |[]=>rfl
 |t::l=>by simp only[Rz,Aa,An,A6 t,PV l,A2L]
end
def RB(t:GT):An (Ar t)=true:=by simp[Ar,An,A6,A2L]
def CF(l:List GT):Aa (l.map Ar)=true:=Aw RB l
def Vx(t:GT):(Ar t).length=1:=rfl
def Bx{l:List GT}(h:i<l.length):nr (l.map Ar) i=Ar (l.getD i .nil):=DT .nil h
def Bg(t:GT):AV (Ah t)=true:=by cases t<;>simp only[Ah]<;>rfl
attribute [push_cast] Bg A6 RB CF Vx
abbrev Ct:=Bool×GV
def D4(s:Ct):List D:=bD s.1::A7 s.2
def D3(b:Bool)(v:GV):D4 (b,v)=bD b::A7 v:=rfl
def DX(s:Ct):An (D4 s)=true:=by simp[D4,An,D.pure,Bn,A2L]
def A08(s:Ct):(D4 s).all AV=true:=by simp[D4,List.all_cons,Lv,A3M];rfl
def KZ(s:Ct):(D4 s).length=7:=by simp[D4,AH]
abbrev CE:=Baa×Nat×Ct
def CH(e:CE):Value×Nat×D:=(.string e.1,e.2.1,.agg (D4 e.2.2))
def encC_mk(k:Baa)(n:Nat)(s:Ct):CH (k,n,s)=(.string k,n,.agg (D4 s)):=rfl
def C5(k:Baa):List CE->Nat->Option (Nat×Ct)
 |[],_=>none
 |e::es,i=>if k=e.1 then some (i,e.2.2) else C5 k es (i+1)
def B8(k:Baa):∀(es:List CE) (i:Nat),Ez .str (.string k) (es.map CH) i=some ((C5 k es i).map λp=>(p.1,.agg (D4 p.2)))
 |[],i=>rfl
 |e::es,i=>by
  simp[A2m,Ez,CH,keq,C5];by_cases h:k=e.1
  ·simp[h]
  ·simp[h,decide_false,if_false];exact B8 k es (i+1)
def KO(es:List CE)(ck:Nat)(k:Baa)(s:Ct):List CE×Nat:=
 match C5 k es 0 with
 |some (i,_)=>(es.modify i λe=>(e.1,e.2.1,s),ck)
 |none=>(es++[(k,ck,s)],ck+1)
def XV(es:List CE)(k:Baa):List CE:=
 match C5 k es 0 with
 |some (i,_)=>es.eraseIdx i
 |none=>es
def KA(es:List CE)(i:Nat)(s:Ct):NY (es.map CH) i (.agg (D4 s))=(es.modify i λe=>(e.1,e.2.1,s)).map CH:=by
 apply A3F;grind [NY,CH]
def XJ(es:List CE)(i:Nat):(es.map CH).eraseIdx i=(es.eraseIdx i).map CH:=(Db CH es i).symm
def M3(es:List CE)(ck:Nat)(k:Baa)(s:Ct):es.map CH++[(.string k,ck,.agg (D4 s))]=(es++[(k,ck,s)]).map CH:=by simp[CH]
structure BL where
 k:ByteArray
 was:Bool
 old:Ct
def BJ(u:BL):D:=.func (.func 296) [] [.ptr [bD u.was] 0,.ptr (D4 u.old) 0,.ptr [.ref 1 0 0 3] 0,.ptr [sD u.k] 0]
structure OV where
 below:GT
 chg:Option (List CE×Nat)
 und:Option (List BL)
namespace OV
def chgD(o:OV):D:=match o.chg with
 |none=>.val (.map none)
 |some _=>.mref 2
def chgB(o:OV):Blk:=match o.chg with
 |none=>.junk
 |some (es,ck)=>.map (es.map CH) ck
def undD(o:OV):D:=match o.und with
 |none=>.slice [] true
 |some l=>.gref 4 l.length
def undB(o:OV):Blk:=match o.und with
 |none=>.junk
 |some l=>.grow (l.map λu=>[BJ u]) 1
end OV
namespace OV
def step(o:OV)(k:Baa)(s:Ct):OV:=
 let m:=o.chg.getD ([],0);let old:=C5 k m.1 0
 ⟨o.below,some (KO m.1 m.2 k s),some (o.und.getD []++[⟨k,old.isSome,(old.map (·.2)).getD (false,zV)⟩])⟩
end OV
def ovH(o:OV):Hp:=[(1,.rows [[Ah o.below,o.chgD,o.undD]] 3),(2,o.chgB),(4,o.undB)]
def M5(b:GT):ovH ⟨b,none,none⟩=[(1,.rows [[Ah b,.val (.map none),.slice [] true]] 3),(2,.junk),(4,.junk)]:=rfl
def Jq(b:GT)(es:List CE)(ck:Nat):ovH ⟨b,some (es,ck),none⟩=[(1,.rows [[Ah b,.mref 2,.slice [] true]] 3),(2,.map (es.map CH) ck),(4,.junk)]:=rfl
def KG(b:GT)(l:List BL):ovH ⟨b,none,some l⟩=[(1,.rows [[Ah b,.val (.map none),.gref 4 l.length]] 3),(2,.junk),(4,.grow (l.map λu=>[BJ u]) 1)]:=rfl
def DY(b:GT)(es:List CE)(ck:Nat)(l:List BL):ovH ⟨b,some (es,ck),some l⟩=[(1,.rows [[Ah b,.mref 2,.gref 4 l.length]] 3),(2,.map (es.map CH) ck),(4,.grow (l.map λu=>[BJ u]) 1)]:=rfl
def WL(s:Ct):(D4 s).take 7=D4 s:=A2g (by rw[KZ];omega)
def Uy(r:Nat->Nat)(es:List CE):(es.map CH).map (λp=>(p.1,p.2.1,Bu r p.2.2))=es.map CH:=by
 simp_all [CH,GO,D.pure,DX]
def YU(n:Nat)(es:List CE):((es.map CH).all λp=>ltD n p.2.2)=true:=by
 rw[A2q];intro p hp;obtain⟨e,_,rfl⟩:=A2p.1 hp;exact Jv n _ (by simp[CH,D.pure,DX])
def LY(r:Nat->Nat)(h:r 1=1)(u:BL):Bu r (BJ u)=BJ u:=by
 simp_all [BJ,Bu,Co,Ch,DX]
def Pu(n:Nat)(u:BL):ltD n (BJ u)=true:=by
 simp_all [BJ,ltD,ltL,okN,D8,DX]
def X9(r:Nat->Nat)(h:r 1=1)(l:List BL):E5 r (l.map λu=>[BJ u])=l.map λu=>[BJ u]:=by
 simp_all [F2,Function.comp,Co,LY]
def Re(n:Nat):∀l:List BL,Fv n (l.map λu=>[BJ u])=true
 |[]=>rfl
 |u::l=>by simp[Fv,ltL,Pu,Re n l,A2L]
def Vp(hp:Nat->Option Blk)(n:Nat)(u:BL):frz hp n (BJ u)=BJ u:=by
 match n with
 |0=>rfl
 |1=>rfl
 |n+2=>rfl
def A1b(hp:Nat->Option Blk)(n:Nat)(l:List BL):(l.map λu=>[BJ u]).map (λr=>r.map (frz hp n))=l.map λu=>[BJ u]:=by
 simp_all [Vp]
def Vq(hp:Nat->Option Blk)(n:Nat)(es:List CE):(es.map CH).map (λp=>(p.1,p.2.1,frz hp n p.2.2))=es.map CH:=by
 simp_all [CH,Fb,D.pure,DX]
attribute [push_cast] encC_mk Vp A1b Vq
attribute [push_cast] DX A08 KZ WL Uy YU X9 Re LY Pu
def c_Mark(o:OV):A4 prog 161 [.ref 1 0 0 3] (ovH o) (iD ((o.und.getD []).length:Nat)) (ovH o):=by
 obtain⟨b,c,u⟩:=o;rcases c with _|⟨es,ck⟩<;>rcases u with _|u<;>simp only[M5,Jq,KG,DY,Option.getD_none,A2P,A2r];all_goals
  refine Zb [] λH Hb=>?_
  (push_cast<;>repeat' apply Za)
  all_goals first|(apply Zw<;>push_cast)|(have C:=Hb 4 _ rfl;push_cast at C;exact C.1)
def step_nn(b:GT)(k:Baa)(s:Ct):OV.step ⟨b,none,none⟩ k s=⟨b,some ([(k,0,s)],1),some [⟨k,false,(false,zV)⟩]⟩:=rfl
def step_ns(b:GT)(k:Baa)(s:Ct)(u:List BL):OV.step ⟨b,none,some u⟩ k s=⟨b,some ([(k,0,s)],1),some (u++[⟨k,false,(false,zV)⟩])⟩:=rfl
def Ug{b:GT}{k:Baa}{s:Ct}{es:List CE}{ck:Nat}(h:C5 k es 0=none)(u:Option (List BL)):OV.step ⟨b,some (es,ck),u⟩ k s=⟨b,some (es++[(k,ck,s)],ck+1),some (u.getD []++[⟨k,false,(false,zV)⟩])⟩:=by simp[OV.step,KO,h]
def Uf{b:GT}{k:Baa}{s old:Ct}{es:List CE}{ck:Nat}(h:C5 k es 0=some (i,old))(u:Option (List BL)):OV.step ⟨b,some (es,ck),u⟩ k s=⟨b,some (es.modify i λe=>(e.1,e.2.1,s),ck),some (u.getD []++[⟨k,true,old⟩])⟩:=by simp[OV.step,KO,h]
def E7(k:Baa):lo (D.func (.func 296) [] [.ptr [bD false] 0,.ptr [bD false,iD 0,bD false,iD 0,sD bea,.slice [] true,.slice [] true] 0,.ptr [.ref 1 0 0 3] 0,.ptr [sD k] 0]) (BJ ⟨k,false,(false,zV)⟩)=True:=by
 simp[BJ,D4,zV,A7,JB,JC,lo,loL,EM]
def F9(k:Baa)(old:Ct):lo (D.func (.func 296) [] [.ptr [bD true] 0,.ptr (D4 old) 0,.ptr [.ref 1 0 0 3] 0,.ptr [sD k] 0]) (BJ ⟨k,true,old⟩)=True:=eq_true (Av _)
def c_step(o:OV)(k:Baa)(s:Ct)(hn:(o.und.getD []).length<1073741824):A4 prog 231 [.ref 1 0 0 3,sD k,.agg (D4 s)] (ovH o) (.tup []) (ovH (o.step k s)):=by
 obtain⟨b,c,u⟩:=o;cases c with
 |none=>
  cases u with
  |none=>
   rw[M5,step_nn,DY];refine Zd [8,16,24,32,184,192] ?_
   (push_cast<;>repeat' (first|exact Zp|apply Za))
   all_goals first|(simp;done)|skip
   apply Zr [(2,80),(4,272)] rfl<;>push_cast [E7]
  |some u=>
   simp only[A2P] at hn;rw[KG,step_ns,DY];refine Zd [8,16,24,32,184,192] ?_
   (push_cast<;>repeat' (first|exact Zp|apply Za))
   all_goals first|omega|(simp[AV];done)|skip
   apply Zr [(2,80),(4,272)] rfl<;>push_cast [E7,F9,A2F,A2a,List.all_append]
 |some c=>
  obtain⟨es,ck⟩:=c;cases hf:C5 k es 0 with
  |none=>
   rw[Ug hf];cases u with
   |none=>
    rw[Jq,DY];refine Zd [8,16,24,144,152] ?_
    (have z:=Za @B8<|Za hf @M3;push_cast[z]<;>repeat' (first|exact Zo|apply Za))
    all_goals first|(simp;done)|skip
    apply Zr [(4,232)] rfl<;>push_cast [E7,F9,Option.getD_none]
   |some u=>
    simp only[A2P] at hn|-;rw[DY,DY];refine Zd [8,16,24,144,152] ?_
    (have z:=Za @B8<|Za hf @M3;push_cast[z]<;>repeat' (first|exact Zo|apply Za))
    all_goals first|omega|(simp[AV];done)|skip
    apply Zr [(4,232)] rfl<;>push_cast [E7,F9,A2F,A2a,List.all_append]
  |some p=>
   obtain⟨i,old⟩:=p;rw[Uf hf];cases u with
   |none=>
    rw[Jq,DY];refine Zd [8,16,24,144,152] ?_
    (have z:=Za @B8<|Za hf @KA;push_cast[z]<;>repeat' (first|exact Zo|apply Za))
    all_goals first|(simp;done)|skip
    apply Zr [(4,232)] rfl<;>push_cast [E7,F9,Option.getD_none]
   |some u=>
    simp only[A2P] at hn|-;rw[DY,DY];refine Zd [8,16,24,144,152] ?_
    (have z:=Za @B8<|Za hf @KA;push_cast[z]<;>repeat' (first|exact Zo|apply Za))
    all_goals first|omega|(simp[AV];done)|skip
    apply Zr [(4,232)] rfl<;>push_cast [E7,F9,A2F,A2a,List.all_append]
def BP(t:GT):A0 prog 142 [Ah t] (iD t.height):=by
 cases t with
 |nil=>
  rw[Bl];refine Zf [] ?_
  (push_cast<;>repeat' apply Za)
  all_goals simp[GT.height]
 |node e k h c f l C=>
  rw[Bi];refine Zf [] ?_
  (push_cast<;>repeat' apply Za)
  all_goals simp[GT.height]
def ND(t:GT):A0 prog 133 [Ah t] (iD t.count):=by
 cases t with
 |nil=>
  rw[Bl];refine Zf [] ?_
  (push_cast<;>repeat' apply Za)
  all_goals simp[GT.count]
 |node e k h c f l C=>
  rw[Bi];refine Zf [] ?_
  (push_cast<;>repeat' apply Za)
  all_goals simp[GT.count]
def ZL(t:GT):A0 prog 217 [Ah t] (sD t.first):=by
 cases t with
 |nil=>
  rw[Bl];refine Zf [] ?_
  (push_cast<;>repeat' apply Za)
  all_goals first|rfl|simp [GT.first]|skip
 |node e k h c f l C=>
  rw[Bi];refine Zf [] ?_
  (push_cast<;>repeat' apply Za)
  all_goals simp[GT.first]
end Go.Ab
