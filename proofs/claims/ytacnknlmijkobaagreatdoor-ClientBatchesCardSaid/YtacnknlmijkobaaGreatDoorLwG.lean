/- The tables that the law's row lays. -/
import Derived.Test.YtacnknlmijkobaaGreatDoorGinL
import Derived.Test.YtacnknlmijkobaaGreatDoorRows
set_option maxHeartbeats 4000000
set_option maxRecDepth 20000
set_option linter.unusedVariables false
set_option linter.unusedSimpArgs false
namespace Go.Ab
open Go.RowKit Go.Proofs Go.Proofs.YtacnknlmijkobaaGreatDoor
theorem gnum{P:Program}{n:String}{g k:Nat}(h:P.globalNamed n=some k)(hg:P.globalNamed n=some g):g=k:=Option.some.inj (hg.symm.trans h)
theorem cells_of_strs{P:Program}{w:World}{H:Type}{enc:TypeId×Value→H}{base:Nat}{sp:Nat→Bool}{held:Bool}{fuel:Nat}{t e:TypeId}{n:Nat}{cs:List Value}{zs:List (List UInt8)}{p:List MemPlace}
  (ht:P.underlying t=some (.array n e)) (he:P.underlying e=some .string) (hce:P.cellsOf e=1) (hct:P.cellsOf t=n)
  (h:DataW.trod enc P w base sp held fuel t cs=some (.agg (zs.map fun z=>.lit (.string z)),p)):cs=zs.map fun z=>Value.string ⟨⟨z⟩⟩:=by
 cases fuel with
 |zero=>simp [DataW.trod] at h
 |succ fuel=>
  simp only[DataW.trod,ht,hce,hct,Nat.mul_one] at h
  split at h
  ·rename_i hl
   obtain⟨xs,hm,hx⟩:=Option.map_eq_some_iff.1 h
   have hxs:xs.map (·.1)=zs.map fun z=>(DataW.lit (.string z):DataW H):=by
    have:=congrArg Prod.fst hx
    simpa using this
   have hxl:xs.length=n:=by simpa using Lib.mapM_length hm
   have hzl:zs.length=n:=by
    have:=congrArg List.length hxs
    simp at this
    omega
   apply List.ext_getElem?
   intro i
   by_cases hi:i<n
   ·obtain⟨b,hb,hf⟩:=Lib.mapM_at hm i i (by simp[hi])
    have h2:(xs.map (·.1))[i]? =some b.1:=by simp[hb]
    rw[hxs] at h2
    simp only[List.getElem?_map,Option.map_eq_some_iff] at h2
    obtain⟨z',hz',hz⟩:=h2
    have hci:i<cs.length:=by omega
    have hc1:(cs.drop i).take 1=[cs[i]]:=by
     rw[List.drop_eq_getElem_cons hci]
     rfl
    rw[hc1] at hf
    have h1:cs[i]=.string ⟨⟨z'⟩⟩:=by
     cases fuel with
     |zero=>simp [DataW.trod] at hf
     |succ fuel=>
      generalize cs[i]=c at hf
      cases c<;>simp only[DataW.trod,he] at hf<;>first|(cases hf;done)|skip
      rename_i s
      split at hf
      ·cases hf
       simp only[DataW.lit.injEq,Lit.string.injEq] at hz
       obtain⟨⟨s⟩⟩:=s
       have:z'=s:=hz
       rw[this]
      ·cases hf
    simp[hz',List.getElem?_eq_getElem hci,h1]
   ·rw[List.getElem?_eq_none (by omega),List.getElem?_eq_none (by simp;omega)]
  ·cases h
theorem held_strs{P:Program}{w:World}{laid:List (String×DataW Unit)}{name:String}{zs:List (List UInt8)}{g:Nat}{t e:TypeId}{n:Nat}(hm:laidMet P laid w)(i:Nat)(hin:laid[i]? =some (name,(.agg (zs.map fun z=>.lit (.string z)):DataW Unit)))
  (hg:P.globalNamed name=some g) (hty:(P.globals[g]?).map (·.type)=some t) (ht:P.underlying t=some (.array n e)) (he:P.underlying e=some .string) (hce:P.cellsOf e=1) (hct:P.cellsOf t=n):Held w g (zs.map fun z=>Value.string ⟨⟨z⟩⟩):=
 held_of hm hin hg hty fun _ _ _ h=>cells_of_strs ht he hce hct h
set_option maxRecDepth 100000 in
theorem gin8{W:World}(hL:laidMet Tryz.prog [("math/bits.deBruijn32tab",Rows.laid_math_bits_deBruijn32tab),("math/bits.deBruijn64tab",Rows.laid_math_bits_deBruijn64tab),("internal/strconv.uint64pow10",Rows.laid_internal_strconv_uint64pow10),("unicode/utf8.acceptRanges",Rows.laid_unicode_utf8_acceptRanges),("strconv.ErrRange",Rows.laid_strconv_ErrRange),("strconv.ErrSyntax",Rows.laid_strconv_ErrSyntax),("commonplace/mutator.names",Rows.laid_commonplace_mutator_names),("unicode/utf8.first",Rows.laid_unicode_utf8_first)] W):GIn Tryz.prog W fun k=>k<W.heap.size:=by
 refine gin_of fun p hp g hg=>?_
 simp only[gTabs,List.mem_cons,List.not_mem_nil,or_false] at hp
 rcases hp with rfl|rfl|rfl|rfl|rfl|rfl
 ·obtain rfl:=gnum (k:=1) (by kernel_rfl) hg
  exact held_ints (t:=378) (e:=5) (n:=256) (k:=.u8) (zs:=List.replicate 128 (240:Int)++List.replicate 66 241++List.replicate 30 2++[19]++List.replicate 12 3++[35,3,3,52,4,4,4,68]++List.replicate 11 241) hL 7 (by kernel_rfl) hg (by kernel_rfl) (by kernel_rfl) (by kernel_rfl) (by kernel_rfl) (by kernel_rfl)
 ·obtain rfl:=gnum (k:=2) (by kernel_rfl) hg
  have h:=held_pairs (t:=381) (e:=380) (u:=5) (n:=16) (k:=.u8) (zs:=[((128:Int),(191:Int)),(160,191),(128,159),(144,191),(128,143)]++List.replicate 11 (0,0)) hL 3 (by kernel_rfl) hg (by kernel_rfl) (by kernel_rfl) Tryz.underlying380 (by kernel_rfl) ⟨rfl,rfl⟩ ⟨rfl,rfl⟩ (by kernel_rfl) (by kernel_rfl) (by kernel_rfl)
  exact(show(([((128:Int),(191:Int)),(160,191),(128,159),(144,191),(128,143)]++List.replicate 11 (0,0)).flatMap fun z:Int×Int=>[Value.int .u8 z.1,Value.int .u8 z.2])=DH by kernel_rfl)▸h
 ·obtain rfl:=gnum (k:=4) (by kernel_rfl) hg
  exact held_ints (t:=397) (e:=27) (n:=20) (k:=.u64) (zs:=[1,10,100,1000,10000,100000,1000000,10000000,100000000,1000000000,10000000000,100000000000,1000000000000,10000000000000,100000000000000,1000000000000000,10000000000000000,100000000000000000,1000000000000000000,10000000000000000000]) hL 2 (by kernel_rfl) hg (by kernel_rfl) (by kernel_rfl) (by kernel_rfl) (by kernel_rfl) (by kernel_rfl)
 ·obtain rfl:=gnum (k:=5) (by kernel_rfl) hg
  exact held_ints (t:=437) (e:=5) (n:=32) (k:=.u8) (zs:=[0,1,28,2,29,14,24,3,30,22,20,15,25,17,4,8,31,27,13,23,21,19,16,7,26,12,18,6,11,5,10,9]) hL 0 (by kernel_rfl) hg (by kernel_rfl) (by kernel_rfl) (by kernel_rfl) (by kernel_rfl) (by kernel_rfl)
 ·obtain rfl:=gnum (k:=6) (by kernel_rfl) hg
  exact held_ints (t:=438) (e:=5) (n:=64) (k:=.u8) (zs:=[0,1,56,2,57,49,28,3,61,58,42,50,38,29,17,4,62,47,59,36,45,43,51,22,53,39,33,30,24,18,12,5,63,55,48,27,60,41,37,16,46,35,44,21,52,32,23,11,54,26,40,15,34,20,31,10,25,14,19,9,13,8,7,6]) hL 1 (by kernel_rfl) hg (by kernel_rfl) (by kernel_rfl) (by kernel_rfl) (by kernel_rfl) (by kernel_rfl)
 ·obtain rfl:=gnum (k:=0) (by kernel_rfl) hg
  exact held_strs (t:=268) (e:=9) (n:=8) (zs:=[[],[112,117,116],[100,101,108],[105,110,99],[99,97,115],[97,112,112,101,110,100],[109,111,118,101],[115,101,113]]) hL 6 (by kernel_rfl) hg (by kernel_rfl) (by kernel_rfl) (by kernel_rfl) (by kernel_rfl) (by kernel_rfl)
end Go.Ab
