/- OracleStores: the closed facts of the row (the form ..Upto), one by one. -/
import Derived.Test.YtjopicjammmbjaaGreatDoorCards
import Derived.JoinedOf
import Derived.JoinedCond
set_option maxHeartbeats 4000000
set_option maxRecDepth 20000
set_option linter.unusedVariables false
set_option linter.unusedSimpArgs false
namespace Go.Proofs.YtjopicjammmbjaaGreatDoor.oracleStores
theorem band{a b:Bool}(ha:a=true)(hb:b=true):(a&&b)=true:=by rw[ha,hb];rfl
theorem j0:(Rows.oracleStoresUptoRow.wf (OpenSpec.ofChange (Rows.OpenSpec.upto Rows.oracleStoresSpec).bare))=true:=by kernel_rfl
theorem j1:(laidOutB Tryz.pinned.checked.prog)=true:=by kernel_rfl
theorem j2:(mapsRowed Tryz.pinned.checked.prog)=true:=by kernel_rfl
theorem j3:(Tryz.f6.params.all (Tryz.pinned.checked.prog.readableRec ·))=true:=by kernel_rfl
theorem j4:(namedTie Tryz.pinned.checked.prog Rows.oracleStoresUptoRow.named (Rows.OpenSpec.upto Rows.oracleStoresSpec).bare.vars)=true:=by kernel_rfl
theorem j5:((Rows.oracleStoresUptoRow.stops==[]))=true:=by kernel_rfl
theorem j6:((Tryz.pinned.checked.prog.stops==[]))=true:=by kernel_rfl
theorem j7:((Rows.oracleStoresUptoRow.knobs==[]))=true:=by kernel_rfl
theorem j8:((Tryz.pinned.checked.prog.stopKnobs==[]))=true:=by kernel_rfl
theorem j9:((Rows.oracleStoresUptoRow.inPlace==Tryz.pinned.checked.prog.inPlace 6))=true:=by kernel_rfl
theorem j10:((Rows.oracleStoresUptoRow.unfollowed==Tryz.pinned.checked.prog.unfollowed 6))=true:=by kernel_rfl
theorem j11:((Rows.oracleStoresUptoRow.recurses==Tryz.pinned.checked.prog.recurses 6))=true:=by kernel_rfl
theorem j12:((Rows.oracleStoresUptoRow.named==Tryz.pinned.checked.prog.varsNamed 6))=true:=by kernel_rfl
theorem j13:((Rows.oracleStoresUptoRow.maps==(Tryz.f6.params.toList++(Rows.OpenSpec.upto Rows.oracleStoresSpec).bare.plain.varTypes Tryz.pinned.checked.prog).any (Tryz.pinned.checked.prog.mapsRec ·)))=true:=by kernel_rfl
theorem j14:((Rows.oracleStoresUptoRow.ifaces==(Tryz.f6.params.toList++(Rows.OpenSpec.upto Rows.oracleStoresSpec).bare.plain.varTypes Tryz.pinned.checked.prog).any (Tryz.pinned.checked.prog.ifacesRec ·)))=true:=by kernel_rfl
theorem j15:((Rows.oracleStoresUptoRow.mapsOut==Tryz.pinned.checked.prog.mapsAmong Tryz.f6.resultTypes.toList))=true:=by kernel_rfl
theorem j16:((Rows.oracleStoresUptoRow.loops==(Tryz.f6.params.toList++(Rows.OpenSpec.upto Rows.oracleStoresSpec).bare.plain.varTypes Tryz.pinned.checked.prog).any (Tryz.pinned.checked.prog.loopsFrom ·)))=true:=by kernel_rfl
theorem j17:((Rows.oracleStoresUptoRow.wideKeys==(Tryz.f6.params.toList++(Rows.OpenSpec.upto Rows.oracleStoresSpec).bare.plain.varTypes Tryz.pinned.checked.prog++Tryz.f6.resultTypes.toList).any (Tryz.pinned.checked.prog.wideKeysFrom ·)))=true:=by kernel_rfl
theorem j18:((Rows.OpenSpec.upto Rows.oracleStoresSpec).bare.vars.all (Tryz.pinned.checked.prog.varReadable ·))=true:=by kernel_rfl
theorem j19:(Tryz.f6.resultTypes.all (fun t=>Tryz.pinned.checked.prog.readableRec t&&decide (t<Tryz.pinned.checked.prog.types.size)))=true:=by kernel_rfl
theorem j20:((Rows.oracleStoresUptoRow.ifacesOut==Tryz.f6.resultTypes.toList.any (Tryz.pinned.checked.prog.ifacesRec ·)))=true:=by kernel_rfl
theorem j21:((Rows.oracleStoresUptoRow.loopsOut==Tryz.f6.resultTypes.toList.any (Tryz.pinned.checked.prog.loopsFrom ·)))=true:=by kernel_rfl
theorem j22:((Rows.oracleStoresUptoRow.plainKeys==Tryz.pinned.checked.prog.plainKeys))=true:=by kernel_rfl
theorem j23:(Rows.oracleStoresUptoRow.shortTexts.isNone)=true:=by kernel_rfl
theorem j24:(Tryz.pinned.checked.prog.stopsHeard)=true:=by kernel_rfl
theorem j25:(Tryz.pinned.checked.prog.mayEnter)=true:=by kernel_rfl
theorem j26:((Rows.oracleStoresUptoRow.lifted==Tryz.pinned.checked.prog.liftsFinal))=true:=by kernel_rfl
theorem j27:((Tryz.pinned.checked.prog.make==some Rows.oracleStoresUptoRow.make))=true:=by kernel_rfl
theorem j28:((Rows.oracleStoresUptoRow.kinds==(if Rows.oracleStoresUptoRow.domain.isEmpty then [] else Tryz.f6.params.toList.map fun t=>match Tryz.pinned.checked.prog.underlying t with|some (.int k)=>some k|_=>Option.none)))=true:=by kernel_rfl
theorem j29:((Rows.oracleStoresUptoRow.pinned==Rows.oracleStoresUptoRow.pinnedBy))=true:=by kernel_rfl
theorem j30:((Rows.oracleStoresUptoRow.veiled==(Tryz.f6.params.toList++(Rows.OpenSpec.upto Rows.oracleStoresSpec).bare.plain.varTypes Tryz.pinned.checked.prog++Tryz.f6.resultTypes.toList).any (Tryz.pinned.checked.prog.veiledRec ·)))=true:=by kernel_rfl
theorem j31:(Rows.oracleStoresUptoRow.veiledFits Tryz.pinned.checked.prog Tryz.f6.params.toList (Tryz.f6.params.toList++(Rows.OpenSpec.upto Rows.oracleStoresSpec).bare.plain.varTypes Tryz.pinned.checked.prog++Tryz.f6.resultTypes.toList))=true:=by kernel_rfl
set_option maxRecDepth 1000000 in
theorem closed:joinedFacts Tryz.pinned.checked.prog 6 Tryz.f6 (Rows.OpenSpec.upto Rows.oracleStoresSpec).bare Rows.oracleStoresUptoRow=true:=by
 unfold joinedFacts
 exact(band (band (band (band (band (band (band (band (band (band (band (band (band (band (band (band (band (band (band (band (band (band (band (band (band (band (band (band (band (band (band j0 j1) j2) j3) j4) j5) j6) j7) j8) j9) j10) j11) j12) j13) j14) j15) j16) j17) j18) j19) j20) j21) j22) j23) j24) j25) j26) j27) j28) j29) j30) j31)
end Go.Proofs.YtjopicjammmbjaaGreatDoor.oracleStores
