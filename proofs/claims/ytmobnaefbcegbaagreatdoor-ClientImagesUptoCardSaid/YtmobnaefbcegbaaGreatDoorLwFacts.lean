/- ClientImages: the closed facts of the row (the form ..Upto), one by one. -/
import Derived.Test.YtmobnaefbcegbaaGreatDoorCards
import Derived.JoinedOf
import Derived.JoinedCond
namespace Go.Proofs.YtmobnaefbcegbaaGreatDoor.clientImages
noncomputable abbrev pQ:=Tryz.pinned.checked.prog
noncomputable abbrev rQ:=Rows.clientImagesUptoRow
theorem band{a b:Bool}(ha:a=true)(hb:b=true):(a&&b)=true:=by rw[ha,hb];rfl
theorem j0:(rQ.wf (OpenSpec.ofChange (Rows.OpenSpec.upto Rows.clientImagesSpec).bare))=true:=by kernel_rfl
theorem j1:(laidOutB pQ)=true:=by kernel_rfl
theorem j2:(mapsRowed pQ)=true:=by kernel_rfl
theorem j3:(Tryz.f3.params.all (pQ.readableRec ·))=true:=by kernel_rfl
theorem j4:(namedTie pQ rQ.named (Rows.OpenSpec.upto Rows.clientImagesSpec).bare.vars)=true:=by kernel_rfl
theorem j5:((rQ.stops==[]))=true:=by kernel_rfl
theorem j6:((pQ.stops==[]))=true:=by kernel_rfl
theorem j7:((rQ.knobs==[]))=true:=by kernel_rfl
theorem j8:((pQ.stopKnobs==[]))=true:=by kernel_rfl
theorem j9:((rQ.inPlace==pQ.inPlace 3))=true:=by kernel_rfl
theorem j10:((rQ.unfollowed==pQ.unfollowed 3))=true:=by kernel_rfl
theorem j11:((rQ.recurses==pQ.recurses 3))=true:=by kernel_rfl
theorem j12:((rQ.named==pQ.varsNamed 3))=true:=by kernel_rfl
theorem j13:((rQ.maps==(Tryz.f3.params.toList++(Rows.OpenSpec.upto Rows.clientImagesSpec).bare.plain.varTypes pQ).any (pQ.mapsRec ·)))=true:=by kernel_rfl
theorem j14:((rQ.ifaces==(Tryz.f3.params.toList++(Rows.OpenSpec.upto Rows.clientImagesSpec).bare.plain.varTypes pQ).any (pQ.ifacesRec ·)))=true:=by kernel_rfl
theorem j15:((rQ.mapsOut==pQ.mapsAmong Tryz.f3.resultTypes.toList))=true:=by kernel_rfl
theorem j16:((rQ.loops==(Tryz.f3.params.toList++(Rows.OpenSpec.upto Rows.clientImagesSpec).bare.plain.varTypes pQ).any (pQ.loopsFrom ·)))=true:=by kernel_rfl
theorem j17:((rQ.wideKeys==(Tryz.f3.params.toList++(Rows.OpenSpec.upto Rows.clientImagesSpec).bare.plain.varTypes pQ++Tryz.f3.resultTypes.toList).any (pQ.wideKeysFrom ·)))=true:=by kernel_rfl
theorem j18:((Rows.OpenSpec.upto Rows.clientImagesSpec).bare.vars.all (pQ.varReadable ·))=true:=by kernel_rfl
theorem j19:(Tryz.f3.resultTypes.all (fun t=>pQ.readableRec t&&decide (t<pQ.types.size)))=true:=by kernel_rfl
theorem j20:((rQ.ifacesOut==Tryz.f3.resultTypes.toList.any (pQ.ifacesRec ·)))=true:=by kernel_rfl
theorem j21:((rQ.loopsOut==Tryz.f3.resultTypes.toList.any (pQ.loopsFrom ·)))=true:=by kernel_rfl
theorem j22:((rQ.plainKeys==pQ.plainKeys))=true:=by kernel_rfl
theorem j23:(rQ.shortTexts.isNone)=true:=by kernel_rfl
theorem j24:(pQ.stopsHeard)=true:=by kernel_rfl
theorem j25:(pQ.mayEnter)=true:=by kernel_rfl
theorem j26:((rQ.lifted==pQ.liftsFinal))=true:=by kernel_rfl
theorem j27:((pQ.make==some rQ.make))=true:=by kernel_rfl
theorem j28:((rQ.kinds==(if rQ.domain.isEmpty then [] else Tryz.f3.params.toList.map fun t=>match pQ.underlying t with|some (.int k)=>some k|_=>Option.none)))=true:=by kernel_rfl
theorem j29:((rQ.pinned==rQ.pinnedBy))=true:=by kernel_rfl
theorem j30:((rQ.veiled==(Tryz.f3.params.toList++(Rows.OpenSpec.upto Rows.clientImagesSpec).bare.plain.varTypes pQ++Tryz.f3.resultTypes.toList).any (pQ.veiledRec ·)))=true:=by kernel_rfl
theorem j31:(rQ.veiledFits pQ Tryz.f3.params.toList (Tryz.f3.params.toList++(Rows.OpenSpec.upto Rows.clientImagesSpec).bare.plain.varTypes pQ++Tryz.f3.resultTypes.toList))=true:=by kernel_rfl
set_option maxRecDepth 1000000 in
theorem closed:joinedFacts pQ 3 Tryz.f3 (Rows.OpenSpec.upto Rows.clientImagesSpec).bare rQ=true:=by
 unfold joinedFacts
 exact(band (band (band (band (band (band (band (band (band (band (band (band (band (band (band (band (band (band (band (band (band (band (band (band (band (band (band (band (band (band (band j0 j1) j2) j3) j4) j5) j6) j7) j8) j9) j10) j11) j12) j13) j14) j15) j16) j17) j18) j19) j20) j21) j22) j23) j24) j25) j26) j27) j28) j29) j30) j31)
end Go.Proofs.YtmobnaefbcegbaaGreatDoor.clientImages
