/- The closed facts of the row of ShrinkRecords, one by one. -/
import Derived.Test.YtobgljfnfpolkaaGreatDoorRows
import Derived.WalkKit
import Derived.ProofKit
import Derived.JoinedCond
namespace Go.Proofs.YtobgljfnfpolkaaGreatDoor.shrinkRecords
theorem and2 {a b:Bool} (h:a=true) (g:b=true):(a&&b)=true:=by rw [h,g];rfl
theorem k0:(Rows.shrinkRecordsRow.wf (OpenSpec.ofChange Rows.shrinkRecordsSpec))=true:=by kernel_rfl
theorem k1:(laidOutB Tryz.prog)=true:=by kernel_rfl
theorem k2:(mapsRowed Tryz.prog)=true:=by kernel_rfl
theorem k3:(Tryz.f7.params.all (Tryz.prog.readableRec ·))=true:=by kernel_rfl
theorem k4:(namedTie Tryz.prog Rows.shrinkRecordsRow.named Rows.shrinkRecordsSpec.vars)=true:=by kernel_rfl
theorem k5:((Rows.shrinkRecordsRow.stops==[]))=true:=by kernel_rfl
theorem k6:((Tryz.prog.stops==[]))=true:=by kernel_rfl
theorem k7:((Rows.shrinkRecordsRow.knobs==[]))=true:=by kernel_rfl
theorem k8:((Tryz.prog.stopKnobs==[]))=true:=by kernel_rfl
theorem k9:((Rows.shrinkRecordsRow.inPlace==Tryz.prog.inPlace 7))=true:=by kernel_rfl
theorem k10:((Rows.shrinkRecordsRow.unfollowed==Tryz.prog.unfollowed 7))=true:=by kernel_rfl
theorem k11:((Rows.shrinkRecordsRow.recurses==Tryz.prog.recurses 7))=true:=by kernel_rfl
theorem k12:((Rows.shrinkRecordsRow.named==Tryz.prog.varsNamed 7))=true:=by kernel_rfl
theorem k13:((Rows.shrinkRecordsRow.maps==(Tryz.f7.params.toList++Rows.shrinkRecordsSpec.plain.varTypes Tryz.prog).any (Tryz.prog.mapsRec ·)))=true:=by kernel_rfl
theorem k14:((Rows.shrinkRecordsRow.ifaces==(Tryz.f7.params.toList++Rows.shrinkRecordsSpec.plain.varTypes Tryz.prog).any (Tryz.prog.ifacesRec ·)))=true:=by kernel_rfl
theorem k15:((Rows.shrinkRecordsRow.mapsOut==Tryz.prog.mapsAmong Tryz.f7.resultTypes.toList))=true:=by kernel_rfl
theorem k16:((Rows.shrinkRecordsRow.loops==(Tryz.f7.params.toList++Rows.shrinkRecordsSpec.plain.varTypes Tryz.prog).any (Tryz.prog.loopsFrom ·)))=true:=by kernel_rfl
theorem k17:((Rows.shrinkRecordsRow.wideKeys==(Tryz.f7.params.toList++Rows.shrinkRecordsSpec.plain.varTypes Tryz.prog++Tryz.f7.resultTypes.toList).any (Tryz.prog.wideKeysFrom ·)))=true:=by kernel_rfl
theorem k18:(Rows.shrinkRecordsSpec.vars.all (Tryz.prog.varReadable ·))=true:=by kernel_rfl
theorem k19:(Tryz.f7.resultTypes.all (fun t=>Tryz.prog.readableRec t&&decide (t<Tryz.prog.types.size)))=true:=by kernel_rfl
theorem k20:((Rows.shrinkRecordsRow.ifacesOut==Tryz.f7.resultTypes.toList.any (Tryz.prog.ifacesRec ·)))=true:=by kernel_rfl
theorem k21:((Rows.shrinkRecordsRow.loopsOut==Tryz.f7.resultTypes.toList.any (Tryz.prog.loopsFrom ·)))=true:=by kernel_rfl
theorem k22:((Rows.shrinkRecordsRow.plainKeys==Tryz.prog.plainKeys))=true:=by kernel_rfl
theorem k23:(Rows.shrinkRecordsRow.shortTexts.isNone)=true:=by kernel_rfl
theorem k24:(Tryz.prog.stopsHeard)=true:=by kernel_rfl
theorem k25:(Tryz.prog.mayEnter)=true:=by kernel_rfl
theorem k26:((Rows.shrinkRecordsRow.lifted==Tryz.prog.liftsFinal))=true:=by kernel_rfl
theorem k27:((Tryz.prog.make==some Rows.shrinkRecordsRow.make))=true:=by kernel_rfl
theorem k28:((Rows.shrinkRecordsRow.kinds==(if Rows.shrinkRecordsRow.domain.isEmpty then [] else Tryz.f7.params.toList.map fun t=>match Tryz.prog.underlying t with|some (.int k)=>some k|_=>none)))=true:=by kernel_rfl
theorem k29:((Rows.shrinkRecordsRow.pinned==Rows.shrinkRecordsRow.pinnedBy))=true:=by kernel_rfl
theorem k30:((Rows.shrinkRecordsRow.veiled==(Tryz.f7.params.toList++Rows.shrinkRecordsSpec.plain.varTypes Tryz.prog++Tryz.f7.resultTypes.toList).any (Tryz.prog.veiledRec ·)))=true:=by kernel_rfl
theorem k31:(Rows.shrinkRecordsRow.veiledFits Tryz.prog Tryz.f7.params.toList (Tryz.f7.params.toList++Rows.shrinkRecordsSpec.plain.varTypes Tryz.prog++Tryz.f7.resultTypes.toList))=true:=by kernel_rfl
set_option maxRecDepth 100000 in
theorem closed:joinedFacts Tryz.pinned.checked.prog 7 Tryz.f7 (OpenSpec.ofChange Rows.shrinkRecordsSpec).bare Rows.shrinkRecordsRow=true:=and2 (and2 (and2 (and2 (and2 (and2 (and2 (and2 (and2 (and2 (and2 (and2 (and2 (and2 (and2 (and2 (and2 (and2 (and2 (and2 (and2 (and2 (and2 (and2 (and2 (and2 (and2 (and2 (and2 (and2 (and2 (k0) k1) k2) k3) k4) k5) k6) k7) k8) k9) k10) k11) k12) k13) k14) k15) k16) k17) k18) k19) k20) k21) k22) k23) k24) k25) k26) k27) k28) k29) k30) k31
end Go.Proofs.YtobgljfnfpolkaaGreatDoor.shrinkRecords
