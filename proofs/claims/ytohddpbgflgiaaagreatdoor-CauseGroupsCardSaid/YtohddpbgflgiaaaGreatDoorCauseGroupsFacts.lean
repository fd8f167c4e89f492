/- The closed facts of the row of CauseGroups, one by one. -/
import Derived.Test.YtohddpbgflgiaaaGreatDoorRows
import Derived.WalkKit
import Derived.ProofKit
import Derived.JoinedCond
namespace Go.Proofs.YtohddpbgflgiaaaGreatDoor.causeGroups
theorem and2 {a b:Bool} (h:a=true) (g:b=true):(a&&b)=true:=by rw [h,g];rfl
theorem k0:(Rows.causeGroupsRow.wf (OpenSpec.ofChange Rows.causeGroupsSpec))=true:=by kernel_rfl
theorem k1:(laidOutB Tryz.prog)=true:=by kernel_rfl
theorem k2:(mapsRowed Tryz.prog)=true:=by kernel_rfl
theorem k3:(Tryz.f4.params.all (Tryz.prog.readableRec ·))=true:=by kernel_rfl
theorem k4:(namedTie Tryz.prog Rows.causeGroupsRow.named Rows.causeGroupsSpec.vars)=true:=by kernel_rfl
theorem k5:((Rows.causeGroupsRow.stops==[]))=true:=by kernel_rfl
theorem k6:((Tryz.prog.stops==[]))=true:=by kernel_rfl
theorem k7:((Rows.causeGroupsRow.knobs==[]))=true:=by kernel_rfl
theorem k8:((Tryz.prog.stopKnobs==[]))=true:=by kernel_rfl
theorem k9:((Rows.causeGroupsRow.inPlace==Tryz.prog.inPlace 4))=true:=by kernel_rfl
theorem k10:((Rows.causeGroupsRow.unfollowed==Tryz.prog.unfollowed 4))=true:=by kernel_rfl
theorem k11:((Rows.causeGroupsRow.recurses==Tryz.prog.recurses 4))=true:=by kernel_rfl
theorem k12:((Rows.causeGroupsRow.named==Tryz.prog.varsNamed 4))=true:=by kernel_rfl
theorem k13:((Rows.causeGroupsRow.maps==(Tryz.f4.params.toList++Rows.causeGroupsSpec.plain.varTypes Tryz.prog).any (Tryz.prog.mapsRec ·)))=true:=by kernel_rfl
theorem k14:((Rows.causeGroupsRow.ifaces==(Tryz.f4.params.toList++Rows.causeGroupsSpec.plain.varTypes Tryz.prog).any (Tryz.prog.ifacesRec ·)))=true:=by kernel_rfl
theorem k15:((Rows.causeGroupsRow.mapsOut==Tryz.prog.mapsAmong Tryz.f4.resultTypes.toList))=true:=by kernel_rfl
theorem k16:((Rows.causeGroupsRow.loops==(Tryz.f4.params.toList++Rows.causeGroupsSpec.plain.varTypes Tryz.prog).any (Tryz.prog.loopsFrom ·)))=true:=by kernel_rfl
theorem k17:((Rows.causeGroupsRow.wideKeys==(Tryz.f4.params.toList++Rows.causeGroupsSpec.plain.varTypes Tryz.prog++Tryz.f4.resultTypes.toList).any (Tryz.prog.wideKeysFrom ·)))=true:=by kernel_rfl
theorem k18:(Rows.causeGroupsSpec.vars.all (Tryz.prog.varReadable ·))=true:=by kernel_rfl
theorem k19:(Tryz.f4.resultTypes.all (fun t=>Tryz.prog.readableRec t&&decide (t<Tryz.prog.types.size)))=true:=by kernel_rfl
theorem k20:((Rows.causeGroupsRow.ifacesOut==Tryz.f4.resultTypes.toList.any (Tryz.prog.ifacesRec ·)))=true:=by kernel_rfl
theorem k21:((Rows.causeGroupsRow.loopsOut==Tryz.f4.resultTypes.toList.any (Tryz.prog.loopsFrom ·)))=true:=by kernel_rfl
theorem k22:((Rows.causeGroupsRow.plainKeys==Tryz.prog.plainKeys))=true:=by kernel_rfl
theorem k23:(Rows.causeGroupsRow.shortTexts.isNone)=true:=by kernel_rfl
theorem k24:(Tryz.prog.stopsHeard)=true:=by kernel_rfl
theorem k25:(Tryz.prog.mayEnter)=true:=by kernel_rfl
theorem k26:((Rows.causeGroupsRow.lifted==Tryz.prog.liftsFinal))=true:=by kernel_rfl
theorem k27:((Tryz.prog.make==some Rows.causeGroupsRow.make))=true:=by kernel_rfl
theorem k28:((Rows.causeGroupsRow.kinds==(if Rows.causeGroupsRow.domain.isEmpty then [] else Tryz.f4.params.toList.map fun t=>match Tryz.prog.underlying t with|some (.int k)=>some k|_=>none)))=true:=by kernel_rfl
theorem k29:((Rows.causeGroupsRow.pinned==Rows.causeGroupsRow.pinnedBy))=true:=by kernel_rfl
theorem k30:((Rows.causeGroupsRow.veiled==(Tryz.f4.params.toList++Rows.causeGroupsSpec.plain.varTypes Tryz.prog++Tryz.f4.resultTypes.toList).any (Tryz.prog.veiledRec ·)))=true:=by kernel_rfl
theorem k31:(Rows.causeGroupsRow.veiledFits Tryz.prog Tryz.f4.params.toList (Tryz.f4.params.toList++Rows.causeGroupsSpec.plain.varTypes Tryz.prog++Tryz.f4.resultTypes.toList))=true:=by kernel_rfl
set_option maxRecDepth 100000 in
theorem closed:joinedFacts Tryz.pinned.checked.prog 4 Tryz.f4 (OpenSpec.ofChange Rows.causeGroupsSpec).bare Rows.causeGroupsRow=true:=and2 (and2 (and2 (and2 (and2 (and2 (and2 (and2 (and2 (and2 (and2 (and2 (and2 (and2 (and2 (and2 (and2 (and2 (and2 (and2 (and2 (and2 (and2 (and2 (and2 (and2 (and2 (and2 (and2 (and2 (and2 (k0) k1) k2) k3) k4) k5) k6) k7) k8) k9) k10) k11) k12) k13) k14) k15) k16) k17) k18) k19) k20) k21) k22) k23) k24) k25) k26) k27) k28) k29) k30) k31
end Go.Proofs.YtohddpbgflgiaaaGreatDoor.causeGroups
