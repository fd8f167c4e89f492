/- The closed facts of the row of CauseAlike, one by one. -/
import Derived.Test.YtohddpbgflgiaaaGreatDoorRows
import Derived.WalkKit
import Derived.ProofKit
import Derived.JoinedCond
namespace Go.Proofs.YtohddpbgflgiaaaGreatDoor.causeAlike
theorem and2 {a b:Bool} (h:a=true) (g:b=true):(a&&b)=true:=by rw [h,g];rfl
theorem k0:(Rows.causeAlikeRow.wf (OpenSpec.ofChange Rows.causeAlikeSpec))=true:=by kernel_rfl
theorem k1:(laidOutB Tryz.prog)=true:=by kernel_rfl
theorem k2:(mapsRowed Tryz.prog)=true:=by kernel_rfl
theorem k3:(Tryz.f3.params.all (Tryz.prog.readableRec ·))=true:=by kernel_rfl
theorem k4:(namedTie Tryz.prog Rows.causeAlikeRow.named Rows.causeAlikeSpec.vars)=true:=by kernel_rfl
theorem k5:((Rows.causeAlikeRow.stops==[]))=true:=by kernel_rfl
theorem k6:((Tryz.prog.stops==[]))=true:=by kernel_rfl
theorem k7:((Rows.causeAlikeRow.knobs==[]))=true:=by kernel_rfl
theorem k8:((Tryz.prog.stopKnobs==[]))=true:=by kernel_rfl
theorem k9:((Rows.causeAlikeRow.inPlace==Tryz.prog.inPlace 3))=true:=by kernel_rfl
theorem k10:((Rows.causeAlikeRow.unfollowed==Tryz.prog.unfollowed 3))=true:=by kernel_rfl
theorem k11:((Rows.causeAlikeRow.recurses==Tryz.prog.recurses 3))=true:=by kernel_rfl
theorem k12:((Rows.causeAlikeRow.named==Tryz.prog.varsNamed 3))=true:=by kernel_rfl
theorem k13:((Rows.causeAlikeRow.maps==(Tryz.f3.params.toList++Rows.causeAlikeSpec.plain.varTypes Tryz.prog).any (Tryz.prog.mapsRec ·)))=true:=by kernel_rfl
theorem k14:((Rows.causeAlikeRow.ifaces==(Tryz.f3.params.toList++Rows.causeAlikeSpec.plain.varTypes Tryz.prog).any (Tryz.prog.ifacesRec ·)))=true:=by kernel_rfl
theorem k15:((Rows.causeAlikeRow.mapsOut==Tryz.prog.mapsAmong Tryz.f3.resultTypes.toList))=true:=by kernel_rfl
theorem k16:((Rows.causeAlikeRow.loops==(Tryz.f3.params.toList++Rows.causeAlikeSpec.plain.varTypes Tryz.prog).any (Tryz.prog.loopsFrom ·)))=true:=by kernel_rfl
theorem k17:((Rows.causeAlikeRow.wideKeys==(Tryz.f3.params.toList++Rows.causeAlikeSpec.plain.varTypes Tryz.prog++Tryz.f3.resultTypes.toList).any (Tryz.prog.wideKeysFrom ·)))=true:=by kernel_rfl
theorem k18:(Rows.causeAlikeSpec.vars.all (Tryz.prog.varReadable ·))=true:=by kernel_rfl
theorem k19:(Tryz.f3.resultTypes.all (fun t=>Tryz.prog.readableRec t&&decide (t<Tryz.prog.types.size)))=true:=by kernel_rfl
theorem k20:((Rows.causeAlikeRow.ifacesOut==Tryz.f3.resultTypes.toList.any (Tryz.prog.ifacesRec ·)))=true:=by kernel_rfl
theorem k21:((Rows.causeAlikeRow.loopsOut==Tryz.f3.resultTypes.toList.any (Tryz.prog.loopsFrom ·)))=true:=by kernel_rfl
theorem k22:((Rows.causeAlikeRow.plainKeys==Tryz.prog.plainKeys))=true:=by kernel_rfl
theorem k23:(Rows.causeAlikeRow.shortTexts.isNone)=true:=by kernel_rfl
theorem k24:(Tryz.prog.stopsHeard)=true:=by kernel_rfl
theorem k25:(Tryz.prog.mayEnter)=true:=by kernel_rfl
theorem k26:((Rows.causeAlikeRow.lifted==Tryz.prog.liftsFinal))=true:=by kernel_rfl
theorem k27:((Tryz.prog.make==some Rows.causeAlikeRow.make))=true:=by kernel_rfl
theorem k28:((Rows.causeAlikeRow.kinds==(if Rows.causeAlikeRow.domain.isEmpty then [] else Tryz.f3.params.toList.map fun t=>match Tryz.prog.underlying t with|some (.int k)=>some k|_=>none)))=true:=by kernel_rfl
theorem k29:((Rows.causeAlikeRow.pinned==Rows.causeAlikeRow.pinnedBy))=true:=by kernel_rfl
theorem k30:((Rows.causeAlikeRow.veiled==(Tryz.f3.params.toList++Rows.causeAlikeSpec.plain.varTypes Tryz.prog++Tryz.f3.resultTypes.toList).any (Tryz.prog.veiledRec ·)))=true:=by kernel_rfl
theorem k31:(Rows.causeAlikeRow.veiledFits Tryz.prog Tryz.f3.params.toList (Tryz.f3.params.toList++Rows.causeAlikeSpec.plain.varTypes Tryz.prog++Tryz.f3.resultTypes.toList))=true:=by kernel_rfl
set_option maxRecDepth 100000 in
theorem closed:joinedFacts Tryz.pinned.checked.prog 3 Tryz.f3 (OpenSpec.ofChange Rows.causeAlikeSpec).bare Rows.causeAlikeRow=true:=and2 (and2 (and2 (and2 (and2 (and2 (and2 (and2 (and2 (and2 (and2 (and2 (and2 (and2 (and2 (and2 (and2 (and2 (and2 (and2 (and2 (and2 (and2 (and2 (and2 (and2 (and2 (and2 (and2 (and2 (and2 (k0) k1) k2) k3) k4) k5) k6) k7) k8) k9) k10) k11) k12) k13) k14) k15) k16) k17) k18) k19) k20) k21) k22) k23) k24) k25) k26) k27) k28) k29) k30) k31
end Go.Proofs.YtohddpbgflgiaaaGreatDoor.causeAlike
