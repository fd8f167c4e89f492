/- The closed facts of the row of ShrinkAgain, one by one. -/
import Derived.Test.YtobgljfnfpolkaaGreatDoorRows
import Derived.WalkKit
import Derived.ProofKit
import Derived.JoinedCond
namespace Go.Proofs.YtobgljfnfpolkaaGreatDoor.shrinkAgain
theorem and2 {a b:Bool} (h:a=true) (g:b=true):(a&&b)=true:=by rw [h,g];rfl
theorem k0:(Rows.shrinkAgainRow.wf (OpenSpec.ofChange Rows.shrinkAgainSpec))=true:=by kernel_rfl
theorem k1:(laidOutB Tryz.prog)=true:=by kernel_rfl
theorem k2:(mapsRowed Tryz.prog)=true:=by kernel_rfl
theorem k3:(Tryz.f8.params.all (Tryz.prog.readableRec ·))=true:=by kernel_rfl
theorem k4:(namedTie Tryz.prog Rows.shrinkAgainRow.named Rows.shrinkAgainSpec.vars)=true:=by kernel_rfl
theorem k5:((Rows.shrinkAgainRow.stops==[]))=true:=by kernel_rfl
theorem k6:((Tryz.prog.stops==[]))=true:=by kernel_rfl
theorem k7:((Rows.shrinkAgainRow.knobs==[]))=true:=by kernel_rfl
theorem k8:((Tryz.prog.stopKnobs==[]))=true:=by kernel_rfl
theorem k9:((Rows.shrinkAgainRow.inPlace==Tryz.prog.inPlace 8))=true:=by kernel_rfl
theorem k10:((Rows.shrinkAgainRow.unfollowed==Tryz.prog.unfollowed 8))=true:=by kernel_rfl
theorem k11:((Rows.shrinkAgainRow.recurses==Tryz.prog.recurses 8))=true:=by kernel_rfl
theorem k12:((Rows.shrinkAgainRow.named==Tryz.prog.varsNamed 8))=true:=by kernel_rfl
theorem k13:((Rows.shrinkAgainRow.maps==(Tryz.f8.params.toList++Rows.shrinkAgainSpec.plain.varTypes Tryz.prog).any (Tryz.prog.mapsRec ·)))=true:=by kernel_rfl
theorem k14:((Rows.shrinkAgainRow.ifaces==(Tryz.f8.params.toList++Rows.shrinkAgainSpec.plain.varTypes Tryz.prog).any (Tryz.prog.ifacesRec ·)))=true:=by kernel_rfl
theorem k15:((Rows.shrinkAgainRow.mapsOut==Tryz.prog.mapsAmong Tryz.f8.resultTypes.toList))=true:=by kernel_rfl
theorem k16:((Rows.shrinkAgainRow.loops==(Tryz.f8.params.toList++Rows.shrinkAgainSpec.plain.varTypes Tryz.prog).any (Tryz.prog.loopsFrom ·)))=true:=by kernel_rfl
theorem k17:((Rows.shrinkAgainRow.wideKeys==(Tryz.f8.params.toList++Rows.shrinkAgainSpec.plain.varTypes Tryz.prog++Tryz.f8.resultTypes.toList).any (Tryz.prog.wideKeysFrom ·)))=true:=by kernel_rfl
theorem k18:(Rows.shrinkAgainSpec.vars.all (Tryz.prog.varReadable ·))=true:=by kernel_rfl
theorem k19:(Tryz.f8.resultTypes.all (fun t=>Tryz.prog.readableRec t&&decide (t<Tryz.prog.types.size)))=true:=by kernel_rfl
theorem k20:((Rows.shrinkAgainRow.ifacesOut==Tryz.f8.resultTypes.toList.any (Tryz.prog.ifacesRec ·)))=true:=by kernel_rfl
theorem k21:((Rows.shrinkAgainRow.loopsOut==Tryz.f8.resultTypes.toList.any (Tryz.prog.loopsFrom ·)))=true:=by kernel_rfl
theorem k22:((Rows.shrinkAgainRow.plainKeys==Tryz.prog.plainKeys))=true:=by kernel_rfl
theorem k23:(Rows.shrinkAgainRow.shortTexts.isNone)=true:=by kernel_rfl
theorem k24:(Tryz.prog.stopsHeard)=true:=by kernel_rfl
theorem k25:(Tryz.prog.mayEnter)=true:=by kernel_rfl
theorem k26:((Rows.shrinkAgainRow.lifted==Tryz.prog.liftsFinal))=true:=by kernel_rfl
theorem k27:((Tryz.prog.make==some Rows.shrinkAgainRow.make))=true:=by kernel_rfl
theorem k28:((Rows.shrinkAgainRow.kinds==(if Rows.shrinkAgainRow.domain.isEmpty then [] else Tryz.f8.params.toList.map fun t=>match Tryz.prog.underlying t with|some (.int k)=>some k|_=>none)))=true:=by kernel_rfl
theorem k29:((Rows.shrinkAgainRow.pinned==Rows.shrinkAgainRow.pinnedBy))=true:=by kernel_rfl
theorem k30:((Rows.shrinkAgainRow.veiled==(Tryz.f8.params.toList++Rows.shrinkAgainSpec.plain.varTypes Tryz.prog++Tryz.f8.resultTypes.toList).any (Tryz.prog.veiledRec ·)))=true:=by kernel_rfl
theorem k31:(Rows.shrinkAgainRow.veiledFits Tryz.prog Tryz.f8.params.toList (Tryz.f8.params.toList++Rows.shrinkAgainSpec.plain.varTypes Tryz.prog++Tryz.f8.resultTypes.toList))=true:=by kernel_rfl
set_option maxRecDepth 100000 in
theorem closed:joinedFacts Tryz.pinned.checked.prog 8 Tryz.f8 (OpenSpec.ofChange Rows.shrinkAgainSpec).bare Rows.shrinkAgainRow=true:=and2 (and2 (and2 (and2 (and2 (and2 (and2 (and2 (and2 (and2 (and2 (and2 (and2 (and2 (and2 (and2 (and2 (and2 (and2 (and2 (and2 (and2 (and2 (and2 (and2 (and2 (and2 (and2 (and2 (and2 (and2 (k0) k1) k2) k3) k4) k5) k6) k7) k8) k9) k10) k11) k12) k13) k14) k15) k16) k17) k18) k19) k20) k21) k22) k23) k24) k25) k26) k27) k28) k29) k30) k31
end Go.Proofs.YtobgljfnfpolkaaGreatDoor.shrinkAgain
