/- The closed facts of the row of ShrinkLeast, one by one. -/
import Derived.Test.YtobgljfnfpolkaaGreatDoorRows
import Derived.WalkKit
import Derived.ProofKit
import Derived.JoinedCond
namespace Go.Proofs.YtobgljfnfpolkaaGreatDoor.shrinkLeast
theorem and2 {a b:Bool} (h:a=true) (g:b=true):(a&&b)=true:=by rw [h,g];rfl
theorem k0:(Rows.shrinkLeastRow.wf (OpenSpec.ofChange Rows.shrinkLeastSpec))=true:=by kernel_rfl
theorem k1:(laidOutB Tryz.prog)=true:=by kernel_rfl
theorem k2:(mapsRowed Tryz.prog)=true:=by kernel_rfl
theorem k3:(Tryz.f6.params.all (Tryz.prog.readableRec ·))=true:=by kernel_rfl
theorem k4:(namedTie Tryz.prog Rows.shrinkLeastRow.named Rows.shrinkLeastSpec.vars)=true:=by kernel_rfl
theorem k5:((Rows.shrinkLeastRow.stops==[]))=true:=by kernel_rfl
theorem k6:((Tryz.prog.stops==[]))=true:=by kernel_rfl
theorem k7:((Rows.shrinkLeastRow.knobs==[]))=true:=by kernel_rfl
theorem k8:((Tryz.prog.stopKnobs==[]))=true:=by kernel_rfl
theorem k9:((Rows.shrinkLeastRow.inPlace==Tryz.prog.inPlace 6))=true:=by kernel_rfl
theorem k10:((Rows.shrinkLeastRow.unfollowed==Tryz.prog.unfollowed 6))=true:=by kernel_rfl
theorem k11:((Rows.shrinkLeastRow.recurses==Tryz.prog.recurses 6))=true:=by kernel_rfl
theorem k12:((Rows.shrinkLeastRow.named==Tryz.prog.varsNamed 6))=true:=by kernel_rfl
theorem k13:((Rows.shrinkLeastRow.maps==(Tryz.f6.params.toList++Rows.shrinkLeastSpec.plain.varTypes Tryz.prog).any (Tryz.prog.mapsRec ·)))=true:=by kernel_rfl
theorem k14:((Rows.shrinkLeastRow.ifaces==(Tryz.f6.params.toList++Rows.shrinkLeastSpec.plain.varTypes Tryz.prog).any (Tryz.prog.ifacesRec ·)))=true:=by kernel_rfl
theorem k15:((Rows.shrinkLeastRow.mapsOut==Tryz.prog.mapsAmong Tryz.f6.resultTypes.toList))=true:=by kernel_rfl
theorem k16:((Rows.shrinkLeastRow.loops==(Tryz.f6.params.toList++Rows.shrinkLeastSpec.plain.varTypes Tryz.prog).any (Tryz.prog.loopsFrom ·)))=true:=by kernel_rfl
theorem k17:((Rows.shrinkLeastRow.wideKeys==(Tryz.f6.params.toList++Rows.shrinkLeastSpec.plain.varTypes Tryz.prog++Tryz.f6.resultTypes.toList).any (Tryz.prog.wideKeysFrom ·)))=true:=by kernel_rfl
theorem k18:(Rows.shrinkLeastSpec.vars.all (Tryz.prog.varReadable ·))=true:=by kernel_rfl
theorem k19:(Tryz.f6.resultTypes.all (fun t=>Tryz.prog.readableRec t&&decide (t<Tryz.prog.types.size)))=true:=by kernel_rfl
theorem k20:((Rows.shrinkLeastRow.ifacesOut==Tryz.f6.resultTypes.toList.any (Tryz.prog.ifacesRec ·)))=true:=by kernel_rfl
theorem k21:((Rows.shrinkLeastRow.loopsOut==Tryz.f6.resultTypes.toList.any (Tryz.prog.loopsFrom ·)))=true:=by kernel_rfl
theorem k22:((Rows.shrinkLeastRow.plainKeys==Tryz.prog.plainKeys))=true:=by kernel_rfl
theorem k23:(Rows.shrinkLeastRow.shortTexts.isNone)=true:=by kernel_rfl
theorem k24:(Tryz.prog.stopsHeard)=true:=by kernel_rfl
theorem k25:(Tryz.prog.mayEnter)=true:=by kernel_rfl
theorem k26:((Rows.shrinkLeastRow.lifted==Tryz.prog.liftsFinal))=true:=by kernel_rfl
theorem k27:((Tryz.prog.make==some Rows.shrinkLeastRow.make))=true:=by kernel_rfl
theorem k28:((Rows.shrinkLeastRow.kinds==(if Rows.shrinkLeastRow.domain.isEmpty then [] else Tryz.f6.params.toList.map fun t=>match Tryz.prog.underlying t with|some (.int k)=>some k|_=>none)))=true:=by kernel_rfl
theorem k29:((Rows.shrinkLeastRow.pinned==Rows.shrinkLeastRow.pinnedBy))=true:=by kernel_rfl
theorem k30:((Rows.shrinkLeastRow.veiled==(Tryz.f6.params.toList++Rows.shrinkLeastSpec.plain.varTypes Tryz.prog++Tryz.f6.resultTypes.toList).any (Tryz.prog.veiledRec ·)))=true:=by kernel_rfl
theorem k31:(Rows.shrinkLeastRow.veiledFits Tryz.prog Tryz.f6.params.toList (Tryz.f6.params.toList++Rows.shrinkLeastSpec.plain.varTypes Tryz.prog++Tryz.f6.resultTypes.toList))=true:=by kernel_rfl
set_option maxRecDepth 100000 in
theorem closed:joinedFacts Tryz.pinned.checked.prog 6 Tryz.f6 (OpenSpec.ofChange Rows.shrinkLeastSpec).bare Rows.shrinkLeastRow=true:=and2 (and2 (and2 (and2 (and2 (and2 (and2 (and2 (and2 (and2 (and2 (and2 (and2 (and2 (and2 (and2 (and2 (and2 (and2 (and2 (and2 (and2 (and2 (and2 (and2 (and2 (and2 (and2 (and2 (and2 (and2 (k0) k1) k2) k3) k4) k5) k6) k7) k8) k9) k10) k11) k12) k13) k14) k15) k16) k17) k18) k19) k20) k21) k22) k23) k24) k25) k26) k27) k28) k29) k30) k31
end Go.Proofs.YtobgljfnfpolkaaGreatDoor.shrinkLeast
