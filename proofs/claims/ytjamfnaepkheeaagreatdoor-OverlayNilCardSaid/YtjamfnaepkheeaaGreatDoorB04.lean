/- Part 4 of the proof: OverlayNil returns true at every operation and leaves its argument as it was (the tied card, no condition). -/
import Derived.Test.YtjamfnaepkheeaaGreatDoorB03

/- The closed facts of a row, one by one. -/
namespace Go.Proofs.YtjamfnaepkheeaaGreatDoor
open Go Go.ChangeShapes Go.WideShapes Go.ChangeAt Go.RowKit
theorem facts5_k0 : (Rows.overlayNilRow.wf (OpenSpec.ofChange Rows.overlayNilSpec)) = true := by kernel_rfl
theorem facts5_k1 : (laidOutB Tryz.prog) = true := by kernel_rfl
theorem facts5_k2 : (mapsRowed Tryz.prog) = true := by kernel_rfl
theorem facts5_k3 : (Tryz.f5.params.all (Tryz.prog.readableRec ·)) = true := by kernel_rfl
theorem facts5_k4 : (namedTie Tryz.prog Rows.overlayNilRow.named Rows.overlayNilSpec.vars) = true := by kernel_rfl
theorem facts5_k5 : ((Rows.overlayNilRow.stops == [])) = true := by kernel_rfl
theorem facts5_k6 : ((Tryz.prog.stops == [])) = true := by kernel_rfl
theorem facts5_k7 : ((Rows.overlayNilRow.knobs == [])) = true := by kernel_rfl
theorem facts5_k8 : ((Tryz.prog.stopKnobs == [])) = true := by kernel_rfl
theorem facts5_k9 : ((Rows.overlayNilRow.inPlace == Tryz.prog.inPlace (5 : FuncId))) = true := by kernel_rfl
theorem facts5_k10 : ((Rows.overlayNilRow.unfollowed == Tryz.prog.unfollowed (5 : FuncId))) = true := by kernel_rfl
theorem facts5_k11 : ((Rows.overlayNilRow.recurses == Tryz.prog.recurses (5 : FuncId))) = true := by kernel_rfl
theorem facts5_k12 : ((Rows.overlayNilRow.named == Tryz.prog.varsNamed (5 : FuncId))) = true := by kernel_rfl
theorem facts5_k13 : ((Rows.overlayNilRow.maps == (Tryz.f5.params.toList ++ Rows.overlayNilSpec.plain.varTypes Tryz.prog).any (Tryz.prog.mapsRec ·))) = true := by kernel_rfl
theorem facts5_k14 : ((Rows.overlayNilRow.ifaces == (Tryz.f5.params.toList ++ Rows.overlayNilSpec.plain.varTypes Tryz.prog).any (Tryz.prog.ifacesRec ·))) = true := by kernel_rfl
theorem facts5_k15 : ((Rows.overlayNilRow.mapsOut == Tryz.prog.mapsAmong Tryz.f5.resultTypes.toList)) = true := by kernel_rfl
theorem facts5_k16 : ((Rows.overlayNilRow.loops == (Tryz.f5.params.toList ++ Rows.overlayNilSpec.plain.varTypes Tryz.prog).any (Tryz.prog.loopsFrom ·))) = true := by kernel_rfl
theorem facts5_k17 : ((Rows.overlayNilRow.wideKeys == (Tryz.f5.params.toList ++ Rows.overlayNilSpec.plain.varTypes Tryz.prog ++ Tryz.f5.resultTypes.toList).any (Tryz.prog.wideKeysFrom ·))) = true := by kernel_rfl
theorem facts5_k18 : (Rows.overlayNilSpec.vars.all (Tryz.prog.varReadable ·)) = true := by kernel_rfl
theorem facts5_k19 : (Tryz.f5.resultTypes.all (fun t => Tryz.prog.readableRec t && decide (t < Tryz.prog.types.size))) = true := by kernel_rfl
theorem facts5_k20 : ((Rows.overlayNilRow.ifacesOut == Tryz.f5.resultTypes.toList.any (Tryz.prog.ifacesRec ·))) = true := by kernel_rfl
theorem facts5_k21 : ((Rows.overlayNilRow.loopsOut == Tryz.f5.resultTypes.toList.any (Tryz.prog.loopsFrom ·))) = true := by kernel_rfl
theorem facts5_k22 : ((Rows.overlayNilRow.plainKeys == Tryz.prog.plainKeys)) = true := by kernel_rfl
theorem facts5_k23 : (Rows.overlayNilRow.shortTexts.isNone) = true := by kernel_rfl
theorem facts5_k24 : (Tryz.prog.stopsHeard) = true := by kernel_rfl
theorem facts5_k25 : (Tryz.prog.mayEnter) = true := by kernel_rfl
theorem facts5_k26 : ((Rows.overlayNilRow.lifted == Tryz.prog.liftsFinal)) = true := by kernel_rfl
theorem facts5_k27 : ((Tryz.prog.make == some Rows.overlayNilRow.make)) = true := by kernel_rfl
theorem facts5_k28 : ((Rows.overlayNilRow.kinds == (if Rows.overlayNilRow.domain.isEmpty then [] else Tryz.f5.params.toList.map fun t => match Tryz.prog.underlying t with | some (.int k) => some k | _ => none))) = true := by kernel_rfl
theorem facts5_k29 : ((Rows.overlayNilRow.pinned == Rows.overlayNilRow.pinnedBy)) = true := by kernel_rfl
theorem facts5_k30 : ((Rows.overlayNilRow.veiled == (Tryz.f5.params.toList ++ Rows.overlayNilSpec.plain.varTypes Tryz.prog ++ Tryz.f5.resultTypes.toList).any (Tryz.prog.veiledRec ·))) = true := by kernel_rfl
theorem facts5_k31 : (Rows.overlayNilRow.veiledFits Tryz.prog Tryz.f5.params.toList (Tryz.f5.params.toList ++ Rows.overlayNilSpec.plain.varTypes Tryz.prog ++ Tryz.f5.resultTypes.toList)) = true := by kernel_rfl
end Go.Proofs.YtjamfnaepkheeaaGreatDoor
