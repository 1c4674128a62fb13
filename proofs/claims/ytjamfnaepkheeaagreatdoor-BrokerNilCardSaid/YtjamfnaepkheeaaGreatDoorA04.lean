/- Part 4 of the proof: BrokerNil returns true at every operation and leaves its argument as it was (the tied card, no condition). -/
import Derived.Test.YtjamfnaepkheeaaGreatDoorA03

/- The closed facts of a row, one by one. -/
namespace Go.Proofs.YtjamfnaepkheeaaGreatDoor
open Go Go.ChangeShapes Go.WideShapes Go.ChangeAt Go.RowKit
theorem facts4_k0 : (Rows.brokerNilRow.wf (OpenSpec.ofChange Rows.brokerNilSpec)) = true := by kernel_rfl
theorem facts4_k1 : (laidOutB Tryz.prog) = true := by kernel_rfl
theorem facts4_k2 : (mapsRowed Tryz.prog) = true := by kernel_rfl
theorem facts4_k3 : (Tryz.f4.params.all (Tryz.prog.readableRec ·)) = true := by kernel_rfl
theorem facts4_k4 : (namedTie Tryz.prog Rows.brokerNilRow.named Rows.brokerNilSpec.vars) = true := by kernel_rfl
theorem facts4_k5 : ((Rows.brokerNilRow.stops == [])) = true := by kernel_rfl
theorem facts4_k6 : ((Tryz.prog.stops == [])) = true := by kernel_rfl
theorem facts4_k7 : ((Rows.brokerNilRow.knobs == [])) = true := by kernel_rfl
theorem facts4_k8 : ((Tryz.prog.stopKnobs == [])) = true := by kernel_rfl
theorem facts4_k9 : ((Rows.brokerNilRow.inPlace == Tryz.prog.inPlace (4 : FuncId))) = true := by kernel_rfl
theorem facts4_k10 : ((Rows.brokerNilRow.unfollowed == Tryz.prog.unfollowed (4 : FuncId))) = true := by kernel_rfl
theorem facts4_k11 : ((Rows.brokerNilRow.recurses == Tryz.prog.recurses (4 : FuncId))) = true := by kernel_rfl
theorem facts4_k12 : ((Rows.brokerNilRow.named == Tryz.prog.varsNamed (4 : FuncId))) = true := by kernel_rfl
theorem facts4_k13 : ((Rows.brokerNilRow.maps == (Tryz.f4.params.toList ++ Rows.brokerNilSpec.plain.varTypes Tryz.prog).any (Tryz.prog.mapsRec ·))) = true := by kernel_rfl
theorem facts4_k14 : ((Rows.brokerNilRow.ifaces == (Tryz.f4.params.toList ++ Rows.brokerNilSpec.plain.varTypes Tryz.prog).any (Tryz.prog.ifacesRec ·))) = true := by kernel_rfl
theorem facts4_k15 : ((Rows.brokerNilRow.mapsOut == Tryz.prog.mapsAmong Tryz.f4.resultTypes.toList)) = true := by kernel_rfl
theorem facts4_k16 : ((Rows.brokerNilRow.loops == (Tryz.f4.params.toList ++ Rows.brokerNilSpec.plain.varTypes Tryz.prog).any (Tryz.prog.loopsFrom ·))) = true := by kernel_rfl
theorem facts4_k17 : ((Rows.brokerNilRow.wideKeys == (Tryz.f4.params.toList ++ Rows.brokerNilSpec.plain.varTypes Tryz.prog ++ Tryz.f4.resultTypes.toList).any (Tryz.prog.wideKeysFrom ·))) = true := by kernel_rfl
theorem facts4_k18 : (Rows.brokerNilSpec.vars.all (Tryz.prog.varReadable ·)) = true := by kernel_rfl
theorem facts4_k19 : (Tryz.f4.resultTypes.all (fun t => Tryz.prog.readableRec t && decide (t < Tryz.prog.types.size))) = true := by kernel_rfl
theorem facts4_k20 : ((Rows.brokerNilRow.ifacesOut == Tryz.f4.resultTypes.toList.any (Tryz.prog.ifacesRec ·))) = true := by kernel_rfl
theorem facts4_k21 : ((Rows.brokerNilRow.loopsOut == Tryz.f4.resultTypes.toList.any (Tryz.prog.loopsFrom ·))) = true := by kernel_rfl
theorem facts4_k22 : ((Rows.brokerNilRow.plainKeys == Tryz.prog.plainKeys)) = true := by kernel_rfl
theorem facts4_k23 : (Rows.brokerNilRow.shortTexts.isNone) = true := by kernel_rfl
theorem facts4_k24 : (Tryz.prog.stopsHeard) = true := by kernel_rfl
theorem facts4_k25 : (Tryz.prog.mayEnter) = true := by kernel_rfl
theorem facts4_k26 : ((Rows.brokerNilRow.lifted == Tryz.prog.liftsFinal)) = true := by kernel_rfl
theorem facts4_k27 : ((Tryz.prog.make == some Rows.brokerNilRow.make)) = true := by kernel_rfl
theorem facts4_k28 : ((Rows.brokerNilRow.kinds == (if Rows.brokerNilRow.domain.isEmpty then [] else Tryz.f4.params.toList.map fun t => match Tryz.prog.underlying t with | some (.int k) => some k | _ => none))) = true := by kernel_rfl
theorem facts4_k29 : ((Rows.brokerNilRow.pinned == Rows.brokerNilRow.pinnedBy)) = true := by kernel_rfl
theorem facts4_k30 : ((Rows.brokerNilRow.veiled == (Tryz.f4.params.toList ++ Rows.brokerNilSpec.plain.varTypes Tryz.prog ++ Tryz.f4.resultTypes.toList).any (Tryz.prog.veiledRec ·))) = true := by kernel_rfl
theorem facts4_k31 : (Rows.brokerNilRow.veiledFits Tryz.prog Tryz.f4.params.toList (Tryz.f4.params.toList ++ Rows.brokerNilSpec.plain.varTypes Tryz.prog ++ Tryz.f4.resultTypes.toList)) = true := by kernel_rfl
end Go.Proofs.YtjamfnaepkheeaaGreatDoor
