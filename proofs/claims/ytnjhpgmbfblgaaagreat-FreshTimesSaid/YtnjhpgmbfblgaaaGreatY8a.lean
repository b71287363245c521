/- The closed facts of the row freshTimes that the kernel reckons, part a. -/
import Derived.Test.YtnjhpgmbfblgaaaGreatRows
import Derived.WalkKit
import Derived.ProofKit
namespace Go.Proofs.YtnjhpgmbfblgaaaGreat.Ord
open Go.ChangeShapes Go.WideShapes Go.ChangeAt Go.RowKit
set_option maxRecDepth 100000
theorem freshTimes_j0 : (Rows.freshTimesRow.wf (OpenSpec.ofChange Rows.freshTimesSpec)) = true := by kernel_rfl
theorem freshTimes_j3 : (Tryz.f8.params.all (Tryz.checked.prog.readableRec ·)) = true := by kernel_rfl
theorem freshTimes_j4 : (namedTie Tryz.checked.prog Rows.freshTimesRow.named Rows.freshTimesSpec.vars) = true := by kernel_rfl
theorem freshTimes_j7 : ((Rows.freshTimesRow.knobs == [])) = true := by kernel_rfl
theorem freshTimes_j8 : ((Tryz.checked.prog.stopKnobs == [])) = true := by kernel_rfl
theorem freshTimes_j11 : ((Rows.freshTimesRow.recurses == Tryz.checked.prog.recurses 8)) = true := by kernel_rfl
theorem freshTimes_j12 : ((Rows.freshTimesRow.named == Tryz.checked.prog.varsNamed 8)) = true := by kernel_rfl
theorem freshTimes_j15 : ((Rows.freshTimesRow.mapsOut == Tryz.checked.prog.mapsAmong Tryz.f8.resultTypes.toList)) = true := by kernel_rfl
theorem freshTimes_j16 : ((Rows.freshTimesRow.loops == (Tryz.f8.params.toList ++ Rows.freshTimesSpec.plain.varTypes Tryz.checked.prog).any (Tryz.checked.prog.loopsFrom ·))) = true := by kernel_rfl
theorem freshTimes_j19 : (Tryz.f8.resultTypes.all (fun t => Tryz.checked.prog.readableRec t && decide (t < Tryz.checked.prog.types.size))) = true := by kernel_rfl
theorem freshTimes_j20 : ((Rows.freshTimesRow.ifacesOut == Tryz.f8.resultTypes.toList.any (Tryz.checked.prog.ifacesRec ·))) = true := by kernel_rfl
theorem freshTimes_j23 : (Rows.freshTimesRow.shortTexts.isNone) = true := by kernel_rfl
theorem freshTimes_j24 : (Tryz.checked.prog.stopsHeard) = true := by kernel_rfl
theorem freshTimes_j27 : ((Tryz.checked.prog.make == some Rows.freshTimesRow.make)) = true := by kernel_rfl
theorem freshTimes_j28 : ((Rows.freshTimesRow.kinds == (if Rows.freshTimesRow.domain.isEmpty then [] else Tryz.f8.params.toList.map fun t => match Tryz.checked.prog.underlying t with | some (.int k) => some k | _ => none))) = true := by kernel_rfl
theorem freshTimes_j31 : (Rows.freshTimesRow.veiledFits Tryz.checked.prog Tryz.f8.params.toList (Tryz.f8.params.toList ++ Rows.freshTimesSpec.plain.varTypes Tryz.checked.prog ++ Tryz.f8.resultTypes.toList)) = true := by kernel_rfl
end Go.Proofs.YtnjhpgmbfblgaaaGreat.Ord
