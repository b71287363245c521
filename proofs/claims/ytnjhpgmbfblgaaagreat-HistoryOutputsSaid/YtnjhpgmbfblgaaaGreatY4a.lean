/- The closed facts of the row historyOutputs that the kernel reckons, part a. -/
import Derived.Test.YtnjhpgmbfblgaaaGreatRows
import Derived.WalkKit
import Derived.ProofKit
namespace Go.Proofs.YtnjhpgmbfblgaaaGreat.Ord
open Go.ChangeShapes Go.WideShapes Go.ChangeAt Go.RowKit
set_option maxRecDepth 100000
theorem historyOutputs_j0 : (Rows.historyOutputsRow.wf (OpenSpec.ofChange Rows.historyOutputsSpec)) = true := by kernel_rfl
theorem historyOutputs_j3 : (Tryz.f4.params.all (Tryz.checked.prog.readableRec ·)) = true := by kernel_rfl
theorem historyOutputs_j4 : (namedTie Tryz.checked.prog Rows.historyOutputsRow.named Rows.historyOutputsSpec.vars) = true := by kernel_rfl
theorem historyOutputs_j7 : ((Rows.historyOutputsRow.knobs == [])) = true := by kernel_rfl
theorem historyOutputs_j8 : ((Tryz.checked.prog.stopKnobs == [])) = true := by kernel_rfl
theorem historyOutputs_j11 : ((Rows.historyOutputsRow.recurses == Tryz.checked.prog.recurses 4)) = true := by kernel_rfl
theorem historyOutputs_j12 : ((Rows.historyOutputsRow.named == Tryz.checked.prog.varsNamed 4)) = true := by kernel_rfl
theorem historyOutputs_j15 : ((Rows.historyOutputsRow.mapsOut == Tryz.checked.prog.mapsAmong Tryz.f4.resultTypes.toList)) = true := by kernel_rfl
theorem historyOutputs_j16 : ((Rows.historyOutputsRow.loops == (Tryz.f4.params.toList ++ Rows.historyOutputsSpec.plain.varTypes Tryz.checked.prog).any (Tryz.checked.prog.loopsFrom ·))) = true := by kernel_rfl
theorem historyOutputs_j19 : (Tryz.f4.resultTypes.all (fun t => Tryz.checked.prog.readableRec t && decide (t < Tryz.checked.prog.types.size))) = true := by kernel_rfl
theorem historyOutputs_j20 : ((Rows.historyOutputsRow.ifacesOut == Tryz.f4.resultTypes.toList.any (Tryz.checked.prog.ifacesRec ·))) = true := by kernel_rfl
theorem historyOutputs_j23 : (Rows.historyOutputsRow.shortTexts.isNone) = true := by kernel_rfl
theorem historyOutputs_j24 : (Tryz.checked.prog.stopsHeard) = true := by kernel_rfl
theorem historyOutputs_j27 : ((Tryz.checked.prog.make == some Rows.historyOutputsRow.make)) = true := by kernel_rfl
theorem historyOutputs_j28 : ((Rows.historyOutputsRow.kinds == (if Rows.historyOutputsRow.domain.isEmpty then [] else Tryz.f4.params.toList.map fun t => match Tryz.checked.prog.underlying t with | some (.int k) => some k | _ => none))) = true := by kernel_rfl
theorem historyOutputs_j31 : (Rows.historyOutputsRow.veiledFits Tryz.checked.prog Tryz.f4.params.toList (Tryz.f4.params.toList ++ Rows.historyOutputsSpec.plain.varTypes Tryz.checked.prog ++ Tryz.f4.resultTypes.toList)) = true := by kernel_rfl
end Go.Proofs.YtnjhpgmbfblgaaaGreat.Ord
