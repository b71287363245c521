/- The closed facts of the row historyValid that the kernel reckons, part a. -/
import Derived.Test.YtnjhpgmbfblgaaaGreatRows
import Derived.WalkKit
import Derived.ProofKit
namespace Go.Proofs.YtnjhpgmbfblgaaaGreat.Ord
open Go.ChangeShapes Go.WideShapes Go.ChangeAt Go.RowKit
set_option maxRecDepth 100000
theorem historyValid_j0 : (Rows.historyValidRow.wf (OpenSpec.ofChange Rows.historyValidSpec)) = true := by kernel_rfl
theorem historyValid_j3 : (Tryz.f5.params.all (Tryz.checked.prog.readableRec ·)) = true := by kernel_rfl
theorem historyValid_j4 : (namedTie Tryz.checked.prog Rows.historyValidRow.named Rows.historyValidSpec.vars) = true := by kernel_rfl
theorem historyValid_j7 : ((Rows.historyValidRow.knobs == [])) = true := by kernel_rfl
theorem historyValid_j8 : ((Tryz.checked.prog.stopKnobs == [])) = true := by kernel_rfl
theorem historyValid_j11 : ((Rows.historyValidRow.recurses == Tryz.checked.prog.recurses 5)) = true := by kernel_rfl
theorem historyValid_j12 : ((Rows.historyValidRow.named == Tryz.checked.prog.varsNamed 5)) = true := by kernel_rfl
theorem historyValid_j15 : ((Rows.historyValidRow.mapsOut == Tryz.checked.prog.mapsAmong Tryz.f5.resultTypes.toList)) = true := by kernel_rfl
theorem historyValid_j16 : ((Rows.historyValidRow.loops == (Tryz.f5.params.toList ++ Rows.historyValidSpec.plain.varTypes Tryz.checked.prog).any (Tryz.checked.prog.loopsFrom ·))) = true := by kernel_rfl
theorem historyValid_j19 : (Tryz.f5.resultTypes.all (fun t => Tryz.checked.prog.readableRec t && decide (t < Tryz.checked.prog.types.size))) = true := by kernel_rfl
theorem historyValid_j20 : ((Rows.historyValidRow.ifacesOut == Tryz.f5.resultTypes.toList.any (Tryz.checked.prog.ifacesRec ·))) = true := by kernel_rfl
theorem historyValid_j23 : (Rows.historyValidRow.shortTexts.isNone) = true := by kernel_rfl
theorem historyValid_j24 : (Tryz.checked.prog.stopsHeard) = true := by kernel_rfl
theorem historyValid_j27 : ((Tryz.checked.prog.make == some Rows.historyValidRow.make)) = true := by kernel_rfl
theorem historyValid_j28 : ((Rows.historyValidRow.kinds == (if Rows.historyValidRow.domain.isEmpty then [] else Tryz.f5.params.toList.map fun t => match Tryz.checked.prog.underlying t with | some (.int k) => some k | _ => none))) = true := by kernel_rfl
theorem historyValid_j31 : (Rows.historyValidRow.veiledFits Tryz.checked.prog Tryz.f5.params.toList (Tryz.f5.params.toList ++ Rows.historyValidSpec.plain.varTypes Tryz.checked.prog ++ Tryz.f5.resultTypes.toList)) = true := by kernel_rfl
end Go.Proofs.YtnjhpgmbfblgaaaGreat.Ord
