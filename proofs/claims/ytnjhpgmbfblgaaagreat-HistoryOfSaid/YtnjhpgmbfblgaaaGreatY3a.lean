/- The closed facts of the row historyOf that the kernel reckons, part a. -/
import Derived.Test.YtnjhpgmbfblgaaaGreatRows
import Derived.WalkKit
import Derived.ProofKit
namespace Go.Proofs.YtnjhpgmbfblgaaaGreat.Ord
open Go.ChangeShapes Go.WideShapes Go.ChangeAt Go.RowKit
set_option maxRecDepth 100000
theorem hO0 : (Rows.historyOfRow.wf (OpenSpec.ofChange Rows.historyOfSpec)) = true := by kernel_rfl
theorem hO3 : (Tryz.f3.params.all (Tryz.checked.prog.readableRec ·)) = true := by kernel_rfl
theorem hO4 : (namedTie Tryz.checked.prog Rows.historyOfRow.named Rows.historyOfSpec.vars) = true := by kernel_rfl
theorem hO7 : ((Rows.historyOfRow.knobs == [])) = true := by kernel_rfl
theorem hO8 : ((Tryz.checked.prog.stopKnobs == [])) = true := by kernel_rfl
theorem hO11 : ((Rows.historyOfRow.recurses == Tryz.checked.prog.recurses 3)) = true := by kernel_rfl
theorem hO12 : ((Rows.historyOfRow.named == Tryz.checked.prog.varsNamed 3)) = true := by kernel_rfl
theorem hO15 : ((Rows.historyOfRow.mapsOut == Tryz.checked.prog.mapsAmong Tryz.f3.resultTypes.toList)) = true := by kernel_rfl
theorem hO16 : ((Rows.historyOfRow.loops == (Tryz.f3.params.toList ++ Rows.historyOfSpec.plain.varTypes Tryz.checked.prog).any (Tryz.checked.prog.loopsFrom ·))) = true := by kernel_rfl
theorem hO19 : (Tryz.f3.resultTypes.all (fun t => Tryz.checked.prog.readableRec t && decide (t < Tryz.checked.prog.types.size))) = true := by kernel_rfl
theorem hO20 : ((Rows.historyOfRow.ifacesOut == Tryz.f3.resultTypes.toList.any (Tryz.checked.prog.ifacesRec ·))) = true := by kernel_rfl
theorem hO23 : (Rows.historyOfRow.shortTexts.isNone) = true := by kernel_rfl
theorem hO24 : (Tryz.checked.prog.stopsHeard) = true := by kernel_rfl
theorem hO27 : ((Tryz.checked.prog.make == some Rows.historyOfRow.make)) = true := by kernel_rfl
theorem hO28 : ((Rows.historyOfRow.kinds == (if Rows.historyOfRow.domain.isEmpty then [] else Tryz.f3.params.toList.map fun t => match Tryz.checked.prog.underlying t with | some (.int k) => some k | _ => none))) = true := by kernel_rfl
theorem hO31 : (Rows.historyOfRow.veiledFits Tryz.checked.prog Tryz.f3.params.toList (Tryz.f3.params.toList ++ Rows.historyOfSpec.plain.varTypes Tryz.checked.prog ++ Tryz.f3.resultTypes.toList)) = true := by kernel_rfl
end Go.Proofs.YtnjhpgmbfblgaaaGreat.Ord
