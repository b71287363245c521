/- The closed facts of the row historyOutputs that the kernel reckons, part b. -/
import Derived.Test.YtnjhpgmbfblgaaaGreatRows
import Derived.WalkKit
import Derived.ProofKit
namespace Go.Proofs.YtnjhpgmbfblgaaaGreat.Ord
open Go.ChangeShapes Go.WideShapes Go.ChangeAt Go.RowKit
set_option maxRecDepth 100000
theorem historyOutputs_j1 : (laidOutB Tryz.checked.prog) = true := by kernel_rfl
theorem historyOutputs_j5 : ((Rows.historyOutputsRow.stops == [])) = true := by kernel_rfl
theorem historyOutputs_j9 : ((Rows.historyOutputsRow.inPlace == Tryz.checked.prog.inPlace 4)) = true := by kernel_rfl
theorem historyOutputs_j13 : ((Rows.historyOutputsRow.maps == (Tryz.f4.params.toList ++ Rows.historyOutputsSpec.plain.varTypes Tryz.checked.prog).any (Tryz.checked.prog.mapsRec ·))) = true := by kernel_rfl
theorem historyOutputs_j17 : ((Rows.historyOutputsRow.wideKeys == (Tryz.f4.params.toList ++ Rows.historyOutputsSpec.plain.varTypes Tryz.checked.prog ++ Tryz.f4.resultTypes.toList).any (Tryz.checked.prog.wideKeysFrom ·))) = true := by kernel_rfl
theorem historyOutputs_j21 : ((Rows.historyOutputsRow.loopsOut == Tryz.f4.resultTypes.toList.any (Tryz.checked.prog.loopsFrom ·))) = true := by kernel_rfl
theorem historyOutputs_j25 : (Tryz.checked.prog.mayEnter) = true := by kernel_rfl
theorem historyOutputs_j29 : ((Rows.historyOutputsRow.pinned == Rows.historyOutputsRow.pinnedBy)) = true := by kernel_rfl
end Go.Proofs.YtnjhpgmbfblgaaaGreat.Ord
