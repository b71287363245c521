/- The closed facts of the row historyValid that the kernel reckons, part b. -/
import Derived.Test.YtnjhpgmbfblgaaaGreatRows
import Derived.WalkKit
import Derived.ProofKit
namespace Go.Proofs.YtnjhpgmbfblgaaaGreat.Ord
open Go.ChangeShapes Go.WideShapes Go.ChangeAt Go.RowKit
set_option maxRecDepth 100000
theorem historyValid_j1 : (laidOutB Tryz.checked.prog) = true := by kernel_rfl
theorem historyValid_j5 : ((Rows.historyValidRow.stops == [])) = true := by kernel_rfl
theorem historyValid_j9 : ((Rows.historyValidRow.inPlace == Tryz.checked.prog.inPlace 5)) = true := by kernel_rfl
theorem historyValid_j13 : ((Rows.historyValidRow.maps == (Tryz.f5.params.toList ++ Rows.historyValidSpec.plain.varTypes Tryz.checked.prog).any (Tryz.checked.prog.mapsRec ·))) = true := by kernel_rfl
theorem historyValid_j17 : ((Rows.historyValidRow.wideKeys == (Tryz.f5.params.toList ++ Rows.historyValidSpec.plain.varTypes Tryz.checked.prog ++ Tryz.f5.resultTypes.toList).any (Tryz.checked.prog.wideKeysFrom ·))) = true := by kernel_rfl
theorem historyValid_j21 : ((Rows.historyValidRow.loopsOut == Tryz.f5.resultTypes.toList.any (Tryz.checked.prog.loopsFrom ·))) = true := by kernel_rfl
theorem historyValid_j25 : (Tryz.checked.prog.mayEnter) = true := by kernel_rfl
theorem historyValid_j29 : ((Rows.historyValidRow.pinned == Rows.historyValidRow.pinnedBy)) = true := by kernel_rfl
end Go.Proofs.YtnjhpgmbfblgaaaGreat.Ord
