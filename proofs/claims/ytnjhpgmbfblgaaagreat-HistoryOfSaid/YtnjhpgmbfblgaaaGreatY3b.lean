/- The closed facts of the row historyOf that the kernel reckons, part b. -/
import Derived.Test.YtnjhpgmbfblgaaaGreatRows
import Derived.WalkKit
import Derived.ProofKit
namespace Go.Proofs.YtnjhpgmbfblgaaaGreat.Ord
open Go.ChangeShapes Go.WideShapes Go.ChangeAt Go.RowKit
set_option maxRecDepth 100000
theorem hO1 : (laidOutB Tryz.checked.prog) = true := by kernel_rfl
theorem hO5 : ((Rows.historyOfRow.stops == [])) = true := by kernel_rfl
theorem hO9 : ((Rows.historyOfRow.inPlace == Tryz.checked.prog.inPlace 3)) = true := by kernel_rfl
theorem hO13 : ((Rows.historyOfRow.maps == (Tryz.f3.params.toList ++ Rows.historyOfSpec.plain.varTypes Tryz.checked.prog).any (Tryz.checked.prog.mapsRec ·))) = true := by kernel_rfl
theorem hO17 : ((Rows.historyOfRow.wideKeys == (Tryz.f3.params.toList ++ Rows.historyOfSpec.plain.varTypes Tryz.checked.prog ++ Tryz.f3.resultTypes.toList).any (Tryz.checked.prog.wideKeysFrom ·))) = true := by kernel_rfl
theorem hO21 : ((Rows.historyOfRow.loopsOut == Tryz.f3.resultTypes.toList.any (Tryz.checked.prog.loopsFrom ·))) = true := by kernel_rfl
theorem hO25 : (Tryz.checked.prog.mayEnter) = true := by kernel_rfl
theorem hO29 : ((Rows.historyOfRow.pinned == Rows.historyOfRow.pinnedBy)) = true := by kernel_rfl
end Go.Proofs.YtnjhpgmbfblgaaaGreat.Ord
