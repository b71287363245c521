/- The closed facts of the row freshTimes that the kernel reckons, part b. -/
import Derived.Test.YtnjhpgmbfblgaaaGreatRows
import Derived.WalkKit
import Derived.ProofKit
namespace Go.Proofs.YtnjhpgmbfblgaaaGreat.Ord
open Go.ChangeShapes Go.WideShapes Go.ChangeAt Go.RowKit
set_option maxRecDepth 100000
theorem freshTimes_j1 : (laidOutB Tryz.checked.prog) = true := by kernel_rfl
theorem freshTimes_j5 : ((Rows.freshTimesRow.stops == [])) = true := by kernel_rfl
theorem freshTimes_j9 : ((Rows.freshTimesRow.inPlace == Tryz.checked.prog.inPlace 8)) = true := by kernel_rfl
theorem freshTimes_j13 : ((Rows.freshTimesRow.maps == (Tryz.f8.params.toList ++ Rows.freshTimesSpec.plain.varTypes Tryz.checked.prog).any (Tryz.checked.prog.mapsRec ·))) = true := by kernel_rfl
theorem freshTimes_j17 : ((Rows.freshTimesRow.wideKeys == (Tryz.f8.params.toList ++ Rows.freshTimesSpec.plain.varTypes Tryz.checked.prog ++ Tryz.f8.resultTypes.toList).any (Tryz.checked.prog.wideKeysFrom ·))) = true := by kernel_rfl
theorem freshTimes_j21 : ((Rows.freshTimesRow.loopsOut == Tryz.f8.resultTypes.toList.any (Tryz.checked.prog.loopsFrom ·))) = true := by kernel_rfl
theorem freshTimes_j25 : (Tryz.checked.prog.mayEnter) = true := by kernel_rfl
theorem freshTimes_j29 : ((Rows.freshTimesRow.pinned == Rows.freshTimesRow.pinnedBy)) = true := by kernel_rfl
end Go.Proofs.YtnjhpgmbfblgaaaGreat.Ord
