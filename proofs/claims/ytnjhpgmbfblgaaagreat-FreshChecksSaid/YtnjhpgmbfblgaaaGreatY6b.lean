/- The closed facts of the row freshChecks that the kernel reckons, part. -/
import Derived.Test.YtnjhpgmbfblgaaaGreatRows
import Derived.WalkKit
import Derived.ProofKit
namespace Go.Proofs.YtnjhpgmbfblgaaaGreat.Ord
open Go.ChangeShapes Go.WideShapes Go.ChangeAt Go.RowKit
set_option maxRecDepth 100000
theorem freshChecks_j1 : (laidOutB Tryz.checked.prog) = true := by kernel_rfl
theorem freshChecks_j5 : ((Rows.freshChecksRow.stops == [])) = true := by kernel_rfl
theorem freshChecks_j9 : ((Rows.freshChecksRow.inPlace == Tryz.checked.prog.inPlace 6)) = true := by kernel_rfl
theorem freshChecks_j13 : ((Rows.freshChecksRow.maps == (Tryz.f6.params.toList ++ Rows.freshChecksSpec.plain.varTypes Tryz.checked.prog).any (Tryz.checked.prog.mapsRec ·))) = true := by kernel_rfl
theorem freshChecks_j17 : ((Rows.freshChecksRow.wideKeys == (Tryz.f6.params.toList ++ Rows.freshChecksSpec.plain.varTypes Tryz.checked.prog ++ Tryz.f6.resultTypes.toList).any (Tryz.checked.prog.wideKeysFrom ·))) = true := by kernel_rfl
theorem freshChecks_j21 : ((Rows.freshChecksRow.loopsOut == Tryz.f6.resultTypes.toList.any (Tryz.checked.prog.loopsFrom ·))) = true := by kernel_rfl
theorem freshChecks_j25 : (Tryz.checked.prog.mayEnter) = true := by kernel_rfl
theorem freshChecks_j29 : ((Rows.freshChecksRow.pinned == Rows.freshChecksRow.pinnedBy)) = true := by kernel_rfl
end Go.Proofs.YtnjhpgmbfblgaaaGreat.Ord
