/- The closed facts of the row freshChecks that the kernel reckons, part. -/
import Derived.Test.YtnjhpgmbfblgaaaGreatRows
import Derived.WalkKit
import Derived.ProofKit
namespace Go.Proofs.YtnjhpgmbfblgaaaGreat.Ord
open Go.ChangeShapes Go.WideShapes Go.ChangeAt Go.RowKit
set_option maxRecDepth 100000
theorem freshChecks_j2 : (mapsRowed Tryz.checked.prog) = true := by kernel_rfl
theorem freshChecks_j6 : ((Tryz.checked.prog.stops == [])) = true := by kernel_rfl
theorem freshChecks_j10 : ((Rows.freshChecksRow.unfollowed == Tryz.checked.prog.unfollowed 6)) = true := by kernel_rfl
theorem freshChecks_j14 : ((Rows.freshChecksRow.ifaces == (Tryz.f6.params.toList ++ Rows.freshChecksSpec.plain.varTypes Tryz.checked.prog).any (Tryz.checked.prog.ifacesRec ·))) = true := by kernel_rfl
theorem freshChecks_j18 : (Rows.freshChecksSpec.vars.all (Tryz.checked.prog.varReadable ·)) = true := by kernel_rfl
theorem freshChecks_j22 : ((Rows.freshChecksRow.plainKeys == Tryz.checked.prog.plainKeys)) = true := by kernel_rfl
theorem freshChecks_j26 : ((Rows.freshChecksRow.lifted == Tryz.checked.prog.liftsFinal)) = true := by kernel_rfl
theorem freshChecks_j30 : ((Rows.freshChecksRow.veiled == (Tryz.f6.params.toList ++ Rows.freshChecksSpec.plain.varTypes Tryz.checked.prog ++ Tryz.f6.resultTypes.toList).any (Tryz.checked.prog.veiledRec ·))) = true := by kernel_rfl
theorem freshChecks_named : Tryz.checked.prog.funcNamed Rows.freshChecksRow.func = some 6 := by kernel_rfl
end Go.Proofs.YtnjhpgmbfblgaaaGreat.Ord
