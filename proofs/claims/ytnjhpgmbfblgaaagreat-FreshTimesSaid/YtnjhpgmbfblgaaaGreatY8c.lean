/- The closed facts of the row freshTimes that the kernel reckons, part c. -/
import Derived.Test.YtnjhpgmbfblgaaaGreatRows
import Derived.WalkKit
import Derived.ProofKit
namespace Go.Proofs.YtnjhpgmbfblgaaaGreat.Ord
open Go.ChangeShapes Go.WideShapes Go.ChangeAt Go.RowKit
set_option maxRecDepth 100000
theorem freshTimes_j2 : (mapsRowed Tryz.checked.prog) = true := by kernel_rfl
theorem freshTimes_j6 : ((Tryz.checked.prog.stops == [])) = true := by kernel_rfl
theorem freshTimes_j10 : ((Rows.freshTimesRow.unfollowed == Tryz.checked.prog.unfollowed 8)) = true := by kernel_rfl
theorem freshTimes_j14 : ((Rows.freshTimesRow.ifaces == (Tryz.f8.params.toList ++ Rows.freshTimesSpec.plain.varTypes Tryz.checked.prog).any (Tryz.checked.prog.ifacesRec ·))) = true := by kernel_rfl
theorem freshTimes_j18 : (Rows.freshTimesSpec.vars.all (Tryz.checked.prog.varReadable ·)) = true := by kernel_rfl
theorem freshTimes_j22 : ((Rows.freshTimesRow.plainKeys == Tryz.checked.prog.plainKeys)) = true := by kernel_rfl
theorem freshTimes_j26 : ((Rows.freshTimesRow.lifted == Tryz.checked.prog.liftsFinal)) = true := by kernel_rfl
theorem freshTimes_j30 : ((Rows.freshTimesRow.veiled == (Tryz.f8.params.toList ++ Rows.freshTimesSpec.plain.varTypes Tryz.checked.prog ++ Tryz.f8.resultTypes.toList).any (Tryz.checked.prog.veiledRec ·))) = true := by kernel_rfl
theorem freshTimes_named : Tryz.checked.prog.funcNamed Rows.freshTimesRow.func = some 8 := by kernel_rfl
end Go.Proofs.YtnjhpgmbfblgaaaGreat.Ord
