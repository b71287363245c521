/- The closed facts of the row historyOf that the kernel reckons, part c. -/
import Derived.Test.YtnjhpgmbfblgaaaGreatRows
import Derived.WalkKit
import Derived.ProofKit
namespace Go.Proofs.YtnjhpgmbfblgaaaGreat.Ord
open Go.ChangeShapes Go.WideShapes Go.ChangeAt Go.RowKit
set_option maxRecDepth 100000
theorem hO2 : (mapsRowed Tryz.checked.prog) = true := by kernel_rfl
theorem hO6 : ((Tryz.checked.prog.stops == [])) = true := by kernel_rfl
theorem hO10 : ((Rows.historyOfRow.unfollowed == Tryz.checked.prog.unfollowed 3)) = true := by kernel_rfl
theorem hO14 : ((Rows.historyOfRow.ifaces == (Tryz.f3.params.toList ++ Rows.historyOfSpec.plain.varTypes Tryz.checked.prog).any (Tryz.checked.prog.ifacesRec ·))) = true := by kernel_rfl
theorem hO18 : (Rows.historyOfSpec.vars.all (Tryz.checked.prog.varReadable ·)) = true := by kernel_rfl
theorem hO22 : ((Rows.historyOfRow.plainKeys == Tryz.checked.prog.plainKeys)) = true := by kernel_rfl
theorem hO26 : ((Rows.historyOfRow.lifted == Tryz.checked.prog.liftsFinal)) = true := by kernel_rfl
theorem hO30 : ((Rows.historyOfRow.veiled == (Tryz.f3.params.toList ++ Rows.historyOfSpec.plain.varTypes Tryz.checked.prog ++ Tryz.f3.resultTypes.toList).any (Tryz.checked.prog.veiledRec ·))) = true := by kernel_rfl
theorem historyOf_named : Tryz.checked.prog.funcNamed Rows.historyOfRow.func = some 3 := by kernel_rfl
end Go.Proofs.YtnjhpgmbfblgaaaGreat.Ord
