/- The closed facts of the row historyValid that the kernel reckons, part c. -/
import Derived.Test.YtnjhpgmbfblgaaaGreatRows
import Derived.WalkKit
import Derived.ProofKit
namespace Go.Proofs.YtnjhpgmbfblgaaaGreat.Ord
open Go.ChangeShapes Go.WideShapes Go.ChangeAt Go.RowKit
set_option maxRecDepth 100000
theorem historyValid_j2 : (mapsRowed Tryz.checked.prog) = true := by kernel_rfl
theorem historyValid_j6 : ((Tryz.checked.prog.stops == [])) = true := by kernel_rfl
theorem historyValid_j10 : ((Rows.historyValidRow.unfollowed == Tryz.checked.prog.unfollowed 5)) = true := by kernel_rfl
theorem historyValid_j14 : ((Rows.historyValidRow.ifaces == (Tryz.f5.params.toList ++ Rows.historyValidSpec.plain.varTypes Tryz.checked.prog).any (Tryz.checked.prog.ifacesRec ·))) = true := by kernel_rfl
theorem historyValid_j18 : (Rows.historyValidSpec.vars.all (Tryz.checked.prog.varReadable ·)) = true := by kernel_rfl
theorem historyValid_j22 : ((Rows.historyValidRow.plainKeys == Tryz.checked.prog.plainKeys)) = true := by kernel_rfl
theorem historyValid_j26 : ((Rows.historyValidRow.lifted == Tryz.checked.prog.liftsFinal)) = true := by kernel_rfl
theorem historyValid_j30 : ((Rows.historyValidRow.veiled == (Tryz.f5.params.toList ++ Rows.historyValidSpec.plain.varTypes Tryz.checked.prog ++ Tryz.f5.resultTypes.toList).any (Tryz.checked.prog.veiledRec ·))) = true := by kernel_rfl
theorem historyValid_named : Tryz.checked.prog.funcNamed Rows.historyValidRow.func = some 5 := by kernel_rfl
end Go.Proofs.YtnjhpgmbfblgaaaGreat.Ord
