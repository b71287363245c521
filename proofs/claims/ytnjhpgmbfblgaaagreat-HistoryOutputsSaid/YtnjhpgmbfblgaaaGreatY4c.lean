/- The closed facts of the row historyOutputs that the kernel reckons, part c. -/
import Derived.Test.YtnjhpgmbfblgaaaGreatRows
import Derived.WalkKit
import Derived.ProofKit
namespace Go.Proofs.YtnjhpgmbfblgaaaGreat.Ord
open Go.ChangeShapes Go.WideShapes Go.ChangeAt Go.RowKit
set_option maxRecDepth 100000
theorem historyOutputs_j2 : (mapsRowed Tryz.checked.prog) = true := by kernel_rfl
theorem historyOutputs_j6 : ((Tryz.checked.prog.stops == [])) = true := by kernel_rfl
theorem historyOutputs_j10 : ((Rows.historyOutputsRow.unfollowed == Tryz.checked.prog.unfollowed 4)) = true := by kernel_rfl
theorem historyOutputs_j14 : ((Rows.historyOutputsRow.ifaces == (Tryz.f4.params.toList ++ Rows.historyOutputsSpec.plain.varTypes Tryz.checked.prog).any (Tryz.checked.prog.ifacesRec ·))) = true := by kernel_rfl
theorem historyOutputs_j18 : (Rows.historyOutputsSpec.vars.all (Tryz.checked.prog.varReadable ·)) = true := by kernel_rfl
theorem historyOutputs_j22 : ((Rows.historyOutputsRow.plainKeys == Tryz.checked.prog.plainKeys)) = true := by kernel_rfl
theorem historyOutputs_j26 : ((Rows.historyOutputsRow.lifted == Tryz.checked.prog.liftsFinal)) = true := by kernel_rfl
theorem historyOutputs_j30 : ((Rows.historyOutputsRow.veiled == (Tryz.f4.params.toList ++ Rows.historyOutputsSpec.plain.varTypes Tryz.checked.prog ++ Tryz.f4.resultTypes.toList).any (Tryz.checked.prog.veiledRec ·))) = true := by kernel_rfl
theorem historyOutputs_named : Tryz.checked.prog.funcNamed Rows.historyOutputsRow.func = some 4 := by kernel_rfl
end Go.Proofs.YtnjhpgmbfblgaaaGreat.Ord
