/- The closed facts of the row freshChecks that the kernel reckons, part. -/
import Derived.Test.YtnjhpgmbfblgaaaGreatRows
import Derived.WalkKit
import Derived.ProofKit
namespace Go.Proofs.YtnjhpgmbfblgaaaGreat.Ord
open Go.ChangeShapes Go.WideShapes Go.ChangeAt Go.RowKit
set_option maxRecDepth 100000
theorem freshChecks_j0 : (Rows.freshChecksRow.wf (OpenSpec.ofChange Rows.freshChecksSpec)) = true := by kernel_rfl
theorem freshChecks_j3 : (Tryz.f6.params.all (Tryz.checked.prog.readableRec ·)) = true := by kernel_rfl
theorem freshChecks_j4 : (namedTie Tryz.checked.prog Rows.freshChecksRow.named Rows.freshChecksSpec.vars) = true := by kernel_rfl
theorem freshChecks_j7 : ((Rows.freshChecksRow.knobs == [])) = true := by kernel_rfl
theorem freshChecks_j8 : ((Tryz.checked.prog.stopKnobs == [])) = true := by kernel_rfl
theorem freshChecks_j11 : ((Rows.freshChecksRow.recurses == Tryz.checked.prog.recurses 6)) = true := by kernel_rfl
theorem freshChecks_j12 : ((Rows.freshChecksRow.named == Tryz.checked.prog.varsNamed 6)) = true := by kernel_rfl
theorem freshChecks_j15 : ((Rows.freshChecksRow.mapsOut == Tryz.checked.prog.mapsAmong Tryz.f6.resultTypes.toList)) = true := by kernel_rfl
theorem freshChecks_j16 : ((Rows.freshChecksRow.loops == (Tryz.f6.params.toList ++ Rows.freshChecksSpec.plain.varTypes Tryz.checked.prog).any (Tryz.checked.prog.loopsFrom ·))) = true := by kernel_rfl
theorem freshChecks_j19 : (Tryz.f6.resultTypes.all (fun t => Tryz.checked.prog.readableRec t && decide (t < Tryz.checked.prog.types.size))) = true := by kernel_rfl
theorem freshChecks_j20 : ((Rows.freshChecksRow.ifacesOut == Tryz.f6.resultTypes.toList.any (Tryz.checked.prog.ifacesRec ·))) = true := by kernel_rfl
theorem freshChecks_j23 : (Rows.freshChecksRow.shortTexts.isNone) = true := by kernel_rfl
theorem freshChecks_j24 : (Tryz.checked.prog.stopsHeard) = true := by kernel_rfl
theorem freshChecks_j27 : ((Tryz.checked.prog.make == some Rows.freshChecksRow.make)) = true := by kernel_rfl
theorem freshChecks_j28 : ((Rows.freshChecksRow.kinds == (if Rows.freshChecksRow.domain.isEmpty then [] else Tryz.f6.params.toList.map fun t => match Tryz.checked.prog.underlying t with | some (.int k) => some k | _ => none))) = true := by kernel_rfl
theorem freshChecks_j31 : (Rows.freshChecksRow.veiledFits Tryz.checked.prog Tryz.f6.params.toList (Tryz.f6.params.toList ++ Rows.freshChecksSpec.plain.varTypes Tryz.checked.prog ++ Tryz.f6.resultTypes.toList)) = true := by kernel_rfl
end Go.Proofs.YtnjhpgmbfblgaaaGreat.Ord
