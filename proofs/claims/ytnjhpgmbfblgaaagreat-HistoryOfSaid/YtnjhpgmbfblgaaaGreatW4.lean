/- An argument of the type Did, opened; the row of ScriptEquals from its walk. -/
import Derived.Test.YtnjhpgmbfblgaaaGreatMR25
import Derived.Test.YtnjhpgmbfblgaaaGreatE5
import Derived.SliceStrings
namespace Go.Proofs.YtnjhpgmbfblgaaaGreat.Ord
open Go.ChangeShapes Go.WideShapes Go.ChangeAt Go.RowKit Go.Deep
set_option linter.unusedVariables false
section
variable {H : Type} {enc : TypeId × Value -> H} {w : World} {base : Nat} {spare : Nat -> Bool} {held : Bool}
theorem leaves87 : leaves Tryz.prog 5 78 = some [76, 26, 33, 34] := by kernel_rfl
theorem leaves51 : leaves Tryz.prog 6 42 = some [25, 3, 3, 26, 29, 3, 26, 30, 31, 9, 32, 26, 32, 34, 33, 9, 9, 9, 31, 29, 37, 33, 3, 38, 34] := by kernel_rfl
end

theorem okWide_agg {P : Program} {w : World} {r : Reach} {base : Nat} {t : TypeId} {v : Value} {fs : Array Field} (ht : P.underlying t = some (.struct fs)) (h : Value.okWide P w r base t v) : ∃ cs, v = .agg cs := by
 simp only [Value.okWide, ht] at h
 obtain ⟨cs, h1, _⟩ := h
 exact ⟨cs, h1⟩
end Go.Proofs.YtnjhpgmbfblgaaaGreat.Ord
