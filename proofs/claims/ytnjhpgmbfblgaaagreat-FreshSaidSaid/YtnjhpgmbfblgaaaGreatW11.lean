/- An argument of the type Call, and a slice of them, opened with all that FreshChecks. -/
import Derived.Test.YtnjhpgmbfblgaaaGreatMU59
import Derived.Test.YtnjhpgmbfblgaaaGreatU75
set_option linter.unusedVariables false
set_option linter.unusedSimpArgs false
namespace Go.Proofs.YtnjhpgmbfblgaaaGreat.Ord
open Go.ChangeShapes Go.WideShapes Go.ChangeAt Go.RowKit Go.Deep
section
variable {H : Type} {enc : TypeId × Value -> H} {w : World} {base : Nat} {spare : Nat -> Bool} {held : Bool}
theorem cap37 {fuel : Nat} {A : Option Addr} {n c : Nat} {y : DataW H × List MemPlace} (hf : DataW.trod enc Tryz.prog w base spare held fuel 37 [.slice A n c] = some y) : n <= c := by
 rcases open_slice Tryz.underlying37 hf with ⟨hcs, _⟩ | ⟨a, l, c', m, n', D, Pl, hcs, _, hl, hm, hmm, hx, hi⟩
 ·simp at hcs
  omega
 simp at hcs
 omega
end
end Go.Proofs.YtnjhpgmbfblgaaaGreat.Ord
