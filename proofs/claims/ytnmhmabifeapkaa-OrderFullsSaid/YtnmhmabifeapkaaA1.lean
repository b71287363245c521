/- Walks of order.Before and of the reference's Before: both answer 'beforeB'. -/
import Derived.Test.YtnmhmabifeapkaaB2
namespace Go.Proofs.Ytnmhmabifeapkaa.Ord
open Go.RowKit

def CallC.val (c : CallC) : Value := .agg c.cells.toArray

/-- must the first call come before the second -/
def before (c c' : CallC) : Bool :=
  if c.d < 0 ∨ c'.d < 0 then false else if c.s = c'.s ∧ c.n < c'.n then true else decide (0 ≤ c.t ∧ c.t < c'.a)

theorem before_any (c c' : CallC) (w : World) :
    Calls Try.prog 28 #[c.val, c'.val] w fun e w' => e = .returned (.bool (before c c')) ∧ Below w.heap.size w w' := by
  unfold CallC.val CallC.cells
  go_enter Try.func28, Try.ntmps28
  go_wp2
  all_goals go_ret
  all_goals refine ⟨?_, below2 _ _ _⟩
  all_goals (refine ret_bool ?_; unfold before; first | (simp_all; done) | (rw [Bool.eq_iff_iff]; simp_all; omega))

theorem refBefore_any (c c' : CallC) (w : World) :
    Calls Try.prog 29 #[c.val, c'.val] w fun e w' => e = .returned (.bool (before c c')) ∧ Below w.heap.size w w' := by
  unfold CallC.val CallC.cells
  go_enter Try.func29, Try.ntmps29
  go_wp2
  all_goals go_ret
  all_goals refine ⟨?_, below2 _ _ _⟩
  all_goals (refine ret_bool ?_; unfold before; first | (simp_all; done) | (rw [Bool.eq_iff_iff]; simp_all; omega))

end Go.Proofs.Ytnmhmabifeapkaa.Ord
