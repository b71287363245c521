/- The examples, reckoned. -/
import Derived.Test.YtnmhmabifeapkaaA15
import Derived.Test.YtnmhmabifeapkaaA16
namespace Go.Proofs.Ytnmhmabifeapkaa.Ord
set_option linter.unusedVariables false

theorem ex01 : before g0 g1 = false := by kernel_rfl
theorem ex12 : before g1 g2 = true := by kernel_rfl
theorem ex02 : before g0 g2 = true := by kernel_rfl
theorem ex20 : before g2 g0 = false := by kernel_rfl
theorem ex03 : before g0 g3 = false := by kernel_rfl
theorem exc1 : consV given4 [0, 1, 2] true 0 = true := by kernel_rfl
theorem exc2 : consV given4 [1, 0, 2] true 0 = true := by kernel_rfl
theorem exc3 : consV given4 [0, 2, 1] false 0 = true := by kernel_rfl
theorem exc4 : consV given4 [0, 1] false 2 = true := by kernel_rfl
theorem exc5 : consV given4 [0, 1, 3] false 2 = true := by kernel_rfl
theorem exn : countN given4 = 2 := by kernel_rfl
theorem exn0 : countN [] = 1 := by kernel_rfl
theorem exd : doneN given4 = [0, 1, 2] := by kernel_rfl
theorem exd0 : doneN [] = [] := by kernel_rfl
theorem exd2 : doneN [g0, g0] = [0, 1] := by kernel_rfl
theorem exk : commitsOf given4 = some [1, 0, 2] := by
  refine commitsOf_eq ⟨?_, ?_⟩
  · rw [exd]; decide
  · have h1 : (at_ given4 1).d = 2 := by kernel_rfl
    have h0 : (at_ given4 0).d = 4 := by kernel_rfl
    have h2 : (at_ given4 2).d = 7 := by kernel_rfl
    simp [h0, h1, h2]
theorem exk2 : commitsOf [g0, g0] = none := by
  cases hc : commitsOf [g0, g0] with
  | none => rfl
  | some zs =>
    have hz := commitsOf_some hc
    have m0 : 0 ∈ zs := hz.1.mem_iff.2 (by rw [exd2]; decide)
    have m1 : 1 ∈ zs := hz.1.mem_iff.2 (by rw [exd2]; decide)
    exact absurd (by kernel_rfl : (at_ [g0, g0] (0 : Nat)).d = (at_ [g0, g0] (1 : Nat)).d) (pairwise_ne hz.2 m0 m1 (by decide))
end Go.Proofs.Ytnmhmabifeapkaa.Ord
