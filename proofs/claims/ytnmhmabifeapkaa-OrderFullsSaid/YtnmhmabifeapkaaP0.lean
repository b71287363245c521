/- The reference's count, as a function on lists of calls. -/
import Derived.Test.YtnmhmabifeapkaaA10
namespace Go.Proofs.Ytnmhmabifeapkaa.Ord
set_option linter.unusedVariables false

/-- none of the first k calls must come before call i -/
def freeK (l : List CallC) (i k : Nat) : Bool := (List.range k).all fun (j : Nat) => j == i || !before (at_ l j) (at_ l i)
theorem freeK_zero (l : List CallC) (i : Nat) : freeK l i 0 = true := rfl
theorem freeK_succ (l : List CallC) (i k : Nat) : freeK l i (k + 1) = (freeK l i k && (k == i || !before (at_ l k) (at_ l i))) := by
  simp [freeK, List.range_succ]

def countF : Nat → List CallC → Nat
  | 0, _ => 1
  | n + 1, l => ((List.range (n + 1)).map fun (i : Nat) => if freeK l i (n + 1) then countF n (l.eraseIdx i) else 0).sum
def sumK (n : Nat) (l : List CallC) (k : Nat) : Nat := ((List.range k).map fun (i : Nat) => if freeK l i (n + 1) then countF n (l.eraseIdx i) else 0).sum
theorem sumK_zero (n : Nat) (l : List CallC) : sumK n l 0 = 0 := rfl
theorem sumK_succ (n : Nat) (l : List CallC) (k : Nat) : sumK n l (k + 1) = sumK n l k + (if freeK l k (n + 1) then countF n (l.eraseIdx k) else 0) := by
  simp [sumK, List.range_succ]
theorem countF_sum (n : Nat) (l : List CallC) : countF (n + 1) l = sumK n l (n + 1) := by rw [countF]; rfl
theorem sumK_le_of {n : Nat} {l : List CallC} {m : Nat} (h : ∀ l', countF n l' ≤ m) : ∀ k, sumK n l k ≤ k * m
  | 0 => by simp [sumK_zero]
  | k + 1 => by
    have h1 := sumK_le_of (l := l) h k
    have h2 := h (l.eraseIdx k)
    rw [sumK_succ, Nat.succ_mul]
    split <;> omega
theorem countF_le : ∀ (n : Nat) (l : List CallC), n ≤ 12 → countF n l ≤ 12 ^ n
  | 0, _, _ => by simp [countF]
  | n + 1, l, hn => by
    have h1 := sumK_le_of (l := l) (fun l' => countF_le n l' (by omega)) (n + 1)
    rw [countF_sum, Nat.pow_succ]
    exact Nat.le_trans h1 (by rw [Nat.mul_comm]; exact Nat.mul_le_mul_left _ hn)
theorem pow12_le {n : Nat} (hn : n ≤ 11) : 12 ^ n ≤ 743008370688 := by
  have := Nat.pow_le_pow_right (n := 12) (by decide) hn
  exact Nat.le_trans this (by decide)
theorem sumK_le {n : Nat} {l : List CallC} {k : Nat} (hn : n ≤ 11) (hk : k ≤ 12) : sumK n l k ≤ 8916100448256 := by
  have h1 := sumK_le_of (l := l) (fun l' => Nat.le_trans (countF_le n l' (by omega)) (pow12_le hn)) k
  exact Nat.le_trans h1 (by omega)

end Go.Proofs.Ytnmhmabifeapkaa.Ord
