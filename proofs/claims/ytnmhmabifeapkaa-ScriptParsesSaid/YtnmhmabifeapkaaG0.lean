/- Keys, lifetimes, tags and prefixes by number; walks of the program's key and life. -/
import Derived.Test.YtnmhmabifeapkaaM3
namespace Go.Proofs.Ytnmhmabifeapkaa.Ord
open Go.RowKit
set_option linter.unusedVariables false

def keyL : List ByteArray := [⟨#[97]⟩, ⟨#[98]⟩, ⟨#[99]⟩, ⟨#[97, 47]⟩, ⟨#[97, 47, 49]⟩, ⟨#[97, 47, 50]⟩, ⟨#[98, 47, 49]⟩, ⟨#[120, 47, 121, 47, 122]⟩]
/-- a key by its number -/
def keyN (n : Nat) : ByteArray := keyL.getD (n % 8) ⟨#[97]⟩
/-- a lifetime by its number -/
def lifeN (n : Nat) : Nat := [18446744073709551615, 1, 5, 100].getD (n % 4) 1
def tagsN (n : Nat) : List ByteArray := ([[], [⟨#[116]⟩], [⟨#[117]⟩], [⟨#[116]⟩, ⟨#[117]⟩]] : List (List ByteArray)).getD (n % 4) []
def tagN (n : Nat) : ByteArray := ([⟨#[116]⟩, ⟨#[117]⟩] : List ByteArray).getD (n % 2) ⟨#[116]⟩
def preN (n : Nat) : ByteArray := ([⟨#[]⟩, ⟨#[97]⟩, ⟨#[97, 47]⟩, ⟨#[98]⟩] : List ByteArray).getD (n % 4) ⟨#[]⟩
theorem mod8 (n : Nat) : n % 8 = 0 ∨ n % 8 = 1 ∨ n % 8 = 2 ∨ n % 8 = 3 ∨ n % 8 = 4 ∨ n % 8 = 5 ∨ n % 8 = 6 ∨ n % 8 = 7 := by omega
theorem mod4 (n : Nat) : n % 4 = 0 ∨ n % 4 = 1 ∨ n % 4 = 2 ∨ n % 4 = 3 := by omega
theorem imod8 (n : Nat) : ((n : Int) % 8) = ((n % 8 : Nat) : Int) := by omega
theorem idx183 (n : Nat) (w : World) : (Instr.index 183 (.agg keysV) (.int .i64 ((n : Int) % 8))).run Try.prog w = .ok (.string (keyN n)) w := by
  rw [imod8]
  unfold keyN Instr.index
  rcases mod8 n with h | h | h | h | h | h | h | h <;> rw [h] <;> simp [asIntOf, run_underlying Try.underlying183, part, Try.isAgg9, Try.sizeOf9, keysV, keyL]
theorem idx182 (n : Nat) (w : World) : (Instr.index 182 (.agg #[.int .u64 18446744073709551615, .int .u64 1, .int .u64 5, .int .u64 100]) (.int .i64 ((n : Int) % 4))).run Try.prog w = .ok (.int .u64 (lifeN n)) w := by
  rw [show ((n : Int) % 4) = ((n % 4 : Nat) : Int) by omega]
  unfold lifeN Instr.index
  rcases mod4 n with h | h | h | h <;> rw [h] <;> simp [asIntOf, run_underlying Try.underlying182, part, Try.isAgg43, Try.sizeOf43]
set_option maxRecDepth 100000 in
theorem key102 (n : Nat) (hn : n < 1000) (w : World) : Calls Try.prog 102 #[.int .i64 n] w fun e w' => e = .returned (.string (keyN n)) ∧ w' = w := by
  have hi := idx183 n w
  unfold keysV at hi
  go_enter Try.func102, Try.ntmps102
  go_wp2_with fail
  go_ret
  exact ⟨rfl, rfl⟩
set_option maxRecDepth 100000 in
theorem life100 (n : Nat) (hn : n < 1000) (w : World) : Calls Try.prog 100 #[.int .i64 n] w fun e w' => e = .returned (.int .u64 (lifeN n)) ∧ w' = w := by
  have hi := idx182 n w
  go_enter Try.func100, Try.ntmps100
  go_wp2_with fail
  go_ret
  exact ⟨rfl, rfl⟩
end Go.Proofs.Ytnmhmabifeapkaa.Ord
