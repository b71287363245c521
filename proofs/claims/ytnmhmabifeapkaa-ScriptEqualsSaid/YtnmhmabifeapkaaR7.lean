/- Walks of request.Write and Read at a command with a key, and at one without parts. -/
import Derived.Test.YtnmhmabifeapkaaR6
namespace Go.Proofs.Ytnmhmabifeapkaa.Ord
open Go.RowKit
set_option linter.unusedVariables false

def eS : ByteArray := ⟨#[]⟩
/-- a command with an operation and a key -/
def cmdV (op : Int) (s : ByteArray) : Array Value := #[.int .i64 op, .string s, .slice none 0 0, .slice none 0 0, .slice none 0 0, .int .u64 0, .int .u64 0, .string ⟨#[]⟩, .string ⟨#[]⟩, .string ⟨#[]⟩]

theorem keyValid (s : ByteArray) (h1 : 0 < s.size) (h2 : s.size ≤ 250) (w : World) : Calls Try.prog 127 #[.string s] w fun e w' => e = .returned (.bool true) ∧ Below w.heap.size w w' := by
  have g1 : decide ((0 : Int) < (s.size : Int)) = true := by simp; omega
  have g2 : decide ((s.size : Int) ≤ 250) = true := by simp; omega
  go_enter Try.func127, Try.ntmps127
  go_wp2_with fail
  go_ret
  exact ⟨rfl, Below.refl _ _⟩
theorem key_enter : ∀ args w, (callFunc 127 args).run Try.prog w = .ok (.enter 127 args) w := by
  intro args w
  simp [callFunc, Try.func127, Try.f127]

theorem valid_any (op : Int) (h1 : 0 < op) (h2 : op < 16) (w : World) : Calls Try.prog 96 #[.int .i64 op] w fun e w' => e = .returned (.bool true) ∧ w' = w := by
  have g1 : decide ((0 : Int) < op) = true := by simp; omega
  have g2 : decide (op < 16) = true := by simp; omega
  go_enter Try.func96, Try.ntmps96
  go_wp2_with fail
  go_ret
  exact ⟨rfl, rfl⟩

set_option maxRecDepth 100000 in
set_option maxHeartbeats 1000000 in
theorem parts_get_w (X C : Nat) (f : Nat → Value) (s : ByteArray) (A : Option Addr) (ca : Nat) (out : List Int) (bad : Bool) (w : World) (h1 : 0 < s.size) (h2 : s.size ≤ 250)
    (hC : w.rowIs C 45 10 f) (hf0 : f 0 = .int .i64 4) (hf1 : f 1 = .string s) (hXC : X ≠ C) (hX : w.rowIs X 149 4 (codF (.pointer (some ⟨C, 0, none⟩)) (.pointer none) (.slice A out.length ca) bad)) (hA : Byt w w.heap.size A ca out) (hAX : ∀ b off, A = some ⟨b, off, none⟩ → b ≠ X) (hol : out.length ≤ 500000) :
    Calls Try.prog 97 #[.pointer (some ⟨X, 0, none⟩)] w fun e w' => e = .returned (.tuple #[]) ∧ ∃ v, w'.rowIs X 149 4 (codF (.pointer (some ⟨C, 0, none⟩)) (.pointer none) v bad) ∧ SlB w' w.heap.size v (out ++ putV s.size ++ sBytes s) ∧ Kept [X] w w' := by
  have c0 : w.cell? ⟨X, 0, none⟩ = some (.pointer (some ⟨C, 0, none⟩)) := World.rowIs.cell hX (i := 0) (by decide)
  have d0 : w.cell? ⟨C, 0, none⟩ = some (.int .i64 4) := by rw [← hf0]; exact World.rowIs.cell hC (i := 0) (by decide)
  have HP := Lib.hid (part_write X C 1 45 10 f s (.pointer (some ⟨C, 0, none⟩)) A ca out bad true 127 w hC (by decide) hf1 hXC hX hA hAX key_enter (keyValid s h1 h2) (by omega) hol)
  clear hX hC hA
  go_enter Try.func97, Try.ntmps97
  go_wp2_with fail
  refine HP.out.mono ?_
  rintro e w1 ⟨rfl, v, hX1, hv1, hk1⟩
  simp only [Bool.not_true, Bool.or_false] at hX1
  have H1 := Lib.hid hX1
  clear hX1
  go_wp2_with fail
  go_end0
  exact ⟨rfl, v, H1.out, hv1, hk1⟩

set_option maxRecDepth 100000 in
set_option maxHeartbeats 1000000 in
theorem parts_get_r (X C R : Nat) (f : Nat → Value) (s u0 : ByteArray) (outv v : Value) (rest : List Int) (bad : Bool) (w : World) (h1 : 0 < s.size) (h2 : s.size ≤ 250)
    (hC : w.rowIs C 45 10 f) (hf0 : f 0 = .int .i64 4) (hf1 : f 1 = .string u0) (hXC : X ≠ C) (hXR : X ≠ R) (hCR : C ≠ R) (hX : w.rowIs X 149 4 (codF (.pointer (some ⟨C, 0, none⟩)) (.pointer (some ⟨R, 0, none⟩)) outv bad))
    (hR : w.rowIs R 196 2 (rdF v)) (hv : SlX w [X, C, R] v (putV s.size ++ (sBytes s ++ rest))) (hget : GetOk s.size) (hrl : rest.length ≤ 500000) :
    Calls Try.prog 97 #[.pointer (some ⟨X, 0, none⟩)] w fun e w' => e = .returned (.tuple #[]) ∧ ∃ v', w'.rowIs X 149 4 (codF (.pointer (some ⟨C, 0, none⟩)) (.pointer (some ⟨R, 0, none⟩)) outv bad) ∧ w'.rowIs C 45 10 (updF f 1 (.string s)) ∧ w'.rowIs R 196 2 (rdF v') ∧ SlX w' [X, C, R] v' rest ∧ Kept [X, C, R] w w' := by
  have c0 : w.cell? ⟨X, 0, none⟩ = some (.pointer (some ⟨C, 0, none⟩)) := World.rowIs.cell hX (i := 0) (by decide)
  have d0 : w.cell? ⟨C, 0, none⟩ = some (.int .i64 4) := by rw [← hf0]; exact World.rowIs.cell hC (i := 0) (by decide)
  have HP := Lib.hid (part_read X C R 1 45 10 f s u0 (.pointer (some ⟨C, 0, none⟩)) outv v rest bad true 127 w hC (by decide) hf1 hXC hXR hCR hX hR hv hget (by omega) hrl key_enter (keyValid s h1 h2))
  clear hX hC hR hv hget
  go_enter Try.func97, Try.ntmps97
  go_wp2_with fail
  refine HP.out.mono ?_
  rintro e w1 ⟨rfl, v1, hX1, hC1, hR1, hv1, hk1⟩
  simp only [Bool.not_true, Bool.or_false] at hX1
  have H1 := Lib.hid hX1
  have H2 := Lib.hid hC1
  clear hX1 hC1
  go_wp2_with fail
  go_end0
  exact ⟨rfl, v1, H1.out, H2.out, hR1, hv1, hk1⟩

end Go.Proofs.Ytnmhmabifeapkaa.Ord
