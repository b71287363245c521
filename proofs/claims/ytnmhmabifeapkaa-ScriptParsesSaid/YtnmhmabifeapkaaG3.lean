/- Walks of the parts of short commands: touch, child, none, tag, prefix. -/
import Derived.Test.YtnmhmabifeapkaaG0
namespace Go.Proofs.Ytnmhmabifeapkaa.Ord
open Go.RowKit
set_option linter.unusedVariables false

def cmdX (op : Int) (s : ByteArray) (vk vv vt : Value) (life ver : Int) (tag pre chi : ByteArray) : List Value := [.int .i64 op, .string s, vk, vv, vt, .int .u64 life, .int .u64 ver, .string tag, .string pre, .string chi]
def nilV : Value := .slice none 0 0
section
variable {w : World} {C : Nat} {op : Int} {s : ByteArray} {vk vv vt : Value} {life ver : Int} {tag pre chi : ByteArray}
theorem cmdX_set (h : w.rowIs C 45 10 (listF (cmdX op s vk vv vt life ver tag pre chi))) (i : Nat) (v : Value) (l : List Value) (hl : ∀ j, j < 10 → (if j = i then v else listF (cmdX op s vk vv vt life ver tag pre chi) j) = listF l j) : (w.setCell ⟨C, i, none⟩ v).rowIs C 45 10 (listF l) :=
  World.rowIs.congr (World.rowIs.set h i v) fun j hj => hl j hj
theorem set_key (h : w.rowIs C 45 10 (listF (cmdX op s vk vv vt life ver tag pre chi))) (x : ByteArray) : (w.setCell ⟨C, 1, none⟩ (.string x)).rowIs C 45 10 (listF (cmdX op x vk vv vt life ver tag pre chi)) :=
  cmdX_set h 1 _ _ fun j hj => by match j, hj with | 0, _ | 1, _ | 2, _ | 3, _ | 4, _ | 5, _ | 6, _ | 7, _ | 8, _ | 9, _ => rfl
theorem set_keys (h : w.rowIs C 45 10 (listF (cmdX op s vk vv vt life ver tag pre chi))) (x : Value) : (w.setCell ⟨C, 2, none⟩ x).rowIs C 45 10 (listF (cmdX op s x vv vt life ver tag pre chi)) :=
  cmdX_set h 2 _ _ fun j hj => by match j, hj with | 0, _ | 1, _ | 2, _ | 3, _ | 4, _ | 5, _ | 6, _ | 7, _ | 8, _ | 9, _ => rfl
theorem set_val (h : w.rowIs C 45 10 (listF (cmdX op s vk vv vt life ver tag pre chi))) (x : Value) : (w.setCell ⟨C, 3, none⟩ x).rowIs C 45 10 (listF (cmdX op s vk x vt life ver tag pre chi)) :=
  cmdX_set h 3 _ _ fun j hj => by match j, hj with | 0, _ | 1, _ | 2, _ | 3, _ | 4, _ | 5, _ | 6, _ | 7, _ | 8, _ | 9, _ => rfl
theorem set_tags (h : w.rowIs C 45 10 (listF (cmdX op s vk vv vt life ver tag pre chi))) (x : Value) : (w.setCell ⟨C, 4, none⟩ x).rowIs C 45 10 (listF (cmdX op s vk vv x life ver tag pre chi)) :=
  cmdX_set h 4 _ _ fun j hj => by match j, hj with | 0, _ | 1, _ | 2, _ | 3, _ | 4, _ | 5, _ | 6, _ | 7, _ | 8, _ | 9, _ => rfl
theorem set_life (h : w.rowIs C 45 10 (listF (cmdX op s vk vv vt life ver tag pre chi))) (x : Int) : (w.setCell ⟨C, 5, none⟩ (.int .u64 x)).rowIs C 45 10 (listF (cmdX op s vk vv vt x ver tag pre chi)) :=
  cmdX_set h 5 _ _ fun j hj => by match j, hj with | 0, _ | 1, _ | 2, _ | 3, _ | 4, _ | 5, _ | 6, _ | 7, _ | 8, _ | 9, _ => rfl
theorem set_ver (h : w.rowIs C 45 10 (listF (cmdX op s vk vv vt life ver tag pre chi))) (x : Int) : (w.setCell ⟨C, 6, none⟩ (.int .u64 x)).rowIs C 45 10 (listF (cmdX op s vk vv vt life x tag pre chi)) :=
  cmdX_set h 6 _ _ fun j hj => by match j, hj with | 0, _ | 1, _ | 2, _ | 3, _ | 4, _ | 5, _ | 6, _ | 7, _ | 8, _ | 9, _ => rfl
theorem set_tag (h : w.rowIs C 45 10 (listF (cmdX op s vk vv vt life ver tag pre chi))) (x : ByteArray) : (w.setCell ⟨C, 7, none⟩ (.string x)).rowIs C 45 10 (listF (cmdX op s vk vv vt life ver x pre chi)) :=
  cmdX_set h 7 _ _ fun j hj => by match j, hj with | 0, _ | 1, _ | 2, _ | 3, _ | 4, _ | 5, _ | 6, _ | 7, _ | 8, _ | 9, _ => rfl
theorem set_pre (h : w.rowIs C 45 10 (listF (cmdX op s vk vv vt life ver tag pre chi))) (x : ByteArray) : (w.setCell ⟨C, 8, none⟩ (.string x)).rowIs C 45 10 (listF (cmdX op s vk vv vt life ver tag x chi)) :=
  cmdX_set h 8 _ _ fun j hj => by match j, hj with | 0, _ | 1, _ | 2, _ | 3, _ | 4, _ | 5, _ | 6, _ | 7, _ | 8, _ | 9, _ => rfl
theorem set_chi (h : w.rowIs C 45 10 (listF (cmdX op s vk vv vt life ver tag pre chi))) (x : ByteArray) : (w.setCell ⟨C, 9, none⟩ (.string x)).rowIs C 45 10 (listF (cmdX op s vk vv vt life ver tag pre x)) :=
  cmdX_set h 9 _ _ fun j hj => by match j, hj with | 0, _ | 1, _ | 2, _ | 3, _ | 4, _ | 5, _ | 6, _ | 7, _ | 8, _ | 9, _ => rfl
end
theorem kept1 (w : World) (C i : Nat) (v : Value) : Kept [C] w (w.setCell ⟨C, i, none⟩ v) := (Kept.refl _ _).setCell (by simp) _

section
variable (op : Int) (s : ByteArray) (z u C : Nat) (W : World)
set_option maxRecDepth 100000 in
theorem part99 (hz : z < 256) (hC : W.rowIs C 45 10 (listF (cmdX op s nilV nilV nilV 0 0 ⟨#[]⟩ ⟨#[]⟩ ⟨#[]⟩))) : Calls Try.prog 99 #[.pointer (some ⟨C, 0, none⟩), .int .i64 z, .int .i64 u] W fun e w' =>
    e = .returned (.tuple #[]) ∧ w'.rowIs C 45 10 (listF (cmdX op s nilV nilV nilV (lifeN (z / 16) : Nat) 0 ⟨#[]⟩ ⟨#[]⟩ ⟨#[]⟩)) ∧ Kept [C] W w' := by
  have h1 := Lib.hid (life100 (z / 16) (by omega) W)
  have hf : W.frozen? ⟨C, 5, none⟩ = false := World.rowIs.frozen hC 5
  have hc : W.cell? ⟨C, 5, none⟩ = some (.int .u64 0) := World.rowIs.cell hC (i := 5) (by decide)
  have HC := Lib.hid hC
  clear hC
  go_enter Try.func99, Try.ntmps99
  go_wp2_with fail
  refine h1.out.mono ?_
  rintro e w1 ⟨rfl, rfl⟩
  go_wp2_with fail
  go_end0
  exact ⟨rfl, set_life HC.out _, kept1 _ _ _ _⟩
set_option maxRecDepth 100000 in
theorem part101 (hz : z < 256) (hC : W.rowIs C 45 10 (listF (cmdX op s nilV nilV nilV 0 0 ⟨#[]⟩ ⟨#[]⟩ ⟨#[]⟩))) : Calls Try.prog 101 #[.pointer (some ⟨C, 0, none⟩), .int .i64 z, .int .i64 u] W fun e w' =>
    e = .returned (.tuple #[]) ∧ w'.rowIs C 45 10 (listF (cmdX op s nilV nilV nilV 0 0 ⟨#[]⟩ ⟨#[]⟩ (keyN z))) ∧ Kept [C] W w' := by
  have h1 := Lib.hid (key102 z (by omega) W)
  have hf : W.frozen? ⟨C, 9, none⟩ = false := World.rowIs.frozen hC 9
  have hc : W.cell? ⟨C, 9, none⟩ = some (.string ⟨#[]⟩) := World.rowIs.cell hC (i := 9) (by decide)
  have HC := Lib.hid hC
  clear hC
  go_enter Try.func101, Try.ntmps101
  go_wp2_with fail
  refine h1.out.mono ?_
  rintro e w1 ⟨rfl, rfl⟩
  go_wp2_with fail
  go_end0
  exact ⟨rfl, set_chi HC.out _, kept1 _ _ _ _⟩
set_option maxRecDepth 100000 in
theorem part103 (hC : W.rowIs C 45 10 (listF (cmdX op s nilV nilV nilV 0 0 ⟨#[]⟩ ⟨#[]⟩ ⟨#[]⟩))) : Calls Try.prog 103 #[.pointer (some ⟨C, 0, none⟩), .int .i64 z, .int .i64 u] W fun e w' =>
    e = .returned (.tuple #[]) ∧ w'.rowIs C 45 10 (listF (cmdX op ⟨#[]⟩ nilV nilV nilV 0 0 ⟨#[]⟩ ⟨#[]⟩ ⟨#[]⟩)) ∧ Kept [C] W w' := by
  have hf : W.frozen? ⟨C, 1, none⟩ = false := World.rowIs.frozen hC 1
  have hc : W.cell? ⟨C, 1, none⟩ = some (.string s) := World.rowIs.cell hC (i := 1) (by decide)
  have HC := Lib.hid hC
  clear hC
  go_enter Try.func103, Try.ntmps103
  go_wp2_with fail
  go_end0
  exact ⟨rfl, set_key HC.out _, kept1 _ _ _ _⟩
theorem idx185 (n : Nat) (w : World) : (Instr.index 185 (.agg #[.string ⟨#[116]⟩, .string ⟨#[117]⟩]) (.int .i64 ((n : Int) % 2))).run Try.prog w = .ok (.string (tagN n)) w := by
  rw [show ((n : Int) % 2) = ((n % 2 : Nat) : Int) by omega]
  unfold tagN Instr.index
  rcases (show n % 2 = 0 ∨ n % 2 = 1 by omega) with h | h <;> rw [h] <;> simp [asIntOf, run_underlying Try.underlying185, part, Try.isAgg9, Try.sizeOf9]
theorem idx186 (n : Nat) (w : World) : (Instr.index 186 (.agg #[.string ⟨#[]⟩, .string ⟨#[97]⟩, .string ⟨#[97, 47]⟩, .string ⟨#[98]⟩]) (.int .i64 ((n : Int) % 4))).run Try.prog w = .ok (.string (preN n)) w := by
  rw [show ((n : Int) % 4) = ((n % 4 : Nat) : Int) by omega]
  unfold preN Instr.index
  rcases mod4 n with h | h | h | h <;> rw [h] <;> simp [asIntOf, run_underlying Try.underlying186, part, Try.isAgg9, Try.sizeOf9]
set_option maxRecDepth 100000 in
set_option maxHeartbeats 2000000 in
theorem part106 (hz : z < 256) (hC : W.rowIs C 45 10 (listF (cmdX op s nilV nilV nilV 0 0 ⟨#[]⟩ ⟨#[]⟩ ⟨#[]⟩))) : Calls Try.prog 106 #[.pointer (some ⟨C, 0, none⟩), .int .i64 z, .int .i64 u] W fun e w' =>
    e = .returned (.tuple #[]) ∧ w'.rowIs C 45 10 (listF (cmdX op ⟨#[]⟩ nilV nilV nilV 0 0 (tagN z) ⟨#[]⟩ ⟨#[]⟩)) ∧ Kept [C] W w' := by
  have hi := fun w => idx185 z w
  rw [← Int.tmod_eq_emod_of_nonneg (by omega)] at hi
  have hf : W.frozen? ⟨C, 1, none⟩ = false := World.rowIs.frozen hC 1
  have hf7 : W.frozen? ⟨C, 7, none⟩ = false := World.rowIs.frozen hC 7
  have hc : W.cell? ⟨C, 1, none⟩ = some (.string s) := World.rowIs.cell hC (i := 1) (by decide)
  have hc7 : W.cell? ⟨C, 7, none⟩ = some (.string ⟨#[]⟩) := World.rowIs.cell hC (i := 7) (by decide)
  have HC := Lib.hid hC
  clear hC
  go_enter Try.func106, Try.ntmps106
  go_wp2_with fail
  go_region_law (fail)
  all_goals (go_end0; first
    | exact ⟨rfl, World.rowIs.of_block (set_tag (set_key HC.out _) _) rfl, ((kept1 _ _ _ _).trans (kept1 _ _ _ _)).drew⟩
    | exact ⟨rfl, World.rowIs.of_block (set_key (set_tag HC.out _) _) rfl, ((kept1 _ _ _ _).trans (kept1 _ _ _ _)).drew⟩)
set_option maxRecDepth 100000 in
set_option maxHeartbeats 2000000 in
theorem part107 (hz : z < 256) (hC : W.rowIs C 45 10 (listF (cmdX op s nilV nilV nilV 0 0 ⟨#[]⟩ ⟨#[]⟩ ⟨#[]⟩))) : Calls Try.prog 107 #[.pointer (some ⟨C, 0, none⟩), .int .i64 z, .int .i64 u] W fun e w' =>
    e = .returned (.tuple #[]) ∧ w'.rowIs C 45 10 (listF (cmdX op ⟨#[]⟩ nilV nilV nilV 0 0 ⟨#[]⟩ (preN z) ⟨#[]⟩)) ∧ Kept [C] W w' := by
  have hi := fun w => idx186 z w
  rw [← Int.tmod_eq_emod_of_nonneg (by omega)] at hi
  have hf : W.frozen? ⟨C, 1, none⟩ = false := World.rowIs.frozen hC 1
  have hf8 : W.frozen? ⟨C, 8, none⟩ = false := World.rowIs.frozen hC 8
  have hc : W.cell? ⟨C, 1, none⟩ = some (.string s) := World.rowIs.cell hC (i := 1) (by decide)
  have hc8 : W.cell? ⟨C, 8, none⟩ = some (.string ⟨#[]⟩) := World.rowIs.cell hC (i := 8) (by decide)
  have HC := Lib.hid hC
  clear hC
  go_enter Try.func107, Try.ntmps107
  go_wp2_with fail
  go_region_law (fail)
  all_goals (go_end0; first
    | exact ⟨rfl, World.rowIs.of_block (set_pre (set_key HC.out _) _) rfl, ((kept1 _ _ _ _).trans (kept1 _ _ _ _)).drew⟩
    | exact ⟨rfl, World.rowIs.of_block (set_key (set_pre HC.out _) _) rfl, ((kept1 _ _ _ _).trans (kept1 _ _ _ _)).drew⟩)
end
end Go.Proofs.Ytnmhmabifeapkaa.Ord
