/- Walk of the reference's First, where the first byte asks for no request. (Printed by wip/tools/gen31.py.) -/
import Derived.Test.YtnmhmabifeapkaaM4
import Derived.Test.YtnmhmabifeapkaaR22
import Derived.Test.YtnmhmabifeapkaaR25
namespace Go.Proofs.Ytnmhmabifeapkaa.Ord
open Go.RowKit
set_option linter.unusedVariables false

def FirstPost (r : StepR) (m : Int) (w : World) (e : Ending) (w' : World) : Prop := ∃ v, e = .returned (.tuple #[.agg (stepL r.k r.c r.n v).toArray, .int .i64 m]) ∧ Own8 w' w.heap.size v r.d ∧ Below w.heap.size w w'
theorem getD_byte {xs : List Int} (hx : ∀ y ∈ xs, 0 ≤ y ∧ y < 256) (i : Nat) : 0 ≤ xs.getD i 0 ∧ xs.getD i 0 < 256 := by
  by_cases h : i < xs.length
  · simpa [List.getD, h] using hx xs[i] (List.getElem_mem h)
  · rw [show xs.getD i 0 = 0 by simp [List.getD, List.getElem?_eq_none (show xs.length ≤ i by omega)]]
    omega
theorem first_load (w : World) (k c n : Int) : (loadVar 35 ⟨w.heap.size, 0, none⟩).run Try.prog (w.alloc (.cells #[.int .i64 k, .int .i64 c, .int .i64 n, .slice none 0 0] 35)) = .ok (.agg #[.int .i64 k, .int .i64 c, .int .i64 n, .slice none 0 0]) (w.alloc (.cells #[.int .i64 k, .int .i64 c, .int .i64 n, .slice none 0 0] 35)) :=
  run_loadVar_at _ _ _ _ _ (cells_lit w [.int .i64 k, .int .i64 c, .int .i64 n, .slice none 0 0] _ 35 rfl) Try.underlying35 rfl (stepL_size k c n (.slice none 0 0))

set_option maxRecDepth 100000 in
set_option maxHeartbeats 2000000 in
theorem first_micro0 (A : Option Addr) (k c : Nat) (xs : List Int) (w : World) (hk : xs.length = k) (hl : k ≤ 10000) (hx : ∀ y ∈ xs, 0 ≤ y ∧ y < 256) (hA : Byt w w.heap.size A c xs) (hm : xs.getD 0 0 % 16 = 0) :
    Calls Try.prog 39 #[.slice A k c] w (FirstPost ⟨3, xs.getD 0 0 / 16, 0, []⟩ 1 w) := by
  have h0 := Lib.hid (fun W (hb : Below w.heap.size w W) => at_any A k c 0 xs W hk (by omega) (by omega) hx ((hA.below hb (Nat.le_refl _)).mono hb.size))
  have hr := getD_byte hx 0
  obtain ⟨x, hxx⟩ : ∃ x, xs.getD 0 0 = x := ⟨_, rfl⟩
  rw [hxx] at hm h0 hr ⊢
  obtain ⟨hr1, hr2⟩ := hr
  clear hx hA hxx hk
  have hb0 := Lib.hid (below1 w (.cells #[.int .i64 0, .int .i64 0, .int .i64 0, .slice none 0 0] 35))
  go_enter Try.func39, Try.ntmps39
  go_wp2_with fail
  refine (h0.out _ hb0.out).mono ?_
  rintro e w1 ⟨rfl, rfl⟩
  go_wp2_with fail
  exact bodyPost_ret (results_cell2 rfl _ _ ⟨w.heap.size, 0, none⟩ _ rfl (first_load w 3 (x / 16) (0))) rfl ⟨_, rfl, Own8.nil _ _, below1 w _⟩

set_option maxRecDepth 100000 in
set_option maxHeartbeats 2000000 in
theorem first_micro1 (A : Option Addr) (k c : Nat) (xs : List Int) (w : World) (hk : xs.length = k) (hl : k ≤ 10000) (hx : ∀ y ∈ xs, 0 ≤ y ∧ y < 256) (hA : Byt w w.heap.size A c xs) (hm : xs.getD 0 0 % 16 = 1) :
    Calls Try.prog 39 #[.slice A k c] w (FirstPost ⟨3, xs.getD 0 0 / 16, 0, []⟩ 1 w) := by
  have h0 := Lib.hid (fun W (hb : Below w.heap.size w W) => at_any A k c 0 xs W hk (by omega) (by omega) hx ((hA.below hb (Nat.le_refl _)).mono hb.size))
  have hr := getD_byte hx 0
  obtain ⟨x, hxx⟩ : ∃ x, xs.getD 0 0 = x := ⟨_, rfl⟩
  rw [hxx] at hm h0 hr ⊢
  obtain ⟨hr1, hr2⟩ := hr
  clear hx hA hxx hk
  have hb0 := Lib.hid (below1 w (.cells #[.int .i64 0, .int .i64 0, .int .i64 0, .slice none 0 0] 35))
  go_enter Try.func39, Try.ntmps39
  go_wp2_with fail
  refine (h0.out _ hb0.out).mono ?_
  rintro e w1 ⟨rfl, rfl⟩
  go_wp2_with fail
  exact bodyPost_ret (results_cell2 rfl _ _ ⟨w.heap.size, 0, none⟩ _ rfl (first_load w 3 (x / 16) (0))) rfl ⟨_, rfl, Own8.nil _ _, below1 w _⟩

set_option maxRecDepth 100000 in
set_option maxHeartbeats 2000000 in
theorem first_connect (A : Option Addr) (k c : Nat) (xs : List Int) (w : World) (hk : xs.length = k) (hl : k ≤ 10000) (hx : ∀ y ∈ xs, 0 ≤ y ∧ y < 256) (hA : Byt w w.heap.size A c xs) (hm : xs.getD 0 0 % 16 = 2) :
    Calls Try.prog 39 #[.slice A k c] w (FirstPost ⟨1, 0, 0, []⟩ 1 w) := by
  have h0 := Lib.hid (fun W (hb : Below w.heap.size w W) => at_any A k c 0 xs W hk (by omega) (by omega) hx ((hA.below hb (Nat.le_refl _)).mono hb.size))
  have hr := getD_byte hx 0
  obtain ⟨x, hxx⟩ : ∃ x, xs.getD 0 0 = x := ⟨_, rfl⟩
  rw [hxx] at hm h0 hr
  obtain ⟨hr1, hr2⟩ := hr
  clear hx hA hxx hk
  have hb0 := Lib.hid (below1 w (.cells #[.int .i64 0, .int .i64 0, .int .i64 0, .slice none 0 0] 35))
  go_enter Try.func39, Try.ntmps39
  go_wp2_with fail
  refine (h0.out _ hb0.out).mono ?_
  rintro e w1 ⟨rfl, rfl⟩
  go_wp2_with fail
  exact bodyPost_ret (results_cell2 rfl _ _ ⟨w.heap.size, 0, none⟩ _ rfl (first_load w 1 (0) (0))) rfl ⟨_, rfl, Own8.nil _ _, below1 w _⟩

set_option maxRecDepth 100000 in
set_option maxHeartbeats 2000000 in
theorem first_tick (A : Option Addr) (k c : Nat) (xs : List Int) (w : World) (hk : xs.length = k) (hl : k ≤ 10000) (hx : ∀ y ∈ xs, 0 ≤ y ∧ y < 256) (hA : Byt w w.heap.size A c xs) (hm : xs.getD 0 0 % 16 = 4) :
    Calls Try.prog 39 #[.slice A k c] w (FirstPost ⟨4, 0, xs.getD 1 0, []⟩ 2 w) := by
  have h0 := Lib.hid (fun W (hb : Below w.heap.size w W) => at_any A k c 0 xs W hk (by omega) (by omega) hx ((hA.below hb (Nat.le_refl _)).mono hb.size))
  have h1 := Lib.hid (fun W (hb : Below w.heap.size w W) => at_any A k c 1 xs W hk (by omega) (by omega) hx ((hA.below hb (Nat.le_refl _)).mono hb.size))
  have hr := getD_byte hx 0
  have hz := getD_byte hx 1
  obtain ⟨z, hzz⟩ : ∃ z, xs.getD 1 0 = z := ⟨_, rfl⟩
  rw [hzz] at h1 hz ⊢
  obtain ⟨x, hxx⟩ : ∃ x, xs.getD 0 0 = x := ⟨_, rfl⟩
  rw [hxx] at hm h0 hr
  obtain ⟨hr1, hr2⟩ := hr
  obtain ⟨hz1, hz2⟩ := hz
  clear hzz
  clear hx hA hxx hk
  have hb0 := Lib.hid (below1 w (.cells #[.int .i64 0, .int .i64 0, .int .i64 0, .slice none 0 0] 35))
  go_enter Try.func39, Try.ntmps39
  go_wp2_with fail
  refine (h0.out _ hb0.out).mono ?_
  rintro e w1 ⟨rfl, rfl⟩
  go_wp2_with fail
  refine (h1.out _ hb0.out).mono ?_
  rintro e w2 ⟨rfl, rfl⟩
  go_wp2_with fail
  exact bodyPost_ret (results_cell2 rfl _ _ ⟨w.heap.size, 0, none⟩ _ rfl (first_load w 4 (0) (z))) rfl ⟨_, rfl, Own8.nil _ _, below1 w _⟩

set_option maxRecDepth 100000 in
set_option maxHeartbeats 2000000 in
theorem first_sweep (A : Option Addr) (k c : Nat) (xs : List Int) (w : World) (hk : xs.length = k) (hl : k ≤ 10000) (hx : ∀ y ∈ xs, 0 ≤ y ∧ y < 256) (hA : Byt w w.heap.size A c xs) (hm : xs.getD 0 0 % 16 = 5) :
    Calls Try.prog 39 #[.slice A k c] w (FirstPost ⟨5, 0, xs.getD 1 0, []⟩ 2 w) := by
  have h0 := Lib.hid (fun W (hb : Below w.heap.size w W) => at_any A k c 0 xs W hk (by omega) (by omega) hx ((hA.below hb (Nat.le_refl _)).mono hb.size))
  have h1 := Lib.hid (fun W (hb : Below w.heap.size w W) => at_any A k c 1 xs W hk (by omega) (by omega) hx ((hA.below hb (Nat.le_refl _)).mono hb.size))
  have hr := getD_byte hx 0
  have hz := getD_byte hx 1
  obtain ⟨z, hzz⟩ : ∃ z, xs.getD 1 0 = z := ⟨_, rfl⟩
  rw [hzz] at h1 hz ⊢
  obtain ⟨x, hxx⟩ : ∃ x, xs.getD 0 0 = x := ⟨_, rfl⟩
  rw [hxx] at hm h0 hr
  obtain ⟨hr1, hr2⟩ := hr
  obtain ⟨hz1, hz2⟩ := hz
  clear hzz
  clear hx hA hxx hk
  have hb0 := Lib.hid (below1 w (.cells #[.int .i64 0, .int .i64 0, .int .i64 0, .slice none 0 0] 35))
  go_enter Try.func39, Try.ntmps39
  go_wp2_with fail
  refine (h0.out _ hb0.out).mono ?_
  rintro e w1 ⟨rfl, rfl⟩
  go_wp2_with fail
  refine (h1.out _ hb0.out).mono ?_
  rintro e w2 ⟨rfl, rfl⟩
  go_wp2_with fail
  exact bodyPost_ret (results_cell2 rfl _ _ ⟨w.heap.size, 0, none⟩ _ rfl (first_load w 5 (0) (z))) rfl ⟨_, rfl, Own8.nil _ _, below1 w _⟩

set_option maxRecDepth 100000 in
set_option maxHeartbeats 2000000 in
theorem first_drain (A : Option Addr) (k c : Nat) (xs : List Int) (w : World) (hk : xs.length = k) (hl : k ≤ 10000) (hx : ∀ y ∈ xs, 0 ≤ y ∧ y < 256) (hA : Byt w w.heap.size A c xs) (hm : xs.getD 0 0 % 16 = 6) :
    Calls Try.prog 39 #[.slice A k c] w (FirstPost ⟨6, xs.getD 0 0 / 16, xs.getD 1 0, []⟩ 2 w) := by
  have h0 := Lib.hid (fun W (hb : Below w.heap.size w W) => at_any A k c 0 xs W hk (by omega) (by omega) hx ((hA.below hb (Nat.le_refl _)).mono hb.size))
  have h1 := Lib.hid (fun W (hb : Below w.heap.size w W) => at_any A k c 1 xs W hk (by omega) (by omega) hx ((hA.below hb (Nat.le_refl _)).mono hb.size))
  have hr := getD_byte hx 0
  have hz := getD_byte hx 1
  obtain ⟨z, hzz⟩ : ∃ z, xs.getD 1 0 = z := ⟨_, rfl⟩
  rw [hzz] at h1 hz ⊢
  obtain ⟨x, hxx⟩ : ∃ x, xs.getD 0 0 = x := ⟨_, rfl⟩
  rw [hxx] at hm h0 hr ⊢
  obtain ⟨hr1, hr2⟩ := hr
  obtain ⟨hz1, hz2⟩ := hz
  clear hzz
  clear hx hA hxx hk
  have hb0 := Lib.hid (below1 w (.cells #[.int .i64 0, .int .i64 0, .int .i64 0, .slice none 0 0] 35))
  go_enter Try.func39, Try.ntmps39
  go_wp2_with fail
  refine (h0.out _ hb0.out).mono ?_
  rintro e w1 ⟨rfl, rfl⟩
  go_wp2_with fail
  refine (h1.out _ hb0.out).mono ?_
  rintro e w2 ⟨rfl, rfl⟩
  go_wp2_with fail
  exact bodyPost_ret (results_cell2 rfl _ _ ⟨w.heap.size, 0, none⟩ _ rfl (first_load w 6 (x / 16) (z))) rfl ⟨_, rfl, Own8.nil _ _, below1 w _⟩

set_option maxRecDepth 100000 in
set_option maxHeartbeats 2000000 in
theorem first_gone (A : Option Addr) (k c : Nat) (xs : List Int) (w : World) (hk : xs.length = k) (hl : k ≤ 10000) (hx : ∀ y ∈ xs, 0 ≤ y ∧ y < 256) (hA : Byt w w.heap.size A c xs) (hm : xs.getD 0 0 % 16 = 7) :
    Calls Try.prog 39 #[.slice A k c] w (FirstPost ⟨7, xs.getD 0 0 / 16, 0, []⟩ 1 w) := by
  have h0 := Lib.hid (fun W (hb : Below w.heap.size w W) => at_any A k c 0 xs W hk (by omega) (by omega) hx ((hA.below hb (Nat.le_refl _)).mono hb.size))
  have hr := getD_byte hx 0
  obtain ⟨x, hxx⟩ : ∃ x, xs.getD 0 0 = x := ⟨_, rfl⟩
  rw [hxx] at hm h0 hr ⊢
  obtain ⟨hr1, hr2⟩ := hr
  clear hx hA hxx hk
  have hb0 := Lib.hid (below1 w (.cells #[.int .i64 0, .int .i64 0, .int .i64 0, .slice none 0 0] 35))
  go_enter Try.func39, Try.ntmps39
  go_wp2_with fail
  refine (h0.out _ hb0.out).mono ?_
  rintro e w1 ⟨rfl, rfl⟩
  go_wp2_with fail
  exact bodyPost_ret (results_cell2 rfl _ _ ⟨w.heap.size, 0, none⟩ _ rfl (first_load w 7 (x / 16) (0))) rfl ⟨_, rfl, Own8.nil _ _, below1 w _⟩
end Go.Proofs.Ytnmhmabifeapkaa.Ord
