/- Walk of a script's step with data. -/
import Derived.Test.YtnmhmabifeapkaaR16
namespace Go.Proofs.Ytnmhmabifeapkaa.Ord
open Go.RowKit
set_option linter.unusedVariables false

set_option maxRecDepth 100000 in
set_option maxHeartbeats 2000000 in
theorem step_data (B : Nat) (N : List Nat) (Q : Nat) (xs : List Int) (w : World) (hB : B ≤ w.heap.size) (h : ReadAt w B N Q xs) (h4 : xs.headD 0 % 16 = 3) :
    Calls Try.prog 38 #[.pointer (some ⟨Q, 0, none⟩)] w fun e w' => StepPost B N Q ⟨2, xs.headD 0 / 16, 0, dataL xs.tail⟩ (xs.tail.tail.drop (xs.tail.headD 0).toNat) w e w' := by
  have hba := below1 w (.cells (stepL 0 0 0 (.slice none 0 0)).toArray 35)
  have hQB := h.2.1
  have H1 := Lib.hid (next_any B N Q xs _ (h.below hba hB))
  have hx0 : 0 ≤ xs.headD 0 ∧ xs.headD 0 < 256 := by
    cases xs with
    | nil => simp
    | cons x ys => exact h.2.2.1 x (by simp)
  obtain ⟨x, hx⟩ : ∃ x, xs.headD 0 = x := ⟨_, rfl⟩
  obtain ⟨x1, hx1⟩ : ∃ x1, xs.tail = x1 := ⟨_, rfl⟩
  rw [hx, hx1] at H1
  rw [hx] at h4 hx0
  rw [hx, hx1]
  clear hx hx1 h
  obtain ⟨d, hd⟩ : ∃ d, dataL x1 = d := ⟨_, rfl⟩
  obtain ⟨r, hr⟩ : ∃ r, x1.tail.drop (x1.headD 0).toNat = r := ⟨_, rfl⟩
  rw [hd, hr]
  have HR := Lib.hid hr
  have HD := Lib.hid hd
  clear hr hd
  go_enter Try.func38, Try.ntmps38
  go_wp2_with fail
  refine H1.out.mono ?_
  rintro e w1 ⟨rfl, hR1, hk1⟩
  have hw1 : w.heap.size + 1 ≤ w1.heap.size := by
    have hs1 := hk1.size
    simpa using hs1
  have H2 := Lib.hid (data_any B N Q x1 w1 (by omega) hR1)
  rw [HR.out, HD.out] at H2
  go_wp2_with fail
  refine H2.out.mono ?_
  rintro e w2 ⟨v, rfl, hv, hR2, hk2⟩
  have hk12 := hk1.trans hk2
  obtain ⟨A, c, rfl, hby, hlo⟩ := SlB.of_own hv
  have hS2 : Own8 w2 (w.heap.size + 1) _ _ := owns_mono hv.raw hw1
  obtain ⟨L, hL⟩ : ∃ L, (d).length = L := ⟨_, rfl⟩
  rw [hL] at hS2
  clear hv
  have HS2 := Lib.hid hS2
  clear hS2 hby hlo
  have HT := Lib.hid (row_there (hk12.row (by simp; omega) (row_list w (stepL 0 0 0 (.slice none 0 0)) 35)))
  go_wp2_with ((with_reducible refine wpList_store_at2 (op := ⟨none, _, _, _, _, _⟩) rfl 35 _ _ rfl w.heap.size 0 (stepL 2 (x / 16) 0 (.slice A L c)).toArray ?_ ?_ ?_ (stepL_size _ _ _ _) ?_ ?_); (· rfl); (· rfl); (· exact HT.out); (· exact stepL_one _ _ _ _ _ _); intro w3 hw3)
  obtain ⟨w4, hw4, hl, hs, hr, hkk⟩ := step_fin hB 2 (x / 16) 0 (.slice A L c) d hk12 (by omega) hR2 HS2.out
  rw [← hw4]
  exact bodyPost_ret (results_cell1 rfl _ _ ⟨w.heap.size, 0, none⟩ _ rfl hl) rfl ⟨_, rfl, hs, hr, hkk⟩
set_option maxRecDepth 100000 in
set_option maxHeartbeats 2000000 in
theorem step_req (B : Nat) (N : List Nat) (Q : Nat) (xs bs : List Int) (w : World) (hB : B ≤ w.heap.size) (h : ReadAt w B N Q xs) (h4 : 8 ≤ xs.headD 0 % 16) (hq : ReqOk (xs.tail.headD 0) (xs.tail.tail.headD 0) (xs.tail.tail.tail.headD 0) bs) :
    Calls Try.prog 38 #[.pointer (some ⟨Q, 0, none⟩)] w fun e w' => StepPost B N Q ⟨2, xs.headD 0 / 16, 0, bs⟩ xs.tail.tail.tail.tail w e w' := by
  have hba := below1 w (.cells (stepL 0 0 0 (.slice none 0 0)).toArray 35)
  have hQB := h.2.1
  have H1 := Lib.hid (next_any B N Q xs _ (h.below hba hB))
  have hx0 : 0 ≤ xs.headD 0 ∧ xs.headD 0 < 256 := by
    cases xs with
    | nil => simp
    | cons x ys => exact h.2.2.1 x (by simp)
  obtain ⟨x, hx⟩ : ∃ x, xs.headD 0 = x := ⟨_, rfl⟩
  obtain ⟨x1, hx1⟩ : ∃ x1, xs.tail = x1 := ⟨_, rfl⟩
  rw [hx, hx1] at H1
  rw [hx] at h4 hx0
  rw [hx, hx1]
  rw [hx1] at hq
  clear hx hx1 h
  have hlt : x % 16 < 16 := by omega
  have g0 : (x % 16 == 0) = false := by simp; omega
  have g1 : (x % 16 == 1) = false := by simp; omega
  have g2 : (x % 16 == 2) = false := by simp; omega
  have g3 : (x % 16 == 3) = false := by simp; omega
  have g4 : (x % 16 == 4) = false := by simp; omega
  have g5 : (x % 16 == 5) = false := by simp; omega
  have g6 : (x % 16 == 6) = false := by simp; omega
  have g7 : (x % 16 == 7) = false := by simp; omega
  have HQ := Lib.hid hq
  clear hq
  go_enter Try.func38, Try.ntmps38
  go_wp2_with fail
  refine H1.out.mono ?_
  rintro e w1 ⟨rfl, hR1, hk1⟩
  have hw1 : w.heap.size + 1 ≤ w1.heap.size := by
    have hs1 := hk1.size
    simpa using hs1
  have H2 := Lib.hid (request_any B N Q x1 bs w1 (by omega) hR1 HQ.out)
  go_wp2_with fail
  refine H2.out.mono ?_
  rintro e w2 ⟨v, rfl, hv, hR2, hk2⟩
  have hk12 := hk1.trans hk2
  obtain ⟨A, c, rfl, hby, hlo⟩ := SlB.of_own hv
  have hS2 : Own8 w2 (w.heap.size + 1) _ _ := owns_mono hv.raw hw1
  obtain ⟨L, hL⟩ : ∃ L, (bs).length = L := ⟨_, rfl⟩
  rw [hL] at hS2
  clear hv
  have HS2 := Lib.hid hS2
  clear hS2 hby hlo
  have HT := Lib.hid (row_there (hk12.row (by simp; omega) (row_list w (stepL 0 0 0 (.slice none 0 0)) 35)))
  go_wp2_with ((with_reducible refine wpList_store_at2 (op := ⟨none, _, _, _, _, _⟩) rfl 35 _ _ rfl w.heap.size 0 (stepL 2 (x / 16) 0 (.slice A L c)).toArray ?_ ?_ ?_ (stepL_size _ _ _ _) ?_ ?_); (· rfl); (· rfl); (· exact HT.out); (· exact stepL_one _ _ _ _ _ _); intro w3 hw3)
  obtain ⟨w4, hw4, hl, hs, hr, hkk⟩ := step_fin hB 2 (x / 16) 0 (.slice A L c) bs hk12 (by omega) hR2 HS2.out
  rw [← hw4]
  exact bodyPost_ret (results_cell1 rfl _ _ ⟨w.heap.size, 0, none⟩ _ rfl hl) rfl ⟨_, rfl, hs, hr, hkk⟩
end Go.Proofs.Ytnmhmabifeapkaa.Ord
