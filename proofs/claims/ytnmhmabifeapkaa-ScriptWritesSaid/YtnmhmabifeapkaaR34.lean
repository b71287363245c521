/- Walk of the reference's Valid. -/
import Derived.Test.YtnmhmabifeapkaaR33
import Derived.Test.YtnmhmabifeapkaaR30
namespace Go.Proofs.Ytnmhmabifeapkaa.Ord
open Go.RowKit
set_option linter.unusedVariables false

/-- the step that is read again -/
def firstR (r : StepR) : StepR :=
  if r.k = 1 then ⟨1, 0, 0, []⟩
  else if r.k = 2 then ⟨2, r.c, 0, r.d⟩
  else if r.k = 4 then ⟨4, 0, r.n, []⟩
  else if r.k = 5 then ⟨5, 0, r.n, []⟩
  else if r.k = 6 then ⟨6, r.c, r.n, []⟩
  else if r.k = 7 then ⟨7, r.c, 0, []⟩
  else ⟨3, r.c, 0, []⟩
theorem takeZ_all (d : List Int) : takeZ d.length d = d := by
  apply List.ext_getElem?
  intro i
  unfold takeZ
  rw [List.getElem?_map]
  by_cases h : i < d.length
  · rw [List.getElem?_range h]
    simp [List.getD, h]
  · rw [List.getElem?_eq_none (l := List.range d.length) (by simp; omega), List.getElem?_eq_none (by omega)]
    rfl
theorem bytL_ok {r : StepR} (h0 : 0 ≤ r.c) (h1 : r.c < 16) (h2 : 0 ≤ r.n) (h3 : r.n < 256) (h4 : r.d.length < 256) (hd : ∀ y ∈ r.d, 0 ≤ y ∧ y < 256) : (∀ y ∈ bytL r, 0 ≤ y ∧ y < 256) ∧ (bytL r).length ≤ 10000 := by
  unfold bytL
  repeat' split
  all_goals
    refine ⟨fun y hy => ?_, by simp; try omega⟩
    simp at hy
    first
      | (rcases hy with rfl | rfl | hy <;> first | omega | exact hd y hy)
      | (rcases hy with rfl | rfl <;> omega)
      | omega
theorem first_bytes (r : StepR) (A : Option Addr) (k c : Nat) (w : World) (hk : (bytL r).length = k) (h0 : 0 ≤ r.c) (h1 : r.c < 16) (h2 : 0 ≤ r.n) (h3 : r.n < 256) (h4 : r.d.length < 256) (hd : ∀ y ∈ r.d, 0 ≤ y ∧ y < 256) (hA : Byt w w.heap.size A c (bytL r)) :
    Calls Try.prog 39 #[.slice A k c] w fun e w' => ∃ m, FirstPost (firstR r) m w e w' := by
  obtain ⟨hx, hl⟩ := bytL_ok h0 h1 h2 h3 h4 hd
  have hk' : k ≤ 10000 := by omega
  by_cases k1 : r.k = 1
  · have e : bytL r = [2] := by simp [bytL, k1]
    rw [e] at hk hx hA
    rw [show firstR r = ⟨1, 0, 0, []⟩ by simp [firstR, k1]]
    exact (first_connect A k c [2] w hk hk' hx hA rfl).mono fun e w' h => ⟨_, h⟩
  by_cases k2 : r.k = 2
  · have e : bytL r = [16 * r.c + 3, (r.d.length : Int)] ++ r.d := by simp [bytL, k2]
    rw [e] at hk hx hA
    rw [show firstR r = ⟨2, r.c, 0, r.d⟩ by simp [firstR, k2]]
    have h := first_data A k c _ w hk hk' hx hA (by show (16 * r.c + 3) % 16 = 3; omega)
    have e2 : (([16 * r.c + 3, (r.d.length : Int)] ++ r.d).getD 1 0).toNat = r.d.length := by simp [List.getD]
    have e3 : (([16 * r.c + 3, (r.d.length : Int)] ++ r.d).drop 2) = r.d := rfl
    have e4 : ([16 * r.c + 3, (r.d.length : Int)] ++ r.d).getD 0 0 / 16 = r.c := by show (16 * r.c + 3) / 16 = r.c; omega
    rw [e2, e3, e4, takeZ_all] at h
    exact h.mono fun e w' h => ⟨_, h⟩
  by_cases k4 : r.k = 4
  · have e : bytL r = [4, r.n] := by simp [bytL, k4]
    rw [e] at hk hx hA
    rw [show firstR r = ⟨4, 0, r.n, []⟩ by simp [firstR, k4]]
    exact (first_tick A k c [4, r.n] w hk hk' hx hA rfl).mono fun e w' h => ⟨_, h⟩
  by_cases k5 : r.k = 5
  · have e : bytL r = [5, r.n] := by simp [bytL, k5]
    rw [e] at hk hx hA
    rw [show firstR r = ⟨5, 0, r.n, []⟩ by simp [firstR, k5]]
    exact (first_sweep A k c [5, r.n] w hk hk' hx hA rfl).mono fun e w' h => ⟨_, h⟩
  by_cases k6 : r.k = 6
  · have e : bytL r = [16 * r.c + 6, r.n] := by simp [bytL, k6]
    rw [e] at hk hx hA
    rw [show firstR r = ⟨6, r.c, r.n, []⟩ by simp [firstR, k6]]
    have h := first_drain A k c [16 * r.c + 6, r.n] w hk hk' hx hA (by show (16 * r.c + 6) % 16 = 6; omega)
    rw [show ([16 * r.c + 6, r.n] : List Int).getD 0 0 / 16 = r.c by show (16 * r.c + 6) / 16 = r.c; omega] at h
    exact h.mono fun e w' h => ⟨_, h⟩
  by_cases k7 : r.k = 7
  · have e : bytL r = [16 * r.c + 7] := by simp [bytL, k7]
    rw [e] at hk hx hA
    rw [show firstR r = ⟨7, r.c, 0, []⟩ by simp [firstR, k7]]
    have h := first_gone A k c [16 * r.c + 7] w hk hk' hx hA (by show (16 * r.c + 7) % 16 = 7; omega)
    rw [show ([16 * r.c + 7] : List Int).getD 0 0 / 16 = r.c by show (16 * r.c + 7) / 16 = r.c; omega] at h
    exact h.mono fun e w' h => ⟨_, h⟩
  · have e : bytL r = [16 * r.c] := by simp [bytL, k1, k2, k4, k5, k6, k7]
    rw [e] at hk hx hA
    rw [show firstR r = ⟨3, r.c, 0, []⟩ by simp [firstR, k1, k2, k4, k5, k6, k7]]
    have h := first_micro0 A k c [16 * r.c] w hk hk' hx hA (by show (16 * r.c) % 16 = 0; omega)
    rw [show ([16 * r.c] : List Int).getD 0 0 / 16 = r.c by show (16 * r.c) / 16 = r.c; omega] at h
    exact h.mono fun e w' h => ⟨_, h⟩
/-- the plain law: a step is valid if it is read again -/
theorem valid_again (r : StepR) (h0 : 0 ≤ r.c) (h1 : r.c < 16) (h2 : 0 ≤ r.n) (h3 : r.n < 256) (h4 : r.d.length < 256) : stepEq (firstR r) r = stepValid r.k r.c r.n r.d.length := by
  have hc : connOk r.c = true := by simp [connOk]; omega
  have hn : numOk r.n = true := by simp [numOk]; omega
  obtain ⟨k, c, n, d⟩ := r
  simp only at *
  have hd : (decide (d = [])) = ((d.length : Int) == 0) := by
    rw [Bool.eq_iff_iff]; simp only [decide_eq_true_eq, beq_iff_eq]
    constructor
    · rintro rfl; rfl
    · intro h; exact List.eq_nil_of_length_eq_zero (by omega)
  have hl : decide ((d.length : Int) < 256) = true := by simp; omega
  have hz : ∀ x : Int, ((0 : Int) == x) = (x == 0) := fun x => by rw [Bool.eq_iff_iff]; simp only [beq_iff_eq]; omega
  unfold stepValid firstR stepEq
  by_cases k1 : k = 1
  · subst k1; simp [hd, hz]
  by_cases k2 : k = 2
  · subst k2; simp [hc, hl, hz]
  by_cases k4 : k = 4
  · subst k4; simp [hn, hd, hz]
  by_cases k5 : k = 5
  · subst k5; simp [hn, hd, hz]
  by_cases k6 : k = 6
  · subst k6; simp [hn, hc, hd]
  by_cases k7 : k = 7
  · subst k7; simp [hc, hd, hz]
  by_cases k3 : k = 3
  · subst k3; simp [hc, hd, hz]
  have : (3 == k) = false := by simp; omega
  simp [k1, k2, k3, k4, k5, k6, k7, this]

theorem firstR_d (r : StepR) : (firstR r).d = [] ∨ (firstR r).d = r.d := by
  unfold firstR
  repeat' split
  all_goals simp
theorem stepValid_no {k c n : Int} {L : Nat} (h : c < 0 ∨ 15 < c ∨ n < 0 ∨ 255 < n ∨ 255 < L) : stepValid k c n L = false := by
  cases hv : stepValid k c n L with
  | false => rfl
  | true => have := valid_parts hv; omega

set_option maxRecDepth 100000 in
set_option maxHeartbeats 2000000 in
theorem valid16_any (k c n : Int) (d : List Int) (A : Option Addr) (L cap : Nat) (w : World) (hL : d.length = L) (hl : L ≤ 1000000) (hd : ∀ y ∈ d, 0 ≤ y ∧ y < 256) (hA : Byt w w.heap.size A cap d) :
    Calls Try.prog 16 #[.agg (stepL k c n (.slice A L cap)).toArray] w fun e w' => e = .returned (.bool (stepValid k c n L)) ∧ Below w.heap.size w w' := by
  have hb := below1 w (.cells (stepL k c n (.slice A L cap)).toArray 35)
  have hbx := cells_lit w (stepL k c n (.slice A L cap)) _ 35 rfl
  simp only [stepL] at *
  have HBX := Lib.hid hbx
  obtain ⟨bv, hbv⟩ : ∃ bv, stepValid k c n L = bv := ⟨_, rfl⟩
  rw [hbv]
  have HV := Lib.hid hbv
  have HB := Lib.hid hb
  have HA := Lib.hid ((hA.below hb (Nat.le_refl _)).mono hb.size)
  have HL := Lib.hid hL
  have HD := Lib.hid hd
  clear hb hbv hbx hA hL hd
  go_enter Try.func16, Try.ntmps16
  by_cases g1 : c < 0
  · have h1 : decide (c < 0) = true := by simpa using g1
    go_wp2_with fail
    go_ret
    exact ⟨ret_bool (by rw [← HV.out]; exact (stepValid_no (.inl g1)).symm), HB.out⟩
  have h1 : decide (c < 0) = false := by simpa using g1
  by_cases g2 : 15 < c
  · have h2 : decide (15 < c) = true := by simpa using g2
    go_wp2_with fail
    go_ret
    exact ⟨ret_bool (by rw [← HV.out]; exact (stepValid_no (.inr (.inl g2))).symm), HB.out⟩
  have h2 : decide (15 < c) = false := by simpa using g2
  by_cases g3 : n < 0
  · have h3 : decide (n < 0) = true := by simpa using g3
    go_wp2_with fail
    go_ret
    exact ⟨ret_bool (by rw [← HV.out]; exact (stepValid_no (.inr (.inr (.inl g3)))).symm), HB.out⟩
  have h3 : decide (n < 0) = false := by simpa using g3
  by_cases g4 : 255 < n
  · have h4 : decide (255 < n) = true := by simpa using g4
    go_wp2_with fail
    go_ret
    exact ⟨ret_bool (by rw [← HV.out]; exact (stepValid_no (.inr (.inr (.inr (.inl g4))))).symm), HB.out⟩
  have h4 : decide (255 < n) = false := by simpa using g4
  by_cases g5 : 255 < L
  · have h5 : decide ((255 : Int) < (L : Int)) = true := by simp; omega
    go_wp2_with fail
    go_ret
    exact ⟨ret_bool (by rw [← HV.out]; exact (stepValid_no (.inr (.inr (.inr (.inr g5))))).symm), HB.out⟩
  have h5 : decide ((255 : Int) < (L : Int)) = false := by simp; omega
  have HP := Lib.hid (bytes17_any k c n d A L cap _ HL.out (by omega) (by omega) (by omega) (by omega) (by omega) HA.out)
  simp only [stepL] at HP
  have HE := Lib.hid (show stepEq (firstR ⟨k, c, n, d⟩) ⟨k, c, n, d⟩ = bv by rw [valid_again ⟨k, c, n, d⟩ (by show 0 ≤ c; omega) (by show c < 16; omega) (by show 0 ≤ n; omega) (by show n < 256; omega) (by show d.length < 256; rw [HL.out]; omega), ← HV.out]; simp only [HL.out])
  go_wp2_with fail
  refine HP.out.mono ?_
  rintro e w2 ⟨v, rfl, hown, hb2⟩
  obtain ⟨A2, c2, rfl, hby⟩ := hown.val
  have HF := Lib.hid (first_bytes ⟨k, c, n, d⟩ A2 _ c2 w2 rfl (by show 0 ≤ c; omega) (by show c < 16; omega) (by show 0 ≤ n; omega) (by show n < 256; omega) (by show d.length < 256; rw [HL.out]; omega) HD.out hby)
  clear hown hby
  obtain ⟨M, hM⟩ : ∃ M, (bytL ⟨k, c, n, d⟩).length = M := ⟨_, rfl⟩
  rw [hM] at HF ⊢
  clear hM
  have hb02 := Lib.hid (HB.out.trans (hb2.mono HB.out.size))
  have HA2 := Lib.hid ((HA.out.below hb2 (Nat.le_refl _)).mono hb2.size)
  have HX2 := Lib.hid (HBX.out.below hb2 (show w.heap.size < _ by simp))
  have hlt2 := Lib.hid (show w.heap.size < w2.heap.size by have := hb2.size; simp at this; omega)
  clear hb2
  go_wp2_with fail
  refine HF.out.mono ?_
  rintro e w3 ⟨m, v3, rfl, hown3, hb3⟩
  obtain ⟨A3, c3, rfl, hby3⟩ := hown3.val
  have HA3 := Lib.hid ((HA2.out.below hb3 (Nat.le_refl _)).mono hb3.size)
  have HX3 := Lib.hid (HX2.out.below hb3 (show w.heap.size < _ from hlt2.out))
  have hlt3 := Lib.hid (Nat.lt_of_lt_of_le hlt2.out hb3.size)
  have hb03 := Lib.hid (hb02.out.trans (hb3.mono hb02.out.size))
  clear hb3 hown3
  have hfd := firstR_d ⟨k, c, n, d⟩
  have hok3 : (∀ y ∈ (firstR ⟨k, c, n, d⟩).d, 0 ≤ y ∧ y < 256) ∧ (firstR ⟨k, c, n, d⟩).d.length ≤ 10000 := by
    rcases hfd with e | e
    · rw [e]; simp
    · rw [e]; exact ⟨HD.out, by show d.length ≤ 10000; rw [HL.out]; omega⟩
  obtain ⟨r3, hr3⟩ : ∃ r3, firstR ⟨k, c, n, d⟩ = r3 := ⟨_, rfl⟩
  rw [hr3] at hok3 hby3 HE ⊢
  clear hr3 hfd
  obtain ⟨rk, rc, rn, rd⟩ := r3
  simp only at hok3 hby3 ⊢
  have HS := Lib.hid (fun W (hb : Below w3.heap.size w3 W) => sameStep_any ⟨rk, rc, rn, rd⟩ ⟨k, c, n, d⟩ (.slice A3 rd.length c3) (.slice A d.length cap) W
    ⟨hok3.1, hok3.2, A3, c3, rfl, (hby3.below hb (Nat.le_refl _)).mono hb.size⟩ ⟨HD.out, by show d.length ≤ 10000; rw [HL.out]; omega, A, cap, rfl, (HA3.out.below hb (Nat.le_refl _)).mono hb.size⟩)
  rw [HE.out, HL.out] at HS
  obtain ⟨M3, hM3⟩ : ∃ M3, rd.length = M3 := ⟨_, rfl⟩
  rw [hM3] at HS ⊢
  clear hM3 hok3 hby3
  simp only [stepL] at HS ⊢
  have HX4 := Lib.hid (HX3.out.below (below1 w3 (.cells #[.int .i64 rk, .int .i64 rc, .int .i64 rn, .slice A3 M3 c3] 35)) (show w.heap.size < _ from hlt3.out))
  have HX5 := Lib.hid (cells_lit w3 [.int .i64 rk, .int .i64 rc, .int .i64 rn, .slice A3 M3 c3] _ 35 rfl)
  go_wp2_with (first
    | ((with_reducible refine wpList_load_agg (o := ⟨some 36, _, _, _, _, _⟩) rfl 35 _ rfl ⟨w.heap.size, 0, none⟩ ?_ [.int .i64 k, .int .i64 c, .int .i64 n, .slice A L cap] _ HX4.out Try.underlying35 rfl (lit_size _ _ _ _) ?_); (· rfl)))
  refine (HS.out _ (below1 w3 _)).mono ?_
  rintro e w5 ⟨rfl, hb5⟩
  go_wp2_with fail
  go_ret
  exact ⟨rfl, (hb03.out.trans ((below1 w3 _).mono hb03.out.size)).trans (hb5.mono (Nat.le_trans hb03.out.size (by simp)))⟩
end Go.Proofs.Ytnmhmabifeapkaa.Ord
