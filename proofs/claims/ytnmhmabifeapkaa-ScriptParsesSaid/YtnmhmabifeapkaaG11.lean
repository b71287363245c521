/- Walk of the reference's Write of a frame. -/
import Derived.Test.YtnmhmabifeapkaaG8
namespace Go.Proofs.Ytnmhmabifeapkaa.Ord
open Go.RowKit
set_option linter.unusedVariables false

theorem src_byte (w : World) (x : Int) : Src (w.alloc (.cells #[.int .u8 x] 5)) (some ⟨w.heap.size, 0, none⟩) 1 1 [.int .u8 x] := .inr ⟨_, rfl, row_cells (row_list w [.int .u8 x] 5) _ rfl fun i hi => rfl⟩
theorem one_byte (x : Int) : ∀ u ∈ [Value.int .u8 x], u.oneCell' = true := fun u hu => by
  simp at hu
  subst hu
  rfl
set_option maxRecDepth 100000 in
set_option maxHeartbeats 2000000 in
theorem write61 (code : Int) (A : Option Addr) (k c : Nat) (xs : List Int) (w : World) (hk : xs.length = k) (hl : k ≤ 100000) (hA : Byt w w.heap.size A c xs) :
    Calls Try.prog 61 #[.agg #[.int .u8 code, .slice A k c]] w fun e w' => ∃ v, e = .returned (.tuple #[v, .int .i64 0]) ∧ Own8 w' w.heap.size v (putV (k + 1) ++ [code] ++ xs) ∧ Below w.heap.size w w' := by
  have hb1 := below1 w (.cells #[.int .u8 code, .slice A k c] 111)
  have hg : decide ((2097152 : Int) < (k : Int)) = false := by simp; omega
  have hB1 := row_list w [.int .u8 code, .slice A k c] 111
  have HP := Lib.hid (put79 (k + 1) (by omega) (w.alloc (.cells #[.int .u8 code, .slice A k c] 111)))
  have HA := Lib.hid hA
  have HK := Lib.hid hk
  have HB1 := Lib.hid hb1
  have HR1 := Lib.hid hB1
  have hl2 := putV_len10 (n := k + 1) (by omega)
  clear hA hk hb1 hB1
  have hw : ((k : Int) + 1) % 18446744073709551616 = ((k + 1 : Nat) : Int) := by omega
  go_enter Try.func61, Try.ntmps61
  go_wp2_with fail
  refine HP.out.mono ?_
  rintro e w2 ⟨v2, rfl, hv2, hb2⟩
  have hR2 := World.rowIs.of_block HR1.out (hb2.block _ (by simp))
  have hc0 : w2.cell? ⟨w.heap.size, 0, none⟩ = some (.int .u8 code) := World.rowIs.cell hR2 (i := 0) (by simp)
  have hb02 : Below w.heap.size w w2 := HB1.out.trans (hb2.mono (by simp))
  have hs2 : w.heap.size + 1 ≤ w2.heap.size := by have := hb2.size; simpa using this
  have HO := Lib.hid (World.ownsRow.alloc (owns_mono (show w2.ownsRow (w.heap.size + 1) 5 1 v2 (putV (k + 1)).length ((putV (k + 1)).map (Value.int .u8)) by have := hv2.raw; simpa using this) (Nat.le_refl _)) (.cells #[.int .u8 code] 5))
  have HS := Lib.hid (src_byte w2 code)
  obtain ⟨L, hL⟩ : ∃ L, (putV (k + 1)).length = L := ⟨_, rfl⟩
  rw [hL] at HO hl2
  have HL := Lib.hid hL
  have HR2 := Lib.hid hR2
  have HB2 := Lib.hid hb02
  clear hv2 hb2 hb02 hR2 hL
  go_wp2_with (first
    | ((with_reducible refine wpList_append_src (o := ⟨some 19, _, _, _, _, _⟩) rfl _ _ 22 rfl (w.heap.size + 1) 5 (.int .u8 0) 1 1 Try.underlying22 Try.info5 ?_ ?_ v2 _ _ ?_ HO.out (some ⟨w2.heap.size, 0, none⟩) 1 1 [.int .u8 code] ?_ ?_ HS.out (one_byte code) ?_ ?_ ?_ ?_); (· rfl); (· decide); (· rfl); (· rfl); (· rfl); (· unfold maxLen; omega); (· omega); (· simp; omega); intro v3 w3 hown3 hg3 hb3; have HO3 := Lib.hid hown3; have HB3 := Lib.hid (show Below (w.heap.size + 1) w2 w3 from ((Below.refl _ _).alloc (by omega) _).trans hb3); have hc1 : w3.cell? ⟨w.heap.size, 1, none⟩ = some (.slice A k c) := World.rowIs.cell (World.rowIs.of_block HR2.out (HB3.out.block _ (by omega))) (i := 1) (by simp); have HS2 := Lib.hid (show Src w3 A k c (xs.map (Value.int .u8)) by have h := ((HA.out.below (HB2.out.trans (HB3.out.mono (by omega))) (Nat.le_refl _)).src); rw [HK.out] at h; exact h); have hs3 := HB3.out.size; clear hown3 hg3 hb3)
    | ((with_reducible refine wpList_append_src (o := ⟨some 23, _, _, _, _, _⟩) rfl _ _ 22 rfl (w.heap.size + 1) 5 (.int .u8 0) 1 1 Try.underlying22 Try.info5 ?_ ?_ v3 _ _ ?_ HO3.out A k c (xs.map (Value.int .u8)) ?_ ?_ HS2.out (bytes_one _) ?_ ?_ ?_ ?_); (· rfl); (· decide); (· rfl); (· rfl); (· simp [HK.out]); (· unfold maxLen; omega); (· omega); (· omega); intro v4 w4 hown4 hg4 hb4; have HO4 := Lib.hid hown4; have HB4 := Lib.hid hb4; clear hown4 hg4 hb4))
  go_ret2
  refine ⟨v4, rfl, ?_, (HB2.out.trans (HB3.out.mono (by omega))).trans (HB4.out.mono (by omega))⟩
  have h4 := owns_mono HO4.out (Nat.le_succ w.heap.size)
  rw [← HL.out] at h4
  have : (putV (k + 1) ++ [code] ++ xs).length = (putV (k + 1)).length + 1 + k := by simp [HK.out]; omega
  unfold Own8
  rw [this]
  simpa using h4
end Go.Proofs.Ytnmhmabifeapkaa.Ord
