/- Walks of request.Read and Write at the command without parts; of frame.Write. -/
import Derived.Test.YtnmhmabifeapkaaR9
namespace Go.Proofs.Ytnmhmabifeapkaa.Ord
open Go.RowKit
set_option linter.unusedVariables false

set_option maxRecDepth 100000 in
set_option maxHeartbeats 1000000 in
theorem parts_flush (X C : Nat) (f : Nat → Value) (r outv : Value) (bad : Bool) (w : World) (hC : w.rowIs C 45 10 f) (hf0 : f 0 = .int .i64 14) (hX : w.rowIs X 149 4 (codF (.pointer (some ⟨C, 0, none⟩)) r outv bad)) :
    Calls Try.prog 97 #[.pointer (some ⟨X, 0, none⟩)] w fun e w' => e = .returned (.tuple #[]) ∧ w' = w := by
  have c0 : w.cell? ⟨X, 0, none⟩ = some (.pointer (some ⟨C, 0, none⟩)) := World.rowIs.cell hX (i := 0) (by decide)
  have d0 : w.cell? ⟨C, 0, none⟩ = some (.int .i64 14) := by rw [← hf0]; exact World.rowIs.cell hC (i := 0) (by decide)
  clear hX hC
  go_enter Try.func97, Try.ntmps97
  go_wp2_with fail
  go_end0
  exact ⟨rfl, rfl⟩

set_option maxRecDepth 100000 in
set_option maxHeartbeats 2000000 in
theorem read_flush (w : World) :
    Calls Try.prog 98 #[.agg #[.int .u8 14, .slice none 0 0]] w fun e w' => e = .returned (.tuple #[.agg (cmdL 14 ⟨#[]⟩).toArray, .int .i64 0]) ∧ Below w.heap.size w w' := by
  go_enter Try.func98, Try.ntmps98
  go_wp2_with fail
  obtain ⟨W1, hW1, hC1, hD1, hb1, hs1⟩ := read_start w (.int .u8 14) (.slice none 0 0) 14
  rw [← hW1]
  clear hW1
  refine (new_any none 0 0 [] W1 rfl (by omega) (Byt.nil _ _)).mono ?_
  rintro e w2 ⟨R, v2, rfl, hRs, hR2, hv2, hb2⟩
  have hC2 := World.rowIs.of_block hC1 (hb2.block _ (by omega))
  have hD2 := World.rowIs.of_block hD1 (hb2.block _ (by omega))
  clear hC1 hD1
  have hRC : w.heap.size + 1 + 1 ≠ R := by omega
  have hRw := World.rowIs.lt hR2
  have hb2s := hb2.size
  go_wp2_with fail
  have hX3 := row_list w2 [.pointer (some ⟨w.heap.size + 1 + 1, 0, none⟩), .pointer (some ⟨R, 0, none⟩), .slice none 0 0, .bool false] 149
  have hX3 : (w2.alloc (.cells #[.pointer (some ⟨w.heap.size + 1 + 1, 0, none⟩), .pointer (some ⟨R, 0, none⟩), .slice none 0 0, .bool false] 149)).rowIs w2.heap.size 149 4 (codF (.pointer (some ⟨w.heap.size + 1 + 1, 0, none⟩)) (.pointer (some ⟨R, 0, none⟩)) (.slice none 0 0) false) := World.rowIs.congr (by simpa using hX3) fun i hi => by
    match i, hi with
    | 0, _ => rfl
    | 1, _ => rfl
    | 2, _ => rfl
    | 3, _ => rfl
  have hC3 := World.rowIs.alloc hC2 (.cells #[.pointer (some ⟨w.heap.size + 1 + 1, 0, none⟩), .pointer (some ⟨R, 0, none⟩), .slice none 0 0, .bool false] 149)
  have hD3 := World.rowIs.alloc hD2 (.cells #[.pointer (some ⟨w.heap.size + 1 + 1, 0, none⟩), .pointer (some ⟨R, 0, none⟩), .slice none 0 0, .bool false] 149)
  have hR3 := World.rowIs.alloc hR2 (.cells #[.pointer (some ⟨w.heap.size + 1 + 1, 0, none⟩), .pointer (some ⟨R, 0, none⟩), .slice none 0 0, .bool false] 149)
  have hv3 := (hv2 [w2.heap.size, w.heap.size + 1 + 1, R] (fun k hk => by simp at hk; omega)).kept (Kept.of_below (L := []) (below1 w2 (.cells #[.pointer (some ⟨w.heap.size + 1 + 1, 0, none⟩), .pointer (some ⟨R, 0, none⟩), .slice none 0 0, .bool false] 149))) (by simp)
  have hb3 := below1 w2 (.cells #[.pointer (some ⟨w.heap.size + 1 + 1, 0, none⟩), .pointer (some ⟨R, 0, none⟩), .slice none 0 0, .bool false] 149)
  have hs3 : (w2.alloc (.cells #[.pointer (some ⟨w.heap.size + 1 + 1, 0, none⟩), .pointer (some ⟨R, 0, none⟩), .slice none 0 0, .bool false] 149)).heap.size = w2.heap.size + 1 := by simp
  generalize w2.alloc (.cells #[.pointer (some ⟨w.heap.size + 1 + 1, 0, none⟩), .pointer (some ⟨R, 0, none⟩), .slice none 0 0, .bool false] 149) = w3 at *
  refine (parts_flush w2.heap.size (w.heap.size + 1 + 1) _ _ _ false w3 hC3 rfl hX3).mono ?_
  rintro e w4 ⟨rfl, rfl⟩
  have hX4 := hX3
  have hC4 := hC3
  have hR4 := hR3
  have hD4 := hD3
  obtain ⟨A4, c4, rfl, hby4, _⟩ := hv3
  have hx43 : w4.cell? ⟨w2.heap.size, 3, none⟩ = some (.bool false) := World.rowIs.cell hX4 (i := 3) (by decide)
  have hx41 : w4.cell? ⟨w2.heap.size, 1, none⟩ = some (.pointer (some ⟨R, 0, none⟩)) := World.rowIs.cell hX4 (i := 1) (by decide)
  have hr41 : w4.cell? ⟨R, 1, none⟩ = some (.slice A4 0 c4) := World.rowIs.cell hR4 (i := 1) (by decide)
  have HC4 := Lib.hid hC4
  have HD4 := Lib.hid hD4
  clear hC4 hD4 hX4 hR4 hX3 hC3 hD3 hR3 hv2 hC2 hD2 hR2
  have HCC := Lib.hid (row_cells HC4.out (cmdL 14 ⟨#[]⟩) rfl fun i hi => by
    match i, hi with
    | 0, _ => rfl
    | 1, _ => rfl
    | 2, _ => rfl
    | 3, _ => rfl
    | 4, _ => rfl
    | 5, _ => rfl
    | 6, _ => rfl
    | 7, _ => rfl
    | 8, _ => rfl
    | 9, _ => rfl)
  have HT4 := Lib.hid (row_there HD4.out)
  go_wp2_with fail
  go_enter Try.func135, Try.ntmps135
  go_wp2_with (first
    | ((with_reducible refine wpList_load_agg (o := ⟨some 24, _, _, _, _, _⟩) rfl 45 _ rfl ⟨w.heap.size + 1 + 1, 0, none⟩ ?_ (cmdL 14 ⟨#[]⟩) _ HCC.out Try.underlying45 rfl (cmdL_size _ _) ?_); (· rfl))
    | ((with_reducible refine wpList_store_at2 (op := ⟨none, _, _, _, _, _⟩) rfl 45 _ _ rfl (w.heap.size + 1) 0 (cmdL 14 ⟨#[]⟩).toArray ?_ ?_ ?_ (cmdL_sizeA _ _) ?_ ?_); (· rfl); (· rfl); (· exact HT4.out); (· exact cmdL_one _ _); intro w5 hw5))
  have hD5 := store_all HD4.out (cmdL 14 ⟨#[]⟩) rfl
  have hc5 := row_cells hD5 (cmdL 14 ⟨#[]⟩) rfl fun i hi => rfl
  have hk5 : Kept [w2.heap.size, w.heap.size + 1 + 1, R, w.heap.size + 1] w4 (w4.setCells (w.heap.size + 1) 0 (cmdL 14 ⟨#[]⟩)) := kept_setCells (by simp) _ _ _ (Kept.refl _ _)
  refine bodyPost_ret (results_cell2 rfl _ _ ⟨w.heap.size + 1, 0, none⟩ (cmdL 14 ⟨#[]⟩).toArray rfl (run_loadVar_at _ _ _ _ _ hc5 Try.underlying45 rfl (cmdL_size _ _))) rfl ⟨rfl, ?_⟩
  have hbb : Below w.heap.size w w4 := by
    have h5 := hb1.trans (hb2.mono (by omega))
    exact h5.trans (hb3.mono (by omega))
  exact hbb.trans (hk5.below (by omega) (by simp; omega))
set_option maxRecDepth 100000 in
set_option maxHeartbeats 2000000 in
theorem write_flush (w : World) :
    Calls Try.prog 76 #[.agg (cmdL 14 ⟨#[]⟩).toArray] w fun e w' => e = .returned (.tuple #[.agg #[.int .u8 14, .slice none 0 0], .int .i64 0]) ∧ Below w.heap.size w w' := by
  obtain ⟨W1, hW1, hC1, hF1, hX1, hb1, hs1⟩ := write_start w (cmdL 14 ⟨#[]⟩) rfl
  simp only [cmdL] at hW1 ⊢
  go_enter Try.func76, Try.ntmps76
  go_wp2_with fail
  refine (valid_any 14 (by decide) (by decide) _).mono ?_
  rintro e w1 ⟨rfl, rfl⟩
  go_wp2_with fail
  rw [← hW1]
  clear hW1
  refine (parts_flush (w.heap.size + 1 + 1) w.heap.size _ _ _ false W1 hC1 rfl hX1).mono ?_
  rintro e w2 ⟨rfl, rfl⟩
  replace hs1 : w.heap.size + 3 ≤ w2.heap.size := by omega
  have hX2 := hX1
  have hC2 := hC1
  have hF2 := hF1
  have hx22 : w2.cell? ⟨w.heap.size + 1 + 1, 2, none⟩ = some (.slice none 0 0) := World.rowIs.cell hX2 (i := 2) (by decide)
  have hc20 : w2.cell? ⟨w.heap.size, 0, none⟩ = some (.int .i64 14) := World.rowIs.cell hC2 (i := 0) (by decide)
  have HX2 := Lib.hid hX2
  have HC2 := Lib.hid hC2
  have HF2 := Lib.hid hF2
  clear hX2 hC2 hF2 hC1 hF1 hX1
  go_wp2_with fail
  have hbA := below1 w2 (.cells #[.int .u8 14, .slice none 0 0] 111)
  refine (read_flush _).mono ?_
  rintro e w4 ⟨rfl, hb4⟩
  simp only [cmdL]
  have hb24 : Below w2.heap.size w2 w4 := hbA.trans (hb4.mono hbA.size)
  have hs4 := hb24.size
  have hX4 := World.rowIs.of_block HX2.out (hb24.block _ (by omega))
  have hx43 : w4.cell? ⟨w.heap.size + 1 + 1, 3, none⟩ = some (.bool false) := World.rowIs.cell hX4 (i := 3) (by decide)
  have hC4 := World.rowIs.of_block HC2.out (hb24.block _ (by omega))
  have hF4 := World.rowIs.of_block HF2.out (hb24.block _ (by omega))
  have hA3 := row_list w2 [.int .u8 14, .slice none 0 0] 111
  have hA4 : w4.rowIs w2.heap.size 111 2 (listF [.int .u8 14, .slice none 0 0]) := World.rowIs.of_block (by simpa using hA3) (hb4.block _ (by simp))
  have hl0 : w.heap.size < w4.heap.size := by omega
  have hl1 : w.heap.size + 1 < w4.heap.size := by omega
  have hl2 : w.heap.size + 1 + 1 < w4.heap.size := by omega
  have hl3 : w2.heap.size < w4.heap.size := World.rowIs.lt hA4
  have hT6 := row_list w4 (cmdL 14 ⟨#[]⟩) 45
  have hb5 := below1 w4 (.cells (cmdL 14 ⟨#[]⟩).toArray 45)
  have hC5 := World.rowIs.alloc hC4 (.cells (cmdL 14 ⟨#[]⟩).toArray 45)
  have hF5 := World.rowIs.alloc hF4 (.cells (cmdL 14 ⟨#[]⟩).toArray 45)
  have hA5 := World.rowIs.alloc hA4 (.cells (cmdL 14 ⟨#[]⟩).toArray 45)
  have HE := Lib.hid (equal_cmd 14 ⟨#[]⟩ (w4.alloc (.cells (cmdL 14 ⟨#[]⟩).toArray 45)))
  have HcT := Lib.hid (row_cells hT6 (cmdL 14 ⟨#[]⟩) rfl fun i hi => rfl)
  have HcC := Lib.hid (row_cells hC5 (cmdL 14 ⟨#[]⟩) rfl fun i hi => rfl)
  have HF5 := Lib.hid hF5
  have HA5 := Lib.hid hA5
  have HB5 := Lib.hid hb5
  clear hX4 hC4 hF4 hA3 hA4 hT6 hC5 hF5 hA5 hb5
  simp only [cmdL] at HE HcT HcC HF5 HA5 HB5
  go_wp2_with (first
    | ((with_reducible refine wpList_load_want (o := ⟨some 39, _, _, _, _, _⟩) 45 _ rfl ⟨w4.heap.size, 0, none⟩ ?_ _ _ HcT.out Try.underlying45 rfl ?_ ?_ ?_); (· rfl); (· exact cmdL_size 14 ⟨#[]⟩); (· rfl))
    | ((with_reducible refine wpList_load_want (o := ⟨some 40, _, _, _, _, _⟩) 45 _ rfl ⟨w.heap.size, 0, none⟩ ?_ _ _ HcC.out Try.underlying45 rfl ?_ ?_ ?_); (· rfl); (· exact cmdL_size 14 ⟨#[]⟩); (· rfl)))
  refine HE.out.mono ?_
  rintro e w6 ⟨rfl, hb6⟩
  have hA6 := World.rowIs.of_block HA5.out (hb6.block _ (World.rowIs.lt HA5.out))
  have hF6 := World.rowIs.of_block HF5.out (hb6.block _ (World.rowIs.lt HF5.out))
  have ha60 : w6.cell? ⟨w2.heap.size, 0, none⟩ = some (.int .u8 14) := World.rowIs.cell hA6 (i := 0) (by decide)
  have ha61 : w6.cell? ⟨w2.heap.size, 1, none⟩ = some (.slice none 0 0) := World.rowIs.cell hA6 (i := 1) (by decide)
  have HT6 := Lib.hid (row_there hF6)
  have HF6 := Lib.hid hF6
  clear hA6 hF6
  go_wp2_with ((with_reducible refine wpList_store_at2 (op := ⟨none, _, _, _, _, _⟩) rfl 111 _ _ rfl (w.heap.size + 1) 0 #[.int .u8 14, .slice none 0 0] ?_ ?_ ?_ ?_ ?_ ?_); (· rfl); (· rfl); (· exact HT6.out); (· rfl); (· simp [Value.oneCell']); intro w7 hw7)
  have hD7 := store_all HF6.out [.int .u8 14, .slice none 0 0] rfl
  have hc7 := row_cells hD7 [.int .u8 14, .slice none 0 0] rfl fun i hi => rfl
  have hk7 : Kept [w.heap.size + 1] w2 (w6.setCells (w.heap.size + 1) 0 [.int .u8 14, .slice none 0 0]) :=
    kept_setCells (by simp) _ _ _ ((Kept.of_below hb24).trans ((Kept.of_below HB5.out).trans (Kept.of_below hb6)))
  refine bodyPost_ret (results_cell2 rfl _ _ ⟨w.heap.size + 1, 0, none⟩ #[.int .u8 14, .slice none 0 0] rfl (run_loadVar_at _ _ _ _ _ hc7 Try.underlying111 rfl (by kernel_rfl))) rfl ⟨rfl, ?_⟩
  exact hb1.trans (hk7.below (by omega) (by simp))

end Go.Proofs.Ytnmhmabifeapkaa.Ord
