/- Walk of request.Write at a command with a key. -/
import Derived.Test.YtnmhmabifeapkaaR8
import Derived.Test.YtnmhmabifeapkaaS1
namespace Go.Proofs.Ytnmhmabifeapkaa.Ord
open Go.RowKit
set_option linter.unusedVariables false

theorem write_start (w : World) (l : List Value) (hl : l.length = 10) : ∃ W, W = ((w.alloc (.cells l.toArray 45)).alloc (.cells #[.int .u8 0, .slice none 0 0] 111)).alloc (.cells #[.pointer (some ⟨w.heap.size, 0, none⟩), .pointer none, .slice none 0 0, .bool false] 149) ∧
    W.rowIs w.heap.size 45 10 (listF l) ∧ W.rowIs (w.heap.size + 1) 111 2 (listF [.int .u8 0, .slice none 0 0]) ∧ W.rowIs (w.heap.size + 1 + 1) 149 4 (codF (.pointer (some ⟨w.heap.size, 0, none⟩)) (.pointer none) (.slice none 0 0) false) ∧ Below w.heap.size w W ∧ W.heap.size = w.heap.size + 3 := by
  refine ⟨_, rfl, ?_, ?_, ?_, below3 w _ _ _, by simp⟩
  · have := row_list w l 45
    rw [hl] at this
    exact World.rowIs.alloc (World.rowIs.alloc this _) _
  · have := row_list (w.alloc (.cells l.toArray 45)) [.int .u8 0, .slice none 0 0] 111
    exact World.rowIs.alloc (by simpa using this) _
  · have := row_list ((w.alloc (.cells l.toArray 45)).alloc (.cells #[.int .u8 0, .slice none 0 0] 111)) [.pointer (some ⟨w.heap.size, 0, none⟩), .pointer none, .slice none 0 0, .bool false] 149
    refine World.rowIs.congr (by simpa using this) fun i hi => ?_
    match i, hi with
    | 0, _ => rfl
    | 1, _ => rfl
    | 2, _ => rfl
    | 3, _ => rfl

theorem wpList_load_want {P : Program} {ops : Array Oper} {rest : List Oper} {o : Oper} {a : Act} {w : World} {Q : Exit → Act → World → Prop} (ty : TypeId) (x : Operand) (ho : o.op = .load ty x)
    (ad : Addr) (hx : a.eval x = .pointer (some ad)) (cs : List Value) (d : TypeDesc) (hc : CellsAt w ad cs)
    (hu : P.underlying ty = some d) (hd : (match d with | .struct _ | .array _ _ => true | _ => false) = true) (hi : (P.info? ty).map (·.size) = some cs.length)
    (hw : Region.wanted o (yielded ops a.tmps) = true)
    (h : wpList P ops Q rest (a.put o.dst (.agg cs.toArray)) w) : wpList P ops Q (o :: rest) a w := by
  unfold wpList
  rw [if_pos hw]
  exact .inl (wp_load_agg ty x ho ad hx cs d hc hu hd hi h)

set_option maxRecDepth 100000 in
set_option maxHeartbeats 2000000 in
theorem equal_cmd (op : Int) (s : ByteArray) (w : World) : Calls Try.prog 42 #[.agg (cmdL op s).toArray, .agg (cmdL op s).toArray] w fun e w' => e = .returned (.bool true) ∧ Below w.heap.size w w' := by
  have hb := below2 w (.cells (cmdL op s).toArray 45) (.cells (cmdL op s).toArray 45)
  simp only [cmdL] at hb ⊢
  go_enter Try.func42, Try.ntmps42
  go_wp2_with fail
  refine (Go.Proofs.Try.sh_slices_Equal_string_empty _ _ _ _ _ _ (by omega)).mono ?_
  rintro e w1 ⟨rfl, rfl⟩
  go_wp2_with fail
  refine (Go.Proofs.Try.sh_bytes_Equal_all none none 0 _ 0 _ [] [] _ rfl rfl (Lib.BytesIn.nil _ _ _) (Lib.BytesIn.nil _ _ _)).mono ?_
  rintro e w1 ⟨rfl, rfl⟩
  go_wp2_with fail
  refine (Go.Proofs.Try.sh_slices_Equal_string_empty _ _ _ _ _ _ (by omega)).mono ?_
  rintro e w1 ⟨rfl, rfl⟩
  go_wp2_with fail
  go_ret
  exact ⟨rfl, hb⟩

set_option maxRecDepth 100000 in
set_option maxHeartbeats 2000000 in
theorem write_get (s : ByteArray) (h1 : 0 < s.size) (h2 : s.size ≤ 127) (w : World) :
    Calls Try.prog 76 #[.agg (cmdL 4 s).toArray] w fun e w' => ∃ v, e = .returned (.tuple #[.agg #[.int .u8 4, v], .int .i64 0]) ∧ SlX w' [] v (putV s.size ++ sBytes s) ∧ Below w.heap.size w w' := by
  have hsl := sBytes_len s
  have hpl : (putV s.size).length ≤ 10 := putV_len10 (by omega)
  obtain ⟨W1, hW1, hC1, hF1, hX1, hb1, hs1⟩ := write_start w (cmdL 4 s) rfl
  simp only [cmdL] at hW1 ⊢
  go_enter Try.func76, Try.ntmps76
  go_wp2_with fail
  refine (valid_any 4 (by decide) (by decide) _).mono ?_
  rintro e w1 ⟨rfl, rfl⟩
  go_wp2_with fail
  rw [← hW1]
  clear hW1
  refine (parts_get_w (w.heap.size + 1 + 1) w.heap.size _ s none 0 [] false W1 h1 (by omega) hC1 rfl rfl (by omega) hX1 (Byt.nil _ _) (by simp) (by simp)).mono ?_
  rintro e w2 ⟨rfl, v2, hX2, hv2, hk2⟩
  obtain ⟨A2, c2, rfl, hby2, hlo2⟩ := hv2
  have hC2 := hk2.row (by simp; omega) hC1
  have hF2 := hk2.row (by simp) hF1
  have hx22 : w2.cell? ⟨w.heap.size + 1 + 1, 2, none⟩ = some (.slice A2 ([] ++ putV s.size ++ sBytes s).length c2) := World.rowIs.cell hX2 (i := 2) (by decide)
  have hc20 : w2.cell? ⟨w.heap.size, 0, none⟩ = some (.int .i64 4) := World.rowIs.cell hC2 (i := 0) (by decide)
  simp only [List.nil_append] at hx22 hby2
  obtain ⟨k, hk⟩ : ∃ k, (putV s.size ++ sBytes s).length = k := ⟨_, rfl⟩
  rw [hk] at hx22
  have hs2 := hk2.size
  have HX2 := Lib.hid hX2
  have HC2 := Lib.hid hC2
  have HF2 := Lib.hid hF2
  clear hX2 hC2 hF2 hC1 hF1 hX1
  go_wp2_with fail
  have hbA := below1 w2 (.cells #[.int .u8 4, .slice A2 k c2] 111)
  refine (read_get s A2 k c2 _ h1 h2 hk ((hby2.below hbA (Nat.le_refl _)).mono (by simp))).mono ?_
  rintro e w4 ⟨rfl, hb4⟩
  simp only [cmdL]
  have hb24 : Below w2.heap.size w2 w4 := hbA.trans (hb4.mono hbA.size)
  have hs4 := hb24.size
  have hX4 := World.rowIs.of_block HX2.out (hb24.block _ (by omega))
  have hx43 : w4.cell? ⟨w.heap.size + 1 + 1, 3, none⟩ = some (.bool false) := World.rowIs.cell hX4 (i := 3) (by decide)
  have hC4 := World.rowIs.of_block HC2.out (hb24.block _ (by omega))
  have hF4 := World.rowIs.of_block HF2.out (hb24.block _ (by omega))
  have hA3 := row_list w2 [.int .u8 4, .slice A2 k c2] 111
  have hA4 : w4.rowIs w2.heap.size 111 2 (listF [.int .u8 4, .slice A2 k c2]) := World.rowIs.of_block (by simpa using hA3) (hb4.block _ (by simp))
  have hl0 : w.heap.size < w4.heap.size := by omega
  have hl1 : w.heap.size + 1 < w4.heap.size := by omega
  have hl2 : w.heap.size + 1 + 1 < w4.heap.size := by omega
  have hl3 : w2.heap.size < w4.heap.size := World.rowIs.lt hA4
  have hT6 := row_list w4 (cmdL 4 s) 45
  have hb5 := below1 w4 (.cells (cmdL 4 s).toArray 45)
  have hC5 := World.rowIs.alloc hC4 (.cells (cmdL 4 s).toArray 45)
  have hF5 := World.rowIs.alloc hF4 (.cells (cmdL 4 s).toArray 45)
  have hA5 := World.rowIs.alloc hA4 (.cells (cmdL 4 s).toArray 45)
  have HE := Lib.hid (equal_cmd 4 s (w4.alloc (.cells (cmdL 4 s).toArray 45)))
  have HcT := Lib.hid (row_cells hT6 (cmdL 4 s) rfl fun i hi => rfl)
  have HcC := Lib.hid (row_cells hC5 (cmdL 4 s) rfl fun i hi => rfl)
  have HF5 := Lib.hid hF5
  have HA5 := Lib.hid hA5
  have HB5 := Lib.hid hb5
  clear hX4 hC4 hF4 hA3 hA4 hT6 hC5 hF5 hA5 hb5
  simp only [cmdL] at HE HcT HcC HF5 HA5 HB5
  go_wp2_with (first
    | ((with_reducible refine wpList_load_want (o := ⟨some 39, _, _, _, _, _⟩) 45 _ rfl ⟨w4.heap.size, 0, none⟩ ?_ _ _ HcT.out Try.underlying45 rfl ?_ ?_ ?_); (· rfl); (· exact cmdL_size 4 s); (· rfl))
    | ((with_reducible refine wpList_load_want (o := ⟨some 40, _, _, _, _, _⟩) 45 _ rfl ⟨w.heap.size, 0, none⟩ ?_ _ _ HcC.out Try.underlying45 rfl ?_ ?_ ?_); (· rfl); (· exact cmdL_size 4 s); (· rfl)))
  refine HE.out.mono ?_
  rintro e w6 ⟨rfl, hb6⟩
  have hA6 := World.rowIs.of_block HA5.out (hb6.block _ (World.rowIs.lt HA5.out))
  have hF6 := World.rowIs.of_block HF5.out (hb6.block _ (World.rowIs.lt HF5.out))
  have ha60 : w6.cell? ⟨w2.heap.size, 0, none⟩ = some (.int .u8 4) := World.rowIs.cell hA6 (i := 0) (by decide)
  have ha61 : w6.cell? ⟨w2.heap.size, 1, none⟩ = some (.slice A2 k c2) := World.rowIs.cell hA6 (i := 1) (by decide)
  have HT6 := Lib.hid (row_there hF6)
  have HF6 := Lib.hid hF6
  clear hA6 hF6
  go_wp2_with ((with_reducible refine wpList_store_at2 (op := ⟨none, _, _, _, _, _⟩) rfl 111 _ _ rfl (w.heap.size + 1) 0 #[.int .u8 4, .slice A2 k c2] ?_ ?_ ?_ ?_ ?_ ?_); (· rfl); (· rfl); (· exact HT6.out); (· rfl); (· simp [Value.oneCell']); intro w7 hw7)
  have hD7 := store_all HF6.out [.int .u8 4, .slice A2 k c2] rfl
  have hc7 := row_cells hD7 [.int .u8 4, .slice A2 k c2] rfl fun i hi => rfl
  have hk7 : Kept [w.heap.size + 1] w2 (w6.setCells (w.heap.size + 1) 0 [.int .u8 4, .slice A2 k c2]) :=
    kept_setCells (by simp) _ _ _ ((Kept.of_below hb24).trans ((Kept.of_below HB5.out).trans (Kept.of_below hb6)))
  refine bodyPost_ret (results_cell2 rfl _ _ ⟨w.heap.size + 1, 0, none⟩ #[.int .u8 4, .slice A2 k c2] rfl (run_loadVar_at _ _ _ _ _ hc7 Try.underlying111 rfl (by kernel_rfl))) rfl ⟨_, rfl, ⟨A2, c2, by rw [hk], hk7.byt hby2 (fun b off hA hm => ?_), by simp⟩, ?_⟩
  · have := hlo2 b off hA
    simp at hm
    omega
  · exact hb1.trans ((hk2.below (by omega) (by simp; omega)).trans (hk7.below (by omega) (by simp)))
end Go.Proofs.Ytnmhmabifeapkaa.Ord
