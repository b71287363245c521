/- Walks of the reference's Short: commands without loops. (Printed by wip/tools/genG12.py.) -/
import Derived.Test.YtnmhmabifeapkaaG7
namespace Go.Proofs.Ytnmhmabifeapkaa.Ord
open Go.RowKit
set_option linter.unusedVariables false

def keyC : List Value := keyL.map Value.string
theorem keyC_get (n : Nat) : (listF keyC) (n % 8) = .string (keyN n) := by
  unfold keyN keyC listF
  rcases mod8 n with h | h | h | h | h | h | h | h <;> rw [h] <;> rfl
set_option maxRecDepth 100000 in
theorem keys82 (w : World) : Calls Try.prog 82 #[] w fun e w' => ∃ G, e = .returned (.slice (some ⟨G, 0, none⟩) 8 8) ∧ w.heap.size ≤ G ∧ w'.rowIs G 9 8 (listF keyC) ∧ Below w.heap.size w w' := by
  go_enter Try.func82, Try.ntmps82
  go_wp2_with fail
  go_ret
  exact ⟨w.heap.size, rfl, Nat.le_refl _, row_list w keyC 9, below1 w _⟩
set_option maxRecDepth 100000 in
theorem life83 (n : Nat) (hn : n < 1000) (w : World) : Calls Try.prog 83 #[.int .i64 n] w fun e w' => e = .returned (.int .u64 (lifeN n)) ∧ Below w.heap.size w w' := by
  obtain ⟨j, hj⟩ : ∃ j, n % 4 = j := ⟨_, rfl⟩
  have hj4 : j < 4 := by omega
  have hij : (n : Int) % 4 = (j : Int) := by omega
  have hr := row_list w [.int .u64 18446744073709551615, .int .u64 1, .int .u64 5, .int .u64 100] 43
  have hc : (w.alloc (.cells #[.int .u64 18446744073709551615, .int .u64 1, .int .u64 5, .int .u64 100] 43)).cell? ⟨w.heap.size, j, none⟩ = some (.int .u64 (lifeN n)) := by
    have h1 := World.rowIs.cell hr (i := j) (by simpa using hj4)
    rw [h1]
    unfold lifeN
    rw [hj]
    match j, hj4 with
    | 0, _ | 1, _ | 2, _ | 3, _ => rfl
  go_enter Try.func83, Try.ntmps83
  go_wp2_with fail
  go_ret
  exact ⟨rfl, below1 w _⟩

/-- where a walk of Short begins -/
theorem start63 (w : World) (op : Int) : ∃ W, W = (w.alloc (.cells (cmdL 0 ⟨#[]⟩).toArray 45)).alloc (.cells (cmdL op ⟨#[]⟩).toArray 45) ∧ W.rowIs w.heap.size 45 10 (listF (cmdL 0 ⟨#[]⟩)) ∧ W.rowIs (w.heap.size + 1) 45 10 (listF (cmdX op ⟨#[]⟩ nilV nilV nilV 0 0 ⟨#[]⟩ ⟨#[]⟩ ⟨#[]⟩)) ∧ Below w.heap.size w W ∧ W.heap.size = w.heap.size + 2 := by
  refine ⟨_, rfl, World.rowIs.alloc (row_list w (cmdL 0 ⟨#[]⟩) 45) _, ?_, below2 w _ _, by simp⟩
  have := row_list (w.alloc (.cells (cmdL 0 ⟨#[]⟩).toArray 45)) (cmdL op ⟨#[]⟩) 45
  simpa [cmdL, cmdX, nilV] using this
/-- behind the keys -/
structure At63 (w : World) (op : Int) (y G : Nat) (W : World) : Prop where
  t : W.rowIs w.heap.size 45 10 (listF (cmdL 0 ⟨#[]⟩))
  c : W.rowIs (w.heap.size + 1) 45 10 (listF (cmdX op ⟨#[]⟩ nilV nilV nilV 0 0 ⟨#[]⟩ ⟨#[]⟩ ⟨#[]⟩))
  k : W.rowIs G 9 8 (listF keyC)
  low : w.heap.size + 2 ≤ G
  b : Below w.heap.size w W
  s : w.heap.size + 2 ≤ W.heap.size
/-- the result, stored -/
theorem end63 {w W : World} {cm : CmdR} {vk vv vt : Value} (hc : CmdV cm) (hT : W.rowIs w.heap.size 45 10 (listF (cmdL 0 ⟨#[]⟩))) (hvk : SlN W [w.heap.size + 1, w.heap.size] vk cm.keys) (hvv : SlX W [w.heap.size + 1, w.heap.size] vv cm.val) (hvt : SlN W [w.heap.size + 1, w.heap.size] vt cm.tags) (hb : Below w.heap.size w W) :
    (loadVar 45 ⟨w.heap.size, 0, none⟩).run Try.prog (W.setCells w.heap.size 0 (cmdC cm vk vv vt)) = .ok (.agg (cmdC cm vk vv vt).toArray) (W.setCells w.heap.size 0 (cmdC cm vk vv vt)) ∧ CmdRes cm (W.setCells w.heap.size 0 (cmdC cm vk vv vt)) (.agg (cmdC cm vk vv vt).toArray) ∧ Below w.heap.size w (W.setCells w.heap.size 0 (cmdC cm vk vv vt)) := by
  have hD5 := store_all hT (cmdC cm vk vv vt) rfl
  have hc5 := row_cells hD5 _ rfl fun i hi => rfl
  have hk5 : Kept [w.heap.size] W (W.setCells w.heap.size 0 (cmdC cm vk vv vt)) := kept_setCells (by simp) _ _ _ (Kept.refl _ _)
  exact ⟨run_loadVar_at _ _ _ _ _ hc5 Try.underlying45 rfl (cmdC_size _ _ _ _), ⟨_, _, _, rfl, cmdOk_of hc (hvk.kept hk5 (by simp)) (hvv.kept hk5 (by simp)) (hvt.kept hk5 (by simp))⟩, hb.trans (hk5.below hb.size (by simp))⟩
theorem f82_name : (Try.f82.name == "runtime.NumGoroutine") = false := by kernel_rfl
theorem f82_body : Try.f82.body.isSome = true := by kernel_rfl
set_option maxRecDepth 100000 in
set_option maxHeartbeats 2000000 in
theorem s63_4 (y z u : Nat) (hy : y < 256) (hz : z < 256) (hu : u < 256) (hop : 1 + (y : Int) % 15 = 4) (hc : CmdV ⟨4, keyN (y / 15), [], [], [], 0, 0, eB, eB, eB⟩) (w : World) :
    Calls Try.prog 63 #[.int .i64 y, .int .i64 z, .int .i64 u] w fun e w' => ∃ v, e = .returned v ∧ CmdRes ⟨4, keyN (y / 15), [], [], [], 0, 0, eB, eB, eB⟩ w' v ∧ Below w.heap.size w w' := by
  obtain ⟨W1, hW1, hT1, hC1, hb1, hs1⟩ := start63 w 4
  simp only [cmdL] at hW1
  have HW1 := Lib.hid hW1
  have HT1 := Lib.hid hT1
  have HC1 := Lib.hid hC1
  have HB1 := Lib.hid hb1
  obtain ⟨j, hj⟩ : ∃ j, y / 15 % 8 = j := ⟨_, rfl⟩
  have hj8 : j < 8 := by omega
  have hij : (y : Int) / 15 % 8 = (j : Int) := by omega
  clear hW1 hT1 hC1 hb1
  go_enter Try.func63, Try.ntmps63
  go_wp2_with fail
  rw [HW1.out.symm]
  refine (keys82 W1).mono ?_
  rintro e w2 ⟨G, rfl, hG, hk2, hb2⟩
  have hA : At63 w 4 y G w2 := ⟨World.rowIs.of_block HT1.out (hb2.block _ (World.rowIs.lt HT1.out)), World.rowIs.of_block HC1.out (hb2.block _ (World.rowIs.lt HC1.out)), hk2, by omega, HB1.out.trans (hb2.mono (by omega)), by have := hb2.size; omega⟩
  have hkey : w2.cell? ⟨G, j, none⟩ = some (.string (keyN (y / 15))) := by
    rw [World.rowIs.cell hk2 hj8, ← hj, keyC_get]
  have HA := Lib.hid hA
  have hc0 : w2.cell? ⟨w.heap.size + 1, 0, none⟩ = some (.int .i64 4) := World.rowIs.cell hA.c (i := 0) (by decide)
  have hcc1 : w2.cell? ⟨w.heap.size + 1, 1, none⟩ = some (.string ⟨#[]⟩) := World.rowIs.cell hA.c (i := 1) (by decide)
  have hff1 : w2.frozen? ⟨w.heap.size + 1, 1, none⟩ = false := World.rowIs.frozen hA.c 1
  obtain ⟨w3, hw3⟩ : ∃ w3, w2.setCell ⟨w.heap.size + 1, 1, none⟩ (.string (keyN (y / 15))) = w3 := ⟨_, rfl⟩
  have hr3 := set_key hA.c (keyN (y / 15))
  have hk3 := kept1 w2 (w.heap.size + 1) 1 (.string (keyN (y / 15)))
  rw [hw3] at hr3 hk3
  clear hA hk2 hb2
  have hrow : w3.rowIs (w.heap.size + 1) 45 10 (listF (cmdC ⟨4, keyN (y / 15), [], [], [], 0, 0, eB, eB, eB⟩ nilV nilV nilV)) := hr3
  have hkept : Kept [w.heap.size + 1] w2 w3 := hk3
  have hCC := Lib.hid (row_cells hrow _ rfl fun i hi => rfl)
  have hT4 := hkept.row (by simp) HA.out.t
  have HTT := Lib.hid (row_there hT4)
  have HE := Lib.hid (end63 (vk := nilV) (vv := nilV) (vt := nilV) hc hT4 (SlN.nil _ _) (SlX.nil _ _) (SlN.nil _ _) (HA.out.b.trans (hkept.below HA.out.b.size (by simp))))
  clear hrow hkept hT4
  go_wp2_with (first
    | ((with_reducible refine wpList_load_agg (o := ⟨some 132, _, _, _, _, _⟩) rfl 45 _ rfl ⟨w.heap.size + 1, 0, none⟩ ?_ (cmdC ⟨4, keyN (y / 15), [], [], [], 0, 0, eB, eB, eB⟩ nilV nilV nilV) _ hCC.out Try.underlying45 rfl (cmdC_size _ _ _ _) ?_); (· rfl))
    | ((with_reducible refine wpList_store_at2 (op := ⟨none, _, _, _, _, _⟩) rfl 45 _ _ rfl w.heap.size 0 (cmdC ⟨4, keyN (y / 15), [], [], [], 0, 0, eB, eB, eB⟩ nilV nilV nilV).toArray ?_ ?_ ?_ (cmdC_sizeA _ _ _ _) ?_ ?_); (· rfl); (· rfl); (· exact HTT.out); (· exact cmdC_one _ rfl rfl rfl); intro w5 hw5))
  all_goals exact bodyPost_ret (results_cell1 rfl _ _ ⟨w.heap.size, 0, none⟩ _ rfl HE.out.1) rfl ⟨_, rfl, HE.out.2.1, HE.out.2.2⟩
set_option maxRecDepth 100000 in
set_option maxHeartbeats 2000000 in
theorem s63_7 (y z u : Nat) (hy : y < 256) (hz : z < 256) (hu : u < 256) (hop : 1 + (y : Int) % 15 = 7) (hc : CmdV ⟨7, keyN (y / 15), [], [], [], 0, 0, eB, eB, eB⟩) (w : World) :
    Calls Try.prog 63 #[.int .i64 y, .int .i64 z, .int .i64 u] w fun e w' => ∃ v, e = .returned v ∧ CmdRes ⟨7, keyN (y / 15), [], [], [], 0, 0, eB, eB, eB⟩ w' v ∧ Below w.heap.size w w' := by
  obtain ⟨W1, hW1, hT1, hC1, hb1, hs1⟩ := start63 w 7
  simp only [cmdL] at hW1
  have HW1 := Lib.hid hW1
  have HT1 := Lib.hid hT1
  have HC1 := Lib.hid hC1
  have HB1 := Lib.hid hb1
  obtain ⟨j, hj⟩ : ∃ j, y / 15 % 8 = j := ⟨_, rfl⟩
  have hj8 : j < 8 := by omega
  have hij : (y : Int) / 15 % 8 = (j : Int) := by omega
  clear hW1 hT1 hC1 hb1
  go_enter Try.func63, Try.ntmps63
  go_wp2_with fail
  rw [HW1.out.symm]
  refine (keys82 W1).mono ?_
  rintro e w2 ⟨G, rfl, hG, hk2, hb2⟩
  have hA : At63 w 7 y G w2 := ⟨World.rowIs.of_block HT1.out (hb2.block _ (World.rowIs.lt HT1.out)), World.rowIs.of_block HC1.out (hb2.block _ (World.rowIs.lt HC1.out)), hk2, by omega, HB1.out.trans (hb2.mono (by omega)), by have := hb2.size; omega⟩
  have hkey : w2.cell? ⟨G, j, none⟩ = some (.string (keyN (y / 15))) := by
    rw [World.rowIs.cell hk2 hj8, ← hj, keyC_get]
  have HA := Lib.hid hA
  have hc0 : w2.cell? ⟨w.heap.size + 1, 0, none⟩ = some (.int .i64 7) := World.rowIs.cell hA.c (i := 0) (by decide)
  have hcc1 : w2.cell? ⟨w.heap.size + 1, 1, none⟩ = some (.string ⟨#[]⟩) := World.rowIs.cell hA.c (i := 1) (by decide)
  have hff1 : w2.frozen? ⟨w.heap.size + 1, 1, none⟩ = false := World.rowIs.frozen hA.c 1
  obtain ⟨w3, hw3⟩ : ∃ w3, w2.setCell ⟨w.heap.size + 1, 1, none⟩ (.string (keyN (y / 15))) = w3 := ⟨_, rfl⟩
  have hr3 := set_key hA.c (keyN (y / 15))
  have hk3 := kept1 w2 (w.heap.size + 1) 1 (.string (keyN (y / 15)))
  rw [hw3] at hr3 hk3
  clear hA hk2 hb2
  have hrow : w3.rowIs (w.heap.size + 1) 45 10 (listF (cmdC ⟨7, keyN (y / 15), [], [], [], 0, 0, eB, eB, eB⟩ nilV nilV nilV)) := hr3
  have hkept : Kept [w.heap.size + 1] w2 w3 := hk3
  have hCC := Lib.hid (row_cells hrow _ rfl fun i hi => rfl)
  have hT4 := hkept.row (by simp) HA.out.t
  have HTT := Lib.hid (row_there hT4)
  have HE := Lib.hid (end63 (vk := nilV) (vv := nilV) (vt := nilV) hc hT4 (SlN.nil _ _) (SlX.nil _ _) (SlN.nil _ _) (HA.out.b.trans (hkept.below HA.out.b.size (by simp))))
  clear hrow hkept hT4
  go_wp2_with (first
    | ((with_reducible refine wpList_load_agg (o := ⟨some 132, _, _, _, _, _⟩) rfl 45 _ rfl ⟨w.heap.size + 1, 0, none⟩ ?_ (cmdC ⟨7, keyN (y / 15), [], [], [], 0, 0, eB, eB, eB⟩ nilV nilV nilV) _ hCC.out Try.underlying45 rfl (cmdC_size _ _ _ _) ?_); (· rfl))
    | ((with_reducible refine wpList_store_at2 (op := ⟨none, _, _, _, _, _⟩) rfl 45 _ _ rfl w.heap.size 0 (cmdC ⟨7, keyN (y / 15), [], [], [], 0, 0, eB, eB, eB⟩ nilV nilV nilV).toArray ?_ ?_ ?_ (cmdC_sizeA _ _ _ _) ?_ ?_); (· rfl); (· rfl); (· exact HTT.out); (· exact cmdC_one _ rfl rfl rfl); intro w5 hw5))
  all_goals exact bodyPost_ret (results_cell1 rfl _ _ ⟨w.heap.size, 0, none⟩ _ rfl HE.out.1) rfl ⟨_, rfl, HE.out.2.1, HE.out.2.2⟩
set_option maxRecDepth 100000 in
set_option maxHeartbeats 2000000 in
theorem s63_13 (y z u : Nat) (hy : y < 256) (hz : z < 256) (hu : u < 256) (hop : 1 + (y : Int) % 15 = 13) (hc : CmdV ⟨13, keyN (y / 15), [], [], [], 0, 0, eB, eB, eB⟩) (w : World) :
    Calls Try.prog 63 #[.int .i64 y, .int .i64 z, .int .i64 u] w fun e w' => ∃ v, e = .returned v ∧ CmdRes ⟨13, keyN (y / 15), [], [], [], 0, 0, eB, eB, eB⟩ w' v ∧ Below w.heap.size w w' := by
  obtain ⟨W1, hW1, hT1, hC1, hb1, hs1⟩ := start63 w 13
  simp only [cmdL] at hW1
  have HW1 := Lib.hid hW1
  have HT1 := Lib.hid hT1
  have HC1 := Lib.hid hC1
  have HB1 := Lib.hid hb1
  obtain ⟨j, hj⟩ : ∃ j, y / 15 % 8 = j := ⟨_, rfl⟩
  have hj8 : j < 8 := by omega
  have hij : (y : Int) / 15 % 8 = (j : Int) := by omega
  clear hW1 hT1 hC1 hb1
  go_enter Try.func63, Try.ntmps63
  go_wp2_with fail
  rw [HW1.out.symm]
  refine (keys82 W1).mono ?_
  rintro e w2 ⟨G, rfl, hG, hk2, hb2⟩
  have hA : At63 w 13 y G w2 := ⟨World.rowIs.of_block HT1.out (hb2.block _ (World.rowIs.lt HT1.out)), World.rowIs.of_block HC1.out (hb2.block _ (World.rowIs.lt HC1.out)), hk2, by omega, HB1.out.trans (hb2.mono (by omega)), by have := hb2.size; omega⟩
  have hkey : w2.cell? ⟨G, j, none⟩ = some (.string (keyN (y / 15))) := by
    rw [World.rowIs.cell hk2 hj8, ← hj, keyC_get]
  have HA := Lib.hid hA
  have hc0 : w2.cell? ⟨w.heap.size + 1, 0, none⟩ = some (.int .i64 13) := World.rowIs.cell hA.c (i := 0) (by decide)
  have hcc1 : w2.cell? ⟨w.heap.size + 1, 1, none⟩ = some (.string ⟨#[]⟩) := World.rowIs.cell hA.c (i := 1) (by decide)
  have hff1 : w2.frozen? ⟨w.heap.size + 1, 1, none⟩ = false := World.rowIs.frozen hA.c 1
  obtain ⟨w3, hw3⟩ : ∃ w3, w2.setCell ⟨w.heap.size + 1, 1, none⟩ (.string (keyN (y / 15))) = w3 := ⟨_, rfl⟩
  have hr3 := set_key hA.c (keyN (y / 15))
  have hk3 := kept1 w2 (w.heap.size + 1) 1 (.string (keyN (y / 15)))
  rw [hw3] at hr3 hk3
  clear hA hk2 hb2
  have hrow : w3.rowIs (w.heap.size + 1) 45 10 (listF (cmdC ⟨13, keyN (y / 15), [], [], [], 0, 0, eB, eB, eB⟩ nilV nilV nilV)) := hr3
  have hkept : Kept [w.heap.size + 1] w2 w3 := hk3
  have hCC := Lib.hid (row_cells hrow _ rfl fun i hi => rfl)
  have hT4 := hkept.row (by simp) HA.out.t
  have HTT := Lib.hid (row_there hT4)
  have HE := Lib.hid (end63 (vk := nilV) (vv := nilV) (vt := nilV) hc hT4 (SlN.nil _ _) (SlX.nil _ _) (SlN.nil _ _) (HA.out.b.trans (hkept.below HA.out.b.size (by simp))))
  clear hrow hkept hT4
  go_wp2_with (first
    | ((with_reducible refine wpList_load_agg (o := ⟨some 132, _, _, _, _, _⟩) rfl 45 _ rfl ⟨w.heap.size + 1, 0, none⟩ ?_ (cmdC ⟨13, keyN (y / 15), [], [], [], 0, 0, eB, eB, eB⟩ nilV nilV nilV) _ hCC.out Try.underlying45 rfl (cmdC_size _ _ _ _) ?_); (· rfl))
    | ((with_reducible refine wpList_store_at2 (op := ⟨none, _, _, _, _, _⟩) rfl 45 _ _ rfl w.heap.size 0 (cmdC ⟨13, keyN (y / 15), [], [], [], 0, 0, eB, eB, eB⟩ nilV nilV nilV).toArray ?_ ?_ ?_ (cmdC_sizeA _ _ _ _) ?_ ?_); (· rfl); (· rfl); (· exact HTT.out); (· exact cmdC_one _ rfl rfl rfl); intro w5 hw5))
  all_goals exact bodyPost_ret (results_cell1 rfl _ _ ⟨w.heap.size, 0, none⟩ _ rfl HE.out.1) rfl ⟨_, rfl, HE.out.2.1, HE.out.2.2⟩
set_option maxRecDepth 100000 in
set_option maxHeartbeats 2000000 in
theorem s63_6 (y z u : Nat) (hy : y < 256) (hz : z < 256) (hu : u < 256) (hop : 1 + (y : Int) % 15 = 6) (hc : CmdV ⟨6, keyN (y / 15), [], [], [], (lifeN (z / 16) : Nat), 0, eB, eB, eB⟩) (w : World) :
    Calls Try.prog 63 #[.int .i64 y, .int .i64 z, .int .i64 u] w fun e w' => ∃ v, e = .returned v ∧ CmdRes ⟨6, keyN (y / 15), [], [], [], (lifeN (z / 16) : Nat), 0, eB, eB, eB⟩ w' v ∧ Below w.heap.size w w' := by
  obtain ⟨W1, hW1, hT1, hC1, hb1, hs1⟩ := start63 w 6
  simp only [cmdL] at hW1
  have HW1 := Lib.hid hW1
  have HT1 := Lib.hid hT1
  have HC1 := Lib.hid hC1
  have HB1 := Lib.hid hb1
  obtain ⟨j, hj⟩ : ∃ j, y / 15 % 8 = j := ⟨_, rfl⟩
  have hj8 : j < 8 := by omega
  have hij : (y : Int) / 15 % 8 = (j : Int) := by omega
  clear hW1 hT1 hC1 hb1
  go_enter Try.func63, Try.ntmps63
  go_wp2_with fail
  rw [HW1.out.symm]
  refine (keys82 W1).mono ?_
  rintro e w2 ⟨G, rfl, hG, hk2, hb2⟩
  have hA : At63 w 6 y G w2 := ⟨World.rowIs.of_block HT1.out (hb2.block _ (World.rowIs.lt HT1.out)), World.rowIs.of_block HC1.out (hb2.block _ (World.rowIs.lt HC1.out)), hk2, by omega, HB1.out.trans (hb2.mono (by omega)), by have := hb2.size; omega⟩
  have hkey : w2.cell? ⟨G, j, none⟩ = some (.string (keyN (y / 15))) := by
    rw [World.rowIs.cell hk2 hj8, ← hj, keyC_get]
  have HA := Lib.hid hA
  have hc0 : w2.cell? ⟨w.heap.size + 1, 0, none⟩ = some (.int .i64 6) := World.rowIs.cell hA.c (i := 0) (by decide)
  clear hk2 hb2 hA
  go_wp2_with fail
  all_goals
    refine (life83 (z / 16) (by omega) w2).mono ?_
    rintro e w3 ⟨rfl, hb3⟩
    have hC3 := World.rowIs.of_block HA.out.c (hb3.block _ (World.rowIs.lt HA.out.c))
    have hcc1 : w3.cell? ⟨w.heap.size + 1, 1, none⟩ = some (.string ⟨#[]⟩) := World.rowIs.cell hC3 (i := 1) (by decide)
    have hff1 : w3.frozen? ⟨w.heap.size + 1, 1, none⟩ = false := World.rowIs.frozen hC3 1
    have hcc5 : w3.cell? ⟨w.heap.size + 1, 5, none⟩ = some (.int .u64 0) := World.rowIs.cell hC3 (i := 5) (by decide)
    have hff5 : w3.frozen? ⟨w.heap.size + 1, 5, none⟩ = false := World.rowIs.frozen hC3 5
    obtain ⟨w4, hw4⟩ : ∃ w4, (w3.setCell ⟨w.heap.size + 1, 1, none⟩ (.string (keyN (y / 15)))).setCell ⟨w.heap.size + 1, 5, none⟩ (.int .u64 (lifeN (z / 16) : Nat)) = w4 := ⟨_, rfl⟩
    have hr4 := set_life (set_key hC3 (keyN (y / 15))) (lifeN (z / 16) : Nat)
    have hk4 := (Kept.of_below (L := [w.heap.size + 1]) hb3).trans ((kept1 w3 (w.heap.size + 1) 1 (.string (keyN (y / 15)))).trans (kept1 _ (w.heap.size + 1) 5 (.int .u64 (lifeN (z / 16) : Nat))))
    rw [hw4] at hr4 hk4
    clear hC3 hb3
    have hrow : w4.rowIs (w.heap.size + 1) 45 10 (listF (cmdC ⟨6, keyN (y / 15), [], [], [], (lifeN (z / 16) : Nat), 0, eB, eB, eB⟩ nilV nilV nilV)) := hr4
    have hkept : Kept [w.heap.size + 1] w2 w4 := hk4
    have hCC := Lib.hid (row_cells hrow _ rfl fun i hi => rfl)
    have hT4 := hkept.row (by simp) HA.out.t
    have HTT := Lib.hid (row_there hT4)
    have HE := Lib.hid (end63 (vk := nilV) (vv := nilV) (vt := nilV) hc hT4 (SlN.nil _ _) (SlX.nil _ _) (SlN.nil _ _) (HA.out.b.trans (hkept.below HA.out.b.size (by simp))))
    clear hrow hkept hT4
    go_wp2_with (first
      | ((with_reducible refine wpList_load_agg (o := ⟨some 132, _, _, _, _, _⟩) rfl 45 _ rfl ⟨w.heap.size + 1, 0, none⟩ ?_ (cmdC ⟨6, keyN (y / 15), [], [], [], (lifeN (z / 16) : Nat), 0, eB, eB, eB⟩ nilV nilV nilV) _ hCC.out Try.underlying45 rfl (cmdC_size _ _ _ _) ?_); (· rfl))
      | ((with_reducible refine wpList_store_at2 (op := ⟨none, _, _, _, _, _⟩) rfl 45 _ _ rfl w.heap.size 0 (cmdC ⟨6, keyN (y / 15), [], [], [], (lifeN (z / 16) : Nat), 0, eB, eB, eB⟩ nilV nilV nilV).toArray ?_ ?_ ?_ (cmdC_sizeA _ _ _ _) ?_ ?_); (· rfl); (· rfl); (· exact HTT.out); (· exact cmdC_one _ rfl rfl rfl); intro w5 hw5))
    all_goals exact bodyPost_ret (results_cell1 rfl _ _ ⟨w.heap.size, 0, none⟩ _ rfl HE.out.1) rfl ⟨_, rfl, HE.out.2.1, HE.out.2.2⟩
set_option maxRecDepth 100000 in
set_option maxHeartbeats 2000000 in
theorem s63_8 (y z u : Nat) (hy : y < 256) (hz : z < 256) (hu : u < 256) (tg : ByteArray) (htg : tagN z = tg) (hop : 1 + (y : Int) % 15 = 8) (hc : CmdV ⟨8, eB, [], [], [], 0, 0, tg, eB, eB⟩) (w : World) :
    Calls Try.prog 63 #[.int .i64 y, .int .i64 z, .int .i64 u] w fun e w' => ∃ v, e = .returned v ∧ CmdRes ⟨8, eB, [], [], [], 0, 0, tg, eB, eB⟩ w' v ∧ Below w.heap.size w w' := by
  obtain ⟨W1, hW1, hT1, hC1, hb1, hs1⟩ := start63 w 8
  simp only [cmdL] at hW1
  have HW1 := Lib.hid hW1
  have HT1 := Lib.hid hT1
  have HC1 := Lib.hid hC1
  have HB1 := Lib.hid hb1
  obtain ⟨j, hj⟩ : ∃ j, y / 15 % 8 = j := ⟨_, rfl⟩
  have hj8 : j < 8 := by omega
  have hij : (y : Int) / 15 % 8 = (j : Int) := by omega
  have htag : (((z : Int) % 2 == 1) = true → tg = ⟨#[117]⟩) ∧ (((z : Int) % 2 == 1) = false → tg = ⟨#[116]⟩) := by
    rw [← htg]
    unfold tagN
    constructor <;> intro h
    · rw [show z % 2 = 1 by simp at h; omega]; rfl
    · rw [show z % 2 = 0 by simp at h; omega]; rfl
  have HTG := Lib.hid htag
  clear htag
  cases hzb : ((z : Int) % 2 == 1)
  · clear hW1 hT1 hC1 hb1
    go_enter Try.func63, Try.ntmps63
    go_wp2_with fail
    rw [HW1.out.symm]
    refine (keys82 W1).mono ?_
    rintro e w2 ⟨G, rfl, hG, hk2, hb2⟩
    have hA : At63 w 8 y G w2 := ⟨World.rowIs.of_block HT1.out (hb2.block _ (World.rowIs.lt HT1.out)), World.rowIs.of_block HC1.out (hb2.block _ (World.rowIs.lt HC1.out)), hk2, by omega, HB1.out.trans (hb2.mono (by omega)), by have := hb2.size; omega⟩
    have hkey : w2.cell? ⟨G, j, none⟩ = some (.string (keyN (y / 15))) := by
      rw [World.rowIs.cell hk2 hj8, ← hj, keyC_get]
    have HA := Lib.hid hA
    have hc0 : w2.cell? ⟨w.heap.size + 1, 0, none⟩ = some (.int .i64 8) := World.rowIs.cell hA.c (i := 0) (by decide)
    have hcc7 : w2.cell? ⟨w.heap.size + 1, 7, none⟩ = some (.string ⟨#[]⟩) := World.rowIs.cell hA.c (i := 7) (by decide)
    have hff7 : w2.frozen? ⟨w.heap.size + 1, 7, none⟩ = false := World.rowIs.frozen hA.c 7
    obtain rfl : tg = ⟨#[116]⟩ := HTG.out.2 hzb
    obtain ⟨w3, hw3⟩ : ∃ w3, w2.setCell ⟨w.heap.size + 1, 7, none⟩ (.string ⟨#[116]⟩) = w3 := ⟨_, rfl⟩
    have hr3 := set_tag hA.c ⟨#[116]⟩
    have hk3 := kept1 w2 (w.heap.size + 1) 7 (.string ⟨#[116]⟩)
    rw [hw3] at hr3 hk3
    clear hA hk2 hb2
    have hrow : w3.rowIs (w.heap.size + 1) 45 10 (listF (cmdC ⟨8, eB, [], [], [], 0, 0, ⟨#[116]⟩, eB, eB⟩ nilV nilV nilV)) := hr3
    have hkept : Kept [w.heap.size + 1] w2 w3 := hk3
    have hCC := Lib.hid (row_cells hrow _ rfl fun i hi => rfl)
    have hT4 := hkept.row (by simp) HA.out.t
    have HTT := Lib.hid (row_there hT4)
    have HE := Lib.hid (end63 (vk := nilV) (vv := nilV) (vt := nilV) hc hT4 (SlN.nil _ _) (SlX.nil _ _) (SlN.nil _ _) (HA.out.b.trans (hkept.below HA.out.b.size (by simp))))
    clear hrow hkept hT4
    go_wp2_with (first
      | ((with_reducible refine wpList_load_agg (o := ⟨some 132, _, _, _, _, _⟩) rfl 45 _ rfl ⟨w.heap.size + 1, 0, none⟩ ?_ (cmdC ⟨8, eB, [], [], [], 0, 0, ⟨#[116]⟩, eB, eB⟩ nilV nilV nilV) _ hCC.out Try.underlying45 rfl (cmdC_size _ _ _ _) ?_); (· rfl))
      | ((with_reducible refine wpList_store_at2 (op := ⟨none, _, _, _, _, _⟩) rfl 45 _ _ rfl w.heap.size 0 (cmdC ⟨8, eB, [], [], [], 0, 0, ⟨#[116]⟩, eB, eB⟩ nilV nilV nilV).toArray ?_ ?_ ?_ (cmdC_sizeA _ _ _ _) ?_ ?_); (· rfl); (· rfl); (· exact HTT.out); (· exact cmdC_one _ rfl rfl rfl); intro w5 hw5))
    all_goals exact bodyPost_ret (results_cell1 rfl _ _ ⟨w.heap.size, 0, none⟩ _ rfl HE.out.1) rfl ⟨_, rfl, HE.out.2.1, HE.out.2.2⟩
  · clear hW1 hT1 hC1 hb1
    go_enter Try.func63, Try.ntmps63
    go_wp2_with fail
    rw [HW1.out.symm]
    refine (keys82 W1).mono ?_
    rintro e w2 ⟨G, rfl, hG, hk2, hb2⟩
    have hA : At63 w 8 y G w2 := ⟨World.rowIs.of_block HT1.out (hb2.block _ (World.rowIs.lt HT1.out)), World.rowIs.of_block HC1.out (hb2.block _ (World.rowIs.lt HC1.out)), hk2, by omega, HB1.out.trans (hb2.mono (by omega)), by have := hb2.size; omega⟩
    have hkey : w2.cell? ⟨G, j, none⟩ = some (.string (keyN (y / 15))) := by
      rw [World.rowIs.cell hk2 hj8, ← hj, keyC_get]
    have HA := Lib.hid hA
    have hc0 : w2.cell? ⟨w.heap.size + 1, 0, none⟩ = some (.int .i64 8) := World.rowIs.cell hA.c (i := 0) (by decide)
    have hcc7 : w2.cell? ⟨w.heap.size + 1, 7, none⟩ = some (.string ⟨#[]⟩) := World.rowIs.cell hA.c (i := 7) (by decide)
    have hff7 : w2.frozen? ⟨w.heap.size + 1, 7, none⟩ = false := World.rowIs.frozen hA.c 7
    obtain rfl : tg = ⟨#[117]⟩ := HTG.out.1 hzb
    obtain ⟨w3, hw3⟩ : ∃ w3, w2.setCell ⟨w.heap.size + 1, 7, none⟩ (.string ⟨#[117]⟩) = w3 := ⟨_, rfl⟩
    have hr3 := set_tag hA.c ⟨#[117]⟩
    have hk3 := kept1 w2 (w.heap.size + 1) 7 (.string ⟨#[117]⟩)
    rw [hw3] at hr3 hk3
    clear hA hk2 hb2
    have hrow : w3.rowIs (w.heap.size + 1) 45 10 (listF (cmdC ⟨8, eB, [], [], [], 0, 0, ⟨#[117]⟩, eB, eB⟩ nilV nilV nilV)) := hr3
    have hkept : Kept [w.heap.size + 1] w2 w3 := hk3
    have hCC := Lib.hid (row_cells hrow _ rfl fun i hi => rfl)
    have hT4 := hkept.row (by simp) HA.out.t
    have HTT := Lib.hid (row_there hT4)
    have HE := Lib.hid (end63 (vk := nilV) (vv := nilV) (vt := nilV) hc hT4 (SlN.nil _ _) (SlX.nil _ _) (SlN.nil _ _) (HA.out.b.trans (hkept.below HA.out.b.size (by simp))))
    clear hrow hkept hT4
    go_wp2_with (first
      | ((with_reducible refine wpList_load_agg (o := ⟨some 132, _, _, _, _, _⟩) rfl 45 _ rfl ⟨w.heap.size + 1, 0, none⟩ ?_ (cmdC ⟨8, eB, [], [], [], 0, 0, ⟨#[117]⟩, eB, eB⟩ nilV nilV nilV) _ hCC.out Try.underlying45 rfl (cmdC_size _ _ _ _) ?_); (· rfl))
      | ((with_reducible refine wpList_store_at2 (op := ⟨none, _, _, _, _, _⟩) rfl 45 _ _ rfl w.heap.size 0 (cmdC ⟨8, eB, [], [], [], 0, 0, ⟨#[117]⟩, eB, eB⟩ nilV nilV nilV).toArray ?_ ?_ ?_ (cmdC_sizeA _ _ _ _) ?_ ?_); (· rfl); (· rfl); (· exact HTT.out); (· exact cmdC_one _ rfl rfl rfl); intro w5 hw5))
    all_goals exact bodyPost_ret (results_cell1 rfl _ _ ⟨w.heap.size, 0, none⟩ _ rfl HE.out.1) rfl ⟨_, rfl, HE.out.2.1, HE.out.2.2⟩
set_option maxRecDepth 100000 in
set_option maxHeartbeats 2000000 in
theorem s63_9 (y z u : Nat) (hy : y < 256) (hz : z < 256) (hu : u < 256) (tg : ByteArray) (htg : tagN z = tg) (hop : 1 + (y : Int) % 15 = 9) (hc : CmdV ⟨9, eB, [], [], [], 0, 0, tg, eB, eB⟩) (w : World) :
    Calls Try.prog 63 #[.int .i64 y, .int .i64 z, .int .i64 u] w fun e w' => ∃ v, e = .returned v ∧ CmdRes ⟨9, eB, [], [], [], 0, 0, tg, eB, eB⟩ w' v ∧ Below w.heap.size w w' := by
  obtain ⟨W1, hW1, hT1, hC1, hb1, hs1⟩ := start63 w 9
  simp only [cmdL] at hW1
  have HW1 := Lib.hid hW1
  have HT1 := Lib.hid hT1
  have HC1 := Lib.hid hC1
  have HB1 := Lib.hid hb1
  obtain ⟨j, hj⟩ : ∃ j, y / 15 % 8 = j := ⟨_, rfl⟩
  have hj8 : j < 8 := by omega
  have hij : (y : Int) / 15 % 8 = (j : Int) := by omega
  have htag : (((z : Int) % 2 == 1) = true → tg = ⟨#[117]⟩) ∧ (((z : Int) % 2 == 1) = false → tg = ⟨#[116]⟩) := by
    rw [← htg]
    unfold tagN
    constructor <;> intro h
    · rw [show z % 2 = 1 by simp at h; omega]; rfl
    · rw [show z % 2 = 0 by simp at h; omega]; rfl
  have HTG := Lib.hid htag
  clear htag
  cases hzb : ((z : Int) % 2 == 1)
  · clear hW1 hT1 hC1 hb1
    go_enter Try.func63, Try.ntmps63
    go_wp2_with fail
    rw [HW1.out.symm]
    refine (keys82 W1).mono ?_
    rintro e w2 ⟨G, rfl, hG, hk2, hb2⟩
    have hA : At63 w 9 y G w2 := ⟨World.rowIs.of_block HT1.out (hb2.block _ (World.rowIs.lt HT1.out)), World.rowIs.of_block HC1.out (hb2.block _ (World.rowIs.lt HC1.out)), hk2, by omega, HB1.out.trans (hb2.mono (by omega)), by have := hb2.size; omega⟩
    have hkey : w2.cell? ⟨G, j, none⟩ = some (.string (keyN (y / 15))) := by
      rw [World.rowIs.cell hk2 hj8, ← hj, keyC_get]
    have HA := Lib.hid hA
    have hc0 : w2.cell? ⟨w.heap.size + 1, 0, none⟩ = some (.int .i64 9) := World.rowIs.cell hA.c (i := 0) (by decide)
    have hcc7 : w2.cell? ⟨w.heap.size + 1, 7, none⟩ = some (.string ⟨#[]⟩) := World.rowIs.cell hA.c (i := 7) (by decide)
    have hff7 : w2.frozen? ⟨w.heap.size + 1, 7, none⟩ = false := World.rowIs.frozen hA.c 7
    obtain rfl : tg = ⟨#[116]⟩ := HTG.out.2 hzb
    obtain ⟨w3, hw3⟩ : ∃ w3, w2.setCell ⟨w.heap.size + 1, 7, none⟩ (.string ⟨#[116]⟩) = w3 := ⟨_, rfl⟩
    have hr3 := set_tag hA.c ⟨#[116]⟩
    have hk3 := kept1 w2 (w.heap.size + 1) 7 (.string ⟨#[116]⟩)
    rw [hw3] at hr3 hk3
    clear hA hk2 hb2
    have hrow : w3.rowIs (w.heap.size + 1) 45 10 (listF (cmdC ⟨9, eB, [], [], [], 0, 0, ⟨#[116]⟩, eB, eB⟩ nilV nilV nilV)) := hr3
    have hkept : Kept [w.heap.size + 1] w2 w3 := hk3
    have hCC := Lib.hid (row_cells hrow _ rfl fun i hi => rfl)
    have hT4 := hkept.row (by simp) HA.out.t
    have HTT := Lib.hid (row_there hT4)
    have HE := Lib.hid (end63 (vk := nilV) (vv := nilV) (vt := nilV) hc hT4 (SlN.nil _ _) (SlX.nil _ _) (SlN.nil _ _) (HA.out.b.trans (hkept.below HA.out.b.size (by simp))))
    clear hrow hkept hT4
    go_wp2_with (first
      | ((with_reducible refine wpList_load_agg (o := ⟨some 132, _, _, _, _, _⟩) rfl 45 _ rfl ⟨w.heap.size + 1, 0, none⟩ ?_ (cmdC ⟨9, eB, [], [], [], 0, 0, ⟨#[116]⟩, eB, eB⟩ nilV nilV nilV) _ hCC.out Try.underlying45 rfl (cmdC_size _ _ _ _) ?_); (· rfl))
      | ((with_reducible refine wpList_store_at2 (op := ⟨none, _, _, _, _, _⟩) rfl 45 _ _ rfl w.heap.size 0 (cmdC ⟨9, eB, [], [], [], 0, 0, ⟨#[116]⟩, eB, eB⟩ nilV nilV nilV).toArray ?_ ?_ ?_ (cmdC_sizeA _ _ _ _) ?_ ?_); (· rfl); (· rfl); (· exact HTT.out); (· exact cmdC_one _ rfl rfl rfl); intro w5 hw5))
    all_goals exact bodyPost_ret (results_cell1 rfl _ _ ⟨w.heap.size, 0, none⟩ _ rfl HE.out.1) rfl ⟨_, rfl, HE.out.2.1, HE.out.2.2⟩
  · clear hW1 hT1 hC1 hb1
    go_enter Try.func63, Try.ntmps63
    go_wp2_with fail
    rw [HW1.out.symm]
    refine (keys82 W1).mono ?_
    rintro e w2 ⟨G, rfl, hG, hk2, hb2⟩
    have hA : At63 w 9 y G w2 := ⟨World.rowIs.of_block HT1.out (hb2.block _ (World.rowIs.lt HT1.out)), World.rowIs.of_block HC1.out (hb2.block _ (World.rowIs.lt HC1.out)), hk2, by omega, HB1.out.trans (hb2.mono (by omega)), by have := hb2.size; omega⟩
    have hkey : w2.cell? ⟨G, j, none⟩ = some (.string (keyN (y / 15))) := by
      rw [World.rowIs.cell hk2 hj8, ← hj, keyC_get]
    have HA := Lib.hid hA
    have hc0 : w2.cell? ⟨w.heap.size + 1, 0, none⟩ = some (.int .i64 9) := World.rowIs.cell hA.c (i := 0) (by decide)
    have hcc7 : w2.cell? ⟨w.heap.size + 1, 7, none⟩ = some (.string ⟨#[]⟩) := World.rowIs.cell hA.c (i := 7) (by decide)
    have hff7 : w2.frozen? ⟨w.heap.size + 1, 7, none⟩ = false := World.rowIs.frozen hA.c 7
    obtain rfl : tg = ⟨#[117]⟩ := HTG.out.1 hzb
    obtain ⟨w3, hw3⟩ : ∃ w3, w2.setCell ⟨w.heap.size + 1, 7, none⟩ (.string ⟨#[117]⟩) = w3 := ⟨_, rfl⟩
    have hr3 := set_tag hA.c ⟨#[117]⟩
    have hk3 := kept1 w2 (w.heap.size + 1) 7 (.string ⟨#[117]⟩)
    rw [hw3] at hr3 hk3
    clear hA hk2 hb2
    have hrow : w3.rowIs (w.heap.size + 1) 45 10 (listF (cmdC ⟨9, eB, [], [], [], 0, 0, ⟨#[117]⟩, eB, eB⟩ nilV nilV nilV)) := hr3
    have hkept : Kept [w.heap.size + 1] w2 w3 := hk3
    have hCC := Lib.hid (row_cells hrow _ rfl fun i hi => rfl)
    have hT4 := hkept.row (by simp) HA.out.t
    have HTT := Lib.hid (row_there hT4)
    have HE := Lib.hid (end63 (vk := nilV) (vv := nilV) (vt := nilV) hc hT4 (SlN.nil _ _) (SlX.nil _ _) (SlN.nil _ _) (HA.out.b.trans (hkept.below HA.out.b.size (by simp))))
    clear hrow hkept hT4
    go_wp2_with (first
      | ((with_reducible refine wpList_load_agg (o := ⟨some 132, _, _, _, _, _⟩) rfl 45 _ rfl ⟨w.heap.size + 1, 0, none⟩ ?_ (cmdC ⟨9, eB, [], [], [], 0, 0, ⟨#[117]⟩, eB, eB⟩ nilV nilV nilV) _ hCC.out Try.underlying45 rfl (cmdC_size _ _ _ _) ?_); (· rfl))
      | ((with_reducible refine wpList_store_at2 (op := ⟨none, _, _, _, _, _⟩) rfl 45 _ _ rfl w.heap.size 0 (cmdC ⟨9, eB, [], [], [], 0, 0, ⟨#[117]⟩, eB, eB⟩ nilV nilV nilV).toArray ?_ ?_ ?_ (cmdC_sizeA _ _ _ _) ?_ ?_); (· rfl); (· rfl); (· exact HTT.out); (· exact cmdC_one _ rfl rfl rfl); intro w5 hw5))
    all_goals exact bodyPost_ret (results_cell1 rfl _ _ ⟨w.heap.size, 0, none⟩ _ rfl HE.out.1) rfl ⟨_, rfl, HE.out.2.1, HE.out.2.2⟩
set_option maxRecDepth 100000 in
set_option maxHeartbeats 2000000 in
theorem s63_10 (y z u : Nat) (hy : y < 256) (hz : z < 256) (hu : u < 256) (hop : 1 + (y : Int) % 15 = 10) (hc : CmdV ⟨10, eB, [], [], [], 0, 0, eB, preN z, eB⟩) (w : World) :
    Calls Try.prog 63 #[.int .i64 y, .int .i64 z, .int .i64 u] w fun e w' => ∃ v, e = .returned v ∧ CmdRes ⟨10, eB, [], [], [], 0, 0, eB, preN z, eB⟩ w' v ∧ Below w.heap.size w w' := by
  obtain ⟨W1, hW1, hT1, hC1, hb1, hs1⟩ := start63 w 10
  simp only [cmdL] at hW1
  have HW1 := Lib.hid hW1
  have HT1 := Lib.hid hT1
  have HC1 := Lib.hid hC1
  have HB1 := Lib.hid hb1
  obtain ⟨j, hj⟩ : ∃ j, y / 15 % 8 = j := ⟨_, rfl⟩
  have hj8 : j < 8 := by omega
  have hij : (y : Int) / 15 % 8 = (j : Int) := by omega
  obtain ⟨j4, hj4⟩ : ∃ j4, z % 4 = j4 := ⟨_, rfl⟩
  have hj44 : j4 < 4 := by omega
  have hij4 : (z : Int) % 4 = (j4 : Int) := by omega
  clear hW1 hT1 hC1 hb1
  go_enter Try.func63, Try.ntmps63
  go_wp2_with fail
  rw [HW1.out.symm]
  refine (keys82 W1).mono ?_
  rintro e w2 ⟨G, rfl, hG, hk2, hb2⟩
  have hA : At63 w 10 y G w2 := ⟨World.rowIs.of_block HT1.out (hb2.block _ (World.rowIs.lt HT1.out)), World.rowIs.of_block HC1.out (hb2.block _ (World.rowIs.lt HC1.out)), hk2, by omega, HB1.out.trans (hb2.mono (by omega)), by have := hb2.size; omega⟩
  have hkey : w2.cell? ⟨G, j, none⟩ = some (.string (keyN (y / 15))) := by
    rw [World.rowIs.cell hk2 hj8, ← hj, keyC_get]
  have HA := Lib.hid hA
  have hc0 : w2.cell? ⟨w.heap.size + 1, 0, none⟩ = some (.int .i64 10) := World.rowIs.cell hA.c (i := 0) (by decide)
  have hpr : (w2.alloc (.cells #[.string ⟨#[]⟩, .string ⟨#[97]⟩, .string ⟨#[97, 47]⟩, .string ⟨#[98]⟩] 9)).cell? ⟨w2.heap.size, j4, none⟩ = some (.string (preN z)) := by
    have h1 := World.rowIs.cell (row_list w2 [.string ⟨#[]⟩, .string ⟨#[97]⟩, .string ⟨#[97, 47]⟩, .string ⟨#[98]⟩] 9) (i := j4) (by simpa using hj44)
    rw [h1]
    unfold preN
    rw [hj4]
    match j4, hj44 with
    | 0, _ | 1, _ | 2, _ | 3, _ => rfl
  have hC3 := World.rowIs.alloc hA.c (.cells #[.string ⟨#[]⟩, .string ⟨#[97]⟩, .string ⟨#[97, 47]⟩, .string ⟨#[98]⟩] 9)
  have hb3 := below1 w2 (.cells #[.string ⟨#[]⟩, .string ⟨#[97]⟩, .string ⟨#[97, 47]⟩, .string ⟨#[98]⟩] 9)
  have hcc8 : (w2.alloc (.cells #[.string ⟨#[]⟩, .string ⟨#[97]⟩, .string ⟨#[97, 47]⟩, .string ⟨#[98]⟩] 9)).cell? ⟨w.heap.size + 1, 8, none⟩ = some (.string ⟨#[]⟩) := World.rowIs.cell hC3 (i := 8) (by decide)
  have hff8 : (w2.alloc (.cells #[.string ⟨#[]⟩, .string ⟨#[97]⟩, .string ⟨#[97, 47]⟩, .string ⟨#[98]⟩] 9)).frozen? ⟨w.heap.size + 1, 8, none⟩ = false := World.rowIs.frozen hC3 8
  obtain ⟨w3, hw3⟩ : ∃ w3, (w2.alloc (.cells #[.string ⟨#[]⟩, .string ⟨#[97]⟩, .string ⟨#[97, 47]⟩, .string ⟨#[98]⟩] 9)).setCell ⟨w.heap.size + 1, 8, none⟩ (.string (preN z)) = w3 := ⟨_, rfl⟩
  have hr3 := set_pre hC3 (preN z)
  have hk3 := (Kept.of_below (L := [w.heap.size + 1]) hb3).trans (kept1 _ (w.heap.size + 1) 8 (.string (preN z)))
  rw [hw3] at hr3 hk3
  clear hA hk2 hb2 hC3 hb3
  have hrow : w3.rowIs (w.heap.size + 1) 45 10 (listF (cmdC ⟨10, eB, [], [], [], 0, 0, eB, preN z, eB⟩ nilV nilV nilV)) := hr3
  have hkept : Kept [w.heap.size + 1] w2 w3 := hk3
  have hCC := Lib.hid (row_cells hrow _ rfl fun i hi => rfl)
  have hT4 := hkept.row (by simp) HA.out.t
  have HTT := Lib.hid (row_there hT4)
  have HE := Lib.hid (end63 (vk := nilV) (vv := nilV) (vt := nilV) hc hT4 (SlN.nil _ _) (SlX.nil _ _) (SlN.nil _ _) (HA.out.b.trans (hkept.below HA.out.b.size (by simp))))
  clear hrow hkept hT4
  go_wp2_with (first
    | ((with_reducible refine wpList_load_agg (o := ⟨some 132, _, _, _, _, _⟩) rfl 45 _ rfl ⟨w.heap.size + 1, 0, none⟩ ?_ (cmdC ⟨10, eB, [], [], [], 0, 0, eB, preN z, eB⟩ nilV nilV nilV) _ hCC.out Try.underlying45 rfl (cmdC_size _ _ _ _) ?_); (· rfl))
    | ((with_reducible refine wpList_store_at2 (op := ⟨none, _, _, _, _, _⟩) rfl 45 _ _ rfl w.heap.size 0 (cmdC ⟨10, eB, [], [], [], 0, 0, eB, preN z, eB⟩ nilV nilV nilV).toArray ?_ ?_ ?_ (cmdC_sizeA _ _ _ _) ?_ ?_); (· rfl); (· rfl); (· exact HTT.out); (· exact cmdC_one _ rfl rfl rfl); intro w5 hw5))
  all_goals exact bodyPost_ret (results_cell1 rfl _ _ ⟨w.heap.size, 0, none⟩ _ rfl HE.out.1) rfl ⟨_, rfl, HE.out.2.1, HE.out.2.2⟩
set_option maxRecDepth 100000 in
set_option maxHeartbeats 2000000 in
theorem s63_11 (y z u : Nat) (hy : y < 256) (hz : z < 256) (hu : u < 256) (hop : 1 + (y : Int) % 15 = 11) (hc : CmdV ⟨11, keyN (y / 15), [], [], [], 0, 0, eB, eB, keyN z⟩) (w : World) :
    Calls Try.prog 63 #[.int .i64 y, .int .i64 z, .int .i64 u] w fun e w' => ∃ v, e = .returned v ∧ CmdRes ⟨11, keyN (y / 15), [], [], [], 0, 0, eB, eB, keyN z⟩ w' v ∧ Below w.heap.size w w' := by
  obtain ⟨W1, hW1, hT1, hC1, hb1, hs1⟩ := start63 w 11
  simp only [cmdL] at hW1
  have HW1 := Lib.hid hW1
  have HT1 := Lib.hid hT1
  have HC1 := Lib.hid hC1
  have HB1 := Lib.hid hb1
  obtain ⟨j, hj⟩ : ∃ j, y / 15 % 8 = j := ⟨_, rfl⟩
  have hj8 : j < 8 := by omega
  have hij : (y : Int) / 15 % 8 = (j : Int) := by omega
  obtain ⟨jz, hjz⟩ : ∃ jz, z % 8 = jz := ⟨_, rfl⟩
  have hjz8 : jz < 8 := by omega
  have hjzi : (jz : Int) < 8 := by omega
  have hijz : (z : Int).tmod 8 = (jz : Int) := by rw [Int.tmod_eq_emod_of_nonneg (by omega)]; omega
  clear hW1 hT1 hC1 hb1
  go_enter Try.func63, Try.ntmps63
  go_wp2_with fail
  rw [HW1.out.symm]
  refine (keys82 W1).mono ?_
  rintro e w2 ⟨G, rfl, hG, hk2, hb2⟩
  have hA : At63 w 11 y G w2 := ⟨World.rowIs.of_block HT1.out (hb2.block _ (World.rowIs.lt HT1.out)), World.rowIs.of_block HC1.out (hb2.block _ (World.rowIs.lt HC1.out)), hk2, by omega, HB1.out.trans (hb2.mono (by omega)), by have := hb2.size; omega⟩
  have hkey : w2.cell? ⟨G, j, none⟩ = some (.string (keyN (y / 15))) := by
    rw [World.rowIs.cell hk2 hj8, ← hj, keyC_get]
  have HA := Lib.hid hA
  have hc0 : w2.cell? ⟨w.heap.size + 1, 0, none⟩ = some (.int .i64 11) := World.rowIs.cell hA.c (i := 0) (by decide)
  clear hA hk2 hb2
  go_wp2_with fail
  all_goals
    go_region_law ((with_reducible refine step_call_any (o := ⟨some 125, _, _, _, _, _⟩) rfl 82 _ _ rfl #[] ?_ Try.f82 Try.func82 f82_name f82_body (fun u w6 => ∃ G, u = .slice (some ⟨G, 0, none⟩) 8 8 ∧ w2.drew.heap.size ≤ G ∧ w6.rowIs G 9 8 (listF keyC) ∧ Below w2.drew.heap.size w2.drew w6) ?_ ?_); (· simp only [List.map_toArray, List.map_nil]); (· exact (keys82 w2.drew).mono fun e w' ⟨G, h1, h2⟩ => ⟨_, h1, G, rfl, h2⟩); rintro u6 w6 ⟨G6, rfl, hG6, hrow6, hb6⟩; have HR6 := Lib.hid hrow6; have HB6 := Lib.hid hb6; have hC6 := World.rowIs.of_block HA.out.c (hb6.block _ (World.rowIs.lt HA.out.c)); have HC6 := Lib.hid hC6; have hkc : w6.cell? ⟨G6, jz, none⟩ = some (.string (keyN z)) := (by rw [World.rowIs.cell hrow6 hjz8, ← hjz, keyC_get]); have hcc1 : w6.cell? ⟨w.heap.size + 1, 1, none⟩ = some (.string ⟨#[]⟩) := World.rowIs.cell hC6 (i := 1) (by decide); have hff1 : w6.frozen? ⟨w.heap.size + 1, 1, none⟩ = false := World.rowIs.frozen hC6 1; have hcc9 : w6.cell? ⟨w.heap.size + 1, 9, none⟩ = some (.string ⟨#[]⟩) := World.rowIs.cell hC6 (i := 9) (by decide); have hff9 : w6.frozen? ⟨w.heap.size + 1, 9, none⟩ = false := World.rowIs.frozen hC6 9; have hkc2 : (w6.setCell ⟨w.heap.size + 1, 1, none⟩ (.string (keyN (y / 15)))).cell? ⟨G6, jz, none⟩ = some (.string (keyN z)) := (kept1 w6 (w.heap.size + 1) 1 (.string (keyN (y / 15)))).cell (by have := HA.out.s; simp at hG6; simp; omega) hkc; clear hrow6 hb6 hC6)
    all_goals
      obtain ⟨w7, hw7⟩ : ∃ w7, (w6.setCell ⟨w.heap.size + 1, 1, none⟩ (.string (keyN (y / 15)))).setCell ⟨w.heap.size + 1, 9, none⟩ (.string (keyN z)) = w7 := ⟨_, rfl⟩
      have hr7 := set_chi (set_key HC6.out (keyN (y / 15))) (keyN z)
      have hk7 := (show Kept [w.heap.size + 1] w2 w6 from ⟨HB6.out.os, HB6.out.tape, HB6.out.output, HB6.out.size, fun k hk _ => HB6.out.block k hk⟩).trans ((kept1 w6 (w.heap.size + 1) 1 (.string (keyN (y / 15)))).trans (kept1 _ (w.heap.size + 1) 9 (.string (keyN z))))
      rw [hw7] at hr7 hk7
      rw [hw7]
      clear hw7 hkc hkc2 hcc1 hff1 hcc9 hff9
      have hrow : w7.rowIs (w.heap.size + 1) 45 10 (listF (cmdC ⟨11, keyN (y / 15), [], [], [], 0, 0, eB, eB, keyN z⟩ nilV nilV nilV)) := hr7
      have hkept : Kept [w.heap.size + 1] w2 w7 := hk7
      have hCC := Lib.hid (row_cells hrow _ rfl fun i hi => rfl)
      have hT4 := hkept.row (by simp) HA.out.t
      have HTT := Lib.hid (row_there hT4)
      have HE := Lib.hid (end63 (vk := nilV) (vv := nilV) (vt := nilV) hc hT4 (SlN.nil _ _) (SlX.nil _ _) (SlN.nil _ _) (HA.out.b.trans (hkept.below HA.out.b.size (by simp))))
      clear hrow hkept hT4
      go_wp2_with (first
        | ((with_reducible refine wpList_load_agg (o := ⟨some 132, _, _, _, _, _⟩) rfl 45 _ rfl ⟨w.heap.size + 1, 0, none⟩ ?_ (cmdC ⟨11, keyN (y / 15), [], [], [], 0, 0, eB, eB, keyN z⟩ nilV nilV nilV) _ hCC.out Try.underlying45 rfl (cmdC_size _ _ _ _) ?_); (· rfl))
        | ((with_reducible refine wpList_store_at2 (op := ⟨none, _, _, _, _, _⟩) rfl 45 _ _ rfl w.heap.size 0 (cmdC ⟨11, keyN (y / 15), [], [], [], 0, 0, eB, eB, keyN z⟩ nilV nilV nilV).toArray ?_ ?_ ?_ (cmdC_sizeA _ _ _ _) ?_ ?_); (· rfl); (· rfl); (· exact HTT.out); (· exact cmdC_one _ rfl rfl rfl); intro w5 hw5))
      all_goals exact bodyPost_ret (results_cell1 rfl _ _ ⟨w.heap.size, 0, none⟩ _ rfl HE.out.1) rfl ⟨_, rfl, HE.out.2.1, HE.out.2.2⟩
set_option maxRecDepth 100000 in
set_option maxHeartbeats 2000000 in
theorem s63_12 (y z u : Nat) (hy : y < 256) (hz : z < 256) (hu : u < 256) (hop : 1 + (y : Int) % 15 = 12) (hc : CmdV ⟨12, keyN (y / 15), [], [], [], 0, 0, eB, eB, keyN z⟩) (w : World) :
    Calls Try.prog 63 #[.int .i64 y, .int .i64 z, .int .i64 u] w fun e w' => ∃ v, e = .returned v ∧ CmdRes ⟨12, keyN (y / 15), [], [], [], 0, 0, eB, eB, keyN z⟩ w' v ∧ Below w.heap.size w w' := by
  obtain ⟨W1, hW1, hT1, hC1, hb1, hs1⟩ := start63 w 12
  simp only [cmdL] at hW1
  have HW1 := Lib.hid hW1
  have HT1 := Lib.hid hT1
  have HC1 := Lib.hid hC1
  have HB1 := Lib.hid hb1
  obtain ⟨j, hj⟩ : ∃ j, y / 15 % 8 = j := ⟨_, rfl⟩
  have hj8 : j < 8 := by omega
  have hij : (y : Int) / 15 % 8 = (j : Int) := by omega
  obtain ⟨jz, hjz⟩ : ∃ jz, z % 8 = jz := ⟨_, rfl⟩
  have hjz8 : jz < 8 := by omega
  have hjzi : (jz : Int) < 8 := by omega
  have hijz : (z : Int).tmod 8 = (jz : Int) := by rw [Int.tmod_eq_emod_of_nonneg (by omega)]; omega
  clear hW1 hT1 hC1 hb1
  go_enter Try.func63, Try.ntmps63
  go_wp2_with fail
  rw [HW1.out.symm]
  refine (keys82 W1).mono ?_
  rintro e w2 ⟨G, rfl, hG, hk2, hb2⟩
  have hA : At63 w 12 y G w2 := ⟨World.rowIs.of_block HT1.out (hb2.block _ (World.rowIs.lt HT1.out)), World.rowIs.of_block HC1.out (hb2.block _ (World.rowIs.lt HC1.out)), hk2, by omega, HB1.out.trans (hb2.mono (by omega)), by have := hb2.size; omega⟩
  have hkey : w2.cell? ⟨G, j, none⟩ = some (.string (keyN (y / 15))) := by
    rw [World.rowIs.cell hk2 hj8, ← hj, keyC_get]
  have HA := Lib.hid hA
  have hc0 : w2.cell? ⟨w.heap.size + 1, 0, none⟩ = some (.int .i64 12) := World.rowIs.cell hA.c (i := 0) (by decide)
  clear hA hk2 hb2
  go_wp2_with fail
  all_goals
    go_region_law ((with_reducible refine step_call_any (o := ⟨some 125, _, _, _, _, _⟩) rfl 82 _ _ rfl #[] ?_ Try.f82 Try.func82 f82_name f82_body (fun u w6 => ∃ G, u = .slice (some ⟨G, 0, none⟩) 8 8 ∧ w2.drew.heap.size ≤ G ∧ w6.rowIs G 9 8 (listF keyC) ∧ Below w2.drew.heap.size w2.drew w6) ?_ ?_); (· simp only [List.map_toArray, List.map_nil]); (· exact (keys82 w2.drew).mono fun e w' ⟨G, h1, h2⟩ => ⟨_, h1, G, rfl, h2⟩); rintro u6 w6 ⟨G6, rfl, hG6, hrow6, hb6⟩; have HR6 := Lib.hid hrow6; have HB6 := Lib.hid hb6; have hC6 := World.rowIs.of_block HA.out.c (hb6.block _ (World.rowIs.lt HA.out.c)); have HC6 := Lib.hid hC6; have hkc : w6.cell? ⟨G6, jz, none⟩ = some (.string (keyN z)) := (by rw [World.rowIs.cell hrow6 hjz8, ← hjz, keyC_get]); have hcc1 : w6.cell? ⟨w.heap.size + 1, 1, none⟩ = some (.string ⟨#[]⟩) := World.rowIs.cell hC6 (i := 1) (by decide); have hff1 : w6.frozen? ⟨w.heap.size + 1, 1, none⟩ = false := World.rowIs.frozen hC6 1; have hcc9 : w6.cell? ⟨w.heap.size + 1, 9, none⟩ = some (.string ⟨#[]⟩) := World.rowIs.cell hC6 (i := 9) (by decide); have hff9 : w6.frozen? ⟨w.heap.size + 1, 9, none⟩ = false := World.rowIs.frozen hC6 9; have hkc2 : (w6.setCell ⟨w.heap.size + 1, 1, none⟩ (.string (keyN (y / 15)))).cell? ⟨G6, jz, none⟩ = some (.string (keyN z)) := (kept1 w6 (w.heap.size + 1) 1 (.string (keyN (y / 15)))).cell (by have := HA.out.s; simp at hG6; simp; omega) hkc; clear hrow6 hb6 hC6)
    all_goals
      obtain ⟨w7, hw7⟩ : ∃ w7, (w6.setCell ⟨w.heap.size + 1, 1, none⟩ (.string (keyN (y / 15)))).setCell ⟨w.heap.size + 1, 9, none⟩ (.string (keyN z)) = w7 := ⟨_, rfl⟩
      have hr7 := set_chi (set_key HC6.out (keyN (y / 15))) (keyN z)
      have hk7 := (show Kept [w.heap.size + 1] w2 w6 from ⟨HB6.out.os, HB6.out.tape, HB6.out.output, HB6.out.size, fun k hk _ => HB6.out.block k hk⟩).trans ((kept1 w6 (w.heap.size + 1) 1 (.string (keyN (y / 15)))).trans (kept1 _ (w.heap.size + 1) 9 (.string (keyN z))))
      rw [hw7] at hr7 hk7
      rw [hw7]
      clear hw7 hkc hkc2 hcc1 hff1 hcc9 hff9
      have hrow : w7.rowIs (w.heap.size + 1) 45 10 (listF (cmdC ⟨12, keyN (y / 15), [], [], [], 0, 0, eB, eB, keyN z⟩ nilV nilV nilV)) := hr7
      have hkept : Kept [w.heap.size + 1] w2 w7 := hk7
      have hCC := Lib.hid (row_cells hrow _ rfl fun i hi => rfl)
      have hT4 := hkept.row (by simp) HA.out.t
      have HTT := Lib.hid (row_there hT4)
      have HE := Lib.hid (end63 (vk := nilV) (vv := nilV) (vt := nilV) hc hT4 (SlN.nil _ _) (SlX.nil _ _) (SlN.nil _ _) (HA.out.b.trans (hkept.below HA.out.b.size (by simp))))
      clear hrow hkept hT4
      go_wp2_with (first
        | ((with_reducible refine wpList_load_agg (o := ⟨some 132, _, _, _, _, _⟩) rfl 45 _ rfl ⟨w.heap.size + 1, 0, none⟩ ?_ (cmdC ⟨12, keyN (y / 15), [], [], [], 0, 0, eB, eB, keyN z⟩ nilV nilV nilV) _ hCC.out Try.underlying45 rfl (cmdC_size _ _ _ _) ?_); (· rfl))
        | ((with_reducible refine wpList_store_at2 (op := ⟨none, _, _, _, _, _⟩) rfl 45 _ _ rfl w.heap.size 0 (cmdC ⟨12, keyN (y / 15), [], [], [], 0, 0, eB, eB, keyN z⟩ nilV nilV nilV).toArray ?_ ?_ ?_ (cmdC_sizeA _ _ _ _) ?_ ?_); (· rfl); (· rfl); (· exact HTT.out); (· exact cmdC_one _ rfl rfl rfl); intro w5 hw5))
      all_goals exact bodyPost_ret (results_cell1 rfl _ _ ⟨w.heap.size, 0, none⟩ _ rfl HE.out.1) rfl ⟨_, rfl, HE.out.2.1, HE.out.2.2⟩
set_option maxRecDepth 100000 in
set_option maxHeartbeats 2000000 in
theorem s63_14 (y z u : Nat) (hy : y < 256) (hz : z < 256) (hu : u < 256) (hop : 1 + (y : Int) % 15 = 14) (hc : CmdV ⟨14, eB, [], [], [], 0, 0, eB, eB, eB⟩) (w : World) :
    Calls Try.prog 63 #[.int .i64 y, .int .i64 z, .int .i64 u] w fun e w' => ∃ v, e = .returned v ∧ CmdRes ⟨14, eB, [], [], [], 0, 0, eB, eB, eB⟩ w' v ∧ Below w.heap.size w w' := by
  obtain ⟨W1, hW1, hT1, hC1, hb1, hs1⟩ := start63 w 14
  simp only [cmdL] at hW1
  have HW1 := Lib.hid hW1
  have HT1 := Lib.hid hT1
  have HC1 := Lib.hid hC1
  have HB1 := Lib.hid hb1
  obtain ⟨j, hj⟩ : ∃ j, y / 15 % 8 = j := ⟨_, rfl⟩
  have hj8 : j < 8 := by omega
  have hij : (y : Int) / 15 % 8 = (j : Int) := by omega
  clear hW1 hT1 hC1 hb1
  go_enter Try.func63, Try.ntmps63
  go_wp2_with fail
  rw [HW1.out.symm]
  refine (keys82 W1).mono ?_
  rintro e w2 ⟨G, rfl, hG, hk2, hb2⟩
  have hA : At63 w 14 y G w2 := ⟨World.rowIs.of_block HT1.out (hb2.block _ (World.rowIs.lt HT1.out)), World.rowIs.of_block HC1.out (hb2.block _ (World.rowIs.lt HC1.out)), hk2, by omega, HB1.out.trans (hb2.mono (by omega)), by have := hb2.size; omega⟩
  have hkey : w2.cell? ⟨G, j, none⟩ = some (.string (keyN (y / 15))) := by
    rw [World.rowIs.cell hk2 hj8, ← hj, keyC_get]
  have HA := Lib.hid hA
  have hc0 : w2.cell? ⟨w.heap.size + 1, 0, none⟩ = some (.int .i64 14) := World.rowIs.cell hA.c (i := 0) (by decide)
  clear hk2 hb2
  have hrow : w2.rowIs (w.heap.size + 1) 45 10 (listF (cmdC ⟨14, eB, [], [], [], 0, 0, eB, eB, eB⟩ nilV nilV nilV)) := hA.c
  have hkept : Kept [w.heap.size + 1] w2 w2 := Kept.refl _ _
  have hCC := Lib.hid (row_cells hrow _ rfl fun i hi => rfl)
  have hT4 := hkept.row (by simp) HA.out.t
  have HTT := Lib.hid (row_there hT4)
  have HE := Lib.hid (end63 (vk := nilV) (vv := nilV) (vt := nilV) hc hT4 (SlN.nil _ _) (SlX.nil _ _) (SlN.nil _ _) (HA.out.b.trans (hkept.below HA.out.b.size (by simp))))
  clear hrow hkept hT4
  go_wp2_with (first
    | ((with_reducible refine wpList_load_agg (o := ⟨some 132, _, _, _, _, _⟩) rfl 45 _ rfl ⟨w.heap.size + 1, 0, none⟩ ?_ (cmdC ⟨14, eB, [], [], [], 0, 0, eB, eB, eB⟩ nilV nilV nilV) _ hCC.out Try.underlying45 rfl (cmdC_size _ _ _ _) ?_); (· rfl))
    | ((with_reducible refine wpList_store_at2 (op := ⟨none, _, _, _, _, _⟩) rfl 45 _ _ rfl w.heap.size 0 (cmdC ⟨14, eB, [], [], [], 0, 0, eB, eB, eB⟩ nilV nilV nilV).toArray ?_ ?_ ?_ (cmdC_sizeA _ _ _ _) ?_ ?_); (· rfl); (· rfl); (· exact HTT.out); (· exact cmdC_one _ rfl rfl rfl); intro w5 hw5))
  all_goals exact bodyPost_ret (results_cell1 rfl _ _ ⟨w.heap.size, 0, none⟩ _ rfl HE.out.1) rfl ⟨_, rfl, HE.out.2.1, HE.out.2.2⟩
set_option maxRecDepth 100000 in
set_option maxHeartbeats 2000000 in
theorem s63_15 (y z u : Nat) (hy : y < 256) (hz : z < 256) (hu : u < 256) (hop : 1 + (y : Int) % 15 = 15) (hc : CmdV ⟨15, eB, [], [], [], 0, 0, eB, eB, eB⟩) (w : World) :
    Calls Try.prog 63 #[.int .i64 y, .int .i64 z, .int .i64 u] w fun e w' => ∃ v, e = .returned v ∧ CmdRes ⟨15, eB, [], [], [], 0, 0, eB, eB, eB⟩ w' v ∧ Below w.heap.size w w' := by
  obtain ⟨W1, hW1, hT1, hC1, hb1, hs1⟩ := start63 w 15
  simp only [cmdL] at hW1
  have HW1 := Lib.hid hW1
  have HT1 := Lib.hid hT1
  have HC1 := Lib.hid hC1
  have HB1 := Lib.hid hb1
  obtain ⟨j, hj⟩ : ∃ j, y / 15 % 8 = j := ⟨_, rfl⟩
  have hj8 : j < 8 := by omega
  have hij : (y : Int) / 15 % 8 = (j : Int) := by omega
  clear hW1 hT1 hC1 hb1
  go_enter Try.func63, Try.ntmps63
  go_wp2_with fail
  rw [HW1.out.symm]
  refine (keys82 W1).mono ?_
  rintro e w2 ⟨G, rfl, hG, hk2, hb2⟩
  have hA : At63 w 15 y G w2 := ⟨World.rowIs.of_block HT1.out (hb2.block _ (World.rowIs.lt HT1.out)), World.rowIs.of_block HC1.out (hb2.block _ (World.rowIs.lt HC1.out)), hk2, by omega, HB1.out.trans (hb2.mono (by omega)), by have := hb2.size; omega⟩
  have hkey : w2.cell? ⟨G, j, none⟩ = some (.string (keyN (y / 15))) := by
    rw [World.rowIs.cell hk2 hj8, ← hj, keyC_get]
  have HA := Lib.hid hA
  have hc0 : w2.cell? ⟨w.heap.size + 1, 0, none⟩ = some (.int .i64 15) := World.rowIs.cell hA.c (i := 0) (by decide)
  clear hk2 hb2
  have hrow : w2.rowIs (w.heap.size + 1) 45 10 (listF (cmdC ⟨15, eB, [], [], [], 0, 0, eB, eB, eB⟩ nilV nilV nilV)) := hA.c
  have hkept : Kept [w.heap.size + 1] w2 w2 := Kept.refl _ _
  have hCC := Lib.hid (row_cells hrow _ rfl fun i hi => rfl)
  have hT4 := hkept.row (by simp) HA.out.t
  have HTT := Lib.hid (row_there hT4)
  have HE := Lib.hid (end63 (vk := nilV) (vv := nilV) (vt := nilV) hc hT4 (SlN.nil _ _) (SlX.nil _ _) (SlN.nil _ _) (HA.out.b.trans (hkept.below HA.out.b.size (by simp))))
  clear hrow hkept hT4
  go_wp2_with (first
    | ((with_reducible refine wpList_load_agg (o := ⟨some 132, _, _, _, _, _⟩) rfl 45 _ rfl ⟨w.heap.size + 1, 0, none⟩ ?_ (cmdC ⟨15, eB, [], [], [], 0, 0, eB, eB, eB⟩ nilV nilV nilV) _ hCC.out Try.underlying45 rfl (cmdC_size _ _ _ _) ?_); (· rfl))
    | ((with_reducible refine wpList_store_at2 (op := ⟨none, _, _, _, _, _⟩) rfl 45 _ _ rfl w.heap.size 0 (cmdC ⟨15, eB, [], [], [], 0, 0, eB, eB, eB⟩ nilV nilV nilV).toArray ?_ ?_ ?_ (cmdC_sizeA _ _ _ _) ?_ ?_); (· rfl); (· rfl); (· exact HTT.out); (· exact cmdC_one _ rfl rfl rfl); intro w5 hw5))
  all_goals exact bodyPost_ret (results_cell1 rfl _ _ ⟨w.heap.size, 0, none⟩ _ rfl HE.out.1) rfl ⟨_, rfl, HE.out.2.1, HE.out.2.2⟩
end Go.Proofs.Ytnmhmabifeapkaa.Ord
