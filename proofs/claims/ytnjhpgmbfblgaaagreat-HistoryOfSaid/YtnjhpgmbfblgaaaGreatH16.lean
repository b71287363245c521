/- Walk of the reader's read. -/
import Derived.Test.YtnjhpgmbfblgaaaGreatH15
namespace Go.Proofs.YtnjhpgmbfblgaaaGreat.Ord
set_option maxRecDepth 100000
set_option maxHeartbeats 16000000
open Go.RowKit
set_option linter.unusedVariables false
set_option linter.unusedSimpArgs false
theorem did_sizeL (d : DidR) (p : DidV) : (Tryz.prog.info? 42).map (·.size) = some (didC d p).length := by
 show _ = some 25
 kernel_rfl
theorem _root_.Go.RowKit.Below.mono' {B B' : Nat} {w w' : World} (h : Below B w w') (hB : B' <= B) : Below B' w w' := ⟨h.os, h.tape, h.output, h.size, fun k hk => h.block k (Nat.lt_of_lt_of_le hk hB)⟩
theorem lk_at {w : World} {mb : Nat} {f : Int -> Option Value} {k : Int} {u : Value} (h : MapAt w mb f) (hu : (f k).getD (.pointer none) = u) : (Instr.lookup 108 (.map (some mb)) (.int .i64 k) false).run Tryz.prog w.drew = .ok u w.drew := lk_micro (h.of_block rfl) hu
theorem read20_con_no (lim rb mb : Nat) (v : Value) (cb : Int -> Nat) (ps : List Nat) (s : St) (i : Nat) (d : DidR) (p : DidV) (w : World) (h : Inv w lim rb mb v cb ps s) (hs : StOk i s) (hi : i <= 4096) (hk : d.step.k = 1) (c : ConnS) (hc : s.conns d.n = some c) :
  Calls Tryz.prog 55 #[.pointer (some ⟨rb, 0, none⟩), .int .i64 i, .agg (didC d p).toArray] w (ReadPost w lim rb mb (readOf i d s)) := by
 have hb := below1 w (.cells (didC d p).toArray 42)
 have hi1 := h.below hb
 have hd := RowL.new w 42 (didC d p)
 obtain ⟨W1, hW1⟩ : ∃ W1, w.alloc (.cells (didC d p).toArray 42) = W1 := ⟨_, rfl⟩
 rw [hW1] at hb hi1 hd
 have low : ∀ w', Below W1.heap.size W1 w' -> Below lim w w' := fun w' hb' => (hb.mono' h.hlim).trans (hb'.mono' hi1.hlim)
 have d0 : W1.cell? ⟨w.heap.size, 0, none⟩ = some (.int .i64 d.step.k) := hd.cell (j := 0) rfl
 have d5 : W1.drew.cell? ⟨w.heap.size, 5, none⟩ = some (.int .i64 d.n) := hd.cell (j := 5) rfl
 have d5b : W1.cell? ⟨w.heap.size, 5, none⟩ = some (.int .i64 d.n) := hd.cell (j := 5) rfl
 have r0 : W1.drew.cell? ⟨rb, 0, none⟩ = some (.map (some mb)) := hi1.row.cell (j := 0) rfl
 have hlk := lk_at (k := d.n) (u := .pointer (some ⟨cb d.n, 0, none⟩)) hi1.map (by rw [hc]; rfl)
 have HKK := kp hk
 rw [hk] at d0
 clear hk
 have HI := kp hi1
 have HW := kp hW1
 have HD := kp hd
 have HS := kp hs
 have HB := kp (hb.mono' h.hlim)
 have LOW := kp low
 clear hb hi1 hd hW1 low h hs
 simp only [didC_A] at *
 simp only [didA] at *
 go_enter Tryz.func55, Tryz.ntmps55
 go_upto_region 1 with (fail)
 rw [HW.out]
 go_upto_region 3 with (fail)
 go_region_law (fail)
 all_goals
  go_wp2_with fail
  go_ret
  exact .no (by unfold readOf; rw [if_pos HKK.out, hc]) ⟨rfl, LOW.out _ (below_drewn (Below.refl _ _))⟩
theorem read20_dis_no (lim rb mb : Nat) (v : Value) (cb : Int -> Nat) (ps : List Nat) (s : St) (i : Nat) (d : DidR) (p : DidV) (w : World) (h : Inv w lim rb mb v cb ps s) (hs : StOk i s) (hi : i <= 4096) (hk : d.step.k = 7) (hc : s.conns d.step.c = none) :
  Calls Tryz.prog 55 #[.pointer (some ⟨rb, 0, none⟩), .int .i64 i, .agg (didC d p).toArray] w (ReadPost w lim rb mb (readOf i d s)) := by
 have hb := below1 w (.cells (didC d p).toArray 42)
 have hi1 := h.below hb
 have hd := RowL.new w 42 (didC d p)
 obtain ⟨W1, hW1⟩ : ∃ W1, w.alloc (.cells (didC d p).toArray 42) = W1 := ⟨_, rfl⟩
 rw [hW1] at hb hi1 hd
 have low : ∀ w', Below W1.heap.size W1 w' -> Below lim w w' := fun w' hb' => (hb.mono' h.hlim).trans (hb'.mono' hi1.hlim)
 have d0 : W1.cell? ⟨w.heap.size, 0, none⟩ = some (.int .i64 d.step.k) := hd.cell (j := 0) rfl
 have d1 : W1.drew.cell? ⟨w.heap.size, 1, none⟩ = some (.int .i64 d.step.c) := hd.cell (j := 1) rfl
 have r0 : W1.drew.cell? ⟨rb, 0, none⟩ = some (.map (some mb)) := hi1.row.cell (j := 0) rfl
 have hlk := lk_at (k := d.step.c) (u := .pointer none) hi1.map (by rw [hc]; rfl)
 have HKK := kp hk
 rw [hk] at d0
 clear hk
 have HI := kp hi1
 have HW := kp hW1
 have HD := kp hd
 have HS := kp hs
 have HB := kp (hb.mono' h.hlim)
 have LOW := kp low
 clear hb hi1 hd hW1 low h hs
 simp only [didC_A] at *
 simp only [didA] at *
 go_enter Tryz.func55, Tryz.ntmps55
 go_upto_region 1 with (fail)
 rw [HW.out]
 go_upto_region 8 with (fail)
 go_region_law (fail)
 all_goals
  go_wp2_with fail
  go_ret
  exact .no (by unfold readOf; rw [if_neg (by rw [HKK.out]; decide), if_pos HKK.out, hc]) ⟨rfl, LOW.out _ (below_drewn (Below.refl _ _))⟩
theorem RowL.drew {w : World} {b : Nat} {t : TypeId} {l : List Value} (h : RowL w b t l) : RowL w.drew b t l := h
theorem heap_alloc_lt (w : World) (o : Obj) (k : Nat) (hk : k < w.heap.size) : (w.alloc o).heap[k]? = w.heap[k]? := (below1 w o).block k hk
theorem read20_con (lim rb mb : Nat) (v : Value) (cb : Int -> Nat) (ps : List Nat) (s : St) (i : Nat) (d : DidR) (p : DidV) (w : World) (h : Inv w lim rb mb v cb ps s) (hs : StOk i s) (hi : i <= 4096) (hk : d.step.k = 1) (hc : s.conns d.n = none) :
  Calls Tryz.prog 55 #[.pointer (some ⟨rb, 0, none⟩), .int .i64 i, .agg (didC d p).toArray] w (ReadPost w lim rb mb (readOf i d s)) := by
 have hb := below1 w (.cells (didC d p).toArray 42)
 have hi1 := h.below hb
 have hd := RowL.new w 42 (didC d p)
 obtain ⟨W1, hW1⟩ : ∃ W1, w.alloc (.cells (didC d p).toArray 42) = W1 := ⟨_, rfl⟩
 rw [hW1] at hb hi1 hd
 have low : ∀ w', Below W1.heap.size W1 w' -> Below lim w w' := fun w' hb' => (hb.mono' h.hlim).trans (hb'.mono' hi1.hlim)
 have d0 : W1.cell? ⟨w.heap.size, 0, none⟩ = some (.int .i64 d.step.k) := hd.cell (j := 0) rfl
 have d5 : W1.drew.cell? ⟨w.heap.size, 5, none⟩ = some (.int .i64 d.n) := hd.cell (j := 5) rfl
 have d5b : W1.cell? ⟨w.heap.size, 5, none⟩ = some (.int .i64 d.n) := hd.cell (j := 5) rfl
 have r0 : W1.drew.cell? ⟨rb, 0, none⟩ = some (.map (some mb)) := hi1.row.cell (j := 0) rfl
 have hlk := lk_at (k := d.n) (u := .pointer none) hi1.map (by rw [hc]; rfl)
 have HKK := kp hk
 rw [hk] at d0
 clear hk
 have HI := kp hi1
 have HW := kp hW1
 have HD := kp hd
 have HS := kp hs
 have HB := kp (hb.mono' h.hlim)
 have LOW := kp low
 clear hb hi1 hd hW1 low h hs
 simp only [didC_A] at *
 simp only [didA] at *
 go_enter Tryz.func55, Tryz.ntmps55
 go_upto_region 1 with (fail)
 rw [HW.out]
 go_upto_region 3 with (fail)
 go_cut [19] from 10 (fun s19 W' => s19 = .bool false /\ W' = W1.drew)
 case first =>
  go_region_law (fail)
  all_goals
   go_wp2_with fail
   go_meet
   case rel => exact ⟨rfl, rfl⟩
 case rest =>
 obtain ⟨rfl, rfl⟩ := hcut
 go_upto_region 5 with (fail)
 go_cut [] from 7 (fun W' => Kept [mb] (W1.alloc (.cells #[.int .i64 s.nses, .int .i64 0, .pointer none] 196)).drew.drew W' /\ MapAt W' mb (fun k' => if k' = d.n then some (.pointer (some ⟨W1.heap.size, 0, none⟩)) else (s.conns k').map fun _ => ptrV (cb k')) /\ RowL W' rb 111 [.map (some mb), v, .int .i64 s.nses] /\ RowL W' W1.heap.size 196 [.int .i64 s.nses, .int .i64 0, .pointer none])
 case first =>
  refine wp_region_held_drew (S := fun W => RowL W rb 111 [.map (some mb), v, .int .i64 s.nses] /\ RowL W w.heap.size 42 (didC d p)) (by kernel_rfl) ⟨HI.out.row, HD.out⟩ (fun hS => ?_)
  have HS := kp hS
  clear hS
  refine wpAnyH_take (i := 0) (oi := ⟨some 20, .move (.tmp 0), 107, "history.go:68", #[], none⟩) (v := ?_) rfl (by kernel_rfl) (by kernel_rfl) (by kernel_rfl) (fun _ _ _ h => h) (Or.inl ⟨by rfl, ?_⟩) HS.out ?_
  rotate_left 1
  ·intro w hw; go_simp; try with_reducible rfl
  simp only [Act.put, z1, z2, z3]
  refine wpAnyH_take (i := 1) (oi := ⟨some 21, .nilCheck (.tmp 20), 0, "history.go:68", #[⟨0, .data⟩], none⟩) (v := ?_) rfl (by kernel_rfl) (by kernel_rfl) (by kernel_rfl) (fun _ _ _ h => h) (Or.inl ⟨by rfl, ?_⟩) HS.out ?_
  rotate_left 1
  ·intro w hw; go_simp; try with_reducible rfl
  simp only [Act.put, z1, z2, z3]
  refine wpAnyH_take (i := 2) (oi := ⟨some 22, .fieldAddr 111 (.tmp 21) 0, 0, "history.go:68", #[⟨1, .data⟩], none⟩) (v := ?_) rfl (by kernel_rfl) (by kernel_rfl) (by kernel_rfl) (fun _ _ _ h => h) (Or.inl ⟨by rfl, ?_⟩) HS.out ?_
  rotate_left 1
  ·intro w hw; go_simp; try with_reducible rfl
  simp only [Act.put, z1, z2, z3]
  refine wpAnyH_take (i := 3) (oi := ⟨some 23, .load 108 (.tmp 22), 108, "history.go:68", #[⟨2, .data⟩], none⟩) (v := ?_) rfl (by kernel_rfl) (by kernel_rfl) (by kernel_rfl) (fun _ _ _ h => h) (Or.inl ⟨by rfl, ?_⟩) HS.out ?_
  rotate_left 1
  ·intro w hw; have hw3 := hw.1.cell (j := 0) rfl; go_simp; try with_reducible rfl
  simp only [Act.put, z1, z2, z3]
  refine wpAnyH_take (i := 4) (oi := ⟨some 24, .fieldAddr 42 (.tmp 5) 2, 0, "history.go:68", #[], none⟩) (v := ?_) rfl (by kernel_rfl) (by kernel_rfl) (by kernel_rfl) (fun _ _ _ h => h) (Or.inl ⟨by rfl, ?_⟩) HS.out ?_
  rotate_left 1
  ·intro w hw; go_simp; try with_reducible rfl
  simp only [Act.put, z1, z2, z3]
  refine wpAnyH_take (i := 5) (oi := ⟨some 25, .load 3 (.tmp 24), 3, "history.go:68", #[⟨4, .data⟩], none⟩) (v := ?_) rfl (by kernel_rfl) (by kernel_rfl) (by kernel_rfl) (fun _ _ _ h => h) (Or.inl ⟨by rfl, ?_⟩) HS.out ?_
  rotate_left 1
  ·intro w hw; have hw3 : w.cell? _ = some (.int .i64 d.n) := hw.2.cell (j := 5) rfl; go_simp; try with_reducible rfl
  simp only [Act.put, z1, z2, z3]
  refine wpAnyH_take (i := 6) (oi := ⟨some 26, .move (.tmp 0), 107, "history.go:68", #[], none⟩) (v := ?_) rfl (by kernel_rfl) (by kernel_rfl) (by kernel_rfl) (fun _ _ _ h => h) (Or.inl ⟨by rfl, ?_⟩) HS.out ?_
  rotate_left 1
  ·intro w hw; go_simp; try with_reducible rfl
  simp only [Act.put, z1, z2, z3]
  refine wpAnyH_take (i := 7) (oi := ⟨some 27, .nilCheck (.tmp 26), 0, "history.go:68", #[⟨6, .data⟩], none⟩) (v := ?_) rfl (by kernel_rfl) (by kernel_rfl) (by kernel_rfl) (fun _ _ _ h => h) (Or.inl ⟨by rfl, ?_⟩) HS.out ?_
  rotate_left 1
  ·intro w hw; go_simp; try with_reducible rfl
  simp only [Act.put, z1, z2, z3]
  refine wpAnyH_take (i := 8) (oi := ⟨some 28, .fieldAddr 111 (.tmp 27) 2, 0, "history.go:68", #[⟨7, .data⟩], none⟩) (v := ?_) rfl (by kernel_rfl) (by kernel_rfl) (by kernel_rfl) (fun _ _ _ h => h) (Or.inl ⟨by rfl, ?_⟩) HS.out ?_
  rotate_left 1
  ·intro w hw; go_simp; try with_reducible rfl
  simp only [Act.put, z1, z2, z3]
  refine wpAnyH_take (i := 9) (oi := ⟨some 29, .load 3 (.tmp 28), 3, "history.go:68", #[⟨8, .data⟩], none⟩) (v := ?_) rfl (by kernel_rfl) (by kernel_rfl) (by kernel_rfl) (fun _ _ _ h => h) (Or.inl ⟨by rfl, ?_⟩) HS.out ?_
  rotate_left 1
  ·intro w hw; have hw3 := hw.1.cell (j := 2) rfl; go_simp; try with_reducible rfl
  simp only [Act.put, z1, z2, z3]
  refine wpAnyH_take (i := 10) (oi := ⟨some 30, .build 196 #[(0, .tmp 29)], 196, "history.go:68", #[⟨9, .data⟩], none⟩) (v := ?_) rfl (by kernel_rfl) (by kernel_rfl) (by kernel_rfl) (fun _ _ _ h => h) (Or.inl ⟨by rfl, ?_⟩) HS.out ?_
  rotate_left 1
  ·intro w hw; go_simp; try with_reducible rfl
  simp only [Act.put, z1, z2, z3]
  refine wpAnyH_ready (rs := [11]) (by kernel_rfl) (by simp) ?_
  refine AllReadyH.cons (o := ⟨some 31, .box 196 (.tmp 30), 194, "history.go:68", #[⟨10, .data⟩], none⟩) rfl (fun K hK => ?_) (AllReadyH.nil)
  go_simp
  have hS := And.intro (HI.out.row.alloc (.cells #[.int .i64 s.nses, .int .i64 0, .pointer none] 196)) (HD.out.alloc (.cells #[.int .i64 s.nses, .int .i64 0, .pointer none] 196))
  refine hK.out _ _ hS (fun _ => ?_)
  clear hK K HS
  have HS := kp hS
  clear hS
  try simp only [Act.put, z1, z2, z3]
  refine wpAnyH_ready (rs := [12]) (by kernel_rfl) (by simp) ?_
  refine AllReadyH.cons (o := ⟨none, .mapUpdate 108 (.tmp 23) (.tmp 25) (.tmp 31), 0, "history.go:68", #[⟨3, .data⟩, ⟨5, .data⟩, ⟨11, .data⟩, ⟨0, .phase⟩, ⟨1, .phase⟩, ⟨2, .phase⟩, ⟨3, .phase⟩, ⟨4, .phase⟩, ⟨5, .phase⟩, ⟨6, .phase⟩, ⟨7, .phase⟩, ⟨8, .phase⟩, ⟨9, .phase⟩, ⟨10, .phase⟩, ⟨11, .phase⟩], none⟩) rfl (fun K hK => ?_) (AllReadyH.nil)
  with_reducible refine step_map_update rfl 108 3 194 _ _ _ rfl mb d.n (.pointer (some ⟨W1.heap.size, 0, none⟩)) ?_ ?_ ?_ _ (HI.out.map.of_block (w' := (W1.alloc (.cells #[.int .i64 s.nses, .int .i64 0, .pointer none] 196)).drew.drew) ?_) ?_ ?_ ?_
  ·rfl
  ·rfl
  ·rfl
  ·exact heap_alloc_lt _ _ _ HI.out.map.lt
  ·exact Tryz.underlying108
  ·kernel_rfl
  intro w7 hk7 hm7
  have hr7 := (HI.out.row.alloc (.cells #[.int .i64 s.nses, .int .i64 0, .pointer none] 196)).drew.drew.kept hk7 (by simp; exact HI.out.row.ne_map HI.out.map)
  have hS := And.intro hr7 ((HD.out.alloc (.cells #[.int .i64 s.nses, .int .i64 0, .pointer none] 196)).drew.drew.kept hk7 (by simp; exact HD.out.ne_map HI.out.map))
  have hc7 := (RowL.new W1 196 [.int .i64 s.nses, .int .i64 0, .pointer none]).drew.drew.kept hk7 (by simp; have := HI.out.map.lt; omega)
  have HC7 := kp hc7
  have HR7 := kp hr7
  have HM7 := kp hm7
  have HK7 := kp hk7
  clear hc7 hr7 hm7 hk7
  refine hK.out _ _ hS (fun _ => ?_)
  clear hK K HS
  have HS := kp hS
  clear hS
  try simp only [Act.put, z1, z2, z3]
  refine wpAnyH_done (by kernel_rfl) ?_ _
  go_wp2_with fail
  go_meet
  case rel => exact ⟨HK7.out, HM7.out, HR7.out, HC7.out⟩
 case rest =>
  obtain ⟨hk7, hm7, hr7, hc7⟩ := hcut
  have r2 : wc.cell? ⟨rb, 2, none⟩ = some (.int .i64 s.nses) := hr7.cell (j := 2) rfl
  have z2 : wc.frozen? ⟨rb, 2, none⟩ = false := hr7.frozen 2
  have hn := HS.out.nses
  have hn3 : s.nses + 1 <= 9223372036854775807 := by omega
  have hn4 : -9223372036854775808 <= s.nses + 1 := by omega
  have hr8 := hr7.set 2 (.int .i64 (s.nses + 1))
  simp only [List.set_cons_succ, List.set_cons_zero] at hr8
  have hm8 : MapAt (wc.setCell ⟨rb, 2, none⟩ (.int .i64 (s.nses + 1))) mb _ := hm7.of_block (Go.Deep.blk_setCell_other _ _ _ _ (fun e => hr7.ne_map hm7 e.symm))
  have hc8 := hc7.setOther (a := ⟨rb, 2, none⟩) (hc7.ne hr7 (by decide)) (.int .i64 (s.nses + 1))
  have hk8 : Kept [rb, mb] W1 (wc.setCell ⟨rb, 2, none⟩ (.int .i64 (s.nses + 1))) := ((((Kept.refl [rb, mb] W1).alloc _).drew.drew).trans (hk7.mono (by simp))).setCell (p := ⟨rb, 2, none⟩) (by simp) _
  have HR8 := kp hr8
  have HM8 := kp hm8
  have HC8 := kp hc8
  have HK8 := kp hk8
  clear hr8 hm8 hc8 hk8 hr7 hm7 hc7 hk7 hn
  go_wp2_with fail
  go_ret
  exact .yes _ (by unfold readOf; rw [if_pos HKK.out, hc]) ⟨rfl, HB.out.trans (HK8.out.below HI.out.hlim (fun b hb => by simp at hb; rcases hb with rfl | rfl; exact HI.out.lrb; exact HI.out.lmb)), _, _, _, HI.out.connect hc HR8.out HM8.out HC8.out (Nat.le_refl _) HK8.out⟩
theorem read20_dis (lim rb mb : Nat) (v : Value) (cb : Int -> Nat) (ps : List Nat) (s : St) (i : Nat) (d : DidR) (p : DidV) (w : World) (h : Inv w lim rb mb v cb ps s) (hs : StOk i s) (hi : i <= 4096) (hk : d.step.k = 7) (c : ConnS) (hc : s.conns d.step.c = some c) :
  Calls Tryz.prog 55 #[.pointer (some ⟨rb, 0, none⟩), .int .i64 i, .agg (didC d p).toArray] w (ReadPost w lim rb mb (readOf i d s)) := by
 have hb := below1 w (.cells (didC d p).toArray 42)
 have hi1 := h.below hb
 have hd := RowL.new w 42 (didC d p)
 obtain ⟨W1, hW1⟩ : ∃ W1, w.alloc (.cells (didC d p).toArray 42) = W1 := ⟨_, rfl⟩
 rw [hW1] at hb hi1 hd
 have low : ∀ w', Below W1.heap.size W1 w' -> Below lim w w' := fun w' hb' => (hb.mono' h.hlim).trans (hb'.mono' hi1.hlim)
 have d0 : W1.cell? ⟨w.heap.size, 0, none⟩ = some (.int .i64 d.step.k) := hd.cell (j := 0) rfl
 have d1 : W1.drew.cell? ⟨w.heap.size, 1, none⟩ = some (.int .i64 d.step.c) := hd.cell (j := 1) rfl
 have r0 : W1.drew.cell? ⟨rb, 0, none⟩ = some (.map (some mb)) := hi1.row.cell (j := 0) rfl
 have hlk := lk_at (k := d.step.c) (u := .pointer (some ⟨cb d.step.c, 0, none⟩)) hi1.map (by rw [hc]; rfl)
 have d1b : W1.drew.drew.cell? ⟨w.heap.size, 1, none⟩ = some (.int .i64 d.step.c) := hd.cell (j := 1) rfl
 have r0b : W1.drew.drew.cell? ⟨rb, 0, none⟩ = some (.map (some mb)) := hi1.row.cell (j := 0) rfl
 have HKK := kp hk
 rw [hk] at d0
 clear hk
 have HI := kp hi1
 have HW := kp hW1
 have HD := kp hd
 have HS := kp hs
 have HB := kp (hb.mono' h.hlim)
 have LOW := kp low
 clear hb hi1 hd hW1 low h hs
 simp only [didC_A] at *
 simp only [didA] at *
 go_enter Tryz.func55, Tryz.ntmps55
 go_upto_region 1 with (fail)
 rw [HW.out]
 go_upto_region 8 with (fail)
 go_cut [49] from 10 (fun s49 W' => s49 = .bool false /\ W' = W1.drew)
 case first =>
  go_region_law (fail)
  all_goals
   go_wp2_with fail
   go_meet
   case rel => exact ⟨rfl, rfl⟩
 case rest =>
 obtain ⟨rfl, rfl⟩ := hcut
 go_upto_region 10 with (fail)
 go_region_law ((with_reducible refine step_map_delete (o := ⟨_, _, _, _, _, _⟩) rfl 108 3 194 _ _ rfl mb d.step.c ?_ ?_ _ (HI.out.map.of_block (w' := W1.drew.drew) ?_) ?_ ?_ ?_); (· rfl); (· rfl); (· rfl); (· exact Tryz.underlying108); (· kernel_rfl); intro w7 hk7 hm7; have HK7 := kp hk7; have HM7 := kp hm7; clear hk7 hm7)
 all_goals
  go_wp2_with fail
  go_ret
  have hk8 : Kept [mb] W1 w7 := ((Kept.refl [mb] W1).drew.drew).trans HK7.out
  exact .yes _ (by unfold readOf; rw [if_neg (by rw [HKK.out]; decide), if_pos HKK.out, hc]) ⟨rfl, HB.out.trans (hk8.below HI.out.hlim (fun b hb => by simp at hb; subst hb; exact HI.out.lmb)), _, _, _, HI.out.gone HM7.out hk8⟩
theorem read20_oth (lim rb mb : Nat) (v : Value) (cb : Int -> Nat) (ps : List Nat) (s : St) (i : Nat) (d : DidR) (p : DidV) (w : World) (h : Inv w lim rb mb v cb ps s) (hs : StOk i s) (hi : i <= 4096) (h1 : (d.step.k == 1) = false) (h7 : (d.step.k == 7) = false) (h3 : (d.step.k == 3) = false) :
  Calls Tryz.prog 55 #[.pointer (some ⟨rb, 0, none⟩), .int .i64 i, .agg (didC d p).toArray] w (ReadPost w lim rb mb (readOf i d s)) := by
 have hb := below1 w (.cells (didC d p).toArray 42)
 have hi1 := h.below hb
 have hd := RowL.new w 42 (didC d p)
 obtain ⟨W1, hW1⟩ : ∃ W1, w.alloc (.cells (didC d p).toArray 42) = W1 := ⟨_, rfl⟩
 rw [hW1] at hb hi1 hd
 have low : ∀ w', Below W1.heap.size W1 w' -> Below lim w w' := fun w' hb' => (hb.mono' h.hlim).trans (hb'.mono' hi1.hlim)
 have d0 : W1.cell? ⟨w.heap.size, 0, none⟩ = some (.int .i64 d.step.k) := hd.cell (j := 0) rfl
 have HI := kp hi1
 have HW := kp hW1
 have HD := kp hd
 have HS := kp hs
 have HB := kp (hb.mono' h.hlim)
 have LOW := kp low
 clear hb hi1 hd hW1 low h hs
 simp only [didC_A] at *
 simp only [didA] at *
 go_enter Tryz.func55, Tryz.ntmps55
 go_upto_region 1 with (fail)
 rw [HW.out]
 go_wp2_with fail
 go_ret
 exact .yes s (by unfold readOf; rw [if_neg (by simp at h1; omega), if_neg (by simp at h7; omega), if_neg (by simp at h3; omega)]) ⟨rfl, HB.out, _, _, _, HI.out⟩
theorem read20_mic (lim rb mb : Nat) (v : Value) (cb : Int -> Nat) (ps : List Nat) (s : St) (i : Nat) (d : DidR) (p : DidV) (w : World) (h : Inv w lim rb mb v cb ps s) (hs : StOk i s) (hi : i <= 4096) (hk : d.step.k = 3) (hcm : CmdOk w lim d.cmd p.vk p.vv p.vt) (hrs : RespOk w lim d.resp p.vi p.vn) :
  Calls Tryz.prog 55 #[.pointer (some ⟨rb, 0, none⟩), .int .i64 i, .agg (didC d p).toArray] w (ReadPost w lim rb mb (readOf i d s)) := by
 have hb := below1 w (.cells (didC d p).toArray 42)
 have hi1 := h.below hb
 have hd := RowL.new w 42 (didC d p)
 obtain ⟨W1, hW1⟩ : ∃ W1, w.alloc (.cells (didC d p).toArray 42) = W1 := ⟨_, rfl⟩
 rw [hW1] at hb hi1 hd
 have low : ∀ w', Below W1.heap.size W1 w' -> Below lim w w' := fun w' hb' => (hb.mono' h.hlim).trans (hb'.mono' hi1.hlim)
 have d0 : W1.cell? ⟨w.heap.size, 0, none⟩ = some (.int .i64 d.step.k) := hd.cell (j := 0) rfl
 have HKK := kp hk
 rw [hk] at d0
 clear hk
 have HI := kp hi1
 have HW := kp hW1
 have HD := kp hd
 have HS := kp hs
 have HB := kp (hb.mono' h.hlim)
 have LOW := kp low
 clear hb hi1 hd hW1 low h hs
 simp only [didC_A] at *
 simp only [didA] at *
 go_enter Tryz.func55, Tryz.ntmps55
 go_upto_region 1 with (fail)
 rw [HW.out]
 have HSZ := kp (did_sizeL d p)
 have HCE := kp HD.out.cells
 go_wp2_with ((with_reducible refine wpList_load_agg (o := ⟨some 61, _, _, _, _, _⟩) rfl 42 _ rfl ⟨w.heap.size, 0, none⟩ ?_ (didC d p) _ HCE.out Tryz.underlying42 rfl HSZ.out ?_); (· rfl))
 refine (micro36_any lim rb mb v cb ps s i d p W1 HI.out HS.out hi (hcm.below HB.out (Nat.le_refl _)) (hrs.below HB.out (Nat.le_refl _))).mono ?_
 intro e w' hp
 cases hm : microOf i d s with
 | none =>
  rw [hm] at hp
  obtain ⟨rfl, hb'⟩ := hp
  go_wp2_with fail
  go_ret
  exact .no (by unfold readOf; rw [if_neg (by rw [HKK.out]; decide), if_neg (by rw [HKK.out]; decide), if_pos HKK.out, hm]) ⟨rfl, HB.out.trans hb'⟩
 | some s' =>
  rw [hm] at hp
  obtain ⟨rfl, hb', hv⟩ := hp
  go_wp2_with fail
  go_ret
  exact .yes s' (by unfold readOf; rw [if_neg (by rw [HKK.out]; decide), if_neg (by rw [HKK.out]; decide), if_pos HKK.out, hm]) ⟨rfl, HB.out.trans hb', hv⟩
theorem read20_any (lim rb mb : Nat) (v : Value) (cb : Int -> Nat) (ps : List Nat) (s : St) (i : Nat) (d : DidR) (p : DidV) (w : World) (h : Inv w lim rb mb v cb ps s) (hs : StOk i s) (hi : i <= 4096) (hcm : CmdOk w lim d.cmd p.vk p.vv p.vt) (hrs : RespOk w lim d.resp p.vi p.vn) :
  Calls Tryz.prog 55 #[.pointer (some ⟨rb, 0, none⟩), .int .i64 i, .agg (didC d p).toArray] w (ReadPost w lim rb mb (readOf i d s)) := by
 by_cases h1 : d.step.k = 1
 ·cases hc : s.conns d.n with
  | none => exact read20_con lim rb mb v cb ps s i d p w h hs hi h1 hc
  | some c => exact read20_con_no lim rb mb v cb ps s i d p w h hs hi h1 c hc
 by_cases h7 : d.step.k = 7
 ·cases hc : s.conns d.step.c with
  | none => exact read20_dis_no lim rb mb v cb ps s i d p w h hs hi h7 hc
  | some c => exact read20_dis lim rb mb v cb ps s i d p w h hs hi h7 c hc
 by_cases h3 : d.step.k = 3
 ·exact read20_mic lim rb mb v cb ps s i d p w h hs hi h3 hcm hrs
 exact read20_oth lim rb mb v cb ps s i d p w h hs hi (by simp; omega) (by simp; omega) (by simp; omega)
end Go.Proofs.YtnjhpgmbfblgaaaGreat.Ord
