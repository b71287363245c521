/- Walk of the reader's micro: an answer committed, written. -/
import Derived.Test.YtnjhpgmbfblgaaaGreatH12
namespace Go.Proofs.YtnjhpgmbfblgaaaGreat.Ord
set_option maxRecDepth 100000
set_option maxHeartbeats 16000000
open Go.RowKit
set_option linter.unusedVariables false
set_option linter.unusedSimpArgs false
theorem micro36_com (lim rb mb cb pa n : Nat) (v : Value) (nses ses num : Int) (ps : List Value) (f : Int -> Option Value) (i : Nat) (d : DidR) (p : DidV) (cc : CallR) (pc : CallV) (w : World) (hr : RowL w rb 111 [.map (some mb), v, .int .i64 nses]) (hm : MapAt w mb f) (hf : f d.step.c = some (.pointer (some ⟨cb, 0, none⟩))) (hc : RowL w cb 196 [.int .i64 ses, .int .i64 num, .pointer (some ⟨pa, 0, none⟩)]) (hk : d.micro = 3)
  (ho : w.ownsRow lim 113 1 v n ps) (hp : RowL w pa 52 (callC cc pc)) (hbd : cc.bad = false) (hdn : decide (cc.done < 0) = true) (hdn2 : decide (0 <= cc.done) = false) (hcm : CmdOk w lim d.cmd p.vk p.vv p.vt) (hrs : RespOk w lim d.resp p.vi p.vn) :
  Calls Tryz.prog 104 #[.pointer (some ⟨rb, 0, none⟩), .int .i64 i, .agg (didC d p).toArray] w fun e w' => e = .returned (.bool true) /\ RowL w' pa 52 (callC (doneCall cc i d) { pc with vi := p.vi, vn := p.vn }) /\ Kept [pa] w w' := by
 obtain ⟨pvs, pvd, pvk, pvv, pvt, pvi, pvn⟩ := p
 obtain ⟨⟨_, Ak, ck, rfl, _⟩, ⟨_, _, Av, cv, rfl, _⟩, ⟨_, At, ct, rfl, _⟩⟩ := hcm
 obtain ⟨⟨_, Ai, ci, rfl, _⟩, _, An, cn, rfl, _⟩ := hrs
 have hb := below1 w (.cells (didC d ⟨pvs, pvd, .slice Ak d.cmd.keys.length ck, .slice Av d.cmd.val.length cv, .slice At d.cmd.tags.length ct, .slice Ai d.resp.items.length ci, .slice An d.resp.nums.length cn⟩).toArray 42)
 have hd := RowL.new w 42 (didC d ⟨pvs, pvd, .slice Ak d.cmd.keys.length ck, .slice Av d.cmd.val.length cv, .slice At d.cmd.tags.length ct, .slice Ai d.resp.items.length ci, .slice An d.resp.nums.length cn⟩)
 have hp' := hp
 rw [show callC cc pc = [.int .i64 cc.ses, .int .i64 cc.num, .bool false, .int .i64 cc.cmd.op, .string cc.cmd.key, pc.vk, pc.vv, pc.vt, .int .u64 cc.cmd.life, .int .u64 cc.cmd.ver, .string cc.cmd.tag, .string cc.cmd.pre, .string cc.cmd.chi, .int .i64 cc.resp.op, .int .i64 cc.resp.err, pc.vi, .int .u64 cc.resp.ver, .int .i64 cc.resp.count, pc.vn, .int .i64 cc.asked, .int .i64 cc.done, .int .i64 cc.told, .int .u64 cc.tim] by unfold callC callL; rw [hbd]] at hp'
 have hx1 : MicH (w.alloc (.cells (didC d ⟨pvs, pvd, .slice Ak d.cmd.keys.length ck, .slice Av d.cmd.val.length cv, .slice At d.cmd.tags.length ct, .slice Ai d.resp.items.length ci, .slice An d.resp.nums.length cn⟩).toArray 42)) lim rb cb w.heap.size pa n v ps [.map (some mb), v, .int .i64 nses] [.int .i64 ses, .int .i64 num, .pointer (some ⟨pa, 0, none⟩)] (didC d ⟨pvs, pvd, .slice Ak d.cmd.keys.length ck, .slice Av d.cmd.val.length cv, .slice At d.cmd.tags.length ct, .slice Ai d.resp.items.length ci, .slice An d.resp.nums.length cn⟩) [.int .i64 cc.ses, .int .i64 cc.num, .bool false, .int .i64 cc.cmd.op, .string cc.cmd.key, pc.vk, pc.vv, pc.vt, .int .u64 cc.cmd.life, .int .u64 cc.cmd.ver, .string cc.cmd.tag, .string cc.cmd.pre, .string cc.cmd.chi, .int .i64 cc.resp.op, .int .i64 cc.resp.err, pc.vi, .int .u64 cc.resp.ver, .int .i64 cc.resp.count, pc.vn, .int .i64 cc.asked, .int .i64 cc.done, .int .i64 cc.told, .int .u64 cc.tim] :=
  ⟨hr.alloc _, hc.alloc _, hd, hp'.alloc _, (Kept.of_below (L := []) hb).own2 ho (by simp)⟩
 have hm1 := hm.of_block (hb.block _ hm.lt)
 obtain ⟨W1, hW1⟩ : ∃ W1, w.alloc (.cells (didC d ⟨pvs, pvd, .slice Ak d.cmd.keys.length ck, .slice Av d.cmd.val.length cv, .slice At d.cmd.tags.length ct, .slice Ai d.resp.items.length ci, .slice An d.resp.nums.length cn⟩).toArray 42) = W1 := ⟨_, rfl⟩
 rw [hW1] at hb hx1 hm1 hd
 have c1 : W1.drew.cell? ⟨w.heap.size, 1, none⟩ = some (.int .i64 d.step.c) := hd.cell (j := 1) rfl
 have c7 : W1.drew.cell? ⟨w.heap.size, 7, none⟩ = some (.int .i64 d.micro) := hd.cell (j := 7) rfl
 have r0 : W1.drew.cell? ⟨rb, 0, none⟩ = some (.map (some mb)) := hx1.r.cell (j := 0) rfl
 have k2 : W1.drew.cell? ⟨cb, 2, none⟩ = some (.pointer (some ⟨pa, 0, none⟩)) := hx1.c.cell (j := 2) rfl
 have p2 : W1.drew.cell? ⟨pa, 2, none⟩ = some (.bool false) := hx1.p.cell (j := 2) rfl
 have p20 : W1.drew.cell? ⟨pa, 20, none⟩ = some (.int .i64 cc.done) := hx1.p.cell (j := 20) rfl
 have hlk := lk_micro (w := W1.drew) (k := d.step.c) (u := .pointer (some ⟨cb, 0, none⟩)) (hm1.of_block rfl) (by rw [hf]; rfl)
 have hkk := hk
 rw [show didC d ⟨pvs, pvd, .slice Ak d.cmd.keys.length ck, .slice Av d.cmd.val.length cv, .slice At d.cmd.tags.length ct, .slice Ai d.resp.items.length ci, .slice An d.resp.nums.length cn⟩ = [.int .i64 d.step.k, .int .i64 d.step.c, .int .i64 d.step.n, pvs, .int .i64 d.err, .int .i64 d.n, pvd, .int .i64 3, .int .i64 d.cmd.op, .string d.cmd.key, .slice Ak d.cmd.keys.length ck, .slice Av d.cmd.val.length cv, .slice At d.cmd.tags.length ct, .int .u64 d.cmd.life, .int .u64 d.cmd.ver, .string d.cmd.tag, .string d.cmd.pre, .string d.cmd.chi, .int .i64 d.resp.op, .int .i64 d.resp.err, .slice Ai d.resp.items.length ci, .int .u64 d.resp.ver, .int .i64 d.resp.count, .slice An d.resp.nums.length cn, .int .u64 d.when] by unfold didC didL; rw [hkk]] at hx1
 have HB := kp hb
 have HW := kp hW1
 have HX1 := kp hx1
 have HK0 := kp hk
 have HBD := kp hbd
 clear hb hx1 hm1 hd hW1 hr hm hc ho hp hp' hkk hbd
 rw [hk] at c7
 simp only [didC_A] at *
 simp only [didA] at *
 rw [hk]
 go_enter Tryz.func104, Tryz.ntmps104
 go_upto_region 1 with (fail)
 rw [HK0.out] at HW
 rw [HW.out]
 go_cut [7] from 8 (fun s7 W' => s7 = .pointer (some ⟨cb, 0, none⟩) /\ W' = W1.drew)
 case first =>
  go_region_law (fail)
  all_goals
   go_wp2_with fail
   go_meet
   case rel => exact ⟨rfl, rfl⟩
 case rest =>
  obtain ⟨rfl, rfl⟩ := hcut
  clear hlk c1 r0
  go_upto_region 18 with (fail)
  refine wp_region_held_drew (S := fun W => RowL W cb 196 [.int .i64 ses, .int .i64 num, .pointer (some ⟨pa, 0, none⟩)] /\ RowL W w.heap.size 42 [.int .i64 d.step.k, .int .i64 d.step.c, .int .i64 d.step.n, pvs, .int .i64 d.err, .int .i64 d.n, pvd, .int .i64 3, .int .i64 d.cmd.op, .string d.cmd.key, .slice Ak d.cmd.keys.length ck, .slice Av d.cmd.val.length cv, .slice At d.cmd.tags.length ct, .int .u64 d.cmd.life, .int .u64 d.cmd.ver, .string d.cmd.tag, .string d.cmd.pre, .string d.cmd.chi, .int .i64 d.resp.op, .int .i64 d.resp.err, .slice Ai d.resp.items.length ci, .int .u64 d.resp.ver, .int .i64 d.resp.count, .slice An d.resp.nums.length cn, .int .u64 d.when]) (by kernel_rfl) ⟨HX1.out.c, HX1.out.d⟩ (fun hS => ?_)
  have HS := kp hS
  clear hS
  refine wpAnyH_take (i := 0) (oi := ⟨some 114, .move (.tmp 7), 194, "history.go:50", #[], none⟩) (v := ?_) rfl (by kernel_rfl) (by kernel_rfl) (by kernel_rfl) (fun _ _ _ h => h) (Or.inl ⟨by rfl, ?_⟩) HS.out ?_
  rotate_left 1
  ·intro w hw; go_simp; try with_reducible rfl
  simp only [Act.put, z1, z2, z3]
  refine wpAnyH_take (i := 1) (oi := ⟨some 115, .nilCheck (.tmp 114), 0, "history.go:50", #[⟨0, .data⟩], none⟩) (v := ?_) rfl (by kernel_rfl) (by kernel_rfl) (by kernel_rfl) (fun _ _ _ h => h) (Or.inl ⟨by rfl, ?_⟩) HS.out ?_
  rotate_left 1
  ·intro w hw; go_simp; try with_reducible rfl
  simp only [Act.put, z1, z2, z3]
  refine wpAnyH_take (i := 2) (oi := ⟨some 116, .fieldAddr 196 (.tmp 115) 2, 0, "history.go:50", #[⟨1, .data⟩], none⟩) (v := ?_) rfl (by kernel_rfl) (by kernel_rfl) (by kernel_rfl) (fun _ _ _ h => h) (Or.inl ⟨by rfl, ?_⟩) HS.out ?_
  rotate_left 1
  ·intro w hw; go_simp; try with_reducible rfl
  simp only [Act.put, z1, z2, z3]
  refine wpAnyH_take (i := 3) (oi := ⟨some 117, .load 113 (.tmp 116), 113, "history.go:50", #[⟨2, .data⟩], none⟩) (v := ?_) rfl (by kernel_rfl) (by kernel_rfl) (by kernel_rfl) (fun _ _ _ h => h) (Or.inl ⟨by rfl, ?_⟩) HS.out ?_
  rotate_left 1
  ·intro w hw; have hw3 := hw.1.cell (j := 2) rfl; go_simp; try with_reducible rfl
  simp only [Act.put, z1, z2, z3]
  refine wpAnyH_take (i := 4) (oi := ⟨some 118, .move (.tmp 7), 194, "history.go:50", #[], none⟩) (v := ?_) rfl (by kernel_rfl) (by kernel_rfl) (by kernel_rfl) (fun _ _ _ h => h) (Or.inl ⟨by rfl, ?_⟩) HS.out ?_
  rotate_left 1
  ·intro w hw; go_simp; try with_reducible rfl
  simp only [Act.put, z1, z2, z3]
  refine wpAnyH_take (i := 5) (oi := ⟨some 119, .nilCheck (.tmp 118), 0, "history.go:50", #[⟨4, .data⟩], none⟩) (v := ?_) rfl (by kernel_rfl) (by kernel_rfl) (by kernel_rfl) (fun _ _ _ h => h) (Or.inl ⟨by rfl, ?_⟩) HS.out ?_
  rotate_left 1
  ·intro w hw; go_simp; try with_reducible rfl
  simp only [Act.put, z1, z2, z3]
  refine wpAnyH_take (i := 6) (oi := ⟨some 120, .fieldAddr 196 (.tmp 119) 2, 0, "history.go:50", #[⟨5, .data⟩], none⟩) (v := ?_) rfl (by kernel_rfl) (by kernel_rfl) (by kernel_rfl) (fun _ _ _ h => h) (Or.inl ⟨by rfl, ?_⟩) HS.out ?_
  rotate_left 1
  ·intro w hw; go_simp; try with_reducible rfl
  simp only [Act.put, z1, z2, z3]
  refine wpAnyH_take (i := 7) (oi := ⟨some 121, .load 113 (.tmp 120), 113, "history.go:50", #[⟨6, .data⟩], none⟩) (v := ?_) rfl (by kernel_rfl) (by kernel_rfl) (by kernel_rfl) (fun _ _ _ h => h) (Or.inl ⟨by rfl, ?_⟩) HS.out ?_
  rotate_left 1
  ·intro w hw; have hw3 := hw.1.cell (j := 2) rfl; go_simp; try with_reducible rfl
  simp only [Act.put, z1, z2, z3]
  refine wpAnyH_take (i := 8) (oi := ⟨some 122, .move (.tmp 7), 194, "history.go:50", #[], none⟩) (v := ?_) rfl (by kernel_rfl) (by kernel_rfl) (by kernel_rfl) (fun _ _ _ h => h) (Or.inl ⟨by rfl, ?_⟩) HS.out ?_
  rotate_left 1
  ·intro w hw; go_simp; try with_reducible rfl
  simp only [Act.put, z1, z2, z3]
  refine wpAnyH_take (i := 9) (oi := ⟨some 123, .nilCheck (.tmp 122), 0, "history.go:50", #[⟨8, .data⟩], none⟩) (v := ?_) rfl (by kernel_rfl) (by kernel_rfl) (by kernel_rfl) (fun _ _ _ h => h) (Or.inl ⟨by rfl, ?_⟩) HS.out ?_
  rotate_left 1
  ·intro w hw; go_simp; try with_reducible rfl
  simp only [Act.put, z1, z2, z3]
  refine wpAnyH_take (i := 10) (oi := ⟨some 124, .fieldAddr 196 (.tmp 123) 2, 0, "history.go:50", #[⟨9, .data⟩], none⟩) (v := ?_) rfl (by kernel_rfl) (by kernel_rfl) (by kernel_rfl) (fun _ _ _ h => h) (Or.inl ⟨by rfl, ?_⟩) HS.out ?_
  rotate_left 1
  ·intro w hw; go_simp; try with_reducible rfl
  simp only [Act.put, z1, z2, z3]
  refine wpAnyH_take (i := 11) (oi := ⟨some 125, .load 113 (.tmp 124), 113, "history.go:50", #[⟨10, .data⟩], none⟩) (v := ?_) rfl (by kernel_rfl) (by kernel_rfl) (by kernel_rfl) (fun _ _ _ h => h) (Or.inl ⟨by rfl, ?_⟩) HS.out ?_
  rotate_left 1
  ·intro w hw; have hw3 := hw.1.cell (j := 2) rfl; go_simp; try with_reducible rfl
  simp only [Act.put, z1, z2, z3]
  refine wpAnyH_take (i := 12) (oi := ⟨some 126, .fieldAddr 42 (.tmp 5) 6, 0, "history.go:50", #[], none⟩) (v := ?_) rfl (by kernel_rfl) (by kernel_rfl) (by kernel_rfl) (fun _ _ _ h => h) (Or.inl ⟨by rfl, ?_⟩) HS.out ?_
  rotate_left 1
  ·intro w hw; go_simp; try with_reducible rfl
  simp only [Act.put, z1, z2, z3]
  refine wpAnyH_take (i := 13) (oi := ⟨some 127, .load 40 (.tmp 126), 40, "history.go:50", #[⟨12, .data⟩], none⟩) (v := .agg #[.int .i64 d.resp.op, .int .i64 d.resp.err, .slice Ai d.resp.items.length ci, .int .u64 d.resp.ver, .int .i64 d.resp.count, .slice An d.resp.nums.length cn]) rfl (by kernel_rfl) (by kernel_rfl) (by kernel_rfl) (fun _ _ _ h => h) (yields_aggL rfl 40 _ rfl ⟨w.heap.size, 18, none⟩ rfl [.int .i64 d.resp.op, .int .i64 d.resp.err, .slice Ai d.resp.items.length ci, .int .u64 d.resp.ver, .int .i64 d.resp.count, .slice An d.resp.nums.length cn] _ (fun W hW => CellsAt.slice hW.2.cells 18 6) Tryz.underlying40 (resp_sizeL _ _ _ _ _ _)) HS.out ?_
  simp only [Act.put, z1, z2, z3]
  refine wpAnyH_take (i := 14) (oi := ⟨some 128, .move (.tmp 1), 3, "history.go:50", #[⟨19, .gcOnly .lateStores⟩], none⟩) (v := ?_) rfl (by kernel_rfl) (by kernel_rfl) (by kernel_rfl) (fun _ _ _ h => h) (Or.inl ⟨by rfl, ?_⟩) HS.out ?_
  rotate_left 1
  ·intro w hw; go_simp; try with_reducible rfl
  simp only [Act.put, z1, z2, z3]
  refine wpAnyH_take (i := 15) (oi := ⟨some 129, .fieldAddr 42 (.tmp 5) 7, 0, "history.go:50", #[⟨22, .gcOnly .lateStores⟩], none⟩) (v := ?_) rfl (by kernel_rfl) (by kernel_rfl) (by kernel_rfl) (fun _ _ _ h => h) (Or.inl ⟨by rfl, ?_⟩) HS.out ?_
  rotate_left 1
  ·intro w hw; go_simp; try with_reducible rfl
  simp only [Act.put, z1, z2, z3]
  refine wpAnyH_take (i := 16) (oi := ⟨some 130, .load 34 (.tmp 129), 34, "history.go:50", #[⟨15, .data⟩, ⟨22, .gcOnly .lateStores⟩], none⟩) (v := ?_) rfl (by kernel_rfl) (by kernel_rfl) (by kernel_rfl) (fun _ _ _ h => h) (Or.inl ⟨by rfl, ?_⟩) HS.out ?_
  rotate_left 1
  ·intro w hw; have hw3 := hw.2.cell (j := 24) rfl; go_simp; try with_reducible rfl
  simp only [Act.put, z1, z2, z3]
  refine wpAnyH_take (i := 17) (oi := ⟨some 131, .nilCheck (.tmp 117), 0, "history.go:50", #[⟨3, .data⟩, ⟨0, .phase⟩, ⟨1, .phase⟩, ⟨2, .phase⟩, ⟨3, .phase⟩, ⟨4, .textOnly .lateStores⟩, ⟨5, .textOnly .lateStoresUnsure⟩, ⟨6, .textOnly .lateStoresUnsure⟩, ⟨7, .phase⟩, ⟨8, .textOnly .lateStores⟩, ⟨9, .textOnly .lateStoresUnsure⟩, ⟨10, .textOnly .lateStoresUnsure⟩, ⟨11, .phase⟩, ⟨12, .phase⟩, ⟨13, .phase⟩, ⟨14, .textOnly .lateStores⟩, ⟨15, .textOnly .lateStores⟩, ⟨16, .textOnly .lateStores⟩], none⟩) (v := ?_) rfl (by kernel_rfl) (by kernel_rfl) (by kernel_rfl) (fun _ _ _ h => h) (Or.inl ⟨by rfl, ?_⟩) HS.out ?_
  rotate_left 1
  ·intro w hw; go_simp; try with_reducible rfl
  simp only [Act.put, z1, z2, z3]
  refine wpAnyH_take (i := 18) (oi := ⟨some 132, .fieldAddr 52 (.tmp 131) 4, 0, "history.go:50", #[⟨17, .data⟩, ⟨0, .phase⟩, ⟨1, .phase⟩, ⟨2, .phase⟩, ⟨3, .phase⟩, ⟨4, .textOnly .lateStores⟩, ⟨5, .textOnly .lateStoresUnsure⟩, ⟨6, .textOnly .lateStoresUnsure⟩, ⟨7, .phase⟩, ⟨8, .textOnly .lateStores⟩, ⟨9, .textOnly .lateStoresUnsure⟩, ⟨10, .textOnly .lateStoresUnsure⟩, ⟨11, .phase⟩, ⟨12, .phase⟩, ⟨13, .phase⟩, ⟨14, .textOnly .lateStores⟩, ⟨15, .textOnly .lateStores⟩, ⟨16, .textOnly .lateStores⟩], none⟩) (v := ?_) rfl (by kernel_rfl) (by kernel_rfl) (by kernel_rfl) (fun _ _ _ h => h) (Or.inl ⟨by rfl, ?_⟩) HS.out ?_
  rotate_left 1
  ·intro w hw; go_simp; try with_reducible rfl
  simp only [Act.put, z1, z2, z3]
  refine wpAnyH_ready (rs := [19]) (by kernel_rfl) (by simp) ?_
  refine AllReadyH.cons (o := ⟨none, .store 40 (.tmp 132) (.tmp 127), 0, "history.go:50", #[⟨18, .data⟩, ⟨13, .data⟩, ⟨0, .phase⟩, ⟨1, .phase⟩, ⟨2, .phase⟩, ⟨3, .phase⟩, ⟨4, .textOnly .lateStores⟩, ⟨5, .textOnly .lateStoresUnsure⟩, ⟨6, .textOnly .lateStoresUnsure⟩, ⟨7, .phase⟩, ⟨8, .textOnly .lateStores⟩, ⟨9, .textOnly .lateStoresUnsure⟩, ⟨10, .textOnly .lateStoresUnsure⟩, ⟨11, .phase⟩, ⟨12, .phase⟩, ⟨13, .phase⟩, ⟨14, .textOnly .lateStores⟩, ⟨15, .textOnly .lateStores⟩, ⟨16, .textOnly .lateStores⟩], none⟩) rfl (fun K hK => ?_) (AllReadyH.nil)
  with_reducible refine step_store_agg rfl 40 _ _ rfl pa 13 #[.int .i64 d.resp.op, .int .i64 d.resp.err, .slice Ai d.resp.items.length ci, .int .u64 d.resp.ver, .int .i64 d.resp.count, .slice An d.resp.nums.length cn] ?_ ?_ ?_ (resp_sizeA _ _ _ _ _ _) ?_ ?_
  ·rfl
  ·rfl
  ·exact HX1.out.p.there (o := 13) (n := 6) (by simp)
  ·exact resp_oneL _ _ _ _ _ _ _ _ _ _
  have hy := HX1.out.drew.drew.putP [.int .i64 d.resp.op, .int .i64 d.resp.err, .slice Ai d.resp.items.length ci, .int .u64 d.resp.ver, .int .i64 d.resp.count, .slice An d.resp.nums.length cn] 13
  have hkx : Kept [pa] W1 (W1.drew.drew.setCells pa 13 [.int .i64 d.resp.op, .int .i64 d.resp.err, .slice Ai d.resp.items.length ci, .int .u64 d.resp.ver, .int .i64 d.resp.count, .slice An d.resp.nums.length cn]) := kept_setCells (by simp) _ _ _ (Kept.refl [pa] W1).drew.drew
  simp only [putL, List.set_cons_succ, List.set_cons_zero] at hy
  obtain ⟨V1, hV1⟩ : ∃ V1, W1.drew.drew.setCells pa 13 [.int .i64 d.resp.op, .int .i64 d.resp.err, .slice Ai d.resp.items.length ci, .int .u64 d.resp.ver, .int .i64 d.resp.count, .slice An d.resp.nums.length cn] = V1 := ⟨_, rfl⟩
  rw [show (#[.int .i64 d.resp.op, .int .i64 d.resp.err, .slice Ai d.resp.items.length ci, .int .u64 d.resp.ver, .int .i64 d.resp.count, .slice An d.resp.nums.length cn] : Array Value).toList = [.int .i64 d.resp.op, .int .i64 d.resp.err, .slice Ai d.resp.items.length ci, .int .u64 d.resp.ver, .int .i64 d.resp.count, .slice An d.resp.nums.length cn] from rfl, hV1]
  rw [hV1] at hy hkx
  have HY := kp hy
  have HKX := kp hkx
  have hS := And.intro hy.c hy.d
  clear hV1 hy hkx
  refine hK.out _ _ hS (fun _ => ?_)
  clear hK K HS
  have HS := kp hS
  clear hS
  try simp only [Act.put, z1, z2, z3]
  refine wpAnyH_take (i := 20) (oi := ⟨some 133, .nilCheck (.tmp 121), 0, "history.go:50", #[⟨7, .data⟩, ⟨0, .phase⟩, ⟨1, .phase⟩, ⟨2, .phase⟩, ⟨3, .phase⟩, ⟨4, .phase⟩, ⟨5, .phase⟩, ⟨6, .phase⟩, ⟨7, .phase⟩, ⟨8, .textOnly .lateStores⟩, ⟨9, .textOnly .lateStoresUnsure⟩, ⟨10, .textOnly .lateStoresUnsure⟩, ⟨11, .phase⟩, ⟨12, .phase⟩, ⟨13, .phase⟩, ⟨14, .phase⟩, ⟨15, .textOnly .lateStores⟩, ⟨16, .textOnly .lateStores⟩, ⟨17, .phase⟩, ⟨18, .phase⟩, ⟨19, .phase⟩], none⟩) (v := ?_) rfl (by kernel_rfl) (by kernel_rfl) (by kernel_rfl) (fun _ _ _ h => h) (Or.inl ⟨by rfl, ?_⟩) HS.out ?_
  rotate_left 1
  ·intro w hw; go_simp; try with_reducible rfl
  simp only [Act.put, z1, z2, z3]
  refine wpAnyH_take (i := 21) (oi := ⟨some 134, .fieldAddr 52 (.tmp 133) 6, 0, "history.go:50", #[⟨20, .data⟩, ⟨0, .phase⟩, ⟨1, .phase⟩, ⟨2, .phase⟩, ⟨3, .phase⟩, ⟨4, .phase⟩, ⟨5, .phase⟩, ⟨6, .phase⟩, ⟨7, .phase⟩, ⟨8, .textOnly .lateStores⟩, ⟨9, .textOnly .lateStoresUnsure⟩, ⟨10, .textOnly .lateStoresUnsure⟩, ⟨11, .phase⟩, ⟨12, .phase⟩, ⟨13, .phase⟩, ⟨14, .phase⟩, ⟨15, .textOnly .lateStores⟩, ⟨16, .textOnly .lateStores⟩, ⟨17, .phase⟩, ⟨18, .phase⟩, ⟨19, .phase⟩], none⟩) (v := ?_) rfl (by kernel_rfl) (by kernel_rfl) (by kernel_rfl) (fun _ _ _ h => h) (Or.inl ⟨by rfl, ?_⟩) HS.out ?_
  rotate_left 1
  ·intro w hw; go_simp; try with_reducible rfl
  simp only [Act.put, z1, z2, z3]
  refine wpAnyH_ready (rs := [22]) (by kernel_rfl) (by simp) ?_
  refine AllReadyH.cons (o := ⟨none, .store 3 (.tmp 134) (.tmp 128), 0, "history.go:50", #[⟨21, .data⟩, ⟨14, .data⟩, ⟨19, .chain⟩, ⟨0, .phase⟩, ⟨1, .phase⟩, ⟨2, .phase⟩, ⟨3, .phase⟩, ⟨4, .phase⟩, ⟨5, .phase⟩, ⟨6, .phase⟩, ⟨7, .phase⟩, ⟨8, .textOnly .lateStores⟩, ⟨9, .textOnly .lateStoresUnsure⟩, ⟨10, .textOnly .lateStoresUnsure⟩, ⟨11, .phase⟩, ⟨12, .phase⟩, ⟨13, .phase⟩, ⟨14, .phase⟩, ⟨15, .textOnly .lateStores⟩, ⟨16, .textOnly .lateStores⟩, ⟨17, .phase⟩, ⟨18, .phase⟩, ⟨19, .phase⟩], none⟩) rfl (fun K hK => ?_) (AllReadyH.nil)
  have e20 := HY.out.p.cell (j := 20) rfl
  have z20 := HY.out.p.frozen 20
  have hy := HY.out.setP 20 (.int .i64 i)
  simp only [List.set_cons_succ, List.set_cons_zero] at hy
  have hkx := HKX.out.setCell (p := ⟨pa, 20, none⟩) (by simp) (.int .i64 i)
  have HY2 := kp hy
  have HKX2 := kp hkx
  have hS := And.intro hy.c hy.d
  clear hy hkx
  go_simp
  refine hK.out _ _ hS (fun _ => ?_)
  clear e20 z20
  clear hK K HS
  have HS := kp hS
  clear hS
  try simp only [Act.put, z1, z2, z3]
  refine wpAnyH_take (i := 23) (oi := ⟨some 135, .nilCheck (.tmp 125), 0, "history.go:50", #[⟨11, .data⟩, ⟨0, .phase⟩, ⟨1, .phase⟩, ⟨2, .phase⟩, ⟨3, .phase⟩, ⟨4, .phase⟩, ⟨5, .phase⟩, ⟨6, .phase⟩, ⟨7, .phase⟩, ⟨8, .phase⟩, ⟨9, .phase⟩, ⟨10, .phase⟩, ⟨11, .phase⟩, ⟨12, .phase⟩, ⟨13, .phase⟩, ⟨14, .phase⟩, ⟨15, .phase⟩, ⟨16, .phase⟩, ⟨17, .phase⟩, ⟨18, .phase⟩, ⟨19, .phase⟩, ⟨20, .phase⟩, ⟨21, .phase⟩, ⟨22, .phase⟩], none⟩) (v := ?_) rfl (by kernel_rfl) (by kernel_rfl) (by kernel_rfl) (fun _ _ _ h => h) (Or.inl ⟨by rfl, ?_⟩) HS.out ?_
  rotate_left 1
  ·intro w hw; go_simp; try with_reducible rfl
  simp only [Act.put, z1, z2, z3]
  refine wpAnyH_take (i := 24) (oi := ⟨some 136, .fieldAddr 52 (.tmp 135) 8, 0, "history.go:50", #[⟨23, .data⟩, ⟨0, .phase⟩, ⟨1, .phase⟩, ⟨2, .phase⟩, ⟨3, .phase⟩, ⟨4, .phase⟩, ⟨5, .phase⟩, ⟨6, .phase⟩, ⟨7, .phase⟩, ⟨8, .phase⟩, ⟨9, .phase⟩, ⟨10, .phase⟩, ⟨11, .phase⟩, ⟨12, .phase⟩, ⟨13, .phase⟩, ⟨14, .phase⟩, ⟨15, .phase⟩, ⟨16, .phase⟩, ⟨17, .phase⟩, ⟨18, .phase⟩, ⟨19, .phase⟩, ⟨20, .phase⟩, ⟨21, .phase⟩, ⟨22, .phase⟩], none⟩) (v := ?_) rfl (by kernel_rfl) (by kernel_rfl) (by kernel_rfl) (fun _ _ _ h => h) (Or.inl ⟨by rfl, ?_⟩) HS.out ?_
  rotate_left 1
  ·intro w hw; go_simp; try with_reducible rfl
  simp only [Act.put, z1, z2, z3]
  refine wpAnyH_ready (rs := [25]) (by kernel_rfl) (by simp) ?_
  refine AllReadyH.cons (o := ⟨none, .store 34 (.tmp 136) (.tmp 130), 0, "history.go:50", #[⟨24, .data⟩, ⟨16, .data⟩, ⟨22, .chain⟩, ⟨0, .phase⟩, ⟨1, .phase⟩, ⟨2, .phase⟩, ⟨3, .phase⟩, ⟨4, .phase⟩, ⟨5, .phase⟩, ⟨6, .phase⟩, ⟨7, .phase⟩, ⟨8, .phase⟩, ⟨9, .phase⟩, ⟨10, .phase⟩, ⟨11, .phase⟩, ⟨12, .phase⟩, ⟨13, .phase⟩, ⟨14, .phase⟩, ⟨15, .phase⟩, ⟨16, .phase⟩, ⟨17, .phase⟩, ⟨18, .phase⟩, ⟨19, .phase⟩, ⟨20, .phase⟩, ⟨21, .phase⟩, ⟨22, .phase⟩], none⟩) rfl (fun K hK => ?_) (AllReadyH.nil)
  have e22 := HY2.out.p.cell (j := 22) rfl
  have z22 := HY2.out.p.frozen 22
  have hy := HY2.out.setP 22 (.int .u64 d.when)
  simp only [List.set_cons_succ, List.set_cons_zero] at hy
  have hkx := HKX2.out.setCell (p := ⟨pa, 22, none⟩) (by simp) (.int .u64 d.when)
  have HY3 := kp hy
  have HKX3 := kp hkx
  have hS := And.intro hy.c hy.d
  clear hy hkx
  go_simp
  refine hK.out _ _ hS (fun _ => ?_)
  clear e22 z22
  clear hK K HS
  have HS := kp hS
  clear hS
  try simp only [Act.put, z1, z2, z3]
  refine wpAnyH_done (by kernel_rfl) ?_ _
  go_wp2_with fail
  go_ret
  refine ⟨rfl, ?_, ?_⟩
  ·unfold callC callL doneCall
   rw [HBD.out]
   exact HY3.out.p
  ·exact (Kept.of_below HB.out).trans HKX3.out
theorem micro36_wr_bad (lim rb mb cb pa n : Nat) (v : Value) (nses ses num : Int) (ps : List Value) (f : Int -> Option Value) (i : Nat) (d : DidR) (p : DidV) (cc : CallR) (pc : CallV) (w : World) (hr : RowL w rb 111 [.map (some mb), v, .int .i64 nses]) (hm : MapAt w mb f) (hf : f d.step.c = some (.pointer (some ⟨cb, 0, none⟩))) (hc : RowL w cb 196 [.int .i64 ses, .int .i64 num, .pointer (some ⟨pa, 0, none⟩)]) (hk : d.micro = 4)
  (ho : w.ownsRow lim 113 1 v n ps) (hp : RowL w pa 52 (callC cc pc)) (hbd : cc.bad = true) (hcm : CmdOk w lim d.cmd p.vk p.vv p.vt) (hrs : RespOk w lim d.resp p.vi p.vn) :
  Calls Tryz.prog 104 #[.pointer (some ⟨rb, 0, none⟩), .int .i64 i, .agg (didC d p).toArray] w fun e w' => e = .returned (.bool true) /\ RowL w' cb 196 [.int .i64 ses, .int .i64 num, .pointer none] /\ RowL w' pa 52 (callC (toldCall cc i) pc) /\ Kept [pa, cb] w w' := by
 obtain ⟨pvs, pvd, pvk, pvv, pvt, pvi, pvn⟩ := p
 obtain ⟨⟨_, Ak, ck, rfl, _⟩, ⟨_, _, Av, cv, rfl, _⟩, ⟨_, At, ct, rfl, _⟩⟩ := hcm
 obtain ⟨⟨_, Ai, ci, rfl, _⟩, _, An, cn, rfl, _⟩ := hrs
 have hb := below1 w (.cells (didC d ⟨pvs, pvd, .slice Ak d.cmd.keys.length ck, .slice Av d.cmd.val.length cv, .slice At d.cmd.tags.length ct, .slice Ai d.resp.items.length ci, .slice An d.resp.nums.length cn⟩).toArray 42)
 have hd := RowL.new w 42 (didC d ⟨pvs, pvd, .slice Ak d.cmd.keys.length ck, .slice Av d.cmd.val.length cv, .slice At d.cmd.tags.length ct, .slice Ai d.resp.items.length ci, .slice An d.resp.nums.length cn⟩)
 have hp' := hp
 rw [show callC cc pc = [.int .i64 cc.ses, .int .i64 cc.num, .bool true, .int .i64 cc.cmd.op, .string cc.cmd.key, pc.vk, pc.vv, pc.vt, .int .u64 cc.cmd.life, .int .u64 cc.cmd.ver, .string cc.cmd.tag, .string cc.cmd.pre, .string cc.cmd.chi, .int .i64 cc.resp.op, .int .i64 cc.resp.err, pc.vi, .int .u64 cc.resp.ver, .int .i64 cc.resp.count, pc.vn, .int .i64 cc.asked, .int .i64 cc.done, .int .i64 cc.told, .int .u64 cc.tim] by unfold callC callL; rw [hbd]] at hp'
 have hx1 : MicH (w.alloc (.cells (didC d ⟨pvs, pvd, .slice Ak d.cmd.keys.length ck, .slice Av d.cmd.val.length cv, .slice At d.cmd.tags.length ct, .slice Ai d.resp.items.length ci, .slice An d.resp.nums.length cn⟩).toArray 42)) lim rb cb w.heap.size pa n v ps [.map (some mb), v, .int .i64 nses] [.int .i64 ses, .int .i64 num, .pointer (some ⟨pa, 0, none⟩)] (didC d ⟨pvs, pvd, .slice Ak d.cmd.keys.length ck, .slice Av d.cmd.val.length cv, .slice At d.cmd.tags.length ct, .slice Ai d.resp.items.length ci, .slice An d.resp.nums.length cn⟩) [.int .i64 cc.ses, .int .i64 cc.num, .bool true, .int .i64 cc.cmd.op, .string cc.cmd.key, pc.vk, pc.vv, pc.vt, .int .u64 cc.cmd.life, .int .u64 cc.cmd.ver, .string cc.cmd.tag, .string cc.cmd.pre, .string cc.cmd.chi, .int .i64 cc.resp.op, .int .i64 cc.resp.err, pc.vi, .int .u64 cc.resp.ver, .int .i64 cc.resp.count, pc.vn, .int .i64 cc.asked, .int .i64 cc.done, .int .i64 cc.told, .int .u64 cc.tim] :=
  ⟨hr.alloc _, hc.alloc _, hd, hp'.alloc _, (Kept.of_below (L := []) hb).own2 ho (by simp)⟩
 have hm1 := hm.of_block (hb.block _ hm.lt)
 obtain ⟨W1, hW1⟩ : ∃ W1, w.alloc (.cells (didC d ⟨pvs, pvd, .slice Ak d.cmd.keys.length ck, .slice Av d.cmd.val.length cv, .slice At d.cmd.tags.length ct, .slice Ai d.resp.items.length ci, .slice An d.resp.nums.length cn⟩).toArray 42) = W1 := ⟨_, rfl⟩
 rw [hW1] at hb hx1 hm1 hd
 have c1 : W1.drew.cell? ⟨w.heap.size, 1, none⟩ = some (.int .i64 d.step.c) := hd.cell (j := 1) rfl
 have c7 : W1.drew.cell? ⟨w.heap.size, 7, none⟩ = some (.int .i64 d.micro) := hd.cell (j := 7) rfl
 have r0 : W1.drew.cell? ⟨rb, 0, none⟩ = some (.map (some mb)) := hx1.r.cell (j := 0) rfl
 have k2 : W1.drew.cell? ⟨cb, 2, none⟩ = some (.pointer (some ⟨pa, 0, none⟩)) := hx1.c.cell (j := 2) rfl
 have p2 : W1.drew.cell? ⟨pa, 2, none⟩ = some (.bool true) := hx1.p.cell (j := 2) rfl
 have p20 : W1.drew.cell? ⟨pa, 20, none⟩ = some (.int .i64 cc.done) := hx1.p.cell (j := 20) rfl
 have hlk := lk_micro (w := W1.drew) (k := d.step.c) (u := .pointer (some ⟨cb, 0, none⟩)) (hm1.of_block rfl) (by rw [hf]; rfl)
 have hkk := hk
 rw [show didC d ⟨pvs, pvd, .slice Ak d.cmd.keys.length ck, .slice Av d.cmd.val.length cv, .slice At d.cmd.tags.length ct, .slice Ai d.resp.items.length ci, .slice An d.resp.nums.length cn⟩ = [.int .i64 d.step.k, .int .i64 d.step.c, .int .i64 d.step.n, pvs, .int .i64 d.err, .int .i64 d.n, pvd, .int .i64 4, .int .i64 d.cmd.op, .string d.cmd.key, .slice Ak d.cmd.keys.length ck, .slice Av d.cmd.val.length cv, .slice At d.cmd.tags.length ct, .int .u64 d.cmd.life, .int .u64 d.cmd.ver, .string d.cmd.tag, .string d.cmd.pre, .string d.cmd.chi, .int .i64 d.resp.op, .int .i64 d.resp.err, .slice Ai d.resp.items.length ci, .int .u64 d.resp.ver, .int .i64 d.resp.count, .slice An d.resp.nums.length cn, .int .u64 d.when] by unfold didC didL; rw [hkk]] at hx1
 have HB := kp hb
 have HW := kp hW1
 have HX1 := kp hx1
 have HK0 := kp hk
 have HBD := kp hbd
 clear hb hx1 hm1 hd hW1 hr hm hc ho hp hp' hkk hbd
 rw [hk] at c7
 simp only [didC_A] at *
 simp only [didA] at *
 rw [hk]
 go_enter Tryz.func104, Tryz.ntmps104
 go_upto_region 1 with (fail)
 rw [HK0.out] at HW
 rw [HW.out]
 go_cut [7] from 8 (fun s7 W' => s7 = .pointer (some ⟨cb, 0, none⟩) /\ W' = W1.drew)
 case first =>
  go_region_law (fail)
  all_goals
   go_wp2_with fail
   go_meet
   case rel => exact ⟨rfl, rfl⟩
 case rest =>
  obtain ⟨rfl, rfl⟩ := hcut
  clear hlk c1 r0
  have z21 : W1.drew.frozen? ⟨pa, 21, none⟩ = false := HX1.out.p.frozen 21
  have p21 : W1.drew.cell? ⟨pa, 21, none⟩ = some (.int .i64 cc.told) := HX1.out.p.cell (j := 21) rfl
  go_upto_region 23 with (fail)
  have hy := (HX1.out.setP 21 (.int .i64 i)).drew
  obtain ⟨V, hV⟩ : ∃ V, (W1.setCell ⟨pa, 21, none⟩ (.int .i64 i)).drew = V := ⟨_, rfl⟩
  have hkv : Kept [pa, cb] W1 (W1.setCell ⟨pa, 21, none⟩ (.int .i64 i)).drew := ((Kept.refl [pa, cb] W1).setCell (p := ⟨pa, 21, none⟩) (by simp) (.int .i64 i)).drew
  rw [hV] at hy hkv ⊢
  clear hV
  have z2 : V.frozen? ⟨cb, 2, none⟩ = false := hy.c.frozen 2
  have y2 : V.cell? ⟨cb, 2, none⟩ = some (.pointer (some ⟨pa, 0, none⟩)) := hy.c.cell (j := 2) rfl
  have hx3 := hy.setC 2 (.pointer none)
  have HX3 := kp hx3
  have HKV := kp hkv
  clear hx3 hy hkv
  go_wp2_with fail
  go_ret
  refine ⟨rfl, HX3.out.c, ?_, ?_⟩
  ·have h := HX3.out.p
   simp only [List.set_cons_succ, List.set_cons_zero] at h
   unfold callC callL toldCall
   rw [HBD.out]
   exact h
  ·exact (Kept.of_below HB.out).trans (HKV.out.setCell (p := ⟨cb, 2, none⟩) (by simp) (.pointer none))
theorem micro36_wr_done (lim rb mb cb pa n : Nat) (v : Value) (nses ses num : Int) (ps : List Value) (f : Int -> Option Value) (i : Nat) (d : DidR) (p : DidV) (cc : CallR) (pc : CallV) (w : World) (hr : RowL w rb 111 [.map (some mb), v, .int .i64 nses]) (hm : MapAt w mb f) (hf : f d.step.c = some (.pointer (some ⟨cb, 0, none⟩))) (hc : RowL w cb 196 [.int .i64 ses, .int .i64 num, .pointer (some ⟨pa, 0, none⟩)]) (hk : d.micro = 4)
  (ho : w.ownsRow lim 113 1 v n ps) (hp : RowL w pa 52 (callC cc pc)) (hbd : cc.bad = false) (hdn : decide (cc.done < 0) = false) (hdn2 : decide (0 <= cc.done) = true) (hcm : CmdOk w lim d.cmd p.vk p.vv p.vt) (hrs : RespOk w lim d.resp p.vi p.vn) :
  Calls Tryz.prog 104 #[.pointer (some ⟨rb, 0, none⟩), .int .i64 i, .agg (didC d p).toArray] w fun e w' => e = .returned (.bool true) /\ RowL w' cb 196 [.int .i64 ses, .int .i64 num, .pointer none] /\ RowL w' pa 52 (callC (toldCall cc i) pc) /\ Kept [pa, cb] w w' := by
 obtain ⟨pvs, pvd, pvk, pvv, pvt, pvi, pvn⟩ := p
 obtain ⟨⟨_, Ak, ck, rfl, _⟩, ⟨_, _, Av, cv, rfl, _⟩, ⟨_, At, ct, rfl, _⟩⟩ := hcm
 obtain ⟨⟨_, Ai, ci, rfl, _⟩, _, An, cn, rfl, _⟩ := hrs
 have hb := below1 w (.cells (didC d ⟨pvs, pvd, .slice Ak d.cmd.keys.length ck, .slice Av d.cmd.val.length cv, .slice At d.cmd.tags.length ct, .slice Ai d.resp.items.length ci, .slice An d.resp.nums.length cn⟩).toArray 42)
 have hd := RowL.new w 42 (didC d ⟨pvs, pvd, .slice Ak d.cmd.keys.length ck, .slice Av d.cmd.val.length cv, .slice At d.cmd.tags.length ct, .slice Ai d.resp.items.length ci, .slice An d.resp.nums.length cn⟩)
 have hp' := hp
 rw [show callC cc pc = [.int .i64 cc.ses, .int .i64 cc.num, .bool false, .int .i64 cc.cmd.op, .string cc.cmd.key, pc.vk, pc.vv, pc.vt, .int .u64 cc.cmd.life, .int .u64 cc.cmd.ver, .string cc.cmd.tag, .string cc.cmd.pre, .string cc.cmd.chi, .int .i64 cc.resp.op, .int .i64 cc.resp.err, pc.vi, .int .u64 cc.resp.ver, .int .i64 cc.resp.count, pc.vn, .int .i64 cc.asked, .int .i64 cc.done, .int .i64 cc.told, .int .u64 cc.tim] by unfold callC callL; rw [hbd]] at hp'
 have hx1 : MicH (w.alloc (.cells (didC d ⟨pvs, pvd, .slice Ak d.cmd.keys.length ck, .slice Av d.cmd.val.length cv, .slice At d.cmd.tags.length ct, .slice Ai d.resp.items.length ci, .slice An d.resp.nums.length cn⟩).toArray 42)) lim rb cb w.heap.size pa n v ps [.map (some mb), v, .int .i64 nses] [.int .i64 ses, .int .i64 num, .pointer (some ⟨pa, 0, none⟩)] (didC d ⟨pvs, pvd, .slice Ak d.cmd.keys.length ck, .slice Av d.cmd.val.length cv, .slice At d.cmd.tags.length ct, .slice Ai d.resp.items.length ci, .slice An d.resp.nums.length cn⟩) [.int .i64 cc.ses, .int .i64 cc.num, .bool false, .int .i64 cc.cmd.op, .string cc.cmd.key, pc.vk, pc.vv, pc.vt, .int .u64 cc.cmd.life, .int .u64 cc.cmd.ver, .string cc.cmd.tag, .string cc.cmd.pre, .string cc.cmd.chi, .int .i64 cc.resp.op, .int .i64 cc.resp.err, pc.vi, .int .u64 cc.resp.ver, .int .i64 cc.resp.count, pc.vn, .int .i64 cc.asked, .int .i64 cc.done, .int .i64 cc.told, .int .u64 cc.tim] :=
  ⟨hr.alloc _, hc.alloc _, hd, hp'.alloc _, (Kept.of_below (L := []) hb).own2 ho (by simp)⟩
 have hm1 := hm.of_block (hb.block _ hm.lt)
 obtain ⟨W1, hW1⟩ : ∃ W1, w.alloc (.cells (didC d ⟨pvs, pvd, .slice Ak d.cmd.keys.length ck, .slice Av d.cmd.val.length cv, .slice At d.cmd.tags.length ct, .slice Ai d.resp.items.length ci, .slice An d.resp.nums.length cn⟩).toArray 42) = W1 := ⟨_, rfl⟩
 rw [hW1] at hb hx1 hm1 hd
 have c1 : W1.drew.cell? ⟨w.heap.size, 1, none⟩ = some (.int .i64 d.step.c) := hd.cell (j := 1) rfl
 have c7 : W1.drew.cell? ⟨w.heap.size, 7, none⟩ = some (.int .i64 d.micro) := hd.cell (j := 7) rfl
 have r0 : W1.drew.cell? ⟨rb, 0, none⟩ = some (.map (some mb)) := hx1.r.cell (j := 0) rfl
 have k2 : W1.drew.cell? ⟨cb, 2, none⟩ = some (.pointer (some ⟨pa, 0, none⟩)) := hx1.c.cell (j := 2) rfl
 have p2 : W1.drew.cell? ⟨pa, 2, none⟩ = some (.bool false) := hx1.p.cell (j := 2) rfl
 have p20 : W1.drew.cell? ⟨pa, 20, none⟩ = some (.int .i64 cc.done) := hx1.p.cell (j := 20) rfl
 have hlk := lk_micro (w := W1.drew) (k := d.step.c) (u := .pointer (some ⟨cb, 0, none⟩)) (hm1.of_block rfl) (by rw [hf]; rfl)
 have hkk := hk
 rw [show didC d ⟨pvs, pvd, .slice Ak d.cmd.keys.length ck, .slice Av d.cmd.val.length cv, .slice At d.cmd.tags.length ct, .slice Ai d.resp.items.length ci, .slice An d.resp.nums.length cn⟩ = [.int .i64 d.step.k, .int .i64 d.step.c, .int .i64 d.step.n, pvs, .int .i64 d.err, .int .i64 d.n, pvd, .int .i64 4, .int .i64 d.cmd.op, .string d.cmd.key, .slice Ak d.cmd.keys.length ck, .slice Av d.cmd.val.length cv, .slice At d.cmd.tags.length ct, .int .u64 d.cmd.life, .int .u64 d.cmd.ver, .string d.cmd.tag, .string d.cmd.pre, .string d.cmd.chi, .int .i64 d.resp.op, .int .i64 d.resp.err, .slice Ai d.resp.items.length ci, .int .u64 d.resp.ver, .int .i64 d.resp.count, .slice An d.resp.nums.length cn, .int .u64 d.when] by unfold didC didL; rw [hkk]] at hx1
 have HB := kp hb
 have HW := kp hW1
 have HX1 := kp hx1
 have HK0 := kp hk
 have HBD := kp hbd
 clear hb hx1 hm1 hd hW1 hr hm hc ho hp hp' hkk hbd
 rw [hk] at c7
 simp only [didC_A] at *
 simp only [didA] at *
 rw [hk]
 go_enter Tryz.func104, Tryz.ntmps104
 go_upto_region 1 with (fail)
 rw [HK0.out] at HW
 rw [HW.out]
 go_cut [7] from 8 (fun s7 W' => s7 = .pointer (some ⟨cb, 0, none⟩) /\ W' = W1.drew)
 case first =>
  go_region_law (fail)
  all_goals
   go_wp2_with fail
   go_meet
   case rel => exact ⟨rfl, rfl⟩
 case rest =>
  obtain ⟨rfl, rfl⟩ := hcut
  clear hlk c1 r0
  have z21 : W1.drew.frozen? ⟨pa, 21, none⟩ = false := HX1.out.p.frozen 21
  have p21 : W1.drew.cell? ⟨pa, 21, none⟩ = some (.int .i64 cc.told) := HX1.out.p.cell (j := 21) rfl
  go_upto_region 23 with (fail)
  have hy := (HX1.out.setP 21 (.int .i64 i)).drew
  obtain ⟨V, hV⟩ : ∃ V, (W1.setCell ⟨pa, 21, none⟩ (.int .i64 i)).drew = V := ⟨_, rfl⟩
  have hkv : Kept [pa, cb] W1 (W1.setCell ⟨pa, 21, none⟩ (.int .i64 i)).drew := ((Kept.refl [pa, cb] W1).setCell (p := ⟨pa, 21, none⟩) (by simp) (.int .i64 i)).drew
  rw [hV] at hy hkv ⊢
  clear hV
  have z2 : V.frozen? ⟨cb, 2, none⟩ = false := hy.c.frozen 2
  have y2 : V.cell? ⟨cb, 2, none⟩ = some (.pointer (some ⟨pa, 0, none⟩)) := hy.c.cell (j := 2) rfl
  have hx3 := hy.setC 2 (.pointer none)
  have HX3 := kp hx3
  have HKV := kp hkv
  clear hx3 hy hkv
  go_wp2_with fail
  go_ret
  refine ⟨rfl, HX3.out.c, ?_, ?_⟩
  ·have h := HX3.out.p
   simp only [List.set_cons_succ, List.set_cons_zero] at h
   unfold callC callL toldCall
   rw [HBD.out]
   exact h
  ·exact (Kept.of_below HB.out).trans (HKV.out.setCell (p := ⟨cb, 2, none⟩) (by simp) (.pointer none))
end Go.Proofs.YtnjhpgmbfblgaaaGreat.Ord
