/- Walk of the reader's micro: what changes nothing. -/
import Derived.Test.YtnjhpgmbfblgaaaGreatMS0
namespace Go.Proofs.YtnjhpgmbfblgaaaGreat.Ord
set_option maxRecDepth 100000
set_option maxHeartbeats 16000000
open Go.RowKit
set_option linter.unusedVariables false
theorem micro36_no (rb mb : Nat) (v : Value) (nses : Int) (f : Int -> Option Value) (i : Nat) (d : DidR) (p : DidV) (w : World) (hr : RowL w rb 111 [.map (some mb), v, .int .i64 nses]) (hm : MapAt w mb f) (hf : f d.step.c = none) :
  Calls Tryz.prog 104 #[.pointer (some ⟨rb, 0, none⟩), .int .i64 i, .agg (didC d p).toArray] w fun e w' => e = .returned (.bool false) /\ Below w.heap.size w w' := by
 have hb := below1 w (.cells (didC d p).toArray 42)
 have hr1 := hr.alloc (.cells (didC d p).toArray 42)
 have hm1 := hm.of_block (hb.block _ hm.lt)
 have hd := RowL.new w 42 (didC d p)
 obtain ⟨W1, hW1⟩ : ∃ W1, w.alloc (.cells (didC d p).toArray 42) = W1 := ⟨_, rfl⟩
 rw [hW1] at hb hr1 hm1 hd
 have c1 : W1.drew.cell? ⟨w.heap.size, 1, none⟩ = some (.int .i64 d.step.c) := hd.cell (j := 1) rfl
 have r0 : W1.drew.cell? ⟨rb, 0, none⟩ = some (.map (some mb)) := hr1.cell (j := 0) rfl
 have hlk := lk_micro (w := W1.drew) (k := d.step.c) (u := .pointer none) (hm1.of_block rfl) (by rw [hf]; rfl)
 have HB := kp hb
 have HW := kp hW1
 clear hb hr1 hm1 hd hW1 hr hm
 simp only [didC_A] at *
 simp only [didA] at *
 go_enter Tryz.func104, Tryz.ntmps104
 go_upto_region 1 with (fail)
 rw [HW.out]
 go_region_law (fail)
 all_goals
  go_wp2_with fail
  go_ret
  exact ⟨rfl, below_drewn HB.out⟩
theorem micro36_dec_at (rb mb cb pa : Nat) (v at_ : Value) (nses ses num : Int) (f : Int -> Option Value) (i : Nat) (d : DidR) (p : DidV) (cc : CallR) (pc : CallV) (w : World) (hr : RowL w rb 111 [.map (some mb), v, .int .i64 nses]) (hm : MapAt w mb f) (hf : f d.step.c = some (.pointer (some ⟨cb, 0, none⟩))) (hc : RowL w cb 196 [.int .i64 ses, .int .i64 num, at_]) (hk : d.micro = 1) (hat : at_ = .pointer (some ⟨pa, 0, none⟩)) :
  Calls Tryz.prog 104 #[.pointer (some ⟨rb, 0, none⟩), .int .i64 i, .agg (didC d p).toArray] w fun e w' => e = .returned (.bool false) /\ Below w.heap.size w w' := by
 have hb := below1 w (.cells (didC d p).toArray 42)
 have hr1 := hr.alloc (.cells (didC d p).toArray 42)
 have hc1 := hc.alloc (.cells (didC d p).toArray 42)
 have hm1 := hm.of_block (hb.block _ hm.lt)
 have hd := RowL.new w 42 (didC d p)
 obtain ⟨W1, hW1⟩ : ∃ W1, w.alloc (.cells (didC d p).toArray 42) = W1 := ⟨_, rfl⟩
 rw [hW1] at hb hr1 hm1 hd hc1
 have c1 : W1.drew.cell? ⟨w.heap.size, 1, none⟩ = some (.int .i64 d.step.c) := hd.cell (j := 1) rfl
 have c7 : W1.drew.cell? ⟨w.heap.size, 7, none⟩ = some (.int .i64 d.micro) := hd.cell (j := 7) rfl
 have r0 : W1.drew.cell? ⟨rb, 0, none⟩ = some (.map (some mb)) := hr1.cell (j := 0) rfl
 have k2 : W1.drew.cell? ⟨cb, 2, none⟩ = some at_ := hc1.cell (j := 2) rfl
 have hlk := lk_micro (w := W1.drew) (k := d.step.c) (u := .pointer (some ⟨cb, 0, none⟩)) (hm1.of_block rfl) (by rw [hf]; rfl)
 have HB := kp hb
 have HW := kp hW1
 clear hb hr1 hm1 hd hW1 hr hm hc hc1
 simp only [didC_A] at *
 simp only [didA] at *
 subst hat
 rw [hk] at *
 go_enter Tryz.func104, Tryz.ntmps104
 go_upto_region 1 with (fail)
 rw [HW.out]
 go_region_law (fail)
 all_goals
  go_wp2_with fail
  go_ret
  exact ⟨rfl, below_drewn HB.out⟩
theorem micro36_bad_at (rb mb cb pa : Nat) (v at_ : Value) (nses ses num : Int) (f : Int -> Option Value) (i : Nat) (d : DidR) (p : DidV) (cc : CallR) (pc : CallV) (w : World) (hr : RowL w rb 111 [.map (some mb), v, .int .i64 nses]) (hm : MapAt w mb f) (hf : f d.step.c = some (.pointer (some ⟨cb, 0, none⟩))) (hc : RowL w cb 196 [.int .i64 ses, .int .i64 num, at_]) (hk : d.micro = 2) (hat : at_ = .pointer (some ⟨pa, 0, none⟩)) :
  Calls Tryz.prog 104 #[.pointer (some ⟨rb, 0, none⟩), .int .i64 i, .agg (didC d p).toArray] w fun e w' => e = .returned (.bool false) /\ Below w.heap.size w w' := by
 have hb := below1 w (.cells (didC d p).toArray 42)
 have hr1 := hr.alloc (.cells (didC d p).toArray 42)
 have hc1 := hc.alloc (.cells (didC d p).toArray 42)
 have hm1 := hm.of_block (hb.block _ hm.lt)
 have hd := RowL.new w 42 (didC d p)
 obtain ⟨W1, hW1⟩ : ∃ W1, w.alloc (.cells (didC d p).toArray 42) = W1 := ⟨_, rfl⟩
 rw [hW1] at hb hr1 hm1 hd hc1
 have c1 : W1.drew.cell? ⟨w.heap.size, 1, none⟩ = some (.int .i64 d.step.c) := hd.cell (j := 1) rfl
 have c7 : W1.drew.cell? ⟨w.heap.size, 7, none⟩ = some (.int .i64 d.micro) := hd.cell (j := 7) rfl
 have r0 : W1.drew.cell? ⟨rb, 0, none⟩ = some (.map (some mb)) := hr1.cell (j := 0) rfl
 have k2 : W1.drew.cell? ⟨cb, 2, none⟩ = some at_ := hc1.cell (j := 2) rfl
 have hlk := lk_micro (w := W1.drew) (k := d.step.c) (u := .pointer (some ⟨cb, 0, none⟩)) (hm1.of_block rfl) (by rw [hf]; rfl)
 have HB := kp hb
 have HW := kp hW1
 clear hb hr1 hm1 hd hW1 hr hm hc hc1
 simp only [didC_A] at *
 simp only [didA] at *
 subst hat
 rw [hk] at *
 go_enter Tryz.func104, Tryz.ntmps104
 go_upto_region 1 with (fail)
 rw [HW.out]
 go_region_law (fail)
 all_goals
  go_wp2_with fail
  go_ret
  exact ⟨rfl, below_drewn HB.out⟩
theorem micro36_com_nil (rb mb cb pa : Nat) (v at_ : Value) (nses ses num : Int) (f : Int -> Option Value) (i : Nat) (d : DidR) (p : DidV) (cc : CallR) (pc : CallV) (w : World) (hr : RowL w rb 111 [.map (some mb), v, .int .i64 nses]) (hm : MapAt w mb f) (hf : f d.step.c = some (.pointer (some ⟨cb, 0, none⟩))) (hc : RowL w cb 196 [.int .i64 ses, .int .i64 num, at_]) (hk : d.micro = 3) (hat : at_ = .pointer none) :
  Calls Tryz.prog 104 #[.pointer (some ⟨rb, 0, none⟩), .int .i64 i, .agg (didC d p).toArray] w fun e w' => e = .returned (.bool false) /\ Below w.heap.size w w' := by
 have hb := below1 w (.cells (didC d p).toArray 42)
 have hr1 := hr.alloc (.cells (didC d p).toArray 42)
 have hc1 := hc.alloc (.cells (didC d p).toArray 42)
 have hm1 := hm.of_block (hb.block _ hm.lt)
 have hd := RowL.new w 42 (didC d p)
 obtain ⟨W1, hW1⟩ : ∃ W1, w.alloc (.cells (didC d p).toArray 42) = W1 := ⟨_, rfl⟩
 rw [hW1] at hb hr1 hm1 hd hc1
 have c1 : W1.drew.cell? ⟨w.heap.size, 1, none⟩ = some (.int .i64 d.step.c) := hd.cell (j := 1) rfl
 have c7 : W1.drew.cell? ⟨w.heap.size, 7, none⟩ = some (.int .i64 d.micro) := hd.cell (j := 7) rfl
 have r0 : W1.drew.cell? ⟨rb, 0, none⟩ = some (.map (some mb)) := hr1.cell (j := 0) rfl
 have k2 : W1.drew.cell? ⟨cb, 2, none⟩ = some at_ := hc1.cell (j := 2) rfl
 have hlk := lk_micro (w := W1.drew) (k := d.step.c) (u := .pointer (some ⟨cb, 0, none⟩)) (hm1.of_block rfl) (by rw [hf]; rfl)
 have HB := kp hb
 have HW := kp hW1
 clear hb hr1 hm1 hd hW1 hr hm hc hc1
 simp only [didC_A] at *
 simp only [didA] at *
 subst hat
 rw [hk] at *
 go_enter Tryz.func104, Tryz.ntmps104
 go_upto_region 1 with (fail)
 rw [HW.out]
 go_region_law (fail)
 all_goals
  go_wp2_with fail
  go_ret
  exact ⟨rfl, below_drewn HB.out⟩
theorem micro36_com_bad (rb mb cb pa : Nat) (v at_ : Value) (nses ses num : Int) (f : Int -> Option Value) (i : Nat) (d : DidR) (p : DidV) (cc : CallR) (pc : CallV) (w : World) (hr : RowL w rb 111 [.map (some mb), v, .int .i64 nses]) (hm : MapAt w mb f) (hf : f d.step.c = some (.pointer (some ⟨cb, 0, none⟩))) (hc : RowL w cb 196 [.int .i64 ses, .int .i64 num, at_]) (hk : d.micro = 3) (hat : at_ = .pointer (some ⟨pa, 0, none⟩)) (hbd : cc.bad = true) (hp : RowL w pa 52 (callC cc pc)) :
  Calls Tryz.prog 104 #[.pointer (some ⟨rb, 0, none⟩), .int .i64 i, .agg (didC d p).toArray] w fun e w' => e = .returned (.bool false) /\ Below w.heap.size w w' := by
 have hb := below1 w (.cells (didC d p).toArray 42)
 have hr1 := hr.alloc (.cells (didC d p).toArray 42)
 have hc1 := hc.alloc (.cells (didC d p).toArray 42)
 have hp1 := hp.alloc (.cells (didC d p).toArray 42)
 have hm1 := hm.of_block (hb.block _ hm.lt)
 have hd := RowL.new w 42 (didC d p)
 obtain ⟨W1, hW1⟩ : ∃ W1, w.alloc (.cells (didC d p).toArray 42) = W1 := ⟨_, rfl⟩
 rw [hW1] at hb hr1 hm1 hd hc1 hp1
 have c1 : W1.drew.cell? ⟨w.heap.size, 1, none⟩ = some (.int .i64 d.step.c) := hd.cell (j := 1) rfl
 have c7 : W1.drew.cell? ⟨w.heap.size, 7, none⟩ = some (.int .i64 d.micro) := hd.cell (j := 7) rfl
 have r0 : W1.drew.cell? ⟨rb, 0, none⟩ = some (.map (some mb)) := hr1.cell (j := 0) rfl
 have k2 : W1.drew.cell? ⟨cb, 2, none⟩ = some at_ := hc1.cell (j := 2) rfl
 have p2 : W1.drew.cell? ⟨pa, 2, none⟩ = some (.bool cc.bad) := hp1.cell (j := 2) rfl
 have hlk := lk_micro (w := W1.drew) (k := d.step.c) (u := .pointer (some ⟨cb, 0, none⟩)) (hm1.of_block rfl) (by rw [hf]; rfl)
 have HB := kp hb
 have HW := kp hW1
 clear hb hr1 hm1 hd hW1 hr hm hc hc1 hp hp1
 simp only [didC_A] at *
 simp only [didA] at *
 subst hat
 rw [hk] at *
 rw [hbd] at *
 go_enter Tryz.func104, Tryz.ntmps104
 go_upto_region 1 with (fail)
 rw [HW.out]
 go_region_law (fail)
 all_goals
  go_wp2_with fail
  go_ret
  exact ⟨rfl, below_drewn HB.out⟩
theorem micro36_com_done (rb mb cb pa : Nat) (v at_ : Value) (nses ses num : Int) (f : Int -> Option Value) (i : Nat) (d : DidR) (p : DidV) (cc : CallR) (pc : CallV) (w : World) (hr : RowL w rb 111 [.map (some mb), v, .int .i64 nses]) (hm : MapAt w mb f) (hf : f d.step.c = some (.pointer (some ⟨cb, 0, none⟩))) (hc : RowL w cb 196 [.int .i64 ses, .int .i64 num, at_]) (hk : d.micro = 3) (hat : at_ = .pointer (some ⟨pa, 0, none⟩)) (hbd : cc.bad = false) (hdn : decide (cc.done < 0) = false) (hdn2 : decide (0 <= cc.done) = true) (hp : RowL w pa 52 (callC cc pc)) :
  Calls Tryz.prog 104 #[.pointer (some ⟨rb, 0, none⟩), .int .i64 i, .agg (didC d p).toArray] w fun e w' => e = .returned (.bool false) /\ Below w.heap.size w w' := by
 have hb := below1 w (.cells (didC d p).toArray 42)
 have hr1 := hr.alloc (.cells (didC d p).toArray 42)
 have hc1 := hc.alloc (.cells (didC d p).toArray 42)
 have hp1 := hp.alloc (.cells (didC d p).toArray 42)
 have hm1 := hm.of_block (hb.block _ hm.lt)
 have hd := RowL.new w 42 (didC d p)
 obtain ⟨W1, hW1⟩ : ∃ W1, w.alloc (.cells (didC d p).toArray 42) = W1 := ⟨_, rfl⟩
 rw [hW1] at hb hr1 hm1 hd hc1 hp1
 have c1 : W1.drew.cell? ⟨w.heap.size, 1, none⟩ = some (.int .i64 d.step.c) := hd.cell (j := 1) rfl
 have c7 : W1.drew.cell? ⟨w.heap.size, 7, none⟩ = some (.int .i64 d.micro) := hd.cell (j := 7) rfl
 have r0 : W1.drew.cell? ⟨rb, 0, none⟩ = some (.map (some mb)) := hr1.cell (j := 0) rfl
 have k2 : W1.drew.cell? ⟨cb, 2, none⟩ = some at_ := hc1.cell (j := 2) rfl
 have p2 : W1.drew.cell? ⟨pa, 2, none⟩ = some (.bool cc.bad) := hp1.cell (j := 2) rfl
 have p20 : W1.drew.cell? ⟨pa, 20, none⟩ = some (.int .i64 cc.done) := hp1.cell (j := 20) rfl
 have hlk := lk_micro (w := W1.drew) (k := d.step.c) (u := .pointer (some ⟨cb, 0, none⟩)) (hm1.of_block rfl) (by rw [hf]; rfl)
 have HB := kp hb
 have HW := kp hW1
 clear hb hr1 hm1 hd hW1 hr hm hc hc1 hp hp1
 simp only [didC_A] at *
 simp only [didA] at *
 subst hat
 rw [hk] at *
 rw [hbd] at *
 go_enter Tryz.func104, Tryz.ntmps104
 go_upto_region 1 with (fail)
 rw [HW.out]
 go_region_law (fail)
 all_goals
  go_wp2_with fail
  go_ret
  exact ⟨rfl, below_drewn HB.out⟩
theorem micro36_wr_nil (rb mb cb pa : Nat) (v at_ : Value) (nses ses num : Int) (f : Int -> Option Value) (i : Nat) (d : DidR) (p : DidV) (cc : CallR) (pc : CallV) (w : World) (hr : RowL w rb 111 [.map (some mb), v, .int .i64 nses]) (hm : MapAt w mb f) (hf : f d.step.c = some (.pointer (some ⟨cb, 0, none⟩))) (hc : RowL w cb 196 [.int .i64 ses, .int .i64 num, at_]) (hk : d.micro = 4) (hat : at_ = .pointer none) :
  Calls Tryz.prog 104 #[.pointer (some ⟨rb, 0, none⟩), .int .i64 i, .agg (didC d p).toArray] w fun e w' => e = .returned (.bool false) /\ Below w.heap.size w w' := by
 have hb := below1 w (.cells (didC d p).toArray 42)
 have hr1 := hr.alloc (.cells (didC d p).toArray 42)
 have hc1 := hc.alloc (.cells (didC d p).toArray 42)
 have hm1 := hm.of_block (hb.block _ hm.lt)
 have hd := RowL.new w 42 (didC d p)
 obtain ⟨W1, hW1⟩ : ∃ W1, w.alloc (.cells (didC d p).toArray 42) = W1 := ⟨_, rfl⟩
 rw [hW1] at hb hr1 hm1 hd hc1
 have c1 : W1.drew.cell? ⟨w.heap.size, 1, none⟩ = some (.int .i64 d.step.c) := hd.cell (j := 1) rfl
 have c7 : W1.drew.cell? ⟨w.heap.size, 7, none⟩ = some (.int .i64 d.micro) := hd.cell (j := 7) rfl
 have r0 : W1.drew.cell? ⟨rb, 0, none⟩ = some (.map (some mb)) := hr1.cell (j := 0) rfl
 have k2 : W1.drew.cell? ⟨cb, 2, none⟩ = some at_ := hc1.cell (j := 2) rfl
 have hlk := lk_micro (w := W1.drew) (k := d.step.c) (u := .pointer (some ⟨cb, 0, none⟩)) (hm1.of_block rfl) (by rw [hf]; rfl)
 have HB := kp hb
 have HW := kp hW1
 clear hb hr1 hm1 hd hW1 hr hm hc hc1
 simp only [didC_A] at *
 simp only [didA] at *
 subst hat
 rw [hk] at *
 go_enter Tryz.func104, Tryz.ntmps104
 go_upto_region 1 with (fail)
 rw [HW.out]
 go_region_law (fail)
 all_goals
  go_wp2_with fail
  go_ret
  exact ⟨rfl, below_drewn HB.out⟩
theorem micro36_wr_pend (rb mb cb pa : Nat) (v at_ : Value) (nses ses num : Int) (f : Int -> Option Value) (i : Nat) (d : DidR) (p : DidV) (cc : CallR) (pc : CallV) (w : World) (hr : RowL w rb 111 [.map (some mb), v, .int .i64 nses]) (hm : MapAt w mb f) (hf : f d.step.c = some (.pointer (some ⟨cb, 0, none⟩))) (hc : RowL w cb 196 [.int .i64 ses, .int .i64 num, at_]) (hk : d.micro = 4) (hat : at_ = .pointer (some ⟨pa, 0, none⟩)) (hbd : cc.bad = false) (hdn : decide (cc.done < 0) = true) (hp : RowL w pa 52 (callC cc pc)) :
  Calls Tryz.prog 104 #[.pointer (some ⟨rb, 0, none⟩), .int .i64 i, .agg (didC d p).toArray] w fun e w' => e = .returned (.bool false) /\ Below w.heap.size w w' := by
 have hb := below1 w (.cells (didC d p).toArray 42)
 have hr1 := hr.alloc (.cells (didC d p).toArray 42)
 have hc1 := hc.alloc (.cells (didC d p).toArray 42)
 have hp1 := hp.alloc (.cells (didC d p).toArray 42)
 have hm1 := hm.of_block (hb.block _ hm.lt)
 have hd := RowL.new w 42 (didC d p)
 obtain ⟨W1, hW1⟩ : ∃ W1, w.alloc (.cells (didC d p).toArray 42) = W1 := ⟨_, rfl⟩
 rw [hW1] at hb hr1 hm1 hd hc1 hp1
 have c1 : W1.drew.cell? ⟨w.heap.size, 1, none⟩ = some (.int .i64 d.step.c) := hd.cell (j := 1) rfl
 have c7 : W1.drew.cell? ⟨w.heap.size, 7, none⟩ = some (.int .i64 d.micro) := hd.cell (j := 7) rfl
 have r0 : W1.drew.cell? ⟨rb, 0, none⟩ = some (.map (some mb)) := hr1.cell (j := 0) rfl
 have k2 : W1.drew.cell? ⟨cb, 2, none⟩ = some at_ := hc1.cell (j := 2) rfl
 have p2 : W1.drew.cell? ⟨pa, 2, none⟩ = some (.bool cc.bad) := hp1.cell (j := 2) rfl
 have p20 : W1.drew.cell? ⟨pa, 20, none⟩ = some (.int .i64 cc.done) := hp1.cell (j := 20) rfl
 have hlk := lk_micro (w := W1.drew) (k := d.step.c) (u := .pointer (some ⟨cb, 0, none⟩)) (hm1.of_block rfl) (by rw [hf]; rfl)
 have HB := kp hb
 have HW := kp hW1
 clear hb hr1 hm1 hd hW1 hr hm hc hc1 hp hp1
 simp only [didC_A] at *
 simp only [didA] at *
 subst hat
 rw [hk] at *
 rw [hbd] at *
 go_enter Tryz.func104, Tryz.ntmps104
 go_upto_region 1 with (fail)
 rw [HW.out]
 go_region_law (fail)
 all_goals
  go_wp2_with fail
  go_ret
  exact ⟨rfl, below_drewn HB.out⟩
theorem micro36_other (rb mb cb pa : Nat) (v at_ : Value) (nses ses num : Int) (f : Int -> Option Value) (i : Nat) (d : DidR) (p : DidV) (cc : CallR) (pc : CallV) (w : World) (hr : RowL w rb 111 [.map (some mb), v, .int .i64 nses]) (hm : MapAt w mb f) (hf : f d.step.c = some (.pointer (some ⟨cb, 0, none⟩))) (hc : RowL w cb 196 [.int .i64 ses, .int .i64 num, at_]) (hk1 : (d.micro == 1) = false) (hk2 : (d.micro == 2) = false) (hk3 : (d.micro == 3) = false) (hk4 : (d.micro == 4) = false) :
  Calls Tryz.prog 104 #[.pointer (some ⟨rb, 0, none⟩), .int .i64 i, .agg (didC d p).toArray] w fun e w' => e = .returned (.bool true) /\ Below w.heap.size w w' := by
 have hb := below1 w (.cells (didC d p).toArray 42)
 have hr1 := hr.alloc (.cells (didC d p).toArray 42)
 have hc1 := hc.alloc (.cells (didC d p).toArray 42)
 have hm1 := hm.of_block (hb.block _ hm.lt)
 have hd := RowL.new w 42 (didC d p)
 obtain ⟨W1, hW1⟩ : ∃ W1, w.alloc (.cells (didC d p).toArray 42) = W1 := ⟨_, rfl⟩
 rw [hW1] at hb hr1 hm1 hd hc1
 have c1 : W1.drew.cell? ⟨w.heap.size, 1, none⟩ = some (.int .i64 d.step.c) := hd.cell (j := 1) rfl
 have c7 : W1.drew.cell? ⟨w.heap.size, 7, none⟩ = some (.int .i64 d.micro) := hd.cell (j := 7) rfl
 have r0 : W1.drew.cell? ⟨rb, 0, none⟩ = some (.map (some mb)) := hr1.cell (j := 0) rfl
 have k2 : W1.drew.cell? ⟨cb, 2, none⟩ = some at_ := hc1.cell (j := 2) rfl
 have hlk := lk_micro (w := W1.drew) (k := d.step.c) (u := .pointer (some ⟨cb, 0, none⟩)) (hm1.of_block rfl) (by rw [hf]; rfl)
 have HB := kp hb
 have HW := kp hW1
 clear hb hr1 hm1 hd hW1 hr hm hc hc1
 simp only [didC_A] at *
 simp only [didA] at *
 go_enter Tryz.func104, Tryz.ntmps104
 go_upto_region 1 with (fail)
 rw [HW.out]
 go_region_law (fail)
 all_goals
  go_wp2_with fail
  go_ret
  exact ⟨rfl, below_drewn HB.out⟩
end Go.Proofs.YtnjhpgmbfblgaaaGreat.Ord
