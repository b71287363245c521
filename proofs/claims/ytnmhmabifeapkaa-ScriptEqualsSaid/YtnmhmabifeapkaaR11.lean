/- Walk of frame.Write. -/
import Derived.Test.YtnmhmabifeapkaaR10
import Derived.Test.YtnmhmabifeapkaaB9
namespace Go.Proofs.Ytnmhmabifeapkaa.Ord
open Go.RowKit
set_option linter.unusedVariables false

theorem f109_name : (Try.f109.name == "runtime.NumGoroutine") = false := by kernel_rfl
theorem f109_body : Try.f109.body.isSome = true := by kernel_rfl

set_option maxRecDepth 100000 in
theorem length_any (code : Int) (A : Option Addr) (k c : Nat) (w : World) (hl : k ≤ 2000) : Calls Try.prog 108 #[.agg #[.int .u8 code, .slice A k c]] w fun e w' => e = .returned (.tuple #[.int .i64 ((k + 1 : Nat) : Int), .int .i64 0]) ∧ Below w.heap.size w w' := by
  have hb := below1 w (.cells #[.int .u8 code, .slice A k c] 111)
  have g : decide ((2097152 : Int) < (k : Int)) = false := by simp; omega
  go_enter Try.func108, Try.ntmps108
  go_wp2_with fail
  go_ret2
  exact ⟨by simp, hb⟩

set_option maxRecDepth 100000 in
set_option maxHeartbeats 8000000 in
theorem frame_any (code : Int) (A : Option Addr) (k c : Nat) (xs : List Int) (w : World) (hk : xs.length = k) (hl : k ≤ 1000) (hA : Byt w w.heap.size A c xs) :
    Calls Try.prog 78 #[.agg #[.int .u8 code, .slice A k c]] w fun e w' => ∃ v, e = .returned (.tuple #[v, .int .i64 0]) ∧ Own8 w' w.heap.size v (putV (k + 1) ++ [code] ++ xs) ∧ Below w.heap.size w w' := by
  have hb1 := below1 w (.cells #[.int .u8 code, .slice A k c] 111)
  have hB1 := row_list w [.int .u8 code, .slice A k c] 111
  go_enter Try.func78, Try.ntmps78
  go_wp2_with fail
  refine (length_any code A k c _ (by omega)).mono ?_
  rintro e w2 ⟨rfl, hb2⟩
  have hB2 := World.rowIs.of_block hB1 (hb2.block _ (by simp))
  have hb02 := hb1.trans (hb2.mono (by simp))
  have hA2 := (hA.below hb02 (Nat.le_refl _)).mono hb02.size
  have hs2 : w.heap.size < w2.heap.size := World.rowIs.lt hB2
  clear hB1 hb1 hb2
  have h20 : w2.cell? ⟨w.heap.size, 0, none⟩ = some (.int .u8 code) := World.rowIs.cell hB2 (i := 0) (by simp)
  have h21 : w2.cell? ⟨w.heap.size, 1, none⟩ = some (.slice A k c) := World.rowIs.cell hB2 (i := 1) (by simp)
  have HB2 := Lib.hid hB2
  have HA2 := Lib.hid hA2
  clear hB2 hA2
  go_wp2_with fail
  have hS0 : (fun W : World => W.cell? ⟨w.heap.size, 0, none⟩ = some (.int .u8 code) ∧ W.cell? ⟨w.heap.size, 1, none⟩ = some (.slice A k c)) w2.drew := ⟨h20, h21⟩
  refine wp_region_held (S := fun W : World => W.cell? ⟨w.heap.size, 0, none⟩ = some (.int .u8 code) ∧ W.cell? ⟨w.heap.size, 1, none⟩ = some (.slice A k c)) (by kernel_rfl) ?_
  change wpAnyH _ _ _ _ _ _ _ _ (World.drew _)
  refine wpAnyH_take (i := 0) (oi := { dst := some 14, op := Op.move (Operand.tmp 4), type := 3, pos := "frame.go:37", after := #[], guard := none }) (v := ?_) rfl (by kernel_rfl) (by kernel_rfl) (by kernel_rfl) (fun _ _ _ h => h) (Or.inl ⟨by rfl, ?_⟩) hS0 ?_
  rotate_left 1
  · intro W hW; go_simp; try with_reducible rfl
  refine wpAnyH_take (i := 1) (oi := { dst := some 15, op := Op.convert 3 42 (Operand.tmp 14), type := 42, pos := "frame.go:37", after := #[{ on := 0, ground := Ground.data }], guard := none }) (v := ?_) rfl (by kernel_rfl) (by kernel_rfl) (by kernel_rfl) (fun _ _ _ h => h) (Or.inl ⟨by rfl, ?_⟩) hS0 ?_
  rotate_left 1
  · intro W hW; go_simp; try with_reducible rfl
  refine wpAnyH_take (i := 3) (oi := { dst := some 17, op := Op.fieldAddr 111 (Operand.tmp 1) 0, type := 0, pos := "frame.go:37", after := #[], guard := none }) (v := ?_) rfl (by kernel_rfl) (by kernel_rfl) (by kernel_rfl) (fun _ _ _ h => h) (Or.inl ⟨by rfl, ?_⟩) hS0 ?_
  rotate_left 1
  · intro W hW; go_simp; try with_reducible rfl
  refine wpAnyH_take (i := 4) (oi := { dst := some 18, op := Op.load 5 (Operand.tmp 17), type := 5, pos := "frame.go:37", after := #[{ on := 3, ground := Ground.data }], guard := none }) (v := ?_) rfl (by kernel_rfl) (by kernel_rfl) (by kernel_rfl) (fun _ _ _ h => h) (Or.inl ⟨by rfl, ?_⟩) hS0 ?_
  rotate_left 1
  · intro W hW; have hx := hW.1; go_simp; try with_reducible rfl
  refine wpAnyH_take (i := 7) (oi := { dst := some 21, op := Op.fieldAddr 111 (Operand.tmp 1) 1, type := 0, pos := "frame.go:37", after := #[], guard := none }) (v := ?_) rfl (by kernel_rfl) (by kernel_rfl) (by kernel_rfl) (fun _ _ _ h => h) (Or.inl ⟨by rfl, ?_⟩) hS0 ?_
  rotate_left 1
  · intro W hW; go_simp; try with_reducible rfl
  refine wpAnyH_take (i := 8) (oi := { dst := some 22, op := Op.load 22 (Operand.tmp 21), type := 22, pos := "frame.go:37", after := #[{ on := 7, ground := Ground.data }], guard := none }) (v := ?_) rfl (by kernel_rfl) (by kernel_rfl) (by kernel_rfl) (fun _ _ _ h => h) (Or.inl ⟨by rfl, ?_⟩) hS0 ?_
  rotate_left 1
  · intro W hW; have hx := hW.2; go_simp; try with_reducible rfl
  refine wpAnyH_all (rs := [2, 5]) (by kernel_rfl) (by simp) ?_
  have hpl2 : ([] ++ putV (k + 1)).length ≤ 10 := by simpa using putV_len10 (n := k + 1) (by omega)
  have hwrap : IntKind.u64.wrap ((k : Int) + 1) = ((k + 1 : Nat) : Int) := by rw [IntKind.wrap_u64]; omega
  have hpl := putV_len10 (n := k + 1) (by omega)
  have rowS : ∀ W : World, W.rowIs w.heap.size 111 2 (listF [.int .u8 code, .slice A k c]) → (fun W : World => W.cell? ⟨w.heap.size, 0, none⟩ = some (.int .u8 code) ∧ W.cell? ⟨w.heap.size, 1, none⟩ = some (.slice A k c)) W := fun W h => ⟨World.rowIs.cell h (i := 0) (by decide), World.rowIs.cell h (i := 1) (by decide)⟩
  have hBd : w2.drew.rowIs w.heap.size 111 2 (listF [.int .u8 code, .slice A k c]) := HB2.out
  have hbd : Below w.heap.size w w2.drew := ⟨hb02.os, hb02.tape, hb02.output, hb02.size, hb02.block⟩
  have hAd : Byt w2.drew w2.drew.heap.size A c xs := HA2.out
  intro i hi
  simp at hi
  rcases hi with rfl | rfl
  · refine wpOp_step (o := { dst := some 16, op := Op.call { callee := Callee.value (Operand.func 109), args := #[Operand.const (Value.slice none 0 0), Operand.tmp 15], argTypes := #[22, 42] }, type := 22, pos := "frame.go:37", after := #[{ on := 1, ground := Ground.data }], guard := none }) rfl (fun K hK => ?_)
    with_reducible refine step_call_any rfl 109 _ _ rfl #[.slice none 0 0, .int .u64 ((k + 1 : Nat) : Int)] ?_ Try.f109 Try.func109 f109_name f109_body _ (put_any none 0 0 [] (k + 1) _ rfl (by omega) (by omega) (Byt.nil _ _)) ?_
    · simp only [List.map_toArray, List.map_cons, List.map_nil]
      first
      | rfl
      | (show #[Value.slice none 0 0, .int .u64 (IntKind.u64.wrap ((k : Int) + 1))] = _; rw [hwrap])
    rintro u3 w3 ⟨hown3, hb3⟩
    obtain ⟨A3, c3, rfl, hby3⟩ := hown3.val
    have hB3 := World.rowIs.of_block hBd (hb3.block _ (World.rowIs.lt hBd))
    refine hK _ _ ⟨rowS _ hB3, ?_⟩
    clear hK K
    simp only [Act.put, List.setIfInBounds_toArray, List.set_cons_succ, List.set_cons_zero]
    refine wpAnyH_all (rs := [5]) (by kernel_rfl) (by simp) ?_
    intro i hi
    obtain rfl : i = 5 := by simpa using hi
    refine wpOp_step (o := { dst := some 19, op := Op.buildSlice 22 1 #[(0, Operand.tmp 18)], type := 22, pos := "frame.go:37", after := #[{ on := 4, ground := Ground.data }], guard := none }) rfl (fun K hK => ?_)
    go_simp
    refine hK _ _ ⟨rowS _ (World.rowIs.alloc hB3 _), ?_⟩
    clear hK K
    have hb03 : Below w.heap.size w w3 := hbd.trans (hb3.mono hbd.size)
    have hA3 := (hAd.below hb3 (Nat.le_refl _)).mono hb3.size
    have hs2d : w.heap.size + 1 ≤ w2.drew.heap.size := hs2
    have HO := Lib.hid (owns_mono (World.ownsRow.alloc hown3.raw (.cells #[.int .u8 code] 5)) hs2d)
    have HS : Src (w3.alloc (.cells #[.int .u8 code] 5)) (some ⟨w3.heap.size, 0, none⟩) 1 1 [.int .u8 code] := .inr ⟨_, rfl, fun j u hj => by
      match j with
      | 0 => simp at hj; subst hj; simp [Addr.add]
      | j + 1 => simp at hj⟩
    have hbW : Below w.heap.size w (w3.alloc (.cells #[.int .u8 code] 5)) := hb03.trans ((below1 w3 _).mono hb03.size)
    have hbW1 : w.heap.size + 1 ≤ (w3.alloc (.cells #[.int .u8 code] 5)).heap.size := World.rowIs.lt (World.rowIs.alloc hB3 _)
    refine wpAnyH_all (rs := [6]) (by kernel_rfl) (by simp) ?_
    intro i hi
    obtain rfl : i = 6 := by simpa using hi
    refine wpOp_step (o := { dst := some 20, op := Op.call { callee := Callee.builtin Builtin.append, args := #[Operand.tmp 16, Operand.tmp 19], argTypes := #[22, 22] }, type := 22, pos := "frame.go:37", after := #[{ on := 2, ground := Ground.data }, { on := 5, ground := Ground.data }, { on := 2, ground := Ground.chain }], guard := none }) rfl (fun K hK => ?_)
    with_reducible refine step_append_src rfl _ _ 22 rfl (w.heap.size + 1) 5 (.int .u8 0) 1 1 Try.underlying22 Try.info5 rfl (by decide) _ _ _ ?_ HO.out _ 1 1 [.int .u8 code] ?_ ?_ HS ?_ ?_ ?_ hbW1 ?_
    · rfl
    · rfl
    · rfl
    · simp [Value.oneCell']
    · unfold maxLen; omega
    · omega
    intro v5 w5 hown5 hb5
    have hB5 := World.rowIs.of_block (World.rowIs.alloc hB3 _) (hb5.block _ (by omega))
    refine hK _ _ ⟨rowS _ hB5, ?_⟩
    clear hK K
    simp only [Act.put, List.setIfInBounds_toArray, List.set_cons_succ, List.set_cons_zero]
    have hb05 := hbW.trans (hb5.mono (by omega))
    have HO5 := Lib.hid hown5
    have HS5 := Lib.hid (show Src w5 A k c (xs.map (Value.int .u8)) by have h := (hA.below hb05 (Nat.le_refl _)).src; rw [hk] at h; exact h)
    have HZ5 := Lib.hid (show w.heap.size + 1 ≤ w5.heap.size from World.rowIs.lt hB5)
    refine wpAnyH_all (rs := [9]) (by kernel_rfl) (by simp) ?_
    intro i hi
    obtain rfl : i = 9 := by simpa using hi
    refine wpOp_step (o := { dst := some 23, op := Op.call { callee := Callee.builtin Builtin.append, args := #[Operand.tmp 20, Operand.tmp 22], argTypes := #[22, 22] }, type := 22, pos := "frame.go:37", after := #[{ on := 6, ground := Ground.data }, { on := 8, ground := Ground.data }, { on := 6, ground := Ground.chain }], guard := none }) rfl (fun K hK => ?_)
    with_reducible refine step_append_src rfl _ _ 22 rfl (w.heap.size + 1) 5 (.int .u8 0) 1 1 Try.underlying22 Try.info5 rfl (by decide) _ _ _ ?_ HO5.out A k c (xs.map (Value.int .u8)) ?_ ?_ HS5.out (bytes_one _) ?_ ?_ HZ5.out ?_
    · rfl
    · rfl
    · simp [hk]
    · unfold maxLen; omega
    · omega
    intro v6 w6 hown6 hb6
    have hB6 := World.rowIs.of_block hB5 (hb6.block _ (by omega))
    have hS6 := rowS _ hB6
    refine hK _ _ ⟨hS6, ?_⟩
    clear hK K
    simp only [Act.put, List.setIfInBounds_toArray, List.set_cons_succ, List.set_cons_zero]
    refine wpAnyH_take (i := 10) (oi := { dst := some 2, op := Op.assign (Operand.tmp 23), type := 22, pos := "frame.go:37", after := #[{ on := 9, ground := Ground.data }, { on := 9, ground := Ground.chain }, { on := 0, ground := Ground.phase }, { on := 1, ground := Ground.phase }, { on := 2, ground := Ground.phase }, { on := 3, ground := Ground.phase }, { on := 4, ground := Ground.phase }, { on := 5, ground := Ground.phase }, { on := 6, ground := Ground.phase }, { on := 7, ground := Ground.phase }, { on := 8, ground := Ground.phase }, { on := 9, ground := Ground.phase }], guard := none }) (v := ?_) rfl (by kernel_rfl) (by kernel_rfl) (by kernel_rfl) (fun _ _ _ h => h) (Or.inl ⟨by rfl, ?_⟩) hS6 ?_
    rotate_left 1
    · intro W hW; go_simp; try with_reducible rfl
    refine wpAnyH_take (i := 11) (oi := { dst := some 3, op := Op.assign (Operand.const (Value.int IntKind.i64 0)), type := 25, pos := "frame.go:37", after := #[{ on := 10, ground := Ground.chain }, { on := 0, ground := Ground.phase }, { on := 1, ground := Ground.phase }, { on := 2, ground := Ground.phase }, { on := 3, ground := Ground.phase }, { on := 4, ground := Ground.phase }, { on := 5, ground := Ground.phase }, { on := 6, ground := Ground.phase }, { on := 7, ground := Ground.phase }, { on := 8, ground := Ground.phase }, { on := 9, ground := Ground.phase }, { on := 10, ground := Ground.phase }], guard := none }) (v := ?_) rfl (by kernel_rfl) (by kernel_rfl) (by kernel_rfl) (fun _ _ _ h => h) (Or.inl ⟨by rfl, ?_⟩) hS6 ?_
    rotate_left 1
    · intro W hW; go_simp; try with_reducible rfl
    refine wpAnyH_done (by kernel_rfl) ?_ _
    simp only [Act.put, List.setIfInBounds_toArray, List.set_cons_succ, List.set_cons_zero]
    go_wp2_with fail
    go_ret2
    refine ⟨v6, rfl, ?_, hb05.trans (hb6.mono (by omega))⟩
    unfold Own8
    have := owns_mono hown6 (show w.heap.size ≤ w.heap.size + 1 by omega)
    simpa [hk, Nat.add_assoc, Nat.add_comm 1 k] using this
  · refine wpOp_step (o := { dst := some 19, op := Op.buildSlice 22 1 #[(0, Operand.tmp 18)], type := 22, pos := "frame.go:37", after := #[{ on := 4, ground := Ground.data }], guard := none }) rfl (fun K hK => ?_)
    go_simp
    have hBa := World.rowIs.alloc hBd (.cells #[.int .u8 code] 5)
    refine hK _ _ ⟨rowS _ hBa, ?_⟩
    clear hK K
    refine wpAnyH_all (rs := [2]) (by kernel_rfl) (by simp) ?_
    intro i hi
    obtain rfl : i = 2 := by simpa using hi
    refine wpOp_step (o := { dst := some 16, op := Op.call { callee := Callee.value (Operand.func 109), args := #[Operand.const (Value.slice none 0 0), Operand.tmp 15], argTypes := #[22, 42] }, type := 22, pos := "frame.go:37", after := #[{ on := 1, ground := Ground.data }], guard := none }) rfl (fun K hK => ?_)
    with_reducible refine step_call_any rfl 109 _ _ rfl #[.slice none 0 0, .int .u64 ((k + 1 : Nat) : Int)] ?_ Try.f109 Try.func109 f109_name f109_body _ (put_any none 0 0 [] (k + 1) _ rfl (by omega) (by omega) (Byt.nil _ _)) ?_
    · simp only [List.map_toArray, List.map_cons, List.map_nil]
      first
      | rfl
      | (show #[Value.slice none 0 0, .int .u64 (IntKind.u64.wrap ((k : Int) + 1))] = _; rw [hwrap])
    rintro u3 w3 ⟨hown3, hb3⟩
    obtain ⟨A3, c3, rfl, hby3⟩ := hown3.val
    have hB3 := World.rowIs.of_block hBa (hb3.block _ (World.rowIs.lt hBa))
    refine hK _ _ ⟨rowS _ hB3, ?_⟩
    clear hK K
    simp only [Act.put, List.setIfInBounds_toArray, List.set_cons_succ, List.set_cons_zero]
    have hba := below1 w2.drew (.cells #[.int .u8 code] 5)
    have hb03 : Below w.heap.size w w3 := (hbd.trans (hba.mono hbd.size)).trans (hb3.mono (by have := hbd.size; simp; omega))
    have hs2d : w.heap.size + 1 ≤ (w2.drew.alloc (.cells #[.int .u8 code] 5)).heap.size := by have : w.heap.size < w2.drew.heap.size := hs2; simp; omega
    have HO := Lib.hid (owns_mono hown3.raw hs2d)
    have HS : Src w3 (some ⟨w2.drew.heap.size, 0, none⟩) 1 1 [.int .u8 code] := .inr ⟨_, rfl, fun j u hj => by
      match j with
      | 0 =>
        simp at hj; subst hj
        rw [hb3.cell (p := (⟨w2.drew.heap.size, 0, none⟩ : Addr).add 0) (by simp [Addr.add])]
        simp [Addr.add]
      | j + 1 => simp at hj⟩
    have hbW : Below w.heap.size w (w3) := hb03
    have hbW1 : w.heap.size + 1 ≤ (w3).heap.size := World.rowIs.lt hB3
    refine wpAnyH_all (rs := [6]) (by kernel_rfl) (by simp) ?_
    intro i hi
    obtain rfl : i = 6 := by simpa using hi
    refine wpOp_step (o := { dst := some 20, op := Op.call { callee := Callee.builtin Builtin.append, args := #[Operand.tmp 16, Operand.tmp 19], argTypes := #[22, 22] }, type := 22, pos := "frame.go:37", after := #[{ on := 2, ground := Ground.data }, { on := 5, ground := Ground.data }, { on := 2, ground := Ground.chain }], guard := none }) rfl (fun K hK => ?_)
    with_reducible refine step_append_src rfl _ _ 22 rfl (w.heap.size + 1) 5 (.int .u8 0) 1 1 Try.underlying22 Try.info5 rfl (by decide) _ _ _ ?_ HO.out _ 1 1 [.int .u8 code] ?_ ?_ HS ?_ ?_ ?_ hbW1 ?_
    · rfl
    · rfl
    · rfl
    · simp [Value.oneCell']
    · unfold maxLen; omega
    · omega
    intro v5 w5 hown5 hb5
    have hB5 := World.rowIs.of_block hB3 (hb5.block _ (by omega))
    refine hK _ _ ⟨rowS _ hB5, ?_⟩
    clear hK K
    simp only [Act.put, List.setIfInBounds_toArray, List.set_cons_succ, List.set_cons_zero]
    have hb05 := hbW.trans (hb5.mono (by omega))
    have HO5 := Lib.hid hown5
    have HS5 := Lib.hid (show Src w5 A k c (xs.map (Value.int .u8)) by have h := (hA.below hb05 (Nat.le_refl _)).src; rw [hk] at h; exact h)
    have HZ5 := Lib.hid (show w.heap.size + 1 ≤ w5.heap.size from World.rowIs.lt hB5)
    refine wpAnyH_all (rs := [9]) (by kernel_rfl) (by simp) ?_
    intro i hi
    obtain rfl : i = 9 := by simpa using hi
    refine wpOp_step (o := { dst := some 23, op := Op.call { callee := Callee.builtin Builtin.append, args := #[Operand.tmp 20, Operand.tmp 22], argTypes := #[22, 22] }, type := 22, pos := "frame.go:37", after := #[{ on := 6, ground := Ground.data }, { on := 8, ground := Ground.data }, { on := 6, ground := Ground.chain }], guard := none }) rfl (fun K hK => ?_)
    with_reducible refine step_append_src rfl _ _ 22 rfl (w.heap.size + 1) 5 (.int .u8 0) 1 1 Try.underlying22 Try.info5 rfl (by decide) _ _ _ ?_ HO5.out A k c (xs.map (Value.int .u8)) ?_ ?_ HS5.out (bytes_one _) ?_ ?_ HZ5.out ?_
    · rfl
    · rfl
    · simp [hk]
    · unfold maxLen; omega
    · omega
    intro v6 w6 hown6 hb6
    have hB6 := World.rowIs.of_block hB5 (hb6.block _ (by omega))
    have hS6 := rowS _ hB6
    refine hK _ _ ⟨hS6, ?_⟩
    clear hK K
    simp only [Act.put, List.setIfInBounds_toArray, List.set_cons_succ, List.set_cons_zero]
    refine wpAnyH_take (i := 10) (oi := { dst := some 2, op := Op.assign (Operand.tmp 23), type := 22, pos := "frame.go:37", after := #[{ on := 9, ground := Ground.data }, { on := 9, ground := Ground.chain }, { on := 0, ground := Ground.phase }, { on := 1, ground := Ground.phase }, { on := 2, ground := Ground.phase }, { on := 3, ground := Ground.phase }, { on := 4, ground := Ground.phase }, { on := 5, ground := Ground.phase }, { on := 6, ground := Ground.phase }, { on := 7, ground := Ground.phase }, { on := 8, ground := Ground.phase }, { on := 9, ground := Ground.phase }], guard := none }) (v := ?_) rfl (by kernel_rfl) (by kernel_rfl) (by kernel_rfl) (fun _ _ _ h => h) (Or.inl ⟨by rfl, ?_⟩) hS6 ?_
    rotate_left 1
    · intro W hW; go_simp; try with_reducible rfl
    refine wpAnyH_take (i := 11) (oi := { dst := some 3, op := Op.assign (Operand.const (Value.int IntKind.i64 0)), type := 25, pos := "frame.go:37", after := #[{ on := 10, ground := Ground.chain }, { on := 0, ground := Ground.phase }, { on := 1, ground := Ground.phase }, { on := 2, ground := Ground.phase }, { on := 3, ground := Ground.phase }, { on := 4, ground := Ground.phase }, { on := 5, ground := Ground.phase }, { on := 6, ground := Ground.phase }, { on := 7, ground := Ground.phase }, { on := 8, ground := Ground.phase }, { on := 9, ground := Ground.phase }, { on := 10, ground := Ground.phase }], guard := none }) (v := ?_) rfl (by kernel_rfl) (by kernel_rfl) (by kernel_rfl) (fun _ _ _ h => h) (Or.inl ⟨by rfl, ?_⟩) hS6 ?_
    rotate_left 1
    · intro W hW; go_simp; try with_reducible rfl
    refine wpAnyH_done (by kernel_rfl) ?_ _
    simp only [Act.put, List.setIfInBounds_toArray, List.set_cons_succ, List.set_cons_zero]
    go_wp2_with fail
    go_ret2
    refine ⟨v6, rfl, ?_, hb05.trans (hb6.mono (by omega))⟩
    unfold Own8
    have := owns_mono hown6 (show w.heap.size ≤ w.heap.size + 1 by omega)
    simpa [hk, Nat.add_assoc, Nat.add_comm 1 k] using this
end Go.Proofs.Ytnmhmabifeapkaa.Ord
