/- Walk of the law's known. -/
import Derived.Test.YtnmhmabifeapkaaP4
import Derived.Test.YtnmhmabifeapkaaB9
namespace Go.Proofs.Ytnmhmabifeapkaa.Ord
open Go.RowKit Go.Sort
set_option linter.unusedVariables false

theorem b01 (w : World) : Calls Try.prog 28 #[g0.val, g1.val] w fun e w' => e = .returned (.bool false) ∧ RowKit.Below w.heap.size w w' := by have := before_any g0 g1 w; rwa [ex01] at this
theorem b12 (w : World) : Calls Try.prog 28 #[g1.val, g2.val] w fun e w' => e = .returned (.bool true) ∧ RowKit.Below w.heap.size w w' := by have := before_any g1 g2 w; rwa [ex12] at this
theorem b02 (w : World) : Calls Try.prog 28 #[g0.val, g2.val] w fun e w' => e = .returned (.bool true) ∧ RowKit.Below w.heap.size w w' := by have := before_any g0 g2 w; rwa [ex02] at this
theorem b20 (w : World) : Calls Try.prog 28 #[g2.val, g0.val] w fun e w' => e = .returned (.bool false) ∧ RowKit.Below w.heap.size w w' := by have := before_any g2 g0 w; rwa [ex20] at this
theorem b03 (w : World) : Calls Try.prog 28 #[g0.val, g3.val] w fun e w' => e = .returned (.bool false) ∧ RowKit.Below w.heap.size w w' := by have := before_any g0 g3 w; rwa [ex03] at this
theorem given_at {w : World} {B g : Nat} (h : CallsAt w B (some ⟨g, 0, none⟩) given4) : g < B ∧ CellsAt w ⟨g, 0, none⟩ g0.cells ∧ CellsAt w ⟨g, 23, none⟩ g1.cells ∧ CellsAt w ⟨g, 46, none⟩ g2.cells ∧ CellsAt w ⟨g, 69, none⟩ g3.cells := by
  have key : ∀ i, i < 4 → g < B ∧ ∀ c, given4[i]? = some c → CellsAt w ⟨g, 0 + i * 23, none⟩ c.cells := fun i hi => by
    obtain ⟨_, _, e1, h2, h3⟩ := h i hi
    cases e1
    exact ⟨h2, h3⟩
  exact ⟨(key 0 (by decide)).1, (key 0 (by decide)).2 g0 rfl, (key 1 (by decide)).2 g1 rfl, (key 2 (by decide)).2 g2 rfl, (key 3 (by decide)).2 g3 rfl⟩


theorem kcommits {w : World} {A : Option Addr} (hA : CallsAt w w.heap.size A given4) : Calls Try.prog 25 #[.slice A 4 4] w fun e w' => ∃ v, e = .returned (.tuple #[v, .int .i64 0]) ∧ (∃ A' c, v = .slice A' 3 c ∧ IntsAt w' w'.heap.size A' [1, 0, 2]) ∧ RowKit.Below w.heap.size w w' := by
  refine (commits_any A given4 4 w (by decide) hA).mono fun e w' h => ?_
  obtain ⟨v, he, hown⟩ := h.1 [1, 0, 2] exk
  obtain ⟨A', c, rfl⟩ := owns_len hown
  exact ⟨_, he, ⟨A', c, rfl, IntsAt.of_owns (xs := [1, 0, 2]) hown⟩, h.2.2⟩
theorem kcommits2 {w : World} {A : Option Addr} {c : Nat} (hA : CallsAt w w.heap.size A [g0, g0]) : Calls Try.prog 25 #[.slice A 2 c] w fun e w' => e = .returned (.tuple #[.slice none 0 0, .int .i64 2]) ∧ RowKit.Below w.heap.size w w' := by
  refine (commits_any A [g0, g0] c w (by decide) hA).mono fun e w' h => ⟨h.2.1 exk2, h.2.2⟩
theorem ints_alloc (xs : List Int) (w : World) : IntsAt (w.alloc (.cells (xs.map (Value.int .i64)).toArray 3)) (w.alloc (.cells (xs.map (Value.int .i64)).toArray 3)).heap.size (some ⟨w.heap.size, 0, none⟩) xs := by
  intro i hi
  refine ⟨w.heap.size, 0, rfl, by simp, fun x hx => ?_⟩
  rw [World.cell?_alloc_at _ _ _ _ rfl]
  simp [hx]
theorem kints {w : World} {A : Option Addr} {c : Nat} (hI : IntsAt w w.heap.size A [1, 0, 2]) :
    Calls Try.prog 27 #[.slice A 3 c, .slice (some ⟨w.heap.size, 0, none⟩) 3 3] (w.alloc (.cells #[.int .i64 1, .int .i64 0, .int .i64 2] 3)) fun e w' => e = .returned (.bool true) ∧ RowKit.Below w.heap.size w w' := by
  have hb := below1 w (.cells #[.int .i64 1, .int .i64 0, .int .i64 2] 3)
  refine (ints_any A (some ⟨w.heap.size, 0, none⟩) [1, 0, 2] [1, 0, 2] c 3 _ (by decide) (by decide) ((hI.below hb (Nat.le_refl _)).mono hb.size) (ints_alloc [1, 0, 2] w)).mono fun e w' h => ⟨h.1, hb.trans (h.2.mono hb.size)⟩
theorem kcons {w : World} {g : Nat} {xs : List Int} {want : Bool} {no : Int} {n : Nat} (hv : consV given4 xs want no = true) (hn : xs.length = n) (hn5 : n ≤ 5000) (hA : CallsAt w w.heap.size (some ⟨g, 0, none⟩) given4) :
    Calls Try.prog 31 #[.slice (some ⟨g, 0, none⟩) 4 4, .bool want, .int .i64 no, .slice (some ⟨w.heap.size, 0, none⟩) n n] (w.alloc (.cells (xs.map (Value.int .i64)).toArray 3)) fun e w' => e = .returned (.bool true) ∧ RowKit.Below w.heap.size w w' := by
  subst hn
  have hb := below1 w (.cells (xs.map (Value.int .i64)).toArray 3)
  refine (consistent_any (some ⟨g, 0, none⟩) _ given4 xs want no 4 xs.length _ (Nat.le_refl _) (by decide) hn5 ((hA.below hb (Nat.le_refl _)).mono hb.size) (ints_alloc xs w)).mono fun e w' h => ?_
  obtain ⟨h1, h2⟩ := h
  rw [hv] at h1
  exact ⟨h1, hb.trans (h2.mono hb.size)⟩
theorem kcount {w : World} {A : Option Addr} (hA : CallsAt w w.heap.size A given4) : Calls Try.prog 33 #[.slice A 4 4] w fun e w' => e = .returned (.tuple #[.int .i64 2, .int .i64 0]) ∧ RowKit.Below w.heap.size w w' := by
  refine (count_any A given4 4 w (by decide) hA (by rw [exd]; decide)).mono fun e w' h => ?_
  obtain ⟨h1, h2⟩ := h
  rw [exn] at h1
  exact ⟨h1, h2⟩
theorem kcount0 (w : World) : Calls Try.prog 33 #[.slice none 0 0] w fun e w' => e = .returned (.tuple #[.int .i64 1, .int .i64 0]) ∧ RowKit.Below w.heap.size w w' := by
  refine (count_any none [] 0 w (by decide) (fun i hi => absurd hi (by simp)) (by rw [exd0]; decide)).mono fun e w' h => ?_
  obtain ⟨h1, h2⟩ := h
  rw [exn0] at h1
  exact ⟨h1, h2⟩
theorem aclen2 : (allCells [g0, g0]).length = 2 * 23 := by kernel_rfl
theorem f25_name : (Try.f25.name == "runtime.NumGoroutine") = false := by kernel_rfl
theorem f25_body : Try.f25.body.isSome = true := by kernel_rfl
attribute [local irreducible] zero64 mkC g0 g1 g2 g3 given4

set_option maxRecDepth 100000 in
set_option maxHeartbeats 4000000 in
theorem known_any (w : World) : Calls Try.prog 24 #[] w fun e w' => e = .returned (.bool true) ∧ RowKit.Below w.heap.size w w' := by
  go_enter Try.func24, Try.ntmps24
  go_wp2_with fail
  refine (given_any w).mono ?_
  rintro e w1 ⟨g, rfl, hA, hb1⟩
  obtain ⟨hgB, H0, H1, H2, H3⟩ := given_at hA
  have R0 := Lib.hid H0.regrown
  have R1 := Lib.hid H1.regrown
  have R2 := Lib.hid H2.regrown
  have R3 := Lib.hid H3.regrown
  have HH0 := Lib.hid H0
  have HA := Lib.hid hA
  clear H0 H1 H2 H3 hA
  go_wp2_with fail
  refine wp_region_quiet_below (by kernel_rfl) (by kernel_rfl) ?_
  go_big_quiet_step (fail)
  go_big_quiet_step (fail)
  with_reducible refine qk_load_agg_want (o := ⟨some 11, _, _, _, _, _⟩) 64 _ rfl ⟨g, 0, none⟩ ?_ g0.cells _ R0.out Try.underlying64 rfl (callSize _) ?_ ?_
  · rfl
  · rfl
  simp only [Act.put, List.setIfInBounds_toArray, List.set_cons_succ, List.set_cons_zero]
  go_big_quiet_step (fail)
  go_big_quiet_step (fail)
  with_reducible refine qk_load_agg_want (o := ⟨some 14, _, _, _, _, _⟩) 64 _ rfl ⟨g, 23, none⟩ ?_ g1.cells _ R1.out Try.underlying64 rfl (callSize _) ?_ ?_
  · rfl
  · rfl
  simp only [Act.put, List.setIfInBounds_toArray, List.set_cons_succ, List.set_cons_zero]
  go_big_quiet_step ((go_at_call 28; exact Calls.regrown_of (b01 _)))
  go_big_quiet_step (fail)
  go_big_quiet_step (fail)
  go_big_quiet_step (fail)
  with_reducible refine qk_load_agg_want (o := ⟨some 19, _, _, _, _, _⟩) 64 _ rfl ⟨g, 23, none⟩ ?_ g1.cells _ R1.out Try.underlying64 rfl (callSize _) ?_ ?_
  · rfl
  · rfl
  simp only [Act.put, List.setIfInBounds_toArray, List.set_cons_succ, List.set_cons_zero]
  go_big_quiet_step (fail)
  go_big_quiet_step (fail)
  with_reducible refine qk_load_agg_want (o := ⟨some 22, _, _, _, _, _⟩) 64 _ rfl ⟨g, 46, none⟩ ?_ g2.cells _ R2.out Try.underlying64 rfl (callSize _) ?_ ?_
  · rfl
  · rfl
  simp only [Act.put, List.setIfInBounds_toArray, List.set_cons_succ, List.set_cons_zero]
  go_big_quiet_step ((go_at_call 28; exact Calls.regrown_of (b12 _)))
  go_big_quiet_step (fail)
  go_big_quiet_step (fail)
  go_big_quiet_step (fail)
  go_big_quiet_step (fail)
  go_big_quiet_step (fail)
  with_reducible refine qk_load_agg_want (o := ⟨some 29, _, _, _, _, _⟩) 64 _ rfl ⟨g, 0, none⟩ ?_ g0.cells _ R0.out Try.underlying64 rfl (callSize _) ?_ ?_
  · rfl
  · rfl
  simp only [Act.put, List.setIfInBounds_toArray, List.set_cons_succ, List.set_cons_zero]
  go_big_quiet_step (fail)
  go_big_quiet_step (fail)
  with_reducible refine qk_load_agg_want (o := ⟨some 32, _, _, _, _, _⟩) 64 _ rfl ⟨g, 46, none⟩ ?_ g2.cells _ R2.out Try.underlying64 rfl (callSize _) ?_ ?_
  · rfl
  · rfl
  simp only [Act.put, List.setIfInBounds_toArray, List.set_cons_succ, List.set_cons_zero]
  go_big_quiet_step ((go_at_call 28; exact Calls.regrown_of (b02 _)))
  go_big_quiet_step (fail)
  go_big_quiet_step (fail)
  go_big_quiet_step (fail)
  go_big_quiet_step (fail)
  go_big_quiet_step (fail)
  with_reducible refine qk_load_agg_want (o := ⟨some 39, _, _, _, _, _⟩) 64 _ rfl ⟨g, 46, none⟩ ?_ g2.cells _ R2.out Try.underlying64 rfl (callSize _) ?_ ?_
  · rfl
  · rfl
  simp only [Act.put, List.setIfInBounds_toArray, List.set_cons_succ, List.set_cons_zero]
  go_big_quiet_step (fail)
  go_big_quiet_step (fail)
  with_reducible refine qk_load_agg_want (o := ⟨some 42, _, _, _, _, _⟩) 64 _ rfl ⟨g, 0, none⟩ ?_ g0.cells _ R0.out Try.underlying64 rfl (callSize _) ?_ ?_
  · rfl
  · rfl
  simp only [Act.put, List.setIfInBounds_toArray, List.set_cons_succ, List.set_cons_zero]
  go_big_quiet_step ((go_at_call 28; exact Calls.regrown_of (b20 _)))
  go_big_quiet_step (fail)
  go_big_quiet_step (fail)
  go_big_quiet_step (fail)
  go_big_quiet_step (fail)
  with_reducible refine qk_load_agg_want (o := ⟨some 48, _, _, _, _, _⟩) 64 _ rfl ⟨g, 0, none⟩ ?_ g0.cells _ R0.out Try.underlying64 rfl (callSize _) ?_ ?_
  · rfl
  · rfl
  simp only [Act.put, List.setIfInBounds_toArray, List.set_cons_succ, List.set_cons_zero]
  go_big_quiet_step (fail)
  go_big_quiet_step (fail)
  with_reducible refine qk_load_agg_want (o := ⟨some 51, _, _, _, _, _⟩) 64 _ rfl ⟨g, 69, none⟩ ?_ g3.cells _ R3.out Try.underlying64 rfl (callSize _) ?_ ?_
  · rfl
  · rfl
  simp only [Act.put, List.setIfInBounds_toArray, List.set_cons_succ, List.set_cons_zero]
  go_big_quiet_step ((go_at_call 28; exact Calls.regrown_of (b03 _)))
  go_big_quiet_step (fail)
  refine wpQuiet_nil ?_
  intro W3 hW3
  have hb13 := regrown_below hW3
  have hb3 := hb1.trans (hb13.mono hb1.size)
  have hA3 : CallsAt W3 W3.heap.size (some ⟨g, 0, none⟩) given4 := (HA.out.below hb13 (Nat.le_refl _)).mono hb13.size
  have hA4 := Lib.hid hA3
  clear hW3 hA3
  go_wp2_with fail
  refine (kcommits hA4.out).mono ?_
  rintro e w4 ⟨v, rfl, ⟨A', c', rfl, hI4⟩, hb4⟩
  have HI4 := Lib.hid hI4
  clear hI4
  go_wp2_with fail
  have hgB3 : g < W3.heap.size := Nat.lt_of_lt_of_le hgB hb13.size
  have HD := Lib.hid (show CellsAt w4.drew ⟨g, 0, none⟩ g0.cells from fun j v h => ((HH0.out.below hb13 hgB).below hb4 hgB3) j v h)
  refine wp_region_any (by kernel_rfl) ?_
  change wpAny _ _ _ _ _ _ _ (World.drew _)
  refine wpAny_take (i := 0) (oi := { dst := some 60, op := Op.move (Operand.tmp 1), type := 55, pos := "law.go:29", after := #[], guard := none }) (v := ?_) rfl (by kernel_rfl) (by kernel_rfl) (by kernel_rfl) (fun _ _ _ h => h) (Or.inl ⟨by rfl, ?_⟩) ?_
  rotate_left 1
  · intro w; go_simp; try with_reducible rfl
  refine wpAny_take (i := 1) (oi := { dst := some 61, op := Op.indexAddr 55 (Operand.tmp 60) (Operand.const (Value.int IntKind.i64 0)), type := 0, pos := "law.go:29", after := #[{ on := 0, ground := Ground.data }], guard := none }) (v := ?_) rfl (by kernel_rfl) (by kernel_rfl) (by kernel_rfl) (fun _ _ _ h => h) (Or.inl ⟨by rfl, ?_⟩) ?_
  rotate_left 1
  · intro w; go_simp; try with_reducible rfl
  refine wpAny_take (i := 3) (oi := { dst := some 63, op := Op.move (Operand.tmp 1), type := 55, pos := "law.go:29", after := #[], guard := none }) (v := ?_) rfl (by kernel_rfl) (by kernel_rfl) (by kernel_rfl) (fun _ _ _ h => h) (Or.inl ⟨by rfl, ?_⟩) ?_
  rotate_left 1
  · intro w; go_simp; try with_reducible rfl
  refine wpAny_take (i := 4) (oi := { dst := some 64, op := Op.indexAddr 55 (Operand.tmp 63) (Operand.const (Value.int IntKind.i64 0)), type := 0, pos := "law.go:29", after := #[{ on := 3, ground := Ground.data }], guard := none }) (v := ?_) rfl (by kernel_rfl) (by kernel_rfl) (by kernel_rfl) (fun _ _ _ h => h) (Or.inl ⟨by rfl, ?_⟩) ?_
  rotate_left 1
  · intro w; go_simp; try with_reducible rfl
  refine wpAny_ready (rs := [2, 5]) (by kernel_rfl) (by simp) ?_
  refine AllReady.cons (o := { dst := some 62, op := Op.load 64 (Operand.tmp 61), type := 64, pos := "law.go:29", after := #[{ on := 1, ground := Ground.data }], guard := none }) rfl (fun K hK => ?_) (AllReady.cons (o := { dst := some 65, op := Op.load 64 (Operand.tmp 64), type := 64, pos := "law.go:29", after := #[{ on := 4, ground := Ground.data }], guard := none }) rfl (fun K hK => ?_) AllReady.nil)
  with_reducible refine step_load_agg rfl 64 _ rfl ⟨g, 0, none⟩ ?_ g0.cells _ HD.out Try.underlying64 rfl (callSize _) ?_
  · rfl
  simp only [Act.put, List.setIfInBounds_toArray, List.set_cons_succ, List.set_cons_zero]
  refine hK _ _ ?_
  clear hK K
  refine wpAny_ready (rs := [5]) (by kernel_rfl) (by simp) ?_
  refine AllReady.cons (o := { dst := some 65, op := Op.load 64 (Operand.tmp 64), type := 64, pos := "law.go:29", after := #[{ on := 4, ground := Ground.data }], guard := none }) rfl (fun K hK => ?_) AllReady.nil
  with_reducible refine step_load_agg rfl 64 _ rfl ⟨g, 0, none⟩ ?_ g0.cells _ HD.out Try.underlying64 rfl (callSize _) ?_
  · rfl
  simp only [Act.put, List.setIfInBounds_toArray, List.set_cons_succ, List.set_cons_zero]
  refine hK _ _ ?_
  clear hK K
  refine wpAny_ready (rs := [6]) (by kernel_rfl) (by simp) ?_
  refine AllReady.cons (o := { dst := some 66, op := Op.buildSlice 55 2 #[(0, Operand.tmp 62), (1, Operand.tmp 65)], type := 55, pos := "law.go:29", after := #[{ on := 2, ground := Ground.data }, { on := 5, ground := Ground.data }], guard := none }) rfl (fun K hK => ?_) AllReady.nil
  with_reducible refine step_slice_own rfl 55 64 2 _ rfl zero64 23 296 Try.underlying55 Try.info64 [(0, g0.val), (1, g0.val)] (allCells [g0, g0]) ?_ filled2 aclen2 (by decide) (by decide) (by decide) ?_
  · simp only [List.map_toArray, List.map_cons, List.map_nil]; rfl
  intro w5 hown5 hb5
  obtain ⟨A5, c5, hv5, hc5, hA5⟩ := own_calls hown5 (l := [g0, g0]) rfl
  refine hK _ _ ?_
  clear hK K
  refine wpAny_ready (rs := [7]) (by kernel_rfl) (by simp) ?_
  refine AllReady.cons (o := { dst := some 67, op := Op.call { callee := Callee.value (Operand.func 25), args := #[Operand.tmp 66], argTypes := #[55] }, type := 57, pos := "law.go:29", after := #[{ on := 6, ground := Ground.data }], guard := none }) rfl (fun K hK => ?_) AllReady.nil
  cases hv5
  with_reducible refine step_call_any rfl 25 _ _ rfl #[.slice (some ⟨w4.drew.heap.size, 0, none⟩) 2 2] ?_ Try.f25 Try.func25 f25_name f25_body (fun u w' => u = .tuple #[.slice none 0 0, .int .i64 2] ∧ RowKit.Below w5.heap.size w5 w') ((kcommits2 hA5).mono fun e w' h => ⟨_, h.1, rfl, h.2⟩) ?_
  · simp only [List.map_toArray, List.map_cons, List.map_nil]; rfl
  rintro u w6 ⟨rfl, hb6⟩
  refine hK _ _ ?_
  clear hK K
  refine wpAny_take (i := 8) (oi := { dst := some 59, op := Op.move (Operand.tmp 67), type := 57, pos := "law.go:29", after := #[{ on := 7, ground := Ground.data }], guard := none }) (v := ?_) rfl (by kernel_rfl) (by kernel_rfl) (by kernel_rfl) (fun _ _ _ h => h) (Or.inl ⟨by rfl, ?_⟩) ?_
  rotate_left 1
  · intro w; go_simp; try with_reducible rfl
  refine wpAny_take (i := 9) (oi := { dst := some 68, op := Op.extract (Operand.tmp 59) 0, type := 56, pos := "law.go:29", after := #[{ on := 8, ground := Ground.data }], guard := none }) (v := ?_) rfl (by kernel_rfl) (by kernel_rfl) (by kernel_rfl) (fun _ _ _ h => h) (Or.inl ⟨by rfl, ?_⟩) ?_
  rotate_left 1
  · intro w; go_simp; try with_reducible rfl
  refine wpAny_take (i := 10) (oi := { dst := some 69, op := Op.extract (Operand.tmp 59) 1, type := 25, pos := "law.go:29", after := #[{ on := 8, ground := Ground.data }, { on := 11, ground := Ground.gcOnly Departure.lateStores }], guard := none }) (v := ?_) rfl (by kernel_rfl) (by kernel_rfl) (by kernel_rfl) (fun _ _ _ h => h) (Or.inl ⟨by rfl, ?_⟩) ?_
  rotate_left 1
  · intro w; go_simp; try with_reducible rfl
  refine wpAny_take (i := 11) (oi := { dst := some 4, op := Op.assign (Operand.tmp 68), type := 56, pos := "law.go:29", after := #[{ on := 9, ground := Ground.data }, { on := 7, ground := Ground.chain }, { on := 0, ground := Ground.phase }, { on := 1, ground := Ground.phase }, { on := 2, ground := Ground.phase }, { on := 3, ground := Ground.phase }, { on := 4, ground := Ground.phase }, { on := 5, ground := Ground.phase }, { on := 6, ground := Ground.phase }, { on := 7, ground := Ground.phase }, { on := 8, ground := Ground.phase }, { on := 9, ground := Ground.phase }, { on := 10, ground := Ground.textOnly Departure.lateStores }], guard := none }) (v := ?_) rfl (by kernel_rfl) (by kernel_rfl) (by kernel_rfl) (fun _ _ _ h => h) (Or.inl ⟨by rfl, ?_⟩) ?_
  rotate_left 1
  · intro w; go_simp; try with_reducible rfl
  refine wpAny_take (i := 12) (oi := { dst := some 5, op := Op.assign (Operand.tmp 69), type := 25, pos := "law.go:29", after := #[{ on := 10, ground := Ground.data }, { on := 11, ground := Ground.chain }, { on := 0, ground := Ground.phase }, { on := 1, ground := Ground.phase }, { on := 2, ground := Ground.phase }, { on := 3, ground := Ground.phase }, { on := 4, ground := Ground.phase }, { on := 5, ground := Ground.phase }, { on := 6, ground := Ground.phase }, { on := 7, ground := Ground.phase }, { on := 8, ground := Ground.phase }, { on := 9, ground := Ground.phase }, { on := 10, ground := Ground.phase }, { on := 11, ground := Ground.phase }], guard := none }) (v := ?_) rfl (by kernel_rfl) (by kernel_rfl) (by kernel_rfl) (fun _ _ _ h => h) (Or.inl ⟨by rfl, ?_⟩) ?_
  rotate_left 1
  · intro w; go_simp; try with_reducible rfl
  refine wpAny_done (by kernel_rfl) ?_ _
  rotate_left 1
  with_reducible refine step_load_agg rfl 64 _ rfl ⟨g, 0, none⟩ ?_ g0.cells _ HD.out Try.underlying64 rfl (callSize _) ?_
  · rfl
  simp only [Act.put, List.setIfInBounds_toArray, List.set_cons_succ, List.set_cons_zero]
  refine hK _ _ ?_
  clear hK K
  refine wpAny_ready (rs := [2]) (by kernel_rfl) (by simp) ?_
  refine AllReady.cons (o := { dst := some 62, op := Op.load 64 (Operand.tmp 61), type := 64, pos := "law.go:29", after := #[{ on := 1, ground := Ground.data }], guard := none }) rfl (fun K hK => ?_) AllReady.nil
  with_reducible refine step_load_agg rfl 64 _ rfl ⟨g, 0, none⟩ ?_ g0.cells _ HD.out Try.underlying64 rfl (callSize _) ?_
  · rfl
  simp only [Act.put, List.setIfInBounds_toArray, List.set_cons_succ, List.set_cons_zero]
  refine hK _ _ ?_
  clear hK K
  refine wpAny_ready (rs := [6]) (by kernel_rfl) (by simp) ?_
  refine AllReady.cons (o := { dst := some 66, op := Op.buildSlice 55 2 #[(0, Operand.tmp 62), (1, Operand.tmp 65)], type := 55, pos := "law.go:29", after := #[{ on := 2, ground := Ground.data }, { on := 5, ground := Ground.data }], guard := none }) rfl (fun K hK => ?_) AllReady.nil
  with_reducible refine step_slice_own rfl 55 64 2 _ rfl zero64 23 296 Try.underlying55 Try.info64 [(0, g0.val), (1, g0.val)] (allCells [g0, g0]) ?_ filled2 aclen2 (by decide) (by decide) (by decide) ?_
  · simp only [List.map_toArray, List.map_cons, List.map_nil]; rfl
  intro w5 hown5 hb5
  obtain ⟨A5, c5, hv5, hc5, hA5⟩ := own_calls hown5 (l := [g0, g0]) rfl
  refine hK _ _ ?_
  clear hK K
  refine wpAny_ready (rs := [7]) (by kernel_rfl) (by simp) ?_
  refine AllReady.cons (o := { dst := some 67, op := Op.call { callee := Callee.value (Operand.func 25), args := #[Operand.tmp 66], argTypes := #[55] }, type := 57, pos := "law.go:29", after := #[{ on := 6, ground := Ground.data }], guard := none }) rfl (fun K hK => ?_) AllReady.nil
  cases hv5
  with_reducible refine step_call_any rfl 25 _ _ rfl #[.slice (some ⟨w4.drew.heap.size, 0, none⟩) 2 2] ?_ Try.f25 Try.func25 f25_name f25_body (fun u w' => u = .tuple #[.slice none 0 0, .int .i64 2] ∧ RowKit.Below w5.heap.size w5 w') ((kcommits2 hA5).mono fun e w' h => ⟨_, h.1, rfl, h.2⟩) ?_
  · simp only [List.map_toArray, List.map_cons, List.map_nil]; rfl
  rintro u w6 ⟨rfl, hb6⟩
  refine hK _ _ ?_
  clear hK K
  refine wpAny_take (i := 8) (oi := { dst := some 59, op := Op.move (Operand.tmp 67), type := 57, pos := "law.go:29", after := #[{ on := 7, ground := Ground.data }], guard := none }) (v := ?_) rfl (by kernel_rfl) (by kernel_rfl) (by kernel_rfl) (fun _ _ _ h => h) (Or.inl ⟨by rfl, ?_⟩) ?_
  rotate_left 1
  · intro w; go_simp; try with_reducible rfl
  refine wpAny_take (i := 9) (oi := { dst := some 68, op := Op.extract (Operand.tmp 59) 0, type := 56, pos := "law.go:29", after := #[{ on := 8, ground := Ground.data }], guard := none }) (v := ?_) rfl (by kernel_rfl) (by kernel_rfl) (by kernel_rfl) (fun _ _ _ h => h) (Or.inl ⟨by rfl, ?_⟩) ?_
  rotate_left 1
  · intro w; go_simp; try with_reducible rfl
  refine wpAny_take (i := 10) (oi := { dst := some 69, op := Op.extract (Operand.tmp 59) 1, type := 25, pos := "law.go:29", after := #[{ on := 8, ground := Ground.data }, { on := 11, ground := Ground.gcOnly Departure.lateStores }], guard := none }) (v := ?_) rfl (by kernel_rfl) (by kernel_rfl) (by kernel_rfl) (fun _ _ _ h => h) (Or.inl ⟨by rfl, ?_⟩) ?_
  rotate_left 1
  · intro w; go_simp; try with_reducible rfl
  refine wpAny_take (i := 11) (oi := { dst := some 4, op := Op.assign (Operand.tmp 68), type := 56, pos := "law.go:29", after := #[{ on := 9, ground := Ground.data }, { on := 7, ground := Ground.chain }, { on := 0, ground := Ground.phase }, { on := 1, ground := Ground.phase }, { on := 2, ground := Ground.phase }, { on := 3, ground := Ground.phase }, { on := 4, ground := Ground.phase }, { on := 5, ground := Ground.phase }, { on := 6, ground := Ground.phase }, { on := 7, ground := Ground.phase }, { on := 8, ground := Ground.phase }, { on := 9, ground := Ground.phase }, { on := 10, ground := Ground.textOnly Departure.lateStores }], guard := none }) (v := ?_) rfl (by kernel_rfl) (by kernel_rfl) (by kernel_rfl) (fun _ _ _ h => h) (Or.inl ⟨by rfl, ?_⟩) ?_
  rotate_left 1
  · intro w; go_simp; try with_reducible rfl
  refine wpAny_take (i := 12) (oi := { dst := some 5, op := Op.assign (Operand.tmp 69), type := 25, pos := "law.go:29", after := #[{ on := 10, ground := Ground.data }, { on := 11, ground := Ground.chain }, { on := 0, ground := Ground.phase }, { on := 1, ground := Ground.phase }, { on := 2, ground := Ground.phase }, { on := 3, ground := Ground.phase }, { on := 4, ground := Ground.phase }, { on := 5, ground := Ground.phase }, { on := 6, ground := Ground.phase }, { on := 7, ground := Ground.phase }, { on := 8, ground := Ground.phase }, { on := 9, ground := Ground.phase }, { on := 10, ground := Ground.phase }, { on := 11, ground := Ground.phase }], guard := none }) (v := ?_) rfl (by kernel_rfl) (by kernel_rfl) (by kernel_rfl) (fun _ _ _ h => h) (Or.inl ⟨by rfl, ?_⟩) ?_
  rotate_left 1
  · intro w; go_simp; try with_reducible rfl
  refine wpAny_done (by kernel_rfl) ?_ _
  all_goals
    have hbd : RowKit.Below w.heap.size w w4.drew := by have hb := hb3.trans (hb4.mono hb3.size); exact ⟨hb.os, hb.tape, hb.output, hb.size, hb.block⟩
    have hb05 : RowKit.Below w.heap.size w w5 := hbd.trans (hb5.mono hbd.size)
    have hb06 := Lib.hid (hb05.trans (hb6.mono hb05.size))
    have hb36 : RowKit.Below W3.heap.size W3 w6 := by
      have h1 : RowKit.Below W3.heap.size W3 w4.drew := ⟨hb4.os, hb4.tape, hb4.output, hb4.size, hb4.block⟩
      have h2 := h1.trans (hb5.mono h1.size)
      exact h2.trans (hb6.mono h2.size)
    have hb46 : RowKit.Below w4.heap.size w4 w6 := by
      have h1 : RowKit.Below w4.heap.size w4 w4.drew := ⟨rfl, rfl, rfl, Nat.le_refl _, fun _ _ => rfl⟩
      have h2 := h1.trans (hb5.mono h1.size)
      exact h2.trans (hb6.mono h2.size)
    have hG := Lib.hid ((hA4.out.below hb36 (Nat.le_refl _)).mono hb36.size)
    have hI := Lib.hid ((HI4.out.below hb46 (Nat.le_refl _)).mono hb46.size)
    clear hbd hb05 hb36 hb46 hb5 hb6 hA5 HD
    simp only [Act.put, List.setIfInBounds_toArray, List.set_cons_succ, List.set_cons_zero]
    go_wp2_with fail
    refine (kints hI.out).mono ?_
    rintro e w7 ⟨rfl, hb7⟩
    have hG7 := Lib.hid ((hG.out.below hb7 (Nat.le_refl _)).mono hb7.size)
    have hb07 := Lib.hid (hb06.out.trans (hb7.mono hb06.out.size))
    go_wp2_with fail
    refine (kcons (n := 3) exc1 rfl (by decide) hG7.out).mono ?_
    rintro e w8 ⟨rfl, hb8⟩
    have hG8 := Lib.hid ((hG7.out.below hb8 (Nat.le_refl _)).mono hb8.size)
    have hb08 := Lib.hid (hb07.out.trans (hb8.mono hb07.out.size))
    clear hb8
    go_wp2_with fail
    refine (kcons (n := 3) exc2 rfl (by decide) hG8.out).mono ?_
    rintro e w9 ⟨rfl, hb9⟩
    have hG9 := Lib.hid ((hG8.out.below hb9 (Nat.le_refl _)).mono hb9.size)
    have hb09 := Lib.hid (hb08.out.trans (hb9.mono hb08.out.size))
    clear hb9
    go_wp2_with fail
    refine (kcons (n := 3) exc3 rfl (by decide) hG9.out).mono ?_
    rintro e w10 ⟨rfl, hb10⟩
    have hG10 := Lib.hid ((hG9.out.below hb10 (Nat.le_refl _)).mono hb10.size)
    have hb010 := Lib.hid (hb09.out.trans (hb10.mono hb09.out.size))
    clear hb10
    go_wp2_with fail
    refine (kcons (n := 2) exc4 rfl (by decide) hG10.out).mono ?_
    rintro e w11 ⟨rfl, hb11⟩
    have hG11 := Lib.hid ((hG10.out.below hb11 (Nat.le_refl _)).mono hb11.size)
    have hb011 := Lib.hid (hb010.out.trans (hb11.mono hb010.out.size))
    clear hb11
    go_wp2_with fail
    refine (kcons (n := 3) exc5 rfl (by decide) hG11.out).mono ?_
    rintro e w12 ⟨rfl, hb12⟩
    have hG12 := Lib.hid ((hG11.out.below hb12 (Nat.le_refl _)).mono hb12.size)
    have hb012 := Lib.hid (hb011.out.trans (hb12.mono hb011.out.size))
    clear hb12
    go_wp2_with fail
    refine (kcount hG12.out).mono ?_
    rintro e w13 ⟨rfl, hb13⟩
    have hb013 := Lib.hid (hb012.out.trans (hb13.mono hb012.out.size))
    clear hb13
    go_wp2_with fail
    refine (kcount0 _).mono ?_
    rintro e w14 ⟨rfl, hb14⟩
    go_wp2_with fail
    go_ret
    exact ⟨rfl, hb013.out.trans (hb14.mono hb013.out.size)⟩
end Go.Proofs.Ytnmhmabifeapkaa.Ord
