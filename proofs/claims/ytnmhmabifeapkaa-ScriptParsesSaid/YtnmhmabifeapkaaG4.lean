/- Walk of bytes.Repeat: one byte, at most three times. -/
import Derived.Test.YtnmhmabifeapkaaG3
import Derived.Lib.MakeNoZero
import Derived.Laws.IdiomCopy
namespace Go.Proofs.Ytnmhmabifeapkaa.Ord
open Go.RowKit
set_option linter.unusedVariables false

set_option maxRecDepth 100000 in
theorem mul155 (n : Nat) (hn : n = 1 ∨ n = 2 ∨ n = 3) (w : World) : Calls Try.prog 155 #[.int .u64 1, .int .u64 n] w fun e w' => e = .returned (.tuple #[.int .u64 0, .int .u64 n]) ∧ w' = w := by
  rcases hn with rfl | rfl | rfl
  all_goals
    go_enter Try.func155, Try.ntmps155
    go_wp2_with fail
    go_ret2
    exact ⟨rfl, rfl⟩
set_option maxRecDepth 100000 in
theorem mul146 (n : Nat) (hn : n = 1 ∨ n = 2 ∨ n = 3) (w : World) : Calls Try.prog 146 #[.int .u64 1, .int .u64 n] w fun e w' => e = .returned (.tuple #[.int .u64 0, .int .u64 n]) ∧ w' = w := by
  have h := Lib.hid (mul155 n hn w)
  go_enter Try.func146, Try.ntmps146
  go_wp2_with fail
  refine h.out.mono ?_
  rintro e w1 ⟨rfl, rfl⟩
  go_wp2_with fail
  go_ret2
  exact ⟨rfl, rfl⟩
set_option maxRecDepth 100000 in
theorem repeat0 (A : Option Addr) (w : World) : Calls Try.prog 136 #[.slice A 1 1, .int .i64 (0 : Nat)] w fun e w' => ∃ B c, e = .returned (.slice (some ⟨B, 0, none⟩) 0 c) ∧ w.heap.size ≤ B ∧ Byt w' w'.heap.size (some ⟨B, 0, none⟩) c [] ∧ Below w.heap.size w w' := by
  go_enter Try.func136, Try.ntmps136
  go_wp2_with fail
  go_ret
  exact ⟨w.heap.size, 0, rfl, Nat.le_refl _, ⟨by simp, by simp, fun i hi => by simp at hi⟩, below1 w _⟩
theorem Try.size5 : (Try.prog.info? 5).map (·.size) = some 1 := by kernel_rfl
theorem copy_one {W : World} {G cm o dl dc sl sc b0 x : Nat} {b : Int} {f : Nat → Value} (hG : W.rowIs G 5 cm f) (ho : o < cm) (hmin : Nat.min sl dl = 1) (hs : W.cell? ⟨b0, x, none⟩ = some (.int .u8 b)) :
    (Builtin.copy_ #[22, 22] 3 #[.slice (some ⟨G, o, none⟩) dl dc, .slice (some ⟨b0, x, none⟩) sl sc]).run Try.prog W = .ok (.int .i64 1) (W.setCells G o [.int .u8 b]) := by
  refine run_copy_cells W 22 22 3 5 G o dl dc ⟨b0, x, none⟩ sl sc [.int .u8 b] Try.underlying22 Try.size5 (by simp [hmin]) ?_ ?_ ?_ ?_
  · intro j v hj
    match j, hj with
    | 0, hj =>
      simp at hj
      subst hj
      rw [Addr.add_mid]
      exact hs
  · intro j hj
    simp at hj
    subst hj
    rw [Nat.add_zero, World.rowIs.cell hG ho]
    rfl
  · intro j hj
    exact World.rowIs.frozen hG _
  · intro v hv
    simp at hv
    subst hv
    rfl
/-- the buffer: its first cells are written -/
def BufAt (w : World) (G cm k : Nat) (b : Int) (W : World) : Prop := (∃ f, W.rowIs G 5 cm f ∧ ∀ j, j < k → f j = .int .u8 b) ∧ Below w.heap.size w W
theorem BufAt.next {w W : World} {G cm k : Nat} {b : Int} (h : BufAt w G cm k b W) (hG : w.heap.size ≤ G) : BufAt w G cm (k + 1) b (W.setCells G k [.int .u8 b]) := by
  obtain ⟨⟨f, h1, h2⟩, h3⟩ := h
  refine ⟨⟨_, rowIs_setCells _ _ _ _ h1, fun j hj => ?_⟩, below_setCells hG _ _ _ h3⟩
  by_cases e : j = k
  · subst e
    simp
  · rw [if_neg (by simp; omega)]
    exact h2 j (by omega)
theorem BufAt.drew {w W : World} {G cm k : Nat} {b : Int} (h : BufAt w G cm k b W) : BufAt w G cm k b W.drew := by
  obtain ⟨⟨f, h1, h2⟩, h3⟩ := h
  exact ⟨⟨f, World.rowIs.of_block h1 rfl, h2⟩, ⟨h3.os, h3.tape, h3.output, h3.size, h3.block⟩⟩
theorem BufAt.byt {w W : World} {G cm n : Nat} {b : Int} (h : BufAt w G cm n b W) (hn : n ≤ cm) : Byt W W.heap.size (some ⟨G, 0, none⟩) n (List.replicate n b) := by
  obtain ⟨⟨f, h1, h2⟩, h3⟩ := h
  refine ⟨by simp, by simp, fun i hi => ⟨G, 0, rfl, World.rowIs.lt h1, fun x hx => ?_⟩⟩
  simp at hi
  rw [Nat.zero_add, World.rowIs.cell h1 (by omega), h2 i hi]
  rw [List.getElem?_replicate, if_pos hi] at hx
  cases hx
  rfl
theorem BufAt.cell {w W : World} {G cm k : Nat} {b : Int} (h : BufAt w G cm k b W) (h0 : 0 < k) (hm : 0 < cm) : W.cell? ⟨G, 0, none⟩ = some (.int .u8 b) := by
  obtain ⟨⟨f, h1, h2⟩, h3⟩ := h
  rw [World.rowIs.cell h1 hm, h2 0 h0]
theorem BufAt.copy {w W : World} {G cm k o dl dc sl sc b0 x : Nat} {b : Int} (h : BufAt w G cm k b W) (ho : o < cm) (hmin : Nat.min sl dl = 1) (hs : W.cell? ⟨b0, x, none⟩ = some (.int .u8 b)) :
    (Builtin.copy_ #[22, 22] 3 #[.slice (some ⟨G, o, none⟩) dl dc, .slice (some ⟨b0, x, none⟩) sl sc]).run Try.prog W = .ok (.int .i64 1) (W.setCells G o [.int .u8 b]) := by
  obtain ⟨⟨f, h1, h2⟩, h3⟩ := h
  exact copy_one h1 ho hmin hs

set_option maxRecDepth 100000 in
set_option maxHeartbeats 2000000 in
theorem repeat1 (B : Nat) (b : Int) (n : Nat) (hn : n = 1 ∨ n = 2 ∨ n = 3) (w : World) (hB : B < w.heap.size) (hc : w.cell? ⟨B, 0, none⟩ = some (.int .u8 b)) : Calls Try.prog 136 #[.slice (some ⟨B, 0, none⟩) 1 1, .int .i64 n] w fun e w' => ∃ B c, e = .returned (.slice (some ⟨B, 0, none⟩) n c) ∧ w.heap.size ≤ B ∧ Byt w' w'.heap.size (some ⟨B, 0, none⟩) c (List.replicate n b) ∧ Below w.heap.size w w' := by
  obtain ⟨cs, hrun, hle, hmax⟩ := Lib.run_makeNoZero (P := Try.prog) w #[3] 22 5 Try.underlying22 n (by omega)
  have hcall : (callFunc 147 #[.int .i64 n]).run Try.prog w = .ok (.value (.slice (some ⟨w.heap.size, 0, none⟩) n cs.size)) (w.drew.drew.alloc (.cells cs 5)) := by
    rw [run_callFunc_extern Try.func147 (by kernel_rfl) (by kernel_rfl) (by kernel_rfl) (e := Extern.BytealgMakeNoZero.makeNoZero #[3] #[22]) (by kernel_rfl), hrun]
    rfl
  have hm := Lib.hid (mul146 n hn w)
  obtain ⟨W, hW, hb0, hcW⟩ : ∃ W, w.drew.drew.alloc (.cells cs 5) = W ∧ BufAt w w.heap.size cs.size 0 b W ∧ W.cell? ⟨B, 0, none⟩ = some (.int .u8 b) := by
    have hbl : Below w.heap.size w (w.drew.drew.alloc (.cells cs 5)) := ⟨rfl, rfl, rfl, by simp, fun k hk => heap_alloc_old _ _ hk⟩
    refine ⟨_, rfl, ⟨⟨fun i => cs.getD i undef, World.rowIs_alloc _ cs 5 _ fun i hi => by simp [Array.getD, hi], fun j hj => absurd hj (Nat.not_lt_zero _)⟩, hbl⟩, ?_⟩
    rw [hbl.cell (p := ⟨B, 0, none⟩) hB]
    exact hc
  rw [hW] at hcall
  clear hrun hmax hW
  generalize hcm : cs.size = cm at *
  clear hcm
  have hb1 : BufAt w w.heap.size cm 1 b (W.setCells w.heap.size 0 [.int .u8 b]) := hb0.next (Nat.le_refl _)
  have hcp := hb0.copy (o := 0) (dl := n) (dc := n) (sl := 1) (sc := 1) (by omega) (by rcases hn with rfl | rfl | rfl <;> rfl) hcW
  generalize W.setCells w.heap.size 0 [.int .u8 b] = W1 at *
  have HB1 := Lib.hid hb1
  clear hb0 hb1 hcW
  rcases hn with rfl | rfl | rfl
  · have hcall2 : (callFunc 147 #[.int .i64 1]).run Try.prog w = .ok (.value (.slice (some ⟨w.heap.size, 0, none⟩) 1 cm)) W := hcall
    clear hcall
    go_enter Try.func136, Try.ntmps136
    go_wp2_with fail
    refine hm.out.mono ?_
    rintro e w1 ⟨rfl, rfl⟩
    go_wp2_with fail
    go_loopw [10] (fun j wr => j = .int .i64 1 ∧ wr = W1) (fun j _ => 0)
    case atStart => exact ⟨rfl, rfl⟩
    case round =>
      obtain ⟨rfl, rfl⟩ := hrel
      go_wp2_with fail
      go_ret
      exact ⟨_, _, rfl, Nat.le_refl _, HB1.out.byt hle, HB1.out.2⟩
  · have hcall2 : (callFunc 147 #[.int .i64 2]).run Try.prog w = .ok (.value (.slice (some ⟨w.heap.size, 0, none⟩) 2 cm)) W := hcall
    clear hcall
    go_enter Try.func136, Try.ntmps136
    go_wp2_with fail
    refine hm.out.mono ?_
    rintro e w1 ⟨rfl, rfl⟩
    go_wp2_with fail
    go_loopw [10] (fun j wr => ∃ k : Nat, (k = 1 ∨ k = 2) ∧ j = .int .i64 k ∧ BufAt w1 w1.heap.size cm k b wr) (fun j _ => 2 - (intOf j).toNat)
    case atStart => exact ⟨1, .inl rfl, rfl, HB1.out⟩
    case round =>
      obtain ⟨k, rfl | rfl, rfl, hb⟩ := hrel
      · have hcp2 := hb.drew.copy (o := 1) (dl := 1) (dc := 1) (sl := 1) (sc := 2) (by omega) rfl (hb.drew.cell (by omega) (by omega))
        have HB := Lib.hid hb
        have hmn : min (1 : Int) 2 = 1 := by decide
        clear hb
        go_wp2_with fail
        go_region_law (fail)
        all_goals
          go_simp
          go_roundw
          case rel => exact ⟨_, _, _, _, _, _, _, _, _, _, _, _, _, _, _, _, _, ⟨2, .inr rfl, rfl, HB.out.drew.next (Nat.le_refl _)⟩, rfl⟩
          case measure => simp [intOf, IntKind.wrap_i64]
      · go_wp2_with fail
        go_ret
        exact ⟨_, _, rfl, Nat.le_refl _, hb.byt hle, hb.2⟩
  · have hcall2 : (callFunc 147 #[.int .i64 3]).run Try.prog w = .ok (.value (.slice (some ⟨w.heap.size, 0, none⟩) 3 cm)) W := hcall
    clear hcall
    go_enter Try.func136, Try.ntmps136
    go_wp2_with fail
    refine hm.out.mono ?_
    rintro e w1 ⟨rfl, rfl⟩
    go_wp2_with fail
    go_loopw [10] (fun j wr => ∃ k : Nat, (k = 1 ∨ k = 2 ∨ k = 3) ∧ j = .int .i64 k ∧ BufAt w1 w1.heap.size cm k b wr) (fun j _ => 3 - (intOf j).toNat)
    case atStart => exact ⟨1, .inl rfl, rfl, HB1.out⟩
    case round =>
      obtain ⟨k, rfl | rfl | rfl, rfl, hb⟩ := hrel
      · have hcp2 := hb.drew.copy (o := 1) (dl := 2) (dc := 2) (sl := 1) (sc := 3) (by omega) rfl (hb.drew.cell (by omega) (by omega))
        have HB := Lib.hid hb
        have hmn : min (1 : Int) 3 = 1 := by decide
        clear hb
        go_wp2_with fail
        go_region_law (fail)
        all_goals
          go_simp
          go_roundw
          case rel => exact ⟨_, _, _, _, _, _, _, _, _, _, _, _, _, _, _, _, _, ⟨2, .inr (.inl rfl), rfl, HB.out.drew.next (Nat.le_refl _)⟩, rfl⟩
          case measure => simp [intOf, IntKind.wrap_i64]
      · have hcp2 := hb.drew.copy (o := 2) (dl := 1) (dc := 1) (sl := 2) (sc := 3) (by omega) rfl (hb.drew.cell (by omega) (by omega))
        have HB := Lib.hid hb
        have hmn : min (2 : Int) 3 = 2 := by decide
        clear hb
        go_wp2_with fail
        go_region_law (fail)
        all_goals
          go_simp
          go_roundw
          case rel => exact ⟨_, _, _, _, _, _, _, _, _, _, _, _, _, _, _, _, _, ⟨3, .inr (.inr rfl), rfl, HB.out.drew.next (Nat.le_refl _)⟩, rfl⟩
          case measure => simp [intOf, IntKind.wrap_i64]
      · go_wp2_with fail
        go_ret
        exact ⟨_, _, rfl, Nat.le_refl _, hb.byt hle, hb.2⟩
theorem repeat_any (B : Nat) (b : Int) (n : Nat) (hn : n < 4) (w : World) (hB : B < w.heap.size) (hc : w.cell? ⟨B, 0, none⟩ = some (.int .u8 b)) : Calls Try.prog 136 #[.slice (some ⟨B, 0, none⟩) 1 1, .int .i64 n] w fun e w' => ∃ v, e = .returned v ∧ SlB w' w.heap.size v (List.replicate n b) ∧ Below w.heap.size w w' := by
  by_cases h0 : n = 0
  · subst h0
    refine (repeat0 _ w).mono ?_
    rintro e w' ⟨B, c, rfl, h1, h2, h3⟩
    exact ⟨_, rfl, ⟨_, c, rfl, h2, fun b off h => by cases h; exact h1⟩, h3⟩
  · refine (repeat1 B b n (by omega) w hB hc).mono ?_
    rintro e w' ⟨B, c, rfl, h1, h2, h3⟩
    exact ⟨_, rfl, ⟨_, c, by rw [List.length_replicate], h2, fun b off h => by cases h; exact h1⟩, h3⟩
end Go.Proofs.Ytnmhmabifeapkaa.Ord
