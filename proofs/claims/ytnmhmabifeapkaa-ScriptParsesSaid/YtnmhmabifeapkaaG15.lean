/- Walk of the reference's Short, whole; of First at a request; of First at any bytes. -/
import Derived.Test.YtnmhmabifeapkaaG13
import Derived.Test.YtnmhmabifeapkaaG14
import Derived.Test.YtnmhmabifeapkaaG10
namespace Go.Proofs.Ytnmhmabifeapkaa.Ord
open Go.RowKit
set_option linter.unusedVariables false

theorem short63_any (y z u : Nat) (hy : y < 256) (hz : z < 256) (hu : u < 256) (w : World) :
    Calls Try.prog 63 #[.int .i64 y, .int .i64 z, .int .i64 u] w fun e w' => ∃ v, e = .returned v ∧ CmdRes (shortR y z u) w' v ∧ Below w.heap.size w w' := by
  have hc := shortR_ok y z u hz hu
  obtain ⟨j, hj⟩ : ∃ j, y % 15 = j := ⟨_, rfl⟩
  have hj15 : j < 15 := by omega
  unfold shortR at hc ⊢
  rw [hj] at hc ⊢
  match j, hj15 with
  | 0, _ => exact s63_1 y z u hy hz hu _ rfl (by omega) hc w
  | 1, _ => exact s63_2 y z u hy hz hu _ rfl (by omega) hc w
  | 2, _ => exact s63_3 y z u hy hz hu _ rfl (by omega) hc w
  | 3, _ => exact s63_4 y z u hy hz hu (by omega) hc w
  | 4, _ => exact s63_5 y z u hy hz hu _ rfl (by omega) hc w
  | 5, _ => exact s63_6 y z u hy hz hu (by omega) hc w
  | 6, _ => exact s63_7 y z u hy hz hu (by omega) hc w
  | 7, _ => exact s63_8 y z u hy hz hu _ rfl (by omega) hc w
  | 8, _ => exact s63_9 y z u hy hz hu _ rfl (by omega) hc w
  | 9, _ => exact s63_10 y z u hy hz hu (by omega) hc w
  | 10, _ => exact s63_11 y z u hy hz hu (by omega) hc w
  | 11, _ => exact s63_12 y z u hy hz hu (by omega) hc w
  | 12, _ => exact s63_13 y z u hy hz hu (by omega) hc w
  | 13, _ => exact s63_14 y z u hy hz hu (by omega) hc w
  | 14, _ => exact s63_15 y z u hy hz hu (by omega) hc w

set_option maxRecDepth 100000 in
set_option maxHeartbeats 4000000 in
theorem first_req (A : Option Addr) (k c : Nat) (xs : List Int) (w : World) (hk : xs.length = k) (hl : k ≤ 10000) (hx : ∀ y ∈ xs, 0 ≤ y ∧ y < 256) (hA : Byt w w.heap.size A c xs) (hm : 8 ≤ xs.getD 0 0 % 16) :
    Calls Try.prog 39 #[.slice A k c] w (FirstPost ⟨2, xs.getD 0 0 / 16, 0, reqB (xs.getD 1 0).toNat (xs.getD 2 0).toNat (xs.getD 3 0).toNat⟩ 4 w) := by
  have hi := Lib.hid (fun (i : Nat) (hi : i ≤ 1000) W (hb : Below w.heap.size w W) => at_any A k c i xs W hk (by omega) (by omega) hx ((hA.below hb (Nat.le_refl _)).mono hb.size))
  have hr := getD_byte hx 0
  have b1 := getD_byte hx 1
  have b2 := getD_byte hx 2
  have b3 := getD_byte hx 3
  have h0 := Lib.hid (fun W hb => hi.out 0 (by omega) W hb)
  have h1 := Lib.hid (fun W hb => hi.out 1 (by omega) W hb)
  have h2 := Lib.hid (fun W hb => hi.out 2 (by omega) W hb)
  have h3 := Lib.hid (fun W hb => hi.out 3 (by omega) W hb)
  obtain ⟨x, hxx⟩ : ∃ x, xs.getD 0 0 = x := ⟨_, rfl⟩
  obtain ⟨y, hyy⟩ : ∃ y, xs.getD 1 0 = y := ⟨_, rfl⟩
  obtain ⟨z, hzz⟩ : ∃ z, xs.getD 2 0 = z := ⟨_, rfl⟩
  obtain ⟨u, huu⟩ : ∃ u, xs.getD 3 0 = u := ⟨_, rfl⟩
  rw [hxx] at hm h0 hr ⊢
  rw [hyy] at h1 b1 ⊢
  rw [hzz] at h2 b2 ⊢
  rw [huu] at h3 b3 ⊢
  obtain ⟨hr1, hr2⟩ := hr
  obtain ⟨ny, rfl⟩ : ∃ n : Nat, y = n := ⟨y.toNat, by omega⟩
  obtain ⟨nz, rfl⟩ : ∃ n : Nat, z = n := ⟨z.toNat, by omega⟩
  obtain ⟨nu, rfl⟩ : ∃ n : Nat, u = n := ⟨u.toNat, by omega⟩
  rw [Int.toNat_natCast, Int.toNat_natCast, Int.toNat_natCast]
  have hny : ny < 256 := by omega
  have hnz : nz < 256 := by omega
  have hnu : nu < 256 := by omega
  have hlt : x % 16 < 16 := by omega
  have g0 : (x % 16 == 0) = false := by simp; omega
  have g1 : (x % 16 == 1) = false := by simp; omega
  have g2 : (x % 16 == 2) = false := by simp; omega
  have g3 : (x % 16 == 3) = false := by simp; omega
  have g4 : (x % 16 == 4) = false := by simp; omega
  have g5 : (x % 16 == 5) = false := by simp; omega
  have g6 : (x % 16 == 6) = false := by simp; omega
  have g7 : (x % 16 == 7) = false := by simp; omega
  have hb0 := Lib.hid (below1 w (.cells #[.int .i64 0, .int .i64 0, .int .i64 0, .slice none 0 0] 35))
  have HT := Lib.hid (row_list w (stepL 0 0 0 (.slice none 0 0)) 35)
  clear hx hA hxx hk hyy hzz huu hi b1 b2 b3
  go_enter Try.func39, Try.ntmps39
  go_wp2_with fail
  refine (h0.out _ hb0.out).mono ?_
  rintro e w1 ⟨rfl, rfl⟩
  go_wp2_with fail
  refine (h1.out _ hb0.out).mono ?_
  rintro e w1 ⟨rfl, rfl⟩
  go_wp2_with fail
  refine (h2.out _ hb0.out).mono ?_
  rintro e w1 ⟨rfl, rfl⟩
  go_wp2_with fail
  refine (h3.out _ hb0.out).mono ?_
  rintro e w1 ⟨rfl, rfl⟩
  go_wp2_with fail
  refine (short63_any ny nz nu hny hnz hnu _).mono ?_
  rintro e w2 ⟨_, rfl, ⟨vk, vv, vt, rfl, hok⟩, hb2⟩
  have HV := Lib.hid (shortR_ok ny nz nu hnz hnu)
  have HL := Lib.hid (short_len ny nz nu hnz hnu)
  have HOK := Lib.hid hok
  have hw2 : w.heap.size + 1 ≤ w2.heap.size := by have := hb2.size; simpa using this
  have HB2 := Lib.hid hb2
  clear hok hb2
  go_wp2_with fail
  refine (write62 _ _ rfl vk vv vt w2 HV.out HOK.out).mono ?_
  rintro e w3 ⟨A3, k3, c3, rfl, hk3, hby3, hb3⟩
  have HB3 := Lib.hid hb3
  have HP := Lib.hid (write61 (shortR ny nz nu).op A3 k3 c3 _ w3 hk3 (by have := HL.out; omega) hby3)
  have HK3 := Lib.hid hk3
  clear hby3 hb3 hk3
  go_wp2_with fail
  refine HP.out.mono ?_
  rintro e w4 ⟨v4, rfl, hv4, hb4⟩
  have hbs : Below (w.heap.size + 1) (w.alloc (.cells #[.int .i64 0, .int .i64 0, .int .i64 0, .slice none 0 0] 35)) w4 := by
    have e1 : (w.alloc (.cells #[.int .i64 0, .int .i64 0, .int .i64 0, .slice none 0 0] 35)).heap.size = w.heap.size + 1 := by simp
    have h2 := HB2.out
    rw [e1] at h2
    exact h2.trans ((HB3.out.mono hw2).trans (hb4.mono (Nat.le_trans hw2 HB3.out.size)))
  have hrow := World.rowIs.of_block HT.out (hbs.block _ (by omega))
  have hown : Own8 w4 (w.heap.size + 1) v4 (reqB ny nz nu) := by
    have := hv4
    rw [← HK3.out] at this
    exact owns_mono this.raw (Nat.le_trans hw2 HB3.out.size)
  obtain ⟨A4, c4, rfl, hby4⟩ := hown.val
  obtain ⟨L, hL⟩ : ∃ L, (reqB ny nz nu).length = L := ⟨_, rfl⟩
  rw [hL] at hown ⊢
  have HROW := Lib.hid hrow
  have HOWN := Lib.hid hown
  have HBS := Lib.hid hbs
  clear hv4 hb4 hby4 hrow hown hbs
  go_wp2_with ((with_reducible refine wpList_store_at2 (op := ⟨none, _, _, _, _, _⟩) rfl 35 _ _ rfl w.heap.size 0 (stepL 2 (x / 16) 0 (.slice A4 L c4)).toArray ?_ ?_ ?_ (stepL_size _ _ _ _) ?_ ?_); (· rfl); (· rfl); (· exact row_there HROW.out); (· exact stepL_one _ _ _ _ _ _); intro w5 hw5)
  have hD5 := store_all HROW.out (stepL 2 (x / 16) 0 (.slice A4 L c4)) rfl
  have hc5 := row_cells hD5 (stepL 2 (x / 16) 0 (.slice A4 L c4)) rfl fun i hi => rfl
  have hk5 : Kept [w.heap.size] w4 (w4.setCells w.heap.size 0 (stepL 2 (x / 16) 0 (.slice A4 L c4))) := kept_setCells (by simp) _ _ _ (Kept.refl _ _)
  have hbw : Below w.heap.size w w4 := hb0.out.trans (HBS.out.mono (by omega))
  have e2 := owns_mono (hk5.own HOWN.out (by omega)) (Nat.le_succ w.heap.size)
  refine bodyPost_ret (results_cell2 rfl _ _ ⟨w.heap.size, 0, none⟩ _ rfl (run_loadVar_at _ _ _ _ _ hc5 Try.underlying35 rfl (stepL_size _ _ _ _))) rfl ⟨.slice A4 L c4, rfl, ?_, hbw.trans (hk5.below hbw.size (by simp))⟩
  exact e2
theorem first_any (A : Option Addr) (k c : Nat) (xs : List Int) (w : World) (hk : xs.length = k) (hl : k ≤ 10000) (hx : ∀ y ∈ xs, 0 ≤ y ∧ y < 256) (hA : Byt w w.heap.size A c xs) :
    Calls Try.prog 39 #[.slice A k c] w (FirstPost (stepOf xs) ((stepN xs : Nat) : Int) w) := by
  have b0 := getD_byte hx 0
  have b1 := getD_byte hx 1
  rcases (show xs.getD 0 0 % 16 = 0 ∨ xs.getD 0 0 % 16 = 1 ∨ xs.getD 0 0 % 16 = 2 ∨ xs.getD 0 0 % 16 = 3 ∨ xs.getD 0 0 % 16 = 4 ∨ xs.getD 0 0 % 16 = 5 ∨ xs.getD 0 0 % 16 = 6 ∨ xs.getD 0 0 % 16 = 7 ∨ 8 ≤ xs.getD 0 0 % 16 by omega) with g | g | g | g | g | g | g | g | g
  · have f1 : stepOf xs = ⟨3, xs.getD 0 0 / 16, 0, []⟩ := by unfold stepOf; rw [if_pos (by omega)]
    have f2 : stepN xs = 1 := by unfold stepN; rw [if_pos (by omega)]
    rw [f1, f2]
    exact first_micro0 A k c xs w hk hl hx hA g
  · have f1 : stepOf xs = ⟨3, xs.getD 0 0 / 16, 0, []⟩ := by unfold stepOf; rw [if_pos (by omega)]
    have f2 : stepN xs = 1 := by unfold stepN; rw [if_pos (by omega)]
    rw [f1, f2]
    exact first_micro1 A k c xs w hk hl hx hA g
  · have f1 : stepOf xs = ⟨1, 0, 0, []⟩ := by unfold stepOf; rw [if_neg (by omega), if_pos (by omega)]
    have f2 : stepN xs = 1 := by unfold stepN; rw [if_pos (by omega)]
    rw [f1, f2]
    exact first_connect A k c xs w hk hl hx hA g
  · have f1 : stepOf xs = ⟨2, xs.getD 0 0 / 16, 0, takeZ (xs.getD 1 0).toNat (xs.drop 2)⟩ := by unfold stepOf; rw [if_neg (by omega), if_neg (by omega), if_pos (by omega)]
    have f2 : ((stepN xs : Nat) : Int) = 2 + xs.getD 1 0 := by unfold stepN; rw [if_neg (by omega), if_pos (by omega)]; omega
    rw [f1, f2]
    exact first_data A k c xs w hk hl hx hA g
  · have f1 : stepOf xs = ⟨4, 0, xs.getD 1 0, []⟩ := by unfold stepOf; rw [if_neg (by omega), if_neg (by omega), if_neg (by omega), if_pos (by omega)]
    have f2 : stepN xs = 2 := by unfold stepN; rw [if_neg (by omega), if_neg (by omega), if_pos (by omega)]
    rw [f1, f2]
    exact first_tick A k c xs w hk hl hx hA g
  · have f1 : stepOf xs = ⟨5, 0, xs.getD 1 0, []⟩ := by unfold stepOf; rw [if_neg (by omega), if_neg (by omega), if_neg (by omega), if_neg (by omega), if_pos (by omega)]
    have f2 : stepN xs = 2 := by unfold stepN; rw [if_neg (by omega), if_neg (by omega), if_pos (by omega)]
    rw [f1, f2]
    exact first_sweep A k c xs w hk hl hx hA g
  · have f1 : stepOf xs = ⟨6, xs.getD 0 0 / 16, xs.getD 1 0, []⟩ := by unfold stepOf; rw [if_neg (by omega), if_neg (by omega), if_neg (by omega), if_neg (by omega), if_neg (by omega), if_pos (by omega)]
    have f2 : stepN xs = 2 := by unfold stepN; rw [if_neg (by omega), if_neg (by omega), if_pos (by omega)]
    rw [f1, f2]
    exact first_drain A k c xs w hk hl hx hA g
  · have f1 : stepOf xs = ⟨7, xs.getD 0 0 / 16, 0, []⟩ := by unfold stepOf; rw [if_neg (by omega), if_neg (by omega), if_neg (by omega), if_neg (by omega), if_neg (by omega), if_neg (by omega), if_pos (by omega)]
    have f2 : stepN xs = 1 := by unfold stepN; rw [if_neg (by omega), if_neg (by omega), if_neg (by omega), if_pos (by omega)]
    rw [f1, f2]
    exact first_gone A k c xs w hk hl hx hA g
  · have f1 : stepOf xs = ⟨2, xs.getD 0 0 / 16, 0, reqB (xs.getD 1 0).toNat (xs.getD 2 0).toNat (xs.getD 3 0).toNat⟩ := by
      unfold stepOf
      rw [if_neg (by omega), if_neg (by omega), if_neg (by omega), if_neg (by omega), if_neg (by omega), if_neg (by omega), if_neg (by omega)]
    have f2 : stepN xs = 4 := by
      unfold stepN
      rw [if_neg (by omega), if_neg (by omega), if_neg (by omega), if_neg (by omega)]
    rw [f1, f2]
    exact first_req A k c xs w hk hl hx hA g
end Go.Proofs.Ytnmhmabifeapkaa.Ord
