/- Walk of the law OrderFulls. -/
import Derived.Test.YtnmhmabifeapkaaP5
import Derived.Test.YtnmhmabifeapkaaW2
namespace Go.Proofs.Ytnmhmabifeapkaa.Ord
open Go.RowKit
set_option linter.unusedVariables false

theorem commits_long (A : Option Addr) (n cap : Nat) (w : World) (hl : 4096 < n) (hn : n ≤ 5000) :
    Calls Try.prog 25 #[.slice A n cap] w fun e w' => e = .returned (.tuple #[.slice none 0 0, .int .i64 5]) ∧ RowKit.Below w.heap.size w w' := by
  have hb := below1 w (.cells #[.slice A n cap] 55)
  go_enter Try.func25, Try.ntmps25
  go_wp2_with fail
  go_ret2
  first
  | exact ⟨rfl, RowKit.Below.refl _ _⟩
  | exact ⟨rfl, hb⟩

/-- the calls of the row when the first k are laid -/
noncomputable def part (d k : Nat) : Nat → CallC := fun q => if q < k then fullC d q else zeroC
theorem part_zero (d : Nat) : part d 0 = fun _ => zeroC := by funext q; simp [part]
theorem part_succ (d k : Nat) : updC (part d k) k (fullC d k) = part d (k + 1) := by
  funext q
  unfold updC part
  by_cases h : q = k
  · rw [if_pos h, if_pos (by omega), h]
  · rw [if_neg h]
    by_cases h2 : q < k
    · rw [if_pos h2, if_pos (by omega)]
    · rw [if_neg h2, if_neg (by omega)]
def idx (n : Nat) : List Value := (List.range n).map fun (x : Nat) => Value.int .i64 (x : Int)
theorem idx_succ (n : Nat) : idx (n + 1) = idx n ++ [.int .i64 n] := by simp [idx, List.range_succ]
/-- the state of the loop that lays the calls -/
def LoopR (w : World) (N d k : Nat) (v : Value) (wr : World) : Prop :=
  RowC wr w.heap.size N (part d k) ∧ wr.ownsRow (w.heap.size + 1) 3 1 v (min k d) (idx (min k d)) ∧ RowKit.Below w.heap.size w wr ∧ w.heap.size < wr.heap.size
theorem loop_start (w : World) (N d : Nat) : LoopR w N d 0 (.slice none 0 0) (w.alloc (.cells (madeCells zero64.cells (N * 23)) 64)) := by
  refine ⟨by rw [part_zero]; exact RowC.made w N, ?_, below1 w _, by simp⟩
  rw [Nat.zero_min]
  exact World.ownsRow_nil _ _ _ _
theorem fullC_no {d k : Nat} (h : ¬ k < d) : mkC ((k : Int) % 2) ((k : Int) / 2) k (-1) (-1) = fullC d k := by
  unfold fullC
  rw [if_neg h]
  simp
theorem fullC_yes {d k : Nat} (h : k < d) : ({ mkC ((k : Int) % 2) ((k : Int) / 2) k (-1) (-1) with d := 5000 + (k : Int) } : CallC) = fullC d k := by
  unfold fullC mkC
  rw [if_pos h]
  simp
theorem loop_no {w w1 w2 : World} {N d k : Nat} {v : Value} (h : LoopR w N d k v w1) (hk : k < N) (hd : ¬ k < d) (hw2 : w2 = w1.setCells w.heap.size (k * 23) (mkC ((k : Int) % 2) ((k : Int) / 2) k (-1) (-1)).cells) :
    LoopR w N d (k + 1) v w2 := by
  obtain ⟨h1, h2, h3, h4⟩ := h
  subst hw2
  rw [fullC_no hd]
  have e : min (k + 1) d = min k d := by omega
  refine ⟨by rw [← part_succ]; exact h1.store k _, by rw [e]; exact owns_setCells (by omega) _ _ _ h2, below_setCells (Nat.le_refl _) _ _ _ h3, by rw [size_setCells]; exact h4⟩
theorem loop_mid {w w1 w2 : World} {N d k : Nat} {v : Value} (h : LoopR w N d k v w1) (hk : k < N) (hd : k < d) (hw2 : w2 = w1.setCells w.heap.size (k * 23) (mkC ((k : Int) % 2) ((k : Int) / 2) k (-1) (-1)).cells) :
    w2.cell? ⟨w.heap.size, k * 23 + 20, none⟩ = some (.int .i64 (-1)) ∧ w2.frozen? ⟨w.heap.size, k * 23 + 20, none⟩ = false ∧
    RowC (w2.setCell ⟨w.heap.size, k * 23 + 20, none⟩ (.int .i64 (5000 + (k : Int)))) w.heap.size N (part d (k + 1)) ∧
    (w2.setCell ⟨w.heap.size, k * 23 + 20, none⟩ (.int .i64 (5000 + (k : Int)))).ownsRow (w.heap.size + 1) 3 1 v k (idx k) ∧
    RowKit.Below w.heap.size w (w2.setCell ⟨w.heap.size, k * 23 + 20, none⟩ (.int .i64 (5000 + (k : Int)))) ∧
    w.heap.size + 1 ≤ (w2.setCell ⟨w.heap.size, k * 23 + 20, none⟩ (.int .i64 (5000 + (k : Int)))).heap.size := by
  obtain ⟨h1, h2, h3, h4⟩ := h
  subst hw2
  have e : min k d = k := by omega
  rw [e] at h2
  have hR := h1.store k (mkC ((k : Int) % 2) ((k : Int) / 2) k (-1) (-1))
  have hat : updC (part d k) k (mkC ((k : Int) % 2) ((k : Int) / 2) k (-1) (-1)) k = mkC ((k : Int) % 2) ((k : Int) / 2) k (-1) (-1) := by simp [updC]
  have hc := hR.at hk 20 (.int .i64 (-1)) (by rw [hat]; rfl)
  rw [Addr.add_mid] at hc
  have hR2 := hR.done k (5000 + (k : Int))
  rw [hat, fullC_yes hd] at hR2
  have e2 : updC (updC (part d k) k (mkC ((k : Int) % 2) ((k : Int) / 2) k (-1) (-1))) k (fullC d k) = part d (k + 1) := by
    rw [← part_succ]; funext q; unfold updC; split <;> rfl
  rw [e2] at hR2
  refine ⟨hc, World.rowIs.frozen hR _, hR2, ?_, ?_, ?_⟩
  · exact ownsRow_setCell_below (owns_setCells (by omega) _ _ _ h2) (by show w.heap.size < w.heap.size + 1; omega) _
  · exact (below_setCells (Nat.le_refl _) _ _ _ h3).setCell (by exact Nat.le_refl _) _
  · simp; omega
theorem loop_yes {w w3 w4 : World} {N d k : Nat} {v4 : Value} (hd : k < d) (hR : RowC w3 w.heap.size N (part d (k + 1))) (hb : RowKit.Below w.heap.size w w3) (hs : w.heap.size + 1 ≤ w3.heap.size)
    (hown : w4.ownsRow (w.heap.size + 1) 3 1 v4 (k + 1) (idx k ++ [.int .i64 k])) (hb4 : RowKit.Below (w.heap.size + 1) w3 w4) : LoopR w N d (k + 1) v4 w4 := by
  have e : min (k + 1) d = k + 1 := by omega
  refine ⟨World.rowIs.of_block hR (hb4.block _ (by omega)), by rw [e, idx_succ]; exact hown, hb.trans (hb4.mono (by omega)), by have := hb4.size; omega⟩
theorem loop_end {w wr : World} {N d : Nat} {v : Value} (hd : d ≤ N) (h : LoopR w N d N v wr) : CallsAt wr wr.heap.size (some ⟨w.heap.size, 0, none⟩) (fulls N d) ∧ wr.ownsRow (w.heap.size + 1) 3 1 v d (idx d) ∧ RowKit.Below w.heap.size w wr := by
  obtain ⟨h1, h2, h3, h4⟩ := h
  have e : min N d = d := by omega
  rw [e] at h2
  refine ⟨?_, h2, h3⟩
  have := h1.calls
  have e2 : (List.range N).map (part d N) = fulls N d := List.map_congr_left fun q hq => by simp [part, List.mem_range.1 hq]
  rwa [e2] at this
theorem RowC.there2 {w : World} {L N : Nat} {c : Nat → CallC} (h : RowC w L N c) {i : Nat} (hi : i < N) (x : CallC) : w.there L (i * 23) x.cells.toArray.size := by
  have e : x.cells.toArray.size = 23 := by rw [List.size_toArray, cells_len]
  rw [e]
  exact h.there hi
theorem mkC_one (s n a d t : Int) : (mkC s n a d t).cells.toArray.all (·.oneCell') = true := CallC.allOne _

theorem ways_step {W d q : Nat} (hW : W ≤ 100000) (hd : d ≤ 12) (hq : q ≤ 6) : wrap64 ((wrap64 ((W : Int) * (((d : Int) + 1) / 2 + ((q : Int) + 1)))).tdiv ((q : Int) + 1)) = ((W * ((d + 1) / 2 + (q + 1)) / (q + 1) : Nat) : Int) := by
  have e1 : (W : Int) * (((d : Int) + 1) / 2 + ((q : Int) + 1)) = ((W * ((d + 1) / 2 + (q + 1)) : Nat) : Int) := by simp
  have hM : W * ((d + 1) / 2 + (q + 1)) ≤ 100000 * 13 := Nat.mul_le_mul hW (by omega)
  rw [e1]
  generalize W * ((d + 1) / 2 + (q + 1)) = M at *
  have h1 : wrap64 (M : Int) = (M : Int) := by unfold wrap64; omega
  rw [h1]
  have h2 : ((M : Int)).tdiv ((q : Int) + 1) = ((M / (q + 1) : Nat) : Int) := by
    rw [Int.tdiv_eq_ediv_of_nonneg (by omega)]
    simp
  rw [h2]
  have h3 : M / (q + 1) ≤ M := Nat.div_le_self _ _
  generalize M / (q + 1) = D at *
  unfold wrap64; omega

def idxZ (d : Nat) : List Int := (List.range d).map fun (n : Nat) => (n : Int)
theorem idxZ_len (d : Nat) : (idxZ d).length = d := by simp [idxZ]
theorem own_idx {w : World} {base d : Nat} {v : Value} (h : w.ownsRow base 3 1 v d (idx d)) : ∃ p c, v = .slice p d c ∧ d ≤ c ∧ IntsAt w w.heap.size p (idxZ d) := by
  have e : idx d = (idxZ d).map (Value.int .i64) := by simp [idx, idxZ, List.map_map, Function.comp_def]
  rcases owns_shape h (by decide) with ⟨h1, h2, _⟩ | ⟨g, cap, h1, _, _, h2, _⟩
  · subst h1 h2
    exact ⟨none, 0, rfl, Nat.le_refl _, fun i hi => by rw [idxZ_len] at hi; omega⟩
  · subst h1
    rw [e] at h
    exact ⟨_, cap, rfl, h2, IntsAt.of_owns h⟩

theorem fulls_c (A : Option Addr) (N d cap : Nat) (w : World) (hd : d ≤ N) (hN : N ≤ 4096) (hA : CallsAt w w.heap.size A (fulls N d)) :
    Calls Try.prog 25 #[.slice A N cap] w fun e w' => ∃ p c, e = .returned (.tuple #[.slice p d c, .int .i64 0]) ∧ IntsAt w' w'.heap.size p (idxZ d) ∧ RowKit.Below w.heap.size w w' := by
  have h := commits_any A (fulls N d) cap w (by rw [fulls_len]; exact hN) hA
  rw [fulls_len] at h
  refine h.mono fun e w' h => ?_
  obtain ⟨v, he, hown⟩ := h.1 _ (fulls_commits hd)
  rw [List.length_range] at hown
  obtain ⟨p, c, rfl, _, hX⟩ := own_idx (base := w.heap.size) (d := d) (by exact hown)
  exact ⟨p, c, he, hX, h.2.2⟩
theorem fulls_o (A X : Option Addr) (N d cap capx : Nat) (w : World) (hd : d ≤ N) (hN : N ≤ 4096) (hc : d ≤ capx) (hA : CallsAt w w.heap.size A (fulls N d)) (hX : IntsAt w w.heap.size X (idxZ d)) :
    Calls Try.prog 35 #[.slice A N cap, .slice X d capx] w fun e w' => e = .returned (.tuple #[.bool true, .int .i64 0]) ∧ RowKit.Below w.heap.size w w' := by
  have h := cons_any A X (fulls N d) (idxZ d) cap capx w (by rw [idxZ_len]; exact hc) (by rw [fulls_len]; exact hN) (by rw [idxZ_len]; omega) hA hX
  rw [fulls_len, idxZ_len] at h
  refine h.mono fun e w' h => ?_
  unfold ConsPost at h
  have h1 := fulls_ord hd
  have h2 := fulls_cons hd
  unfold idxZ at h
  rw [h1, h2] at h
  exact h
theorem fulls_n (A : Option Addr) (N d cap : Nat) (w : World) (hd : d ≤ N) (hd2 : d ≤ 12) (hN : N ≤ 4096) (hA : CallsAt w w.heap.size A (fulls N d)) :
    Calls Try.prog 33 #[.slice A N cap] w fun e w' => e = .returned (.tuple #[.int .i64 ((waysK d (d / 2) : Nat) : Int), .int .i64 0]) ∧ RowKit.Below w.heap.size w w' := by
  have h := count_any A (fulls N d) cap w (by rw [fulls_len]; exact hN) hA (by rw [fulls_done hd, List.length_range]; exact hd2)
  rw [fulls_len] at h
  refine h.mono fun e w' h => ?_
  unfold CountPost at h
  rw [fulls_count hd hd2] at h
  exact h
theorem ints_idx (X Y : Option Addr) (d cx cy : Nat) (w : World) (hd : d ≤ 12) (hX : IntsAt w w.heap.size X (idxZ d)) (hY : IntsAt w w.heap.size Y (idxZ d)) :
    Calls Try.prog 27 #[.slice X d cx, .slice Y d cy] w fun e w' => e = .returned (.bool true) ∧ RowKit.Below w.heap.size w w' := by
  have h := ints_any X Y (idxZ d) (idxZ d) cx cy w (by rw [idxZ_len]; omega) (by rw [idxZ_len]; omega) hX hY
  rw [idxZ_len] at h
  exact h.mono fun e w' h => ⟨by simpa using h.1, h.2⟩

set_option maxRecDepth 100000 in
set_option maxHeartbeats 1000000 in
theorem law9_main (N d : Nat) (w : World) (hN1 : 4094 ≤ N) (hN2 : N ≤ 4098) (hd : d ≤ 12) : Law 9 #[.int .i64 N, .int .u8 d] w := by
  unfold Law
  have hg1 : decide ((N : Int) < 4094) = false := by simp; omega
  have hg2 : decide ((4098 : Int) < (N : Int)) = false := by simp; omega
  have hg3 : decide ((12 : Int) < (d : Int)) = false := by simp; omega
  go_enter Try.func9, Try.ntmps9
  go_wp2_with ((with_reducible refine wpList_make_row (o := ⟨some 29, _, _, _, _, _⟩) rfl 55 _ _ rfl 64 zero64 23 296 N Try.underlying55 Try.info64 ?_ ?_ (by omega) (by omega) ?_); (· rfl); (· rfl); (intro w0 hw0; have hst := loop_start w N d; rw [← hw0] at hst; clear hw0))
  go_loopw [6, 8] (fun v j wr => ∃ k : Nat, k ≤ N ∧ j = .int .i64 k ∧ LoopR w N d k v wr) (fun _ j _ => N - (intOf j).toNat)
  case atStart => exact ⟨0, Nat.zero_le _, rfl, hst⟩
  case round =>
    obtain ⟨k, hk, rfl, hL⟩ := hrel
    by_cases hlt : k < N
    · have hth := Lib.hid (hL.1.there2 hlt (mkC ((k : Int) % 2) ((k : Int) / 2) k (-1) (-1)))
      by_cases hkd : k < d
      · have hg : decide ((k : Int) < (d : Int)) = true := by simp; omega
        go_wp2_with (first
          | ((with_reducible refine wpList_build_to (o := ⟨some 42, _, _, _, _, _⟩) rfl 64 _ rfl [(0, .int .i64 ((k : Int) % 2)), (1, .int .i64 ((k : Int) / 2)), (5, .int .i64 (k : Int)), (6, .int .i64 (-1)), (7, .int .i64 (-1))] _ ?_ (builtF _ _ _) ?_); (· simp only [List.map_toArray, List.map_cons, List.map_nil]; rfl))
          | ((with_reducible refine wpList_store_at (op := ⟨none, _, _, _, _, _⟩) rfl 64 _ _ rfl w.heap.size (k * 23) (mkC ((k : Int) % 2) ((k : Int) / 2) k (-1) (-1)).cells.toArray ?_ ?_ hth.out (callSizeA _) (mkC_one _ _ _ _ _) ?_); (· rfl); (· rfl); (intro w2 hw2; obtain ⟨hc2, hf2, hh⟩ := loop_mid hL hlt hkd hw2; have HH := Lib.hid hh; clear hw2 hh))
          | ((with_reducible refine wpList_append_one (o := ⟨some 57, _, _, _, _, _⟩) rfl _ _ 56 rfl (w.heap.size + 1) 3 (.int .i64 0) 8 Try.underlying56 Try.info3 rfl u6 k (idx k) ?_ ?_ (.int .i64 k) w2.heap.size ?_ ?_ ?_ ?_ ?_ ?_ ?_); (· rfl); (· exact HH.out.2.1); (· rfl); (· first | rfl | simp); (· rfl); (· unfold maxLen; omega); (· omega); (· exact HH.out.2.2.2); intro v4 w4 hown4 hb4))
        go_roundw
        case rel => exact ⟨k + 1, by omega, by go_num, loop_yes hkd HH.out.1 HH.out.2.2.1 HH.out.2.2.2 hown4 hb4⟩
        case measure => simp [intOf]; omega
      · have hg : decide ((k : Int) < (d : Int)) = false := by simp; omega
        go_wp2_with (first
          | ((with_reducible refine wpList_build_to (o := ⟨some 42, _, _, _, _, _⟩) rfl 64 _ rfl [(0, .int .i64 ((k : Int) % 2)), (1, .int .i64 ((k : Int) / 2)), (5, .int .i64 (k : Int)), (6, .int .i64 (-1)), (7, .int .i64 (-1))] _ ?_ (builtF _ _ _) ?_); (· simp only [List.map_toArray, List.map_cons, List.map_nil]; rfl))
          | ((with_reducible refine wpList_store_at (op := ⟨none, _, _, _, _, _⟩) rfl 64 _ _ rfl w.heap.size (k * 23) (mkC ((k : Int) % 2) ((k : Int) / 2) k (-1) (-1)).cells.toArray ?_ ?_ hth.out (callSizeA _) (mkC_one _ _ _ _ _) ?_); (· rfl); (· rfl); (intro w2 hw2; have hL2 := loop_no hL hlt hkd hw2; clear hw2)))
        go_roundw
        case rel => exact ⟨k + 1, by omega, by go_num, hL2⟩
        case measure => simp [intOf]; omega
    · obtain rfl : N = k := by omega
      obtain ⟨hA, hO, hb⟩ := loop_end (by omega) hL
      obtain ⟨p, c, rfl, hdc, hX⟩ := own_idx hO
      have HA := Lib.hid hA
      have HX := Lib.hid hX
      clear hA hX hO hL hst
      go_wp2_with fail
      go_loopw [7, 10] (fun v j w' => ∃ q : Nat, q ≤ d / 2 ∧ j = .int .i64 ((q : Int) + 1) ∧ v = .int .i64 (waysK d q) ∧ w' = wr) (fun _ j _ => 10 - (intOf j).toNat)
      case atStart => exact ⟨0, Nat.zero_le _, rfl, rfl, rfl⟩
      case round =>
        obtain ⟨q, hq, rfl, rfl, rfl⟩ := hrel
        by_cases hqh : q < d / 2
        · have hgq : decide ((q : Int) + 1 ≤ (d : Int) / 2) = true := by simp; omega
          have hwb := waysK_bound (d := d) (k := q) hd (by omega)
          obtain ⟨W, hW⟩ : ∃ W, waysK d q = W := ⟨_, rfl⟩
          have HW := Lib.hid hW
          rw [hW] at hwb ⊢
          clear hW
          go_wp2_with fail
          refine ⟨⟨q + 1, by omega, by simp, ?_, trivial⟩, by simp [intOf]; omega⟩
          rw [ways_step hwb hd (by omega)]
          show _ = Value.int IntKind.i64 ((waysK d q * ((d + 1) / 2 + (q + 1)) / (q + 1) : Nat) : Int)
          rw [HW.out]
        · obtain rfl : q = d / 2 := by omega
          have hgq : decide (((d / 2 : Nat) : Int) + 1 ≤ (d : Int) / 2) = false := by simp; omega
          by_cases hlong : N ≤ 4096
          · have hgl : decide ((4096 : Int) < (N : Int)) = false := by simp; omega
            obtain ⟨W, hW⟩ : ∃ W, waysK d (d / 2) = W := ⟨_, rfl⟩
            have HN := Lib.hid fun w3 hA => fulls_n (some ⟨w.heap.size, 0, none⟩) N d N w3 (by omega) hd hlong hA
            rw [hW] at HN ⊢
            have hWW : ((W : Int) == (W : Int)) = true := by simp
            clear hW
            go_wp2_with fail
            refine (fulls_c _ N d N wr (by omega) hlong HA.out).mono ?_
            rintro e w1 ⟨p1, c1, rfl, hX1, hb1⟩
            have HX1 := Lib.hid hX1
            have hb01 := hb.trans (hb1.mono hb.size)
            have HA1 := Lib.hid ((HA.out.below hb1 (Nat.le_refl _)).mono hb1.size)
            have HY1 := Lib.hid ((HX.out.below hb1 (Nat.le_refl _)).mono hb1.size)
            clear hX1
            go_wp2_with fail
            refine (fulls_o _ _ N d N c w1 (by omega) hlong hdc HA1.out HY1.out).mono ?_
            rintro e w2 ⟨rfl, hb2⟩
            have hb02 := hb01.trans (hb2.mono hb01.size)
            have HA2 := Lib.hid ((HA1.out.below hb2 (Nat.le_refl _)).mono hb2.size)
            have HY2 := Lib.hid ((HY1.out.below hb2 (Nat.le_refl _)).mono hb2.size)
            have HX2 := Lib.hid ((HX1.out.below hb2 (Nat.le_refl _)).mono hb2.size)
            go_wp2_with fail
            refine (HN.out w2 HA2.out).mono ?_
            rintro e w3 ⟨rfl, hb3⟩
            have hb03 := hb02.trans (hb3.mono hb02.size)
            have HY3 := Lib.hid ((HY2.out.below hb3 (Nat.le_refl _)).mono hb3.size)
            have HX3 := Lib.hid ((HX2.out.below hb3 (Nat.le_refl _)).mono hb3.size)
            go_wp2_with fail
            refine (ints_idx _ _ d c1 c w3 hd HX3.out HY3.out).mono ?_
            rintro e w4 ⟨rfl, hb4⟩
            have hb04 := hb03.trans (hb4.mono hb03.size)
            go_wp2_with fail
            refine (known_any _).mono ?_
            rintro e w5 ⟨rfl, hb5⟩
            go_wp2_with fail
            go_ret
            exact ⟨rfl, hb04.trans (hb5.mono hb04.size)⟩
          · have hgl : decide ((4096 : Int) < (N : Int)) = true := by simp; omega
            go_wp2_with fail
            refine (commits_long _ N N wr (by omega) (by omega)).mono ?_
            rintro e w1 ⟨rfl, hb1⟩
            have hb01 := hb.trans (hb1.mono hb.size)
            go_wp2_with fail
            refine (cons_long _ _ N d N c w1 (by omega) (by omega)).mono ?_
            rintro e w2 ⟨rfl, hb2⟩
            have hb02 := hb01.trans (hb2.mono hb01.size)
            go_wp2_with fail
            refine (count_long _ N N w2 (by omega) (by omega)).mono ?_
            rintro e w3 ⟨rfl, hb3⟩
            have hb03 := hb02.trans (hb3.mono hb02.size)
            go_wp2_with fail
            refine (known_any _).mono ?_
            rintro e w4 ⟨rfl, hb4⟩
            go_wp2_with fail
            go_ret
            exact ⟨rfl, hb03.trans (hb4.mono hb03.size)⟩

set_option maxRecDepth 100000 in
theorem law9_lo (a b : Int) (w : World) (h : a < 4094) : Law 9 #[.int .i64 a, .int .u8 b] w := by
  unfold Law
  have hg1 : decide (a < 4094) = true := by simp; omega
  go_enter Try.func9, Try.ntmps9
  go_wp2_with fail
  refine (known_any _).mono ?_
  rintro e w1 ⟨rfl, hb1⟩
  go_wp2_with fail
  go_ret
  exact ⟨rfl, hb1⟩
set_option maxRecDepth 100000 in
theorem law9_hi (a b : Int) (w : World) (h0 : ¬ a < 4094) (h : 4098 < a) : Law 9 #[.int .i64 a, .int .u8 b] w := by
  unfold Law
  have hg1 : decide (a < 4094) = false := by simp; omega
  have hg2 : decide (4098 < a) = true := by simp; omega
  go_enter Try.func9, Try.ntmps9
  go_wp2_with fail
  refine (known_any _).mono ?_
  rintro e w1 ⟨rfl, hb1⟩
  go_wp2_with fail
  go_ret
  exact ⟨rfl, hb1⟩
set_option maxRecDepth 100000 in
theorem law9_done (a b : Int) (w : World) (h0 : ¬ a < 4094) (h1 : ¬ 4098 < a) (h : 12 < b) : Law 9 #[.int .i64 a, .int .u8 b] w := by
  unfold Law
  have hg1 : decide (a < 4094) = false := by simp; omega
  have hg2 : decide (4098 < a) = false := by simp; omega
  have hg3 : decide (12 < b) = true := by simp; omega
  go_enter Try.func9, Try.ntmps9
  go_wp2_with fail
  refine (known_any _).mono ?_
  rintro e w1 ⟨rfl, hb1⟩
  go_wp2_with fail
  go_ret
  exact ⟨rfl, hb1⟩

theorem orderFulls_walk : orderFullsWalk := fun a b w ha hb => by
  by_cases h1 : a < 4094
  · exact law9_lo a b w h1
  · by_cases h2 : 4098 < a
    · exact law9_hi a b w h1 h2
    · by_cases h3 : 12 < b
      · exact law9_done a b w h1 h2 h3
      · have hb0 : 0 ≤ b := by
          simp [Lit.wf] at hb
          have h0 : IntKind.u8.min = 0 := rfl
          omega
        obtain ⟨N, rfl⟩ := Int.eq_ofNat_of_zero_le (show 0 ≤ a by omega)
        obtain ⟨d, rfl⟩ := Int.eq_ofNat_of_zero_le hb0
        exact law9_main N d w (by omega) (by omega) (by omega)

/-- calls at the limit are ordered, judged and counted -/
theorem orderFulls_proved : Rows.OrderFullsSaid := orderFulls_of orderFulls_walk
#print axioms orderFulls_proved
end Go.Proofs.Ytnmhmabifeapkaa.Ord
