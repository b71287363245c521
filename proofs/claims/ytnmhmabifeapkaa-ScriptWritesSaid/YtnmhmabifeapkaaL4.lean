/- The law ScriptWrites is proved: whatever the argument, it returns true, and the argument reads as it did. No conditions. -/
import Derived.Test.YtnmhmabifeapkaaR34
import Derived.Test.YtnmhmabifeapkaaR27
import Derived.Test.YtnmhmabifeapkaaW3
namespace Go.Proofs.Ytnmhmabifeapkaa.Ord
open Go.RowKit
set_option linter.unusedVariables false

/-! ### the plain law -/
def noOf (rs : List StepR) : Int := if rs.all validR then 0 else 2
def wantL (rs : List StepR) : List Int := (rs.filter validR).flatMap putL
theorem outL_from : ∀ (rs : List StepR) (acc : List Int), ((acc ++ rs.flatMap putL).length ≤ 4096 → rs.foldl outStep acc = acc ++ rs.flatMap putL) ∧ (4096 < (acc ++ rs.flatMap putL).length → 4096 < (rs.foldl outStep acc).length)
  | [], acc => by simp
  | r :: rs, acc => by
    obtain ⟨h1, h2⟩ := outL_from rs (outStep acc r)
    rw [List.foldl_cons, List.flatMap_cons, ← List.append_assoc]
    by_cases ha : acc.length ≤ 4096
    · have e : outStep acc r = acc ++ putL r := by unfold outStep; rw [if_pos ha]
      rw [e] at h1 h2 ⊢
      exact ⟨h1, h2⟩
    · have e : outStep acc r = acc := by unfold outStep; rw [if_neg ha]
      rw [e] at h1 h2 ⊢
      refine ⟨fun h => ?_, fun _ => h2 ?_⟩
      · simp only [List.length_append] at h; omega
      · simp only [List.length_append]; omega
theorem wantL_all {rs : List StepR} (h : rs.all validR = true) : wantL rs = rs.flatMap putL := by
  unfold wantL
  rw [List.filter_eq_self.2 (List.all_eq_true.1 h)]
theorem bytL_put {r : StepR} (h : validR r = true) : bytL r = putL r := by
  unfold validR stepValid at h
  unfold bytL putL
  by_cases k1 : r.k = 1
  · simp [k1]
  by_cases k2 : r.k = 2
  · simp [k2]
  by_cases k3 : r.k = 3
  · simp [k3]
  by_cases k4 : r.k = 4
  · simp [k4]
  by_cases k5 : r.k = 5
  · simp [k5]
  by_cases k6 : r.k = 6
  · simp [k6]
  by_cases k7 : r.k = 7
  · simp [k7]
  · simp [k1, k2, k3, k4, k5, k6, k7] at h
theorem wantL_snoc (rs : List StepR) (r : StepR) : wantL (rs ++ [r]) = wantL rs ++ if validR r then putL r else [] := by
  unfold wantL
  rw [List.filter_append, List.flatMap_append]
  congr 1
  by_cases h : validR r = true <;> simp [h]
theorem noOf_snoc (rs : List StepR) (r : StepR) : noOf (rs ++ [r]) = if validR r then noOf rs else 2 := by
  unfold noOf
  rw [List.all_append]
  by_cases h : validR r = true <;> simp [h]
theorem noOf_or (rs : List StepR) : noOf rs = 0 ∨ noOf rs = 2 := by unfold noOf; split <;> simp
theorem writeRes_want (rs : List StepR) : writeRes rs = if noOf rs = 0 then (if (wantL rs).length ≤ 4096 then (wantL rs, 0) else ([], 5)) else ([], 2) := by
  by_cases h : rs.all validR = true
  · rw [if_pos (by simp [noOf, h]), wantL_all h]
    obtain ⟨h1, h2⟩ := outL_from rs []
    simp only [List.nil_append] at h1 h2
    unfold writeRes outL
    rw [if_pos h]
    by_cases hl : (rs.flatMap putL).length ≤ 4096
    · rw [h1 hl]
    · rw [if_neg hl, if_neg (by have := h2 (by omega); omega)]
  · rw [if_neg (by simp [noOf, h])]
    unfold writeRes
    rw [if_neg h]

set_option maxRecDepth 100000 in
theorem law4_many (A : Option Addr) (n c : Nat) (rs : List StepR) (w : World) (hn : rs.length = n) (hl : n ≤ maxLen) (hA : StepsG w w.heap.size A rs) (hf : fewOk rs = false) :
    Calls Try.prog 4 #[.slice A n c] w fun e w' => e = .returned (.bool true) ∧ Below w.heap.size w w' := by
  have HF := Lib.hid (few14_any A n c rs w hn hl hA)
  rw [hf] at HF
  clear hn hA hf
  go_enter Try.func4, Try.ntmps4
  go_wp2_with fail
  refine HF.out.mono ?_
  rintro e w1 ⟨rfl, rfl⟩
  go_wp2_with fail
  refine (known30_any _).mono ?_
  rintro e w2 ⟨rfl, hb⟩
  go_wp2_with fail
  go_ret
  exact ⟨rfl, hb⟩

set_option maxRecDepth 100000 in
set_option maxHeartbeats 4000000 in
theorem law4_few (A : Option Addr) (n c : Nat) (rs : List StepR) (w : World) (hn : rs.length = n) (hl : n ≤ maxLen) (hA : StepsG w w.heap.size A rs) (hf : fewOk rs = true) :
    Calls Try.prog 4 #[.slice A n c] w fun e w' => e = .returned (.bool true) ∧ Below w.heap.size w w' := by
  have HF := Lib.hid (few14_any A n c rs w hn hl hA)
  rw [hf] at HF
  obtain ⟨hf1, hf2⟩ := fewOk.out hf
  have HF2 := Lib.hid hf2
  have HA := Lib.hid (hA.small fun r hr => by have := hf2 r hr; omega)
  have hn60 : n ≤ 60 := by omega
  have HN := Lib.hid hn
  clear hn hA hf hf1 hf2 hl
  go_enter Try.func4, Try.ntmps4
  go_wp2_with fail
  refine HF.out.mono ?_
  rintro e w1 ⟨rfl, rfl⟩
  clear HF
  go_wp2_with fail
  go_loopw [3, 4, 5] (fun v no j wr => ∃ k : Nat, k ≤ n ∧ j = .int .i64 k ∧ no = .int .i64 (noOf (rs.take k)) ∧ (wantL (rs.take k)).length ≤ 300 * k ∧ Own8 wr w1.heap.size v (wantL (rs.take k)) ∧ Below w1.heap.size w1 wr) (fun _ _ j _ => n - (intOf j).toNat)
  case atStart => exact ⟨0, Nat.zero_le _, rfl, rfl, by simp [wantL], Own8.nil _ _, Below.refl _ _⟩
  case round =>
    obtain ⟨k, hk, rfl, rfl, hwl, hown, hb⟩ := hrel
    have HO := Lib.hid hown
    clear hown
    by_cases hlt : k < n
    · obtain ⟨b, off, d, rfl, hbB, hck, hdk⟩ := (HA.out.below hb (Nat.le_refl _)).at (n := k) (by rw [HN.out]; exact hlt)
      have hsn := sAt_take (rs := rs) (k := k) (by rw [HN.out]; exact hlt)
      have hw2 := wantL_snoc (rs.take k) (sAt rs k)
      have hn2 := noOf_snoc (rs.take k) (sAt rs k)
      rw [← hsn] at hw2 hn2
      clear hsn
      obtain ⟨r, hr⟩ : ∃ r, sAt rs k = r := ⟨_, rfl⟩
      rw [hr] at hck hdk hw2 hn2
      clear hr
      obtain ⟨rk, rc, rn, rd⟩ := r
      obtain ⟨hd1, hd2, A2, c2, rfl, hby⟩ := hdk
      simp only at hd1 hd2 hby
      simp only [stepL] at hck
      obtain ⟨L, hL⟩ : ∃ L, rd.length = L := ⟨_, rfl⟩
      rw [hL] at hd2
      simp only [hL] at hck
      have hHS15 := Lib.hid (show ∀ W, Below wr.heap.size wr W → Calls Try.prog 15 #[.agg #[.int .i64 rk, .int .i64 rc, .int .i64 rn, .slice A2 L c2]] W fun e w' => e = .returned (.bool (stepValid rk rc rn L)) ∧ Below W.heap.size W w' from
        fun W hW => valid15_any rk rc rn A2 L c2 W (by omega))
      have hHS16 := Lib.hid (show ∀ W, Below wr.heap.size wr W → Calls Try.prog 16 #[.agg #[.int .i64 rk, .int .i64 rc, .int .i64 rn, .slice A2 L c2]] W fun e w' => e = .returned (.bool (stepValid rk rc rn L)) ∧ Below W.heap.size W w' from
        fun W hW => valid16_any rk rc rn rd A2 L c2 W hL (by omega) hd1 ((hby.below hW hb.size).mono (Nat.le_trans hb.size hW.size)))
      have HK := Lib.hid hck
      have Hk := Lib.hid hck.regrown
      have HBY := Lib.hid hby
      have HL := Lib.hid hL
      have HD := Lib.hid hd1
      have hvr : validR ⟨rk, rc, rn, rd⟩ = stepValid rk rc rn L := by simp only [validR, hL]
      rw [hvr] at hw2 hn2
      obtain ⟨bv, hbv⟩ : ∃ bv, stepValid rk rc rn L = bv := ⟨_, rfl⟩
      have HBV := Lib.hid hbv
      have HVR := Lib.hid (hvr.trans hbv)
      rw [hbv] at hHS15 hHS16 hw2 hn2
      have HW2 := Lib.hid hw2
      have HN2 := Lib.hid hn2
      clear hck hby hL hd1 hvr hbv hw2 hn2
      have hlt' : decide ((k : Int) < (n : Int)) = true := by simp; omega
      go_wp2_with fail
      refine wp_region_quiet_below (by kernel_rfl) (by kernel_rfl) ?_
      repeat (first
        | ((with_reducible refine qk_load_agg (o := ⟨some 21, _, _, _, _, _⟩) rfl 35 _ rfl ⟨b, off + k * 4, none⟩ ?_ [.int .i64 rk, .int .i64 rc, .int .i64 rn, .slice A2 L c2] _ Hk.out Try.underlying35 rfl (lit_size _ _ _ _) ?_); (· rfl); simp only [Act.put, List.setIfInBounds_toArray, List.set_cons_succ, List.set_cons_zero])
        | ((with_reducible refine qk_load_agg (o := ⟨some 26, _, _, _, _, _⟩) rfl 35 _ rfl ⟨b, off + k * 4, none⟩ ?_ [.int .i64 rk, .int .i64 rc, .int .i64 rn, .slice A2 L c2] _ Hk.out Try.underlying35 rfl (lit_size _ _ _ _) ?_); (· rfl); simp only [Act.put, List.setIfInBounds_toArray, List.set_cons_succ, List.set_cons_zero])
        | go_big_quiet_step ((first | (go_at_call 15; exact Calls.regrown_of (hHS15.out _ (below_regrown _ _ _))) | (go_at_call 16; exact Calls.regrown_of (hHS16.out _ (below_regrown _ _ _))))))
      refine wpQuiet_nil ?_
      intro W3 hW3
      have hr3 := regrown_below hW3
      have hb3 := hb.trans (hr3.mono hb.size)
      have HO3 := Lib.hid (show Own8 W3 w1.heap.size u3 (wantL (rs.take k)) from (Kept.of_below (L := []) hr3).own2 HO.out.raw (by simp))
      have HK3 := Lib.hid (HK.out.below hr3 (show b < _ from Nat.lt_of_lt_of_le hbB hb.size))
      have HBY3 := Lib.hid (((HBY.out.below hr3 hb.size).mono hb3.size))
      have HS16 := Lib.hid (hHS16.out W3 hr3)
      clear hHS15 hHS16 hW3 hr3 HK Hk HBY HO
      cases bv
      · go_wp2_with ((with_reducible refine wpList_load_agg (o := ⟨some 32, _, _, _, _, _⟩) rfl 35 _ rfl ⟨b, off + k * 4, none⟩ ?_ [.int .i64 rk, .int .i64 rc, .int .i64 rn, .slice A2 L c2] _ HK3.out Try.underlying35 rfl (lit_size _ _ _ _) ?_); (· rfl))
        refine HS16.out.mono ?_
        rintro e w4 ⟨rfl, hb4⟩
        have hb5 := hb3.trans (hb4.mono hb3.size)
        have HO4 := Lib.hid (show Own8 w4 w1.heap.size u3 (wantL (rs.take k)) from (Kept.of_below (L := []) hb4).own2 HO3.out.raw (by simp))
        go_wp2_with fail
        go_roundw
        case rel =>
          refine ⟨k + 1, by omega, by go_num, ?_, ?_, ?_, hb5⟩
          · have := HN2.out; simp at this; rw [this]
          · rw [HW2.out, if_neg (by simp), List.append_nil]; omega
          · rw [HW2.out, if_neg (by simp), List.append_nil]; exact HO4.out
        case measure => simp [intOf]; omega
      · obtain ⟨v0, v1, v2, v3, v4⟩ := valid_parts HBV.out
        go_wp2_with ((with_reducible refine wpList_load_agg (o := ⟨some 32, _, _, _, _, _⟩) rfl 35 _ rfl ⟨b, off + k * 4, none⟩ ?_ [.int .i64 rk, .int .i64 rc, .int .i64 rn, .slice A2 L c2] _ HK3.out Try.underlying35 rfl (lit_size _ _ _ _) ?_); (· rfl))
        refine HS16.out.mono ?_
        rintro e w4 ⟨rfl, hb4⟩
        have hb5 := hb3.trans (hb4.mono hb3.size)
        have HO4 := Lib.hid (show Own8 w4 w1.heap.size u3 (wantL (rs.take k)) from (Kept.of_below (L := []) hb4).own2 HO3.out.raw (by simp))
        have HK4 := Lib.hid (HK3.out.below hb4 (show b < _ from Nat.lt_of_lt_of_le hbB hb3.size))
        have HP := Lib.hid (bytes17_any rk rc rn rd A2 L c2 w4 HL.out v0 v1 v2 v3 v4 ((HBY3.out.below hb4 (Nat.le_refl _)).mono hb4.size))
        simp only [stepL] at HP
        rw [bytL_put (r := ⟨rk, rc, rn, rd⟩) HVR.out] at HP
        clear hb4
        go_wp2_with ((with_reducible refine wpList_load_agg (o := ⟨some 39, _, _, _, _, _⟩) rfl 35 _ rfl ⟨b, off + k * 4, none⟩ ?_ [.int .i64 rk, .int .i64 rc, .int .i64 rn, .slice A2 L c2] _ HK4.out Try.underlying35 rfl (lit_size _ _ _ _) ?_); (· rfl))
        refine HP.out.mono ?_
        rintro e w5 ⟨v5, rfl, hown5, hb6⟩
        have hb7 := hb5.trans (hb6.mono hb5.size)
        have HO5 := (Kept.of_below (L := []) hb6).own2 HO4.out.raw (by simp)
        have hpl := putL_len (r := ⟨rk, rc, rn, rd⟩) (by rw [HL.out]; exact v4)
        obtain ⟨ys, hys⟩ : ∃ ys, putL ⟨rk, rc, rn, rd⟩ = ys := ⟨_, rfl⟩
        have HW3 : wantL (rs.take (k + 1)) = wantL (rs.take k) ++ putL ⟨rk, rc, rn, rd⟩ := by have := HW2.out; simpa using this
        rw [hys] at HW3
        rw [hys] at hown5 hpl
        have HW3 := Lib.hid HW3
        clear hys
        obtain ⟨xs, hxs⟩ : ∃ xs, wantL (rs.take k) = xs := ⟨_, rfl⟩
        rw [hxs] at HW3 HO5 hwl
        have HO5 := Lib.hid HO5
        clear hxs HO3 HO4 HW2
        obtain ⟨A5, c5, rfl, hby5⟩ := hown5.val
        have hsrc := Lib.hid hby5.src
        obtain ⟨M2, hM3⟩ : ∃ M2, ys.length = M2 := ⟨_, rfl⟩
        rw [hM3] at hsrc hpl ⊢
        have HM2 := Lib.hid hM3
        clear hM3 hby5 hown5
        go_wp2_with ((with_reducible refine wpList_append_src (o := ⟨some 41, _, _, _, _, _⟩) rfl _ _ 22 rfl w1.heap.size 5 (.int .u8 0) 1 1 Try.underlying22 Try.info5 rfl (by decide) u3 xs.length (xs.map (Value.int .u8)) ?_ HO5.out A5 M2 c5 (ys.map (Value.int .u8)) ?_ ?_ hsrc.out (bytes_one _) ?_ ?_ hb7.size ?_); (· rfl); (· rfl); (· simp [HM2.out]); (· unfold maxLen; omega); (· omega); intro v6 w6 hown6 _ hb8)
        go_roundw
        case rel =>
          refine ⟨k + 1, by omega, by go_num, ?_, ?_, ?_, hb7.trans hb8⟩
          · have := HN2.out; simp at this; rw [this]
          · rw [HW3.out, List.length_append, HM2.out]; omega
          · rw [HW3.out]
            exact Own8.app HM2.out.symm hown6
        case measure => simp [intOf]; omega
    · obtain rfl : k = n := by omega
      rw [List.take_of_length_le (by rw [HN.out]; exact Nat.le_refl _)] at HO hwl ⊢
      obtain ⟨A3, c3, rfl, hby3⟩ := HO.out.val
      have hwr := write18_any A k c rs wr HN.out (by omega) ((HA.out.below hb (Nat.le_refl _)).mono hb.size)
      rw [writeRes_want] at hwr
      have hbyE := Lib.hid hby3
      clear hby3 HO HA HF2
      obtain ⟨xs, hxs⟩ : ∃ xs, wantL rs = xs := ⟨_, rfl⟩
      rw [hxs] at hwr hwl hbyE ⊢
      clear hxs
      obtain ⟨M, hM⟩ : ∃ M, xs.length = M := ⟨_, rfl⟩
      rw [hM] at hwr hwl ⊢
      have HM := Lib.hid hM
      clear hM
      have hno := noOf_or rs
      obtain ⟨no, hno2⟩ : ∃ no, noOf rs = no := ⟨_, rfl⟩
      rw [hno2] at hwr hno ⊢
      clear hno2
      have hlt' : decide ((k : Int) < (k : Int)) = false := by simp
      rcases hno with rfl | rfl
      · rw [if_pos rfl] at hwr
        by_cases hM4 : M ≤ 4096
        · rw [if_pos hM4] at hwr
          have HWR := Lib.hid hwr
          clear hwr
          have hg : decide ((4096 : Int) < (M : Int)) = false := by simp; omega
          go_wp2_with fail
          refine HWR.out.mono ?_
          rintro e w8 ⟨v8, rfl, hown8, hb8⟩
          obtain ⟨A8, c8, rfl, hby8⟩ := hown8.val
          have q1 := hby8.convert HM.out
          have q2 := (hbyE.out.below hb8 (Nat.le_refl _)).convert HM.out
          have hb9 := hb.trans (hb8.mono hb.size)
          simp only [HM.out]
          clear hown8 hby8
          go_wp2_with fail
          refine (known30_any _).mono ?_
          rintro e w9 ⟨rfl, hb10⟩
          go_wp2_with fail
          go_ret
          exact ⟨rfl, hb9.trans (hb10.mono hb9.size)⟩
        · rw [if_neg hM4] at hwr
          have HWR := Lib.hid hwr
          clear hwr
          have hg : decide ((4096 : Int) < (M : Int)) = true := by simp; omega
          go_wp2_with fail
          refine HWR.out.mono ?_
          rintro e w8 ⟨v8, rfl, hown8, hb8⟩
          obtain ⟨A8, c8, rfl, hby8⟩ := hown8.val
          have q1 := hby8.convert (show ([] : List Int).length = 0 from rfl)
          have q2 := (Byt.nil w8 0).convert (show ([] : List Int).length = 0 from rfl)
          have hb9 := hb.trans (hb8.mono hb.size)
          simp only [List.length_nil]
          clear hown8 hby8
          go_wp2_with fail
          refine (known30_any _).mono ?_
          rintro e w9 ⟨rfl, hb10⟩
          go_wp2_with fail
          go_ret
          exact ⟨rfl, hb9.trans (hb10.mono hb9.size)⟩
      · rw [if_neg (by decide)] at hwr
        have HWR := Lib.hid hwr
        clear hwr
        go_wp2_with fail
        refine HWR.out.mono ?_
        rintro e w8 ⟨v8, rfl, hown8, hb8⟩
        obtain ⟨A8, c8, rfl, hby8⟩ := hown8.val
        have q1 := hby8.convert (show ([] : List Int).length = 0 from rfl)
        have q2 := (Byt.nil w8 0).convert (show ([] : List Int).length = 0 from rfl)
        have hb9 := hb.trans (hb8.mono hb.size)
        simp only [List.length_nil]
        clear hown8 hby8
        go_wp2_with fail
        refine (known30_any _).mono ?_
        rintro e w9 ⟨rfl, hb10⟩
        go_wp2_with fail
        go_ret
        exact ⟨rfl, hb9.trans (hb10.mono hb9.size)⟩

theorem scriptWrites_walk : scriptWritesWalk := fun A rs cap w hc hm hA => by
  unfold Law
  cases hf : fewOk rs with
  | true => exact law4_few A _ cap rs w rfl (Nat.le_trans hc hm) hA hf
  | false => exact law4_many A _ cap rs w rfl (Nat.le_trans hc hm) hA hf
theorem scriptWrites_proved : Rows.ScriptWritesSaid := scriptWrites_of scriptWrites_walk
#print axioms scriptWrites_proved
end Go.Proofs.Ytnmhmabifeapkaa.Ord
