/- Walk of the reference's Parse. -/
import Derived.Test.YtnmhmabifeapkaaG15
namespace Go.Proofs.Ytnmhmabifeapkaa.Ord
open Go.RowKit
set_option linter.unusedVariables false

set_option maxRecDepth 100000 in
set_option maxHeartbeats 4000000 in
theorem parse13_any (A : Option Addr) (k c : Nat) (xs : List Int) (w : World) (hk : xs.length = k) (hl : k ≤ 4096) (hx : ∀ y ∈ xs, 0 ≤ y ∧ y < 256) (hA : Byt w w.heap.size A c xs) :
    Calls Try.prog 13 #[.slice A k c] w fun e w' => ∃ v ps, e = .returned v ∧ ps.map (·.1) = stepsOf xs ∧ OwnSteps w' w.heap.size v ps ∧ Below w.heap.size w w' := by
  have HX := Lib.hid hx
  have HA := Lib.hid hA
  have HK := Lib.hid hk
  have hsl : (stepsOf xs).length ≤ 4096 := by have := stepsF_len xs.length xs; unfold stepsOf; omega
  clear hx hA hk
  go_enter Try.func13, Try.ntmps13
  go_wp2_with fail
  go_loopw [0, 3] (fun b v wr => ∃ (ps : List (StepR × Value)) (ys : List Int) (A' : Option Addr) (c' : Nat), b = .slice A' ys.length c' ∧ (∀ y ∈ ys, 0 ≤ y ∧ y < 256) ∧ ys.length ≤ 4096 ∧ ps.map (·.1) ++ stepsOf ys = stepsOf xs ∧ Byt w w.heap.size A' c' ys ∧ OwnSteps wr w.heap.size v ps ∧ Below w.heap.size w wr) (fun b _ _ => slLen b)
  case atStart => exact ⟨[], xs, A, c, by rw [HK.out], HX.out, by rw [HK.out]; exact hl, rfl, HA.out, ⟨World.ownsRow_nil _ _ _ _, fun p hp => by cases hp⟩, Below.refl _ _⟩
  case round =>
    obtain ⟨ps, ys, A', c', rfl, hyb, hyl, hps, hby, hown, hb⟩ := hrel
    by_cases hy0 : ys = []
    · subst hy0
      have HO := Lib.hid hown
      have HP := Lib.hid hps
      have HB := Lib.hid hb
      simp only [List.length_nil]
      clear hown hps hb hby hyb
      go_wp2_with fail
      go_ret
      exact ⟨_, ps, rfl, by have := HP.out; simpa [stepsOf, stepsF] using this, HO.out, HB.out⟩
    · have hpl : ps.length + 1 ≤ 4096 := by
        have := congrArg List.length hps
        rw [stepsOf_cons _ hy0, List.length_append, List.length_cons, List.length_map] at this
        omega
      obtain ⟨L, hL⟩ : ∃ L, ys.length = L := ⟨_, rfl⟩
      have hL0 : 0 < L := by rw [← hL]; exact List.length_pos_iff.2 hy0
      have hg : decide ((0 : Int) < (L : Int)) = true := by simp; omega
      obtain ⟨b, off, hA', hbB, _⟩ := hby.at (i := 0) (by omega)
      subst hA'
      have HF := Lib.hid (first_any (some ⟨b, off, none⟩) L c' ys wr hL (by omega) hyb ((hby.below hb (Nat.le_refl _)).mono hb.size))
      have hcl := hby.2.1
      obtain ⟨sn, hsn⟩ : ∃ sn, stepN ys = sn := ⟨_, rfl⟩
      have hsn1 := stepN_pos ys
      obtain ⟨m, hm⟩ : ∃ m, min sn L = m := ⟨_, rfl⟩
      have hmin : min (sn : Int) (L : Int) = (m : Int) := by omega
      rw [hsn] at HF hsn1
      rw [hL] at hyl hcl ⊢
      have HYB := Lib.hid hyb
      have HBY := Lib.hid hby
      have HPS := Lib.hid hps
      have HO := Lib.hid hown
      have HB := Lib.hid hb
      have HL := Lib.hid hL
      have HM := Lib.hid hm
      have HSN := Lib.hid hsn
      have hmL : m ≤ L := by omega
      have hm1 : 1 ≤ m := by omega
      clear hyb hby hps hown hb hL hm hsn
      go_wp2_with fail
      refine HF.out.mono ?_
      rintro e w2 ⟨d, rfl, hd, hb2⟩
      obtain ⟨A3, c3, rfl, hby3⟩ := hd.val
      obtain ⟨L3, hL3⟩ : ∃ L3, (stepOf ys).d.length = L3 := ⟨_, rfl⟩
      obtain ⟨rk, hrk⟩ : ∃ rk, (stepOf ys).k = rk := ⟨_, rfl⟩
      obtain ⟨rc, hrc⟩ : ∃ rc, (stepOf ys).c = rc := ⟨_, rfl⟩
      obtain ⟨rn, hrn⟩ : ∃ rn, (stepOf ys).n = rn := ⟨_, rfl⟩
      rw [hL3, hrk, hrc, hrn]
      simp only [stepL]
      have hs02 : w.heap.size ≤ w2.heap.size := Nat.le_trans HB.out.size hb2.size
      have hown2 : OwnSteps w2 w.heap.size u3 ps := OwnSteps.kept (Kept.of_below (L := []) hb2) HO.out (by simp) (by simp)
      have hd2 : Own8 w2 w.heap.size (.slice A3 L3 c3) (stepOf ys).d := by rw [hL3] at hd; exact owns_mono hd.raw HB.out.size
      have HD2 := Lib.hid hd2
      have hown3 := hown2.alloc (.cells #[.int .i64 rk, .int .i64 rc, .int .i64 rn, .slice A3 L3 c3] 35)
      have HO3 := Lib.hid hown3
      have HO4 := Lib.hid (World.ownsRow.alloc hown3.1 (.cells #[.int .i64 rk, .int .i64 rc, .int .i64 rn, .slice A3 L3 c3] 35))
      have HB2 := Lib.hid (HB.out.trans (hb2.mono HB.out.size))
      have HRW := Lib.hid (And.intro hrk (And.intro hrc (And.intro hrn hL3)))
      have HSR := Lib.hid (show Src ((w2.alloc (.cells #[.int .i64 rk, .int .i64 rc, .int .i64 rn, .slice A3 L3 c3] 35)).alloc (.cells #[.int .i64 rk, .int .i64 rc, .int .i64 rn, .slice A3 L3 c3] 35)) (some ⟨w2.heap.size + 1, 0, none⟩) 1 1 [.int .i64 rk, .int .i64 rc, .int .i64 rn, .slice A3 L3 c3] from .inr ⟨_, rfl, by
        have h : ((w2.alloc (.cells #[.int .i64 rk, .int .i64 rc, .int .i64 rn, .slice A3 L3 c3] 35)).alloc (.cells #[.int .i64 rk, .int .i64 rc, .int .i64 rn, .slice A3 L3 c3] 35)).rowIs (w2.heap.size + 1) 35 4 (listF [.int .i64 rk, .int .i64 rc, .int .i64 rn, .slice A3 L3 c3]) := by
          have h := row_list (w2.alloc (.cells #[.int .i64 rk, .int .i64 rc, .int .i64 rn, .slice A3 L3 c3] 35)) [.int .i64 rk, .int .i64 rc, .int .i64 rn, .slice A3 L3 c3] 35
          simpa using h
        exact row_cells h _ rfl fun i hi => rfl⟩)
      have hone := Lib.hid (show ∀ u ∈ [Value.int .i64 rk, .int .i64 rc, .int .i64 rn, .slice A3 L3 c3], u.oneCell' = true from fun u hu => Array.all_eq_true_iff_forall_mem.1 (stepL_one rk rc rn A3 L3 c3) u (by simpa [stepL] using hu))
      clear hd hby3 hb2 hrk hrc hrn hL3 hown2 hd2 hown3
      go_wp2_with ((with_reducible refine wpList_append_src (o := ⟨some 17, _, _, _, _, _⟩) rfl _ _ 24 rfl w.heap.size 35 (.agg #[.int .i64 0, .int .i64 0, .int .i64 0, .slice none 0 0]) 4 48 Try.underlying24 Try.info35 ?_ ?_ u3 ps.length (ps.flatMap stepC) ?_ HO4.out (some ⟨w2.heap.size + 1, 0, none⟩) 1 1 [.int .i64 rk, .int .i64 rc, .int .i64 rn, .slice A3 L3 c3] ?_ ?_ HSR.out hone.out ?_ ?_ ?_ ?_); (· rfl); (· decide); (· rfl); (· rfl); (· rfl); (· unfold maxLen; omega); (· omega); (· simp; omega); intro v3 w3 hown3 hg3 hb3; have HO5 := Lib.hid hown3; have HG5 := Lib.hid hg3; have HB5 := Lib.hid hb3; clear hown3 hg3 hb3)
      go_roundw
      case rel =>
        have hdm : ys.drop m = ys.drop (stepN ys) := by
          rw [HSN.out]
          by_cases hle : sn ≤ L
          · rw [show m = sn by have := HM.out; omega]
          · rw [List.drop_of_length_le (by have := HM.out; have := HL.out; omega), List.drop_of_length_le (by have := HL.out; omega)]
        have hlen : (ys.drop m).length = L - m := by rw [List.length_drop, HL.out]
        refine ⟨ps ++ [(stepOf ys, .slice A3 L3 c3)], ys.drop m, _, c' - m, by rw [hlen], fun y hy => HYB.out y (List.mem_of_mem_drop hy), by omega, ?_, ?_, ?_, (((HB2.out.alloc hs02 _).alloc (by simp; omega) _).trans HB5.out)⟩
        · rw [hdm, ← HPS.out, stepsOf_cons _ hy0]
          simp
        · refine Byt.part (xs := ys.take m) (ys := ys.drop m) (zs := []) (b := b) (off := off) (m := m) (e := c' - m) (by rw [List.append_nil, List.take_append_drop]; exact HBY.out) (by rw [List.length_take]; have := HL.out; omega) (by omega) (by split <;> simp) (fun h => by rw [if_neg (by omega)])
        · obtain ⟨rfl, rfl, rfl, rfl⟩ := HRW.out
          exact OwnSteps.snoc HO3.out (World.ownsRow.alloc HD2.out _) HO5.out HG5.out
      case measure => simp [slLen]; omega
end Go.Proofs.Ytnmhmabifeapkaa.Ord
