/- Walk of the law's known. -/
import Derived.Test.YtnmhmabifeapkaaR28
import Derived.Deep.DeepCutAuto
namespace Go.Proofs.Ytnmhmabifeapkaa.Ord
open Go.RowKit
set_option linter.unusedVariables false

set_option maxRecDepth 100000 in
set_option maxHeartbeats 4000000 in
theorem known30_any (w : World) : Calls Try.prog 10 #[] w fun e w' => e = .returned (.bool true) ∧ Below w.heap.size w w' := by
  go_enter Try.func10, Try.ntmps10
  go_wp2_with fail
  refine (deliver_any 0 _ 4 4 _).mono ?_
  rintro e w1 ⟨rfl, hb1⟩
  have hk := Lib.hid (k30_start w _ rfl w1 hb1)
  simp only [stepL]
  clear hb1
  go_upto_region 4 with (fail)
  obtain ⟨w4, hw4⟩ : ∃ w4, w1.alloc (.cells #[.int .i64 2, .int .i64 0, .int .i64 0, .slice (some ⟨w.heap.size + 1 + 1 + 1, 0, none⟩) 4 4] 35) = w4 := ⟨_, rfl⟩
  rw [hw4] at hk ⊢
  obtain ⟨g4, hg4⟩ : ∃ g4, w1.heap.size = g4 := ⟨_, rfl⟩
  rw [hg4] at hk ⊢
  clear hw4 hg4
  have hk4 := Lib.hid (show KB w w4 (g4 + 1) w.heap.size (w.heap.size + 1) (w.heap.size + 1 + 1) g4 (w.heap.size + 1 + 1 + 1) from ⟨hk.out.1, hk.out.2⟩)
  clear hk
  go_wp2_with (first
    | ((with_reducible refine wpList_bytes_w (o := ⟨some 16, _, _, _, _, _⟩) ?_ 2 _ rfl [2, 18] [(0, .int .u8 2), (1, .int .u8 18)] ?_ ?_ ?_ ?_ ?_ ?_); (· rfl); (· simp only [List.map_toArray, List.map_cons, List.map_nil]; rfl); (· kernel_rfl); (· rfl); (· decide); (· decide); intro w5 hw5; have hb5 := hw5.low; have hk5 := Lib.hid (hk4.out.next hb5); have hB16 := Lib.hid hw5.ba; clear hw5)
    | ((with_reducible refine wpList_load_agg (o := ⟨some 17, _, _, _, _, _⟩) rfl 35 _ rfl ⟨w.heap.size, 0, none⟩ ?_ [.int .i64 1, .int .i64 0, .int .i64 0, .slice none 0 0] _ hk5.out.k.c1 Try.underlying35 rfl (lit_size _ _ _ _) ?_); (· rfl))
    | ((with_reducible refine wpList_load_agg (o := ⟨some 18, _, _, _, _, _⟩) rfl 35 _ rfl ⟨w.heap.size, 0, none⟩ ?_ [.int .i64 1, .int .i64 0, .int .i64 0, .slice none 0 0] _ hk5.out.k.c1 Try.underlying35 rfl (lit_size _ _ _ _) ?_); (· rfl))
    | ((with_reducible refine wpList_steps_w (o := ⟨some 19, _, _, _, _, _⟩) ?_ 2 _ rfl [(⟨1, 0, 0, []⟩, .slice none 0 0), (⟨1, 0, 0, []⟩, .slice none 0 0)] [(0, .agg #[.int .i64 1, .int .i64 0, .int .i64 0, .slice none 0 0]), (1, .agg #[.int .i64 1, .int .i64 0, .int .i64 0, .slice none 0 0])] ?_ ?_ ?_ ?_ ?_ ?_ ?_); (· rfl); (· simp only [List.map_toArray, List.map_cons, List.map_nil]; rfl); (· kernel_rfl); (· rfl); (· decide); (· decide); (· exact ps_all2 (datB_nil _ _) (datB_nil _ _)); intro w6 hS19 hb6; have hk6 := Lib.hid (hk5.out.next hb6); have hS19 := Lib.hid hS19))
  refine (parses_yes2 w4.heap.size w5.heap.size 2 2 [2, 18] [⟨1, 0, 0, []⟩, ⟨1, 0, 0, []⟩] w6 (hB16.out.below hb6) hS19.out parse1 rfl rfl rfl rfl (by decide)).mono ?_
  rintro e w7 ⟨rfl, hb7⟩
  have hk7 := Lib.hid (hk6.out.next hb7)
  go_wp2_with (first
    | ((with_reducible refine wpList_bytes_w (o := ⟨some 23, _, _, _, _, _⟩) ?_ 4 _ rfl [3, 2, 65, 66] [(0, .int .u8 3), (1, .int .u8 2), (2, .int .u8 65), (3, .int .u8 66)] ?_ ?_ ?_ ?_ ?_ ?_); (· rfl); (· simp only [List.map_toArray, List.map_cons, List.map_nil]; rfl); (· kernel_rfl); (· rfl); (· decide); (· decide); intro w8 hw8; have hb8 := hw8.low; have hk8 := Lib.hid (hk7.out.next hb8); have hB23 := Lib.hid hw8.ba; clear hw8)
    | ((with_reducible refine wpList_bytes_w (o := ⟨some 24, _, _, _, _, _⟩) ?_ 2 _ rfl [65, 66] [(0, .int .u8 65), (1, .int .u8 66)] ?_ ?_ ?_ ?_ ?_ ?_); (· rfl); (· simp only [List.map_toArray, List.map_cons, List.map_nil]; rfl); (· kernel_rfl); (· rfl); (· decide); (· decide); intro w9 hw9; have hb9 := hw9.low; have hk9 := Lib.hid (hk8.out.next hb9); have hB24 := Lib.hid hw9.ba; clear hw9))
  refine (deliver_any 0 (some ⟨w8.heap.size, 0, none⟩) 2 2 w9).mono ?_
  rintro e w10 ⟨rfl, hb10⟩
  have hk10 := Lib.hid (hk9.out.next hb10)
  simp only [stepL]
  go_wp2_with (first
    | ((with_reducible refine wpList_steps_w (o := ⟨some 26, _, _, _, _, _⟩) ?_ 1 _ rfl [(⟨2, 0, 0, [65, 66]⟩, .slice (some ⟨w8.heap.size, 0, none⟩) 2 2)] [(0, .agg #[.int .i64 2, .int .i64 0, .int .i64 0, .slice (some ⟨w8.heap.size, 0, none⟩) 2 2])] ?_ ?_ ?_ ?_ ?_ ?_ ?_); (· rfl); (· simp only [List.map_toArray, List.map_cons, List.map_nil]; rfl); (· kernel_rfl); (· rfl); (· decide); (· decide); (· exact ps_all1 ((hB24.out.below hb10).dat rfl rfl)); intro w11 hS26 hb11; have hk11 := Lib.hid (hk10.out.next hb11); have hS26 := Lib.hid hS26))
  refine (parses_yes2 w7.heap.size w10.heap.size 4 1 [3, 2, 65, 66] [⟨2, 0, 0, [65, 66]⟩] w11 (((hB23.out.below hb9).below hb10).below hb11) hS26.out parse2 rfl rfl rfl rfl (by decide)).mono ?_
  rintro e w12 ⟨rfl, hb12⟩
  have hk12 := Lib.hid (hk11.out.next hb12)
  go_wp2_with (first
    | ((with_reducible refine wpList_bytes_w (o := ⟨some 31, _, _, _, _, _⟩) ?_ 2 _ rfl [19, 1] [(0, .int .u8 19), (1, .int .u8 1)] ?_ ?_ ?_ ?_ ?_ ?_); (· rfl); (· simp only [List.map_toArray, List.map_cons, List.map_nil]; rfl); (· kernel_rfl); (· rfl); (· decide); (· decide); intro w13 hw13; have hb13 := hw13.low; have hk13 := Lib.hid (hk12.out.next hb13); have hB31 := Lib.hid hw13.ba; clear hw13)
    | ((with_reducible refine wpList_bytes_w (o := ⟨some 32, _, _, _, _, _⟩) ?_ 1 _ rfl [0] [(0, .int .u8 0)] ?_ ?_ ?_ ?_ ?_ ?_); (· rfl); (· simp only [List.map_toArray, List.map_cons, List.map_nil]; rfl); (· kernel_rfl); (· rfl); (· decide); (· decide); intro w14 hw14; have hb14 := hw14.low; have hk14 := Lib.hid (hk13.out.next hb14); have hB32 := Lib.hid hw14.ba; clear hw14))
  refine (deliver_any 1 (some ⟨w13.heap.size, 0, none⟩) 1 1 w14).mono ?_
  rintro e w15 ⟨rfl, hb15⟩
  have hk15 := Lib.hid (hk14.out.next hb15)
  simp only [stepL]
  go_wp2_with (first
    | ((with_reducible refine wpList_steps_w (o := ⟨some 34, _, _, _, _, _⟩) ?_ 1 _ rfl [(⟨2, 1, 0, [0]⟩, .slice (some ⟨w13.heap.size, 0, none⟩) 1 1)] [(0, .agg #[.int .i64 2, .int .i64 1, .int .i64 0, .slice (some ⟨w13.heap.size, 0, none⟩) 1 1])] ?_ ?_ ?_ ?_ ?_ ?_ ?_); (· rfl); (· simp only [List.map_toArray, List.map_cons, List.map_nil]; rfl); (· kernel_rfl); (· rfl); (· decide); (· decide); (· exact ps_all1 ((hB32.out.below hb15).dat rfl rfl)); intro w16 hS34 hb16; have hk16 := Lib.hid (hk15.out.next hb16); have hS34 := Lib.hid hS34))
  refine (parses_yes2 w12.heap.size w15.heap.size 2 1 [19, 1] [⟨2, 1, 0, [0]⟩] w16 (((hB31.out.below hb14).below hb15).below hb16) hS34.out parse3 rfl rfl rfl rfl (by decide)).mono ?_
  rintro e w17 ⟨rfl, hb17⟩
  have hk17 := Lib.hid (hk16.out.next hb17)
  go_wp2_with (first
    | ((with_reducible refine wpList_bytes_w (o := ⟨some 38, _, _, _, _, _⟩) ?_ 7 _ rfl [0, 17, 4, 9, 70, 5, 39] [(0, .int .u8 0), (1, .int .u8 17), (2, .int .u8 4), (3, .int .u8 9), (4, .int .u8 70), (5, .int .u8 5), (6, .int .u8 39)] ?_ ?_ ?_ ?_ ?_ ?_); (· rfl); (· simp only [List.map_toArray, List.map_cons, List.map_nil]; rfl); (· kernel_rfl); (· rfl); (· decide); (· decide); intro w18 hw18; have hb18 := hw18.low; have hk18 := Lib.hid (hk17.out.next hb18); have hB38 := Lib.hid hw18.ba; clear hw18)
    | ((with_reducible refine wpList_load_agg (o := ⟨some 39, _, _, _, _, _⟩) rfl 35 _ rfl ⟨w.heap.size + 1, 0, none⟩ ?_ [.int .i64 3, .int .i64 0, .int .i64 0, .slice none 0 0] _ hk18.out.k.c2 Try.underlying35 rfl (lit_size _ _ _ _) ?_); (· rfl))
    | ((with_reducible refine wpList_load_agg (o := ⟨some 40, _, _, _, _, _⟩) rfl 35 _ rfl ⟨w.heap.size + 1 + 1, 0, none⟩ ?_ [.int .i64 3, .int .i64 1, .int .i64 0, .slice none 0 0] _ hk18.out.k.c3 Try.underlying35 rfl (lit_size _ _ _ _) ?_); (· rfl))
    | ((with_reducible refine wpList_steps_w (o := ⟨some 44, _, _, _, _, _⟩) ?_ 5 _ rfl [(⟨3, 0, 0, []⟩, .slice none 0 0), (⟨3, 1, 0, []⟩, .slice none 0 0), (⟨4, 0, 9, []⟩, .slice none 0 0), (⟨6, 4, 5, []⟩, .slice none 0 0), (⟨7, 2, 0, []⟩, .slice none 0 0)] [(0, .agg #[.int .i64 3, .int .i64 0, .int .i64 0, .slice none 0 0]), (1, .agg #[.int .i64 3, .int .i64 1, .int .i64 0, .slice none 0 0]), (2, .agg #[.int .i64 4, .int .i64 0, .int .i64 9, .slice none 0 0]), (3, .agg #[.int .i64 6, .int .i64 4, .int .i64 5, .slice none 0 0]), (4, .agg #[.int .i64 7, .int .i64 2, .int .i64 0, .slice none 0 0])] ?_ ?_ ?_ ?_ ?_ ?_ ?_); (· rfl); (· simp only [List.map_toArray, List.map_cons, List.map_nil]; rfl); (· kernel_rfl); (· rfl); (· decide); (· decide); (· exact ps_all5 (datB_nil _ _) (datB_nil _ _) (datB_nil _ _) (datB_nil _ _) (datB_nil _ _)); intro w19 hS44 hb19; have hk19 := Lib.hid (hk18.out.next hb19); have hS44 := Lib.hid hS44))
  refine (parses_yes2 w17.heap.size w18.heap.size 7 5 [0, 17, 4, 9, 70, 5, 39] [⟨3, 0, 0, []⟩, ⟨3, 1, 0, []⟩, ⟨4, 0, 9, []⟩, ⟨6, 4, 5, []⟩, ⟨7, 2, 0, []⟩] w19 (hB38.out.below hb19) hS44.out parse4 rfl rfl rfl rfl (by decide)).mono ?_
  rintro e w20 ⟨rfl, hb20⟩
  have hk20 := Lib.hid (hk19.out.next hb20)
  go_upto_region 8 with (fail)
  refine region8 _ (fun d v c a w h => by cases d <;> exact h) w w20 _ _ _ _ _ _ _ _ _ _ _ _ _ _ _ _ _ _ _ _ _ _ _ _ _ _ _ _ _ _ _ _ _ _ _ _ _ _ _ _ _ _ _ _ _ _ _ _ _ _ _ _ _ _ _ _ _ _ _ _ _ _ _ _ _ _ _ _ _ _ _ _ _ _ _ _ _ _ _ _ _ _ _ _ _ _ _ _ _ _ _ _ _ _ _ _ _ _ _ _ _ _ _ hk20.out ?_
  intro u47 u48 u49 u50 u51 u52 u53 u55 u56 u57 u58 u59 u60 w21 hk21
  have hk21 := Lib.hid hk21
  go_wp2_with (first
    | ((with_reducible refine wpList_load_agg (o := ⟨some 63, _, _, _, _, _⟩) rfl 35 _ rfl ⟨w.heap.size + 1 + 1, 0, none⟩ ?_ [.int .i64 3, .int .i64 1, .int .i64 0, .slice none 0 0] _ hk21.out.k.c3 Try.underlying35 rfl (lit_size _ _ _ _) ?_); (· rfl))
    | ((with_reducible refine wpList_load_agg (o := ⟨some 64, _, _, _, _, _⟩) rfl 35 _ rfl ⟨g4, 0, none⟩ ?_ [.int .i64 2, .int .i64 0, .int .i64 0, .slice (some ⟨w.heap.size + 1 + 1 + 1, 0, none⟩) 4 4] _ hk21.out.k.c4 Try.underlying35 rfl (lit_size _ _ _ _) ?_); (· rfl))
    | ((with_reducible refine wpList_steps_w (o := ⟨some 65, _, _, _, _, _⟩) ?_ 2 _ rfl [(⟨3, 1, 0, []⟩, .slice none 0 0), (⟨2, 0, 0, [3, 4, 1, 97]⟩, .slice (some ⟨w.heap.size + 1 + 1 + 1, 0, none⟩) 4 4)] [(0, .agg #[.int .i64 3, .int .i64 1, .int .i64 0, .slice none 0 0]), (1, .agg #[.int .i64 2, .int .i64 0, .int .i64 0, .slice (some ⟨w.heap.size + 1 + 1 + 1, 0, none⟩) 4 4])] ?_ ?_ ?_ ?_ ?_ ?_ ?_); (· rfl); (· simp only [List.map_toArray, List.map_cons, List.map_nil]; rfl); (· kernel_rfl); (· rfl); (· decide); (· decide); (· exact ps_all2 (datB_nil _ _) (hk21.out.get)); intro w22 hS65 hb22; have hk22 := Lib.hid (hk21.out.next hb22); have hS65 := Lib.hid hS65))
  have hwr := write18_any (some ⟨w21.heap.size, 0, none⟩) 2 2 [⟨3, 1, 0, []⟩, ⟨2, 0, 0, [3, 4, 1, 97]⟩] w22 rfl (by decide) hS65.out
  rw [show writeRes [⟨3, 1, 0, []⟩, ⟨2, 0, 0, [3, 4, 1, 97]⟩] = ([16, 3, 4, 3, 4, 1, 97], 0) from by kernel_rfl] at hwr
  refine hwr.mono ?_
  clear hwr
  rintro e w23 ⟨v23, rfl, ho23, hb23⟩
  have hk23 := Lib.hid (hk22.out.next hb23)
  obtain ⟨A5, c5, rfl, hby⟩ := ho23.val
  have HBY := Lib.hid hby
  clear hby ho23
  go_wp2_with (first
    | ((with_reducible refine wpList_steps_w (o := ⟨some 71, _, _, _, _, _⟩) ?_ 1 _ rfl [(⟨4, 0, 256, []⟩, .slice none 0 0)] [(0, .agg #[.int .i64 4, .int .i64 0, .int .i64 256, .slice none 0 0])] ?_ ?_ ?_ ?_ ?_ ?_ ?_); (· rfl); (· simp only [List.map_toArray, List.map_cons, List.map_nil]; rfl); (· kernel_rfl); (· rfl); (· decide); (· decide); (· exact ps_all1 (datB_nil _ _)); intro w24 hS71 hb24; have hk24 := Lib.hid (hk23.out.next hb24); have hS71 := Lib.hid hS71))
  have hwr := write18_any (some ⟨w23.heap.size, 0, none⟩) 1 1 [⟨4, 0, 256, []⟩] w24 rfl (by decide) hS71.out
  rw [show writeRes [⟨4, 0, 256, []⟩] = ([], 2) from by kernel_rfl] at hwr
  refine hwr.mono ?_
  clear hwr
  rintro e w25 ⟨v25, rfl, ho25, hb25⟩
  have hk25 := Lib.hid (hk24.out.next hb25)
  clear ho25
  go_wp2_with (first
    | ((with_reducible refine wpList_steps_w (o := ⟨some 77, _, _, _, _, _⟩) ?_ 1 _ rfl [(⟨1, 1, 0, []⟩, .slice none 0 0)] [(0, .agg #[.int .i64 1, .int .i64 1, .int .i64 0, .slice none 0 0])] ?_ ?_ ?_ ?_ ?_ ?_ ?_); (· rfl); (· simp only [List.map_toArray, List.map_cons, List.map_nil]; rfl); (· kernel_rfl); (· rfl); (· decide); (· decide); (· exact ps_all1 (datB_nil _ _)); intro w26 hS77 hb26; have hk26 := Lib.hid (hk25.out.next hb26); have hS77 := Lib.hid hS77))
  have hwr := write18_any (some ⟨w25.heap.size, 0, none⟩) 1 1 [⟨1, 1, 0, []⟩] w26 rfl (by decide) hS77.out
  rw [show writeRes [⟨1, 1, 0, []⟩] = ([], 2) from by kernel_rfl] at hwr
  refine hwr.mono ?_
  clear hwr
  rintro e w27 ⟨v27, rfl, ho27, hb27⟩
  have hk27 := Lib.hid (hk26.out.next hb27)
  clear ho27
  have q1 := ((((((((HBY.out.below hb24 (Nat.le_refl _)).mono hb24.size).below hb25 (Nat.le_refl _)).mono hb25.size).below hb26 (Nat.le_refl _)).mono hb26.size).below hb27 (Nat.le_refl _)).mono hb27.size).convert (show [(16 : Int), 3, 4, 3, 4, 1, 97].length = 7 from rfl)
  go_wp2_with (first
    | ((with_reducible refine wpList_bytes_w (o := ⟨some 83, _, _, _, _, _⟩) ?_ 7 _ rfl [16, 3, 4, 3, 4, 1, 97] [(0, .int .u8 16), (1, .int .u8 3), (2, .int .u8 4), (3, .int .u8 3), (4, .int .u8 4), (5, .int .u8 1), (6, .int .u8 97)] ?_ ?_ ?_ ?_ ?_ ?_); (· rfl); (· simp only [List.map_toArray, List.map_cons, List.map_nil]; rfl); (· kernel_rfl); (· rfl); (· decide); (· decide); intro w28 hw28; have hb28 := hw28.low; have hk28 := Lib.hid (hk27.out.next hb28); have hB83 := Lib.hid hw28.ba; have q2 := hB83.out.1.convert (show [(16 : Int), 3, 4, 3, 4, 1, 97].length = 7 from rfl); clear hw28))
  go_ret
  exact ⟨rfl, hk28.out.low⟩
end Go.Proofs.Ytnmhmabifeapkaa.Ord
