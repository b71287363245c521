/- Walk of the reference's Short: many keys. (Printed by wip/tools/genG14.py.) -/
import Derived.Test.YtnmhmabifeapkaaG12
namespace Go.Proofs.Ytnmhmabifeapkaa.Ord
open Go.RowKit
set_option linter.unusedVariables false

def kTo (z i : Nat) : List ByteArray := ((List.range i).filter fun i => z / 2 ^ i % 2 == 1).map keyN
theorem keyC_lt {i : Nat} (h : i < 8) : listF keyC i = .string (keyN i) := by
  have h2 := keyC_get i
  rwa [Nat.mod_eq_of_lt h] at h2
theorem rowSl1 {w : World} {G : Nat} {s : ByteArray} {N : List Nat} {l : List Value} (hl : l = [.string s]) (h : w.rowIs G 9 l.length (listF l)) (hG : G ∉ N) : SlN w N (.slice (some ⟨G, 0, none⟩) 1 1) [s] := by
  subst hl
  refine ⟨_, _, rfl, fun i x hx => ⟨G, 0, rfl, World.rowIs.lt h, ?_⟩, fun b off hb _ => by cases hb; exact hG⟩
  have hi := (List.getElem?_eq_some_iff.1 hx).1
  obtain rfl : i = 0 := by simpa using hi
  simp at hx
  subst hx
  rw [World.rowIs.cell h (i := 0 + 0) (by simp)]
  rfl
theorem kTo_yes {z i : Nat} (h : z / 2 ^ i % 2 = 1) : kTo z i ++ [keyN i] = kTo z (i + 1) := by
  unfold kTo
  rw [List.range_succ, List.filter_append, List.map_append]
  simp [h]
theorem kTo_no {z i : Nat} (h : ¬ z / 2 ^ i % 2 = 1) : kTo z i = kTo z (i + 1) := by
  unfold kTo
  rw [List.range_succ, List.filter_append, List.map_append]
  simp [h]
theorem kTo_len (z i : Nat) : (kTo z i).length ≤ i := by
  unfold kTo
  rw [List.length_map]
  have h1 := List.length_filter_le (fun i => z / 2 ^ i % 2 == 1) (List.range i)
  rwa [List.length_range] at h1
theorem StrSt.next63 {Wb W w6 : World} {C : Nat} {F : Value → Nat → Value} {l : List ByteArray} {v : Value} (h : StrSt Wb C F l W v) (hb : Below W.drew.heap.size W.drew w6) : StrSt Wb C F l w6 v := by
  have hb' : Below W.heap.size W w6 := ⟨hb.os, hb.tape, hb.output, hb.size, hb.block⟩
  exact ⟨World.rowIs.of_block h.1 (hb'.block _ (World.rowIs.lt h.1)), (Kept.of_below (L := []) hb').own2 h.2.1 (by simp), h.2.2.then_below (hb'.mono h.2.2.size)⟩
set_option maxRecDepth 100000 in
set_option maxHeartbeats 2000000 in
theorem s63_5 (y z u : Nat) (hy : y < 256) (hz : z < 256) (hu : u < 256) (cm : CmdR) (hcm : ⟨5, eB, manyN y z, [], [], 0, 0, eB, eB, eB⟩ = cm) (hop : 1 + (y : Int) % 15 = 5) (hc : CmdV cm) (w : World) :
    Calls Try.prog 63 #[.int .i64 y, .int .i64 z, .int .i64 u] w fun e w' => ∃ v, e = .returned v ∧ CmdRes cm w' v ∧ Below w.heap.size w w' := by
  obtain ⟨W1, hW1, hT1, hC1, hb1, hs1⟩ := start63 w 5
  simp only [cmdL] at hW1
  have HW1 := Lib.hid hW1
  have HT1 := Lib.hid hT1
  have HC1 := Lib.hid hC1
  have HB1 := Lib.hid hb1
  obtain ⟨j, hj⟩ : ∃ j, y / 15 % 8 = j := ⟨_, rfl⟩
  have hj8 : j < 8 := by omega
  have hij : (y : Int) / 15 % 8 = (j : Int) := by omega
  have HCM := Lib.hid hcm
  clear hcm
  clear hW1 hT1 hC1 hb1
  go_enter Try.func63, Try.ntmps63
  go_wp2_with fail
  rw [HW1.out.symm]
  refine (keys82 W1).mono ?_
  rintro e w2 ⟨G, rfl, hG, hk2, hb2⟩
  have hA : At63 w 5 y G w2 := ⟨World.rowIs.of_block HT1.out (hb2.block _ (World.rowIs.lt HT1.out)), World.rowIs.of_block HC1.out (hb2.block _ (World.rowIs.lt HC1.out)), hk2, by omega, HB1.out.trans (hb2.mono (by omega)), by have := hb2.size; omega⟩
  have hkey : w2.cell? ⟨G, j, none⟩ = some (.string (keyN (y / 15))) := by
    rw [World.rowIs.cell hk2 hj8, ← hj, keyC_get]
  have HA := Lib.hid hA
  have hc0 : w2.cell? ⟨w.heap.size + 1, 0, none⟩ = some (.int .i64 5) := World.rowIs.cell hA.c (i := 0) (by decide)
  have HST := Lib.hid (show StrSt w2 (w.heap.size + 1) (manyF 5 ⟨#[]⟩) (kTo z 0) w2 nilV from ⟨hA.c, World.ownsRow_nil _ _ _ _, Kept.refl _ _⟩)
  have hs2 := hA.s
  clear hk2 hb2 hA
  go_wp2_with fail
  all_goals
    clear hkey hc0
    go_loopw [11] (fun q wr => ∃ (i : Nat) (v : Value), i ≤ 8 ∧ q = .int .i64 i ∧ StrSt w2 (w.heap.size + 1) (manyF 5 ⟨#[]⟩) (kTo z i) wr v) (fun q _ => 8 - (intOf q).toNat)
    case atStart => exact ⟨0, nilV, Nat.zero_le _, rfl, HST.out⟩
    case round =>
      obtain ⟨i, v, hi, rfl, hs⟩ := hrel
      by_cases hlt : i < 8
      · have hg : decide ((i : Int) < 8) = true := by simp; omega
        by_cases hbit : z / 2 ^ i % 2 = 1
        · have hbb : (((z : Int) / 2 ^ i).tmod 2 == 1) = true := by
            have e : (z : Int) / 2 ^ i = ((z / 2 ^ i : Nat) : Int) := by simp
            rw [e, Int.tmod_eq_emod_of_nonneg (Int.natCast_nonneg _)]
            simp; omega
          have hcr : wr.cell? ⟨w.heap.size + 1, 2, none⟩ = some v := World.rowIs.cell hs.1 (i := 2) (by decide)
          have HS := Lib.hid hs
          have hsz := hs.2.2.size
          have hkl := kTo_len z i
          obtain ⟨n, hnl⟩ : ∃ n, (kTo z i).length = n := ⟨_, rfl⟩
          have HNL := Lib.hid hnl
          rw [hnl] at hkl
          have hi8 : (i : Int) < 8 := by omega
          clear hs hnl
          go_wp2_with fail
          go_region_law (first
            | ((with_reducible refine step_call_any (o := ⟨some 96, _, _, _, _, _⟩) rfl 82 _ _ rfl #[] ?_ Try.f82 Try.func82 f82_name f82_body (fun u w6 => ∃ G, u = .slice (some ⟨G, 0, none⟩) 8 8 ∧ wr.drew.heap.size ≤ G ∧ w6.rowIs G 9 8 (listF keyC) ∧ Below wr.drew.heap.size wr.drew w6) ?_ ?_); (· simp only [List.map_toArray, List.map_nil]); (· exact (keys82 wr.drew).mono fun e w' ⟨G, h1, h2⟩ => ⟨_, h1, G, rfl, h2⟩); rintro u6 w6 ⟨G6, rfl, hG6, hrow6, hb6⟩; have hkc : w6.cell? ⟨G6, i, none⟩ = some (.string (keyN i)) := (by rw [World.rowIs.cell hrow6 hlt, keyC_lt hlt]); have HS6 := Lib.hid (HS.out.next63 hb6); have hcr6 : w6.cell? ⟨w.heap.size + 1, 2, none⟩ = some v := World.rowIs.cell HS6.out.1 (i := 2) (by decide); have HSR := Lib.hid (src_str w6 (keyN i)); have HO := Lib.hid (World.ownsRow.alloc HS6.out.2.1 (.cells #[.string (keyN i)] 9)); rw [HNL.out] at HO; have hsz6 := HS6.out.2.2.size; have hcr7 : (w6.alloc (.cells #[.string (keyN i)] 9)).cell? ⟨w.heap.size + 1, 2, none⟩ = some v := World.rowIs.cell (World.rowIs.alloc HS6.out.1 _) (i := 2) (by decide); clear hrow6 hb6)
            | ((with_reducible refine step_append_src (o := ⟨some 101, _, _, _, _, _⟩) rfl _ _ 41 rfl w2.heap.size 9 (.string ⟨#[]⟩) 1 16 Try.underlying41 Try.info9 ?_ ?_ v n _ ?_ HO.out (some ⟨w6.heap.size, 0, none⟩) 1 1 [.string (keyN i)] ?_ ?_ HSR.out (one_str _) ?_ ?_ ?_ ?_); (· rfl); (· decide); (· rfl); (· rfl); (· rfl); (· unfold maxLen; omega); (· omega); (· simp; omega); intro v3 w3 hown3 hb3; obtain ⟨A3, cc3, rfl⟩ := owns_len hown3; obtain ⟨hc3, hf3, hs3⟩ := HS6.out.append (k := 2) (t := keyN i) (by omega) (by decide) HNL.out rfl (manyF_set _ _) hown3 (((Below.refl _ _).alloc hsz6 _).trans hb3); have HS3 := Lib.hid hs3; clear hown3 hb3 hs3))
          all_goals
            go_wp2_with fail
            go_roundw
            case rel => exact ⟨_, _, _, _, _, _, _, _, _, _, _, _, _, _, _, _, _, _, _, ⟨i + 1, _, by omega, by go_num, HS3.out.lst (kTo_yes hbit)⟩, by (simp [*]; repeat' apply And.intro) <;> rfl⟩
            case measure => simp [intOf]; omega
        · have hbb : (((z : Int) / 2 ^ i).tmod 2 == 1) = false := by
            have e : (z : Int) / 2 ^ i = ((z / 2 ^ i : Nat) : Int) := by simp
            rw [e, Int.tmod_eq_emod_of_nonneg (Int.natCast_nonneg _)]
            simp; omega
          have HS := Lib.hid hs
          clear hs
          go_wp2_with fail
          go_roundw
          case rel => exact ⟨i + 1, v, by omega, by go_num, HS.out.lst (kTo_no hbit)⟩
          case measure => simp [intOf]; omega
      · obtain rfl : i = 8 := by omega
        have hg : decide (((8 : Nat) : Int) < 8) = false := by simp
        have hsz := hs.2.2.size
        by_cases hz0 : z = 0
        · have hzz : ((z : Int) == 0) = true := by simp; omega
          have hka := World.rowIs.alloc hs.1 (.cells #[.string (keyN (y / 15))] 9)
          have hcc2 : (wr.alloc (.cells #[.string (keyN (y / 15))] 9)).cell? ⟨w.heap.size + 1, 2, none⟩ = some v := World.rowIs.cell hka (i := 2) (by decide)
          have hff2 : (wr.alloc (.cells #[.string (keyN (y / 15))] 9)).frozen? ⟨w.heap.size + 1, 2, none⟩ = false := World.rowIs.frozen hka 2
          have hr7 := set_keys hka (.slice (some ⟨wr.heap.size, 0, none⟩) 1 1)
          have hk1 := kept1 (wr.alloc (.cells #[.string (keyN (y / 15))] 9)) (w.heap.size + 1) 2 (.slice (some ⟨wr.heap.size, 0, none⟩) 1 1)
          have hk7 := hs.2.2.trans ((Kept.of_below (L := [w.heap.size + 1]) (below1 wr (.cells #[.string (keyN (y / 15))] 9))).trans hk1)
          have ho7 := hk1.row (by simp; omega) (row_list wr [.string (keyN (y / 15))] 9)
          obtain ⟨w7, hw7⟩ : ∃ w7, (wr.alloc (.cells #[.string (keyN (y / 15))] 9)).setCell ⟨w.heap.size + 1, 2, none⟩ (.slice (some ⟨wr.heap.size, 0, none⟩) 1 1) = w7 := ⟨_, rfl⟩
          rw [hw7] at hr7 hk7 ho7
          have hvk : SlN w7 [w.heap.size + 1, w.heap.size] (.slice (some ⟨wr.heap.size, 0, none⟩) 1 1) (manyN y z) := by
            rw [show manyN y z = [keyN (y / 15)] by unfold manyN; rw [if_pos hz0]]
            exact rowSl1 rfl ho7 (by simp; omega)
          clear hka hk1 ho7 hs
          have hrow : w7.rowIs (w.heap.size + 1) 45 10 (listF (cmdC ⟨5, eB, manyN y z, [], [], 0, 0, eB, eB, eB⟩ (.slice (some ⟨wr.heap.size, 0, none⟩) 1 1) nilV nilV)) := hr7
          have hkept : Kept [w.heap.size + 1] w2 w7 := hk7
          have hCC := Lib.hid (row_cells hrow _ rfl fun i hi => rfl)
          have hT4 := hkept.row (by simp) HA.out.t
          have HTT := Lib.hid (row_there hT4)
          have HE := Lib.hid (end63 (cm := ⟨5, eB, manyN y z, [], [], 0, 0, eB, eB, eB⟩) (vk := .slice (some ⟨wr.heap.size, 0, none⟩) 1 1) (vv := nilV) (vt := nilV) (HCM.out ▸ hc) hT4 hvk (SlX.nil _ _) (SlN.nil _ _) (HA.out.b.trans (hkept.below HA.out.b.size (by simp))))
          clear hrow hkept hT4 hr7 hk7 hvk
          go_wp2_with (first
            | ((with_reducible refine wpList_load_agg (o := ⟨some 132, _, _, _, _, _⟩) rfl 45 _ rfl ⟨w.heap.size + 1, 0, none⟩ ?_ (cmdC ⟨5, eB, manyN y z, [], [], 0, 0, eB, eB, eB⟩ (.slice (some ⟨wr.heap.size, 0, none⟩) 1 1) nilV nilV) _ hCC.out Try.underlying45 rfl (cmdC_size _ _ _ _) ?_); (· rfl))
            | ((with_reducible refine wpList_store_at2 (op := ⟨none, _, _, _, _, _⟩) rfl 45 _ _ rfl w.heap.size 0 (cmdC ⟨5, eB, manyN y z, [], [], 0, 0, eB, eB, eB⟩ (.slice (some ⟨wr.heap.size, 0, none⟩) 1 1) nilV nilV).toArray ?_ ?_ ?_ (cmdC_sizeA _ _ _ _) ?_ ?_); (· rfl); (· rfl); (· exact HTT.out); (· exact cmdC_one _ rfl rfl rfl); intro w5 hw5))
          all_goals exact bodyPost_ret (results_cell1 rfl _ _ ⟨w.heap.size, 0, none⟩ _ rfl HE.out.1) rfl ⟨_, rfl, HCM.out ▸ HE.out.2.1, HE.out.2.2⟩
        · have hzz : ((z : Int) == 0) = false := by simp; omega
          obtain ⟨A3, cc3, rfl⟩ := owns_len hs.2.1
          obtain ⟨n8, hn8⟩ : ∃ n8, (kTo z 8).length = n8 := ⟨_, rfl⟩
          have hr7 : wr.rowIs (w.heap.size + 1) 45 10 (manyF 5 ⟨#[]⟩ (.slice A3 (kTo z 8).length cc3)) := hs.1
          have hk7 := hs.2.2
          have hvk : SlN wr [w.heap.size + 1, w.heap.size] (.slice A3 (kTo z 8).length cc3) (manyN y z) := by
            rw [show manyN y z = kTo z 8 by unfold manyN kTo; rw [if_neg hz0]]
            exact SlN.of_own hs.2.1 (by simp; omega)
          rw [hn8] at hr7 hvk
          clear hs
          have hrow : wr.rowIs (w.heap.size + 1) 45 10 (listF (cmdC ⟨5, eB, manyN y z, [], [], 0, 0, eB, eB, eB⟩ (.slice A3 n8 cc3) nilV nilV)) := hr7
          have hkept : Kept [w.heap.size + 1] w2 wr := hk7
          have hCC := Lib.hid (row_cells hrow _ rfl fun i hi => rfl)
          have hT4 := hkept.row (by simp) HA.out.t
          have HTT := Lib.hid (row_there hT4)
          have HE := Lib.hid (end63 (cm := ⟨5, eB, manyN y z, [], [], 0, 0, eB, eB, eB⟩) (vk := .slice A3 n8 cc3) (vv := nilV) (vt := nilV) (HCM.out ▸ hc) hT4 hvk (SlX.nil _ _) (SlN.nil _ _) (HA.out.b.trans (hkept.below HA.out.b.size (by simp))))
          clear hrow hkept hT4 hr7 hk7 hvk
          go_wp2_with (first
            | ((with_reducible refine wpList_load_agg (o := ⟨some 132, _, _, _, _, _⟩) rfl 45 _ rfl ⟨w.heap.size + 1, 0, none⟩ ?_ (cmdC ⟨5, eB, manyN y z, [], [], 0, 0, eB, eB, eB⟩ (.slice A3 n8 cc3) nilV nilV) _ hCC.out Try.underlying45 rfl (cmdC_size _ _ _ _) ?_); (· rfl))
            | ((with_reducible refine wpList_store_at2 (op := ⟨none, _, _, _, _, _⟩) rfl 45 _ _ rfl w.heap.size 0 (cmdC ⟨5, eB, manyN y z, [], [], 0, 0, eB, eB, eB⟩ (.slice A3 n8 cc3) nilV nilV).toArray ?_ ?_ ?_ (cmdC_sizeA _ _ _ _) ?_ ?_); (· rfl); (· rfl); (· exact HTT.out); (· exact cmdC_one _ rfl rfl rfl); intro w5 hw5))
          all_goals exact bodyPost_ret (results_cell1 rfl _ _ ⟨w.heap.size, 0, none⟩ _ rfl HE.out.1) rfl ⟨_, rfl, HCM.out ▸ HE.out.2.1, HE.out.2.2⟩
end Go.Proofs.Ytnmhmabifeapkaa.Ord
