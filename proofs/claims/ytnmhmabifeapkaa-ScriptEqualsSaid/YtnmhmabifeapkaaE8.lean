/- The walk of the law ScriptEquals. (Printed by wip/tools/genE8.py.) -/
import Derived.Test.YtnmhmabifeapkaaE7
import Derived.Test.YtnmhmabifeapkaaB8
import Derived.Test.YtnmhmabifeapkaaR27
import Derived.Test.YtnmhmabifeapkaaW0
namespace Go.Proofs.Ytnmhmabifeapkaa.Ord
open Go.RowKit
set_option linter.unusedVariables false

theorem itemEq_refl (a : ItemR) : itemEq a a = true := by simp [itemEq]
theorem itemsEq_refl (xs : List ItemR) : itemsEq xs xs = true := itemsEq_yes rfl fun i _ => itemEq_refl _
theorem cmdEq_refl (a : CmdR) : cmdEq a a = true := by simp [cmdEq]
theorem respEq_refl (a : RespR) : respEq a a = true := by simp [respEq, itemsEq_refl]
theorem didEq_refl (a : DidR) : didEq a a = true := by simp [didEq, cmdEq_refl, respEq_refl, stepEq_refl]
theorem did_size (a : DidR) (p : DidV) : (Try.prog.info? 51).map (·.size) = some (didC a p).length := by
  show _ = some 25
  kernel_rfl

set_option maxRecDepth 100000 in
set_option maxHeartbeats 8000000 in
theorem law5 (a b : DidR) (p q : DidV) (w : World) (ha : DidOk w w.heap.size a p) (hb : DidOk w w.heap.size b q) : Law 5 #[.agg (didC a p).toArray, .agg (didC b q).toArray] w := by
  unfold Law
  obtain ⟨h1, h2, h3, h4⟩ := two_boxes w (didC a p) (didC b q) 51 51
  have ha0 := (ha.below h4 (Nat.le_refl _)).mono h4.size
  have hb0 := (hb.below h4 (Nat.le_refl _)).mono h4.size
  clear ha hb
  obtain ⟨W0, hW0⟩ : ∃ W0, (w.alloc (.cells (didC a p).toArray 51)).alloc (.cells (didC b q).toArray 51) = W0 := ⟨_, rfl⟩
  rw [hW0] at h1 h2 h3 h4 ha0 hb0
  have ho : ∀ W, Below W0.heap.size W0 W → DidOk W W.heap.size a p ∧ DidOk W W.heap.size b q := fun W hW => ⟨(ha0.below hW (Nat.le_refl _)).mono hW.size, (hb0.below hW (Nat.le_refl _)).mono hW.size⟩
  have hLa := fun W hW => light19 a p W (ho W hW).1
  have hLb := fun W hW => light19 b q W (ho W hW).2
  have hE := fun W hW => step20 a.step b.step p.vs q.vs W (ho W hW).1.1 (ho W hW).2.1
  have hS := fun W hW (hla : a.step.d.length ≤ 300) (hlb : b.step.d.length ≤ 300) => sameStep_any a.step b.step p.vs q.vs W ⟨(ho W hW).1.1.1, by omega, (ho W hW).1.1.2.2⟩ ⟨(ho W hW).2.1.1, by omega, (ho W hW).2.1.2.2⟩
  have hM := fun W hW => same22 a b p q W (ho W hW).1 (ho W hW).2
  have hR := fun W hW (hla : a.step.d.length ≤ 300) (hlb : b.step.d.length ≤ 300) => same23 a b p q W (ho W hW).1 (ho W hW).2 (by omega) (by omega)
  have hA := fun W hW => same22 a a p p W (ho W hW).1 (ho W hW).1
  have hB := fun W hW => step20 b.step b.step q.vs q.vs W (ho W hW).2.1 (ho W hW).2.1
  clear ho ha0 hb0
  simp only [didEq_refl] at hA
  simp only [stepEq_refl] at hB
  obtain ⟨gS, hgS⟩ : ∃ g, stepEq a.step b.step = g := ⟨_, rfl⟩
  obtain ⟨gD, hgD⟩ : ∃ g, didEq a b = g := ⟨_, rfl⟩
  simp only [hgS] at hE hS
  simp only [hgD] at hM hR
  clear hgS hgD
  have hda := did_size a p
  have hdb := did_size b q
  have hsa := stepL_size a.step.k a.step.c a.step.n p.vs
  have hsb := stepL_size b.step.k b.step.c b.step.n q.vs
  have s1 : CellsAt W0 ⟨w.heap.size, 0, none⟩ (stepL a.step.k a.step.c a.step.n p.vs) := h1.slice 0 4
  have s2 : CellsAt W0 ⟨w.heap.size + 1, 0, none⟩ (stepL b.step.k b.step.c b.step.n q.vs) := h2.slice 0 4
  generalize didC a p = ca at *
  generalize didC b q = cb at *
  generalize stepL a.step.k a.step.c a.step.n p.vs = sa at *
  generalize stepL b.step.k b.step.c b.step.n q.vs = sb at *
  generalize a.step.d.length = la at *
  generalize b.step.d.length = lb at *
  clear a b p q
  have HDA := Lib.hid hda
  have HDB := Lib.hid hdb
  have HSA := Lib.hid hsa
  have HSB := Lib.hid hsb
  have HLa := Lib.hid hLa
  have HLb := Lib.hid hLb
  have HE := Lib.hid hE
  have HS := Lib.hid hS
  have HM := Lib.hid hM
  have HRR := Lib.hid hR
  have HAA := Lib.hid hA
  have HBB := Lib.hid hB
  have HC1 := Lib.hid h1
  have HC2 := Lib.hid h2
  have HS1 := Lib.hid s1
  have HS2 := Lib.hid s2
  have HSZ := Lib.hid h3
  have HB := Lib.hid h4
  have HW0 := Lib.hid hW0
  clear hLa hLb hE hS hM hR hA hB h1 h2 s1 s2 h3 h4 hW0 hda hdb hsa hsb
  go_enter Try.func5, Try.ntmps5
  go_upto_region 1 with (fail)
  rw [HW0.out]
  go_wp2_with ((with_reducible refine wpList_load_agg_w (o := ⟨some 5, _, _, _, _, _⟩) ?_ 51 _ rfl _ ?_ _ _ HC1.out Try.underlying51 HDA.out ?_); (· rfl); (· rfl))
  refine (HLa.out W0 (Below.refl _ _)).mono ?_
  rintro e w1 ⟨La, rfl, hla, hb1⟩
  have hbe1 := HB.out.trans (hb1.mono HB.out.size)
  have HK2 := Lib.hid (HC2.out.below hb1 (show w.heap.size + 1 < _ by rw [HSZ.out]; omega))
  have HLb1 := Lib.hid (HLb.out w1 hb1)
  have HB1 := Lib.hid hb1
  have HLA := Lib.hid hla
  clear hb1 hla
  cases La
  · go_wp2_with fail
    refine (known30_any _).mono ?_
    rintro e w9 ⟨rfl, hb9⟩
    go_wp2_with fail
    go_ret
    exact ⟨rfl, hbe1.trans (hb9.mono hbe1.size)⟩
  have HLA' := Lib.hid (show la ≤ 300 from HLA.out (by first | rfl | trivial))
  go_wp2_with ((with_reducible refine wpList_load_agg_w (o := ⟨some 9, _, _, _, _, _⟩) ?_ 51 _ rfl _ ?_ _ _ HK2.out Try.underlying51 HDB.out ?_); (· rfl); (· rfl))
  refine HLb1.out.mono ?_
  rintro e w2 ⟨Lb, rfl, hlb, hb2⟩
  have hbe2 := hbe1.trans (hb2.mono hbe1.size)
  have HB2 := Lib.hid (HB1.out.trans (hb2.mono HB1.out.size))
  have HLB := Lib.hid hlb
  clear hb2 hlb
  cases Lb
  · go_wp2_with fail
    refine (known30_any _).mono ?_
    rintro e w9 ⟨rfl, hb9⟩
    go_wp2_with fail
    go_ret
    exact ⟨rfl, hbe2.trans (hb9.mono hbe2.size)⟩
  have HLB' := Lib.hid (show lb ≤ 300 from HLB.out (by first | rfl | trivial))
  have S1 := Lib.hid (HS1.out.below HB2.out (show w.heap.size < _ by rw [HSZ.out]; omega)).regrown
  have S2 := Lib.hid (HS2.out.below HB2.out (show w.heap.size + 1 < _ by rw [HSZ.out]; omega)).regrown
  have D1 := Lib.hid (HC1.out.below HB2.out (show w.heap.size < _ by rw [HSZ.out]; omega)).regrown
  have D2 := Lib.hid (HC2.out.below HB2.out (show w.heap.size + 1 < _ by rw [HSZ.out]; omega)).regrown
  have H20 := Lib.hid (fun W (hW : Below w2.heap.size w2 W) => HE.out W (HB2.out.trans (hW.mono HB2.out.size)))
  have H21 := Lib.hid (fun W (hW : Below w2.heap.size w2 W) => HS.out W (HB2.out.trans (hW.mono HB2.out.size)) HLA'.out HLB'.out)
  have H22 := Lib.hid (fun W (hW : Below w2.heap.size w2 W) => HM.out W (HB2.out.trans (hW.mono HB2.out.size)))
  have H23 := Lib.hid (fun W (hW : Below w2.heap.size w2 W) => HRR.out W (HB2.out.trans (hW.mono HB2.out.size)) HLA'.out HLB'.out)
  have H22a := Lib.hid (fun W (hW : Below w2.heap.size w2 W) => HAA.out W (HB2.out.trans (hW.mono HB2.out.size)))
  have H20b := Lib.hid (fun W (hW : Below w2.heap.size w2 W) => HBB.out W (HB2.out.trans (hW.mono HB2.out.size)))
  clear HLa HLb HE HS HM HRR HAA HBB HK2 HLb1 HB1 HLA HLB HLA' HLB'
  have hss : (gS == gS) = true := by simp
  have hdd : (gD == gD) = true := by simp
  go_wp2_with fail
  refine wp_region_quiet_below (by kernel_rfl) (by kernel_rfl) ?_
  go_big_quiet_step (fail)
  with_reducible refine qk_load_agg_want (o := ⟨some 15, _, _, _, _, _⟩) 35 _ rfl ⟨w.heap.size, 0, none⟩ ?_ _ _ S1.out Try.underlying35 rfl HSA.out ?_ ?_
  · rfl
  · rfl
  simp only [Act.put, List.setIfInBounds_toArray, List.set_cons_succ, List.set_cons_zero]
  go_big_quiet_step (fail)
  with_reducible refine qk_load_agg_want (o := ⟨some 17, _, _, _, _, _⟩) 35 _ rfl ⟨w.heap.size + 1, 0, none⟩ ?_ _ _ S2.out Try.underlying35 rfl HSB.out ?_ ?_
  · rfl
  · rfl
  simp only [Act.put, List.setIfInBounds_toArray, List.set_cons_succ, List.set_cons_zero]
  go_big_quiet_step ((go_at_call 20; exact Calls.regrown_of (H20.out _ (below_regrown _ _ _))))
  go_big_quiet_step (fail)
  with_reducible refine qk_load_agg_want (o := ⟨some 20, _, _, _, _, _⟩) 35 _ rfl ⟨w.heap.size, 0, none⟩ ?_ _ _ S1.out Try.underlying35 rfl HSA.out ?_ ?_
  · rfl
  · rfl
  simp only [Act.put, List.setIfInBounds_toArray, List.set_cons_succ, List.set_cons_zero]
  go_big_quiet_step (fail)
  with_reducible refine qk_load_agg_want (o := ⟨some 22, _, _, _, _, _⟩) 35 _ rfl ⟨w.heap.size + 1, 0, none⟩ ?_ _ _ S2.out Try.underlying35 rfl HSB.out ?_ ?_
  · rfl
  · rfl
  simp only [Act.put, List.setIfInBounds_toArray, List.set_cons_succ, List.set_cons_zero]
  go_big_quiet_step ((go_at_call 21; exact Calls.regrown_of (H21.out _ (below_regrown _ _ _))))
  go_big_quiet_step (fail)
  go_big_quiet_step (fail)
  with_reducible refine qk_load_agg_want (o := ⟨some 26, _, _, _, _, _⟩) 51 _ rfl ⟨w.heap.size, 0, none⟩ ?_ _ _ D1.out Try.underlying51 rfl HDA.out ?_ ?_
  · rfl
  · rfl
  simp only [Act.put, List.setIfInBounds_toArray, List.set_cons_succ, List.set_cons_zero]
  with_reducible refine qk_load_agg_want (o := ⟨some 27, _, _, _, _, _⟩) 51 _ rfl ⟨w.heap.size + 1, 0, none⟩ ?_ _ _ D2.out Try.underlying51 rfl HDB.out ?_ ?_
  · rfl
  · rfl
  simp only [Act.put, List.setIfInBounds_toArray, List.set_cons_succ, List.set_cons_zero]
  go_big_quiet_step ((go_at_call 22; exact Calls.regrown_of (H22.out _ (below_regrown _ _ _))))
  with_reducible refine qk_load_agg_want (o := ⟨some 29, _, _, _, _, _⟩) 51 _ rfl ⟨w.heap.size, 0, none⟩ ?_ _ _ D1.out Try.underlying51 rfl HDA.out ?_ ?_
  · rfl
  · rfl
  simp only [Act.put, List.setIfInBounds_toArray, List.set_cons_succ, List.set_cons_zero]
  with_reducible refine qk_load_agg_want (o := ⟨some 30, _, _, _, _, _⟩) 51 _ rfl ⟨w.heap.size + 1, 0, none⟩ ?_ _ _ D2.out Try.underlying51 rfl HDB.out ?_ ?_
  · rfl
  · rfl
  simp only [Act.put, List.setIfInBounds_toArray, List.set_cons_succ, List.set_cons_zero]
  go_big_quiet_step ((go_at_call 23; exact Calls.regrown_of (H23.out _ (below_regrown _ _ _))))
  go_big_quiet_step (fail)
  go_big_quiet_step (fail)
  go_big_quiet_step (fail)
  with_reducible refine qk_load_agg_want (o := ⟨some 35, _, _, _, _, _⟩) 51 _ rfl ⟨w.heap.size, 0, none⟩ ?_ _ _ D1.out Try.underlying51 rfl HDA.out ?_ ?_
  · rfl
  · rfl
  simp only [Act.put, List.setIfInBounds_toArray, List.set_cons_succ, List.set_cons_zero]
  with_reducible refine qk_load_agg_want (o := ⟨some 36, _, _, _, _, _⟩) 51 _ rfl ⟨w.heap.size, 0, none⟩ ?_ _ _ D1.out Try.underlying51 rfl HDA.out ?_ ?_
  · rfl
  · rfl
  simp only [Act.put, List.setIfInBounds_toArray, List.set_cons_succ, List.set_cons_zero]
  go_big_quiet_step ((go_at_call 22; exact Calls.regrown_of (H22a.out _ (below_regrown _ _ _))))
  go_big_quiet_step (fail)
  go_big_quiet_step (fail)
  go_big_quiet_step (fail)
  with_reducible refine qk_load_agg_want (o := ⟨some 41, _, _, _, _, _⟩) 35 _ rfl ⟨w.heap.size + 1, 0, none⟩ ?_ _ _ S2.out Try.underlying35 rfl HSB.out ?_ ?_
  · rfl
  · rfl
  simp only [Act.put, List.setIfInBounds_toArray, List.set_cons_succ, List.set_cons_zero]
  go_big_quiet_step (fail)
  with_reducible refine qk_load_agg_want (o := ⟨some 43, _, _, _, _, _⟩) 35 _ rfl ⟨w.heap.size + 1, 0, none⟩ ?_ _ _ S2.out Try.underlying35 rfl HSB.out ?_ ?_
  · rfl
  · rfl
  simp only [Act.put, List.setIfInBounds_toArray, List.set_cons_succ, List.set_cons_zero]
  go_big_quiet_step ((go_at_call 20; exact Calls.regrown_of (H20b.out _ (below_regrown _ _ _))))
  go_big_quiet_step (fail)
  go_big_quiet_step (fail)
  go_big_quiet_step ((go_at_call 10; exact Calls.regrown_of (known30_any _)))
  go_big_quiet_step (fail)
  go_big_quiet_step (fail)
  refine wpQuiet_nil ?_
  intro W3 hW3
  have hb3 := hbe2.trans ((regrown_below hW3).mono hbe2.size)
  clear hW3
  go_wp2_with fail
  go_ret
  exact ⟨rfl, hb3⟩
end Go.Proofs.Ytnmhmabifeapkaa.Ord
