/- Walk of the law HistoryValid. -/
import Derived.Test.YtnjhpgmbfblgaaaGreatQ0
namespace Go.Proofs.YtnjhpgmbfblgaaaGreat.Ord
set_option maxRecDepth 100000
set_option maxHeartbeats 16000000
open Go.RowKit
set_option linter.unusedVariables false
set_option linter.unusedSimpArgs false
theorem law5 (L : List (CallR × CallV)) (A : Option Addr) (n c : Nat) (a b : CallR) (p q : CallV) (w : World) (hn : L.length = n) (hl : n <= maxLen) (hA : RowCO w w.heap.size A L) (hr : ∀ x ∈ L, Rng x.1) (hs : ∀ x ∈ L, CmdSz x.1.cmd /\ RespSz x.1.resp)
  (ha : CallOk w w.heap.size a p) (has : CmdSz a.cmd /\ RespSz a.resp) (hb : CallOk w w.heap.size b q) (hbs : CmdSz b.cmd /\ RespSz b.resp) :
  Calls Tryz.prog 5 #[.slice A n c, .agg (callC a p).toArray, .agg (callC b q).toArray] w (LawP w) := by
 obtain ⟨h1, h2, h3, h4⟩ := two_boxes w (callC a p) (callC b q) 52 52
 have hAW := row_up hA h4
 have ha0 := (ha.below h4 (Nat.le_refl _)).mono h4.size
 have hb0 := (hb.below h4 (Nat.le_refl _)).mono h4.size
 have hb1 := below2 w (.cells (callC a p).toArray 52) (.cells (callC b q).toArray 52)
 have hsa : (Tryz.prog.info? 52).map (·.size) = some (callC a p).length := call_sizeL _ _ _ _ _ _ _ _ _ _ _ _ _ _ _ _ _ _ _ _ _ _ _
 have hsb : (Tryz.prog.info? 52).map (·.size) = some (callC b q).length := call_sizeL _ _ _ _ _ _ _ _ _ _ _ _ _ _ _ _ _ _ _ _ _ _ _
 obtain ⟨W0, hW0⟩ : ∃ W0, (w.alloc (.cells (callC a p).toArray 52)).alloc (.cells (callC b q).toArray 52) = W0 := ⟨_, rfl⟩
 rw [hW0] at h1 h2 h3 h4 hAW ha0 hb0 hb1
 have hlt1 : w.heap.size < W0.heap.size := by omega
 have hlt2 : w.heap.size + 1 < W0.heap.size := by omega
 have HL := kp (fun W (hW : Below W0.heap.size W0 W) => light20 L A n c W hn hl (row_up hAW hW) hs)
 have HHA := kp (fun W (hW : Below W0.heap.size W0 W) => heavy7 a.cmd a.resp p.vk p.vv p.vt p.vi p.vn W ((ha0.below hW (Nat.le_refl _)).mono hW.size).1 ((ha0.below hW (Nat.le_refl _)).mono hW.size).2 has.1 has.2)
 have HHB := kp (fun W (hW : Below W0.heap.size W0 W) => heavy7 b.cmd b.resp q.vk q.vv q.vt q.vi q.vn W ((hb0.below hW (Nat.le_refl _)).mono hW.size).1 ((hb0.below hW (Nat.le_refl _)).mono hW.size).2 hbs.1 hbs.2)
 have HE := kp (fun W (hW : Below W0.heap.size W0 W) => equal17 a b p q W ((ha0.below hW (Nat.le_refl _)).mono hW.size) ((hb0.below hW (Nat.le_refl _)).mono hW.size))
 have HE2 := kp (fun W (hW : Below W0.heap.size W0 W) => equal18 a b p q W ((ha0.below hW (Nat.le_refl _)).mono hW.size) ((hb0.below hW (Nat.le_refl _)).mono hW.size))
 have HE3 := kp (fun W (hW : Below W0.heap.size W0 W) => equal17 a a p p W ((ha0.below hW (Nat.le_refl _)).mono hW.size) ((ha0.below hW (Nat.le_refl _)).mono hW.size))
 rw [callEq_self] at HE3
 have HV := kp (fun (hcs : ∀ x ∈ L, CallS x.1) W (hW : Below W0.heap.size W0 W) => (valid25 L A n c W hn hl (row_up hAW hW) hcs).mono fun e w' h => h.det)
 have HV2 := kp (fun (hcs : ∀ x ∈ L, CallS x.1) W (hW : Below W0.heap.size W0 W) => (valid22 L A n c W hn hl (row_up hAW hW) hcs).mono fun e w' h => h.det)
 have HCA := kp (show ∀ W, Below W0.heap.size W0 W -> CellsAt W ⟨w.heap.size, 3, none⟩ (cmdC a.cmd p.vk p.vv p.vt) from fun W hW => by simpa using call_cmd (h1.below hW hlt1))
 have HRA := kp (show ∀ W, Below W0.heap.size W0 W -> CellsAt W ⟨w.heap.size, 13, none⟩ (respC a.resp p.vi p.vn) from fun W hW => by simpa using call_resp (h1.below hW hlt1))
 have HCB := kp (show ∀ W, Below W0.heap.size W0 W -> CellsAt W ⟨w.heap.size + 1, 3, none⟩ (cmdC b.cmd q.vk q.vv q.vt) from fun W hW => by simpa using call_cmd (h2.below hW hlt2))
 have HRB := kp (show ∀ W, Below W0.heap.size W0 W -> CellsAt W ⟨w.heap.size + 1, 13, none⟩ (respC b.resp q.vi q.vn) from fun W hW => by simpa using call_resp (h2.below hW hlt2))
 have H1 := kp (show ∀ W, Below W0.heap.size W0 W -> CellsAt W ⟨w.heap.size, 0, none⟩ (callC a p) from fun W hW => h1.below hW hlt1)
 have H2 := kp (show ∀ W, Below W0.heap.size W0 W -> CellsAt W ⟨w.heap.size + 1, 0, none⟩ (callC b q) from fun W hW => h2.below hW hlt2)
 have S1 := kp (show (Tryz.prog.info? 36).map (·.size) = some (cmdC a.cmd p.vk p.vv p.vt).length from cmd_sizeL _ _ _ _ _ _ _ _ _ _)
 have S2 := kp (show (Tryz.prog.info? 40).map (·.size) = some (respC a.resp p.vi p.vn).length from resp_sizeL _ _ _ _ _ _)
 have S3 := kp (show (Tryz.prog.info? 36).map (·.size) = some (cmdC b.cmd q.vk q.vv q.vt).length from cmd_sizeL _ _ _ _ _ _ _ _ _ _)
 have S4 := kp (show (Tryz.prog.info? 40).map (·.size) = some (respC b.resp q.vi q.vn).length from resp_sizeL _ _ _ _ _ _)
 have HSA := kp hsa
 have HSB := kp hsb
 have HB0 := kp hb1
 have HW0 := kp hW0
 have HR := kp hr
 clear h1 h2 h3 h4 hAW ha0 hb0 hb1 hsa hsb hW0 hlt1 hlt2 hA hr hs ha has hb hbs hn
 generalize cmdC a.cmd p.vk p.vv p.vt = la1 at *
 generalize respC a.resp p.vi p.vn = la2 at *
 generalize cmdC b.cmd q.vk q.vv q.vt = lb1 at *
 generalize respC b.resp q.vi q.vn = lb2 at *
 generalize callC a p = la at *
 generalize callC b q = lb at *
 go_enter Tryz.func5, Tryz.ntmps5
 go_upto_region 1 with (fail)
 rw [HW0.out]
 go_wp2_with fail
 refine (HL.out W0 (Below.refl _ _)).mono ?_
 rintro e w1 ⟨t, rfl, hlt, hb1⟩
 have HLT := kp hlt
 have HB1 := kp hb1
 clear hlt hb1
 cases t
 ·go_wp2_with fail
  refine (known15 w1).mono ?_
  rintro e w2 ⟨rfl, hb2⟩
  have HB2 := kp hb2
  clear hb2
  go_wp2_with fail
  go_ret
  exact ⟨rfl, HB0.out.trans ((HB1.out.trans (HB2.out.mono HB1.out.size)).mono HB0.out.size)⟩
 have HCA1 := kp (HCA.out _ HB1.out)
 have HRA1 := kp (HRA.out _ HB1.out)
 go_wp2_with (first
  | ((with_reducible refine wpList_load_agg_w (o := ⟨some 12, _, _, _, _, _⟩) ?_ 36 _ rfl ⟨w.heap.size, 3, none⟩ ?_ la1 _ HCA1.out Tryz.underlying36 S1.out ?_); (· rfl); (· rfl))
  | ((with_reducible refine wpList_load_agg_w (o := ⟨some 14, _, _, _, _, _⟩) ?_ 40 _ rfl ⟨w.heap.size, 13, none⟩ ?_ la2 _ HRA1.out Tryz.underlying40 S2.out ?_); (· rfl); (· rfl)))
 refine (HHA.out w1 HB1.out).mono ?_
 rintro e w2 ⟨t, rfl, hla, hb2⟩
 have HLA := kp hla
 have HB2 := kp (HB1.out.trans (hb2.mono HB1.out.size))
 clear hla hb2
 cases t
 case true =>
  go_wp2_with fail
  refine (known15 w2).mono ?_
  rintro e w3 ⟨rfl, hb3⟩
  have HB3 := kp hb3
  clear hb3
  go_wp2_with fail
  go_ret
  exact ⟨rfl, HB0.out.trans ((HB2.out.trans (HB3.out.mono HB2.out.size)).mono HB0.out.size)⟩
 have HCB1 := kp (HCB.out _ HB2.out)
 have HRB1 := kp (HRB.out _ HB2.out)
 go_wp2_with (first
  | ((with_reducible refine wpList_load_agg_w (o := ⟨some 19, _, _, _, _, _⟩) ?_ 36 _ rfl ⟨w.heap.size + 1, 3, none⟩ ?_ lb1 _ HCB1.out Tryz.underlying36 S3.out ?_); (· rfl); (· rfl))
  | ((with_reducible refine wpList_load_agg_w (o := ⟨some 21, _, _, _, _, _⟩) ?_ 40 _ rfl ⟨w.heap.size + 1, 13, none⟩ ?_ lb2 _ HRB1.out Tryz.underlying40 S4.out ?_); (· rfl); (· rfl)))
 refine (HHB.out w2 HB2.out).mono ?_
 rintro e w3 ⟨t, rfl, hlb, hb3⟩
 have HB3 := kp (HB2.out.trans (hb3.mono HB2.out.size))
 clear hlb hb3
 cases t
 case true =>
  go_wp2_with fail
  refine (known15 w3).mono ?_
  rintro e w4 ⟨rfl, hb4⟩
  have HB4 := kp hb4
  clear hb4
  go_wp2_with fail
  go_ret
  exact ⟨rfl, HB0.out.trans ((HB3.out.trans (HB4.out.mono HB3.out.size)).mono HB0.out.size)⟩
 have hcs : ∀ x ∈ L, CallS x.1 := fun x hx => callS_of ((HLT.out trivial).2 x hx) (HR.out x hx)
 have HVa := kp (HV.out hcs)
 have HVb := kp (HV2.out hcs)
 clear hcs
 have Q1 := kp (H1.out _ HB3.out).regrown
 have Q2 := kp (H2.out _ HB3.out).regrown
 have K15 := kp (fun W => known15 W)
 generalize vb L = vv at *
 generalize callEq a b = ee at *
 go_upto_region 3 with (fail)
 cases vv
 all_goals cases ee
 all_goals
  refine wp_region_quiet_below (by kernel_rfl) (by kernel_rfl) ?_
  repeat (first
   | ((with_reducible refine qk_load_agg_want (o := ⟨some 31, _, _, _, _, _⟩) 52 _ rfl ⟨w.heap.size, 0, none⟩ ?_ la _ Q1.out Tryz.underlying52 rfl HSA.out ?_ ?_); (· rfl); (· rfl); simp only [Act.put, z1, z2, z3])
   | ((with_reducible refine qk_load_agg_want (o := ⟨some 32, _, _, _, _, _⟩) 52 _ rfl ⟨w.heap.size + 1, 0, none⟩ ?_ lb _ Q2.out Tryz.underlying52 rfl HSB.out ?_ ?_); (· rfl); (· rfl); simp only [Act.put, z1, z2, z3])
   | ((with_reducible refine qk_load_agg_want (o := ⟨some 34, _, _, _, _, _⟩) 52 _ rfl ⟨w.heap.size, 0, none⟩ ?_ la _ Q1.out Tryz.underlying52 rfl HSA.out ?_ ?_); (· rfl); (· rfl); simp only [Act.put, z1, z2, z3])
   | ((with_reducible refine qk_load_agg_want (o := ⟨some 35, _, _, _, _, _⟩) 52 _ rfl ⟨w.heap.size + 1, 0, none⟩ ?_ lb _ Q2.out Tryz.underlying52 rfl HSB.out ?_ ?_); (· rfl); (· rfl); simp only [Act.put, z1, z2, z3])
   | ((with_reducible refine qk_load_agg_want (o := ⟨some 40, _, _, _, _, _⟩) 52 _ rfl ⟨w.heap.size, 0, none⟩ ?_ la _ Q1.out Tryz.underlying52 rfl HSA.out ?_ ?_); (· rfl); (· rfl); simp only [Act.put, z1, z2, z3])
   | ((with_reducible refine qk_load_agg_want (o := ⟨some 41, _, _, _, _, _⟩) 52 _ rfl ⟨w.heap.size, 0, none⟩ ?_ la _ Q1.out Tryz.underlying52 rfl HSA.out ?_ ?_); (· rfl); (· rfl); simp only [Act.put, z1, z2, z3])
   | go_big_quiet_step ((first
    | (go_at_call 25; exact Calls.regrown_of (HVa.out _ (HB3.out.trans ((below_regrown _ _ _).mono HB3.out.size))))
    | (go_at_call 22; exact Calls.regrown_of (HVb.out _ (HB3.out.trans ((below_regrown _ _ _).mono HB3.out.size))))
    | (go_at_call_of 26 lb; exact Calls.regrown_of (HE.out _ (HB3.out.trans ((below_regrown _ _ _).mono HB3.out.size))))
    | (go_at_call 26; exact Calls.regrown_of (HE3.out _ (HB3.out.trans ((below_regrown _ _ _).mono HB3.out.size))))
    | (go_at_call 27; exact Calls.regrown_of (HE2.out _ (HB3.out.trans ((below_regrown _ _ _).mono HB3.out.size))))
    | (go_at_call 15; exact Calls.regrown_of (K15.out _)))))
  refine wpQuiet_nil ?_
  intro w9 hW9
  have hb9 := regrown_below hW9
  have HB9 := kp hb9
  clear hW9 hb9
  go_wp2_with fail
  go_ret
  exact ⟨rfl, HB0.out.trans ((HB3.out.trans (HB9.out.mono HB3.out.size)).mono HB0.out.size)⟩
end Go.Proofs.YtnjhpgmbfblgaaaGreat.Ord
