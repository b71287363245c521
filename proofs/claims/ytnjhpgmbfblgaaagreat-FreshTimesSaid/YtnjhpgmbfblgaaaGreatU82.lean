/- Walk of the law FreshTimes. (Printed by wip/tools/u82.py.) -/
import Derived.Test.YtnjhpgmbfblgaaaGreatU81
namespace Go.Proofs.YtnjhpgmbfblgaaaGreat.Ord
open Go.RowKit
set_option linter.unusedVariables false
set_option linter.unusedSimpArgs false
set_option maxRecDepth 100000
set_option maxHeartbeats 8000000

theorem n30 : (Tryz.f30.name == "runtime.NumGoroutine") = false := by decide
theorem n32 : (Tryz.f32.name == "runtime.NumGoroutine") = false := by decide
/-- a session of what was said, judged -/
theorem ses_in {Ls : List (List Value)} (Ss : List SaidR) (v : Value) (n : Nat) (a f grace : Int) {r : Option (Nat × Int)} (W W' : World) (hin : InA W Ls Ss) (ho : W'.ownsRow W.heap.size 73 17 v n Ls.flatten) (hb : Below W.heap.size W W') (hgr : IsT grace)
    (hr : runX grace (sesR Ss) (List.range n) [] [] = some r) (hn : Ss.length = n) (hn2 : n ≤ 1000) (hok : Ss.all okS = true) (hp : Ss.Pairwise fun a b => a.tim ≤ b.tim) (ha : atR r = a) (hf : fltR r = f) :
    Calls Tryz.prog 32 #[v] W' fun e w' => ∃ u, e = .returned u ∧ Below W.heap.size W w' ∧ Calls Tryz.prog 30 #[.agg #[.int .i64 0, .int .i64 0, .int .i64 0, .int .i64 0, .int .i64 0, .int .u64 grace, .int .u64 0], u] w' fun e w2 => ∃ u2, e = .returned u2 ∧ u2 = .tuple #[.int .i64 a, .int .i64 f, .int .i64 0] ∧ Below W.heap.size W w2 := by
  obtain ⟨_, _, S, hS1, hS2, hS3⟩ := hin.ex
  have hl : S.length = n := by rw [← hn, ← hS1, List.length_map]
  obtain ⟨hg, hv⟩ := ex_ok (S := S) (by omega) (by rw [hS1]; exact hok) (by rw [hS1]; exact hp)
  have hok' : ∀ x ∈ S, SaidOk W' W.heap.size x.1 x.2 := fun x hx => ⟨(hS3 x hx).1.1.below hb (Nat.le_refl _), (hS3 x hx).1.2⟩
  refine (kf_ S v n W.heap.size W' hl hn2 (by rw [hS2]; exact ho) hb.size (fun x hx => (hS3 x hx).2)).mono ?_
  rintro e w5 ⟨u, rfl, hu, hk⟩
  have hb5 : Below W.heap.size W' w5 := hk.below hb.size (fun b hb2 => (ho.lt b (by simpa using hb2)).1)
  obtain ⟨A, c, rfl, hrg⟩ := rowG_ses hl hn2 hok' hg hb5 (Nat.le_trans hb.size hk.size) hu
  refine ⟨_, rfl, hb.trans hb5, ?_⟩
  refine (check30 [.int .i64 0, .int .i64 0, .int .i64 0, .int .i64 0, .int .i64 0, .int .u64 grace, .int .u64 0] grace hgr rfl (sesC S) A n c w5 (by rw [dZ_, hl]) hrg).mono ?_
  rintro e w' ⟨-, h2, h3⟩
  obtain ⟨r', h4, rfl⟩ := h2 hv
  obtain rfl := (chk_ses (by rw [hS1, hl]; exact hr)).fun h4
  rw [ha, hf]
  exact ⟨_, rfl, rfl, (hb.trans hb5).trans (h3.mono (Nat.le_trans hb.size hk.size))⟩
theorem one_said (W : World) : RowL (W.alloc (.cells zSaid.toArray 73)) W.heap.size 73 zSaid ∧ Below W.heap.size W (W.alloc (.cells zSaid.toArray 73)) := ⟨RowL.new W 73 zSaid, below1 W _⟩
theorem one_set {L : List Value} (h : ∀ u ∈ L, u.oneCell' = true) (j : Nat) (v : Value) (hv : v.oneCell' = true) : ∀ u ∈ L.set j v, u.oneCell' = true := fun u hu => by
  rcases List.mem_or_eq_of_mem_set hu with h2 | rfl
  · exact h u h2
  · exact hv
theorem one_getS (m : Int) (v : ByteArray) (ver tim : Int) (b : Nat) : (saidL (getS m v ver tim) (pvI b)).toArray.all (·.oneCell') = true := all_oneCell_toArray fun u hu => by
  unfold saidL getS respC cmdC pvI at hu
  simp only [List.cons_append, List.nil_append, List.mem_cons, List.not_mem_nil, or_false] at hu
  rcases hu with rfl | rfl | rfl | rfl | rfl | rfl | rfl | rfl | rfl | rfl | rfl | rfl | rfl | rfl | rfl | rfl | rfl <;> rfl
theorem saidL_life (life : Int) (p : CallV) : (saidL (setS bX 1 0 [bT]) p).set 5 (.int .u64 life) = saidL (sT life) p := rfl
theorem law8 (life grace soft now m : Int) (hl : IsT life) (hg : IsT grace) (hs : IsT soft) (hn : IsT now) (hm : 0 ≤ m ∧ m < 256) (w : World) :
    Calls Tryz.prog 8 #[.int .u64 life, .int .u64 grace, .int .u64 soft, .int .u64 now, .int .u8 m] w (LawP w) := by
  have hb0 := below1 w (.cells #[.string ⟨#[116]⟩] 9)
  go_enter Tryz.func8, Tryz.ntmps8
  by_cases c1 : life < 1
  · have ec1 : decide (life < 1) = true := decide_eq_true c1
    clear hb0 hl hg hs hn hm c1
    go_wp2_with (go_at_call 29; refine (known29 w).mono ?_; rintro e w2 ⟨rfl, hb2⟩)
    go_ret
    exact ⟨rfl, hb2⟩
  have ec1 : decide (life < 1) = false := decide_eq_false c1
  by_cases c2 : 1000 < life
  · have ec2 : decide (1000 < life) = true := decide_eq_true c2
    clear hb0 hl hg hs hn hm c2
    go_wp2_with (go_at_call 29; refine (known29 w).mono ?_; rintro e w2 ⟨rfl, hb2⟩)
    go_ret
    exact ⟨rfl, hb2⟩
  have ec2 : decide (1000 < life) = false := decide_eq_false c2
  by_cases c3 : grace < 1
  · have ec3 : decide (grace < 1) = true := decide_eq_true c3
    clear hb0 hl hg hs hn hm c3
    go_wp2_with (go_at_call 29; refine (known29 w).mono ?_; rintro e w2 ⟨rfl, hb2⟩)
    go_ret
    exact ⟨rfl, hb2⟩
  have ec3 : decide (grace < 1) = false := decide_eq_false c3
  by_cases c4 : 1000 < grace
  · have ec4 : decide (1000 < grace) = true := decide_eq_true c4
    clear hb0 hl hg hs hn hm c4
    go_wp2_with (go_at_call 29; refine (known29 w).mono ?_; rintro e w2 ⟨rfl, hb2⟩)
    go_ret
    exact ⟨rfl, hb2⟩
  have ec4 : decide (1000 < grace) = false := decide_eq_false c4
  by_cases c5 : now < soft
  · have ec5 : decide (now < soft) = true := decide_eq_true c5
    clear hb0 hl hg hs hn hm c5
    go_wp2_with (go_at_call 29; refine (known29 w).mono ?_; rintro e w2 ⟨rfl, hb2⟩)
    go_ret
    exact ⟨rfl, hb2⟩
  have ec5 : decide (now < soft) = false := decide_eq_false c5
  by_cases c6 : 2000 < now
  · have ec6 : decide (2000 < now) = true := decide_eq_true c6
    clear hb0 hl hg hs hn hm c6
    go_wp2_with (go_at_call 29; refine (known29 w).mono ?_; rintro e w2 ⟨rfl, hb2⟩)
    go_ret
    exact ⟨rfl, hb2⟩
  have ec6 : decide (2000 < now) = false := decide_eq_false c6
  by_cases c7 : 2 < m
  · have ec7 : decide (2 < m) = true := decide_eq_true c7
    clear hb0 hl hg hs hn hm c7
    go_wp2_with (go_at_call 29; refine (known29 w).mono ?_; rintro e w2 ⟨rfl, hb2⟩)
    go_ret
    exact ⟨rfl, hb2⟩
  have ec7 : decide (2 < m) = false := decide_eq_false c7
  unfold IsT at hl hg hs hn
  have hw : IntKind.i64.wrap m = m := by rw [IntKind.wrap_i64]; omega
  have H1 := Lib.hid (show 1 ≤ life ∧ life ≤ 1000 by omega)
  have H2 := Lib.hid (show 1 ≤ grace ∧ grace ≤ 1000 by omega)
  have H3 := Lib.hid (show 0 ≤ soft ∧ soft ≤ now by omega)
  have H4 := Lib.hid (show now ≤ 2000 by omega)
  have H5 := Lib.hid (show m = 0 ∨ m = 1 ∨ m = 2 by omega)
  clear hl hg hs hn hm c1 c2 c3 c4 c5 c6 c7
  go_upto_region 3 with (fail)
  clear ec1 ec2 ec3 ec4 ec5 ec6 ec7
  go_upto_region 4 with (first
    | (go_at_call 33; refine (say33 bX 1 0 _ [bT] _ (by decide) (slvK_one bT w (by simp))).mono ?_; rintro e W1 ⟨u, rfl, LX, rfl, hxi, hb1⟩; obtain ⟨t1, t2⟩ := one_said W1; have HOX := Lib.hid hxi.one; have HLX := Lib.hid hxi.len; have HT1 := Lib.hid t1; have HT2 := Lib.hid t2; have HXI := Lib.hid hxi; have HB1 := Lib.hid (hb0.trans (hb1.mono hb0.size)); clear hxi t1 t2 hb1 hb0)
    | ((with_reducible refine ab_ (op := ⟨none, _, _, _, _, _⟩) rfl 73 _ _ rfl W1.heap.size 0 LX.toArray ?_ ?_ ?_ ?_ HOX.out ?_); (· rfl); (· rfl); (· exact HT1.out.there (by rw [Nat.zero_add, List.size_toArray, HLX.out]; decide)); (· rw [List.size_toArray]; exact q73 LX HLX.out); intro w9 hw9))
  obtain ⟨X, hX⟩ : ∃ X, W1.heap.size = X := ⟨_, rfl⟩
  have h9 : RowL w9 X 73 LX := by rw [hw9, ← hX]; have := HT1.out.setCells (o := 0) LX; rw [show putL zSaid 0 LX = LX from f1_ LX HLX.out] at this; exact this
  have hb9 : Below W1.heap.size W1 w9 := by rw [hw9]; exact HT2.out.trans (ai_ LX 0 _ (Nat.le_refl _))
  obtain ⟨p, hLX, hok, hone⟩ := HXI.out
  have hcX : LX[5]? = some (.int .u64 nev) := by rw [hLX]; rfl
  have e5 : w9.cell? ⟨X, 5, none⟩ = some (.int .u64 nev) := h9.cell hcX
  have f5 : w9.frozen? ⟨X, 5, none⟩ = false := h9.frozen 5
  have HH9 := Lib.hid h9
  have HHB9 := Lib.hid hb9
  have HXS := Lib.hid (show SaidIn W1 (saidL (sT life) p) (sT life) from ⟨p, rfl, hok, by rw [← saidL_life]; exact one_set (by rw [← hLX]; exact hone) 5 _ rfl⟩)
  have HXL := Lib.hid (show LX.set 5 (.int .u64 life) = saidL (sT life) p by rw [hLX]; rfl)
  have HXX := Lib.hid hX
  rw [hX]
  clear hX hw9 h9 hb9 hLX hok hone hcX HT1 HT2 HOX HXI
  go_upto_region 5 with (fail)
  obtain ⟨W2, hW2⟩ : ∃ W, w9.setCell ⟨X, 5, none⟩ (.int .u64 life) = W := ⟨_, rfl⟩
  rw [hW2]
  obtain ⟨L2, hL2⟩ : ∃ L, saidL (sT life) p = L := ⟨_, rfl⟩
  have h2 : RowL W2 X 73 L2 := by rw [← hW2, ← hL2, ← HXL.out]; exact HH9.out.set 5 _
  have HL2 := Lib.hid (show L2.length = 17 by rw [← hL2]; rfl)
  have HXS := Lib.hid (show SaidIn W1 L2 (sT life) from hL2 ▸ HXS.out)
  have hb2 : Below W1.heap.size W1 W2 := by rw [← hW2]; exact HHB9.out.trans ((Below.refl _ w9).setCell (p := ⟨X, 5, none⟩) (by rw [HXX.out]; exact Nat.le_refl _) _)
  have HX2 := Lib.hid h2
  have HB2 := Lib.hid hb2
  clear hW2 h2 hb2 hL2 HH9 HHB9 HXL e5 f5
  go_upto_region 6 with (first
    | (go_at_call 34; refine (get34x m bX 1 now _ (by decide)).mono ?_; rintro e W3 ⟨b, vv, rfl, hbb, hri, hdi, hb3⟩; obtain ⟨LY, hLY⟩ : ∃ L, saidL (getS m bX 1 now) (pvI b) = L := ⟨_, rfl⟩; rw [hLY]; obtain ⟨t1, t2⟩ := one_said W3; have HOY := Lib.hid (show LY.toArray.all (·.oneCell') = true by rw [← hLY]; exact one_getS _ _ _ _ _); have HLY := Lib.hid (show LY.length = 17 by rw [← hLY]; rfl); have HYE := Lib.hid hLY; have HT1 := Lib.hid t1; have HT2 := Lib.hid t2; have HRI := Lib.hid hri; have HDI := Lib.hid hdi; have HBB := Lib.hid hbb; have HB3 := Lib.hid hb3; clear t1 t2 hri hdi hbb hb3 hLY)
    | ((with_reducible refine ab_ (op := ⟨none, _, _, _, _, _⟩) rfl 73 _ _ rfl W3.heap.size 0 LY.toArray ?_ ?_ ?_ ?_ HOY.out ?_); (· rfl); (· rfl); (· exact HT1.out.there (by rw [Nat.zero_add, List.size_toArray, HLY.out]; decide)); (· rw [List.size_toArray]; exact q73 LY HLY.out); intro w10 hw10))
  obtain ⟨Y, hY⟩ : ∃ Y, W3.heap.size = Y := ⟨_, rfl⟩
  have hbY : b < Y := by rw [← hY]; exact HRI.out.lt
  have hy10 : RowL w10 Y 73 LY := by rw [hw10, ← hY]; have := HT1.out.setCells (o := 0) LY; rw [show putL zSaid 0 LY = LY from f1_ LY HLY.out] at this; exact this
  have hi10 : RowL w10 b 78 (aD_ m vv 1 nev) := by rw [hw10]; exact (HRI.out.alloc _).setCellsOther (by rw [hY]; omega)
  have hb10 : Below W3.heap.size W3 w10 := by rw [hw10]; exact HT2.out.trans (ai_ LY 0 _ (Nat.le_refl _))
  have hX3 : X < W2.heap.size := HX2.out.lt
  have hXb : X < b := Nat.lt_of_lt_of_le hX3 HBB.out
  have e12 : w10.cell? ⟨Y, 12, none⟩ = some (.slice (some ⟨b, 0, none⟩) 1 1) := hy10.cell (by rw [← HYE.out]; rfl)
  have e3 : w10.cell? ⟨b, 3, none⟩ = some (.int .u64 nev) := hi10.cell rfl
  have f3 : w10.frozen? ⟨b, 3, none⟩ = false := hi10.frozen 3
  have HY10 := Lib.hid hy10
  have HI10 := Lib.hid hi10
  have HB10 := Lib.hid hb10
  have HBY := Lib.hid hbY
  have HXB := Lib.hid hXb
  have HYY := Lib.hid hY
  rw [hY]
  clear hY hw10 hy10 hi10 hb10 hbY hX3 hXb HT1 HT2 HOY
  go_upto_region 7 with (fail)
  obtain ⟨W5, hW5⟩ : ∃ W, w10.setCell ⟨b, 3, none⟩ (.int .u64 life) = W := ⟨_, rfl⟩
  rw [hW5]
  have hi5 : RowL W5 b 78 (aD_ m vv 1 life) := by rw [← hW5]; exact HI10.out.set 3 _
  have hy5 : RowL W5 Y 73 LY := by rw [← hW5]; exact HY10.out.setOther (Nat.ne_of_gt HBY.out) _
  have hb5 : Below b W3 W5 := by rw [← hW5]; exact (HB10.out.mono (by rw [HYY.out]; exact Nat.le_of_lt HBY.out)).trans ((Below.refl _ w10).setCell (p := ⟨b, 3, none⟩) (Nat.le_refl _) _)
  have e12 : W5.cell? ⟨Y, 12, none⟩ = some (.slice (some ⟨b, 0, none⟩) 1 1) := hy5.cell (by rw [← HYE.out]; rfl)
  have HY5 := Lib.hid hy5
  have HI5 := Lib.hid hi5
  have HB5 := Lib.hid hb5
  have HD5 := Lib.hid (HDI.out.1.below hb5 (Nat.le_refl _))
  clear hW5 hi5 hy5 hb5 e3 f3 HY10 HI10 HB10 HDI
  have HALL : Hid (∀ W6, Below b W5 W6 → RowL W6 b 78 (aD_ (itT m life).mark (if m = 0 then .slice none 0 0 else vv) (itT m life).ver (itT m life).dead) → RowL W6 Y 73 LY → SaidIn W6 LY (gT m life now) ∧ RowL W6 X 73 (L2) ∧ SaidIn W6 (L2) (sT life) ∧ Below w.heap.size w W6) := Lib.hid (fun W6 hb6 hi6 hy6 => by
    have h36 : Below b W3 W6 := HB5.out.trans hb6
    have h26 : Below W2.heap.size W2 W6 := HB3.out.trans (h36.mono HBB.out)
    have h16 : Below W1.heap.size W1 W6 := HB2.out.trans (h26.mono HB2.out.size)
    refine ⟨?_, HX2.out.below h26 HX2.out.lt, HXS.out.below h16, HB1.out.trans (h16.mono HB1.out.size)⟩
    rw [← HYE.out]
    by_cases hm0 : m = 0
    · subst hm0
      exact said_get (val := []) hi6 (datg_nil _ _)
    · rw [if_neg hm0] at hi6
      have e : itT m life = ⟨m, aF_ bX, 1, life⟩ := by unfold itT; rw [if_neg hm0]
      rw [e] at hi6
      have e2 : gT m life now = ⟨⟨4, kA, [], [], [], 0, 0, ⟨#[]⟩, ⟨#[]⟩, ⟨#[]⟩⟩, ⟨0, 0, [⟨m, aF_ bX, 1, life⟩], 0, 0, []⟩, now⟩ := by unfold gT; rw [e]
      rw [e2]
      exact said_get hi6 ((HD5.out.below hb6 (Nat.le_refl _)).mono (Nat.le_of_lt hi6.lt)))
  clear HX2 HB1 HB2 HB3 HXS HBB HYE HB5 HD5
  by_cases hm0 : m = 0
  case' pos =>
    have em : (m == 0) = true := by simp [hm0]
    have HM0 := Lib.hid hm0
    clear hm0
    go_upto_region 9 with ((with_reducible refine ab_ (op := ⟨none, _, _, _, _, _⟩) rfl 78 _ _ rfl b 0 #[.int .i64 0, .slice none 0 0, .int .u64 0, .int .u64 0] ?_ ?_ ?_ ?_ ?_ ?_); (· rfl); (· rfl); (· exact HI5.out.there (by show (4 : Nat) ≤ 4; exact Nat.le_refl _)); (· show (Tryz.prog.info? 78).map (·.size) = some 4; kernel_rfl); (· simp [Value.oneCell']); intro w11 hw11)
    have hy6 : RowL w11 Y 73 LY := by rw [hw11]; exact HY5.out.setCellsOther (Nat.ne_of_gt HBY.out)
    have hq := HALL.out w11 (by rw [hw11]; exact ai_ [.int .i64 0, .slice none 0 0, .int .u64 0, .int .u64 0] 0 W5 (Nat.le_refl _)) (by rw [hw11, HM0.out]; exact HI5.out.setCells (o := 0) [.int .i64 0, .slice none 0 0, .int .u64 0, .int .u64 0]) hy6
    clear hw11
    obtain ⟨W6, hW6⟩ : ∃ W, w11 = W := ⟨_, rfl⟩
    rw [hW6] at hq hy6 ⊢
    clear hW6 e12
  case' neg =>
    have em : (m == 0) = false := by simp [hm0]
    have HM0 := Lib.hid hm0
    have HI6 := Lib.hid (show RowL W5 b 78 (aD_ (itT m life).mark (if m = 0 then .slice none 0 0 else vv) (itT m life).ver (itT m life).dead) by unfold itT; rw [if_neg hm0, if_neg hm0]; exact HI5.out)
    clear hm0
    go_upto_region 9 with (fail)
    have hy6 := HY5.out
    have hq := HALL.out W5 (Below.refl _ _) HI6.out hy6
    obtain ⟨W6, hW6⟩ : ∃ W, W5 = W := ⟨_, rfl⟩
    rw [hW6] at hq hy6 ⊢
    clear hW6 e12 HI6
  all_goals
    obtain ⟨q1, q2, q3, q4⟩ := hq
    have HYI := Lib.hid q1
    have HX := Lib.hid q2
    have HXI := Lib.hid q3
    have HB := Lib.hid q4
    have HY := Lib.hid hy6
    have HR := Lib.hid (runT life grace soft now m H1.out H2.out H3.out H4.out H5.out)
    have HOK := Lib.hid (show [sT life, pT soft, gT m life now].all okS = true from and2 (okS_sT H1.out) (and2 (okS_pT (by have := H3.out; have := H4.out; omega)) (and2 (okS_gT H1.out (by have := H3.out; have := H4.out; omega) H5.out) rfl)))
    have HPW := Lib.hid (show [sT life, pT soft, gT m life now].Pairwise (fun a b => a.tim ≤ b.tim) from .cons (fun x hx => by simp only [List.mem_cons, List.not_mem_nil, or_false] at hx; rcases hx with rfl | rfl; exact H3.out.1; exact Int.le_trans H3.out.1 H3.out.2) (.cons (fun x hx => by simp only [List.mem_cons, List.not_mem_nil, or_false] at hx; rcases hx with rfl; exact H3.out.2) (.cons (fun x hx => by cases hx) .nil)))
    clear hy6 q1 q2 q3 q4 HALL HI5 HY5
    refine k_begin (fun hS => ?_)
    have HS := Lib.hid hS
    clear hS
    refine k_pure 0 HS.out rfl rfl (fun _ _ _ h => h) ?_
    simp only [Act.put, List.setIfInBounds_toArray, List.set_cons_succ, List.set_cons_zero]
    refine k_pure 1 (v := .agg #[.int .i64 0, .int .i64 0, .int .i64 0, .int .i64 0, .int .i64 0, .int .u64 grace, .int .u64 0]) HS.out rfl rfl (fun _ _ _ h => h) ?_
    simp only [Act.put, List.setIfInBounds_toArray, List.set_cons_succ, List.set_cons_zero]
    refine k_load 2 HS.out HX.out HL2.out rfl rfl rfl (fun _ _ _ h => h) ?_
    simp only [Act.put, List.setIfInBounds_toArray, List.set_cons_succ, List.set_cons_zero]
    refine k_pure 3 (v := .agg #[.int .i64 9, .string ⟨#[]⟩, .slice none 0 0, .slice none 0 0, .slice none 0 0, .int .u64 0, .int .u64 0, .string ⟨#[116]⟩, .string ⟨#[]⟩, .string ⟨#[]⟩]) HS.out rfl rfl (fun _ _ _ h => h) ?_
    simp only [Act.put, List.setIfInBounds_toArray, List.set_cons_succ, List.set_cons_zero]
    refine k_pure 4 HS.out rfl rfl (fun _ _ _ h => h) ?_
    simp only [Act.put, List.setIfInBounds_toArray, List.set_cons_succ, List.set_cons_zero]
    refine k_load 6 HS.out HY.out HLY.out rfl rfl rfl (fun _ _ _ h => h) ?_
    simp only [Act.put, List.setIfInBounds_toArray, List.set_cons_succ, List.set_cons_zero]
    refine k_say 5 HS.out rfl (say35 9 eB0 bT eB0 eB0 soft _) Tryz.func35 n35 rfl rfl ?_
    intro M9 W9 hM9 hb hS
    have HM9 := Lib.hid hM9
    have HS := Lib.hid hS
    clear hM9 hb hS
    simp only [Act.put, List.setIfInBounds_toArray, List.set_cons_succ, List.set_cons_zero]
    have HIN := Lib.hid (show InA W9 [L2, M9, LY] [sT life, pT soft, gT m life now] from .cons (HXI.out.below HS.out) (.cons HM9.out (.cons (HYI.out.below HS.out) .nil)))
    refine one_rows 7 rfl Tryz.underlying69 q_info73 [L2, M9, LY] HIN.out.ex.2.1 rfl (fun W10 ho hb10 => ?_)
    refine ⟨HS.out.trans (hb10.mono HS.out.size), ?_⟩
    simp only [Act.put, List.setIfInBounds_toArray, List.set_cons_succ, List.set_cons_zero]
    refine one_call 8 rfl _ _ (ses_in _ _ 3 _ _ grace _ W10 HIN.out ho hb10 (by have := H2.out; unfold IsT; omega) HR.out rfl (by decide) HOK.out HPW.out rfl rfl) _ Tryz.func32 n32 rfl rfl (fun u W11 ⟨hb11, h30⟩ => ?_)
    refine ⟨HS.out.trans (hb11.mono HS.out.size), ?_⟩
    simp only [Act.put, List.setIfInBounds_toArray, List.set_cons_succ, List.set_cons_zero]
    refine one_call 9 rfl _ _ h30 _ Tryz.func30 n30 rfl rfl (fun u2 W12 ⟨e12, hb12⟩ => ?_)
    subst e12
    have hS := HS.out.trans (hb12.mono HS.out.size)
    refine ⟨hS, ?_⟩
    have HS := Lib.hid hS
    have HB12 := Lib.hid (HB.out.trans (hS.mono HB.out.size))
    clear hb10 ho hb11 h30 hb12 hS
    simp only [Act.put, List.setIfInBounds_toArray, List.set_cons_succ, List.set_cons_zero]
    have HA : ∃ A F : Int, atR (if rightT life grace soft now m then none else some (2, 4)) = A ∧ fltR (if rightT life grace soft now m then none else some (2, 4)) = F ∧ ((rightT life grace soft now m ∧ A = -1 ∧ F = 0) ∨ (¬ rightT life grace soft now m ∧ A = 2 ∧ F = 4)) := by
      by_cases hR : rightT life grace soft now m
      · rw [if_pos hR]; exact ⟨_, _, rfl, rfl, .inl ⟨hR, rfl, rfl⟩⟩
      · rw [if_neg hR]; exact ⟨_, _, rfl, rfl, .inr ⟨hR, rfl, rfl⟩⟩
    obtain ⟨A, F, hA, hF, hAF⟩ := HA
    have HAF := Lib.hid hAF
    rw [hA, hF]
    clear hA hF hAF
    refine k_pure 10 HS.out rfl rfl (fun _ _ _ h => h) ?_
    simp only [Act.put, List.setIfInBounds_toArray, List.set_cons_succ, List.set_cons_zero]
    refine k_pure 11 HS.out rfl rfl (fun _ _ _ h => h) ?_
    simp only [Act.put, List.setIfInBounds_toArray, List.set_cons_succ, List.set_cons_zero]
    refine k_pure 14 HS.out rfl rfl (fun _ _ _ h => h) ?_
    simp only [Act.put, List.setIfInBounds_toArray, List.set_cons_succ, List.set_cons_zero]
    refine k_pure 12 HS.out rfl rfl (fun _ _ _ h => h) ?_
    simp only [Act.put, List.setIfInBounds_toArray, List.set_cons_succ, List.set_cons_zero]
    refine k_pure 15 HS.out rfl rfl (fun _ _ _ h => h) ?_
    simp only [Act.put, List.setIfInBounds_toArray, List.set_cons_succ, List.set_cons_zero]
    refine k_pure 13 HS.out rfl rfl (fun _ _ _ h => h) ?_
    simp only [Act.put, List.setIfInBounds_toArray, List.set_cons_succ, List.set_cons_zero]
    refine k_pure 16 HS.out rfl rfl (fun _ _ _ h => h) ?_
    simp only [Act.put, List.setIfInBounds_toArray, List.set_cons_succ, List.set_cons_zero]
    refine wpAnyH_done (by kernel_rfl) ?_ _
    clear HIN HM9 HXI HYI HX HY HR HOK HPW HLX HLY HL2 HXX HYY HXB HBY
    have hca : m = 0 ∨ m = 1 ∨ (m = 2 ∧ now < life ∧ now < soft + grace) ∨ (m = 2 ∧ ¬ now < life) ∨ (m = 2 ∧ now < life ∧ ¬ now < soft + grace) := by have := H5.out; omega
    have hws : IntKind.u64.wrap (soft + grace) = soft + grace := by have := H2.out; have := H3.out; have := H4.out; rw [IntKind.wrap_u64]; omega
    have hRT : rightT life grace soft now m ↔ (m = 0 ∨ m = 2 ∧ now < life ∧ now < soft + grace) := Iff.rfl
    have HAF2 := Lib.hid (show ((m = 0 ∨ m = 2 ∧ now < life ∧ now < soft + grace) ∧ A = -1 ∧ F = 0) ∨ (¬ (m = 0 ∨ m = 2 ∧ now < life ∧ now < soft + grace) ∧ A = 2 ∧ F = 4) from HAF.out)
    have HWS := Lib.hid hws
    clear HAF hRT hws H1 H2 H3 H4 H5
    clear em
    rcases hca with hc | hc | hc | hc | hc
    all_goals try (exfalso; have h := HM0.out; omega)
  · obtain ⟨rfl, rfl⟩ : A = 2 ∧ F = 4 := by have := HAF2.out; omega
    have hws := HWS.out
    have q0 : (m == 0) = false := by simp; omega
    have q2 : (m == 2) = false := by simp; omega
    clear HAF2 HM0 HWS hc
    go_wp2_with (go_at_call 29; refine (known29 W12).mono ?_; rintro e w13 ⟨rfl, hb13⟩)
    go_ret
    exact ⟨rfl, HB12.out.trans (hb13.mono HB12.out.size)⟩
  · obtain ⟨rfl, rfl⟩ : A = -1 ∧ F = 0 := by have := HAF2.out; omega
    have hws := HWS.out
    have q0 : (m == 0) = false := by simp; omega
    have q2 : (m == 2) = true := by simp; omega
    have q3 : decide (now < life) = true := decide_eq_true hc.2.1
    have q4 : decide (now < soft + grace) = true := decide_eq_true hc.2.2
    clear HAF2 HM0 HWS hc
    go_wp2_with (go_at_call 29; refine (known29 W12).mono ?_; rintro e w13 ⟨rfl, hb13⟩)
    go_ret
    exact ⟨rfl, HB12.out.trans (hb13.mono HB12.out.size)⟩
  · obtain ⟨rfl, rfl⟩ : A = 2 ∧ F = 4 := by have := HAF2.out; omega
    have hws := HWS.out
    have q0 : (m == 0) = false := by simp; omega
    have q2 : (m == 2) = true := by simp; omega
    have q3 : decide (now < life) = false := decide_eq_false hc.2
    clear HAF2 HM0 HWS hc
    go_wp2_with (go_at_call 29; refine (known29 W12).mono ?_; rintro e w13 ⟨rfl, hb13⟩)
    go_ret
    exact ⟨rfl, HB12.out.trans (hb13.mono HB12.out.size)⟩
  · obtain ⟨rfl, rfl⟩ : A = 2 ∧ F = 4 := by have := HAF2.out; omega
    have hws := HWS.out
    have q0 : (m == 0) = false := by simp; omega
    have q2 : (m == 2) = true := by simp; omega
    have q3 : decide (now < life) = true := decide_eq_true hc.2.1
    have q4 : decide (now < soft + grace) = false := decide_eq_false hc.2.2
    clear HAF2 HM0 HWS hc
    go_wp2_with (go_at_call 29; refine (known29 W12).mono ?_; rintro e w13 ⟨rfl, hb13⟩)
    go_ret
    exact ⟨rfl, HB12.out.trans (hb13.mono HB12.out.size)⟩
  · obtain ⟨rfl, rfl⟩ : A = -1 ∧ F = 0 := by have := HAF2.out; omega
    have hws := HWS.out
    have q0 : (m == 0) = true := by simp [hc]
    clear HAF2 HM0 HWS hc
    go_wp2_with (go_at_call 29; refine (known29 W12).mono ?_; rintro e w13 ⟨rfl, hb13⟩)
    go_ret
    exact ⟨rfl, HB12.out.trans (hb13.mono HB12.out.size)⟩
end Go.Proofs.YtnjhpgmbfblgaaaGreat.Ord
