/- Walk of fresh.judge.item; Walk of the reference's. -/
import Derived.Test.YtnjhpgmbfblgaaaGreatMU4
set_option linter.unusedVariables false
set_option linter.unusedSimpArgs false
namespace Go.Proofs.YtnjhpgmbfblgaaaGreat.Ord
open Go.RowKit
set_option maxRecDepth 100000
set_option maxHeartbeats 8000000
theorem eq119 {w : World} {v v' : Value} {xs ys : List Int} (h : DatG w w.heap.size v xs) (h' : DatG w w.heap.size v' ys) : Calls Tryz.prog 119 #[v, v'] w (fun e w' => e = .returned (.bool (decide (xs = ys))) /\ Bw w w') := by
 obtain ⟨h1, h2, A, c, rfl, h3⟩ := h
 obtain ⟨h1', h2', A', c', rfl, h3'⟩ := h'
 exact (iq_ A A' _ _ c c' xs ys w rfl rfl h1 h1' h3 h3').mono fun e w' ⟨e1, q, e2⟩ => ⟨e1, by rw [e2]; exact ag_ w q⟩
theorem kV_ (J : Nat) (grace : Int) (ws : List WrR) (ps : List Nat) (key : ByteArray) (x : ItemR) (vx : Value) (now : Int) (w : World) (hJ : RdJ w w.heap.size J grace ws ps) (hx : DatG w w.heap.size vx x.val) (hv : 0 <= x.ver /\ x.ver < 18446744073709551616) :
  Calls Tryz.prog 127 #[ptV J, .string key, .agg (aD_ x.mark vx x.ver x.dead).toArray, .int .u64 now] w (RetB (.int .i64 (c4_ grace ws key x now)) w) := by
 obtain ⟨m, hm⟩ := eY (c4_ grace ws key x now)
 rw [hm]
 have hB1 := below1 w (.cells (aD_ x.mark vx x.ver x.dead).toArray 78)
 have hr := RowL.new w 78 (aD_ x.mark vx x.ver x.dead)
 obtain ⟨W1, hW1⟩ := eX (w.alloc (.cells (aD_ x.mark vx x.ver x.dead).toArray 78))
 rw [<- hW1] at hB1 hr
 have hR1 := hJ.below hB1 (lR _)
 have hx1 := hx.below hB1 (lR _)
 obtain ⟨A, c, hrow, hel⟩ := hR1.row
 have hgJ := hR1.grc
 obtain ⟨n, hn⟩ := eY ws.length
 have hn5 : n <= 5000 := by rw [<- hn]; exact hJ.few
 rw [hn] at hrow
 unfold c4_ at hm
 have hwr := hR1.wrs
 have hT := hJ.isT
 rw [hn] at hm
 obtain ⟨HM, HB, HX, HE, Aj, HN, HT, An, Ao, Av⟩ := kq10 hm hB1 hx1 hel hwr hn hT hr.lt (show (⟨J, 0, none⟩ : Addr).block < W1.heap.size from lL hJ.ltJ hB1.size) hJ.len
 have c0 : W1.cell? ⟨w.heap.size, 0, none⟩ = some (.int .i64 x.mark) := hr.cell (j := 0) rfl
 have c2 : W1.cell? ⟨w.heap.size, 2, none⟩ = some (.int .u64 x.ver) := hr.cell (j := 2) rfl
 obtain ⟨Au, At, Ah, Ag, Ap, Ad⟩ := kq6 (show W1.cell? ⟨w.heap.size, 1, none⟩ = some vx from hr.cell (j := 1) rfl) (show W1.cell? ⟨w.heap.size, 3, none⟩ = some (.int .u64 x.dead) from hr.cell (j := 3) rfl) c0 c2 hgJ hrow
 obtain ⟨ver, hver⟩ := eY x.ver
 obtain ⟨mark, hmark⟩ := eY x.mark
 obtain ⟨HV, HK⟩ := kq2 hver hmark
 rw [hver] at c2 hv Ag HM
 rw [hmark] at c0 Ah HM
 simp only [aD_, hver, hmark] at hW1 ⊢
 clear hver hmark hm hB1 hx1 hel hwr hn hT hR1 hr hJ hx hgJ hrow
 obtain ⟨v0, v1⟩ := hv
 unfold ptV at *
 go_enter Tryz.func127, Tryz.ntmps127
 go_upto_region 1 with (fail)
 rw [<- hW1]
 clear hW1
 by_cases hm0 : mark = 0
 ·have g : (mark == 0) = true := by simp [hm0]
  obtain rfl : 0 = m := by rw [<- HM.o, if_pos hm0]
  clear hm0
  go_wp2_with fail
  go_ret
  exact ⟨rfl, HB.o⟩
 have g : (mark == 0) = false := by simp [hm0]
 have HM := kp ((if_neg hm0).symm.trans HM.o)
 clear hm0
 have j1 := Ad.o
 by_cases hv0 : ver = 0
 ·have g1 : (ver == 0) = true := by simp [hv0]
  obtain rfl : 1 = m := by rw [<- HM.o, if_pos (.inl hv0)]
  clear hv0
  go_wp2_with fail
  go_quiet (fail)
  all_goals
   go_wp2_with fail
   go_ret
   exact ⟨rfl, HB.o.trans ((ag_ _ _).mono HB.o.size)⟩
 have g1 : (ver == 0) = false := by simp [hv0]
 by_cases hvn : (n : Int) < ver
 ·have g2 : decide ((n : Int) < ver) = true := eT_ hvn
  obtain rfl : 1 = m := by rw [<- HM.o, if_pos (.inr hvn)]
  clear hv0 hvn
  go_wp2_with fail
  go_quiet (fail)
  all_goals
   go_wp2_with fail
   go_ret
   exact ⟨rfl, HB.o.trans ((ag_ _ _).mono HB.o.size)⟩
 have g2 : decide ((n : Int) < ver) = false := eF hvn
 have HM := kp ((if_neg (fun h => h.elim hv0 hvn)).symm.trans HM.o)
 obtain ⟨k, rfl⟩ : ∃ k : Nat, ver = (k : Int) + 1 := ⟨(ver - 1).toNat, by omega⟩
 have hkn : k < n := by omega
 have hk1 : ((k : Int) + 1 - 1).toNat = k := by omega
 obtain ⟨y, hy⟩ : ∃ y, ws[k]? = some y := ⟨ws[k]'(by rw [HN.o]; exact hkn), gE _⟩
 obtain ⟨hsoft, p, vv, vt, hp, hpB, hcp, hdy, -⟩ := Aj.o k y hy
 obtain ⟨b, o, rfl, hbB, hcell⟩ := HE.o k p hp
 obtain ⟨HM, As, Ar, Aq, Ac, Ak⟩ := kq6 (show (if y.key ≠ key ∨ y.val ≠ x.val ∨ y.dl ≠ x.dead then (1 : Int) else if y.gone ≠ 0 then y.gone else if cc_ now y.dl y.soft grace ≠ mark then 4 else 0) = m by have h := HM.o; rw [hk1, hy] at h; exact h) hcell hcp hdy hsoft hpB
 have hi1 : (k : Int) < (n : Int) := by omega
 have hw : IntKind.u64.wrap (k : Int) = (k : Int) := by rw [IntKind.wrap_u64]; omega
 clear hcell hcp hdy hsoft hpB hy hp hv0 hvn hk1
 go_wp2_with fail
 go_quiet (fail)
 obtain ⟨q1, rfl⟩ := eX nq
 have j2 : (W1.drewN q1).cell? ⟨J, 1, none⟩ = some (.slice (some ⟨b, o, none⟩) n c) := Ad.o
 have q2 : (W1.drewN q1).cell? ⟨b, o + k, none⟩ = some (.pointer (some ⟨p, 0, none⟩)) := As.o
 have x2 : (W1.drewN q1).cell? ⟨w.heap.size, 2, none⟩ = some (.int .u64 ((k : Int) + 1)) := Ag.o
 obtain ⟨Q2, Q1, Q3⟩ := kq3 (cell_kept Tryz.isAgg217 q2) (cell_kept Tryz.isAgg136 j2) (cell_kept Tryz.isAgg33 x2)
 clear q2 j2 x2
 go_wp2_with fail
 refine wp_region_quiet_below (by kernel_rfl) (by kernel_rfl) ?_
 repeat (first
  | ((with_reducible refine aa_ (o := ⟨some 35, _, _, _, _, _⟩) 217 _ rfl ⟨b, o + k, none⟩ ?_ (.pointer (some ⟨p, 0, none⟩)) Q2.o ?_ ?_); (· rfl); (· rfl); simp only [Act.put, z1, z2, z3])
  | ((with_reducible refine aa_ (o := ⟨some 30, _, _, _, _, _⟩) 136 _ rfl ⟨J, 1, none⟩ ?_ (.slice (some ⟨b, o, none⟩) n c) Q1.o ?_ ?_); (· rfl); (· rfl); simp only [Act.put, z1, z2, z3])
  | ((with_reducible refine aa_ (o := ⟨some 32, _, _, _, _, _⟩) 33 _ rfl ⟨w.heap.size, 2, none⟩ ?_ (.int .u64 ((k : Int) + 1)) Q3.o ?_ ?_); (· rfl); (· rfl); simp only [Act.put, z1, z2, z3])
  | go_big_quiet_step (fail))
 refine wpQuiet_nil ?_
 intro W3 hW3
 have hb3 := an_ hW3
 clear hW3
 obtain ⟨Aa, Am⟩ := kq2 (show Bw W1 W3 from (ag_ W1 q1).trans hb3) (show w.heap.size < W1.heap.size from An.o)
 clear hb3 Q1 Q2 Q3
 -- what the region reads
 obtain ⟨yk, hyk⟩ := eY y.key
 obtain ⟨dl, hdl⟩ := eY y.dl
 obtain ⟨soft, hso⟩ := eY y.soft
 obtain ⟨gone, hgo⟩ := eY y.gone
 obtain ⟨dead, hde⟩ := eY x.dead
 have hp0 : ∀ W, Bw W1 W -> ∀ j v, (wrL y vv vt)[j]? = some v -> W.cell? ⟨p, j, none⟩ = some v := fun W hW j v hj => by
  have h1 := (Ar.o.below hW (lL Ak.o HB.o.size)) j v hj
  rwa [Addr.add_mid, Nat.zero_add] at h1
 obtain ⟨HP, Af⟩ := kq2 hp0 (fun (W : World) (hW : Bw W1 W) (j : Nat) (v : Value) (hj : W1.cell? ⟨w.heap.size, j, none⟩ = some v) => (hW.cell (p := ⟨w.heap.size, j, none⟩) Am.o).trans hj)
 clear hp0
 obtain ⟨K0, K1, K2, K3, K4, Al, H119, H190⟩ := kq8 (cell_kept Tryz.isAgg9 (show W3.cell? ⟨p, 0, none⟩ = some (.string yk) from HP.o W3 Aa.o 0 _ (by rw [<- hyk]; rfl))) (cell_kept Tryz.isAgg26 (show W3.cell? ⟨p, 1, none⟩ = some vv from HP.o W3 Aa.o 1 _ rfl)) (cell_kept Tryz.isAgg26 (show W3.cell? ⟨w.heap.size, 1, none⟩ = some vx from Af.o W3 Aa.o 1 _ Au.o)) (cell_kept Tryz.isAgg34 (show W3.cell? ⟨p, 3, none⟩ = some (.int .u64 dl) from HP.o W3 Aa.o 3 _ (by rw [<- hdl]; rfl))) (cell_kept Tryz.isAgg34 (show W3.cell? ⟨w.heap.size, 3, none⟩ = some (.int .u64 dead) from Af.o W3 Aa.o 3 _ (by rw [<- hde]; exact At.o))) (fun (W : World) (hW : Bw W1 W) => show W.cell? ⟨p, 5, none⟩ = some (.int .i64 gone) from HP.o W hW 5 _ (by rw [<- hgo]; rfl)) (fun (W : World) (hW : Bw W1 W) => show Calls Tryz.prog 119 #[vv, vx] W (fun e w' => e = .returned (.bool (decide (y.val = x.val))) /\ Bw W w') from eq119 ((Aq.o.below hW HB.o.size).mono (lT HB.o.size hW.size)) ((HX.o.below hW HB.o.size).mono (lT HB.o.size hW.size))) (fun (W : World) (hW : Bw W1 W) => show Calls Tryz.prog 190 #[.pointer (some ⟨J, 0, none⟩), .pointer (some ⟨p, 0, none⟩), .int .u64 now] W (RetB (.int .i64 (cc_ now dl soft grace)) W) from kM_ J p now dl soft grace (by rw [<- hso]; exact Ac.o) HT.o W ((hW.cell (p := ⟨J, 0, none⟩) Ao.o).trans Ap.o) (HP.o W hW 3 _ (by rw [<- hdl]; rfl)) (HP.o W hW 4 _ (by rw [<- hso]; rfl)))
 rw [hyk, hdl, hso, hgo, hde] at HM
 clear hyk hdl hso hgo hde
 obtain ⟨yv, hyv⟩ := eY y.val
 obtain ⟨xv, hxv⟩ := eY x.val
 rw [hyv, hxv] at HM H119
 clear hyv hxv
 have four : yk ≠ key ∨ (yk = key /\ yv ≠ xv) ∨ (yk = key /\ yv = xv /\ dl ≠ dead) ∨ (yk = key /\ yv = xv /\ dl = dead) := by
  by_cases a : yk = key <;> by_cases b : yv = xv <;> by_cases c : dl = dead <;> simp [a, b, c]
 have Ae := kp (fun (W : World) (h : Bw W1 W) => HB.o.trans (h.mono HB.o.size))
 go_wp2_with fail
 rcases four with a | ⟨a, b⟩ | ⟨a, b, c1⟩ | ⟨a, b, c1⟩
 focus
  have g5 : (yk.toList == key.toList) = false := bl_ a
  obtain rfl : 1 = m := by rw [<- HM.o, if_pos (.inl a)]
  clear a
 rotate_left 1
 focus
  subst a
  have g5 : (yk.toList == yk.toList) = true := aQ_ yk
  obtain rfl : 1 = m := by rw [<- HM.o, if_pos (.inr (.inl b))]
  have hdb : decide (yv = xv) = false := eF b
  rw [hdb] at H119
  clear b hdb
 rotate_left 1
 focus
  subst a
  subst b
  have g5 : (yk.toList == yk.toList) = true := aQ_ yk
  obtain rfl : 1 = m := by rw [<- HM.o, if_pos (.inr (.inr c1))]
  have hdb : decide (yv = yv) = true := eT_ rfl
  rw [hdb] at H119
  have g6 : (dl != dead) = true := by simpa using c1
  clear c1 hdb
 rotate_left 1
 rotate_right 3
 iterate 3
  ·refine wp_region_quiet_below (by kernel_rfl) (by kernel_rfl) ?_
   repeat (first
    | ((with_reducible refine aa_ (o := ⟨some 40, _, _, _, _, _⟩) 9 _ rfl ⟨p, 0, none⟩ ?_ (.string yk) K0.o ?_ ?_); (· rfl); (· rfl); simp only [Act.put, z1, z2, z3])
    | ((with_reducible refine aa_ (o := ⟨some 47, _, _, _, _, _⟩) 26 _ rfl ⟨p, 1, none⟩ ?_ vv K1.o ?_ ?_); (· rfl); (· rfl); simp only [Act.put, z1, z2, z3])
    | ((with_reducible refine aa_ (o := ⟨some 49, _, _, _, _, _⟩) 26 _ rfl ⟨w.heap.size, 1, none⟩ ?_ vx K2.o ?_ ?_); (· rfl); (· rfl); simp only [Act.put, z1, z2, z3])
    | ((with_reducible refine aa_ (o := ⟨some 57, _, _, _, _, _⟩) 34 _ rfl ⟨p, 3, none⟩ ?_ (.int .u64 dl) K3.o ?_ ?_); (· rfl); (· rfl); simp only [Act.put, z1, z2, z3])
    | ((with_reducible refine aa_ (o := ⟨some 59, _, _, _, _, _⟩) 34 _ rfl ⟨w.heap.size, 3, none⟩ ?_ (.int .u64 dead) K4.o ?_ ?_); (· rfl); (· rfl); simp only [Act.put, z1, z2, z3])
    | go_big_quiet_step ((go_at_call 119; exact Calls.regrown_of (H119.o _ (Aa.o.trans ((below_regrown _ _ _).mono Aa.o.size))))))
   refine wpQuiet_nil ?_
   intro W4 hW
   have hb4 := an_ hW
   clear hW
   have Ab := kp (Aa.o.trans (hb4.mono Aa.o.size))
   go_wp2_with fail
   go_ret
   exact ⟨rfl, Ae.o _ Ab.o⟩
 subst a
 subst b
 subst c1
 have g5 : (yk.toList == yk.toList) = true := aQ_ yk
 have hdb : decide (yv = yv) = true := eT_ rfl
 rw [hdb] at H119
 have g6 : (dl != dl) = false := by simp
 have HM := kp ((if_neg (by simp)).symm.trans HM.o)
 clear hdb
 refine wp_region_quiet_below (by kernel_rfl) (by kernel_rfl) ?_
 repeat (first
  | ((with_reducible refine aa_ (o := ⟨some 40, _, _, _, _, _⟩) 9 _ rfl ⟨p, 0, none⟩ ?_ (.string yk) K0.o ?_ ?_); (· rfl); (· rfl); simp only [Act.put, z1, z2, z3])
  | ((with_reducible refine aa_ (o := ⟨some 47, _, _, _, _, _⟩) 26 _ rfl ⟨p, 1, none⟩ ?_ vv K1.o ?_ ?_); (· rfl); (· rfl); simp only [Act.put, z1, z2, z3])
  | ((with_reducible refine aa_ (o := ⟨some 49, _, _, _, _, _⟩) 26 _ rfl ⟨w.heap.size, 1, none⟩ ?_ vx K2.o ?_ ?_); (· rfl); (· rfl); simp only [Act.put, z1, z2, z3])
  | ((with_reducible refine aa_ (o := ⟨some 57, _, _, _, _, _⟩) 34 _ rfl ⟨p, 3, none⟩ ?_ (.int .u64 dl) K3.o ?_ ?_); (· rfl); (· rfl); simp only [Act.put, z1, z2, z3])
  | ((with_reducible refine aa_ (o := ⟨some 59, _, _, _, _, _⟩) 34 _ rfl ⟨w.heap.size, 3, none⟩ ?_ (.int .u64 dl) K4.o ?_ ?_); (· rfl); (· rfl); simp only [Act.put, z1, z2, z3])
  | go_big_quiet_step ((go_at_call 119; exact Calls.regrown_of (H119.o _ (Aa.o.trans ((below_regrown _ _ _).mono Aa.o.size))))))
 refine wpQuiet_nil ?_
 intro W4 hW
 have hb4 := an_ hW
 clear hW
 have Ab := kp (Aa.o.trans (hb4.mono Aa.o.size))
 have p5 := Al.o W4 Ab.o
 clear K0 K1 K2 K3 K4
 by_cases hg0 : gone = 0
 ·have g7 : (gone != 0) = false := by simp [hg0]
  have HM := kp ((if_neg (by simp [hg0])).symm.trans HM.o)
  clear hg0
  have K0 := kp (cell_kept Tryz.isAgg76 (show W4.cell? ⟨w.heap.size, 0, none⟩ = some (.int .i64 mark) from Af.o W4 Ab.o 0 _ Ah.o))
  go_wp2_with fail
  obtain ⟨mk, hmk⟩ := eY (cc_ now dl soft grace)
  rw [hmk] at H190 HM
  clear hmk p5
  refine wp_region_quiet_below (by kernel_rfl) (by kernel_rfl) ?_
  repeat (first
   | ((with_reducible refine aa_ (o := ⟨some 78, _, _, _, _, _⟩) 76 _ rfl ⟨w.heap.size, 0, none⟩ ?_ (.int .i64 mark) K0.o ?_ ?_); (· rfl); (· rfl); simp only [Act.put, z1, z2, z3])
   | go_big_quiet_step ((go_at_call 190; exact Calls.regrown_of (H190.o _ (Ab.o.trans ((below_regrown _ _ _).mono Ab.o.size))))))
  refine wpQuiet_nil ?_
  intro W5 hW
  have hb5 := an_ hW
  clear hW
  have Ai := kp (Ab.o.trans (hb5.mono Ab.o.size))
  by_cases hmm : mk = mark
  ·have g8 : (mk != mark) = false := by simp [hmm]
   obtain rfl : 0 = m := by rw [<- HM.o, if_neg (by simp [hmm])]
   clear hmm
   clear g g1 g2 g5 g6 g7 hw c0 c2 j1 v0 v1 hkn hi1
   go_wp2_with fail
   go_ret
   exact ⟨rfl, Ae.o _ Ai.o⟩
  have g8 : (mk != mark) = true := by simpa using hmm
  obtain rfl : 4 = m := by rw [<- HM.o, if_pos hmm]
  clear hmm
  clear g g1 g2 g5 g6 g7 hw c0 c2 j1 v0 v1 hkn hi1
  go_wp2_with fail
  go_ret
  exact ⟨rfl, Ae.o _ Ai.o⟩
 have g7 : (gone != 0) = true := by simpa using hg0
 obtain rfl : gone = m := by rw [<- HM.o, if_pos hg0]
 clear hg0
 go_wp2_with fail
 go_ret
 exact ⟨rfl, Ae.o _ Ab.o⟩
theorem n142 : (Tryz.f142.name == "runtime.NumGoroutine") = false := by decide
theorem b142 : Tryz.f142.body.isSome = true := rfl
structure RdK (w : World) (B J : Nat) (grace : Int) (ws : List WrR) : Prop where
 ltJ : J < B
 isT : IsT grace
 few : ws.length <= 5000
 grc : w.cell? ⟨J, 0, none⟩ = some (.int .u64 grace)
 soft : ∀ x ∈ ws, IsT x.soft
 row : ∃ A c, w.cell? ⟨J, 1, none⟩ = some (.slice A ws.length c) /\ ∀ (i : Nat) (x : WrR), ws[i]? = some x -> ∃ b off vv vt, A = some ⟨b, off, none⟩ /\ b < B /\ CellsAt w ⟨b, off + i * 6, none⟩ (cW_ x.key vv vt x.dl x.gone x.soft) /\ DatG w B vv x.val /\ ∃ ts : List ByteArray, SlV Value.string w B vt ts /\ ∀ t, t ∈ ts ↔ t ∈ x.tags
theorem RdK.below {w w' : World} {B B' J : Nat} {grace : Int} {ws : List WrR} (h : RdK w B J grace ws) (hb : Below B' w w') (hB : B <= B') : RdK w' B J grace ws :=
 ⟨h.ltJ, h.isT, h.few, (hb.cell (p := ⟨J, 0, none⟩) (lL h.ltJ hB)).trans h.grc, h.soft, by
  obtain ⟨A, c, h1, h2⟩ := h.row
  refine ⟨A, c, (hb.cell (p := ⟨J, 1, none⟩) (lL h.ltJ hB)).trans h1, fun i x hi => ?_⟩
  obtain ⟨b, off, vv, vt, e1, e2, e3, e4, ts, e5, e6⟩ := h2 i x hi
  exact ⟨b, off, vv, vt, e1, e2, e3.below hb (lL e2 hB), e4.below hb hB, ts, e5.below hb hB, e6⟩⟩
theorem cR_ {w : World} {b off : Nat} {v0 v1 v2 v3 v4 v5 : Value} (h : CellsAt w ⟨b, off, none⟩ [v0, v1, v2, v3, v4, v5]) :
  w.cell? ⟨b, off, none⟩ = some v0 /\ w.cell? ⟨b, off + 1, none⟩ = some v1 /\ w.cell? ⟨b, off + 2, none⟩ = some v2 /\ w.cell? ⟨b, off + 3, none⟩ = some v3 /\ w.cell? ⟨b, off + 4, none⟩ = some v4 /\ w.cell? ⟨b, off + 5, none⟩ = some v5 := by
 have k : ∀ j v, [v0, v1, v2, v3, v4, v5][j]? = some v -> w.cell? ⟨b, off + j, none⟩ = some v := fun j v hj => by
  have := h j v hj
  rwa [Addr.add_mid] at this
 exact ⟨k 0 _ rfl, k 1 _ rfl, k 2 _ rfl, k 3 _ rfl, k 4 _ rfl, k 5 _ rfl⟩
theorem fy_ (J : Nat) (grace : Int) (ws : List WrR) (key : ByteArray) (x : ItemR) (vx : Value) (now : Int) (w : World) (hJ : RdK w w.heap.size J grace ws) (hx : DatG w w.heap.size vx x.val) (hv : 0 <= x.ver /\ x.ver < 18446744073709551616) :
  Calls Tryz.prog 141 #[ptV J, .string key, .agg (aD_ x.mark vx x.ver x.dead).toArray, .int .u64 now] w (RetB (.int .i64 (c4_ grace ws key x now)) w) := by
 obtain ⟨m, hm⟩ := eY (c4_ grace ws key x now)
 rw [hm]
 have hB1 := below1 w (.cells (aD_ x.mark vx x.ver x.dead).toArray 78)
 have hr := RowL.new w 78 (aD_ x.mark vx x.ver x.dead)
 obtain ⟨W1, hW1⟩ := eX (w.alloc (.cells (aD_ x.mark vx x.ver x.dead).toArray 78))
 rw [<- hW1] at hB1 hr
 have hR1 := hJ.below hB1 (lR _)
 have hx1 := hx.below hB1 (lR _)
 obtain ⟨A, c, hrow, hel⟩ := hR1.row
 have hgJ := hR1.grc
 obtain ⟨n, hn⟩ := eY ws.length
 have hn5 : n <= 5000 := by rw [<- hn]; exact hJ.few
 rw [hn] at hrow
 unfold c4_ at hm
 have hT := hJ.isT
 rw [hn] at hm
 obtain ⟨HM, HB, HX, HE, HN, HT, Aq, Aj, Ak⟩ := kq9 hm hB1 hx1 hel hn hT hJ.soft hr.lt (show (⟨J, 0, none⟩ : Addr).block < W1.heap.size from lL hJ.ltJ hB1.size)
 have c0 : W1.cell? ⟨w.heap.size, 0, none⟩ = some (.int .i64 x.mark) := hr.cell (j := 0) rfl
 have c2 : W1.cell? ⟨w.heap.size, 2, none⟩ = some (.int .u64 x.ver) := hr.cell (j := 2) rfl
 obtain ⟨Aw, Au, An, Am, Ar, Af⟩ := kq6 (show W1.cell? ⟨w.heap.size, 1, none⟩ = some vx from hr.cell (j := 1) rfl) (show W1.cell? ⟨w.heap.size, 3, none⟩ = some (.int .u64 x.dead) from hr.cell (j := 3) rfl) c0 c2 hgJ hrow
 obtain ⟨ver, hver⟩ := eY x.ver
 obtain ⟨mark, hmark⟩ := eY x.mark
 obtain ⟨HV, HK⟩ := kq2 hver hmark
 rw [hver] at c2 hv Am HM
 rw [hmark] at c0 An HM
 simp only [aD_, hver, hmark] at hW1 ⊢
 clear hver hmark hm hB1 hx1 hel hn hT hR1 hr hJ hx hgJ hrow
 obtain ⟨v0, v1⟩ := hv
 unfold ptV at *
 go_enter Tryz.func141, Tryz.ntmps141
 go_upto_region 1 with (fail)
 rw [<- hW1]
 clear hW1
 by_cases hm0 : mark = 0
 ·have g : (mark == 0) = true := by simp [hm0]
  obtain rfl : 0 = m := by rw [<- HM.o, if_pos hm0]
  clear hm0
  go_wp2_with fail
  go_ret
  exact ⟨rfl, HB.o⟩
 have g : (mark == 0) = false := by simp [hm0]
 have HM := kp ((if_neg hm0).symm.trans HM.o)
 clear hm0
 have j1 := Af.o
 by_cases hv0 : ver = 0
 ·have g1 : decide (ver < 1) = true := eT_ (by omega)
  obtain rfl : 1 = m := by rw [<- HM.o, if_pos (.inl hv0)]
  clear hv0
  go_wp2_with fail
  go_quiet (fail)
  all_goals
   go_wp2_with fail
   go_ret
   exact ⟨rfl, HB.o.trans ((ag_ _ _).mono HB.o.size)⟩
 have g1 : decide (ver < 1) = false := eF (by omega)
 by_cases hvn : (n : Int) < ver
 ·have g2 : decide ((n : Int) < ver) = true := eT_ hvn
  obtain rfl : 1 = m := by rw [<- HM.o, if_pos (.inr hvn)]
  clear hv0 hvn
  go_wp2_with fail
  go_quiet (fail)
  all_goals
   go_wp2_with fail
   go_ret
   exact ⟨rfl, HB.o.trans ((ag_ _ _).mono HB.o.size)⟩
 have g2 : decide ((n : Int) < ver) = false := eF hvn
 have HM := kp ((if_neg (fun h => h.elim hv0 hvn)).symm.trans HM.o)
 obtain ⟨k, rfl⟩ : ∃ k : Nat, ver = (k : Int) + 1 := ⟨(ver - 1).toNat, by omega⟩
 have hkn : k < n := by omega
 have hk1 : ((k : Int) + 1 - 1).toNat = k := by omega
 obtain ⟨y, hy⟩ : ∃ y, ws[k]? = some y := ⟨ws[k]'(by rw [HN.o]; exact hkn), gE _⟩
 have hsoft := Aq.o y (mG hy)
 obtain ⟨b, o, vv, vt, rfl, hbB, hcell, hdy, ts0, hty, -⟩ := HE.o k y hy
 obtain ⟨HM, As, Ab, Ay⟩ := kq4 (show (if y.key ≠ key ∨ y.val ≠ x.val ∨ y.dl ≠ x.dead then (1 : Int) else if y.gone ≠ 0 then y.gone else if cc_ now y.dl y.soft grace ≠ mark then 4 else 0) = m by have h := HM.o; rw [hk1, hy] at h; exact h) hdy hsoft hbB
 obtain ⟨nv, Av, cv, rfl⟩ : ∃ nv Av cv, vv = .slice Av nv cv := by
  obtain ⟨_, _, A, c, h, _⟩ := hdy
  exact ⟨_, _, _, h⟩
 obtain ⟨nt, At, ct, rfl⟩ : ∃ nt At ct, vt = .slice At nt ct := by
  obtain ⟨_, A, c, h, _⟩ := hty
  exact ⟨_, _, _, h⟩
 have hi1 : (k : Int) < (n : Int) := by omega
 have hw : IntKind.u64.wrap (k : Int) = (k : Int) := by rw [IntKind.wrap_u64]; omega
 obtain ⟨yk, hyk⟩ := eY y.key
 obtain ⟨dl, hdl⟩ := eY y.dl
 obtain ⟨soft, hso⟩ := eY y.soft
 obtain ⟨gone, hgo⟩ := eY y.gone
 rw [hyk, hdl, hso, hgo] at hcell HM
 rw [hso] at Ab
 have Ac := kp hcell
 clear hcell hdy hsoft hbB hy hv0 hvn hk1 hty hyk hdl hso hgo
 go_wp2_with fail
 go_quiet (fail)
 obtain ⟨q1, rfl⟩ := eX nq
 obtain ⟨W2, hW2⟩ := eY (W1.drewN q1)
 have j2 : W2.drew.cell? ⟨J, 1, none⟩ = some (.slice (some ⟨b, o, none⟩) n c) := by rw [<- hW2]; exact Af.o
 have x2 : W2.drew.cell? ⟨w.heap.size, 2, none⟩ = some (.int .u64 ((k : Int) + 1)) := by rw [<- hW2]; exact Am.o
 obtain ⟨d0, d1, d2, d3, d4, d5⟩ := cR_ (w := W2.drew) (by rw [<- hW2]; exact Ac.o)
 have hz := below1 W2 (.cells #[.string ⟨#[]⟩, .slice none 0 0, .slice none 0 0, .int .u64 0, .int .i64 0, .int .u64 0] 233)
 have hs2 : W2.heap.size = W1.heap.size := by rw [<- hW2]; rfl
 have j3 := (hz.cell (p := ⟨J, 1, none⟩) (by rw [hs2]; exact Ak.o)).trans j2
 have x3 := (hz.cell (p := ⟨w.heap.size, 2, none⟩) (by rw [hs2]; exact Aj.o)).trans x2
 have hzc : CellsAt (W2.alloc (.cells #[.string ⟨#[]⟩, .slice none 0 0, .slice none 0 0, .int .u64 0, .int .i64 0, .int .u64 0] 233)) ⟨b, o + k * 6, none⟩ (cW_ yk (.slice Av nv cv) (.slice At nt ct) dl gone soft) := CellsAt.below (w := W2) (by rw [<- hW2]; exact Ac.o) hz (by rw [hs2]; exact lL Ay.o HB.o.size)
 obtain ⟨e0, e1, e2, e3, e4, e5⟩ := cR_ hzc
 clear hz hzc
 have Ao := kp (show Bw W1 W2 by rw [<- hW2]; exact ag_ W1 q1)
 rw [hW2]
 clear hW2 c0 c2 j1 hs2
 go_upto_region 5 with (fail)
 go_cut [9] (fun s9 W' => s9 = .pointer (some ⟨W2.heap.size, 0, none⟩) /\ W' = (W2.alloc (.cells #[.string yk, .slice Av nv cv, .slice At nt ct, .int .u64 dl, .int .i64 gone, .int .u64 soft] 233)).drew)
 case first =>
  go_region_law (fail)
  all_goals
   go_wp2_with fail
   go_meet
   case rel => exact ⟨rfl, rfl⟩
 case rest =>
 obtain ⟨rfl, hwc⟩ := hcut
 clear j2 x2 d0 d1 d2 d3 d4 d5 j3 x3 e0 e1 e2 e3 e4 e5
 have hrw := RowL.new W2 233 (cW_ yk (.slice Av nv cv) (.slice At nt ct) dl gone soft)
 have hbw := below1 W2 (.cells (cW_ yk (.slice Av nv cv) (.slice At nt ct) dl gone soft).toArray 233)
 have hrw4 : RowL wc W2.heap.size 233 (cW_ yk (.slice Av nv cv) (.slice At nt ct) dl gone soft) := by rw [hwc]; exact hrw
 have hbw4 : Bw W2 wc := by rw [hwc]; exact hbw.trans ⟨rfl, rfl, rfl, lR _, fun _ _ => rfl⟩
 obtain ⟨Aa, Ad⟩ := kq2 (show Bw W1 wc from Ao.o.trans (hbw4.mono Ao.o.size)) hrw4
 clear hwc hrw hbw hrw4 hbw4
 obtain ⟨W4, rfl⟩ := eX wc
 obtain ⟨X, hX⟩ := eY W2.heap.size
 rw [hX] at Ad ⊢
 clear hX
 obtain ⟨Ai, Ae, Al, Ap⟩ := kq4 (fun (W : World) (hW : Bw W1 W) (j : Nat) (v : Value) (hj : W1.cell? ⟨w.heap.size, j, none⟩ = some v) => (hW.cell (p := ⟨w.heap.size, j, none⟩) Aj.o).trans hj) (fun (W : World) (h : Bw W1 W) => HB.o.trans (h.mono HB.o.size)) ((As.o.below Aa.o HB.o.size).mono (lT HB.o.size Aa.o.size)) ((HX.o.below Aa.o HB.o.size).mono (lT HB.o.size Aa.o.size))
 obtain ⟨yr, -, Av', cv', hv', hby⟩ := Al.o
 obtain ⟨xr, -, Ax, cx, rfl, hbx⟩ := Ap.o
 have hq1 : (convert 26 9 (.slice Av nv cv)).run Tryz.prog W4 = .ok (.string (strOfNums y.val)) W4 := by rw [hv']; exact hby.convert rfl
 have hq2 := hbx.convert rfl
 have hse := fV_ yr xr
 obtain ⟨yv, hyv⟩ := eY y.val
 obtain ⟨xv, hxv⟩ := eY x.val
 obtain ⟨dead, hde⟩ := eY x.dead
 obtain ⟨xl, hxl⟩ := eY x.val.length
 have p0 := Ad.o.cell (j := 0) rfl
 have p1 := Ad.o.cell (j := 1) rfl
 have p3 := Ad.o.cell (j := 3) rfl
 have p4 := Ad.o.cell (j := 4) rfl
 have x1 := Ai.o W4 Aa.o 1 _ Aw.o
 have x3 := Ai.o W4 Aa.o 3 _ Au.o
 rw [hxl] at hq2 x1
 rw [hyv, hxv] at HM hse
 rw [hyv] at hq1
 rw [hxv] at hq2
 rw [hde] at HM x3
 rw [hxl]
 clear hyv hxv hde hxl yr xr hv' hby hbx
 generalize strOfNums yv = ys at *
 generalize strOfNums xv = xs at *
 have H142 := kp (fx_ J now dl soft grace yk (.slice Av nv cv) (.slice At nt ct) gone rfl rfl Ab.o HT.o W4.drew (lL Ak.o Aa.o.size) ((Aa.o.cell (p := ⟨J, 0, none⟩) Ak.o).trans Ar.o))
 by_cases a : yk = key
 ·subst a
  have g5 : (yk.toList == yk.toList) = true := aQ_ yk
  by_cases b1 : yv = xv
  ·have g9 : (ys.toList == xs.toList) = true := by rw [hse]; exact eT_ b1
   by_cases c1 : dl = dead
   ·have g6 : (dl != dead) = false := by simp [c1]
    have HM := kp ((if_neg (by simp [b1, c1])).symm.trans HM.o)
    clear b1 c1 hse
    by_cases hg0 : gone = 0
    ·have g7 : (gone != 0) = false := by simp [hg0]
     have HM := kp ((if_neg (by simp [hg0])).symm.trans HM.o)
     clear hg0
     go_wp2_with fail
     clear p0 p1 p3 p4 x1 x3 hq1 hq2 g5 g6 g7 g9 hw g g1 g2
     obtain ⟨mk, hmk⟩ := eY (cc_ now dl soft grace)
     rw [hmk] at H142 HM
     clear hmk
     obtain ⟨d0, d1, d2, d3, d4, d5⟩ := cR_ (w := W4.drew) (b := X) (off := 0) Ad.o.cells
     have x0 : W4.drew.cell? ⟨w.heap.size, 0, none⟩ = some (.int .i64 mark) := Ai.o W4 Aa.o 0 _ An.o
     go_upto_region 10 with (fail)
     go_cut [67] (fun s67 W' => s67 = .bool (mk != mark) /\ Bw W1 W')
     case first =>
      go_region_law ((with_reducible refine ao_ (o := ⟨some 64, _, _, _, _, _⟩) rfl 142 _ _ rfl #[.pointer (some ⟨J, 0, none⟩), .agg #[.string yk, .slice Av nv cv, .slice At nt ct, .int .u64 dl, .int .i64 gone, .int .u64 soft], .int .u64 now] ?_ Tryz.f142 Tryz.func142 n142 b142 (fun u w6 => u = .int .i64 mk /\ Below W4.drew.heap.size W4.drew w6) ?_ ?_); (· simp only [y1, y2, y3]; rfl); (· exact H142.o.mono fun e w' ⟨h1, h2⟩ => ⟨_, h1, rfl, h2⟩); rintro u w6 ⟨rfl, hb6⟩; have Ag := kp hb6; have x6 := (hb6.cell (p := ⟨w.heap.size, 0, none⟩) (lL Aj.o Aa.o.size)).trans x0; clear hb6)
      all_goals
       have Ah := kp (show Bw W1 w6 from Aa.o.trans ((show Bw W4 w6 from ⟨Ag.o.os, Ag.o.tape, Ag.o.output, Ag.o.size, Ag.o.block⟩).mono Aa.o.size))
       go_wp2_with fail
       go_meet
       case rel => exact ⟨rfl, Ah.o⟩
     case rest =>
     obtain ⟨rfl, hb7⟩ := hcut
     have Ah := kp hb7
     clear hb7 d0 d1 d2 d3 d4 d5 x0 v0 v1 hkn hi1
     by_cases hmm : mk = mark
     ·have g8 : (mk != mark) = false := by simp [hmm]
      obtain rfl : 0 = m := by rw [<- HM.o, if_neg (by simp [hmm])]
      clear hmm
      go_wp2_with fail
      go_ret
      exact ⟨rfl, Ae.o _ Ah.o⟩
     have g8 : (mk != mark) = true := by simpa using hmm
     obtain rfl : 4 = m := by rw [<- HM.o, if_pos hmm]
     clear hmm
     go_wp2_with fail
     go_ret
     exact ⟨rfl, Ae.o _ Ah.o⟩
    have g7 : (gone != 0) = true := by simpa using hg0
    obtain rfl : gone = m := by rw [<- HM.o, if_pos hg0]
    clear hg0
    go_wp2_with fail
    go_ret
    exact ⟨rfl, Ae.o _ Aa.o⟩
   have g6 : (dl != dead) = true := by simpa using c1
   obtain rfl : 1 = m := by rw [<- HM.o, if_pos (.inr (.inr c1))]
   clear b1 c1 hse
   go_wp2_with fail
   go_ret
   exact ⟨rfl, Ae.o _ Aa.o⟩
  have g9 : (ys.toList == xs.toList) = false := by rw [hse]; exact eF b1
  obtain rfl : 1 = m := by rw [<- HM.o, if_pos (.inr (.inl b1))]
  clear b1 hse
  go_wp2_with fail
  go_ret
  exact ⟨rfl, Ae.o _ Aa.o⟩
 have g5 : (yk.toList == key.toList) = false := bl_ a
 obtain rfl : 1 = m := by rw [<- HM.o, if_pos (.inl a)]
 clear a hse
 go_wp2_with fail
 go_ret
 exact ⟨rfl, Ae.o _ Aa.o⟩
end Go.Proofs.YtnjhpgmbfblgaaaGreat.Ord
