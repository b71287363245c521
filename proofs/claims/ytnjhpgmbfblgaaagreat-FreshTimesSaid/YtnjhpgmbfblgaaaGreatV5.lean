/- Walk of the reference's. -/
import Derived.Test.YtnjhpgmbfblgaaaGreatMP1
import Derived.Test.YtnjhpgmbfblgaaaGreatMK8
import Derived.Test.YtnjhpgmbfblgaaaGreatJ2
set_option linter.unusedVariables false
set_option linter.unusedSimpArgs false
namespace Go.Proofs.YtnjhpgmbfblgaaaGreat.Ord
set_option maxRecDepth 100000
set_option maxHeartbeats 16000000
open Go.RowKit
theorem kj_ (w : World) : RInv w w.heap.size [] (w.alloc (.map #[] 0)) := by
 have hm := MapAt.new w
 exact ⟨hm.congr fun k => rfl, below1 w _, by simp⟩
theorem take_mem {L : List (CallR × CallV)} {i k : Nat} {y : CallR × CallV} (hy : L[i]? = some y) (hi : i < k) : y.1 ∈ (L.take k).map (·.1) := by
 refine List.mem_map_of_mem (mG (i := i) ?_)
 rw [List.getElem?_take_of_lt hi, hy]
theorem gz_ {L : List (CallR × CallV)} {i : Nat} {y : CallR × CallV} (hy : L[i]? = some y) : (L.take (i + 1)).map (·.1) = (L.take i).map (·.1) ++ [y.1] := by
 rw [tA, hy]
 simp
theorem valid22 (L : List (CallR × CallV)) (A : Option Addr) (n c : Nat) (w : World) (hn : L.length = n) (hl : n <= maxLen) (hA : RowCO w w.heap.size A L) (hs : ∀ x ∈ L, CallS x.1) :
  Calls Tryz.prog 22 #[.slice A n c] w (VlPost L w) := by
 have hn' : n <= 9223372036854775807 := by unfold maxLen at hl; omega
 by_cases hlong : 4096 < n
 ·have hg : decide (4096 < (n : Int)) = true := by simp; omega
  have HF := kp (show ¬ ValidP singleB (L.map (·.1)) from fun h => by have := h.1; rw [lM_] at this; omega)
  clear hA
  go_enter Tryz.func22, Tryz.ntmps22
  go_wp2_with fail
  go_ret
  exact ⟨false, rfl, ⟨fun h => by (cases h), fun h => absurd h HF.o⟩, BR _ _⟩
 have hg : decide (4096 < (n : Int)) = false := by simp; omega
 have hn4 : n <= 4096 := by omega
 obtain ⟨HA, HN, HS, Cf⟩ := kq4 hA hn hs (kj_ w)
 have hmk2 : ∀ w, (Instr.makeMap 119 none).run Tryz.prog w = .ok (.map (some w.heap.size)) (w.alloc (.map #[] 0)) := fun _ => rfl
 clear hA hn hs hlong
 go_enter Tryz.func22, Tryz.ntmps22
 go_upto_region 4 with (fail)
 obtain ⟨W0, hW0⟩ := eY (w.alloc (.map #[] 0))
 rw [hW0] at Cf ⊢
 clear hW0
 go_wp2_with fail
 go_loopw [4] (fun s4 wr => ∃ (k : Nat), k <= n /\ s4 = .int .i64 k /\ RInv w w.heap.size (L.take k) wr /\ Fit singleB ((L.take k).map (·.1)) /\ Timed ((L.take k).map (·.1))) (fun j _ => n - (intOf j).toNat)
 case atStart => exact ⟨0, Nat.zero_le _, by go_num, Cf.o, by simpa using Fit.nil singleB, by simpa using Timed.nil⟩
 obtain ⟨k, hk, rfl, hinv, hfit, htmd⟩ := hrel
 obtain ⟨w5, rfl⟩ := eX wr
 obtain ⟨Aa, Bh, Aw⟩ := kq3 hinv hfit htmd
 clear hinv hfit htmd
 by_cases hlt : k < n
 ·have hg2 : decide ((k : Int) < (n : Int)) = true := eT_ (by omega)
  have hk1 : k < L.length := by rw [HN.o]; exact hlt
  obtain ⟨x, hx⟩ := eY (L[k])
  have hxk := gE hk1
  rw [hx] at hxk
  obtain ⟨By, Ad⟩ := kq2 hxk (show L = L.take k ++ x :: L.drop (k + 1) by rw [<- hx, List.getElem_cons_drop, List.take_append_drop])
  have hxs := HS.o x (mG hxk)
  obtain ⟨b, off, rfl, hbB, hck, hok⟩ := (HA.o.below Aa.o.below (lR _)) k x hxk
  have hbr : b < w5.heap.size := by have := Aa.o.size; omega
  have h58 : ∀ W, Bw w5 W -> Calls Tryz.prog 58 #[.agg (callC x.1 x.2).toArray] W fun e w' => e = .returned (.bool (singleB x.1)) /\ Bw W w' := fun W hW => single58 x.1 x.2 hxs W ((((hok.mono (by have := Aa.o.size; omega : w.heap.size <= w5.heap.size)).below hW (lR _)).mono hW.size))
  have hone := cD_ hok
  have hsz := cM_ x
  have hlen : (callC x.1 x.2).length = 23 := rfl
  have hsA : (Tryz.prog.info? 52).map (·.size) = some (callC x.1 x.2).toArray.size := cL_ _ _ _ _ _ _ _ _ _ _ _ _ _ _ _ _ _ _ _ _ _ _ _
  obtain ⟨ses, hses⟩ := eY x.1.ses
  obtain ⟨num, hnum⟩ := eY x.1.num
  obtain ⟨asked, hask⟩ := eY x.1.asked
  obtain ⟨done, hdone⟩ := eY x.1.done
  obtain ⟨told, htold⟩ := eY x.1.told
  obtain ⟨tim, htim⟩ := eY x.1.tim
  have l0 : (callC x.1 x.2)[0]? = some (.int .i64 ses) := by rw [<- hses]; rfl
  have l1 : (callC x.1 x.2)[1]? = some (.int .i64 num) := by rw [<- hnum]; rfl
  have l19 : (callC x.1 x.2)[19]? = some (.int .i64 asked) := by rw [<- hask]; rfl
  have l20 : (callC x.1 x.2)[20]? = some (.int .i64 done) := by rw [<- hdone]; rfl
  have l22 : (callC x.1 x.2)[22]? = some (.int .u64 tim) := by rw [<- htim]; rfl
  have l21 : (callC x.1 x.2)[21]? = some (.int .i64 told) := by rw [<- htold]; rfl
  obtain ⟨l, hlc⟩ := eY (callC x.1 x.2)
  have Cr := kp hlc
  rw [hlc] at hck h58 hone hsz hlen hsA l0 l1 l19 l20 l21 l22
  obtain ⟨Hk, HZ, Ci, H1, Cq, Be, H58, Ba, Bd, Ag, Ab, Bn⟩ := kq12 hck hsz hsA (all_oneCell_toArray hone) hone hlen h58 hses hnum hask hdone htold
  obtain ⟨Cm, Cl, Am, Bf, Bu, Bt, Ac, Ch⟩ := kq8 l0 l1 l19 l20 l21 l22 htim hbr
  clear hx hxk hxs hck hok h58 hone hsz hlen hsA l0 l1 l19 l20 l21 l22 hlc hses hnum hask hdone htold htim hbB hbr
  go_upto_region 8 with (first
   | ((with_reducible refine wpList_load_agg (o := ⟨some 24, _, _, _, _, _⟩) rfl 52 _ rfl ⟨b, off + k * 23, none⟩ ?_ l _ Hk.o Tryz.underlying52 rfl HZ.o ?_); (· rfl))
   | ((with_reducible refine ab_ (op := ⟨none, _, _, _, _, _⟩) rfl 52 _ _ rfl w5.heap.size 0 l.toArray ?_ ?_ ?_ Ci.o H1.o ?_); (· rfl); (· rfl); (· exact aY_ _ _ _ _ Be.o); intro w7 hw7; have hx7 : RowL w7 w5.heap.size 52 l /\ Bw w5 w7 := (by rw [hw7]; exact aM_ w5 52 l _ Be.o); clear hw7; have At := kp hx7.1; have Ai := kp hx7.2; clear hx7))
  obtain ⟨HQ, Q19⟩ := kq2 At.o.cells.regrown (cell_kept Tryz.isAgg3 (At.o.cell Am.o))
  simp only [Act.put]
  go_cut [42] (fun s42 W' => ∃ t, s42 = .bool t /\ Bw w7 W' /\ Hid ((t = true -> ¬ OkP ((L.take k).map (·.1)) x.1) /\ (t = false -> singleB x.1 = true /\ ∀ y, ((L.take k).map (·.1)).getLast? = some y -> y.asked < x.1.asked)))
  case first =>
   cases hsg : singleB x.1
   ·rw [hsg] at H58
    refine wp_region_quiet_below (by kernel_rfl) (by kernel_rfl) ?_
    repeat (first
     | ((with_reducible refine ay_ (o := ⟨some 25, _, _, _, _, _⟩) rfl 52 _ rfl ⟨w5.heap.size, 0, none⟩ ?_ l _ HQ.o Tryz.underlying52 rfl HZ.o ?_); (· rfl); simp only [Act.put, z1, z2, z3])
     | go_big_quiet_step ((go_at_call 58; exact Calls.regrown_of (H58.o _ (Ai.o.trans ((below_regrown _ _ _).mono Ai.o.size))))))
    refine wpQuiet_nil ?_
    intro W3 hW3
    have hb3 := an_ hW3
    clear hW3
    go_wp2_with fail
    go_meet
    case rel => exact ⟨true, rfl, hb3, ⟨fun _ h => by (have := h.one; rw [hsg] at this; cases this), fun h => by (cases h)⟩⟩
   rw [hsg] at H58
   by_cases hk0 : k = 0
   ·subst hk0
    refine wp_region_quiet_below (by kernel_rfl) (by kernel_rfl) ?_
    repeat (first
     | ((with_reducible refine ay_ (o := ⟨some 25, _, _, _, _, _⟩) rfl 52 _ rfl ⟨w5.heap.size, 0, none⟩ ?_ l _ HQ.o Tryz.underlying52 rfl HZ.o ?_); (· rfl); simp only [Act.put, z1, z2, z3])
     | go_big_quiet_step ((go_at_call 58; exact Calls.regrown_of (H58.o _ (Ai.o.trans ((below_regrown _ _ _).mono Ai.o.size))))))
    refine wpQuiet_nil ?_
    intro W3 hW3
    have hb3 := an_ hW3
    clear hW3
    go_wp2_with fail
    go_meet
    case rel => exact ⟨false, rfl, hb3, ⟨fun h => by (cases h), fun _ => ⟨hsg, fun y hy => by simp at hy⟩⟩⟩
   obtain ⟨m, rfl⟩ : ∃ m, k = m + 1 := ⟨k - 1, by omega⟩
   have hm1 : m < L.length := by rw [HN.o]; omega
   obtain ⟨b', off', he, _, hcm, _⟩ := (HA.o.below (Aa.o.below) (lR _)) m _ (gE hm1)
   obtain ⟨rfl, rfl⟩ : b = b' /\ off = off' := by simpa using he
   clear he hk0
   obtain ⟨pa, hpa⟩ := eY (L[m].1.asked)
   have c38 : w7.cell? ⟨b, off + m * 23 + 19, none⟩ = some (.int .i64 pa) := by
    rw [Ai.o.cell Ch.o, <- hpa]
    exact hcm 19 _ rfl
   obtain ⟨Ak, Q38, Ah⟩ := kq3 (g6_ hm1) (cell_kept Tryz.isAgg3 c38) hpa
   have e1 : ((m : Int) + 1 - 1) = (m : Int) := by omega
   have e2 : IntKind.i64.wrap (m : Int) = (m : Int) := by rw [IntKind.wrap_i64]; omega
   have e4 : (m : Int) < (n : Int) := by omega
   have e5 : (0 : Int) < (m : Int) + 1 := by omega
   have e6 : decide ((0 : Int) < (m : Int) + 1) = true := eT_ e5
   clear hpa hcm c38
   refine wp_region_quiet_below (by kernel_rfl) (by kernel_rfl) ?_
   repeat (first
    | ((with_reducible refine ay_ (o := ⟨some 25, _, _, _, _, _⟩) rfl 52 _ rfl ⟨w5.heap.size, 0, none⟩ ?_ l _ HQ.o Tryz.underlying52 rfl HZ.o ?_); (· rfl); simp only [Act.put, z1, z2, z3])
    | ((with_reducible refine aa_ (o := ⟨some 33, _, _, _, _, _⟩) 3 _ rfl ⟨w5.heap.size, 19, none⟩ ?_ (.int .i64 asked) Q19.o ?_ ?_); (· rfl); (· rfl); simp only [Act.put, z1, z2, z3])
    | ((with_reducible refine aa_ (o := ⟨some 39, _, _, _, _, _⟩) 3 _ rfl ⟨b, off + m * 23 + 19, none⟩ ?_ (.int .i64 pa) Q38.o ?_ ?_); (· rfl); (· rfl); simp only [Act.put, z1, z2, z3])
    | go_big_quiet_step ((go_at_call 58; exact Calls.regrown_of (H58.o _ (Ai.o.trans ((below_regrown _ _ _).mono Ai.o.size))))))
   refine wpQuiet_nil ?_
   intro W3 hW3
   have hb3 := an_ hW3
   clear hW3
   go_wp2_with fail
   go_meet
   case rel => exact ⟨decide (asked <= pa), rfl, hb3, ⟨fun h hok => by (have h1 := hok.ask _ Ak.o; rw [Ag.o, Ah.o] at h1; have := of_decide_eq_true h; omega), fun h => ⟨hsg, fun y hy => by (rw [Ak.o] at hy; cases hy; rw [Ag.o, Ah.o]; have := of_decide_eq_false h; omega)⟩⟩⟩
  obtain ⟨t, rfl, hb3, HP⟩ := hcut
  obtain ⟨Bi, Aq⟩ := kq2 (Ai.o.trans (hb3.mono Ai.o.size)) (At.o.of_block (hb3.block _ At.o.lt))
  clear hb3 HQ Q19 At Ai
  cases t
  ·obtain ⟨hone, hask⟩ := HP.o.2 rfl
   obtain ⟨Bc, Bj⟩ := kq2 hone hask
   have c19 := Aq.o.cell Am.o
   have c20 := Aq.o.cell Bf.o
   have c21 := Aq.o.cell Bu.o
   have hsm : MapAt (wc.alloc (.cells #[.int .i64 asked, .int .i64 done, .int .i64 told] 3)) (w.heap.size) (b9_ (L.take k) x.1 0) := by
    refine (Aa.o.seen.of_block ?_).congr fun k' => (ei_ _ _ _).symm
    rw [(below1 wc _).block _ (by have := Bi.o.size; have := Aa.o.size; omega)]
    exact Bi.o.block _ (by have := Aa.o.size; omega)
   have hst : ∀ j, j < 3 -> (wc.alloc (.cells #[.int .i64 asked, .int .i64 done, .int .i64 told] 3)).cell? ⟨wc.heap.size, j, none⟩ = some (.int .i64 (aU_ x.1 j)) := fun j hj => by
    have hr := RowL.new wc 3 [.int .i64 asked, .int .i64 done, .int .i64 told]
    refine hr.cell ?_
    rcases j with _ | _ | _ | j
    ·simp [aU_, Ag.o]
    ·simp [aU_, Ab.o]
    ·simp [aU_, Bn.o]
    omega
   obtain ⟨Cb, Bp, Ap, Bk, Ay, Cj⟩ := kq6 hsm hst (Bi.o.trans ((below1 wc (.cells #[.int .i64 asked, .int .i64 done, .int .i64 told] 3)).mono Bi.o.size)) (Aq.o.of_block ((below1 wc (.cells #[.int .i64 asked, .int .i64 done, .int .i64 told] 3)).block _ Aq.o.lt)) (show (wc.alloc (.cells #[.int .i64 asked, .int .i64 done, .int .i64 told] 3)).heap.size = wc.heap.size + 1 from bF_ _ _) (show w5.heap.size + 1 <= wc.heap.size from Aq.o.lt)
   obtain ⟨W4, hW4⟩ := eX (wc.alloc (.cells #[.int .i64 asked, .int .i64 done, .int .i64 told] 3))
   rw [<- hW4] at Cb Bp Ap Bk Ay
   have Bz := kp hW4
   clear hone hask hsm hst hW4
   clear HP
   go_wp2_with fail
   rw [<- Bz.o]
   clear Bz c19 c20 c21
   go_loopw [51] (fun s51 wr => ∃ j : Nat, j <= 3 /\ s51 = .int .i64 j /\ MapAt wr (w.heap.size) (b9_ (L.take k) x.1 j) /\ Kept [w.heap.size] W4 wr /\ Hid (∀ i, i < j -> 0 <= aU_ x.1 i -> dW_ (L.take k) (aU_ x.1 i) = false)) (fun j _ => 3 - (intOf j).toNat)
   case atStart => exact ⟨0, by omega, by go_num, Cb.o, Kept.refl _ _, fun i hi => absurd hi (by omega)⟩
   obtain ⟨j, hj, rfl, hm, hkq, HD⟩ := hrel
   obtain ⟨HM, Al⟩ := kq2 hm hkq
   clear hm hkq
   by_cases hj3 : j < 3
   ·have hg3 : decide ((j : Int) < 3) = true := eT_ (by omega)
    have e1 : (j : Int) < 3 := by omega
    have q1 : wr.cell? ⟨wc.heap.size, j, none⟩ = some (.int .i64 (aU_ x.1 j)) := by
     rw [<- Bp.o j hj3]
     exact ds_ (Al.o.block _ (by have := Ay.o; omega) (by have := Cj.o; have := Aa.o.size; simp; omega))
    have hlk : (Instr.lookup 119 (.map (some (w.heap.size))) (.int .i64 (aU_ x.1 j)) false).run Tryz.prog wr = .ok (.bool (cN_ (L.take k) x.1 j (aU_ x.1 j))) wr := by
     rw [HM.o.run_lookup Tryz.underlying119 (by kernel_rfl) (.bool false) (Tryz.zeroValue4 wr)]
     unfold b9_
     cases cN_ (L.take k) x.1 j (aU_ x.1 j) <;> rfl
    obtain ⟨Aj, Cc, Cg⟩ := kq3 (fun h0 => gD_ Bc.o (L.take k) hj3 h0) (ej_ (L.take k) x.1 hj3) (fun (hok : OkP ((L.take k).map (·.1)) x.1) h0 => hok.fresh j hj3 h0)
    obtain ⟨st, hst⟩ := eY (aU_ x.1 j)
    obtain ⟨sj, hsj⟩ := eY (cN_ (L.take k) x.1 j (aU_ x.1 j))
    rw [hsj] at hlk Aj
    rw [hst] at q1 hlk Aj Cc Cg
    have Az := kp hst
    clear hsj hst
    obtain ⟨Av, Co⟩ := kq2 (fun (w8 : World) (h : ∀ g, MapAt wr (w.heap.size) g -> MapAt w8 (w.heap.size) (fun k' => if k' = st then some (.bool true) else g k')) => (h _ HM.o).congr fun k' => (Cc.o k').symm) (Aa.o.below.trans ((Ap.o.mono (by have := Aa.o.size; omega)).trans (Al.o.below (by have := Ap.o.size; have := Aa.o.size; omega) (fun b hb => by simp at hb; omega))))
    by_cases h0 : 0 <= st
    ·have g0 : decide (0 <= st) = true := eT_ h0
     have Bg := kp h0
     clear h0
     cases sj
     ·go_wp2_with ((with_reducible refine aW_ (o := ⟨none, _, _, _, _, _⟩) rfl 119 3 4 _ _ _ rfl (w.heap.size) st (.bool true) ?_ ?_ ?_ _ HM.o ?_ ?_ ?_); (· rfl); (· rfl); (· rfl); (· exact Tryz.underlying119); (· kernel_rfl); intro w8 hk8 hm8; have Bv := kp hk8; have Bs := kp (Av.o w8 hm8); clear hk8 hm8)
      go_roundw
      case rel => exact ⟨j + 1, by omega, by go_num, Bs.o, Al.o.trans Bv.o, fun i hi h => by (by_cases e : i = j; (subst e; rw [Az.o]; exact (Aj.o Bg.o).symm); exact HD.o i (by omega) h)⟩
      simp [intOf]; omega
     have Br := kp (fun hok => Cg.o hok Bg.o ((dc_ _ _).1 (Aj.o Bg.o).symm))
     go_wp2_with fail
     go_ret
     exact .no rfl Ad.o Br.o Co.o
    have g0 : decide (0 <= st) = false := eF h0
    have Bg := kp h0
    clear h0
    go_wp2_with ((with_reducible refine aW_ (o := ⟨none, _, _, _, _, _⟩) rfl 119 3 4 _ _ _ rfl (w.heap.size) st (.bool true) ?_ ?_ ?_ _ HM.o ?_ ?_ ?_); (· rfl); (· rfl); (· rfl); (· exact Tryz.underlying119); (· kernel_rfl); intro w8 hk8 hm8; have Bv := kp hk8; have Bs := kp (Av.o w8 hm8); clear hk8 hm8)
    go_roundw
    case rel => exact ⟨j + 1, by omega, by go_num, Bs.o, Al.o.trans Bv.o, fun i hi h => by (by_cases e : i = j; (subst e; rw [Az.o] at h; exact absurd h Bg.o); exact HD.o i (by omega) h)⟩
    simp [intOf]; omega
   obtain rfl : j = 3 := by omega
   have Ce := kp (HM.o.congr (dI_ (L.take k) x))
   have Bm := kp (Bk.o.of_block (Al.o.block _ Bk.o.lt (by have := Aa.o.size; simp; omega)))
   have Bq := kp (show OkA ((L.take k).map (·.1)) x.1 from ⟨Bc.o, Bj.o, fun j hj h0 hse => by
    (have h1 := HD.o j hj h0
     rw [(dc_ _ _).2 hse] at h1
     cases h1)⟩)
   have Cp := kp (show Bw w wr from Aa.o.below.trans ((Ap.o.mono (by have := Aa.o.size; omega)).trans (Al.o.below (by have := Ap.o.size; have := Aa.o.size; omega) (fun b hb => by simp at hb; omega))))
   have Ax := kp (show w.heap.size < wr.heap.size by
    have s3 := Aa.o.size
    have s4 := Ap.o.size
    have s5 := Al.o.size
    omega)
   obtain ⟨w9, rfl⟩ := eX wr
   clear HD HM Al Bk Ap Bp
   go_wp2_with fail
   go_loopw [8, 9, 10] (fun s8 s9 s10 W => ∃ (k2 cnt : Nat) (tl : Int), k2 <= k /\ s10 = .int .i64 k2 /\ s8 = .int .i64 cnt /\ s9 = .int .i64 tl /\ cnt <= k2 /\ Hid (RIn ((L.take k2).map (·.1)) x.1 cnt tl) /\ Bw w9 W) (fun _ _ j _ => k - (intOf j).toNat)
   case atStart => exact ⟨0, 0, -1, Nat.zero_le _, by go_num, by go_num, rfl, lR _, kp (by simpa using RIn.nil x.1), BR _ _⟩
   obtain ⟨k2, cnt, tl, hk2, rfl, rfl, rfl, hcnt, HR, hb9⟩ := hrel
   obtain ⟨w10, rfl⟩ := eX wr
   obtain ⟨As, Ao⟩ := kq2 (Bm.o.of_block (hb9.block _ Bm.o.lt)) (Cp.o.trans (hb9.mono (Nat.le_of_lt Ax.o)))
   have hwsz : w.heap.size < w10.heap.size := lL Ax.o hb9.size
   have Ar := kp hb9
   clear hb9
   by_cases hlt2 : k2 < k
   ·have hg4 : decide ((k2 : Int) < (k : Int)) = true := eT_ (by omega)
    have hi1 : (k2 : Int) < (n : Int) := by omega
    have hk21 : k2 < L.length := by rw [HN.o]; omega
    obtain ⟨y, hy⟩ := eY (L[k2])
    have hyk := gE hk21
    rw [hy] at hyk
    obtain ⟨b', off', he, _, hcy, _⟩ := (HA.o.below Ao.o (lR _)) k2 y hyk
    obtain ⟨rfl, rfl⟩ : b = b' /\ off = off' := by simpa using he
    clear he
    obtain ⟨Bl, Bx⟩ := kq2 (take_mem (k := k) hyk hlt2) (gz_ hyk)
    obtain ⟨ys, hys⟩ := eY y.1.ses
    obtain ⟨yd, hyd⟩ := eY y.1.done
    obtain ⟨yt, hyt⟩ := eY y.1.told
    obtain ⟨ym, hym⟩ := eY y.1.tim
    obtain ⟨HYs, HYd, HYt, HYm, Cn⟩ := kq5 hys hyd hyt hym hcy
    have hc1 : (cnt : Int) + 1 <= 9223372036854775807 := by omega
    obtain ⟨QX0, QY0⟩ := kq2 (cell_kept Tryz.isAgg3 (As.o.cell Cm.o)) (cell_kept Tryz.isAgg3 (show w10.cell? ⟨b, off + k2 * 23, none⟩ = some (.int .i64 ys) by rw [<- hys]; exact hcy 0 _ rfl))
    clear hy hyk hcy hys hyd hyt hym
    cases hse : (ys == ses)
    all_goals
     go_wp2_with fail
     refine wp_region_quiet_below (by kernel_rfl) (by kernel_rfl) ?_
     repeat (first
      | ((with_reducible refine aa_ (o := ⟨some 74, _, _, _, _, _⟩) 3 _ rfl ⟨b, off + k2 * 23, none⟩ ?_ (.int .i64 ys) QY0.o ?_ ?_); (· rfl); (· rfl); simp only [Act.put, z1, z2, z3])
      | ((with_reducible refine aa_ (o := ⟨some 76, _, _, _, _, _⟩) 3 _ rfl ⟨w5.heap.size, 0, none⟩ ?_ (.int .i64 ses) QX0.o ?_ ?_); (· rfl); (· rfl); simp only [Act.put, z1, z2, z3])
      | go_big_quiet_step (fail))
     refine wpQuiet_nil ?_
     intro w11 hW3
     have hb11 := an_ hW3
     obtain ⟨Au, An, Af⟩ := kq3 (As.o.of_block (hb11.block _ As.o.lt)) (Cn.o.below (B := w10.heap.size) hb11 (lL Ch.o (by have := Bm.o.lt; have := Ar.o.size; omega))) hb11
     clear hW3 hb11
     obtain ⟨QX20, QX22, QY20, QY22⟩ := kq4 (cell_kept Tryz.isAgg3 (Au.o.cell Bf.o)) (cell_kept Tryz.isAgg34 (Au.o.cell Bt.o)) (cell_kept Tryz.isAgg3 (show w11.cell? ⟨b, off + k2 * 23 + 20, none⟩ = some (.int .i64 yd) by rw [<- HYd.o]; exact An.o 20 _ rfl)) (cell_kept Tryz.isAgg34 (show w11.cell? ⟨b, off + k2 * 23 + 22, none⟩ = some (.int .u64 ym) by rw [<- HYm.o]; exact An.o 22 _ rfl))
    ·have Ck := kp (show y.1.ses ≠ x.1.ses by rw [HYs.o, Ba.o]; simpa using hse)
     go_upto_region 26 with (fail)
     try simp only [Act.put]
     go_cut [137] (fun s137 W' => ∃ t, s137 = .bool t /\ Bw w11 W' /\ Hid (t = false ↔ Pair x.1 y.1))
     case first =>
      cases qa : decide (0 <= done)
      rotate_left 1
      cases qb : decide (0 <= yd)
      rotate_left 1
      cases qc : decide (yd < done)
      cases qe : decide (done < yd)
      rotate_left 1
      cases qf : decide (ym < tim)
      rotate_left 1
      rotate_left 1
      cases qd : decide (tim < ym)
      have qe : decide (done < yd) = false := eF (by have := of_decide_eq_true qc; omega)
      rotate_left 1
      rotate_left 1
      all_goals
       refine wp_region_quiet_below (by kernel_rfl) (by kernel_rfl) ?_
       repeat (first
        | ((with_reducible refine aa_ (o := ⟨some 88, _, _, _, _, _⟩) 3 _ rfl ⟨w5.heap.size, 20, none⟩ ?_ (.int .i64 done) QX20.o ?_ ?_); (· rfl); (· rfl); simp only [Act.put, z1, z2, z3])
        | ((with_reducible refine aa_ (o := ⟨some 100, _, _, _, _, _⟩) 3 _ rfl ⟨w5.heap.size, 20, none⟩ ?_ (.int .i64 done) QX20.o ?_ ?_); (· rfl); (· rfl); simp only [Act.put, z1, z2, z3])
        | ((with_reducible refine aa_ (o := ⟨some 119, _, _, _, _, _⟩) 3 _ rfl ⟨w5.heap.size, 20, none⟩ ?_ (.int .i64 done) QX20.o ?_ ?_); (· rfl); (· rfl); simp only [Act.put, z1, z2, z3])
        | ((with_reducible refine aa_ (o := ⟨some 95, _, _, _, _, _⟩) 3 _ rfl ⟨b, off + k2 * 23 + 20, none⟩ ?_ (.int .i64 yd) QY20.o ?_ ?_); (· rfl); (· rfl); simp only [Act.put, z1, z2, z3])
        | ((with_reducible refine aa_ (o := ⟨some 105, _, _, _, _, _⟩) 3 _ rfl ⟨b, off + k2 * 23 + 20, none⟩ ?_ (.int .i64 yd) QY20.o ?_ ?_); (· rfl); (· rfl); simp only [Act.put, z1, z2, z3])
        | ((with_reducible refine aa_ (o := ⟨some 124, _, _, _, _, _⟩) 3 _ rfl ⟨b, off + k2 * 23 + 20, none⟩ ?_ (.int .i64 yd) QY20.o ?_ ?_); (· rfl); (· rfl); simp only [Act.put, z1, z2, z3])
        | ((with_reducible refine aa_ (o := ⟨some 109, _, _, _, _, _⟩) 34 _ rfl ⟨w5.heap.size, 22, none⟩ ?_ (.int .u64 tim) QX22.o ?_ ?_); (· rfl); (· rfl); simp only [Act.put, z1, z2, z3])
        | ((with_reducible refine aa_ (o := ⟨some 128, _, _, _, _, _⟩) 34 _ rfl ⟨w5.heap.size, 22, none⟩ ?_ (.int .u64 tim) QX22.o ?_ ?_); (· rfl); (· rfl); simp only [Act.put, z1, z2, z3])
        | ((with_reducible refine aa_ (o := ⟨some 114, _, _, _, _, _⟩) 34 _ rfl ⟨b, off + k2 * 23 + 22, none⟩ ?_ (.int .u64 ym) QY22.o ?_ ?_); (· rfl); (· rfl); simp only [Act.put, z1, z2, z3])
        | ((with_reducible refine aa_ (o := ⟨some 133, _, _, _, _, _⟩) 34 _ rfl ⟨b, off + k2 * 23 + 22, none⟩ ?_ (.int .u64 ym) QY22.o ?_ ?_); (· rfl); (· rfl); simp only [Act.put, z1, z2, z3])
        | go_big_quiet_step (fail))
       refine wpQuiet_nil ?_
       intro w12 hW3
       have hb12 := an_ hW3
       clear hW3
       go_wp2_with fail
       go_meet
      iterate 4
       ·exact ⟨false, rfl, hb12, kp ⟨fun _ => pair_dec.2 (by rw [Ab.o, Ac.o, HYd.o, HYm.o]; simp only [decide_eq_true_eq, decide_eq_false_iff_not] at *; omega), fun _ => rfl⟩⟩
      ·exact ⟨true, rfl, hb12, kp ⟨fun h => by (cases h), fun h => absurd (pair_dec.1 h) (by rw [Ab.o, Ac.o, HYd.o, HYm.o]; simp only [decide_eq_true_eq, decide_eq_false_iff_not] at *; omega)⟩⟩
      ·exact ⟨false, rfl, hb12, kp ⟨fun _ => pair_dec.2 (by rw [Ab.o, Ac.o, HYd.o, HYm.o]; simp only [decide_eq_true_eq, decide_eq_false_iff_not] at *; omega), fun _ => rfl⟩⟩
      exact ⟨true, rfl, hb12, kp ⟨fun h => by (cases h), fun h => absurd (pair_dec.1 h) (by rw [Ab.o, Ac.o, HYd.o, HYm.o]; simp only [decide_eq_true_eq, decide_eq_false_iff_not] at *; omega)⟩⟩
     case rest =>
     obtain ⟨t, rfl, hb12, Bb⟩ := hcut
     have Ae := kp (Af.o.trans (hb12.mono Af.o.size))
     clear hb12
     cases t
     ·have Ah := kp (Bb.o.1 rfl)
      go_wp2_with fail
      refine ⟨⟨_, .int .i64 (cnt : Int), .int .i64 tl, .int .i64 ((k2 : Int) + 1), ⟨k2 + 1, by omega, by simp, cnt, rfl, tl, rfl, by omega, kp (by have h := HR.o.snoc_ne Ck.o Ah.o; rw [<- List.map_take, Bx.o]; simpa only [List.map_take] using h), Ar.o.trans (Ae.o.mono Ar.o.size)⟩, rfl, rfl, rfl, rfl⟩, by simp [intOf]; omega⟩
     have Ah := kp (show ¬ Pair x.1 y.1 from fun h => by (have := Bb.o.2 h; cases this))
     go_wp2_with fail
     go_ret
     exact .no2 rfl Ad.o (fun h => Ah.o (h.2 _ Bl.o)) (Ao.o.trans (Ae.o.mono (Nat.le_of_lt hwsz)))
    have Cd := kp (show y.1.ses = x.1.ses by rw [HYs.o, Ba.o]; simpa using hse)
    have y21 : w11.cell? ⟨b, off + k2 * 23 + 21, none⟩ = some (.int .i64 yt) := by rw [<- HYt.o]; exact An.o 21 _ rfl
    cases ht : decide (yt < 0)
    ·have HT := kp (show 0 <= y.1.told by rw [HYt.o]; have := of_decide_eq_false ht; omega)
     go_upto_region 26 with (fail)
     try simp only [Act.put]
     go_cut [137] (fun s137 W' => ∃ t, s137 = .bool t /\ Bw w11 W' /\ Hid (t = false ↔ Pair x.1 y.1))
     case first =>
      cases qa : decide (0 <= done)
      rotate_left 1
      cases qb : decide (0 <= yd)
      rotate_left 1
      cases qc : decide (yd < done)
      cases qe : decide (done < yd)
      rotate_left 1
      cases qf : decide (ym < tim)
      rotate_left 1
      rotate_left 1
      cases qd : decide (tim < ym)
      have qe : decide (done < yd) = false := eF (by have := of_decide_eq_true qc; omega)
      rotate_left 1
      rotate_left 1
      all_goals
       refine wp_region_quiet_below (by kernel_rfl) (by kernel_rfl) ?_
       repeat (first
        | ((with_reducible refine aa_ (o := ⟨some 88, _, _, _, _, _⟩) 3 _ rfl ⟨w5.heap.size, 20, none⟩ ?_ (.int .i64 done) QX20.o ?_ ?_); (· rfl); (· rfl); simp only [Act.put, z1, z2, z3])
        | ((with_reducible refine aa_ (o := ⟨some 100, _, _, _, _, _⟩) 3 _ rfl ⟨w5.heap.size, 20, none⟩ ?_ (.int .i64 done) QX20.o ?_ ?_); (· rfl); (· rfl); simp only [Act.put, z1, z2, z3])
        | ((with_reducible refine aa_ (o := ⟨some 119, _, _, _, _, _⟩) 3 _ rfl ⟨w5.heap.size, 20, none⟩ ?_ (.int .i64 done) QX20.o ?_ ?_); (· rfl); (· rfl); simp only [Act.put, z1, z2, z3])
        | ((with_reducible refine aa_ (o := ⟨some 95, _, _, _, _, _⟩) 3 _ rfl ⟨b, off + k2 * 23 + 20, none⟩ ?_ (.int .i64 yd) QY20.o ?_ ?_); (· rfl); (· rfl); simp only [Act.put, z1, z2, z3])
        | ((with_reducible refine aa_ (o := ⟨some 105, _, _, _, _, _⟩) 3 _ rfl ⟨b, off + k2 * 23 + 20, none⟩ ?_ (.int .i64 yd) QY20.o ?_ ?_); (· rfl); (· rfl); simp only [Act.put, z1, z2, z3])
        | ((with_reducible refine aa_ (o := ⟨some 124, _, _, _, _, _⟩) 3 _ rfl ⟨b, off + k2 * 23 + 20, none⟩ ?_ (.int .i64 yd) QY20.o ?_ ?_); (· rfl); (· rfl); simp only [Act.put, z1, z2, z3])
        | ((with_reducible refine aa_ (o := ⟨some 109, _, _, _, _, _⟩) 34 _ rfl ⟨w5.heap.size, 22, none⟩ ?_ (.int .u64 tim) QX22.o ?_ ?_); (· rfl); (· rfl); simp only [Act.put, z1, z2, z3])
        | ((with_reducible refine aa_ (o := ⟨some 128, _, _, _, _, _⟩) 34 _ rfl ⟨w5.heap.size, 22, none⟩ ?_ (.int .u64 tim) QX22.o ?_ ?_); (· rfl); (· rfl); simp only [Act.put, z1, z2, z3])
        | ((with_reducible refine aa_ (o := ⟨some 114, _, _, _, _, _⟩) 34 _ rfl ⟨b, off + k2 * 23 + 22, none⟩ ?_ (.int .u64 ym) QY22.o ?_ ?_); (· rfl); (· rfl); simp only [Act.put, z1, z2, z3])
        | ((with_reducible refine aa_ (o := ⟨some 133, _, _, _, _, _⟩) 34 _ rfl ⟨b, off + k2 * 23 + 22, none⟩ ?_ (.int .u64 ym) QY22.o ?_ ?_); (· rfl); (· rfl); simp only [Act.put, z1, z2, z3])
        | go_big_quiet_step (fail))
       refine wpQuiet_nil ?_
       intro w12 hW3
       have hb12 := an_ hW3
       clear hW3
       go_wp2_with fail
       go_meet
      iterate 4
       ·exact ⟨false, rfl, hb12, kp ⟨fun _ => pair_dec.2 (by rw [Ab.o, Ac.o, HYd.o, HYm.o]; simp only [decide_eq_true_eq, decide_eq_false_iff_not] at *; omega), fun _ => rfl⟩⟩
      ·exact ⟨true, rfl, hb12, kp ⟨fun h => by (cases h), fun h => absurd (pair_dec.1 h) (by rw [Ab.o, Ac.o, HYd.o, HYm.o]; simp only [decide_eq_true_eq, decide_eq_false_iff_not] at *; omega)⟩⟩
      ·exact ⟨false, rfl, hb12, kp ⟨fun _ => pair_dec.2 (by rw [Ab.o, Ac.o, HYd.o, HYm.o]; simp only [decide_eq_true_eq, decide_eq_false_iff_not] at *; omega), fun _ => rfl⟩⟩
      exact ⟨true, rfl, hb12, kp ⟨fun h => by (cases h), fun h => absurd (pair_dec.1 h) (by rw [Ab.o, Ac.o, HYd.o, HYm.o]; simp only [decide_eq_true_eq, decide_eq_false_iff_not] at *; omega)⟩⟩
     case rest =>
     obtain ⟨t, rfl, hb12, Bb⟩ := hcut
     have Ae := kp (Af.o.trans (hb12.mono Af.o.size))
     clear hb12
     cases t
     ·have Ah := kp (Bb.o.1 rfl)
      go_wp2_with fail
      refine ⟨⟨_, .int .i64 ((cnt : Int) + 1), .int .i64 yt, .int .i64 ((k2 : Int) + 1), ⟨k2 + 1, by omega, by simp, cnt + 1, by simp, yt, rfl, by omega, kp (by have h := HR.o.snoc_eq Cd.o HT.o Ah.o; rw [<- List.map_take, Bx.o]; rw [HYt.o] at h; simpa only [List.map_take] using h), Ar.o.trans (Ae.o.mono Ar.o.size)⟩, rfl, rfl, rfl, rfl⟩, by simp [intOf]; omega⟩
     have Ah := kp (show ¬ Pair x.1 y.1 from fun h => by (have := Bb.o.2 h; cases this))
     go_wp2_with fail
     go_ret
     exact .no2 rfl Ad.o (fun h => Ah.o (h.2 _ Bl.o)) (Ao.o.trans (Ae.o.mono (Nat.le_of_lt hwsz)))
    have HT := kp (show ¬ 0 <= y.1.told by rw [HYt.o]; have := of_decide_eq_true ht; omega)
    go_wp2_with fail
    go_ret
    exact .no2 rfl Ad.o (fun h => by have h1 := h.1.told _ Bl.o Cd.o; have h2 := HT.o; omega) (Ao.o.trans (Af.o.mono (Nat.le_of_lt hwsz)))
   obtain rfl : k2 = k := by omega
   have hg4 : decide ((k2 : Int) < (k2 : Int)) = false := by simp
   have x1 := As.o.cell Cl.o
   have x19 := As.o.cell Am.o
   cases hnn : (num != (cnt : Int))
   ·cases htt : decide (asked <= tl)
    ·have HC := kp (Bq.o.okc HR.o (by rw [Bd.o]; simpa using hnn) (by rw [Ag.o]; have := of_decide_eq_false htt; omega))
     obtain ⟨Ca, Bo⟩ := kq2 (gz_ By.o) (show L.take (k2 + 1) = L.take k2 ++ [x] by rw [tA, By.o]; rfl)
     go_wp2_with fail
     refine ⟨⟨k2 + 1, by omega, by go_num, ⟨?_, Ao.o, hwsz⟩, ?_, ?_⟩, by simp [intOf]; omega⟩
     ·rw [Bo.o]; exact Ce.o.of_block (Ar.o.block _ Ce.o.lt)
     ·rw [Ca.o]; exact Bh.o.snoc HC.o
     rw [Ca.o]; exact Aw.o.snoc HR.o.pair
    have HT := kp (of_decide_eq_true htt)
    go_wp2_with fail
    go_ret
    exact .no2 rfl Ad.o (fun h => by have h1 := (HR.o.of_okc h.1).2; rw [Ag.o] at h1; have := HT.o; omega) Ao.o
   have HT := kp (show num ≠ (cnt : Int) by simpa using hnn)
   go_wp2_with fail
   go_ret
   exact .no2 rfl Ad.o (fun h => by have h1 := (HR.o.of_okc h.1).1; rw [Bd.o] at h1; exact HT.o h1) Ao.o
  have Br := kp (HP.o.1 rfl)
  clear HP
  go_wp2_with fail
  go_ret
  exact .no rfl Ad.o Br.o (Aa.o.below.trans (Bi.o.mono (by have := Aa.o.size; omega)))
 obtain rfl : k = n := by omega
 have hg2 : decide ((k : Int) < (k : Int)) = false := by simp
 have hL : L.take k = L := tL (by rw [HN.o]; exact lR _)
 have HE := kp (show ValidP singleB (L.map (·.1)) from ⟨by rw [lM_, HN.o]; exact hn4, by have := Bh.o; rwa [hL] at this, by have := Aw.o; rwa [hL] at this⟩)
 go_wp2_with fail
 go_ret
 exact ⟨true, rfl, ⟨fun _ => HE.o, fun _ => rfl⟩, Aa.o.below⟩
end Go.Proofs.YtnjhpgmbfblgaaaGreat.Ord
