/- Walk of the reference's Valid. -/
import Derived.Test.YtnjhpgmbfblgaaaGreatV3
import Derived.Test.YtnjhpgmbfblgaaaGreatV4
import Derived.Test.YtnjhpgmbfblgaaaGreatJ2
namespace Go.Proofs.YtnjhpgmbfblgaaaGreat.Ord
set_option maxRecDepth 100000
set_option maxHeartbeats 16000000
open Go.RowKit
set_option linter.unusedVariables false
set_option linter.unusedSimpArgs false
theorem rinv_init (w : World) : RInv w w.heap.size [] (w.alloc (.map #[] 0)) := by
 have hm := MapAt.new w
 exact ⟨hm.congr fun k => rfl, below1 w _, by simp⟩
theorem take_mem {L : List (CallR × CallV)} {i k : Nat} {y : CallR × CallV} (hy : L[i]? = some y) (hi : i < k) : y.1 ∈ (L.take k).map (·.1) := by
 refine List.mem_map_of_mem (List.mem_of_getElem? (i := i) ?_)
 rw [List.getElem?_take_of_lt hi, hy]
theorem take_snoc {L : List (CallR × CallV)} {i : Nat} {y : CallR × CallV} (hy : L[i]? = some y) : (L.take (i + 1)).map (·.1) = (L.take i).map (·.1) ++ [y.1] := by
 rw [List.take_add_one, hy]
 simp

theorem valid22 (L : List (CallR × CallV)) (A : Option Addr) (n c : Nat) (w : World) (hn : L.length = n) (hl : n <= maxLen) (hA : RowCO w w.heap.size A L) (hs : ∀ x ∈ L, CallS x.1) :
  Calls Tryz.prog 22 #[.slice A n c] w (VlPost L w) := by
 have hn' : n <= 9223372036854775807 := by unfold maxLen at hl; omega
 by_cases hlong : 4096 < n
 ·have hg : decide (4096 < (n : Int)) = true := by simp; omega
  have HF := kp (show ¬ ValidP singleB (L.map (·.1)) from fun h => by have := h.1; rw [List.length_map] at this; omega)
  clear hA
  go_enter Tryz.func22, Tryz.ntmps22
  go_wp2_with fail
  go_ret
  exact ⟨false, rfl, ⟨fun h => by (cases h), fun h => absurd h HF.out⟩, Below.refl _ _⟩
 have hg : decide (4096 < (n : Int)) = false := by simp; omega
 have hn4 : n <= 4096 := by omega
 have HA := kp hA
 have HN := kp hn
 have HS := kp hs
 have HI0 := kp (rinv_init w)
 have hmk2 : ∀ w, (Instr.makeMap 119 none).run Tryz.prog w = .ok (.map (some w.heap.size)) (w.alloc (.map #[] 0)) := fun _ => rfl
 clear hA hn hs hlong
 go_enter Tryz.func22, Tryz.ntmps22
 go_upto_region 4 with (fail)
 obtain ⟨W0, hW0⟩ : ∃ W0, w.alloc (.map #[] 0) = W0 := ⟨_, rfl⟩
 rw [hW0] at HI0 ⊢
 clear hW0
 go_wp2_with fail
 go_loopw [4] (fun s4 wr => ∃ (k : Nat), k <= n /\ s4 = .int .i64 k /\ RInv w w.heap.size (L.take k) wr /\ Fit singleB ((L.take k).map (·.1)) /\ Timed ((L.take k).map (·.1))) (fun j _ => n - (intOf j).toNat)
 case atStart => exact ⟨0, Nat.zero_le _, by go_num, HI0.out, by simpa using Fit.nil singleB, by simpa using Timed.nil⟩
 case round =>
  obtain ⟨k, hk, rfl, hinv, hfit, htmd⟩ := hrel
  obtain ⟨w5, rfl⟩ : ∃ W, W = wr := ⟨_, rfl⟩
  have HINV := kp hinv
  have HFIT := kp hfit
  have HTMD := kp htmd
  clear hinv hfit htmd
  by_cases hlt : k < n
  ·have hg2 : decide ((k : Int) < (n : Int)) = true := decide_eq_true (by omega)
   have hk1 : k < L.length := by rw [HN.out]; exact hlt
   obtain ⟨x, hx⟩ : ∃ x, L[k] = x := ⟨_, rfl⟩
   have hxk := List.getElem?_eq_getElem hk1
   rw [hx] at hxk
   have HXK := kp hxk
   have HSPL := kp (show L = L.take k ++ x :: L.drop (k + 1) by rw [<- hx, List.getElem_cons_drop, List.take_append_drop])
   have hxs := HS.out x (List.mem_of_getElem? hxk)
   obtain ⟨b, off, rfl, hbB, hck, hok⟩ := (HA.out.below HINV.out.below (Nat.le_refl _)) k x hxk
   have hbr : b < w5.heap.size := by have := HINV.out.size; omega
   have h58 : ∀ W, Below w5.heap.size w5 W -> Calls Tryz.prog 58 #[.agg (callC x.1 x.2).toArray] W fun e w' => e = .returned (.bool (singleB x.1)) /\ Below W.heap.size W w' := fun W hW => single58 x.1 x.2 hxs W ((((hok.mono (by have := HINV.out.size; omega : w.heap.size <= w5.heap.size)).below hW (Nat.le_refl _)).mono hW.size))
   have hone := call_oneC hok
   have hsz := call_len52 x
   have hlen : (callC x.1 x.2).length = 23 := rfl
   have hsA : (Tryz.prog.info? 52).map (·.size) = some (callC x.1 x.2).toArray.size := call_sizeA _ _ _ _ _ _ _ _ _ _ _ _ _ _ _ _ _ _ _ _ _ _ _
   obtain ⟨ses, hses⟩ : ∃ y, x.1.ses = y := ⟨_, rfl⟩
   obtain ⟨num, hnum⟩ : ∃ y, x.1.num = y := ⟨_, rfl⟩
   obtain ⟨asked, hask⟩ : ∃ y, x.1.asked = y := ⟨_, rfl⟩
   obtain ⟨done, hdone⟩ : ∃ y, x.1.done = y := ⟨_, rfl⟩
   obtain ⟨told, htold⟩ : ∃ y, x.1.told = y := ⟨_, rfl⟩
   obtain ⟨tim, htim⟩ : ∃ y, x.1.tim = y := ⟨_, rfl⟩
   have l0 : (callC x.1 x.2)[0]? = some (.int .i64 ses) := by rw [<- hses]; rfl
   have l1 : (callC x.1 x.2)[1]? = some (.int .i64 num) := by rw [<- hnum]; rfl
   have l19 : (callC x.1 x.2)[19]? = some (.int .i64 asked) := by rw [<- hask]; rfl
   have l20 : (callC x.1 x.2)[20]? = some (.int .i64 done) := by rw [<- hdone]; rfl
   have l22 : (callC x.1 x.2)[22]? = some (.int .u64 tim) := by rw [<- htim]; rfl
   have l21 : (callC x.1 x.2)[21]? = some (.int .i64 told) := by rw [<- htold]; rfl
   obtain ⟨l, hlc⟩ : ∃ l, callC x.1 x.2 = l := ⟨_, rfl⟩
   have HLC := kp hlc
   rw [hlc] at hck h58 hone hsz hlen hsA l0 l1 l19 l20 l21 l22
   have Hk := kp hck
   have HZ := kp hsz
   have HZA := kp hsA
   have H1 := kp (all_oneCell_toArray hone)
   have HO1 := kp hone
   have HLEN := kp hlen
   have H58 := kp h58
   have HSES := kp hses
   have HNUM := kp hnum
   have HASK := kp hask
   have HDON := kp hdone
   have HTLD := kp htold
   have HL0 := kp l0
   have HL1 := kp l1
   have HL19 := kp l19
   have HL20 := kp l20
   have HL21 := kp l21
   have HL22 := kp l22
   have HTIM := kp htim
   have HBR := kp hbr
   clear hx hxk hxs hck hok h58 hone hsz hlen hsA l0 l1 l19 l20 l21 l22 hlc hses hnum hask hdone htold htim hbB hbr
   go_upto_region 8 with (first
    | ((with_reducible refine wpList_load_agg (o := ⟨some 24, _, _, _, _, _⟩) rfl 52 _ rfl ⟨b, off + k * 23, none⟩ ?_ l _ Hk.out Tryz.underlying52 rfl HZ.out ?_); (· rfl))
    | ((with_reducible refine wpList_store_at2 (op := ⟨none, _, _, _, _, _⟩) rfl 52 _ _ rfl w5.heap.size 0 l.toArray ?_ ?_ ?_ HZA.out H1.out ?_); (· rfl); (· rfl); (· exact there_zero _ _ _ _ HLEN.out); intro w7 hw7; have hx7 : RowL w7 w5.heap.size 52 l /\ Below w5.heap.size w5 w7 := (by rw [hw7]; exact stored_zero w5 52 l _ HLEN.out); clear hw7; have HX7 := kp hx7.1; have HB7 := kp hx7.2; clear hx7))
   have HQ := kp HX7.out.cells.regrown
   have Q19 := kp (cell_kept Tryz.isAgg3 (HX7.out.cell HL19.out))
   simp only [Act.put]
   go_cut [42] (fun s42 W' => ∃ t, s42 = .bool t /\ Below w7.heap.size w7 W' /\ Hid ((t = true -> ¬ OkP ((L.take k).map (·.1)) x.1) /\ (t = false -> singleB x.1 = true /\ ∀ y, ((L.take k).map (·.1)).getLast? = some y -> y.asked < x.1.asked)))
   case first =>
    cases hsg : singleB x.1
    ·rw [hsg] at H58
     refine wp_region_quiet_below (by kernel_rfl) (by kernel_rfl) ?_
     repeat (first
      | ((with_reducible refine qk_load_agg (o := ⟨some 25, _, _, _, _, _⟩) rfl 52 _ rfl ⟨w5.heap.size, 0, none⟩ ?_ l _ HQ.out Tryz.underlying52 rfl HZ.out ?_); (· rfl); simp only [Act.put, z1, z2, z3])
      | go_big_quiet_step ((go_at_call 58; exact Calls.regrown_of (H58.out _ (HB7.out.trans ((below_regrown _ _ _).mono HB7.out.size))))))
     refine wpQuiet_nil ?_
     intro W3 hW3
     have hb3 := regrown_below hW3
     clear hW3
     go_wp2_with fail
     go_meet
     case rel => exact ⟨true, rfl, hb3, ⟨fun _ h => by (have := h.one; rw [hsg] at this; cases this), fun h => by (cases h)⟩⟩
    ·rw [hsg] at H58
     by_cases hk0 : k = 0
     ·subst hk0
      refine wp_region_quiet_below (by kernel_rfl) (by kernel_rfl) ?_
      repeat (first
       | ((with_reducible refine qk_load_agg (o := ⟨some 25, _, _, _, _, _⟩) rfl 52 _ rfl ⟨w5.heap.size, 0, none⟩ ?_ l _ HQ.out Tryz.underlying52 rfl HZ.out ?_); (· rfl); simp only [Act.put, z1, z2, z3])
       | go_big_quiet_step ((go_at_call 58; exact Calls.regrown_of (H58.out _ (HB7.out.trans ((below_regrown _ _ _).mono HB7.out.size))))))
      refine wpQuiet_nil ?_
      intro W3 hW3
      have hb3 := regrown_below hW3
      clear hW3
      go_wp2_with fail
      go_meet
      case rel => exact ⟨false, rfl, hb3, ⟨fun h => by (cases h), fun _ => ⟨hsg, fun y hy => by simp at hy⟩⟩⟩
     ·obtain ⟨m, rfl⟩ : ∃ m, k = m + 1 := ⟨k - 1, by omega⟩
      have hm1 : m < L.length := by rw [HN.out]; omega
      obtain ⟨b', off', he, _, hcm, _⟩ := (HA.out.below (HINV.out.below) (Nat.le_refl _)) m _ (List.getElem?_eq_getElem hm1)
      obtain ⟨rfl, rfl⟩ : b = b' /\ off = off' := by simpa using he
      clear he hk0
      obtain ⟨pa, hpa⟩ : ∃ y, L[m].1.asked = y := ⟨_, rfl⟩
      have c38 : w7.cell? ⟨b, off + m * 23 + 19, none⟩ = some (.int .i64 pa) := by
       rw [HB7.out.cell HBR.out, <- hpa]
       exact hcm 19 _ rfl
      have HLAST := kp (last_take hm1)
      have Q38 := kp (cell_kept Tryz.isAgg3 c38)
      have HPA := kp hpa
      have e1 : ((m : Int) + 1 - 1) = (m : Int) := by omega
      have e2 : IntKind.i64.wrap (m : Int) = (m : Int) := by rw [IntKind.wrap_i64]; omega
      have e4 : (m : Int) < (n : Int) := by omega
      have e5 : (0 : Int) < (m : Int) + 1 := by omega
      have e6 : decide ((0 : Int) < (m : Int) + 1) = true := decide_eq_true e5
      clear hpa hcm c38
      refine wp_region_quiet_below (by kernel_rfl) (by kernel_rfl) ?_
      repeat (first
       | ((with_reducible refine qk_load_agg (o := ⟨some 25, _, _, _, _, _⟩) rfl 52 _ rfl ⟨w5.heap.size, 0, none⟩ ?_ l _ HQ.out Tryz.underlying52 rfl HZ.out ?_); (· rfl); simp only [Act.put, z1, z2, z3])
       | ((with_reducible refine qk_load_cell (o := ⟨some 33, _, _, _, _, _⟩) 3 _ rfl ⟨w5.heap.size, 19, none⟩ ?_ (.int .i64 asked) Q19.out ?_ ?_); (· rfl); (· rfl); simp only [Act.put, z1, z2, z3])
       | ((with_reducible refine qk_load_cell (o := ⟨some 39, _, _, _, _, _⟩) 3 _ rfl ⟨b, off + m * 23 + 19, none⟩ ?_ (.int .i64 pa) Q38.out ?_ ?_); (· rfl); (· rfl); simp only [Act.put, z1, z2, z3])
       | go_big_quiet_step ((go_at_call 58; exact Calls.regrown_of (H58.out _ (HB7.out.trans ((below_regrown _ _ _).mono HB7.out.size))))))
      refine wpQuiet_nil ?_
      intro W3 hW3
      have hb3 := regrown_below hW3
      clear hW3
      go_wp2_with fail
      go_meet
      case rel => exact ⟨decide (asked <= pa), rfl, hb3, ⟨fun h hok => by (have h1 := hok.ask _ HLAST.out; rw [HASK.out, HPA.out] at h1; have := of_decide_eq_true h; omega), fun h => ⟨hsg, fun y hy => by (rw [HLAST.out] at hy; cases hy; rw [HASK.out, HPA.out]; have := of_decide_eq_false h; omega)⟩⟩⟩
   case rest =>
    obtain ⟨t, rfl, hb3, HP⟩ := hcut
    have HB3 := kp (HB7.out.trans (hb3.mono HB7.out.size))
    have HX3 := kp (HX7.out.of_block (hb3.block _ HX7.out.lt))
    clear hb3 HQ Q19 HX7 HB7
    cases t
    ·obtain ⟨hone, hask⟩ := HP.out.2 rfl
     have HONE := kp hone
     have HASKP := kp hask
     have c19 := HX3.out.cell HL19.out
     have c20 := HX3.out.cell HL20.out
     have c21 := HX3.out.cell HL21.out
     have hsm : MapAt (wc.alloc (.cells #[.int .i64 asked, .int .i64 done, .int .i64 told] 3)) (w.heap.size) (seenJV (L.take k) x.1 0) := by
      refine (HINV.out.seen.of_block ?_).congr fun k' => (seenJV_zero _ _ _).symm
      rw [(below1 wc _).block _ (by have := HB3.out.size; have := HINV.out.size; omega)]
      exact HB3.out.block _ (by have := HINV.out.size; omega)
     have hst : ∀ j, j < 3 -> (wc.alloc (.cells #[.int .i64 asked, .int .i64 done, .int .i64 told] 3)).cell? ⟨wc.heap.size, j, none⟩ = some (.int .i64 (stamp x.1 j)) := fun j hj => by
      have hr := RowL.new wc 3 [.int .i64 asked, .int .i64 done, .int .i64 told]
      refine hr.cell ?_
      rcases j with _ | _ | _ | j
      ·simp [stamp, HASK.out]
      ·simp [stamp, HDON.out]
      ·simp [stamp, HTLD.out]
      ·omega
     have HSM := kp hsm
     have HST := kp hst
     have HB4 := kp (HB3.out.trans ((below1 wc (.cells #[.int .i64 asked, .int .i64 done, .int .i64 told] 3)).mono HB3.out.size))
     have HX4 := kp (HX3.out.of_block ((below1 wc (.cells #[.int .i64 asked, .int .i64 done, .int .i64 told] 3)).block _ HX3.out.lt))
     have HSZ4 := kp (show (wc.alloc (.cells #[.int .i64 asked, .int .i64 done, .int .i64 told] 3)).heap.size = wc.heap.size + 1 from alloc_size1 _ _)
     have HWC := kp (show w5.heap.size + 1 <= wc.heap.size from HX3.out.lt)
     obtain ⟨W4, hW4⟩ : ∃ W, W = wc.alloc (.cells #[.int .i64 asked, .int .i64 done, .int .i64 told] 3) := ⟨_, rfl⟩
     rw [<- hW4] at HSM HST HB4 HX4 HSZ4
     have HW4 := kp hW4
     clear hone hask hsm hst hW4
     clear HP
     go_wp2_with fail
     rw [<- HW4.out]
     clear HW4 c19 c20 c21
     go_loopw [51] (fun s51 wr => ∃ j : Nat, j <= 3 /\ s51 = .int .i64 j /\ MapAt wr (w.heap.size) (seenJV (L.take k) x.1 j) /\ Kept [w.heap.size] W4 wr /\ Hid (∀ i, i < j -> 0 <= stamp x.1 i -> seenB (L.take k) (stamp x.1 i) = false)) (fun j _ => 3 - (intOf j).toNat)
     case atStart => exact ⟨0, by omega, by go_num, HSM.out, Kept.refl _ _, fun i hi => absurd hi (by omega)⟩
     case round =>
      obtain ⟨j, hj, rfl, hm, hkq, HD⟩ := hrel
      have HM := kp hm
      have HKQ := kp hkq
      clear hm hkq
      by_cases hj3 : j < 3
      ·have hg3 : decide ((j : Int) < 3) = true := decide_eq_true (by omega)
       have e1 : (j : Int) < 3 := by omega
       have q1 : wr.cell? ⟨wc.heap.size, j, none⟩ = some (.int .i64 (stamp x.1 j)) := by
        rw [<- HST.out j hj3]
        exact cell_of_block (HKQ.out.block _ (by have := HSZ4.out; omega) (by have := HWC.out; have := HINV.out.size; simp; omega))
       have hlk : (Instr.lookup 119 (.map (some (w.heap.size))) (.int .i64 (stamp x.1 j)) false).run Tryz.prog wr = .ok (.bool (seenJ (L.take k) x.1 j (stamp x.1 j))) wr := by
        rw [HM.out.run_lookup Tryz.underlying119 (by kernel_rfl) (.bool false) (Tryz.zeroValue4 wr)]
        unfold seenJV
        cases seenJ (L.take k) x.1 j (stamp x.1 j) <;> rfl
       have HNEW := kp (fun h0 => seenJ_new HONE.out (L.take k) hj3 h0)
       have HSJ := kp (seenJV_succ (L.take k) x.1 hj3)
       have HFR := kp (fun (hok : OkP ((L.take k).map (·.1)) x.1) h0 => hok.fresh j hj3 h0)
       obtain ⟨st, hst⟩ : ∃ y, stamp x.1 j = y := ⟨_, rfl⟩
       obtain ⟨sj, hsj⟩ : ∃ y, seenJ (L.take k) x.1 j (stamp x.1 j) = y := ⟨_, rfl⟩
       rw [hsj] at hlk HNEW
       rw [hst] at q1 hlk HNEW HSJ HFR
       have HSTJ := kp hst
       clear hsj hst
       have HUPD := kp (fun (w8 : World) (h : ∀ g, MapAt wr (w.heap.size) g -> MapAt w8 (w.heap.size) (fun k' => if k' = st then some (.bool true) else g k')) => (h _ HM.out).congr fun k' => (HSJ.out k').symm)
       have HBQ := kp (HINV.out.below.trans ((HB4.out.mono (by have := HINV.out.size; omega)).trans (HKQ.out.below (by have := HB4.out.size; have := HINV.out.size; omega) (fun b hb => by simp at hb; omega))))
       by_cases h0 : 0 <= st
       ·have g0 : decide (0 <= st) = true := decide_eq_true h0
        have HH0 := kp h0
        clear h0
        cases sj
        ·go_wp2_with ((with_reducible refine wpList_map_update (o := ⟨none, _, _, _, _, _⟩) rfl 119 3 4 _ _ _ rfl (w.heap.size) st (.bool true) ?_ ?_ ?_ _ HM.out ?_ ?_ ?_); (· rfl); (· rfl); (· rfl); (· exact Tryz.underlying119); (· kernel_rfl); intro w8 hk8 hm8; have HK8 := kp hk8; have HM8 := kp (HUPD.out w8 hm8); clear hk8 hm8)
         go_roundw
         case rel => exact ⟨j + 1, by omega, by go_num, HM8.out, HKQ.out.trans HK8.out, fun i hi h => by (by_cases e : i = j; (subst e; rw [HSTJ.out]; exact (HNEW.out HH0.out).symm); exact HD.out i (by omega) h)⟩
         case measure => simp [intOf]; omega
        ·have HNO := kp (fun hok => HFR.out hok HH0.out ((seenB_iff _ _).1 (HNEW.out HH0.out).symm))
         go_wp2_with fail
         go_ret
         exact .no rfl HSPL.out HNO.out HBQ.out
       ·have g0 : decide (0 <= st) = false := decide_eq_false h0
        have HH0 := kp h0
        clear h0
        go_wp2_with ((with_reducible refine wpList_map_update (o := ⟨none, _, _, _, _, _⟩) rfl 119 3 4 _ _ _ rfl (w.heap.size) st (.bool true) ?_ ?_ ?_ _ HM.out ?_ ?_ ?_); (· rfl); (· rfl); (· rfl); (· exact Tryz.underlying119); (· kernel_rfl); intro w8 hk8 hm8; have HK8 := kp hk8; have HM8 := kp (HUPD.out w8 hm8); clear hk8 hm8)
        go_roundw
        case rel => exact ⟨j + 1, by omega, by go_num, HM8.out, HKQ.out.trans HK8.out, fun i hi h => by (by_cases e : i = j; (subst e; rw [HSTJ.out] at h; exact absurd h HH0.out); exact HD.out i (by omega) h)⟩
        case measure => simp [intOf]; omega
      ·obtain rfl : j = 3 := by omega
       have HMS := kp (HM.out.congr (seenJV_three (L.take k) x))
       have HX5 := kp (HX4.out.of_block (HKQ.out.block _ HX4.out.lt (by have := HINV.out.size; simp; omega)))
       have HOKA := kp (show OkA ((L.take k).map (·.1)) x.1 from ⟨HONE.out, HASKP.out, fun j hj h0 hse => by
        (have h1 := HD.out j hj h0
         rw [(seenB_iff _ _).2 hse] at h1
         cases h1)⟩)
       have HB5 := kp (show Below w.heap.size w wr from HINV.out.below.trans ((HB4.out.mono (by have := HINV.out.size; omega)).trans (HKQ.out.below (by have := HB4.out.size; have := HINV.out.size; omega) (fun b hb => by simp at hb; omega))))
       have HSZ5 := kp (show w.heap.size < wr.heap.size by
        have s3 := HINV.out.size
        have s4 := HB4.out.size
        have s5 := HKQ.out.size
        omega)
       obtain ⟨w9, rfl⟩ : ∃ W, W = wr := ⟨_, rfl⟩
       clear HD HM HKQ HX4 HB4 HST
       go_wp2_with fail
       go_loopw [8, 9, 10] (fun s8 s9 s10 W => ∃ (k2 cnt : Nat) (tl : Int), k2 <= k /\ s10 = .int .i64 k2 /\ s8 = .int .i64 cnt /\ s9 = .int .i64 tl /\ cnt <= k2 /\ Hid (RIn ((L.take k2).map (·.1)) x.1 cnt tl) /\ Below w9.heap.size w9 W) (fun _ _ j _ => k - (intOf j).toNat)
       case atStart => exact ⟨0, 0, -1, Nat.zero_le _, by go_num, by go_num, rfl, Nat.le_refl _, kp (by simpa using RIn.nil x.1), Below.refl _ _⟩
       case round =>
        obtain ⟨k2, cnt, tl, hk2, rfl, rfl, rfl, hcnt, HR, hb9⟩ := hrel
        obtain ⟨w10, rfl⟩ : ∃ W, W = wr := ⟨_, rfl⟩
        have HXQ := kp (HX5.out.of_block (hb9.block _ HX5.out.lt))
        have HBW := kp (HB5.out.trans (hb9.mono (Nat.le_of_lt HSZ5.out)))
        have hwsz : w.heap.size < w10.heap.size := Nat.lt_of_lt_of_le HSZ5.out hb9.size
        have HB9 := kp hb9
        clear hb9
        by_cases hlt2 : k2 < k
        ·have hg4 : decide ((k2 : Int) < (k : Int)) = true := decide_eq_true (by omega)
         have hi1 : (k2 : Int) < (n : Int) := by omega
         have hk21 : k2 < L.length := by rw [HN.out]; omega
         obtain ⟨y, hy⟩ : ∃ y, L[k2] = y := ⟨_, rfl⟩
         have hyk := List.getElem?_eq_getElem hk21
         rw [hy] at hyk
         obtain ⟨b', off', he, _, hcy, _⟩ := (HA.out.below HBW.out (Nat.le_refl _)) k2 y hyk
         obtain ⟨rfl, rfl⟩ : b = b' /\ off = off' := by simpa using he
         clear he
         have HYM := kp (take_mem (k := k) hyk hlt2)
         have HYS := kp (take_snoc hyk)
         obtain ⟨ys, hys⟩ : ∃ v, y.1.ses = v := ⟨_, rfl⟩
         obtain ⟨yd, hyd⟩ : ∃ v, y.1.done = v := ⟨_, rfl⟩
         obtain ⟨yt, hyt⟩ : ∃ v, y.1.told = v := ⟨_, rfl⟩
         obtain ⟨ym, hym⟩ : ∃ v, y.1.tim = v := ⟨_, rfl⟩
         have HYs := kp hys
         have HYd := kp hyd
         have HYt := kp hyt
         have HYm := kp hym
         have HCY := kp hcy
         have hc1 : (cnt : Int) + 1 <= 9223372036854775807 := by omega
         have QX0 := kp (cell_kept Tryz.isAgg3 (HXQ.out.cell HL0.out))
         have QY0 := kp (cell_kept Tryz.isAgg3 (show w10.cell? ⟨b, off + k2 * 23, none⟩ = some (.int .i64 ys) by rw [<- hys]; exact hcy 0 _ rfl))
         clear hy hyk hcy hys hyd hyt hym
         cases hse : (ys == ses)
         all_goals
          go_wp2_with fail
          refine wp_region_quiet_below (by kernel_rfl) (by kernel_rfl) ?_
          repeat (first
           | ((with_reducible refine qk_load_cell (o := ⟨some 74, _, _, _, _, _⟩) 3 _ rfl ⟨b, off + k2 * 23, none⟩ ?_ (.int .i64 ys) QY0.out ?_ ?_); (· rfl); (· rfl); simp only [Act.put, z1, z2, z3])
           | ((with_reducible refine qk_load_cell (o := ⟨some 76, _, _, _, _, _⟩) 3 _ rfl ⟨w5.heap.size, 0, none⟩ ?_ (.int .i64 ses) QX0.out ?_ ?_); (· rfl); (· rfl); simp only [Act.put, z1, z2, z3])
           | go_big_quiet_step (fail))
          refine wpQuiet_nil ?_
          intro w11 hW3
          have hb11 := regrown_below hW3
          have HX11 := kp (HXQ.out.of_block (hb11.block _ HXQ.out.lt))
          have HC11 := kp (HCY.out.below (B := w10.heap.size) hb11 (Nat.lt_of_lt_of_le HBR.out (by have := HX5.out.lt; have := HB9.out.size; omega)))
          have HB11 := kp hb11
          clear hW3 hb11
          have QX20 := kp (cell_kept Tryz.isAgg3 (HX11.out.cell HL20.out))
          have QX22 := kp (cell_kept Tryz.isAgg34 (HX11.out.cell HL22.out))
          have QY20 := kp (cell_kept Tryz.isAgg3 (show w11.cell? ⟨b, off + k2 * 23 + 20, none⟩ = some (.int .i64 yd) by rw [<- HYd.out]; exact HC11.out 20 _ rfl))
          have QY22 := kp (cell_kept Tryz.isAgg34 (show w11.cell? ⟨b, off + k2 * 23 + 22, none⟩ = some (.int .u64 ym) by rw [<- HYm.out]; exact HC11.out 22 _ rfl))
         ·have HSN := kp (show y.1.ses ≠ x.1.ses by rw [HYs.out, HSES.out]; simpa using hse)
          go_upto_region 26 with (fail)
          try simp only [Act.put]
          go_cut [137] (fun s137 W' => ∃ t, s137 = .bool t /\ Below w11.heap.size w11 W' /\ Hid (t = false ↔ Pair x.1 y.1))
          case first =>
           cases qa : decide (0 <= done)
           rotate_left 1
           cases qb : decide (0 <= yd)
           rotate_left 1
           cases qc : decide (yd < done)
           cases qe : decide (done < yd)
           rotate_left 1
           cases qf : decide (ym < tim)
           rotate_left 1
           rotate_left 1
           cases qd : decide (tim < ym)
           have qe : decide (done < yd) = false := decide_eq_false (by have := of_decide_eq_true qc; omega)
           rotate_left 1
           rotate_left 1
           all_goals
            refine wp_region_quiet_below (by kernel_rfl) (by kernel_rfl) ?_
            repeat (first
             | ((with_reducible refine qk_load_cell (o := ⟨some 88, _, _, _, _, _⟩) 3 _ rfl ⟨w5.heap.size, 20, none⟩ ?_ (.int .i64 done) QX20.out ?_ ?_); (· rfl); (· rfl); simp only [Act.put, z1, z2, z3])
             | ((with_reducible refine qk_load_cell (o := ⟨some 100, _, _, _, _, _⟩) 3 _ rfl ⟨w5.heap.size, 20, none⟩ ?_ (.int .i64 done) QX20.out ?_ ?_); (· rfl); (· rfl); simp only [Act.put, z1, z2, z3])
             | ((with_reducible refine qk_load_cell (o := ⟨some 119, _, _, _, _, _⟩) 3 _ rfl ⟨w5.heap.size, 20, none⟩ ?_ (.int .i64 done) QX20.out ?_ ?_); (· rfl); (· rfl); simp only [Act.put, z1, z2, z3])
             | ((with_reducible refine qk_load_cell (o := ⟨some 95, _, _, _, _, _⟩) 3 _ rfl ⟨b, off + k2 * 23 + 20, none⟩ ?_ (.int .i64 yd) QY20.out ?_ ?_); (· rfl); (· rfl); simp only [Act.put, z1, z2, z3])
             | ((with_reducible refine qk_load_cell (o := ⟨some 105, _, _, _, _, _⟩) 3 _ rfl ⟨b, off + k2 * 23 + 20, none⟩ ?_ (.int .i64 yd) QY20.out ?_ ?_); (· rfl); (· rfl); simp only [Act.put, z1, z2, z3])
             | ((with_reducible refine qk_load_cell (o := ⟨some 124, _, _, _, _, _⟩) 3 _ rfl ⟨b, off + k2 * 23 + 20, none⟩ ?_ (.int .i64 yd) QY20.out ?_ ?_); (· rfl); (· rfl); simp only [Act.put, z1, z2, z3])
             | ((with_reducible refine qk_load_cell (o := ⟨some 109, _, _, _, _, _⟩) 34 _ rfl ⟨w5.heap.size, 22, none⟩ ?_ (.int .u64 tim) QX22.out ?_ ?_); (· rfl); (· rfl); simp only [Act.put, z1, z2, z3])
             | ((with_reducible refine qk_load_cell (o := ⟨some 128, _, _, _, _, _⟩) 34 _ rfl ⟨w5.heap.size, 22, none⟩ ?_ (.int .u64 tim) QX22.out ?_ ?_); (· rfl); (· rfl); simp only [Act.put, z1, z2, z3])
             | ((with_reducible refine qk_load_cell (o := ⟨some 114, _, _, _, _, _⟩) 34 _ rfl ⟨b, off + k2 * 23 + 22, none⟩ ?_ (.int .u64 ym) QY22.out ?_ ?_); (· rfl); (· rfl); simp only [Act.put, z1, z2, z3])
             | ((with_reducible refine qk_load_cell (o := ⟨some 133, _, _, _, _, _⟩) 34 _ rfl ⟨b, off + k2 * 23 + 22, none⟩ ?_ (.int .u64 ym) QY22.out ?_ ?_); (· rfl); (· rfl); simp only [Act.put, z1, z2, z3])
             | go_big_quiet_step (fail))
            refine wpQuiet_nil ?_
            intro w12 hW3
            have hb12 := regrown_below hW3
            clear hW3
            go_wp2_with fail
            go_meet
           iterate 4
            ·exact ⟨false, rfl, hb12, kp ⟨fun _ => pair_dec.2 (by rw [HDON.out, HTIM.out, HYd.out, HYm.out]; simp only [decide_eq_true_eq, decide_eq_false_iff_not] at *; omega), fun _ => rfl⟩⟩
           ·exact ⟨true, rfl, hb12, kp ⟨fun h => by (cases h), fun h => absurd (pair_dec.1 h) (by rw [HDON.out, HTIM.out, HYd.out, HYm.out]; simp only [decide_eq_true_eq, decide_eq_false_iff_not] at *; omega)⟩⟩
           ·exact ⟨false, rfl, hb12, kp ⟨fun _ => pair_dec.2 (by rw [HDON.out, HTIM.out, HYd.out, HYm.out]; simp only [decide_eq_true_eq, decide_eq_false_iff_not] at *; omega), fun _ => rfl⟩⟩
           ·exact ⟨true, rfl, hb12, kp ⟨fun h => by (cases h), fun h => absurd (pair_dec.1 h) (by rw [HDON.out, HTIM.out, HYd.out, HYm.out]; simp only [decide_eq_true_eq, decide_eq_false_iff_not] at *; omega)⟩⟩
          case rest =>
          obtain ⟨t, rfl, hb12, HPR⟩ := hcut
          have HB12 := kp (HB11.out.trans (hb12.mono HB11.out.size))
          clear hb12
          cases t
          ·have HPA := kp (HPR.out.1 rfl)
           go_wp2_with fail
           refine ⟨⟨_, .int .i64 (cnt : Int), .int .i64 tl, .int .i64 ((k2 : Int) + 1), ⟨k2 + 1, by omega, by simp, cnt, rfl, tl, rfl, by omega, kp (by have h := HR.out.snoc_ne HSN.out HPA.out; rw [<- List.map_take, HYS.out]; simpa only [List.map_take] using h), HB9.out.trans (HB12.out.mono HB9.out.size)⟩, rfl, rfl, rfl, rfl⟩, by simp [intOf]; omega⟩
          ·have HPA := kp (show ¬ Pair x.1 y.1 from fun h => by (have := HPR.out.2 h; cases this))
           go_wp2_with fail
           go_ret
           exact .no2 rfl HSPL.out (fun h => HPA.out (h.2 _ HYM.out)) (HBW.out.trans (HB12.out.mono (Nat.le_of_lt hwsz)))
         ·have HSE := kp (show y.1.ses = x.1.ses by rw [HYs.out, HSES.out]; simpa using hse)
          have y21 : w11.cell? ⟨b, off + k2 * 23 + 21, none⟩ = some (.int .i64 yt) := by rw [<- HYt.out]; exact HC11.out 21 _ rfl
          cases ht : decide (yt < 0)
          ·have HT := kp (show 0 <= y.1.told by rw [HYt.out]; have := of_decide_eq_false ht; omega)
           go_upto_region 26 with (fail)
           try simp only [Act.put]
           go_cut [137] (fun s137 W' => ∃ t, s137 = .bool t /\ Below w11.heap.size w11 W' /\ Hid (t = false ↔ Pair x.1 y.1))
           case first =>
            cases qa : decide (0 <= done)
            rotate_left 1
            cases qb : decide (0 <= yd)
            rotate_left 1
            cases qc : decide (yd < done)
            cases qe : decide (done < yd)
            rotate_left 1
            cases qf : decide (ym < tim)
            rotate_left 1
            rotate_left 1
            cases qd : decide (tim < ym)
            have qe : decide (done < yd) = false := decide_eq_false (by have := of_decide_eq_true qc; omega)
            rotate_left 1
            rotate_left 1
            all_goals
             refine wp_region_quiet_below (by kernel_rfl) (by kernel_rfl) ?_
             repeat (first
              | ((with_reducible refine qk_load_cell (o := ⟨some 88, _, _, _, _, _⟩) 3 _ rfl ⟨w5.heap.size, 20, none⟩ ?_ (.int .i64 done) QX20.out ?_ ?_); (· rfl); (· rfl); simp only [Act.put, z1, z2, z3])
              | ((with_reducible refine qk_load_cell (o := ⟨some 100, _, _, _, _, _⟩) 3 _ rfl ⟨w5.heap.size, 20, none⟩ ?_ (.int .i64 done) QX20.out ?_ ?_); (· rfl); (· rfl); simp only [Act.put, z1, z2, z3])
              | ((with_reducible refine qk_load_cell (o := ⟨some 119, _, _, _, _, _⟩) 3 _ rfl ⟨w5.heap.size, 20, none⟩ ?_ (.int .i64 done) QX20.out ?_ ?_); (· rfl); (· rfl); simp only [Act.put, z1, z2, z3])
              | ((with_reducible refine qk_load_cell (o := ⟨some 95, _, _, _, _, _⟩) 3 _ rfl ⟨b, off + k2 * 23 + 20, none⟩ ?_ (.int .i64 yd) QY20.out ?_ ?_); (· rfl); (· rfl); simp only [Act.put, z1, z2, z3])
              | ((with_reducible refine qk_load_cell (o := ⟨some 105, _, _, _, _, _⟩) 3 _ rfl ⟨b, off + k2 * 23 + 20, none⟩ ?_ (.int .i64 yd) QY20.out ?_ ?_); (· rfl); (· rfl); simp only [Act.put, z1, z2, z3])
              | ((with_reducible refine qk_load_cell (o := ⟨some 124, _, _, _, _, _⟩) 3 _ rfl ⟨b, off + k2 * 23 + 20, none⟩ ?_ (.int .i64 yd) QY20.out ?_ ?_); (· rfl); (· rfl); simp only [Act.put, z1, z2, z3])
              | ((with_reducible refine qk_load_cell (o := ⟨some 109, _, _, _, _, _⟩) 34 _ rfl ⟨w5.heap.size, 22, none⟩ ?_ (.int .u64 tim) QX22.out ?_ ?_); (· rfl); (· rfl); simp only [Act.put, z1, z2, z3])
              | ((with_reducible refine qk_load_cell (o := ⟨some 128, _, _, _, _, _⟩) 34 _ rfl ⟨w5.heap.size, 22, none⟩ ?_ (.int .u64 tim) QX22.out ?_ ?_); (· rfl); (· rfl); simp only [Act.put, z1, z2, z3])
              | ((with_reducible refine qk_load_cell (o := ⟨some 114, _, _, _, _, _⟩) 34 _ rfl ⟨b, off + k2 * 23 + 22, none⟩ ?_ (.int .u64 ym) QY22.out ?_ ?_); (· rfl); (· rfl); simp only [Act.put, z1, z2, z3])
              | ((with_reducible refine qk_load_cell (o := ⟨some 133, _, _, _, _, _⟩) 34 _ rfl ⟨b, off + k2 * 23 + 22, none⟩ ?_ (.int .u64 ym) QY22.out ?_ ?_); (· rfl); (· rfl); simp only [Act.put, z1, z2, z3])
              | go_big_quiet_step (fail))
             refine wpQuiet_nil ?_
             intro w12 hW3
             have hb12 := regrown_below hW3
             clear hW3
             go_wp2_with fail
             go_meet
            iterate 4
             ·exact ⟨false, rfl, hb12, kp ⟨fun _ => pair_dec.2 (by rw [HDON.out, HTIM.out, HYd.out, HYm.out]; simp only [decide_eq_true_eq, decide_eq_false_iff_not] at *; omega), fun _ => rfl⟩⟩
            ·exact ⟨true, rfl, hb12, kp ⟨fun h => by (cases h), fun h => absurd (pair_dec.1 h) (by rw [HDON.out, HTIM.out, HYd.out, HYm.out]; simp only [decide_eq_true_eq, decide_eq_false_iff_not] at *; omega)⟩⟩
            ·exact ⟨false, rfl, hb12, kp ⟨fun _ => pair_dec.2 (by rw [HDON.out, HTIM.out, HYd.out, HYm.out]; simp only [decide_eq_true_eq, decide_eq_false_iff_not] at *; omega), fun _ => rfl⟩⟩
            ·exact ⟨true, rfl, hb12, kp ⟨fun h => by (cases h), fun h => absurd (pair_dec.1 h) (by rw [HDON.out, HTIM.out, HYd.out, HYm.out]; simp only [decide_eq_true_eq, decide_eq_false_iff_not] at *; omega)⟩⟩
           case rest =>
           obtain ⟨t, rfl, hb12, HPR⟩ := hcut
           have HB12 := kp (HB11.out.trans (hb12.mono HB11.out.size))
           clear hb12
           cases t
           ·have HPA := kp (HPR.out.1 rfl)
            go_wp2_with fail
            refine ⟨⟨_, .int .i64 ((cnt : Int) + 1), .int .i64 yt, .int .i64 ((k2 : Int) + 1), ⟨k2 + 1, by omega, by simp, cnt + 1, by simp, yt, rfl, by omega, kp (by have h := HR.out.snoc_eq HSE.out HT.out HPA.out; rw [<- List.map_take, HYS.out]; rw [HYt.out] at h; simpa only [List.map_take] using h), HB9.out.trans (HB12.out.mono HB9.out.size)⟩, rfl, rfl, rfl, rfl⟩, by simp [intOf]; omega⟩
           ·have HPA := kp (show ¬ Pair x.1 y.1 from fun h => by (have := HPR.out.2 h; cases this))
            go_wp2_with fail
            go_ret
            exact .no2 rfl HSPL.out (fun h => HPA.out (h.2 _ HYM.out)) (HBW.out.trans (HB12.out.mono (Nat.le_of_lt hwsz)))
          ·have HT := kp (show ¬ 0 <= y.1.told by rw [HYt.out]; have := of_decide_eq_true ht; omega)
           go_wp2_with fail
           go_ret
           exact .no2 rfl HSPL.out (fun h => by have h1 := h.1.told _ HYM.out HSE.out; have h2 := HT.out; omega) (HBW.out.trans (HB11.out.mono (Nat.le_of_lt hwsz)))
        ·obtain rfl : k2 = k := by omega
         have hg4 : decide ((k2 : Int) < (k2 : Int)) = false := by simp
         have x1 := HXQ.out.cell HL1.out
         have x19 := HXQ.out.cell HL19.out
         cases hnn : (num != (cnt : Int))
         ·cases htt : decide (asked <= tl)
          ·have HC := kp (HOKA.out.okc HR.out (by rw [HNUM.out]; simpa using hnn) (by rw [HASK.out]; have := of_decide_eq_false htt; omega))
           have HTK := kp (take_snoc HXK.out)
           have HTK2 := kp (show L.take (k2 + 1) = L.take k2 ++ [x] by rw [List.take_add_one, HXK.out]; rfl)
           go_wp2_with fail
           refine ⟨⟨k2 + 1, by omega, by go_num, ⟨?_, HBW.out, hwsz⟩, ?_, ?_⟩, by simp [intOf]; omega⟩
           ·rw [HTK2.out]; exact HMS.out.of_block (HB9.out.block _ HMS.out.lt)
           ·rw [HTK.out]; exact HFIT.out.snoc HC.out
           ·rw [HTK.out]; exact HTMD.out.snoc HR.out.pair
          ·have HT := kp (of_decide_eq_true htt)
           go_wp2_with fail
           go_ret
           exact .no2 rfl HSPL.out (fun h => by have h1 := (HR.out.of_okc h.1).2; rw [HASK.out] at h1; have := HT.out; omega) HBW.out
         ·have HT := kp (show num ≠ (cnt : Int) by simpa using hnn)
          go_wp2_with fail
          go_ret
          exact .no2 rfl HSPL.out (fun h => by have h1 := (HR.out.of_okc h.1).1; rw [HNUM.out] at h1; exact HT.out h1) HBW.out
    ·have HNO := kp (HP.out.1 rfl)
     clear HP
     go_wp2_with fail
     go_ret
     exact .no rfl HSPL.out HNO.out (HINV.out.below.trans (HB3.out.mono (by have := HINV.out.size; omega)))
  ·obtain rfl : k = n := by omega
   have hg2 : decide ((k : Int) < (k : Int)) = false := by simp
   have hL : L.take k = L := List.take_of_length_le (by rw [HN.out]; exact Nat.le_refl _)
   have HE := kp (show ValidP singleB (L.map (·.1)) from ⟨by rw [List.length_map, HN.out]; exact hn4, by have := HFIT.out; rwa [hL] at this, by have := HTMD.out; rwa [hL] at this⟩)
   go_wp2_with fail
   go_ret
   exact ⟨true, rfl, ⟨fun _ => HE.out, fun _ => rfl⟩, HINV.out.below⟩
end Go.Proofs.YtnjhpgmbfblgaaaGreat.Ord
