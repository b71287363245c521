/- Walk of the law HistoryOutputs. -/
import Derived.Test.YtnjhpgmbfblgaaaGreatQ0
import Derived.Test.YtnjhpgmbfblgaaaGreatO4
namespace Go.Proofs.YtnjhpgmbfblgaaaGreat.Ord
set_option maxRecDepth 100000
set_option maxHeartbeats 16000000
open Go.RowKit
set_option linter.unusedVariables false
set_option linter.unusedSimpArgs false
theorem OutsAt.up {w w' : World} {A : Option Addr} {R : List (List RespR)} (h : OutsAt w w.heap.size A R) (hb : Below w.heap.size w w') : OutsAt w' w'.heap.size A R := by
 intro j r hj
 obtain ⟨b, off, A', c', h1, h2, h3, h4⟩ := h.below hb (Nat.le_refl _) j r hj
 refine ⟨b, off, A', c', h1, Nat.lt_of_lt_of_le h2 hb.size, h3, fun i x hi => ?_⟩
 obtain ⟨b, off, vi, vn, k1, k2, k3, k4⟩ := h4 i x hi
 exact ⟨b, off, vi, vn, k1, Nat.lt_of_lt_of_le k2 hb.size, k3, k4.mono hb.size⟩

theorem law4 (L : List (CallR × CallV)) (A : Option Addr) (n c : Nat) (w : World) (hn : L.length = n) (hl : n <= maxLen) (hA : RowCO w w.heap.size A L) (hr : ∀ x ∈ L, Rng x.1) (hs : ∀ x ∈ L, CmdSz x.1.cmd /\ RespSz x.1.resp) :
  Calls Tryz.prog 4 #[.slice A n c] w (LawP w) := by
 have hn' : n <= 9223372036854775807 := by unfold maxLen at hl; omega
 have HL := kp (light20 L A n c w hn hl hA hs)
 have HV2 := kp (fun (hcs : ∀ x ∈ L, CallS x.1) W (hW : Below w.heap.size w W) => (valid22 L A n c W hn hl (row_up hA hW) hcs).mono fun e w' h => h.det)
 have H21 := kp (fun (hcs : ∀ x ∈ L, CallS x.1) (hsm : ∀ x ∈ L, Small x.1.cmd x.1.resp) W (hW : Below w.heap.size w W) => outputs21 L A n c W hn hl (row_up hA hW) hcs hsm)
 have H23 := kp (fun (h4 : n <= 4096) (hss : ∀ x ∈ L, 0 <= x.1.ses /\ x.1.ses < 4096) W (hW : Below w.heap.size w W) => outputs23 L A n c W hn h4 (row_up hA hW) hss)
 have HA := kp hA
 have HN := kp hn
 have HR := kp hr
 clear hA hn hr hs
 go_enter Tryz.func4, Tryz.ntmps4
 go_wp2_with fail
 refine HL.out.mono ?_
 rintro e w1 ⟨t, rfl, hlt, hb1⟩
 have HLT := kp hlt
 have HB1 := kp hb1
 clear hlt hb1
 cases t
 ·go_wp2_with fail
  refine (known15 w1).mono ?_
  rintro e w2 ⟨rfl, hb2⟩
  have HB2 := kp hb2
  clear hb2
  go_wp2_with fail
  go_ret
  exact ⟨rfl, HB1.out.trans (HB2.out.mono HB1.out.size)⟩
 have HLI := kp (HLT.out rfl).2
 have hn60 := (HLT.out rfl).1
 go_wp2_with fail
 go_loopw [3] (fun s3 wr => ∃ k : Nat, k <= n /\ s3 = .int .i64 k /\ wr = w1) (fun j _ => n - (intOf j).toNat)
 case atStart => exact ⟨0, Nat.zero_le _, by go_num, rfl⟩
 case round =>
  obtain ⟨k, hk, rfl, rfl⟩ := hrel
  by_cases hlt : k < n
  ·have hg2 : decide ((k : Int) < (n : Int)) = true := decide_eq_true (by omega)
   have hi1 : (k : Int) < (n : Int) := by omega
   have hk1 : k < L.length := by rw [HN.out]; exact hlt
   obtain ⟨x, hx⟩ : ∃ x, L[k] = x := ⟨_, rfl⟩
   have hxk := List.getElem?_eq_getElem hk1
   rw [hx] at hxk
   obtain ⟨b, off, rfl, hbB, hck, hok⟩ := (row_up HA.out HB1.out) k x hxk
   have q0 : wr.cell? ⟨b, off + k * 23, none⟩ = some (.int .i64 x.1.ses) := hck 0 _ rfl
   obtain ⟨ses, hses⟩ : ∃ v, x.1.ses = v := ⟨_, rfl⟩
   rw [hses] at q0
   clear hx hxk hck hok hbB hses
   by_cases hbig : 1000 < ses
   ·have hg3 : decide (1000 < ses) = true := decide_eq_true hbig
    go_wp2_with fail
    refine (known15 wr).mono ?_
    rintro e w2 ⟨rfl, hb2⟩
    have HB2 := kp hb2
    clear hb2
    go_wp2_with fail
    go_ret
    exact ⟨rfl, HB1.out.trans (HB2.out.mono HB1.out.size)⟩
   ·have hg3 : decide (1000 < ses) = false := decide_eq_false hbig
    go_wp2_with fail
    go_roundw
    case rel => exact ⟨k + 1, by omega, by go_num, trivial⟩
    case measure => simp [intOf]; omega
  ·have hg2 : decide ((k : Int) < (n : Int)) = false := decide_eq_false (by omega)
   clear hlt
   clear hk
   generalize (k : Int) = kk at *
   obtain ⟨w1, rfl⟩ : ∃ W, W = wr := ⟨_, rfl⟩
   have hcs : ∀ x ∈ L, CallS x.1 := fun x hx => callS_of (HLI.out x hx) (HR.out x hx)
   have hsm : ∀ x ∈ L, Small x.1.cmd x.1.resp := fun x hx => (HLI.out x hx).small
   have H21b := kp (H21.out hcs hsm w1 HB1.out)
   have HV2b := kp (HV2.out hcs)
   clear hcs hsm
   go_wp2_with fail
   refine H21b.out.mono ?_
   rintro e w2 ⟨hb2, hp⟩
   have HB2 := kp (HB1.out.trans (hb2.mono HB1.out.size))
   clear hb2
   rcases hp with ⟨hnv, rfl⟩ | ⟨hv, A3, c3, rfl, hout⟩
   ·have hvf : vb L = false := by unfold vb; simp [hnv]
    rw [hvf] at HV2b
    clear hnv hvf
    go_wp2_with fail
    refine (HV2b.out w2 HB2.out).mono ?_
    rintro e w3 ⟨rfl, hb3⟩
    have HB3 := kp (HB2.out.trans (hb3.mono HB2.out.size))
    clear hb3
    go_wp2_with fail
    refine (known15 _).mono ?_
    rintro e w4 ⟨rfl, hb4⟩
    have HB4 := kp (HB3.out.trans (hb4.mono HB3.out.size))
    clear hb4
    go_wp2_with fail
    go_ret
    exact ⟨rfl, HB4.out⟩
   ·have hvt : vb L = true := by unfold vb; simp [hv]
    rw [hvt] at HV2b
    have hss : ∀ x ∈ L, 0 <= x.1.ses /\ x.1.ses < 4096 := fun x hx => ses_range (fit_single hv.2.1 (List.mem_map_of_mem (f := fun y : CallR × CallV => y.1) hx))
    have h4 : n <= 4096 := by omega
    have H23b := kp (show ∀ W, Below w.heap.size w W -> Calls Tryz.prog 23 #[.slice A n c] W (fun e w' => ∃ A' c', e = .returned (.slice A' (outsOf (L.map (·.1))).length c') /\ OutsAt w' w'.heap.size A' (outsOf (L.map (·.1))) /\ Below W.heap.size W w') from H23.out h4 hss)
    have HO := kp hout
    have HOL := kp (show (outsOf (L.map (·.1))).length <= 4096 from by
     rw [outsOf_eq, outsN_len]
     refine nSes_le fun x hx => ?_
     obtain ⟨y, hy, rfl⟩ := List.mem_map.1 hx
     exact (hss y hy).2)
    have HRL := kp (show ∀ r ∈ outsOf (L.map (·.1)), r.length <= 60 from fun r hr => by
     obtain ⟨j, _, rfl⟩ := List.mem_map.1 hr
     have := toldOf_len (L.map (·.1)) j
     rw [List.length_map, HN.out] at this
     omega)
    clear hv hvt hss h4 hout
    generalize outsOf (L.map (·.1)) = R at *
    obtain ⟨m, hm⟩ : ∃ m, R.length = m := ⟨_, rfl⟩
    have HM := kp hm
    have hm4 : m <= 4096 := by rw [<- hm]; exact HOL.out
    rw [hm]
    clear hm
    go_wp2_with fail
    refine (HV2b.out w2 HB2.out).mono ?_
    rintro e w3 ⟨rfl, hb3⟩
    have HB3 := kp (HB2.out.trans (hb3.mono HB2.out.size))
    have HB23 := kp hb3
    clear hb3
    go_wp2_with fail
    refine (H23b.out w3 HB3.out).mono ?_
    rintro e w4 ⟨A5, c5, rfl, hout5, hb4⟩
    have HO5 := kp hout5
    have HO4 := kp ((HO.out.up HB23.out).up hb4)
    have HB4 := kp (HB3.out.trans (hb4.mono HB3.out.size))
    rw [HM.out]
    clear hout5 hb4 HO HB23 H21b HV2b H23b HL HV2 H21 H23
    have K15 := kp (fun W => known15 W)
    go_wp2_with fail
    go_loopw [7] (fun s7 wr => ∃ j : Nat, j <= m /\ s7 = .int .i64 j /\ Below w4.heap.size w4 wr) (fun j _ => m - (intOf j).toNat)
    case atStart => exact ⟨0, Nat.zero_le _, by go_num, Below.refl _ _⟩
    case round =>
     obtain ⟨j, hj, rfl, hb⟩ := hrel
     have HB := kp hb
     clear hb
     by_cases hlt : j < m
     ·have hg4 : decide ((j : Int) < (m : Int)) = true := decide_eq_true (by omega)
      have hj1 : (j : Int) < (m : Int) := by omega
      have hj2 : j < R.length := by rw [HM.out]; exact hlt
      obtain ⟨r, hr⟩ : ∃ r, R[j] = r := ⟨_, rfl⟩
      have hrj := List.getElem?_eq_getElem hj2
      rw [hr] at hrj
      obtain ⟨rl, hrl⟩ : ∃ rl, r.length = rl := ⟨_, rfl⟩
      have HRLN := kp hrl
      have hrl60 : rl <= 60 := by rw [<- hrl]; exact HRL.out r (List.mem_of_getElem? hrj)
      obtain ⟨b, off, A6, c6, rfl, hbB, hc6, hr6⟩ := HO4.out j r hrj
      obtain ⟨b', off', A7, c7, rfl, hbB', hc7, hr7⟩ := HO5.out j r hrj
      rw [hrl] at hc6 hc7
      have HC6 := kp (fun W (hW : Below w4.heap.size w4 W) => cell_kept Tryz.isAgg57 ((hW.cell (p := ⟨b, off + j, none⟩) hbB).trans hc6))
      have HC7 := kp (fun W (hW : Below w4.heap.size w4 W) => cell_kept Tryz.isAgg57 ((hW.cell (p := ⟨b', off' + j, none⟩) hbB').trans hc7))
      have HD6 := kp (fun W (hW : Below w4.heap.size w4 W) => (hW.cell (p := ⟨b, off + j, none⟩) hbB).trans hc6)
      have HR6 := kp hr6
      have HR7 := kp hr7
      clear hr hrj hrl hc6 hc7 hr6 hr7 hbB hbB'
      obtain ⟨w5, rfl⟩ : ∃ W, W = wr := ⟨_, rfl⟩
      have Q6 := kp (HC6.out w5 HB.out)
      have Q7 := kp (HC7.out w5 HB.out)
      go_upto_region 17 with (fail)
      refine wp_region_quiet_below (by kernel_rfl) (by kernel_rfl) ?_
      repeat (first
       | ((with_reducible refine qk_load_cell (o := ⟨some 64, _, _, _, _, _⟩) 57 _ rfl ⟨b, off + j, none⟩ ?_ (.slice A6 rl c6) Q6.out ?_ ?_); (· rfl); (· rfl); simp only [Act.put, z1, z2, z3])
       | ((with_reducible refine qk_load_cell (o := ⟨some 69, _, _, _, _, _⟩) 57 _ rfl ⟨b', off' + j, none⟩ ?_ (.slice A7 rl c7) Q7.out ?_ ?_); (· rfl); (· rfl); simp only [Act.put, z1, z2, z3])
       | go_big_quiet_step (fail))
      refine wpQuiet_nil ?_
      intro w6 hW6
      have HB6 := kp (HB.out.trans ((regrown_below hW6).mono HB.out.size))
      clear hW6
      go_wp2_with fail
      go_loopw [8] (fun s8 wr => ∃ i : Nat, i <= rl /\ s8 = .int .i64 i /\ Below w4.heap.size w4 wr) (fun i _ => rl - (intOf i).toNat)
      case atStart => exact ⟨0, Nat.zero_le _, by go_num, HB6.out⟩
      case round =>
       obtain ⟨i, hi, rfl, hb⟩ := hrel
       have HBi := kp hb
       clear hb
       obtain ⟨w7, rfl⟩ : ∃ W, W = wr := ⟨_, rfl⟩
       have P6 := kp (HC6.out w7 HBi.out)
       have P7 := kp (HC7.out w7 HBi.out)
       have q6 : w7.cell? ⟨b, off + j, none⟩ = some (.slice A6 rl c6) := HD6.out w7 HBi.out
       by_cases hlt2 : i < rl
       ·have hg5 : decide ((i : Int) < (rl : Int)) = true := decide_eq_true (by omega)
        have hi1 : (i : Int) < (rl : Int) := by omega
        have hi2 : i < r.length := by rw [HRLN.out]; exact hlt2
        obtain ⟨x, hx⟩ : ∃ x, r[i] = x := ⟨_, rfl⟩
        have hxi := List.getElem?_eq_getElem hi2
        rw [hx] at hxi
        obtain ⟨b2, off2, vi, vn, rfl, hb2, hx2, ho2⟩ := (HR6.out.below HBi.out (Nat.le_refl _)) i x hxi
        obtain ⟨b3, off3, vi', vn', rfl, hb3, hx3, ho3⟩ := (HR7.out.below HBi.out (Nat.le_refl _)) i x hxi
        have H24 := kp (fun (W : World) (hW : Below w7.heap.size w7 W) => resp45 x x vi vn vi' vn' W (((ho2.mono HBi.out.size).below hW (Nat.le_refl _)).mono hW.size) (((ho3.mono HBi.out.size).below hW (Nat.le_refl _)).mono hW.size))
        rw [respEq_self] at H24
        have S1 := kp (show (Tryz.prog.info? 40).map (·.size) = some (respC x vi vn).length from resp_sizeL _ _ _ _ _ _)
        have S2 := kp (show (Tryz.prog.info? 40).map (·.size) = some (respC x vi' vn').length from resp_sizeL _ _ _ _ _ _)
        have K1 := kp hx2.regrown
        have K2 := kp hx3.regrown
        clear hx hxi hx2 hx3 ho2 ho3 hb2 hb3
        generalize respC x vi vn = l1 at *
        generalize respC x vi' vn' = l2 at *
        go_upto_region 22 with (fail)
        refine wp_region_quiet_below (by kernel_rfl) (by kernel_rfl) ?_
        repeat (first
         | ((with_reducible refine qk_load_cell (o := ⟨some 84, _, _, _, _, _⟩) 57 _ rfl ⟨b, off + j, none⟩ ?_ (.slice (some ⟨b2, off2, none⟩) rl c6) P6.out ?_ ?_); (· rfl); (· rfl); simp only [Act.put, z1, z2, z3])
         | ((with_reducible refine qk_load_cell (o := ⟨some 91, _, _, _, _, _⟩) 57 _ rfl ⟨b', off' + j, none⟩ ?_ (.slice (some ⟨b3, off3, none⟩) rl c7) P7.out ?_ ?_); (· rfl); (· rfl); simp only [Act.put, z1, z2, z3])
         | ((with_reducible refine qk_load_agg_want (o := ⟨some 87, _, _, _, _, _⟩) 40 _ rfl ⟨b2, off2 + i * 6, none⟩ ?_ l1 _ K1.out Tryz.underlying40 rfl S1.out ?_ ?_); (· rfl); (· rfl); simp only [Act.put, z1, z2, z3])
         | ((with_reducible refine qk_load_agg_want (o := ⟨some 94, _, _, _, _, _⟩) 40 _ rfl ⟨b3, off3 + i * 6, none⟩ ?_ l2 _ K2.out Tryz.underlying40 rfl S2.out ?_ ?_); (· rfl); (· rfl); simp only [Act.put, z1, z2, z3])
         | go_big_quiet_step ((first | (go_at_call 24; exact Calls.regrown_of (H24.out _ (below_regrown _ _ _))))))
        refine wpQuiet_nil ?_
        intro w8 hW8
        have HB8 := kp (HBi.out.trans ((regrown_below hW8).mono HBi.out.size))
        clear hW8
        go_wp2_with fail
        go_roundw
        case rel => exact ⟨i + 1, by omega, by go_num, HB8.out⟩
        case measure => simp [intOf]; omega
       ·have hg5 : decide ((i : Int) < (rl : Int)) = false := decide_eq_false (by omega)
        go_wp2_with fail
        go_roundw
        case rel => exact ⟨j + 1, by omega, by go_num, HBi.out⟩
        case measure => simp [intOf]; omega
     ·have hg4 : decide ((j : Int) < (m : Int)) = false := decide_eq_false (by omega)
      go_wp2_with fail
      refine (K15.out wr).mono ?_
      rintro e w9 ⟨rfl, hb9⟩
      have HB9 := kp hb9
      clear hb9
      go_wp2_with fail
      go_ret
      exact ⟨rfl, HB4.out.trans ((HB.out.trans (HB9.out.mono HB.out.size)).mono HB4.out.size)⟩
end Go.Proofs.YtnjhpgmbfblgaaaGreat.Ord
