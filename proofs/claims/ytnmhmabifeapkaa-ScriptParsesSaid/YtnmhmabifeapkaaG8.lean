/- Walks of the reference's Put, PutBytes and list. -/
import Derived.Test.YtnmhmabifeapkaaG5
import Derived.Test.YtnmhmabifeapkaaD5
namespace Go.Proofs.Ytnmhmabifeapkaa.Ord
open Go.RowKit
set_option linter.unusedVariables false

set_option maxRecDepth 100000 in
set_option maxHeartbeats 2000000 in
theorem put79 (n : Nat) (hn : n < 18446744073709551616) : ∀ w, Calls Try.prog 79 #[.int .u64 n] w fun e w' => ∃ v, e = .returned v ∧ Own8 w' w.heap.size v (putV n) ∧ Below w.heap.size w w' := by
  induction n using Nat.strongRecOn with
  | ind n ih =>
    intro w
    by_cases h : n < 128
    · have hg : decide ((n : Int) < 128) = true := by simp; omega
      have hw : (n : Int) % 256 = (n : Int) := by omega
      go_enter Try.func79, Try.ntmps79
      go_wp2_with fail
      go_ret
      rw [putV_small (by omega)]
      exact ⟨_, rfl, World.ownsRow_lit (base := w.heap.size) (e := 5) (size := 1) w #[.int .u8 n] 1 (Nat.le_refl _) (by unfold maxLen; omega) rfl, below1 w _⟩
    · have hg : decide ((n : Int) < 128) = false := by simp; omega
      have IH := Lib.hid (fun w => ih (n / 128) (by omega) (by omega) w)
      rw [putV_more (by omega)]
      have hw : (128 + (n : Int) % 128) % 256 = 128 + (n : Int) % 128 := by omega
      have hl := putV_len10 (n := n / 128) (by omega)
      clear ih
      go_enter Try.func79, Try.ntmps79
      go_wp2_with fail
      refine (IH.out _).mono ?_
      rintro e w2 ⟨v2, rfl, hv2, hb2⟩
      obtain ⟨A2, c2, rfl, hby2⟩ := hv2.val
      have hb02 : Below w.heap.size w w2 := (below1 w _).trans (hb2.mono (by simp))
      have hs2 := hb02.size
      have HO := Lib.hid ((Kept.of_below (L := []) hb2).own2 (World.ownsRow_lit (base := w.heap.size) (e := 5) (size := 1) w #[.int .u8 (128 + (n : Int) % 128)] 1 (Nat.le_refl _) (by unfold maxLen; omega) rfl) (by simp))
      have HS := Lib.hid hby2.src
      have HB := Lib.hid hb02
      obtain ⟨L, hL⟩ : ∃ L, (putV (n / 128)).length = L := ⟨_, rfl⟩
      have HL := Lib.hid hL
      rw [hL] at hl HS ⊢
      clear hL hv2 hby2 hb2 hb02
      go_wp2_with ((with_reducible refine wpList_append_src (o := ⟨some 16, _, _, _, _, _⟩) rfl _ _ 22 rfl w.heap.size 5 (.int .u8 0) 1 1 Try.underlying22 Try.info5 ?_ ?_ (.slice (some ⟨w.heap.size, 0, none⟩) 1 1) _ _ ?_ HO.out A2 L c2 ((putV (n / 128)).map (Value.int .u8)) ?_ ?_ HS.out (bytes_one _) ?_ ?_ ?_ ?_); (· rfl); (· decide); (· rfl); (· rfl); (· simp [HL.out]); (· unfold maxLen; omega); (· omega); (· omega); intro v3 w3 hown3 hg3 hb3; have HO3 := Lib.hid hown3; have HB3 := Lib.hid hb3; clear hown3 hg3 hb3)
      go_ret
      refine ⟨v3, rfl, ?_, HB.out.trans HB3.out⟩
      have := HO3.out
      rw [← HL.out] at this
      unfold Own8
      simpa [Nat.add_comm] using this

set_option maxRecDepth 100000 in
set_option maxHeartbeats 2000000 in
theorem putBytes110 (A : Option Addr) (n c : Nat) (xs : List Int) (w : World) (hn : xs.length = n) (hl : n ≤ 100000) (hA : Byt w w.heap.size A c xs) :
    Calls Try.prog 110 #[.slice A n c] w fun e w' => ∃ v, e = .returned v ∧ Own8 w' w.heap.size v (putV n ++ xs) ∧ Below w.heap.size w w' := by
  have IH := Lib.hid (put79 n (by omega) w)
  have HA := Lib.hid hA
  have HN := Lib.hid hn
  have hl2 := putV_len10 (n := n) (by omega)
  clear hA hn
  go_enter Try.func110, Try.ntmps110
  go_wp2_with fail
  refine IH.out.mono ?_
  rintro e w2 ⟨v2, rfl, hv2, hb2⟩
  have HO := Lib.hid hv2.raw
  have HS := Lib.hid ((HA.out.below hb2 (Nat.le_refl _)).mono hb2.size).src
  have hs2 := hb2.size
  have HB := Lib.hid hb2
  obtain ⟨L, hL⟩ : ∃ L, (putV n).length = L := ⟨_, rfl⟩
  rw [hL] at HO hl2
  rw [HN.out] at HS
  have HL := Lib.hid hL
  clear hv2 hb2 hL
  go_wp2_with ((with_reducible refine wpList_append_src (o := ⟨some 8, _, _, _, _, _⟩) rfl _ _ 22 rfl w.heap.size 5 (.int .u8 0) 1 1 Try.underlying22 Try.info5 ?_ ?_ v2 _ _ ?_ HO.out A n c (xs.map (Value.int .u8)) ?_ ?_ HS.out (bytes_one _) ?_ ?_ ?_ ?_); (· rfl); (· decide); (· rfl); (· rfl); (· simp [HN.out]); (· unfold maxLen; omega); (· omega); (· omega); intro v3 w3 hown3 hg3 hb3; have HO3 := Lib.hid hown3; have HB3 := Lib.hid hb3; clear hown3 hg3 hb3)
  go_ret
  refine ⟨v3, rfl, ?_, HB.out.trans HB3.out⟩
  have := HO3.out
  rw [← HL.out] at this
  exact Own8.app HN.out.symm this

set_option maxRecDepth 100000 in
set_option maxHeartbeats 2000000 in
theorem list111 (A : Option Addr) (n c : Nat) (xs : List ByteArray) (w : World) (hn : xs.length = n) (hl : n ≤ 100) (hs : ∀ s ∈ xs, s.size ≤ 1000) (hA : ElV Value.string w w.heap.size A xs) :
    Calls Try.prog 111 #[.slice A n c] w fun e w' => ∃ v, e = .returned v ∧ Own8 w' w.heap.size v (putLs xs) ∧ Below w.heap.size w w' := by
  have IH := Lib.hid (put79 n (by omega) w)
  have HA := Lib.hid hA
  have HN := Lib.hid hn
  have HS := Lib.hid hs
  have hl2 := putV_len10 (n := n) (by omega)
  clear hA hn hs
  go_enter Try.func111, Try.ntmps111
  go_wp2_with fail
  refine IH.out.mono ?_
  rintro e w2 ⟨v2, rfl, hv2, hb2⟩
  have HV2 := Lib.hid hv2
  have HB2 := Lib.hid hb2
  clear hv2 hb2
  go_wp2_with fail
  go_loopw [3, 4] (fun v j wr => ∃ i : Nat, i ≤ n ∧ j = .int .i64 i ∧ Own8 wr w.heap.size v (putV n ++ putStrs (xs.take i)) ∧ Below w.heap.size w wr) (fun _ j _ => n - (intOf j).toNat)
  case atStart => exact ⟨0, Nat.zero_le _, rfl, by simpa [putStrs] using HV2.out, HB2.out⟩
  case round =>
    obtain ⟨i, hi, rfl, hv, hb⟩ := hrel
    by_cases hlt : i < n
    · have hg : decide ((i : Int) < (n : Int)) = true := by simp; omega
      obtain ⟨s, hs⟩ : ∃ s, xs[i]? = some s := ⟨xs[i]'(by rw [HN.out]; exact hlt), List.getElem?_eq_getElem _⟩
      obtain ⟨b, off, rfl, hbB, hc⟩ := HA.out i s hs
      have hcr : wr.cell? ⟨b, off + i, none⟩ = some (.string s) := (hb.cell (p := ⟨b, off + i, none⟩) hbB).trans hc
      have hsz := HS.out s (List.mem_iff_getElem?.2 ⟨i, hs⟩)
      have HTK := Lib.hid (show xs.take (i + 1) = xs.take i ++ [s] by rw [List.take_add_one, hs]; rfl)
      have hol : (putV n ++ putStrs (xs.take i)).length ≤ 200000 := by
        have h4 := putStrs_len (l := xs.take i) fun s hs => HS.out s (List.mem_of_mem_take hs)
        have h6 : (xs.take i).length ≤ i := List.length_take_le _ _
        simp only [List.length_append]
        omega
      obtain ⟨c5, W5, hconv, hby5, hb5⟩ := conv_str wr s
      have hps := putS_len hsz
      have HP := Lib.hid (putBytes110 (some ⟨wr.heap.size, 0, none⟩) s.size c5 (sBytes s) W5 (sBytes_len s) (by omega) hby5)
      have HV := Lib.hid (show Own8 W5 w.heap.size u3 (putV n ++ putStrs (xs.take i)) from (Kept.of_below (L := []) hb5).own2 hv (by simp))
      have HB5 := Lib.hid (hb.trans (hb5.mono hb.size))
      obtain ⟨L, hL⟩ : ∃ L, (putV n ++ putStrs (xs.take i)).length = L := ⟨_, rfl⟩
      have HL := Lib.hid hL
      rw [hL] at hol
      clear hv hb hby5 hb5 hs hc hL
      go_wp2_with fail
      refine HP.out.mono ?_
      rintro e w6 ⟨v6, rfl, hv6, hb6⟩
      obtain ⟨A6, c6, rfl, hby6⟩ := hv6.val
      have HO := Lib.hid ((Kept.of_below (L := []) hb6).own2 HV.out.raw (by simp))
      have HS6 := Lib.hid hby6.src
      have hb06 := HB5.out.trans (hb6.mono HB5.out.size)
      have hs6 := hb06.size
      have HB6 := Lib.hid hb06
      change (putS s).length ≤ 1010 at hps
      change Hid (w6.ownsRow _ _ _ _ (putV n ++ putStrs (xs.take i)).length _) at HO
      rw [HL.out] at HO
      have hpe : putV s.size ++ sBytes s = putS s := rfl
      rw [hpe] at HS6 ⊢
      obtain ⟨M, hM⟩ : ∃ M, (putS s).length = M := ⟨_, rfl⟩
      have HM := Lib.hid hM
      rw [hM] at HS6 hps ⊢
      clear hv6 hby6 hb6 hb06 hM hpe
      go_wp2_with ((with_reducible refine wpList_append_src (o := ⟨some 22, _, _, _, _, _⟩) rfl _ _ 22 rfl w.heap.size 5 (.int .u8 0) 1 1 Try.underlying22 Try.info5 ?_ ?_ u3 _ _ ?_ HO.out A6 M c6 ((putS s).map (Value.int .u8)) ?_ ?_ HS6.out (bytes_one _) ?_ ?_ ?_ ?_); (· rfl); (· decide); (· rfl); (· rfl); (· simp [HM.out]); (· unfold maxLen; omega); (· omega); (· omega); intro v3 w3 hown3 hg3 hb3; have HO3 := Lib.hid hown3; have HB3 := Lib.hid hb3; clear hown3 hg3 hb3)
      go_roundw
      case rel =>
        refine ⟨i + 1, by omega, by go_num, ?_, HB6.out.trans HB3.out⟩
        have := HO3.out
        rw [← HL.out] at this
        rw [HTK.out, putStrs_snoc, ← List.append_assoc]
        exact Own8.app HM.out.symm this
      case measure => simp [intOf]; omega
    · obtain rfl : i = n := by omega
      have hg : decide ((i : Int) < (i : Int)) = false := by simp
      have HV := Lib.hid hv
      have HB := Lib.hid hb
      clear hv hb
      go_wp2_with fail
      go_ret
      refine ⟨_, rfl, ?_, HB.out⟩
      have := HV.out
      rw [List.take_of_length_le (by rw [HN.out]; omega)] at this
      unfold putLs
      rw [HN.out]
      exact this
end Go.Proofs.Ytnmhmabifeapkaa.Ord
