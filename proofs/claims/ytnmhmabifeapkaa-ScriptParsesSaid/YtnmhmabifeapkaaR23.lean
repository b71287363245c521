/- Walk of script.Write. -/
import Derived.Test.YtnmhmabifeapkaaR21
import Derived.Test.YtnmhmabifeapkaaR22
namespace Go.Proofs.Ytnmhmabifeapkaa.Ord
open Go.RowKit
set_option linter.unusedVariables false

def validR (r : StepR) : Bool := stepValid r.k r.c r.n r.d.length
def outStep (acc : List Int) (r : StepR) : List Int := if acc.length ≤ 4096 then acc ++ putL r else acc
def outL (rs : List StepR) : List Int := rs.foldl outStep []
theorem outL_snoc (rs : List StepR) (r : StepR) : outL (rs ++ [r]) = outStep (outL rs) r := by simp [outL]
theorem sAt_take {rs : List StepR} {k : Nat} (h : k < rs.length) : rs.take (k + 1) = rs.take k ++ [sAt rs k] := by
  rw [List.take_add_one, List.getElem?_eq_getElem h]
  simp [sAt, List.getD, h]
def writeRes (rs : List StepR) : List Int × Int :=
  if rs.all validR then if (outL rs).length ≤ 4096 then (outL rs, 0) else ([], 5) else ([], 2)
theorem writeRes_bad {rs : List StepR} {k : Nat} (hk : k < rs.length) (h : validR (sAt rs k) = false) : writeRes rs = ([], 2) := by
  unfold writeRes
  rw [if_neg]
  intro ha
  have := List.all_eq_true.1 ha (sAt rs k) (by simp [sAt, List.getD, hk])
  rw [h] at this; cases this
theorem writeRes_good {rs : List StepR} (h : ∀ i, i < rs.length → validR (sAt rs i) = true) : writeRes rs = if (outL rs).length ≤ 4096 then (outL rs, 0) else ([], 5) := by
  unfold writeRes
  rw [if_pos]
  rw [List.all_eq_true]
  intro r hr
  obtain ⟨i, hi, rfl⟩ := List.getElem_of_mem hr
  simpa [sAt, List.getD, hi] using h i hi

theorem valid_parts {k c n : Int} {L : Nat} (h : stepValid k c n L = true) : 0 ≤ c ∧ c < 16 ∧ 0 ≤ n ∧ n < 256 ∧ L < 256 := by
  unfold stepValid connOk numOk at h
  split at h <;> (try split at h) <;> (try split at h) <;> (try split at h) <;> (try split at h) <;> simp at h <;> omega
theorem putL_len {r : StepR} (h : r.d.length < 256) : (putL r).length ≤ 257 := by
  unfold putL
  repeat (split; · simp [-List.append_assoc]; try omega)
  simp
theorem outStep_len {acc : List Int} {r : StepR} (h : acc.length ≤ 5000) (hr : r.d.length < 256) : (outStep acc r).length ≤ 5000 := by
  unfold outStep
  split
  · have := putL_len hr
    rw [List.length_append]; omega
  · exact h

theorem lit_size (k c n : Int) (v : Value) : (Try.prog.info? 35).map (·.size) = some [Value.int .i64 k, .int .i64 c, .int .i64 n, v].length := stepL_size k c n v
theorem lit_sizeA (k c n : Int) (v : Value) : (Try.prog.info? 35).map (·.size) = some #[Value.int .i64 k, .int .i64 c, .int .i64 n, v].size := stepL_size k c n v
theorem lit_one (k c n : Int) (A : Option Addr) (l cap : Nat) : #[Value.int .i64 k, .int .i64 c, .int .i64 n, .slice A l cap].all (·.oneCell') = true := stepL_one k c n A l cap

set_option maxRecDepth 100000 in
set_option maxHeartbeats 2000000 in
theorem write18_any (A : Option Addr) (n c : Nat) (rs : List StepR) (w : World) (hn : rs.length = n) (hl : n ≤ 5000) (hA : Steps w w.heap.size A rs) :
    Calls Try.prog 18 #[.slice A n c] w fun e w' => ∃ v, e = .returned (.tuple #[v, .int .i64 (writeRes rs).2]) ∧ Own8 w' w.heap.size v (writeRes rs).1 ∧ Below w.heap.size w w' := by
  have HA := Lib.hid hA
  have HN := Lib.hid hn
  clear hA hn
  obtain ⟨res, hres⟩ : ∃ res, writeRes rs = res := ⟨_, rfl⟩
  rw [hres]
  have HR := Lib.hid hres
  clear hres
  go_enter Try.func18, Try.ntmps18
  go_wp2_with fail
  go_loopw [4, 9] (fun v j wr => ∃ k : Nat, k ≤ n ∧ j = .int .i64 k ∧ (∀ i, i < k → validR (sAt rs i) = true) ∧ (outL (rs.take k)).length ≤ 5000 ∧ Own8 wr w.heap.size v (outL (rs.take k)) ∧ Below w.heap.size w wr) (fun _ j _ => n - (intOf j).toNat)
  case atStart => exact ⟨0, Nat.zero_le _, rfl, fun i hi => absurd hi (by omega), by simp [outL], Own8.nil _ _, Below.refl _ _⟩
  case round =>
    obtain ⟨k, hk, rfl, hall, hol, hown, hb⟩ := hrel
    have HALL := Lib.hid hall
    have HO := Lib.hid hown
    clear hall hown
    by_cases hlt : k < n
    · obtain ⟨b, off, d, rfl, hbB, hck, hdk⟩ := (HA.out.below hb (Nat.le_refl _)).at (n := k) (by rw [HN.out]; exact hlt)
      have HK := Lib.hid hck
      obtain ⟨r, hr⟩ : ∃ r, sAt rs k = r := ⟨_, rfl⟩
      have HRk := Lib.hid hr
      rw [hr] at HK hdk
      clear hr hck
      obtain ⟨hd1, hd2, A2, c2, rfl, hby⟩ := hdk
      obtain ⟨rk, rc, rn, rd⟩ := r
      simp only [stepL] at HK hd1 hd2 hby
      obtain ⟨L, hL⟩ : ∃ L, rd.length = L := ⟨_, rfl⟩
      simp only [hL] at HK hd2 hby ⊢
      have HL := Lib.hid hL
      clear hL
      have HS := Lib.hid (valid15_any rk rc rn A2 L c2 (wr.alloc (.cells (stepL rk rc rn (.slice A2 L c2)).toArray 35)) (by omega))
      have HBY := Lib.hid hby
      clear hby hd1
      have HNEW := Lib.hid (show CellsAt (wr.alloc (.cells (stepL rk rc rn (.slice A2 L c2)).toArray 35)) ⟨wr.heap.size, 0, none⟩ (stepL rk rc rn (.slice A2 L c2)) from row_cells (row_list wr (stepL rk rc rn (.slice A2 L c2)) 35) _ rfl fun i hi => rfl)
      simp only [stepL] at HS HNEW
      go_wp2_with (first
        | ((with_reducible refine wpList_load_agg (o := ⟨some 12, _, _, _, _, _⟩) rfl 35 _ rfl ⟨b, off + k * 4, none⟩ ?_ [.int .i64 rk, .int .i64 rc, .int .i64 rn, .slice A2 L c2] _ HK.out Try.underlying35 rfl (lit_size _ _ _ _) ?_); (· rfl))
        | ((with_reducible refine wpList_store_new (o := ⟨none, _, _, _, _, _⟩) rfl 35 (.tmp 6) (.tmp 12) rfl _ #[.int .i64 rk, .int .i64 rc, .int .i64 rn, .slice A2 L c2] 35 wr.heap.size ?_ ?_ ?_ (lit_sizeA _ _ _ _) ?_ (lit_one _ _ _ _ _ _) ?_); (· rfl); (· rfl); (· rfl); (· rfl))
        | ((with_reducible refine wpList_load_agg (o := ⟨some 13, _, _, _, _, _⟩) rfl 35 _ rfl ⟨wr.heap.size, 0, none⟩ ?_ [.int .i64 rk, .int .i64 rc, .int .i64 rn, .slice A2 L c2] _ HNEW.out Try.underlying35 rfl (lit_size _ _ _ _) ?_); (· rfl)))
      refine HS.out.mono ?_
      rintro e w2 ⟨rfl, hb2⟩
      have hbw : Below w.heap.size w (wr.alloc (.cells #[.int .i64 rk, .int .i64 rc, .int .i64 rn, .slice A2 L c2] 35)) := hb.alloc hb.size _
      have hb3 : Below w.heap.size w w2 := hbw.trans (hb2.mono hbw.size)
      have HO2 := Lib.hid (show Own8 w2 w.heap.size u4 (outL (rs.take k)) from (Kept.of_below (L := []) hb2).own2 (World.ownsRow.alloc HO.out.raw _) (by simp))
      have HN2 := Lib.hid (HNEW.out.below hb2 (show wr.heap.size < _ by simp))
      have HBY2 := Lib.hid ((HBY.out.below (below1 wr (.cells #[.int .i64 rk, .int .i64 rc, .int .i64 rn, .slice A2 L c2] 35)) hb.size).below hb2 (by have := hbw.size; omega))
      clear hb2
      obtain ⟨bv, hbv⟩ : ∃ bv, stepValid rk rc rn L = bv := ⟨_, rfl⟩
      rw [hbv]
      have HV := Lib.hid hbv
      clear hbv
      have hvr := Lib.hid (show validR (sAt rs k) = bv by rw [HRk.out]; simp only [validR, HL.out]; exact HV.out)
      cases bv
      · go_wp2_with fail
        go_ret2
        have hres := HR.out
        rw [writeRes_bad (by rw [HN.out]; exact hlt) hvr.out] at hres
        subst hres
        exact ⟨_, rfl, Own8.nil _ _, hb3⟩
      · obtain ⟨v0, v1, v2, v3, v4⟩ := valid_parts HV.out
        obtain ⟨A4, c4, rfl, hby4⟩ := HO2.out.val
        have hsn := Lib.hid (show outL (rs.take (k + 1)) = outStep (outL (rs.take k)) ⟨rk, rc, rn, rd⟩ by rw [sAt_take (by rw [HN.out]; exact hlt), outL_snoc, HRk.out])
        have hall2 := Lib.hid (show ∀ i, i < k + 1 → validR (sAt rs i) = true from fun i hi => by
          by_cases e : i = k
          · rw [e]; exact hvr.out
          · exact HALL.out i (by omega))
        obtain ⟨xs, hxs⟩ : ∃ xs, outL (rs.take k) = xs := ⟨_, rfl⟩
        rw [hxs] at hsn HO2 hol hby4
        rw [hxs]
        clear HO hxs hby4
        obtain ⟨M, hM⟩ : ∃ M, xs.length = M := ⟨_, rfl⟩
        rw [hM] at HO2 hol ⊢
        have HM := Lib.hid hM
        clear hM
        by_cases hM2 : M ≤ 4096
        · have HP := Lib.hid (put40_any rk rc rn rd A2 L c2 w2 HL.out v0 v1 v2 v3 v4 (HBY2.out.mono hb3.size))
          simp only [stepL] at HP
          go_wp2_with ((with_reducible refine wpList_load_agg (o := ⟨some 20, _, _, _, _, _⟩) rfl 35 _ rfl ⟨wr.heap.size, 0, none⟩ ?_ [.int .i64 rk, .int .i64 rc, .int .i64 rn, .slice A2 L c2] _ HN2.out Try.underlying35 rfl (lit_size _ _ _ _) ?_); (· rfl))
          refine HP.out.mono ?_
          rintro e w3 ⟨v5, rfl, hown5, hb5⟩
          have hb6 : Below w.heap.size w w3 := hb3.trans (hb5.mono hb3.size)
          have HO3 := Lib.hid (show w3.ownsRow w.heap.size 5 1 (.slice A4 M c4) M (xs.map (Value.int .u8)) from by
            have := ((Kept.of_below (L := []) hb5).own2 HO2.out.raw (by simp))
            rw [HM.out] at this
            exact this)
          have hpl := putL_len (r := ⟨rk, rc, rn, rd⟩) (by rw [HL.out]; exact v4)
          have hst : outStep xs ⟨rk, rc, rn, rd⟩ = xs ++ putL ⟨rk, rc, rn, rd⟩ := by unfold outStep; rw [if_pos (by rw [HM.out]; exact hM2)]
          rw [hst] at hsn
          clear hst
          obtain ⟨ys, hys⟩ : ∃ ys, putL ⟨rk, rc, rn, rd⟩ = ys := ⟨_, rfl⟩
          rw [hys] at hsn hown5 hpl
          clear hys
          obtain ⟨A5, c5, rfl, hby5⟩ := hown5.val
          have hsrc := Lib.hid hby5.src
          obtain ⟨M2, hM3⟩ : ∃ M2, ys.length = M2 := ⟨_, rfl⟩
          rw [hM3] at hsrc hpl
          have HM2 := Lib.hid hM3
          rw [HM2.out]
          clear hM3 hby5 hown5
          go_wp2_with ((with_reducible refine wpList_append_src (o := ⟨some 22, _, _, _, _, _⟩) rfl _ _ 22 rfl w.heap.size 5 (.int .u8 0) 1 1 Try.underlying22 Try.info5 rfl (by decide) _ M (xs.map (Value.int .u8)) ?_ HO3.out A5 M2 c5 (ys.map (Value.int .u8)) ?_ ?_ hsrc.out (bytes_one _) ?_ ?_ hb6.size ?_); (· rfl); (· rfl); (· simp [HM2.out]); (· unfold maxLen; omega); (· omega); intro v6 w6 hown6 _ hb7)
          go_roundw
          case rel =>
            refine ⟨k + 1, by omega, by go_num, hall2.out, ?_, ?_, hb6.trans hb7⟩
            · rw [hsn.out, List.length_append, HM.out, HM2.out]; omega
            · rw [hsn.out]
              refine Own8.app HM2.out.symm ?_
              rw [HM.out]; exact hown6
          case measure => simp [intOf]; omega
        · have hst : outStep xs ⟨rk, rc, rn, rd⟩ = xs := by unfold outStep; rw [if_neg (by rw [HM.out]; exact hM2)]
          rw [hst] at hsn
          clear hst
          go_wp2_with fail
          go_roundw
          case rel =>
            refine ⟨k + 1, by omega, by go_num, hall2.out, ?_, ?_, hb3⟩
            · rw [hsn.out, HM.out]; exact hol
            · rw [hsn.out]; exact HO2.out
          case measure => simp [intOf]; omega
    · obtain rfl : k = n := by omega
      have hres := HR.out
      rw [writeRes_good (by rw [HN.out]; exact HALL.out)] at hres
      rw [List.take_of_length_le (by rw [HN.out]; exact Nat.le_refl _)] at HO hol
      have HRES := Lib.hid hres
      clear hres HA HR HALL
      obtain ⟨A4, c4, rfl, hby4⟩ := HO.out.val
      clear hby4
      obtain ⟨xs, hxs⟩ : ∃ xs, outL rs = xs := ⟨_, rfl⟩
      rw [hxs] at HO HRES hol
      rw [hxs]
      clear hxs
      obtain ⟨M, hM⟩ : ∃ M, xs.length = M := ⟨_, rfl⟩
      have HM := Lib.hid hM
      rw [hM] at HO hol HRES ⊢
      clear hM
      by_cases hM2 : M ≤ 4096
      · have hres := HRES.out
        rw [if_pos hM2] at hres
        subst hres
        go_wp2_with fail
        go_ret2
        exact ⟨_, rfl, HO.out, hb⟩
      · have hres := HRES.out
        rw [if_neg hM2] at hres
        subst hres
        go_wp2_with fail
        go_ret2
        exact ⟨_, rfl, Own8.nil _ _, hb⟩
end Go.Proofs.Ytnmhmabifeapkaa.Ord
