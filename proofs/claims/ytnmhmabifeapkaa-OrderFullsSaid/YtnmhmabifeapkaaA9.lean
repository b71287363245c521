/- Walk of order.Consistent. -/
import Derived.Test.YtnmhmabifeapkaaA8
import Derived.Test.YtnmhmabifeapkaaB5
namespace Go.Proofs.Ytnmhmabifeapkaa.Ord
open Go.RowKit
open Go.Sort (grow)
set_option linter.unusedVariables false

theorem ints_unique : ∀ {xs ys : List Int}, xs.Perm ys → xs.Pairwise (fun x y => x ≤ y) → ys.Pairwise (fun x y => x < y) → xs = ys
  | [], ys, hp, _, _ => by simpa using hp
  | x :: xs, [], hp, _, _ => by simp at hp
  | x :: xs, y :: ys, hp, h1, h2 => by
    rw [List.pairwise_cons] at h1 h2
    have e : x = y := by
      rcases List.mem_cons.1 (hp.mem_iff.1 (List.mem_cons_self (a := x))) with e | hm
      · exact e
      · have h3 := h2.1 x hm
        rcases List.mem_cons.1 (hp.mem_iff.2 (List.mem_cons_self (a := y))) with e | hm2
        · exact e.symm
        · have := h1.1 y hm2
          omega
    subst e
    rw [ints_unique (List.Perm.cons_inv hp) h1.2 h2.2]

theorem sortI_sorted (xs : List Int) : (sortI xs).Pairwise fun x y => x ≤ y := by
  have h := List.pairwise_mergeSort (le := fun x y : Int => decide (x ≤ y)) (fun a b c h1 h2 => by simp at *; omega) (fun a b => by simp; omega) xs
  exact h.imp fun h => by simpa using h
theorem doneL_sorted (l : List CallC) : (doneL l).Pairwise fun x y => x < y := by
  unfold doneL doneK
  exact List.Pairwise.map _ (fun (a b : Nat) (h : a < b) => Int.ofNat_lt.2 h) (List.pairwise_lt_range.filter _)
theorem isOrd_iff (l : List CallC) (xs : List Int) : isOrd l xs = decide (sortI xs = doneL l) := by
  unfold isOrd
  refine decide_eq_decide.2 ⟨fun h => ints_unique ((List.mergeSort_perm _ _).trans h) (sortI_sorted xs) (doneL_sorted l), fun h => ?_⟩
  rw [← h]
  exact (List.mergeSort_perm _ _).symm

/-- slices.Equal over two rows of the call's own -/
theorem equal_own {w : World} {b1 b2 : Nat} {v1 v2 : Value} {xs ys : List Int} (h1 : w.ownsRow b1 3 1 v1 xs.length (xs.map (Value.int .i64))) (h2 : w.ownsRow b2 3 1 v2 ys.length (ys.map (Value.int .i64))) (hl1 : xs.length ≤ 100000) (hl2 : ys.length ≤ 100000) :
    Calls Try.prog 56 #[v1, v2] w fun e w' => e = .returned (.bool (decide (xs = ys))) ∧ Below w.heap.size w w' := by
  obtain ⟨A1, c1, rfl⟩ := owns_len h1
  obtain ⟨A2, c2, rfl⟩ := owns_len h2
  by_cases he : xs.length = ys.length
  · rcases Nat.eq_zero_or_pos xs.length with h0 | h0
    · obtain rfl : xs = [] := List.eq_nil_of_length_eq_zero h0
      obtain rfl : ys = [] := List.eq_nil_of_length_eq_zero (he ▸ h0)
      refine (Try.slices_Equal_int_empty A1 A2 c1 0 c2 w (by omega)).mono ?_
      rintro e w' ⟨rfl, rfl⟩
      exact ⟨by simp, Below.refl _ _⟩
    · obtain ⟨g1, _, e1, _⟩ := (owns_shape h1 (by decide)).resolve_left (fun h => by omega)
      obtain ⟨g2, _, e2, _⟩ := (owns_shape h2 (by decide)).resolve_left (fun h => by omega)
      cases e1; cases e2
      have k1 : ∀ j, j < xs.length → w.cell? ⟨g1, 0 + j, none⟩ = some (.int .i64 (xs.getD j 0)) := fun j hj => by
        rw [Nat.zero_add, h1.cellAt j (by omega)]; simp [hj, List.getD]
      have k2 : ∀ j, j < ys.length → w.cell? ⟨g2, 0 + j, none⟩ = some (.int .i64 (ys.getD j 0)) := fun j hj => by
        rw [Nat.zero_add, h2.cellAt j (by omega)]; simp [hj, List.getD]
      refine (Try.slices_Equal_int g1 0 xs.length c1 g2 0 ys.length c2 xs ys w (Nat.le_refl _) (Nat.le_refl _) (by omega) (by omega) k1 k2).mono ?_
      rintro e w' ⟨rfl, q, rfl⟩
      refine ⟨ret_bool ?_, ⟨rfl, rfl, rfl, Nat.le_refl _, fun _ _ => rfl⟩⟩
      rw [List.take_length, List.take_length, Bool.eq_iff_iff]
      simp
  · refine (Try.slices_Equal_int_lens A1 A2 _ c1 _ c2 w he).mono ?_
    rintro e w' ⟨rfl, rfl⟩
    refine ⟨ret_bool ?_, Below.refl _ _⟩
    rw [eq_comm, decide_eq_false_iff_not]
    rintro rfl
    exact he rfl

theorem cons_long (A X : Option Addr) (n m cap capx : Nat) (w : World) (hl : 4096 < n) (hn : n ≤ 5000) :
    Calls Try.prog 35 #[.slice A n cap, .slice X m capx] w fun e w' => e = .returned (.tuple #[.bool false, .int .i64 5]) ∧ Below w.heap.size w w' := by
  go_enter Try.func35, Try.ntmps35
  go_wp2_with fail
  go_ret2
  exact ⟨rfl, Below.refl _ _⟩

def ConsPost (l : List CallC) (xs : List Int) (w : World) (e : Ending) (w' : World) : Prop :=
  e = .returned (if isOrd l xs then .tuple #[.bool (consB l xs), .int .i64 0] else .tuple #[.bool false, .int .i64 2]) ∧ Below w.heap.size w w'
theorem consPost_no {l : List CallC} {xs : List Int} {w w' : World} (h : isOrd l xs = false) (hb : Below w.heap.size w w') : ConsPost l xs w (.returned (.tuple #[.bool false, .int .i64 2])) w' := ⟨by rw [h]; rfl, hb⟩
theorem consPost_yes {l : List CallC} {xs : List Int} {w w' : World} {b : Bool} (h : isOrd l xs = true) (hc : consB l xs = b) (hb : Below w.heap.size w w') : ConsPost l xs w (.returned (.tuple #[.bool b, .int .i64 0])) w' := ⟨by rw [h, hc]; rfl, hb⟩

set_option maxRecDepth 100000 in
set_option maxHeartbeats 2000000 in
theorem cons_any (A X : Option Addr) (l : List CallC) (xs : List Int) (cap capx : Nat) (w : World) (hcx : xs.length ≤ capx) (hl : l.length ≤ 4096) (hx : xs.length ≤ 5000) (hA : CallsAt w w.heap.size A l) (hX : IntsAt w w.heap.size X xs) :
    Calls Try.prog 35 #[.slice A l.length cap, .slice X xs.length capx] w fun e w' => ConsPost l xs w e w' := by
  have hbw := below1 w (.cells #[.slice X xs.length capx] 56)
  have hsz : (w.alloc (.cells #[.slice X xs.length capx] 56)).heap.size = w.heap.size + 1 := by simp
  have hS := Lib.hid (sorted_any w.heap.size (.slice X xs.length capx) xs (by omega) (w.alloc (.cells #[.slice X xs.length capx] 56)) (by simp) (World.cell?_alloc_new w _ _ _)
    (ints_of_at ((hX.below hbw (Nat.le_refl _)).mono (by simp))))
  have hD := Lib.hid (fun W => fun (hb : Below w.heap.size w W) => done_any A l cap W (by omega) ((hA.below hb (Nat.le_refl _)).mono hb.size))
  have HI := Lib.hid (isOrd_iff l xs)
  have hlen1 := sortI_len xs
  have hlen2 := doneN_len l
  have hlen3 : (doneL l).length ≤ l.length := by rw [doneL_eq, List.length_map]; exact hlen2
  have HL1 := Lib.hid hlen1
  have HL3 := Lib.hid hlen3
  have HBW := Lib.hid hbw
  have HSZ := Lib.hid hsz
  clear hlen1 hlen2 hlen3 hbw hsz
  generalize hN : l.length = N at *
  have HN := Lib.hid hN
  generalize hM : xs.length = M at *
  have HM := Lib.hid hM
  clear hN hM
  go_enter Try.func35, Try.ntmps35
  go_wp2_with (go_at_call 55; refine (values_any X M capx w).mono ?_; rintro e w' ⟨rfl, rfl⟩)
  refine hS.out.mono ?_
  rintro e w1 ⟨v1, rfl, hown1, hb1⟩
  have hb01 : Below w.heap.size w w1 := HBW.out.trans (hb1.mono (by rw [HSZ.out]; omega))
  go_wp2_with fail
  refine (hD.out w1 hb01).mono ?_
  rintro e w2 ⟨v2, rfl, hown2, hb2⟩
  have hown1' := owns_below hown1 hb2
  have hE := Lib.hid (equal_own (by rw [HL1.out]; exact hown1') hown2 (by rw [HL1.out]; omega) (by have := HL3.out; omega))
  have hb02 : Below w.heap.size w w2 := hb01.trans (hb2.mono hb01.size)
  clear hown1 hown1' hown2 hb1 hb2 hb01
  go_wp2_with fail
  refine hE.out.mono ?_
  rintro e w3 ⟨rfl, hb3⟩
  have hb03 : Below w.heap.size w w3 := hb02.trans (hb3.mono hb02.size)
  rw [← HI.out]
  clear hb02 hb3
  cases ho : isOrd l xs with
  | false =>
    have HO := Lib.hid ho
    clear ho
    go_wp2_with fail
    go_ret2
    exact consPost_no HO.out hb03
  | true =>
    have HO := Lib.hid ho
    clear ho
    have hg : decide ((4096 : Int) < (N : Int)) = false := by simp; omega
    go_wp2_with fail
    go_loopw [24] (fun j wr => ∃ k : Nat, k ≤ M ∧ j = .int .i64 k ∧ consK l xs k ∧ Below w.heap.size w wr) (fun j _ => M - (intOf j).toNat)
    case atStart => exact ⟨0, Nat.zero_le _, rfl, consK_zero _ _, hb03⟩
    case round =>
      obtain ⟨k, hk, rfl, hcK, hb⟩ := hrel
      have HC := Lib.hid hcK
      clear hcK
      by_cases hlt : k < M
      · obtain ⟨nk, hnk, hnk1, hnk2⟩ := isOrd_at HO.out (j := k) (by rw [HM.out]; omega)
        obtain ⟨bx, ox, rfl, hbX, hxk⟩ := (hX.below hb (Nat.le_refl _)) k (by rw [HM.out]; omega)
        have ck := hxk _ hnk
        have K1 := Lib.hid hnk2
        rw [HN.out] at hnk1
        clear hxk hnk hnk2
        go_wp2_with fail
        go_loopw [33] (fun j wr2 => ∃ m : Nat, m ≤ k ∧ j = .int .i64 m ∧ consI l xs k m ∧ Below w.heap.size w wr2) (fun j _ => k - (intOf j).toNat)
        case atStart => exact ⟨0, Nat.zero_le _, rfl, consI_zero _ _ _, hb⟩
        case round =>
          obtain ⟨m, hm, rfl, hcI, hb'⟩ := hrel
          have HI2 := Lib.hid hcI
          clear hcI
          by_cases hlt2 : m < k
          · obtain ⟨nm, hnm, hnm1, hnm2⟩ := isOrd_at HO.out (j := m) (by rw [HM.out]; omega)
            obtain ⟨b, off, rfl, hbB, hck⟩ := callsAt_at (hA.below hb' (Nat.le_refl _)) (n := nk) (by rw [HN.out]; exact hnk1)
            obtain ⟨_, _, e1, _, hcm⟩ := callsAt_at (hA.below hb' (Nat.le_refl _)) hnm1
            cases e1
            obtain ⟨_, _, e2, _, hxm⟩ := (hX.below hb' (Nat.le_refl _)) m (by rw [HM.out]; omega)
            cases e2
            have cm := hxm _ hnm
            have Hk := Lib.hid hck.regrown
            have Hm := Lib.hid hcm.regrown
            have K2 := Lib.hid hnm2
            rw [HN.out] at hnm1
            clear hck hcm hxm hnm hnm2
            go_wp2_with fail
            refine wp_region_quiet_below (by kernel_rfl) (by kernel_rfl) ?_
            repeat (first
              | ((with_reducible refine qk_load_agg (o := ⟨some 40, _, _, _, _, _⟩) rfl 64 _ rfl ⟨b, off + nk * 23, none⟩ ?_ (at_ l nk).cells _ Hk.out Try.underlying64 rfl (callSize _) ?_); (· rfl); simp only [Act.put, List.setIfInBounds_toArray, List.set_cons_succ, List.set_cons_zero])
              | ((with_reducible refine qk_load_agg (o := ⟨some 44, _, _, _, _, _⟩) rfl 64 _ rfl ⟨b, off + nm * 23, none⟩ ?_ (at_ l nm).cells _ Hm.out Try.underlying64 rfl (callSize _) ?_); (· rfl); simp only [Act.put, List.setIfInBounds_toArray, List.set_cons_succ, List.set_cons_zero])
              | go_big_quiet_step ((go_at_call 28; exact Calls.regrown_of (before_any (at_ l nk) (at_ l nm) _))))
            refine wpQuiet_nil ?_
            intro W3 hW3
            have hb3 := hb'.trans ((regrown_below hW3).mono hb'.size)
            obtain ⟨bv, hbv⟩ : ∃ bv, before (at_ l nk) (at_ l nm) = bv := ⟨_, rfl⟩
            rw [hbv]
            rw [← K1.out, ← K2.out] at hbv
            have HV := Lib.hid hbv
            clear hbv hW3 cm
            cases bv
            · go_wp2
              go_roundw
              case rel => exact ⟨m + 1, by omega, by go_num, consI_succ HI2.out HV.out, hb3⟩
              case measure => simp [intOf]; omega
            · go_wp2
              go_ret2
              exact consPost_yes HO.out (consB_no (by rw [HM.out]; exact hlt) hlt2 HV.out) hb3
          · obtain rfl : m = k := by omega
            go_wp2
            go_roundw
            case rel => exact ⟨m + 1, by omega, by go_num, consK_succ HC.out HI2.out, hb'⟩
            case measure => simp [intOf]; omega
      · obtain rfl : k = M := by omega
        go_wp2
        go_ret2
        exact consPost_yes HO.out (consB_yes (by rw [HM.out]; exact HC.out)) hb
end Go.Proofs.Ytnmhmabifeapkaa.Ord
