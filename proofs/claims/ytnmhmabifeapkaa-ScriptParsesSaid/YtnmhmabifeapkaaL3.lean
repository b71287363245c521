/- The law ScriptParses is proved: whatever the arguments, it returns true, and they read as they did. No conditions. -/
import Derived.Test.YtnmhmabifeapkaaG16
import Derived.Test.YtnmhmabifeapkaaR27
import Derived.Test.YtnmhmabifeapkaaW3
namespace Go.Proofs.Ytnmhmabifeapkaa.Ord
open Go.ChangeShapes Go.WideShapes Go.ChangeAt Go.RowKit Go.Deep
set_option linter.unusedVariables false

set_option maxRecDepth 100000 in
theorem parse_empty (A : Option Addr) (c : Nat) (w : World) :
    Calls Try.prog 11 #[.slice A 0 c] w fun e w' => e = .returned (.tuple #[.slice none 0 0, .int .i64 0]) ∧ Below w.heap.size w w' := by
  go_enter Try.func11, Try.ntmps11
  go_wp2_with fail
  go_loopw [4, 5] (fun v q wr => v = .slice none 0 0 ∧ q = .pointer (some ⟨w.heap.size, 0, none⟩) ∧ wr = w.alloc (.cells #[.slice A 0 c] 81)) (fun _ _ _ => 0)
  case atStart => exact ⟨rfl, rfl, rfl⟩
  case round =>
    obtain ⟨rfl, rfl, rfl⟩ := hrel
    go_wp2_with fail
    go_ret2
    exact ⟨rfl, below1 w _⟩
theorem parse_all (A : Option Addr) (k c : Nat) (xs : List Int) (w : World) (hk : xs.length = k) (hx : ∀ y ∈ xs, 0 ≤ y ∧ y < 256) (hl : k ≤ 4096) (hA : Byt w w.heap.size A c xs) :
    Calls Try.prog 11 #[.slice A k c] w fun e w' => ∃ v ps, e = .returned (.tuple #[v, .int .i64 0]) ∧ ps.map (·.1) = stepsOf xs ∧ OwnSteps w' w.heap.size v ps ∧ Below w.heap.size w w' := by
  by_cases h0 : xs = []
  · subst h0
    simp only [List.length_nil] at hk
    subst hk
    exact (parse_empty A c w).mono fun e w' ⟨h1, h2⟩ => ⟨_, [], h1, rfl, ⟨World.ownsRow_nil _ _ _ _, fun p hp => by cases hp⟩, h2⟩
  · obtain ⟨b, off, hb, hlt, _⟩ := hA.at (i := 0) (List.length_pos_iff.2 h0)
    exact parse_any A k c xs _ w hk hx hl hA (fun b' off' h => by rw [hb] at h; cases h; exact hlt) (parseOk_all xs hx)
set_option maxRecDepth 100000 in
theorem parse_long (A : Option Addr) (k c : Nat) (hl : 4096 < k) (w : World) :
    Calls Try.prog 11 #[.slice A k c] w fun e w' => e = .returned (.tuple #[.slice none 0 0, .int .i64 5]) ∧ w' = w := by
  have hg : decide ((4096 : Int) < (k : Int)) = true := by simp; omega
  go_enter Try.func11, Try.ntmps11
  go_wp2_with fail
  go_ret2
  exact ⟨rfl, rfl⟩

theorem stepsOf_bytD : ∀ (n : Nat) (xs : List Int), xs.length ≤ n → (∀ y ∈ xs, 0 ≤ y ∧ y < 256) → ∀ r ∈ stepsOf xs, (∀ y ∈ r.d, 0 ≤ y ∧ y < 256) ∧ r.d.length ≤ 10000
  | n, [], _, _, r, hr => by simp [stepsOf, stepsF] at hr
  | 0, x :: xs, h, _, _, _ => by simp at h
  | n + 1, x :: xs, h, hx, r, hr => by
    have hp := stepN_pos (x :: xs)
    rw [stepsOf_cons _ (by simp)] at hr
    rcases List.mem_cons.1 hr with rfl | hr
    · exact stepOf_bytD hx
    · exact stepsOf_bytD n _ (by rw [List.length_drop]; simp only [List.length_cons] at h ⊢; omega) (fun y hy => hx y (List.mem_of_mem_drop hy)) r hr
theorem stepsOf_len (xs : List Int) : (stepsOf xs).length ≤ xs.length := stepsF_len _ _

/-- from the two parses on -/
theorem both_same {w w1 w2 : World} {v1 v2 : Value} {ps1 ps2 : List (StepR × Value)} {xs : List Int} (hx : ∀ y ∈ xs, 0 ≤ y ∧ y < 256) (hl : xs.length ≤ 4096) (h1 : ps1.map (·.1) = stepsOf xs) (h2 : ps2.map (·.1) = stepsOf xs) (o1 : OwnSteps w1 w.heap.size v1 ps1) (hb : Below w1.heap.size w1 w2) (o2 : OwnSteps w2 w1.heap.size v2 ps2) :
    ∃ A1 c1 A2 c2 n, v1 = .slice A1 n c1 ∧ v2 = .slice A2 n c2 ∧ Calls Try.prog 12 #[.slice A1 n c1, .slice A2 n c2] w2 fun e w' => e = .returned (.bool true) ∧ Below w2.heap.size w2 w' := by
  have hd := stepsOf_bytD xs.length xs (Nat.le_refl _) hx
  have hsl := stepsOf_len xs
  obtain ⟨A1, c1, rfl, hc1, hs1⟩ := Steps.of_own o1 (fun p hp => hd _ (by rw [← h1]; exact List.mem_map_of_mem hp))
  obtain ⟨A2, c2, rfl, hc2, hs2⟩ := Steps.of_own o2 (fun p hp => hd _ (by rw [← h2]; exact List.mem_map_of_mem hp))
  have e1 : ps1.length = (stepsOf xs).length := by rw [← h1, List.length_map]
  have e2 : ps2.length = (stepsOf xs).length := by rw [← h2, List.length_map]
  rw [h1] at hs1
  rw [h2] at hs2
  rw [e1] at hc1
  rw [e2] at hc2
  have := same_any A1 A2 (stepsOf xs).length (stepsOf xs).length c1 c2 _ _ w2 rfl rfl (by omega) (by omega) hc1 hc2 ((hs1.below hb (Nat.le_refl _)).mono hb.size) hs2
  rw [stepsEq_refl] at this
  exact ⟨A1, c1, A2, c2, (stepsOf xs).length, by rw [e1], by rw [e2], this⟩

set_option maxRecDepth 100000 in
theorem law3_long (A : Option Addr) (n c : Nat) (hn : 400 < n) (m : Int) (hm : m < 4094 ∨ 4098 < m) (w : World) :
    Calls Try.prog 3 #[.slice A n c, .int .i64 m] w fun e w' => e = .returned (.bool true) ∧ Below w.heap.size w w' := by
  have hg : decide ((400 : Int) < (n : Int)) = true := by simp; omega
  by_cases h1 : 4094 ≤ m
  · have g1 : decide ((4094 : Int) ≤ m) = true := by simp; omega
    have g2 : decide (m ≤ (4098 : Int)) = false := by simp; omega
    go_enter Try.func3, Try.ntmps3
    go_wp2_with fail
    refine (known30_any _).mono ?_
    rintro e w2 ⟨rfl, hb⟩
    go_wp2_with fail
    go_ret
    exact ⟨rfl, hb⟩
  · have g1 : decide ((4094 : Int) ≤ m) = false := by simp; omega
    go_enter Try.func3, Try.ntmps3
    go_wp2_with fail
    refine (known30_any _).mono ?_
    rintro e w2 ⟨rfl, hb⟩
    go_wp2_with fail
    go_ret
    exact ⟨rfl, hb⟩
set_option maxRecDepth 100000 in
set_option maxHeartbeats 2000000 in
theorem law3_short (A : Option Addr) (n c : Nat) (xs : List Int) (hk : xs.length = n) (hn : n ≤ 400) (hx : ∀ y ∈ xs, 0 ≤ y ∧ y < 256) (m : Int) (hm : m < 4094 ∨ 4098 < m) (w : World) (hA : Byt w w.heap.size A c xs) :
    Calls Try.prog 3 #[.slice A n c, .int .i64 m] w fun e w' => e = .returned (.bool true) ∧ Below w.heap.size w w' := by
  have hg : decide ((400 : Int) < (n : Int)) = false := by simp; omega
  have hg2 : decide ((4096 : Int) < (n : Int)) = false := by simp; omega
  have HP := Lib.hid (parse_all A n c xs w hk hx (by omega) hA)
  have HA := Lib.hid hA
  have HX := Lib.hid hx
  have HK := Lib.hid hk
  clear hA hx hk
  by_cases h1 : 4094 ≤ m
  · have g1 : decide ((4094 : Int) ≤ m) = true := by simp; omega
    have g2 : decide (m ≤ (4098 : Int)) = false := by simp; omega
    go_enter Try.func3, Try.ntmps3
    go_wp2_with fail
    refine HP.out.mono ?_
    rintro e w1 ⟨v1, ps1, rfl, h1, o1, hb1⟩
    have H1 := Lib.hid h1
    have O1 := Lib.hid o1
    have HB1 := Lib.hid hb1
    have HQ := Lib.hid (parse13_any A n c xs w1 HK.out (by omega) HX.out ((HA.out.below hb1 (Nat.le_refl _)).mono hb1.size))
    clear h1 o1 hb1
    go_wp2_with fail
    refine HQ.out.mono ?_
    rintro e w2 ⟨v2, ps2, rfl, h2, o2, hb2⟩
    obtain ⟨A1, c1, A2, c2, l, rfl, rfl, hs⟩ := both_same (w := w) HX.out (by rw [HK.out]; omega) H1.out h2 O1.out hb2 o2
    have HS := Lib.hid hs
    have HB2 := Lib.hid (HB1.out.trans (hb2.mono HB1.out.size))
    clear h2 o2 hb2 hs
    go_wp2_with fail
    refine HS.out.mono ?_
    rintro e w3 ⟨rfl, hb3⟩
    have HB3 := Lib.hid (HB2.out.trans (hb3.mono HB2.out.size))
    clear hb3
    go_wp2_with fail
    refine (known30_any _).mono ?_
    rintro e w4 ⟨rfl, hb4⟩
    go_wp2_with fail
    go_ret
    exact ⟨rfl, HB3.out.trans (hb4.mono HB3.out.size)⟩
  · have g1 : decide ((4094 : Int) ≤ m) = false := by simp; omega
    go_enter Try.func3, Try.ntmps3
    go_wp2_with fail
    refine HP.out.mono ?_
    rintro e w1 ⟨v1, ps1, rfl, h1, o1, hb1⟩
    have H1 := Lib.hid h1
    have O1 := Lib.hid o1
    have HB1 := Lib.hid hb1
    have HQ := Lib.hid (parse13_any A n c xs w1 HK.out (by omega) HX.out ((HA.out.below hb1 (Nat.le_refl _)).mono hb1.size))
    clear h1 o1 hb1
    go_wp2_with fail
    refine HQ.out.mono ?_
    rintro e w2 ⟨v2, ps2, rfl, h2, o2, hb2⟩
    obtain ⟨A1, c1, A2, c2, l, rfl, rfl, hs⟩ := both_same (w := w) HX.out (by rw [HK.out]; omega) H1.out h2 O1.out hb2 o2
    have HS := Lib.hid hs
    have HB2 := Lib.hid (HB1.out.trans (hb2.mono HB1.out.size))
    clear h2 o2 hb2 hs
    go_wp2_with fail
    refine HS.out.mono ?_
    rintro e w3 ⟨rfl, hb3⟩
    have HB3 := Lib.hid (HB2.out.trans (hb3.mono HB2.out.size))
    clear hb3
    go_wp2_with fail
    refine (known30_any _).mono ?_
    rintro e w4 ⟨rfl, hb4⟩
    go_wp2_with fail
    go_ret
    exact ⟨rfl, HB3.out.trans (hb4.mono HB3.out.size)⟩
/-- bytes that are 0 -/
theorem zero_byt (w : World) (m : Nat) : Byt (w.alloc (.cells (madeCells #[.int .u8 0] m) 5)) (w.alloc (.cells (madeCells #[.int .u8 0] m) 5)).heap.size (some ⟨w.heap.size, 0, none⟩) m (List.replicate m 0) := by
  have hG := World.rowIs_made w (.int .u8 0) m 5
  refine ⟨by simp, by simp, fun i hi => ⟨w.heap.size, 0, rfl, by simp, fun x hx => ?_⟩⟩
  simp at hi
  rw [List.getElem?_replicate, if_pos hi] at hx
  cases hx
  rw [Nat.zero_add, World.rowIs.cell hG hi]
set_option maxRecDepth 100000 in
set_option maxHeartbeats 2000000 in
theorem law3_many (A : Option Addr) (n c : Nat) (m : Nat) (h1 : 4094 ≤ m) (h2 : m ≤ 4098) (w : World) :
    Calls Try.prog 3 #[.slice A n c, .int .i64 m] w fun e w' => e = .returned (.bool true) ∧ Below w.heap.size w w' := by
  have g1 : decide ((4094 : Int) ≤ (m : Int)) = true := by simp; omega
  have g2 : decide ((m : Int) ≤ (4098 : Int)) = true := by simp; omega
  have hmk : (Instr.makeSlice 22 (.int .i64 (m : Int)) (.int .i64 (m : Int))).run Try.prog w = .ok (.slice (some ⟨w.heap.size, 0, none⟩) m m) (w.alloc (.cells (madeCells #[.int .u8 0] m) 5)) := run_make_row' 22 5 (.int .u8 0) 1 Try.underlying22 Try.info5 rfl .i64 .i64 m (by omega) (by omega) w
  have hA := zero_byt w m
  have hb0 := below1 w (.cells (madeCells #[.int .u8 0] m) 5)
  obtain ⟨W, hW⟩ : ∃ W, w.alloc (.cells (madeCells #[.int .u8 0] m) 5) = W := ⟨_, rfl⟩
  rw [hW] at hmk hA hb0
  clear hW
  have HA := Lib.hid hA
  have HB0 := Lib.hid hb0
  have HX := Lib.hid (show ∀ y ∈ List.replicate m (0 : Int), 0 ≤ y ∧ y < 256 from fun y hy => by rw [(List.mem_replicate.1 hy).2]; omega)
  have HK := Lib.hid (show (List.replicate m (0 : Int)).length = m from List.length_replicate)
  clear hA hb0
  by_cases h4 : 4096 < m
  · have hg : decide ((4096 : Int) < (m : Int)) = true := by simp; omega
    go_enter Try.func3, Try.ntmps3
    go_wp2_with fail
    refine (parse_long _ m m h4 W).mono ?_
    rintro e w1 ⟨rfl, rfl⟩
    go_wp2_with fail
    refine (known30_any _).mono ?_
    rintro e w4 ⟨rfl, hb4⟩
    go_wp2_with fail
    go_ret
    exact ⟨rfl, HB0.out.trans (hb4.mono HB0.out.size)⟩
  · have hg : decide ((4096 : Int) < (m : Int)) = false := by simp; omega
    have HP := Lib.hid (parse_all _ m m _ W HK.out HX.out (by omega) HA.out)
    go_enter Try.func3, Try.ntmps3
    go_wp2_with fail
    refine HP.out.mono ?_
    rintro e w1 ⟨v1, ps1, rfl, h1, o1, hb1⟩
    have H1 := Lib.hid h1
    have O1 := Lib.hid o1
    have HB1 := Lib.hid hb1
    have HQ := Lib.hid (parse13_any _ m m _ w1 HK.out (by omega) HX.out ((HA.out.below hb1 (Nat.le_refl _)).mono hb1.size))
    clear h1 o1 hb1
    go_wp2_with fail
    refine HQ.out.mono ?_
    rintro e w2 ⟨v2, ps2, rfl, h2, o2, hb2⟩
    obtain ⟨A1, c1, A2, c2, l, rfl, rfl, hs⟩ := both_same (w := W) HX.out (by rw [HK.out]; omega) H1.out h2 O1.out hb2 o2
    have HS := Lib.hid hs
    have HB2 := Lib.hid ((HB0.out.trans (HB1.out.mono HB0.out.size)).trans (hb2.mono (Nat.le_trans HB0.out.size HB1.out.size)))
    clear h2 o2 hb2 hs
    go_wp2_with fail
    refine HS.out.mono ?_
    rintro e w3 ⟨rfl, hb3⟩
    have HB3 := Lib.hid (HB2.out.trans (hb3.mono HB2.out.size))
    clear hb3
    go_wp2_with fail
    refine (known30_any _).mono ?_
    rintro e w4 ⟨rfl, hb4⟩
    go_wp2_with fail
    go_ret
    exact ⟨rfl, HB3.out.trans (hb4.mono HB3.out.size)⟩
theorem law3_any (A : Option Addr) (c : Nat) (xs : List Int) (m : Int) (w : World) (hv : DatG w w.heap.size (.slice A xs.length c) xs) : Law 3 #[.slice A xs.length c, .int .i64 m] w := by
  obtain ⟨hx, hl, A', c', he, hA⟩ := hv
  cases he
  by_cases hm : m < 4094 ∨ 4098 < m
  · by_cases hn : xs.length ≤ 400
    · exact law3_short A xs.length c xs rfl hn hx m hm w hA
    · exact law3_long A xs.length c (by omega) m hm w
  · obtain ⟨k, rfl⟩ : ∃ k : Nat, m = k := ⟨m.toNat, by omega⟩
    exact law3_many A xs.length c k (by omega) (by omega) w

set_option maxRecDepth 100000 in
theorem scriptParses_lifted (os : Os) (started : os.Started) (H : Type) (enc : TypeId × Value → H) :
    ReturnsInHanded {} Try.checked os 3 .any (Rows.scriptParsesSpec.pre6 enc Try.prog Try.f3 Rows.scriptParsesRow.domain false) (Rows.scriptParsesSpec.post enc Try.prog Try.f3 false true false false) := by
  refine returnsInHanded_of_change (C := Try.checked) own started (by kernel_rfl) Try.func3
    (ChangeSpec.witness6 (enc := enc) (C := Try.checked) false ⟨#[], #[.slice none 0 0, .int .i64 0], []⟩ 8 (by kernel_rfl) (by kernel_rfl) (by kernel_rfl) (by kernel_rfl)) ?_
  intro W base args ds gs before hval0 hW hcnd _
  have hval : ∀ (j : Nat) t v, Try.f3.params[j]? = some t → args[j]? = some v → Value.okWide Try.prog W .any base t v := hval0
  have hW' := hW
  obtain ⟨p, q, hA0, hV, rfl, hfz, hnd⟩ := hW
  have hTA : DataW.TrodAll enc Try.prog W 0 (fun _ => true) true Try.f3.params.toList args.toList ds p := hA0
  rw [Try.params3] at hTA hval
  obtain ⟨v0, vs0, d0, ds0, p0, q0, hargs, rfl, rfl, h0, r0⟩ := trodAll_cons hTA
  obtain ⟨v1, vs1, d1, ds1, p1, q1, rfl, rfl, rfl, h1, r1⟩ := trodAll_cons r0
  obtain ⟨rfl, rfl, rfl⟩ := trodAll_nil r1
  obtain rfl : args = #[v0, v1] := by cases args; simp_all
  obtain ⟨rfl, rfl⟩ := trodVars_none hV
  obtain ⟨a0, len0, cap0, rfl⟩ := okWide_slice Try.underlying22 (hval 0 22 v0 rfl rfl)
  have k0 := h0
  have lt0 : ∀ x ∈ p0, x.block < W.heap.size := by obtain ⟨m, hm⟩ := k0; exact DataW.trod_lt m _ _ _ hm
  obtain ⟨xs, hxs⟩ : ∃ xs, DatG W W.heap.size (.slice a0 len0 cap0) xs := by obtain ⟨m, hm⟩ := k0; exact open_dat hm
  obtain rfl : len0 = xs.length := by obtain ⟨_, _, _, _, he, _⟩ := hxs; cases he; rfl
  obtain ⟨a1, rfl, rfl, rfl, w1⟩ := open_int Try.underlying3 (hval 1 3 v1 rfl rfl) h1
  clear hA0 hval0
  refine (law3_any a0 cap0 xs a1 W hxs).mono fun e W' ⟨he, bel⟩ => ?_
  subst he
  exact ⟨_, rfl, _, _, _, [], _, [], hW', trodAll_mk1 (shut_bool Try.underlying4 _), (trodAll_cons_mk (Below.trod laidOut (by kernel_rfl) (of_decide_eq_true (by kernel_rfl)) k0 bel lt0) (trodAll_cons_mk (shut_int Try.underlying3 w1) trodAll_mk0)), rfl, bel.frame _, fun h => by cases h⟩

theorem scriptParses_proved : Rows.ScriptParsesSaid :=
  OpenClaim.holds_of_wide 3 Try.f3 rfl rfl rfl rfl rfl rfl rfl ⟨rfl, rfl, rfl, rfl, rfl⟩ rfl rfl rfl rfl rfl (by kernel_rfl) Try.func3 (by kernel_rfl)
    (of_decide_eq_true (by kernel_rfl)) (by unfold Func.isWrapper; first | (rw [if_pos (by decide +kernel)]; kernel_rfl) | (rw [if_neg (by decide +kernel)]; exact ⟨rfl, rfl⟩))
    (fun os started H enc _ => scriptParses_lifted os started H enc)
end Go.Proofs.Ytnmhmabifeapkaa.Ord
