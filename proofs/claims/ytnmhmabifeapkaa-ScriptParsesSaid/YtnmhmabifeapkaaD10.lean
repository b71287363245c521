/- Walk of request.Write at any valid command. -/
import Derived.Test.YtnmhmabifeapkaaD9
import Derived.Test.YtnmhmabifeapkaaM3
namespace Go.Proofs.Ytnmhmabifeapkaa.Ord
open Go.RowKit
set_option linter.unusedVariables false

theorem cmdEq_self (c : CmdR) : cmdEq c c = true := by simp [cmdEq]
theorem pay_two {c : CmdR} (h : CmdV c) : pay c = [] ∨ 2 ≤ (pay c).length ∨ (∃ p, preOk p = true ∧ c = ⟨10, eB, [], [], [], 0, 0, eB, p, eB⟩) := by
  have hp : ∀ s : ByteArray, 0 < s.size → 2 ≤ (putS s).length := fun s hs => by
    have h1 := putV_pos (m := s.size)
    have h2 := sBytes_len s
    simp only [putS, List.length_append]
    omega
  have hk : ∀ s, keyOk s = true → 0 < s.size := fun s h => by simp [keyOk] at h; exact h.1
  have ht : ∀ s, tagOk s = true → 0 < s.size := fun s h => by simp [tagOk] at h; exact h.1
  cases h with
  | set op k val tags life ho hk1 hv hl ht1 hn h0 h1 =>
    have := hp k (hk k hk1)
    rw [pay_set ho]
    simp only [List.length_append]
    omega
  | cas k val tags life ver hk1 hv hl ht1 hn h0 h1 h2 =>
    have := hp k (hk k hk1)
    rw [pay_cas rfl]
    simp only [List.length_append]
    omega
  | key op k ho hk1 =>
    have := hp k (hk k hk1)
    rw [pay_key ho]
    exact .inr (.inl this)
  | mget keys hk1 h1 hn =>
    rw [pay_mget rfl]
    cases keys with
    | nil => simp at h1
    | cons k ks =>
      have := hp k (hk k (hk1 k (by simp)))
      have h3 := putV_pos (m := (k :: ks).length)
      simp only [putS, List.length_append] at this
      simp only [putLs, putStrs, List.length_append]
      omega
  | touch k life hk1 h0 h1 =>
    have := hp k (hk k hk1)
    rw [pay_touch rfl]
    simp only [List.length_append]
    omega
  | tag op t ho ht1 =>
    have := hp t (ht t ht1)
    rw [pay_tag ho]
    exact .inr (.inl this)
  | pre p hp1 =>
    exact .inr (.inr ⟨p, hp1, rfl⟩)
  | dep op k ch ho hk1 hc =>
    have := hp k (hk k hk1)
    rw [pay_dep ho]
    simp only [List.length_append]
    omega
  | none op ho =>
    exact .inl (pay_none ho)

/-- a prefix, written: where its bytes lie -/
theorem parts_w_pre2 (X C M : Nat) (p : ByteArray) (hp : preOk p = true) (vk vv vt : Value) (w : World) (hM : M < w.heap.size) (h : PW w X C ⟨10, eB, [], [], [], 0, 0, eB, p, eB⟩ vk vv vt) :
    Calls Try.prog 97 #[.pointer (some ⟨X, 0, none⟩)] w fun e w' => e = .returned (.tuple #[]) ∧ PE w w' X C ⟨10, eB, [], [], [], 0, 0, eB, p, eB⟩ vk vv vt (putS p) ∧
      ∃ v, w'.cell? ⟨X, 2, none⟩ = some v ∧ ∀ b off n k, v = .slice (some ⟨b, off, none⟩) n k → b ≠ M := by
  have c0 := h.op.1
  have d0 := h.op.2
  obtain ⟨h1, h2, v, h3, A, ca, rfl, h4, h5⟩ := h.st
  have HW := Lib.hid h.st
  have HP := Lib.hid (part_write X C 8 45 10 _ p _ A ca [] false _ 133 w h2 (by decide) rfl h1 h3 h4 (fun b off e hb => h5 b off e (by simp [hb])) enter133 (pre133 p) (by simp [preOk] at hp; omega) (by simp))
  rw [hp] at HP
  clear h h2 h3 h4 h5
  simp only at d0
  go_enter Try.func97, Try.ntmps97
  go_wp2_with fail
  refine HP.out.mono ?_
  rintro e w1 ⟨rfl, v1, hX1, hS1, hk1⟩
  have H1 := Lib.hid (HW.out.next hX1 hS1 hk1)
  have H2 := Lib.hid hS1
  have H3 := Lib.hid (World.rowIs.cell hX1 (i := 2) (by decide))
  have HK := Lib.hid hk1
  clear hX1 hS1 hk1
  go_wp2_with fail
  go_end0
  refine ⟨rfl, ⟨H1.out.out_bad (by simp [putS]) (by simp), HK.out.mono (by simp)⟩, v1, H3.out, ?_⟩
  rintro b off n k rfl
  obtain ⟨A1, c1, e1, _, e2⟩ := H2.out
  cases e1
  have := e2 b off rfl
  omega
theorem parts_w_any2 {X C M : Nat} {c : CmdR} {vk vv vt : Value} {w : World} (hM : M < w.heap.size) (hc : CmdV c) (h : PW w X C c vk vv vt) :
    Calls Try.prog 97 #[.pointer (some ⟨X, 0, none⟩)] w fun e w' => e = .returned (.tuple #[]) ∧ PE w w' X C c vk vv vt (pay c) ∧
      (pay c = [] ∨ 2 ≤ (pay c).length ∨ ∃ v, w'.cell? ⟨X, 2, none⟩ = some v ∧ ∀ b off n k, v = .slice (some ⟨b, off, none⟩) n k → b ≠ M) := by
  rcases pay_two hc with h1 | h1 | ⟨p, hp, rfl⟩
  · exact (parts_w_any hc h).mono fun e w' h2 => ⟨h2.1, h2.2, .inl h1⟩
  · exact (parts_w_any hc h).mono fun e w' h2 => ⟨h2.1, h2.2, .inr (.inl h1)⟩
  · exact (parts_w_pre2 X C M p hp vk vv vt w hM h).mono fun e w' ⟨h2, h3, h4⟩ => ⟨h2, by rw [pay_pre rfl]; exact h3, .inr (.inr h4)⟩

theorem CmdV.val_len {c : CmdR} (h : CmdV c) : c.val.length ≤ 65536 := by
  cases h <;> simp_all
theorem pw_start {w W : World} {cm : CmdR} {vk vv vt : Value} (hok : CmdOk w w.heap.size cm vk vv vt) (hb : Below w.heap.size w W) (hC : W.rowIs w.heap.size 45 10 (listF (cmdC cm vk vv vt)))
    (hX : W.rowIs (w.heap.size + 1 + 1) 149 4 (codF (.pointer (some ⟨w.heap.size, 0, none⟩)) (.pointer none) (.slice none 0 0) false)) : PW W (w.heap.size + 1 + 1) w.heap.size cm vk vv vt := by
  obtain ⟨⟨s1, A1, c1, rfl, e1⟩, ⟨s2, s3, A2, c2, rfl, e2⟩, ⟨s4, A3, c3, rfl, e3⟩⟩ := hok
  have hs := hb.size
  have hn : ∀ (A : Option Addr) (xs : List ByteArray), ElV Value.string w w.heap.size A xs → ∀ b off, A = some ⟨b, off, none⟩ → xs ≠ [] → b ∉ [w.heap.size + 1 + 1, w.heap.size] := fun A xs hel b off hA hx hm => by
    cases xs with
    | nil => exact hx rfl
    | cons x r =>
      obtain ⟨b2, off2, h1, h2, _⟩ := hel 0 x rfl
      rw [hA] at h1
      cases h1
      simp at hm
      omega
  refine ⟨⟨by omega, hC, _, hX, none, 0, rfl, Byt.nil _ _, by simp⟩, ⟨A1, c1, rfl, (e1.below hb (Nat.le_refl _)).mono hs, hn _ _ e1⟩, ⟨A2, c2, rfl, (e2.below hb (Nat.le_refl _)).mono hs, fun b off hA hx hm => ?_⟩, ⟨A3, c3, rfl, (e3.below hb (Nat.le_refl _)).mono hs, hn _ _ e3⟩⟩
  obtain ⟨b2, off2, h1, h2, _⟩ := e2.2.2 0 (by cases hv : cm.val with | nil => exact absurd hv hx | cons _ _ => simp)
  rw [hA] at h1
  cases h1
  simp at hm
  omega

/-- bytes do not lie in the result's block -/
theorem not_there {w : World} {F : Nat} {A : Option Addr} {c : Nat} {xs : List Int} (hF : w.rowIs F 111 2 (listF [.int .u8 0, .slice none 0 0])) (hA : Byt w w.heap.size A c xs) (h2 : 2 ≤ xs.length) : ∀ b off, A = some ⟨b, off, none⟩ → b ≠ F := by
  rintro b off rfl rfl
  obtain ⟨b0, o0, e0, _, h0⟩ := hA.2.2 0 (by omega)
  cases e0
  obtain ⟨b1, o1, e1, _, h1⟩ := hA.2.2 1 (by omega)
  cases e1
  have h1 := h1 _ (List.getElem?_eq_getElem (show 1 < xs.length by omega))
  by_cases ho : off + 1 < 2
  · have : off = 0 := by omega
    subst this
    rw [World.rowIs.cell hF (i := 0 + 1) (by decide)] at h1
    simp [listF] at h1
  · obtain ⟨cs, hb, hn, _⟩ := hF
    have : cs[off + 1]? = none := Array.getElem?_eq_none (by omega)
    simp [World.cell?, hb, this] at h1

set_option maxRecDepth 100000 in
set_option maxHeartbeats 2000000 in
theorem write_any (cm : CmdR) (op : Int) (hop : cm.op = op) (hc : CmdV cm) (vk vv vt : Value) (w : World) (hok : CmdOk w w.heap.size cm vk vv vt) :
    Calls Try.prog 76 #[.agg (cmdC cm vk vv vt).toArray] w fun e w' => ∃ A k c, e = .returned (.tuple #[.agg #[.int .u8 op, .slice A k c], .int .i64 0]) ∧ (pay cm).length = k ∧ Byt w' w'.heap.size A c (pay cm) ∧ Below w.heap.size w w' := by
  have hr := hc.op_range
  rw [hop] at hr
  have hr1 := hr.1
  have hr2 := hr.2
  have hpl := pay_len hc
  obtain ⟨W1, hW1, hC1, hF1, hX1, hb1, hs1⟩ := write_start w (cmdC cm vk vv vt) rfl
  have hPW := pw_start hok hb1 hC1 hX1
  have HOK := Lib.hid hok
  obtain ⟨A5, c5, rfl⟩ : ∃ A c, vv = .slice A cm.val.length c := by obtain ⟨_, ⟨_, _, A, c, h, _⟩, _⟩ := hok; exact ⟨A, c, h⟩
  have hvl : decide ((65536 : Int) < (cm.val.length : Int)) = false := by have := hc.val_len; simp; omega
  clear hok
  have HCM := Lib.hid hop
  simp only [cmdC, hop] at hW1 ⊢
  clear hop
  go_enter Try.func76, Try.ntmps76
  go_wp2_with fail
  refine (valid_any op hr1 hr2 _).mono ?_
  rintro e w1 ⟨rfl, rfl⟩
  go_wp2_with fail
  rw [← hW1]
  clear hW1
  refine (parts_w_any2 (M := w.heap.size + 1) (by omega) hc hPW).mono ?_
  rintro e w2 ⟨rfl, ⟨hS2, hk2⟩, hne2⟩
  obtain ⟨_, hC2, v2, hX2, A2, c2, rfl, hby2, hlo2⟩ := hS2
  have hF2 := hk2.row (by simp) hF1
  have hne : ∀ b off, A2 = some ⟨b, off, none⟩ → pay cm ≠ [] → b ≠ w.heap.size + 1 := by
    rintro b off rfl hp
    rcases hne2 with h | h | ⟨v, h1, h2⟩
    · exact absurd h hp
    · exact not_there hF2 hby2 h b off rfl
    · rw [World.rowIs.cell hX2 (i := 2) (by decide)] at h1
      cases h1
      exact h2 b off _ _ rfl
  clear hne2
  have hx22 : w2.cell? ⟨w.heap.size + 1 + 1, 2, none⟩ = some (.slice A2 (pay cm).length c2) := World.rowIs.cell hX2 (i := 2) (by decide)
  have hc20 : w2.cell? ⟨w.heap.size, 0, none⟩ = some (.int .i64 op) := by rw [← HCM.out]; exact World.rowIs.cell hC2 (i := 0) (by decide)
  obtain ⟨k, hk⟩ : ∃ k, (pay cm).length = k := ⟨_, rfl⟩
  rw [hk] at hx22 hpl
  have hs2 := hk2.size
  have hb02 : Below w.heap.size w w2 := hb1.trans (hk2.below (by omega) (by simp; omega))
  have HX2 := Lib.hid hX2
  have HC2 := Lib.hid hC2
  have HF2 := Lib.hid hF2
  have HOK2 := Lib.hid (hPW)
  clear hX2 hC2 hF2 hC1 hF1 hX1
  go_wp2_with fail
  have hbA := below1 w2 (.cells #[.int .u8 op, .slice A2 k c2] 111)
  refine (read_any cm op HCM.out hc A2 k c2 _ hk ((hby2.below hbA (Nat.le_refl _)).mono (by simp))).mono ?_
  rintro e w4 ⟨vk4, vv4, vt4, rfl, hok4, hb4⟩
  obtain ⟨A6, c6, rfl⟩ : ∃ A c, vk4 = .slice A cm.keys.length c := by obtain ⟨⟨_, A, c, h, _⟩, _⟩ := hok4; exact ⟨A, c, h⟩
  obtain ⟨A7, c7, rfl⟩ : ∃ A c, vv4 = .slice A cm.val.length c := by obtain ⟨_, ⟨_, _, A, c, h, _⟩, _⟩ := hok4; exact ⟨A, c, h⟩
  obtain ⟨A8, c8, rfl⟩ : ∃ A c, vt4 = .slice A cm.tags.length c := by obtain ⟨_, _, _, A, c, h, _⟩ := hok4; exact ⟨A, c, h⟩
  simp only [cmdC, HCM.out]
  have hb24 : Below w2.heap.size w2 w4 := hbA.trans (hb4.mono hbA.size)
  have hs4 := hb24.size
  have hX4 := World.rowIs.of_block HX2.out (hb24.block _ (by omega))
  have hx43 : w4.cell? ⟨w.heap.size + 1 + 1, 3, none⟩ = some (.bool false) := World.rowIs.cell hX4 (i := 3) (by decide)
  have hC4 := World.rowIs.of_block HC2.out (hb24.block _ (by omega))
  have hF4 := World.rowIs.of_block HF2.out (hb24.block _ (by omega))
  have hA3 := row_list w2 [.int .u8 op, .slice A2 k c2] 111
  have hA4 : w4.rowIs w2.heap.size 111 2 (listF [.int .u8 op, .slice A2 k c2]) := World.rowIs.of_block (by simpa using hA3) (hb4.block _ (by simp))
  have hl0 : w.heap.size < w4.heap.size := by omega
  have hl1 : w.heap.size + 1 < w4.heap.size := by omega
  have hl2 : w.heap.size + 1 + 1 < w4.heap.size := by omega
  have hl3 : w2.heap.size < w4.heap.size := World.rowIs.lt hA4
  have hT6 := row_list w4 (cmdC cm (.slice A6 cm.keys.length c6) (.slice A7 cm.val.length c7) (.slice A8 cm.tags.length c8)) 45
  have hb5 := below1 w4 (.cells (cmdC cm (.slice A6 cm.keys.length c6) (.slice A7 cm.val.length c7) (.slice A8 cm.tags.length c8)).toArray 45)
  have hC5 := World.rowIs.alloc hC4 (.cells (cmdC cm (.slice A6 cm.keys.length c6) (.slice A7 cm.val.length c7) (.slice A8 cm.tags.length c8)).toArray 45)
  have hF5 := World.rowIs.alloc hF4 (.cells (cmdC cm (.slice A6 cm.keys.length c6) (.slice A7 cm.val.length c7) (.slice A8 cm.tags.length c8)).toArray 45)
  have hA5 := World.rowIs.alloc hA4 (.cells (cmdC cm (.slice A6 cm.keys.length c6) (.slice A7 cm.val.length c7) (.slice A8 cm.tags.length c8)).toArray 45)
  have hok2 : CmdOk w2 w2.heap.size cm vk (.slice A5 cm.val.length c5) vt := (HOK.out.below hb02 (Nat.le_refl _)).mono hb02.size
  have hokA : CmdOk (w4.alloc (.cells (cmdC cm (.slice A6 cm.keys.length c6) (.slice A7 cm.val.length c7) (.slice A8 cm.tags.length c8)).toArray 45)) (w4.alloc (.cells (cmdC cm (.slice A6 cm.keys.length c6) (.slice A7 cm.val.length c7) (.slice A8 cm.tags.length c8)).toArray 45)).heap.size cm vk (.slice A5 cm.val.length c5) vt :=
    ((hok2.below hb24 (Nat.le_refl _)).mono hs4 |>.below hb5 (Nat.le_refl _)).mono hb5.size
  have hokB : CmdOk (w4.alloc (.cells (cmdC cm (.slice A6 cm.keys.length c6) (.slice A7 cm.val.length c7) (.slice A8 cm.tags.length c8)).toArray 45)) (w4.alloc (.cells (cmdC cm (.slice A6 cm.keys.length c6) (.slice A7 cm.val.length c7) (.slice A8 cm.tags.length c8)).toArray 45)).heap.size cm (.slice A6 cm.keys.length c6) (.slice A7 cm.val.length c7) (.slice A8 cm.tags.length c8) :=
    (hok4.below hb5 (Nat.le_refl _)).mono hb5.size
  have HE := Lib.hid (cmd42 cm cm (.slice A6 cm.keys.length c6) (.slice A7 cm.val.length c7) (.slice A8 cm.tags.length c8) vk (.slice A5 cm.val.length c5) vt _ hokB hokA)
  rw [cmdEq_self] at HE
  have HcT := Lib.hid (row_cells hT6 (cmdC cm (.slice A6 cm.keys.length c6) (.slice A7 cm.val.length c7) (.slice A8 cm.tags.length c8)) rfl fun i hi => rfl)
  have HcC := Lib.hid (row_cells hC5 (cmdC cm vk (.slice A5 cm.val.length c5) vt) rfl fun i hi => rfl)
  have HF5 := Lib.hid hF5
  have HA5 := Lib.hid hA5
  have HB5 := Lib.hid hb5
  clear hX4 hC4 hF4 hA3 hA4 hT6 hC5 hF5 hA5 hb5 hok2 hokA hokB hok4
  simp only [cmdC, HCM.out] at HE HcT HcC HF5 HA5 HB5
  go_wp2_with (first
    | ((with_reducible refine wpList_load_want (o := ⟨some 39, _, _, _, _, _⟩) 45 _ rfl ⟨w4.heap.size, 0, none⟩ ?_ _ _ HcT.out Try.underlying45 rfl ?_ ?_ ?_); (· rfl); (· exact cmdC_size cm _ _ _); (· rfl))
    | ((with_reducible refine wpList_load_want (o := ⟨some 40, _, _, _, _, _⟩) 45 _ rfl ⟨w.heap.size, 0, none⟩ ?_ _ _ HcC.out Try.underlying45 rfl ?_ ?_ ?_); (· rfl); (· exact cmdC_size cm _ _ _); (· rfl)))
  refine HE.out.mono ?_
  rintro e w6 ⟨rfl, hb6⟩
  have hA6 := World.rowIs.of_block HA5.out (hb6.block _ (World.rowIs.lt HA5.out))
  have hF6 := World.rowIs.of_block HF5.out (hb6.block _ (World.rowIs.lt HF5.out))
  have ha60 : w6.cell? ⟨w2.heap.size, 0, none⟩ = some (.int .u8 op) := World.rowIs.cell hA6 (i := 0) (by decide)
  have ha61 : w6.cell? ⟨w2.heap.size, 1, none⟩ = some (.slice A2 k c2) := World.rowIs.cell hA6 (i := 1) (by decide)
  have HT6 := Lib.hid (row_there hF6)
  have HF6 := Lib.hid hF6
  clear hA6 hF6
  go_wp2_with ((with_reducible refine wpList_store_at2 (op := ⟨none, _, _, _, _, _⟩) rfl 111 _ _ rfl (w.heap.size + 1) 0 #[.int .u8 op, .slice A2 k c2] ?_ ?_ ?_ ?_ ?_ ?_); (· rfl); (· rfl); (· exact HT6.out); (· rfl); (· simp [Value.oneCell']); intro w7 hw7)
  have hD7 := store_all HF6.out [.int .u8 op, .slice A2 k c2] rfl
  have hc7 := row_cells hD7 [.int .u8 op, .slice A2 k c2] rfl fun i hi => rfl
  have hk7 : Kept [w.heap.size + 1] w2 (w6.setCells (w.heap.size + 1) 0 [.int .u8 op, .slice A2 k c2]) :=
    kept_setCells (by simp) _ _ _ ((Kept.of_below hb24).trans ((Kept.of_below HB5.out).trans (Kept.of_below hb6)))
  have hby7 : Byt (w6.setCells (w.heap.size + 1) 0 [.int .u8 op, .slice A2 k c2]) (w6.setCells (w.heap.size + 1) 0 [.int .u8 op, .slice A2 k c2]).heap.size A2 c2 (pay cm) := by
    by_cases hp : pay cm = []
    · exact ⟨hby2.1, hby2.2.1, fun i hi => by rw [hp] at hi; simp at hi⟩
    · exact hk7.byt hby2 fun b off hA hm => hne b off hA hp (by simpa using hm)
  refine bodyPost_ret (results_cell2 rfl _ _ ⟨w.heap.size + 1, 0, none⟩ #[.int .u8 op, .slice A2 k c2] rfl (run_loadVar_at _ _ _ _ _ hc7 Try.underlying111 rfl (by kernel_rfl))) rfl ⟨A2, k, c2, rfl, ?_, hby7, hb02.trans (hk7.below (by omega) (by simp))⟩
  first | exact hk | rfl
end Go.Proofs.Ytnmhmabifeapkaa.Ord
