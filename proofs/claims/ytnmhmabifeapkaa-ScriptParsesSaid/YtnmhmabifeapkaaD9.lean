/- Walk of request.Read at the bytes of any valid command. -/
import Derived.Test.YtnmhmabifeapkaaD8
namespace Go.Proofs.Ytnmhmabifeapkaa.Ord
open Go.RowKit
set_option linter.unusedVariables false

theorem cmdC_size (c : CmdR) (vk vv vt : Value) : (Try.prog.info? 45).map (·.size) = some (cmdC c vk vv vt).length := by
  obtain ⟨_, _, _, _, _, _, _, _, _, _⟩ := c
  kernel_rfl
theorem cmdC_sizeA (c : CmdR) (vk vv vt : Value) : (Try.prog.info? 45).map (·.size) = some (cmdC c vk vv vt).toArray.size := by
  obtain ⟨_, _, _, _, _, _, _, _, _, _⟩ := c
  kernel_rfl
theorem cmdC_one (c : CmdR) {vk vv vt : Value} (h1 : vk.oneCell' = true) (h2 : vv.oneCell' = true) (h3 : vt.oneCell' = true) : (cmdC c vk vv vt).toArray.all (·.oneCell') = true := all_oneCell_toArray fun v hv => by
  simp only [cmdC, List.mem_cons, List.not_mem_nil, or_false] at hv
  rcases hv with rfl | rfl | rfl | rfl | rfl | rfl | rfl | rfl | rfl | rfl <;> first | rfl | assumption
theorem SlN.one {w : World} {N : List Nat} {v : Value} {xs : List ByteArray} (h : SlN w N v xs) : v.oneCell' = true := by
  obtain ⟨A, c, rfl, _⟩ := h; rfl
theorem SlX.one {w : World} {N : List Nat} {v : Value} {xs : List Int} (h : SlX w N v xs) : v.oneCell' = true := by
  obtain ⟨A, c, rfl, _⟩ := h; rfl
theorem CmdV.sizes {c : CmdR} (h : CmdV c) : c.keys.length ≤ 16 ∧ (∀ y ∈ c.val, 0 ≤ y ∧ y < 256) ∧ c.val.length ≤ 65536 ∧ c.tags.length ≤ 16 := by
  cases h <;> simp_all
theorem cmdOk_of {w : World} {N : List Nat} {c : CmdR} {vk vv vt : Value} (h : CmdV c) (h1 : SlN w N vk c.keys) (h2 : SlX w N vv c.val) (h3 : SlN w N vt c.tags) : CmdOk w w.heap.size c vk vv vt := by
  obtain ⟨s1, s2, s3, s4⟩ := h.sizes
  obtain ⟨A1, c1, rfl, e1, _⟩ := h1
  obtain ⟨A2, c2, rfl, e2, _⟩ := h2
  obtain ⟨A3, c3, rfl, e3, _⟩ := h3
  exact ⟨⟨by unfold maxLen; omega, A1, c1, rfl, e1⟩, ⟨s2, by unfold maxLen; omega, A2, c2, rfl, e2⟩, ⟨by unfold maxLen; omega, A3, c3, rfl, e3⟩⟩

/-- what a fresh command's row does not hold -/
theorem fresh_cell {w : World} {D : Nat} (h : w.rowIs D 45 10 (listF (cmdL 0 ⟨#[]⟩))) (o : Nat) (v : Value) (hv : w.cell? ⟨D, o, none⟩ = some v) : (∀ x, v ≠ .int .u8 x) ∧ ∀ s, v = .string s → s.size = 0 := by
  have ho : o < 10 := by
    rcases Nat.lt_or_ge o 10 with h1 | h1
    · exact h1
    · obtain ⟨c, hb, hn, _⟩ := h
      have : c[o]? = none := Array.getElem?_eq_none (by omega)
      simp [World.cell?, hb, this] at hv
  rw [World.rowIs.cell h ho] at hv
  have hv := Option.some.inj hv
  subst hv
  match o, ho with
  | 0, _ => exact ⟨fun x h => by simp [listF, cmdL] at h, fun s h => by simp [listF, cmdL] at h⟩
  | 1, _ => exact ⟨fun x h => by simp [listF, cmdL] at h, fun s h => by simp [listF, cmdL] at h; subst h; rfl⟩
  | 2, _ => exact ⟨fun x h => by simp [listF, cmdL] at h, fun s h => by simp [listF, cmdL] at h⟩
  | 3, _ => exact ⟨fun x h => by simp [listF, cmdL] at h, fun s h => by simp [listF, cmdL] at h⟩
  | 4, _ => exact ⟨fun x h => by simp [listF, cmdL] at h, fun s h => by simp [listF, cmdL] at h⟩
  | 5, _ => exact ⟨fun x h => by simp [listF, cmdL] at h, fun s h => by simp [listF, cmdL] at h⟩
  | 6, _ => exact ⟨fun x h => by simp [listF, cmdL] at h, fun s h => by simp [listF, cmdL] at h⟩
  | 7, _ => exact ⟨fun x h => by simp [listF, cmdL] at h, fun s h => by simp [listF, cmdL] at h; subst h; rfl⟩
  | 8, _ => exact ⟨fun x h => by simp [listF, cmdL] at h, fun s h => by simp [listF, cmdL] at h; subst h; rfl⟩
  | 9, _ => exact ⟨fun x h => by simp [listF, cmdL] at h, fun s h => by simp [listF, cmdL] at h; subst h; rfl⟩
theorem CmdV.parts {c : CmdR} (h : CmdV c) : (∀ s ∈ c.keys, 0 < s.size) ∧ ∀ s ∈ c.tags, 0 < s.size := by
  have hk : ∀ s, keyOk s = true → 0 < s.size := fun s h => by simp [keyOk] at h; exact h.1
  have ht : ∀ s, tagOk s = true → 0 < s.size := fun s h => by simp [tagOk] at h; exact h.1
  cases h <;> simp_all
theorem fresh_cmd {w w' : World} {D : Nat} {c : CmdR} {vk vv vt : Value} (hc : CmdV c) (hD : w.rowIs D 45 10 (listF (cmdL 0 ⟨#[]⟩))) (hk : Kept [D] w w') (h : CmdOk w w.heap.size c vk vv vt) : CmdOk w' w'.heap.size c vk vv vt := by
  obtain ⟨p1, p2⟩ := hc.parts
  obtain ⟨⟨s1, A1, c1, rfl, e1⟩, ⟨s2, s3, A2, c2, rfl, e2⟩, ⟨s4, A3, c3, rfl, e3⟩⟩ := h
  have he : ∀ (A : Option Addr) (xs : List ByteArray), (∀ s ∈ xs, 0 < s.size) → ElV Value.string w w.heap.size A xs → ElV Value.string w' w'.heap.size A xs := fun A xs hp hel i x hx => by
    obtain ⟨b, off, rfl, hlt, hce⟩ := hel i x hx
    refine ⟨b, off, rfl, Nat.lt_of_lt_of_le hlt hk.size, hk.cell (fun hm => ?_) hce⟩
    simp at hm
    subst hm
    have h1 := (fresh_cell hD _ _ hce).2 x rfl
    have h2 := hp x (List.mem_iff_getElem?.2 ⟨i, hx⟩)
    omega
  refine ⟨⟨s1, A1, c1, rfl, he _ _ p1 e1⟩, ⟨s2, s3, A2, c2, rfl, e2.1, e2.2.1, fun i hi => ?_⟩, ⟨s4, A3, c3, rfl, he _ _ p2 e3⟩⟩
  obtain ⟨b, off, rfl, hlt, hce⟩ := e2.2.2 i hi
  refine ⟨b, off, rfl, Nat.lt_of_lt_of_le hlt hk.size, fun x hx => hk.cell (fun hm => ?_) (hce x hx)⟩
  simp at hm
  subst hm
  exact (fresh_cell hD _ _ (hce x hx)).1 x rfl

set_option maxRecDepth 100000 in
set_option maxHeartbeats 2000000 in
theorem read_any (cm : CmdR) (op : Int) (hop : cm.op = op) (hc : CmdV cm) (A : Option Addr) (k c : Nat) (w : World) (hk : (pay cm).length = k) (hA : Byt w w.heap.size A c (pay cm)) :
    Calls Try.prog 98 #[.agg #[.int .u8 op, .slice A k c]] w fun e w' => ∃ vk vv vt, e = .returned (.tuple #[.agg (cmdC cm vk vv vt).toArray, .int .i64 0]) ∧ CmdOk w' w'.heap.size cm vk vv vt ∧ Below w.heap.size w w' := by
  have hr := hc.op_range
  rw [hop] at hr
  have hr1 := hr.1
  have hr2 := hr.2
  have hkl : k ≤ 100000 := by have := pay_len hc; omega
  go_enter Try.func98, Try.ntmps98
  go_wp2_with fail
  obtain ⟨W1, hW1, hC1, hD1, hb1, hs1⟩ := read_start w (.int .u8 op) (.slice A k c) op
  rw [← hW1]
  clear hW1
  refine (new_any A k c _ W1 hk (by omega) ((hA.below hb1 (Nat.le_refl _)).mono (by omega))).mono ?_
  rintro e w2 ⟨R, v2, rfl, hRs, hR2, hv2, hb2⟩
  have hC2 := World.rowIs.of_block hC1 (hb2.block _ (by omega))
  have hD2 := World.rowIs.of_block hD1 (hb2.block _ (by omega))
  clear hC1 hD1
  have hRC : w.heap.size + 1 + 1 ≠ R := by omega
  have hRw := World.rowIs.lt hR2
  have hb2s := hb2.size
  go_wp2_with fail
  have hX3 := row_list w2 [.pointer (some ⟨w.heap.size + 1 + 1, 0, none⟩), .pointer (some ⟨R, 0, none⟩), .slice none 0 0, .bool false] 149
  have hX3 : (w2.alloc (.cells #[.pointer (some ⟨w.heap.size + 1 + 1, 0, none⟩), .pointer (some ⟨R, 0, none⟩), .slice none 0 0, .bool false] 149)).rowIs w2.heap.size 149 4 (codF (.pointer (some ⟨w.heap.size + 1 + 1, 0, none⟩)) (.pointer (some ⟨R, 0, none⟩)) (.slice none 0 0) false) := World.rowIs.congr (by simpa using hX3) fun i hi => by
    match i, hi with
    | 0, _ => rfl
    | 1, _ => rfl
    | 2, _ => rfl
    | 3, _ => rfl
  have hC3 := World.rowIs.alloc hC2 (.cells #[.pointer (some ⟨w.heap.size + 1 + 1, 0, none⟩), .pointer (some ⟨R, 0, none⟩), .slice none 0 0, .bool false] 149)
  have hD3 := World.rowIs.alloc hD2 (.cells #[.pointer (some ⟨w.heap.size + 1 + 1, 0, none⟩), .pointer (some ⟨R, 0, none⟩), .slice none 0 0, .bool false] 149)
  have hR3 := World.rowIs.alloc hR2 (.cells #[.pointer (some ⟨w.heap.size + 1 + 1, 0, none⟩), .pointer (some ⟨R, 0, none⟩), .slice none 0 0, .bool false] 149)
  have hv3 := (hv2 [w2.heap.size, w.heap.size + 1 + 1, R, w.heap.size + 1] (fun k hk => by simp at hk; omega)).kept (Kept.of_below (L := []) (below1 w2 (.cells #[.pointer (some ⟨w.heap.size + 1 + 1, 0, none⟩), .pointer (some ⟨R, 0, none⟩), .slice none 0 0, .bool false] 149))) (by simp)
  have hb3 := below1 w2 (.cells #[.pointer (some ⟨w.heap.size + 1 + 1, 0, none⟩), .pointer (some ⟨R, 0, none⟩), .slice none 0 0, .bool false] 149)
  have hs3 : (w2.alloc (.cells #[.pointer (some ⟨w.heap.size + 1 + 1, 0, none⟩), .pointer (some ⟨R, 0, none⟩), .slice none 0 0, .bool false] 149)).heap.size = w2.heap.size + 1 := by simp
  generalize w2.alloc (.cells #[.pointer (some ⟨w.heap.size + 1 + 1, 0, none⟩), .pointer (some ⟨R, 0, none⟩), .slice none 0 0, .bool false] 149) = w3 at *
  have hRS : RS w3 [w2.heap.size, w.heap.size + 1 + 1, R, w.heap.size + 1] w2.heap.size (w.heap.size + 1 + 1) R (listF (cmdL cm.op ⟨#[]⟩)) (pay cm) false :=
    ⟨by omega, by omega, hRC, by rw [hop]; exact hC3, hX3, by simp, v2, hR3, hv3⟩
  refine (parts_r_any hc hRS).mono ?_
  rintro e w4 ⟨rfl, vk, vv, vt, hS4, hk4s, hv4s, ht4s, hk4⟩
  have hD4 := hk4.row (by simp; omega) hD3
  obtain ⟨_, _, _, hC4, hX4, _, v4, hR4, hv4⟩ := hS4
  obtain ⟨A4, c4, rfl, hby4, _⟩ := hv4
  have hx43 : w4.cell? ⟨w2.heap.size, 3, none⟩ = some (.bool false) := World.rowIs.cell hX4 (i := 3) (by decide)
  have hx41 : w4.cell? ⟨w2.heap.size, 1, none⟩ = some (.pointer (some ⟨R, 0, none⟩)) := World.rowIs.cell hX4 (i := 1) (by decide)
  have hr41 : w4.cell? ⟨R, 1, none⟩ = some (.slice A4 0 c4) := World.rowIs.cell hR4 (i := 1) (by decide)
  have HC4 := Lib.hid hC4
  have HD4 := Lib.hid hD4
  clear hC4 hD4 hX4 hR4 hX3 hC3 hD3 hR3 hv3 hv2 hC2 hD2 hR2 hRS
  have HCC := Lib.hid (row_cells HC4.out (cmdC cm vk vv vt) rfl fun i hi => rfl)
  have HT4 := Lib.hid (row_there HD4.out)
  go_wp2_with fail
  go_enter Try.func135, Try.ntmps135
  go_wp2_with (first
    | ((with_reducible refine wpList_load_agg (o := ⟨some 24, _, _, _, _, _⟩) rfl 45 _ rfl ⟨w.heap.size + 1 + 1, 0, none⟩ ?_ (cmdC cm vk vv vt) _ HCC.out Try.underlying45 rfl (cmdC_size _ _ _ _) ?_); (· rfl))
    | ((with_reducible refine wpList_store_at2 (op := ⟨none, _, _, _, _, _⟩) rfl 45 _ _ rfl (w.heap.size + 1) 0 (cmdC cm vk vv vt).toArray ?_ ?_ ?_ (cmdC_sizeA _ _ _ _) ?_ ?_); (· rfl); (· rfl); (· exact HT4.out); (· exact cmdC_one _ hk4s.one hv4s.one ht4s.one); intro w5 hw5))
  have hD5 := store_all HD4.out (cmdC cm vk vv vt) rfl
  have hc5 := row_cells hD5 (cmdC cm vk vv vt) rfl fun i hi => rfl
  have hk45 : Kept [w.heap.size + 1] w4 (w4.setCells (w.heap.size + 1) 0 (cmdC cm vk vv vt)) := kept_setCells (by simp) _ _ _ (Kept.refl _ _)
  have hk5 : Kept [w2.heap.size, w.heap.size + 1 + 1, R, w.heap.size + 1] w3 (w4.setCells (w.heap.size + 1) 0 (cmdC cm vk vv vt)) := (hk4.mono (by simp)).trans (hk45.mono (by simp))
  refine bodyPost_ret (results_cell2 rfl _ _ ⟨w.heap.size + 1, 0, none⟩ (cmdC cm vk vv vt).toArray rfl (run_loadVar_at _ _ _ _ _ hc5 Try.underlying45 rfl (cmdC_size _ _ _ _))) rfl ⟨vk, vv, vt, rfl, ?_, ?_⟩
  · exact fresh_cmd hc HD4.out hk45 (cmdOk_of hc hk4s hv4s ht4s)
  · have hbb : Below w.heap.size w w3 := by
      have h5 := hb1.trans (hb2.mono (by omega))
      exact h5.trans (hb3.mono (by omega))
    exact hbb.trans (hk5.below (by omega) (by simp; omega))
end Go.Proofs.Ytnmhmabifeapkaa.Ord
