/- Walk of the command of a short request. -/
import Derived.Test.YtnmhmabifeapkaaG6
import Derived.Test.YtnmhmabifeapkaaG2
namespace Go.Proofs.Ytnmhmabifeapkaa.Ord
open Go.RowKit
set_option linter.unusedVariables false

/-- what a short request's command is -/
def CmdRes (cm : CmdR) (w : World) (v : Value) : Prop := ∃ vk vv vt, v = .agg (cmdC cm vk vv vt).toArray ∧ CmdOk w w.heap.size cm vk vv vt
/-- what the part of a short command does -/
def PartOk (F : Nat) (op : Int) (s : ByteArray) (z u : Nat) (cm : CmdR) : Prop := ∀ (W : World) (C : Nat) (N : List Nat), W.rowIs C 45 10 (listF (cmdX op s nilV nilV nilV 0 0 ⟨#[]⟩ ⟨#[]⟩ ⟨#[]⟩)) → (∀ k ∈ N, k < W.heap.size) →
  Calls Try.prog F #[.pointer (some ⟨C, 0, none⟩), .int .i64 z, .int .i64 u] W fun e w' => e = .returned (.tuple #[]) ∧ ∃ vk vv vt, w'.rowIs C 45 10 (listF (cmdC cm vk vv vt)) ∧ SlN w' (C :: N) vk cm.keys ∧ SlX w' (C :: N) vv cm.val ∧ SlN w' (C :: N) vt cm.tags ∧ Kept [C] W w'

theorem cmdOk_nil (w : World) (B : Nat) (c : CmdR) (h1 : c.keys = []) (h2 : c.val = []) (h3 : c.tags = []) : CmdOk w B c nilV nilV nilV := by
  refine ⟨⟨by rw [h1]; simp, none, 0, by rw [h1]; rfl, fun i x hx => by rw [h1] at hx; simp at hx⟩, ⟨by rw [h2]; simp, by rw [h2]; simp, none, 0, by rw [h2]; rfl, by rw [h2]; exact Byt.nil _ _⟩, ⟨by rw [h3]; simp, none, 0, by rw [h3]; rfl, fun i x hx => by rw [h3] at hx; simp at hx⟩⟩
theorem short_world (w : World) (op : Int) (s : ByteArray) : ∃ W, W = ((w.alloc (.cells (cmdL 0 ⟨#[]⟩).toArray 45)).alloc (.map (ents 12) 12)).alloc (.cells (cmdL op s).toArray 45) ∧ W.rowIs w.heap.size 45 10 (listF (cmdL 0 ⟨#[]⟩)) ∧ W.rowIs (w.heap.size + 1 + 1) 45 10 (listF (cmdX op s nilV nilV nilV 0 0 ⟨#[]⟩ ⟨#[]⟩ ⟨#[]⟩)) ∧ Below w.heap.size w W ∧ W.heap.size = w.heap.size + 3 ∧ W.heap[w.heap.size + 1]? = some (.map (ents 12) 12) := by
  refine ⟨_, rfl, World.rowIs.alloc (World.rowIs.alloc (row_list w (cmdL 0 ⟨#[]⟩) 45) _) _, ?_, below3 w _ _ _, by simp, ?_⟩
  · have := row_list ((w.alloc (.cells (cmdL 0 ⟨#[]⟩).toArray 45)).alloc (.map (ents 12) 12)) (cmdL op s) 45
    simpa [cmdL, cmdX, nilV] using this
  · rw [heap_alloc_old _ _ (by simp)]
    have h5 := heap_alloc_new (w.alloc (.cells (cmdL 0 ⟨#[]⟩).toArray 45)) (.map (ents 12) 12)
    simpa using h5

set_option maxRecDepth 100000 in
set_option maxHeartbeats 2000000 in
theorem short_part (y z u : Nat) (hy : y < 256) (hz : z < 256) (hu : u < 256) (op : Int) (hop : 1 + (y : Int) % 15 = op) (F i : Nat) (hlk : Instr.findNow (.int .i64) (.int .i64 op) (ents 12).toList 0 = some (some (i, .func (.func F) #[] #[])))
    (eg : ∀ args w, (callFunc F args).run Try.prog w = .ok (.enter F args) w) (cm : CmdR) (hc : CmdV cm) (hP : PartOk F op (keyN (y / 15)) z u cm) (w : World) :
    Calls Try.prog 77 #[.int .i64 y, .int .i64 z, .int .i64 u] w fun e w' => ∃ v, e = .returned v ∧ CmdRes cm w' v ∧ Below w.heap.size w w' := by
  obtain ⟨W3, hW3, hT3, hC3, hb3, hs3, hm3⟩ := short_world w op (keyN (y / 15))
  have hlk3 := look_some W3 (w.heap.size + 1) (ents 12) 12 op i (.func (.func F) #[] #[]) hm3 hlk
  have hP3 := hP W3 (w.heap.size + 1 + 1) [w.heap.size] hC3 (by simp; omega)
  have hc30 : W3.cell? ⟨w.heap.size + 1 + 1, 0, none⟩ = some (.int .i64 op) := World.rowIs.cell hC3 (i := 0) (by decide)
  have hmk : ∀ w, (Instr.makeMap 154 none).run Try.prog w = .ok (.map (some w.heap.size)) (w.alloc (.map (ents 0) 0)) := fun _ => rfl
  have u0 := short_upd 0 1 (.func (.func 104) #[] #[]) rfl rfl (w.alloc (.cells (cmdL 0 ⟨#[]⟩).toArray 45))
  have u1 := short_upd 1 2 (.func (.func 104) #[] #[]) rfl rfl (w.alloc (.cells (cmdL 0 ⟨#[]⟩).toArray 45))
  have u2 := short_upd 2 3 (.func (.func 104) #[] #[]) rfl rfl (w.alloc (.cells (cmdL 0 ⟨#[]⟩).toArray 45))
  have u3 := short_upd 3 5 (.func (.func 105) #[] #[]) rfl rfl (w.alloc (.cells (cmdL 0 ⟨#[]⟩).toArray 45))
  have u4 := short_upd 4 6 (.func (.func 99) #[] #[]) rfl rfl (w.alloc (.cells (cmdL 0 ⟨#[]⟩).toArray 45))
  have u5 := short_upd 5 8 (.func (.func 106) #[] #[]) rfl rfl (w.alloc (.cells (cmdL 0 ⟨#[]⟩).toArray 45))
  have u6 := short_upd 6 9 (.func (.func 106) #[] #[]) rfl rfl (w.alloc (.cells (cmdL 0 ⟨#[]⟩).toArray 45))
  have u7 := short_upd 7 10 (.func (.func 107) #[] #[]) rfl rfl (w.alloc (.cells (cmdL 0 ⟨#[]⟩).toArray 45))
  have u8 := short_upd 8 11 (.func (.func 101) #[] #[]) rfl rfl (w.alloc (.cells (cmdL 0 ⟨#[]⟩).toArray 45))
  have u9 := short_upd 9 12 (.func (.func 101) #[] #[]) rfl rfl (w.alloc (.cells (cmdL 0 ⟨#[]⟩).toArray 45))
  have u10 := short_upd 10 14 (.func (.func 103) #[] #[]) rfl rfl (w.alloc (.cells (cmdL 0 ⟨#[]⟩).toArray 45))
  have u11 := short_upd 11 15 (.func (.func 103) #[] #[]) rfl rfl (w.alloc (.cells (cmdL 0 ⟨#[]⟩).toArray 45))
  have hsz : (w.alloc (.cells (cmdL 0 ⟨#[]⟩).toArray 45)).heap.size = w.heap.size + 1 := by simp
  simp only [hsz] at u0 u1 u2 u3 u4 u5 u6 u7 u8 u9 u10 u11
  simp only [cmdL] at u0 u1 u2 u3 u4 u5 u6 u7 u8 u9 u10 u11 hW3
  have HK := Lib.hid (fun w => key102 (y / 15) (by omega) w)
  have HP3 := Lib.hid hP3
  have HT3 := Lib.hid hT3
  have HC3 := Lib.hid hC3
  have HB3 := Lib.hid hb3
  rw [hW3] at hlk3 hc30
  have HW3 := Lib.hid hW3
  clear hW3
  clear hsz hP3 hT3 hC3 hb3 hP hlk hm3
  go_enter Try.func77, Try.ntmps77
  go_wp2_with fail
  refine (HK.out _).mono ?_
  rintro e w1 ⟨rfl, rfl⟩
  go_wp2_with fail
  rw [← HW3.out]
  clear HW3 u0 u1 u2 u3 u4 u5 u6 u7 u8 u9 u10 u11 hmk hlk3 hc30
  refine HP3.out.mono ?_
  rintro e w4 ⟨rfl, vk, vv, vt, hC4, hvk, hvv, hvt, hk4⟩
  have hT4 := hk4.row (by simp; omega) HT3.out
  obtain ⟨A6, c6, rfl⟩ : ∃ A c, vk = .slice A cm.keys.length c := by obtain ⟨A, c, h, _⟩ := hvk; exact ⟨A, c, h⟩
  obtain ⟨A7, c7, rfl⟩ : ∃ A c, vv = .slice A cm.val.length c := by obtain ⟨A, c, h, _⟩ := hvv; exact ⟨A, c, h⟩
  obtain ⟨A8, c8, rfl⟩ : ∃ A c, vt = .slice A cm.tags.length c := by obtain ⟨A, c, h, _⟩ := hvt; exact ⟨A, c, h⟩
  have hCC := Lib.hid (row_cells hC4 _ rfl fun i hi => rfl)
  have HTT := Lib.hid (row_there hT4)
  have HC4 := Lib.hid hC4
  have HT4 := Lib.hid hT4
  have HVK := Lib.hid hvk
  have HVV := Lib.hid hvv
  have HVT := Lib.hid hvt
  have HK4 := Lib.hid hk4
  have hs4 := hk4.size
  clear hC4 hT4 hvk hvv hvt hk4
  go_wp2_with (first
    | ((with_reducible refine wpList_load_agg (o := ⟨some 40, _, _, _, _, _⟩) rfl 45 _ rfl ⟨w.heap.size + 1 + 1, 0, none⟩ ?_ (cmdC cm (.slice A6 cm.keys.length c6) (.slice A7 cm.val.length c7) (.slice A8 cm.tags.length c8)) _ hCC.out Try.underlying45 rfl (cmdC_size _ _ _ _) ?_); (· rfl))
    | ((with_reducible refine wpList_store_at2 (op := ⟨none, _, _, _, _, _⟩) rfl 45 _ _ rfl w.heap.size 0 (cmdC cm (.slice A6 cm.keys.length c6) (.slice A7 cm.val.length c7) (.slice A8 cm.tags.length c8)).toArray ?_ ?_ ?_ (cmdC_sizeA _ _ _ _) ?_ ?_); (· rfl); (· rfl); (· exact HTT.out); (· exact cmdC_one _ rfl rfl rfl); intro w5 hw5))
  have hD5 := store_all HT4.out (cmdC cm (.slice A6 cm.keys.length c6) (.slice A7 cm.val.length c7) (.slice A8 cm.tags.length c8)) rfl
  have hc5 := row_cells hD5 _ rfl fun i hi => rfl
  have hk5 : Kept [w.heap.size] w4 (w4.setCells w.heap.size 0 (cmdC cm (.slice A6 cm.keys.length c6) (.slice A7 cm.val.length c7) (.slice A8 cm.tags.length c8))) := kept_setCells (by simp) _ _ _ (Kept.refl _ _)
  have hk35 := (HK4.out.mono (L' := [w.heap.size, w.heap.size + 1 + 1]) (by simp)).trans (hk5.mono (by simp))
  refine bodyPost_ret (results_cell1 rfl _ _ ⟨w.heap.size, 0, none⟩ _ rfl (run_loadVar_at _ _ _ _ _ hc5 Try.underlying45 rfl (cmdC_size _ _ _ _))) rfl ⟨_, rfl, ⟨_, _, _, rfl, ?_⟩, HB3.out.trans (hk35.below (by omega) (by simp; omega))⟩
  exact cmdOk_of hc (HVK.out.kept hk5 (by simp)) (HVV.out.kept hk5 (by simp)) (HVT.out.kept hk5 (by simp))
set_option maxRecDepth 100000 in
set_option maxHeartbeats 2000000 in
theorem short_none (y z u : Nat) (hy : y < 256) (op : Int) (hop : 1 + (y : Int) % 15 = op) (hlk : Instr.findNow (.int .i64) (.int .i64 op) (ents 12).toList 0 = some none) (w : World) :
    Calls Try.prog 77 #[.int .i64 y, .int .i64 z, .int .i64 u] w fun e w' => ∃ v, e = .returned v ∧ CmdRes ⟨op, keyN (y / 15), [], [], [], 0, 0, eB, eB, eB⟩ w' v ∧ Below w.heap.size w w' := by
  obtain ⟨W3, hW3, hT3, hC3, hb3, hs3, hm3⟩ := short_world w op (keyN (y / 15))
  have hlk3 := look_none W3 (w.heap.size + 1) (ents 12) 12 op hm3 hlk
  have hc30 : W3.cell? ⟨w.heap.size + 1 + 1, 0, none⟩ = some (.int .i64 op) := World.rowIs.cell hC3 (i := 0) (by decide)
  have hmk : ∀ w, (Instr.makeMap 154 none).run Try.prog w = .ok (.map (some w.heap.size)) (w.alloc (.map (ents 0) 0)) := fun _ => rfl
  have u0 := short_upd 0 1 (.func (.func 104) #[] #[]) rfl rfl (w.alloc (.cells (cmdL 0 ⟨#[]⟩).toArray 45))
  have u1 := short_upd 1 2 (.func (.func 104) #[] #[]) rfl rfl (w.alloc (.cells (cmdL 0 ⟨#[]⟩).toArray 45))
  have u2 := short_upd 2 3 (.func (.func 104) #[] #[]) rfl rfl (w.alloc (.cells (cmdL 0 ⟨#[]⟩).toArray 45))
  have u3 := short_upd 3 5 (.func (.func 105) #[] #[]) rfl rfl (w.alloc (.cells (cmdL 0 ⟨#[]⟩).toArray 45))
  have u4 := short_upd 4 6 (.func (.func 99) #[] #[]) rfl rfl (w.alloc (.cells (cmdL 0 ⟨#[]⟩).toArray 45))
  have u5 := short_upd 5 8 (.func (.func 106) #[] #[]) rfl rfl (w.alloc (.cells (cmdL 0 ⟨#[]⟩).toArray 45))
  have u6 := short_upd 6 9 (.func (.func 106) #[] #[]) rfl rfl (w.alloc (.cells (cmdL 0 ⟨#[]⟩).toArray 45))
  have u7 := short_upd 7 10 (.func (.func 107) #[] #[]) rfl rfl (w.alloc (.cells (cmdL 0 ⟨#[]⟩).toArray 45))
  have u8 := short_upd 8 11 (.func (.func 101) #[] #[]) rfl rfl (w.alloc (.cells (cmdL 0 ⟨#[]⟩).toArray 45))
  have u9 := short_upd 9 12 (.func (.func 101) #[] #[]) rfl rfl (w.alloc (.cells (cmdL 0 ⟨#[]⟩).toArray 45))
  have u10 := short_upd 10 14 (.func (.func 103) #[] #[]) rfl rfl (w.alloc (.cells (cmdL 0 ⟨#[]⟩).toArray 45))
  have u11 := short_upd 11 15 (.func (.func 103) #[] #[]) rfl rfl (w.alloc (.cells (cmdL 0 ⟨#[]⟩).toArray 45))
  have hsz : (w.alloc (.cells (cmdL 0 ⟨#[]⟩).toArray 45)).heap.size = w.heap.size + 1 := by simp
  simp only [hsz] at u0 u1 u2 u3 u4 u5 u6 u7 u8 u9 u10 u11
  simp only [cmdL] at u0 u1 u2 u3 u4 u5 u6 u7 u8 u9 u10 u11 hW3
  have HK := Lib.hid (fun w => key102 (y / 15) (by omega) w)
  have HT3 := Lib.hid hT3
  have HC3 := Lib.hid hC3
  have HB3 := Lib.hid hb3
  rw [hW3] at hlk3 hc30
  have HW3 := Lib.hid hW3
  clear hW3
  clear hsz hT3 hC3 hb3 hlk hm3
  go_enter Try.func77, Try.ntmps77
  go_wp2_with fail
  refine (HK.out _).mono ?_
  rintro e w1 ⟨rfl, rfl⟩
  go_wp2_with fail
  refine bodyPost_ret (results_cell_row rfl _ _ w.heap.size 45 (cmdL op (keyN (y / 15))).toArray (0, 0) _ rfl (by rw [heap_alloc_old _ _ (by simp; omega), heap_alloc_old _ _ (by simp)]; exact heap_alloc_new w _) Try.underlying45 rfl (cmdL_sizeA _ _)) rfl ⟨_, rfl, ⟨nilV, nilV, nilV, rfl, cmdOk_nil _ _ _ rfl rfl rfl⟩, below3 w _ _ _⟩
theorem enter99 : ∀ args w, (callFunc 99 args).run Try.prog w = .ok (.enter 99 args) w := by
  intro args w
  simp [callFunc, Try.func99, Try.f99]
theorem enter101 : ∀ args w, (callFunc 101 args).run Try.prog w = .ok (.enter 101 args) w := by
  intro args w
  simp [callFunc, Try.func101, Try.f101]
theorem enter103 : ∀ args w, (callFunc 103 args).run Try.prog w = .ok (.enter 103 args) w := by
  intro args w
  simp [callFunc, Try.func103, Try.f103]
theorem enter104 : ∀ args w, (callFunc 104 args).run Try.prog w = .ok (.enter 104 args) w := by
  intro args w
  simp [callFunc, Try.func104, Try.f104]
theorem enter105 : ∀ args w, (callFunc 105 args).run Try.prog w = .ok (.enter 105 args) w := by
  intro args w
  simp [callFunc, Try.func105, Try.f105]
theorem enter106 : ∀ args w, (callFunc 106 args).run Try.prog w = .ok (.enter 106 args) w := by
  intro args w
  simp [callFunc, Try.func106, Try.f106]
theorem enter107 : ∀ args w, (callFunc 107 args).run Try.prog w = .ok (.enter 107 args) w := by
  intro args w
  simp [callFunc, Try.func107, Try.f107]
theorem partOk_plain {F : Nat} {op : Int} {s key tag pre chi : ByteArray} {life ver : Int} {z u : Nat}
    (h : ∀ (C : Nat) (W : World), W.rowIs C 45 10 (listF (cmdX op s nilV nilV nilV 0 0 ⟨#[]⟩ ⟨#[]⟩ ⟨#[]⟩)) → Calls Try.prog F #[.pointer (some ⟨C, 0, none⟩), .int .i64 z, .int .i64 u] W fun e w' =>
      e = .returned (.tuple #[]) ∧ w'.rowIs C 45 10 (listF (cmdX op key nilV nilV nilV life ver tag pre chi)) ∧ Kept [C] W w') : PartOk F op s z u ⟨op, key, [], [], [], life, ver, tag, pre, chi⟩ := fun W C N hC hN =>
  (h C W hC).mono fun e w' ⟨h1, h2, h3⟩ => ⟨h1, nilV, nilV, nilV, h2, SlN.nil _ _, SlX.nil _ _, SlN.nil _ _, h3⟩

theorem keysTo_many (y z : Nat) : keysTo (keyN (y / 15)) z 8 = manyN y z := by
  unfold keysTo manyN
  by_cases h : z = 0
  · subst h
    rw [if_pos rfl, if_pos rfl]
    have : ((List.range 8).filter fun i => 0 / 2 ^ i % 2 == 1) = [] := by decide
    rw [this]
    rfl
  · rw [if_neg h, if_neg h]
    rfl
/-- the command of a short request, walked -/
theorem short_any (y z u : Nat) (hy : y < 256) (hz : z < 256) (hu : u < 256) (w : World) :
    Calls Try.prog 77 #[.int .i64 y, .int .i64 z, .int .i64 u] w fun e w' => ∃ v, e = .returned v ∧ CmdRes (shortR y z u) w' v ∧ Below w.heap.size w w' := by
  have hc := shortR_ok y z u hz hu
  have k104 : ∀ (op : Int) (ver : Int), (op = 1 ∨ op = 2 ∨ op = 3) → (if op = 3 then ((u / 16 : Nat) : Int) else 0) = ver → PartOk 104 op (keyN (y / 15)) z u ⟨op, keyN (y / 15), [], List.replicate (z % 4) (97 + (u % 16 : Nat)), tagsN (z / 4), (lifeN (z / 16) : Nat), ver, eB, eB, eB⟩ := fun op ver hop hv W C N hC hN => by
    subst hv
    exact (part104 op (keyN (y / 15)) z u C N W hz hu hN hop hC).mono fun e w' ⟨h1, vv, vt, h2, h3, h4, h5⟩ => ⟨h1, nilV, vv, vt, h2, SlN.nil _ _, h3, h4, h5⟩
  have e15 : (y : Int) % 15 = ((y % 15 : Nat) : Int) := by omega
  obtain ⟨j, hj⟩ : ∃ j, y % 15 = j := ⟨_, rfl⟩
  have hj15 : j < 15 := by omega
  unfold shortR at hc ⊢
  rw [hj] at hc e15 ⊢
  match j, hj15 with
  | 0, _ => exact short_part y z u hy hz hu 1 (by omega) 104 0 rfl enter104 _ hc (k104 1 0 (.inl rfl) rfl) w
  | 1, _ => exact short_part y z u hy hz hu 2 (by omega) 104 1 rfl enter104 _ hc (k104 2 0 (.inr (.inl rfl)) rfl) w
  | 2, _ => exact short_part y z u hy hz hu 3 (by omega) 104 2 rfl enter104 _ hc (k104 3 _ (.inr (.inr rfl)) rfl) w
  | 3, _ => exact short_none y z u hy 4 (by omega) rfl w
  | 4, _ =>
    refine short_part y z u hy hz hu 5 (by omega) 105 3 rfl enter105 _ hc (fun W C N hC hN => ?_) w
    refine (part105 5 (keyN (y / 15)) z u C N W hz hN hC).mono fun e w' ⟨h1, vk, h2, h3, h4⟩ => ⟨h1, vk, nilV, nilV, h2, ?_, SlX.nil _ _, SlN.nil _ _, h4⟩
    rw [keysTo_many] at h3
    exact h3
  | 5, _ => exact short_part y z u hy hz hu 6 (by omega) 99 4 rfl enter99 _ hc (partOk_plain fun C W hC => part99 6 _ z u C W hz hC) w
  | 6, _ => exact short_none y z u hy 7 (by omega) rfl w
  | 7, _ => exact short_part y z u hy hz hu 8 (by omega) 106 5 rfl enter106 _ hc (partOk_plain fun C W hC => part106 8 _ z u C W hz hC) w
  | 8, _ => exact short_part y z u hy hz hu 9 (by omega) 106 6 rfl enter106 _ hc (partOk_plain fun C W hC => part106 9 _ z u C W hz hC) w
  | 9, _ => exact short_part y z u hy hz hu 10 (by omega) 107 7 rfl enter107 _ hc (partOk_plain fun C W hC => part107 10 _ z u C W hz hC) w
  | 10, _ => exact short_part y z u hy hz hu 11 (by omega) 101 8 rfl enter101 _ hc (partOk_plain fun C W hC => part101 11 _ z u C W hz hC) w
  | 11, _ => exact short_part y z u hy hz hu 12 (by omega) 101 9 rfl enter101 _ hc (partOk_plain fun C W hC => part101 12 _ z u C W hz hC) w
  | 12, _ => exact short_none y z u hy 13 (by omega) rfl w
  | 13, _ => exact short_part y z u hy hz hu 14 (by omega) 103 10 rfl enter103 _ hc (partOk_plain fun C W hC => part103 14 _ z u C W hC) w
  | 14, _ => exact short_part y z u hy hz hu 15 (by omega) 103 11 rfl enter103 _ hc (partOk_plain fun C W hC => part103 15 _ z u C W hC) w
/-- a short request gives the bytes of its command -/
theorem reqok_any (y z u : Nat) (hy : y < 256) (hz : z < 256) (hu : u < 256) : ReqOk y z u (reqB y z u) := by
  have hc := shortR_ok y z u hz hu
  refine ⟨CmdRes (shortR y z u), (shortR y z u).op, pay (shortR y z u), short_any y z u hy hz hu, ?_, short_len y z u hz hu, rfl⟩
  rintro w v ⟨vk, vv, vt, rfl, hok⟩
  exact write_any (shortR y z u) _ rfl hc vk vv vt w hok
theorem parseOk_all (xs : List Int) (hx : ∀ y ∈ xs, 0 ≤ y ∧ y < 256) : ParseOk xs (stepsOf xs) := parseOk_any reqok_any xs.length xs (Nat.le_refl _) hx
end Go.Proofs.Ytnmhmabifeapkaa.Ord
