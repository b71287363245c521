/- A short request that gets the second key; what the examples of the chapter parse to. -/
import Derived.Test.YtnmhmabifeapkaaR20
namespace Go.Proofs.Ytnmhmabifeapkaa.Ord
open Go.RowKit
set_option linter.unusedVariables false

theorem index_key1 (w : World) : (Instr.index 183 (.agg keysV) (.int .i64 1)).run Try.prog w = .ok (.string ⟨#[98]⟩) w := by
  unfold Instr.index
  simp [asIntOf, run_underlying Try.underlying183, part, Try.isAgg9, Try.sizeOf9, keysV]
set_option maxRecDepth 100000 in
theorem key_one (w : World) : Calls Try.prog 102 #[.int .i64 1] w fun e w' => e = .returned (.string ⟨#[98]⟩) ∧ w' = w := by
  have hi := index_key1 w
  unfold keysV at hi
  go_enter Try.func102, Try.ntmps102
  go_wp2_with fail
  go_ret
  exact ⟨rfl, rfl⟩

set_option maxRecDepth 100000 in
set_option maxHeartbeats 2000000 in
theorem short_getb (z u : Int) (w : World) : Calls Try.prog 77 #[.int .i64 18, .int .i64 z, .int .i64 u] w fun e w' => e = .returned (.agg (cmdL 4 ⟨#[98]⟩).toArray) ∧ Below w.heap.size w w' := by
  have hmk : ∀ w, (Instr.makeMap 154 none).run Try.prog w = .ok (.map (some w.heap.size)) (w.alloc (.map (ents 0) 0)) := fun _ => rfl
  have u0 := short_upd 0 1 (.func (.func 104) #[] #[]) rfl rfl (w.alloc (.cells (cmdL 0 ⟨#[]⟩).toArray 45))
  have u1 := short_upd 1 2 (.func (.func 104) #[] #[]) rfl rfl (w.alloc (.cells (cmdL 0 ⟨#[]⟩).toArray 45))
  have u2 := short_upd 2 3 (.func (.func 104) #[] #[]) rfl rfl (w.alloc (.cells (cmdL 0 ⟨#[]⟩).toArray 45))
  have u3 := short_upd 3 5 (.func (.func 105) #[] #[]) rfl rfl (w.alloc (.cells (cmdL 0 ⟨#[]⟩).toArray 45))
  have u4 := short_upd 4 6 (.func (.func 99) #[] #[]) rfl rfl (w.alloc (.cells (cmdL 0 ⟨#[]⟩).toArray 45))
  have u5 := short_upd 5 8 (.func (.func 106) #[] #[]) rfl rfl (w.alloc (.cells (cmdL 0 ⟨#[]⟩).toArray 45))
  have u6 := short_upd 6 9 (.func (.func 106) #[] #[]) rfl rfl (w.alloc (.cells (cmdL 0 ⟨#[]⟩).toArray 45))
  have u7 := short_upd 7 10 (.func (.func 107) #[] #[]) rfl rfl (w.alloc (.cells (cmdL 0 ⟨#[]⟩).toArray 45))
  have u8 := short_upd 8 11 (.func (.func 101) #[] #[]) rfl rfl (w.alloc (.cells (cmdL 0 ⟨#[]⟩).toArray 45))
  have u9 := short_upd 9 12 (.func (.func 101) #[] #[]) rfl rfl (w.alloc (.cells (cmdL 0 ⟨#[]⟩).toArray 45))
  have u10 := short_upd 10 14 (.func (.func 103) #[] #[]) rfl rfl (w.alloc (.cells (cmdL 0 ⟨#[]⟩).toArray 45))
  have u11 := short_upd 11 15 (.func (.func 103) #[] #[]) rfl rfl (w.alloc (.cells (cmdL 0 ⟨#[]⟩).toArray 45))
  have hsz : (w.alloc (.cells (cmdL 0 ⟨#[]⟩).toArray 45)).heap.size = w.heap.size + 1 := by simp
  simp only [hsz] at u0 u1 u2 u3 u4 u5 u6 u7 u8 u9 u10 u11
  simp only [cmdL] at u0 u1 u2 u3 u4 u5 u6 u7 u8 u9 u10 u11
  have hsz2 := hsz
  have HSZ := Lib.hid hsz2
  clear hsz hsz2
  go_enter Try.func77, Try.ntmps77
  go_wp2_with fail
  refine (key_one _).mono ?_
  rintro e w1 ⟨rfl, rfl⟩
  have hlk := look_none (((w.alloc (.cells (cmdL 0 ⟨#[]⟩).toArray 45)).alloc (.map (ents 12) 12)).alloc (.cells (cmdL 4 ⟨#[98]⟩).toArray 45)) (w.heap.size + 1) (ents 12) 12 4 (by rw [heap_alloc_old _ _ (by simp)]; have h5 := heap_alloc_new (w.alloc (.cells (cmdL 0 ⟨#[]⟩).toArray 45)) (.map (ents 12) 12); rwa [HSZ.out] at h5) rfl
  simp only [cmdL] at hlk
  go_wp2_with fail
  refine bodyPost_ret (results_cell_row rfl _ _ w.heap.size 45 (cmdL 4 ⟨#[98]⟩).toArray (0, 0) _ rfl (by rw [heap_alloc_old _ _ (by simp; omega), heap_alloc_old _ _ (by simp)]; exact heap_alloc_new w _) Try.underlying45 rfl (cmdL_sizeA _ _)) rfl ⟨rfl, below3 w _ _ _⟩

theorem reqok_getb (z u : Int) : ReqOk 18 z u [3, 4, 1, 98] := by
  refine ⟨fun _ v => v = .agg (cmdL 4 ⟨#[98]⟩).toArray, 4, [1, 98], fun w => (short_getb z u w).mono fun e w' ⟨h1, h2⟩ => ⟨_, h1, rfl, h2⟩, fun w v hv => hv ▸ (write_get ⟨#[98]⟩ (by decide) (by decide) w).mono fun e w' ⟨v, h1, ⟨A, c, h2, h3, _⟩, h4⟩ => ?_, by simp, ?_⟩
  · subst h2
    have e1 : putV (ByteArray.size ⟨#[98]⟩) ++ sBytes ⟨#[98]⟩ = [1, 98] := by
      rw [show ByteArray.size ⟨#[98]⟩ = 1 from rfl, putV_small (by decide)]; rfl
    rw [e1] at h1 h3
    exact ⟨A, 2, c, h1, rfl, h3, h4⟩
  · rw [show ([1, 98] : List Int).length + 1 = 3 from rfl, putV_small (by decide)]; rfl

theorem parse1 : ParseOk [2, 18] [⟨1, 0, 0, []⟩, ⟨1, 0, 0, []⟩] :=
  .cons (rest := [18]) (fun B N Q w h1 h2 => step_connect B N Q _ w h1 h2 rfl) (by decide) (.cons (rest := []) (fun B N Q w h1 h2 => step_connect B N Q _ w h1 h2 rfl) (by decide) .nil)
theorem parse2 : ParseOk [3, 2, 65, 66] [⟨2, 0, 0, [65, 66]⟩] :=
  .cons (rest := []) (fun B N Q w h1 h2 => step_data B N Q _ w h1 h2 rfl) (by decide) .nil
theorem parse3 : ParseOk [19, 1] [⟨2, 1, 0, [0]⟩] :=
  .cons (rest := []) (fun B N Q w h1 h2 => step_data B N Q _ w h1 h2 rfl) (by decide) .nil
theorem parse4 : ParseOk [0, 17, 4, 9, 70, 5, 39] [⟨3, 0, 0, []⟩, ⟨3, 1, 0, []⟩, ⟨4, 0, 9, []⟩, ⟨6, 4, 5, []⟩, ⟨7, 2, 0, []⟩] :=
  .cons (rest := [17, 4, 9, 70, 5, 39]) (fun B N Q w h1 h2 => step_micro0 B N Q _ w h1 h2 rfl) (by decide) <|
  .cons (rest := [4, 9, 70, 5, 39]) (fun B N Q w h1 h2 => step_micro1 B N Q _ w h1 h2 rfl) (by decide) <|
  .cons (rest := [70, 5, 39]) (fun B N Q w h1 h2 => step_tick B N Q _ w h1 h2 rfl) (by decide) <|
  .cons (rest := [39]) (fun B N Q w h1 h2 => step_drain B N Q _ w h1 h2 rfl) (by decide) <|
  .cons (rest := []) (fun B N Q w h1 h2 => step_gone B N Q _ w h1 h2 rfl) (by decide) .nil
theorem parse5 : ParseOk [8, 3, 0, 0, 8, 18, 0, 0] [⟨2, 0, 0, [3, 4, 1, 97]⟩, ⟨2, 0, 0, [3, 4, 1, 98]⟩] :=
  .cons (rest := [8, 18, 0, 0]) (fun B N Q w h1 h2 => step_req B N Q _ _ w h1 h2 (by decide) (reqok_get 0 0)) (by decide) <|
  .cons (rest := []) (fun B N Q w h1 h2 => step_req B N Q _ _ w h1 h2 (by decide) (reqok_getb 0 0)) (by decide) .nil
theorem parse6 : ParseOk [24, 13, 0, 0] [⟨2, 1, 0, [1, 14]⟩] :=
  .cons (rest := []) (fun B N Q w h1 h2 => step_req B N Q _ _ w h1 h2 (by decide) (reqok_flush 0 0)) (by decide) .nil
end Go.Proofs.Ytnmhmabifeapkaa.Ord
