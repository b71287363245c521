/- Walks of the commands of short requests: a Get and a Flush. -/
import Derived.Test.YtnmhmabifeapkaaR8
import Derived.MapKept

namespace Go.Proofs.Ytnmhmabifeapkaa.Ord
open Go.RowKit
set_option linter.unusedVariables false

theorem set_alloc (W : World) (o o' : Obj) : ({ W.alloc o with heap := (W.alloc o).heap.setIfInBounds W.heap.size o' } : World) = W.alloc o' := by
  have h : (W.heap.push o).setIfInBounds W.heap.size o' = W.heap.push o' := by
    apply Array.ext_getElem?
    intro k
    simp only [Array.getElem?_setIfInBounds, Array.getElem?_push]
    by_cases hk : k = W.heap.size
    · subst hk; simp
    · simp [hk, Ne.symm hk]
  show ({ heap := (W.heap.push o).setIfInBounds W.heap.size o', tape := W.tape, drawn := W.drawn, os := W.os, output := W.output } : World) = { heap := W.heap.push o', tape := W.tape, drawn := W.drawn, os := W.os, output := W.output }
  rw [h]
theorem upd_new (W : World) (n : Nat) (hn : W.heap.size = n) (es : Array MapEntry) (c : Nat) (kk : Int) (v : Value) (hk : Instr.findNow (.int .i64) (.int .i64 kk) es.toList 0 = some none) :
    (Instr.mapUpdate 154 (.map (some n)) (.int .i64 kk) v).run Try.prog (W.alloc (.map es c)) = .ok () (W.alloc (.map (es.push { key := .int .i64 kk, val := v, born := c }) (c + 1))) := by
  subst hn
  have hb : (W.alloc (.map es c)).heap[W.heap.size]? = some (.map es c) := heap_alloc_new W _
  have h1 := Go.MapKept.run_getObj_map (P := Try.prog) hb
  have h2 : (Instr.checkKey false 10000 40 (.int .i64 kk)).run Try.prog (W.alloc (.map es c)) = .ok () (W.alloc (.map es c)) := Go.MapKept.run_checkKey Try.underlying40 (by simp [Go.MapKept.IsKey]) false 9999
  have h3 := Go.MapKept.run_findKey (P := Try.prog) (w := W.alloc (.map es c)) (kt := 40) Try.underlying40 hk
  have h4 := Go.MapKept.run_setObj_map (P := Try.prog) (.map (es.push { key := .int .i64 kk, val := v, born := c }) (c + 1)) hb
  unfold Instr.mapUpdate
  rw [Sem.run_bind, run_underlying Try.underlying154]
  simp only [Result.andThen_ok]
  rw [Sem.run_bind, h1]
  simp only [Result.andThen_ok]
  rw [Sem.run_bind, h2]
  simp only [Result.andThen_ok]
  rw [Sem.run_bind, h3]
  simp only [Result.andThen_ok]
  rw [h4, set_alloc]

theorem look_none (W : World) (n : Nat) (es : Array MapEntry) (c : Nat) (kk : Int) (hb : W.heap[n]? = some (.map es c)) (hk : Instr.findNow (.int .i64) (.int .i64 kk) es.toList 0 = some none) :
    (Instr.lookup 154 (.map (some n)) (.int .i64 kk) true).run Try.prog W = .ok (.tuple #[.nilFunc, .bool false]) W := by
  have h1 := Go.MapKept.run_getObj_map (P := Try.prog) hb
  have h2 : ∀ e, (Instr.checkKey e 10000 40 (.int .i64 kk)).run Try.prog W = .ok () W := fun e => Go.MapKept.run_checkKey Try.underlying40 (by simp [Go.MapKept.IsKey]) e 9999
  have h3 := Go.MapKept.run_findKey (P := Try.prog) (w := W) (kt := 40) Try.underlying40 hk
  unfold Instr.lookup
  rw [Sem.run_bind, run_underlying Try.underlying154]
  simp only [Result.andThen_ok]
  simp only [Sem.run_bind, h1, h2, h3, Result.andThen_ok, Sem.run_pure, Try.zeroValue152, if_true]
theorem look_some (W : World) (n : Nat) (es : Array MapEntry) (c : Nat) (kk : Int) (i : Nat) (v : Value) (hb : W.heap[n]? = some (.map es c)) (hk : Instr.findNow (.int .i64) (.int .i64 kk) es.toList 0 = some (some (i, v))) :
    (Instr.lookup 154 (.map (some n)) (.int .i64 kk) true).run Try.prog W = .ok (.tuple #[v, .bool true]) W := by
  have h1 := Go.MapKept.run_getObj_map (P := Try.prog) hb
  have h2 : ∀ e, (Instr.checkKey e 10000 40 (.int .i64 kk)).run Try.prog W = .ok () W := fun e => Go.MapKept.run_checkKey Try.underlying40 (by simp [Go.MapKept.IsKey]) e 9999
  have h3 := Go.MapKept.run_findKey (P := Try.prog) (w := W) (kt := 40) Try.underlying40 hk
  unfold Instr.lookup
  rw [Sem.run_bind, run_underlying Try.underlying154]
  simp only [Result.andThen_ok]
  simp only [Sem.run_bind, h1, h2, h3, Result.andThen_ok, Sem.run_pure, if_true]

def ents (k : Nat) : Array MapEntry := (([{ key := .int .i64 1, val := .func (.func 104) #[] #[], born := 0 }, { key := .int .i64 2, val := .func (.func 104) #[] #[], born := 1 }, { key := .int .i64 3, val := .func (.func 104) #[] #[], born := 2 }, { key := .int .i64 5, val := .func (.func 105) #[] #[], born := 3 }, { key := .int .i64 6, val := .func (.func 99) #[] #[], born := 4 }, { key := .int .i64 8, val := .func (.func 106) #[] #[], born := 5 }, { key := .int .i64 9, val := .func (.func 106) #[] #[], born := 6 }, { key := .int .i64 10, val := .func (.func 107) #[] #[], born := 7 }, { key := .int .i64 11, val := .func (.func 101) #[] #[], born := 8 }, { key := .int .i64 12, val := .func (.func 101) #[] #[], born := 9 }, { key := .int .i64 14, val := .func (.func 103) #[] #[], born := 10 }, { key := .int .i64 15, val := .func (.func 103) #[] #[], born := 11 }] : List MapEntry).take k).toArray
theorem short_upd (i : Nat) (kk : Int) (v : Value) (hk : Instr.findNow (.int .i64) (.int .i64 kk) (ents i).toList 0 = some none) (he : (ents i).push { key := .int .i64 kk, val := v, born := i } = ents (i + 1)) (W : World) :
    (Instr.mapUpdate 154 (.map (some W.heap.size)) (.int .i64 kk) v).run Try.prog (W.alloc (.map (ents i) i)) = .ok () (W.alloc (.map (ents (i + 1)) (i + 1))) := by
  rw [upd_new W _ rfl _ _ _ _ hk, he]

def keysV : Array Value := #[.string ⟨#[97]⟩, .string ⟨#[98]⟩, .string ⟨#[99]⟩, .string ⟨#[97, 47]⟩, .string ⟨#[97, 47, 49]⟩, .string ⟨#[97, 47, 50]⟩, .string ⟨#[98, 47, 49]⟩, .string ⟨#[120, 47, 121, 47, 122]⟩]
theorem index_key (w : World) : (Instr.index 183 (.agg keysV) (.int .i64 0)).run Try.prog w = .ok (.string ⟨#[97]⟩) w := by
  unfold Instr.index
  simp [asIntOf, run_underlying Try.underlying183, part, Try.isAgg9, Try.sizeOf9, keysV]
set_option maxRecDepth 100000 in
theorem key_zero (w : World) : Calls Try.prog 102 #[.int .i64 0] w fun e w' => e = .returned (.string ⟨#[97]⟩) ∧ w' = w := by
  have hi := index_key w
  unfold keysV at hi
  go_enter Try.func102, Try.ntmps102
  go_wp2_with fail
  go_ret
  exact ⟨rfl, rfl⟩

set_option maxRecDepth 100000 in
set_option maxHeartbeats 2000000 in
theorem short_get (z u : Int) (w : World) : Calls Try.prog 77 #[.int .i64 3, .int .i64 z, .int .i64 u] w fun e w' => e = .returned (.agg (cmdL 4 ⟨#[97]⟩).toArray) ∧ Below w.heap.size w w' := by
  have hmk : ∀ w, (Instr.makeMap 154 none).run Try.prog w = .ok (.map (some w.heap.size)) (w.alloc (.map (ents 0) 0)) := fun _ => rfl
  have u0 := short_upd 0 1 (.func (.func 104) #[] #[]) rfl rfl (w.alloc (.cells (cmdL 0 ⟨#[]⟩).toArray 45))
  have u1 := short_upd 1 2 (.func (.func 104) #[] #[]) rfl rfl (w.alloc (.cells (cmdL 0 ⟨#[]⟩).toArray 45))
  have u2 := short_upd 2 3 (.func (.func 104) #[] #[]) rfl rfl (w.alloc (.cells (cmdL 0 ⟨#[]⟩).toArray 45))
  have u3 := short_upd 3 5 (.func (.func 105) #[] #[]) rfl rfl (w.alloc (.cells (cmdL 0 ⟨#[]⟩).toArray 45))
  have u4 := short_upd 4 6 (.func (.func 99) #[] #[]) rfl rfl (w.alloc (.cells (cmdL 0 ⟨#[]⟩).toArray 45))
  have u5 := short_upd 5 8 (.func (.func 106) #[] #[]) rfl rfl (w.alloc (.cells (cmdL 0 ⟨#[]⟩).toArray 45))
  have u6 := short_upd 6 9 (.func (.func 106) #[] #[]) rfl rfl (w.alloc (.cells (cmdL 0 ⟨#[]⟩).toArray 45))
  have u7 := short_upd 7 10 (.func (.func 107) #[] #[]) rfl rfl (w.alloc (.cells (cmdL 0 ⟨#[]⟩).toArray 45))
  have u8 := short_upd 8 11 (.func (.func 101) #[] #[]) rfl rfl (w.alloc (.cells (cmdL 0 ⟨#[]⟩).toArray 45))
  have u9 := short_upd 9 12 (.func (.func 101) #[] #[]) rfl rfl (w.alloc (.cells (cmdL 0 ⟨#[]⟩).toArray 45))
  have u10 := short_upd 10 14 (.func (.func 103) #[] #[]) rfl rfl (w.alloc (.cells (cmdL 0 ⟨#[]⟩).toArray 45))
  have u11 := short_upd 11 15 (.func (.func 103) #[] #[]) rfl rfl (w.alloc (.cells (cmdL 0 ⟨#[]⟩).toArray 45))
  have hsz : (w.alloc (.cells (cmdL 0 ⟨#[]⟩).toArray 45)).heap.size = w.heap.size + 1 := by simp
  simp only [hsz] at u0 u1 u2 u3 u4 u5 u6 u7 u8 u9 u10 u11
  simp only [cmdL] at u0 u1 u2 u3 u4 u5 u6 u7 u8 u9 u10 u11
  have hsz2 := hsz
  have HSZ := Lib.hid hsz2
  clear hsz hsz2
  go_enter Try.func77, Try.ntmps77
  go_wp2_with fail
  refine (key_zero _).mono ?_
  rintro e w1 ⟨rfl, rfl⟩
  have hlk := look_none (((w.alloc (.cells (cmdL 0 ⟨#[]⟩).toArray 45)).alloc (.map (ents 12) 12)).alloc (.cells (cmdL 4 ⟨#[97]⟩).toArray 45)) (w.heap.size + 1) (ents 12) 12 4 (by rw [heap_alloc_old _ _ (by simp)]; have h5 := heap_alloc_new (w.alloc (.cells (cmdL 0 ⟨#[]⟩).toArray 45)) (.map (ents 12) 12); rwa [HSZ.out] at h5) rfl
  simp only [cmdL] at hlk
  go_wp2_with fail
  refine bodyPost_ret (results_cell_row rfl _ _ w.heap.size 45 (cmdL 4 ⟨#[97]⟩).toArray (0, 0) _ rfl (by rw [heap_alloc_old _ _ (by simp; omega), heap_alloc_old _ _ (by simp)]; exact heap_alloc_new w _) Try.underlying45 rfl (cmdL_sizeA _ _)) rfl ⟨rfl, below3 w _ _ _⟩
set_option maxRecDepth 100000 in
set_option maxHeartbeats 2000000 in
theorem short_flush (z u : Int) (w : World) : Calls Try.prog 77 #[.int .i64 13, .int .i64 z, .int .i64 u] w fun e w' => e = .returned (.agg (cmdL 14 ⟨#[]⟩).toArray) ∧ Below w.heap.size w w' := by
  have hmk : ∀ w, (Instr.makeMap 154 none).run Try.prog w = .ok (.map (some w.heap.size)) (w.alloc (.map (ents 0) 0)) := fun _ => rfl
  have u0 := short_upd 0 1 (.func (.func 104) #[] #[]) rfl rfl (w.alloc (.cells (cmdL 0 ⟨#[]⟩).toArray 45))
  have u1 := short_upd 1 2 (.func (.func 104) #[] #[]) rfl rfl (w.alloc (.cells (cmdL 0 ⟨#[]⟩).toArray 45))
  have u2 := short_upd 2 3 (.func (.func 104) #[] #[]) rfl rfl (w.alloc (.cells (cmdL 0 ⟨#[]⟩).toArray 45))
  have u3 := short_upd 3 5 (.func (.func 105) #[] #[]) rfl rfl (w.alloc (.cells (cmdL 0 ⟨#[]⟩).toArray 45))
  have u4 := short_upd 4 6 (.func (.func 99) #[] #[]) rfl rfl (w.alloc (.cells (cmdL 0 ⟨#[]⟩).toArray 45))
  have u5 := short_upd 5 8 (.func (.func 106) #[] #[]) rfl rfl (w.alloc (.cells (cmdL 0 ⟨#[]⟩).toArray 45))
  have u6 := short_upd 6 9 (.func (.func 106) #[] #[]) rfl rfl (w.alloc (.cells (cmdL 0 ⟨#[]⟩).toArray 45))
  have u7 := short_upd 7 10 (.func (.func 107) #[] #[]) rfl rfl (w.alloc (.cells (cmdL 0 ⟨#[]⟩).toArray 45))
  have u8 := short_upd 8 11 (.func (.func 101) #[] #[]) rfl rfl (w.alloc (.cells (cmdL 0 ⟨#[]⟩).toArray 45))
  have u9 := short_upd 9 12 (.func (.func 101) #[] #[]) rfl rfl (w.alloc (.cells (cmdL 0 ⟨#[]⟩).toArray 45))
  have u10 := short_upd 10 14 (.func (.func 103) #[] #[]) rfl rfl (w.alloc (.cells (cmdL 0 ⟨#[]⟩).toArray 45))
  have u11 := short_upd 11 15 (.func (.func 103) #[] #[]) rfl rfl (w.alloc (.cells (cmdL 0 ⟨#[]⟩).toArray 45))
  have hsz : (w.alloc (.cells (cmdL 0 ⟨#[]⟩).toArray 45)).heap.size = w.heap.size + 1 := by simp
  simp only [hsz] at u0 u1 u2 u3 u4 u5 u6 u7 u8 u9 u10 u11
  simp only [cmdL] at u0 u1 u2 u3 u4 u5 u6 u7 u8 u9 u10 u11
  have hsz2 := hsz
  have HSZ := Lib.hid hsz2
  clear hsz hsz2
  go_enter Try.func77, Try.ntmps77
  go_wp2_with fail
  refine (key_zero _).mono ?_
  rintro e w1 ⟨rfl, rfl⟩
  have hlk := look_some (((w.alloc (.cells (cmdL 0 ⟨#[]⟩).toArray 45)).alloc (.map (ents 12) 12)).alloc (.cells (cmdL 14 ⟨#[97]⟩).toArray 45)) (w.heap.size + 1) (ents 12) 12 14 10 (.func (.func 103) #[] #[]) (by rw [heap_alloc_old _ _ (by simp)]; have h5 := heap_alloc_new (w.alloc (.cells (cmdL 0 ⟨#[]⟩).toArray 45)) (.map (ents 12) 12); rwa [HSZ.out] at h5) rfl
  simp only [cmdL] at hlk
  go_wp2_with fail
  go_enter Try.func103, Try.ntmps103
  go_wp2_with fail
  go_end0
  go_wp2_with fail
  refine bodyPost_ret (results_cell_row rfl _ _ w.heap.size 45 (cmdL 14 ⟨#[]⟩).toArray (0, 0) _ rfl (by rw [heap_alloc_old _ _ (by simp; omega), heap_alloc_old _ _ (by simp)]; exact heap_alloc_new w _) Try.underlying45 rfl (cmdL_sizeA _ _)) rfl ⟨rfl, below3 w _ _ _⟩
end Go.Proofs.Ytnmhmabifeapkaa.Ord
