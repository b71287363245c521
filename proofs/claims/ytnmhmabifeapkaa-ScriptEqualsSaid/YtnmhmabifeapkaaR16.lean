/- Walk of a script's step. -/
import Derived.Test.YtnmhmabifeapkaaR15
namespace Go.Proofs.Ytnmhmabifeapkaa.Ord
open Go.RowKit
set_option linter.unusedVariables false

/-- what a step is: kind, connection, number, bytes -/
structure StepR where
  k : Int
  c : Int
  n : Int
  d : List Int
def stepL (k c n : Int) (v : Value) : List Value := [.int .i64 k, .int .i64 c, .int .i64 n, v]
def StepPost (B : Nat) (N : List Nat) (Q : Nat) (r : StepR) (rest : List Int) (w : World) (e : Ending) (w' : World) : Prop :=
  ∃ v, e = .returned (.agg (stepL r.k r.c r.n v).toArray) ∧ Own8 w' w.heap.size v r.d ∧ ReadAt w' B N Q rest ∧ Kept [Q] w w'
theorem own_ne_row {w : World} {base : Nat} {e t : TypeId} {size n m Q : Nat} {f : Nat → Value} {v : Value} {xs : List Value} (h : w.ownsRow base e size v n xs) (hr : w.rowIs Q t m f) (ht : t ≠ e) : v.ownBlock ≠ some Q := by
  intro he
  rcases h.2 with ⟨h1, _⟩ | ⟨g, cap, cur, h1, _, hh, _⟩
  · subst h1; cases he
  · subst h1
    cases he
    obtain ⟨cs, h2, _⟩ := hr
    rw [hh] at h2
    cases h2
    exact ht rfl
theorem own_ne_own {w : World} {base base' : Nat} {e e' : TypeId} {size size' n n' : Nat} {v v' : Value} {xs xs' : List Value} (h : w.ownsRow base e size v n xs) (h' : w.ownsRow base' e' size' v' n' xs') (ht : e ≠ e') : v.ownBlock = none ∨ v.ownBlock ≠ v'.ownBlock := by
  rcases h.2 with ⟨h1, _⟩ | ⟨g, cap, cur, h1, _, hh, _⟩
  · subst h1; exact .inl rfl
  · right
    subst h1
    intro he
    rcases h'.2 with ⟨h1', _⟩ | ⟨g', cap', cur', h1', _, hh', _⟩
    · subst h1'; cases he
    · subst h1'
      cases he
      rw [hh] at hh'
      cases hh'
      exact ht rfl
theorem Kept.own2 {L : List Nat} {a b : World} (h : Kept L a b) {base : Nat} {e : TypeId} {size : Nat} {v : Value} {n : Nat} {xs : List Value} (hown : a.ownsRow base e size v n xs) (hL : ∀ k ∈ L, v.ownBlock ≠ some k) : b.ownsRow base e size v n xs := by
  refine ⟨hown.1, ?_⟩
  rcases hown.2 with hn | ⟨g, cap, cur, rfl, hb, hgg, rest⟩
  · exact .inl hn
  · refine .inr ⟨g, cap, cur, rfl, hb, ?_, rest⟩
    rw [h.block g (Array.getElem?_eq_some_iff.1 hgg).1 (fun hm => hL g hm rfl)]
    exact hgg
theorem stepL_size (k c n : Int) (v : Value) : (Try.prog.info? 35).map (·.size) = some (stepL k c n v).length := by
  have h : (Try.prog.info? 35).map (·.size) = some 4 := by kernel_rfl
  exact h
theorem stepL_one (k c n : Int) (A : Option Addr) (l cap : Nat) : (stepL k c n (.slice A l cap)).toArray.all (·.oneCell') = true := all_oneCell_toArray fun v hv => by
  simp only [stepL, List.mem_cons, List.not_mem_nil, or_false] at hv
  rcases hv with rfl | rfl | rfl | rfl <;> rfl
/-- the result's cells, stored -/
theorem step_fin {B : Nat} {N : List Nat} {Q : Nat} {w w2 : World} {rest : List Int} (hB : B ≤ w.heap.size) (k c n : Int) (v : Value) (d : List Int)
    (hk : Kept [Q] (w.alloc (.cells (stepL 0 0 0 (.slice none 0 0)).toArray 35)) w2) (hQ : Q < w.heap.size) (hR : ReadAt w2 B N Q rest) (hv : Own8 w2 (w.heap.size + 1) v d) :
    ∃ w3, w3 = w2.setCells w.heap.size 0 (stepL k c n v) ∧ (loadVar 35 ⟨w.heap.size, 0, none⟩).run Try.prog w3 = .ok (.agg (stepL k c n v).toArray) w3 ∧ Own8 w3 w.heap.size v d ∧ ReadAt w3 B N Q rest ∧ Kept [Q] w w3 := by
  have hrow : w2.rowIs w.heap.size 35 4 (listF (stepL 0 0 0 (.slice none 0 0))) := hk.row (by simp; omega) (row_list w (stepL 0 0 0 (.slice none 0 0)) 35)
  have hst := store_all hrow (stepL k c n v) rfl
  have hcs := row_cells hst (stepL k c n v) rfl fun i hi => rfl
  have hk3 : Kept [w.heap.size] w2 (w2.setCells w.heap.size 0 (stepL k c n v)) := kept_setCells (by simp) _ _ _ (Kept.refl _ _)
  refine ⟨_, rfl, run_loadVar_at _ _ _ _ _ hcs Try.underlying35 rfl (stepL_size k c n v), ?_, hR.kept hk3 (by simp; omega) (by simp; omega), ?_⟩
  · exact owns_mono (hk3.own2 hv (fun k hk he => by have := (hv.lt k he).1; simp at hk; omega)) (Nat.le_succ _)
  · have hkw : Kept [Q] w w2 := (Kept.of_below (below1 w _)).trans hk
    have h5 : Kept [Q, w.heap.size] w (w2.setCells w.heap.size 0 (stepL k c n v)) := (hkw.mono (by simp)).trans (hk3.mono (by simp))
    exact ⟨h5.os, h5.tape, h5.output, h5.size, fun k hk hn => h5.block k hk (by simp at hn ⊢; omega)⟩

theorem results_cell1 {P : Program} {fn : Func} {p : Tmp} {ty : TypeId} (h : fn.results = #[.cell p ty]) (tmps : Array Value) (w : World) (ad : Addr) (v : Value)
    (hp : tmps.getD p undef = .pointer (some ad)) (hl : (loadVar ty ad).run P w = .ok v w) : (results fn tmps).run P w = .ok v w := by
  have hp' : tmps[p]?.getD undef = .pointer (some ad) := by simpa using hp
  simp [results, h, hp', asAddr, hl]
set_option maxRecDepth 100000 in
set_option maxHeartbeats 2000000 in
theorem step_micro0 (B : Nat) (N : List Nat) (Q : Nat) (xs : List Int) (w : World) (hB : B ≤ w.heap.size) (h : ReadAt w B N Q xs) (h4 : xs.headD 0 % 16 = 0) :
    Calls Try.prog 38 #[.pointer (some ⟨Q, 0, none⟩)] w fun e w' => StepPost B N Q ⟨3, xs.headD 0 / 16, 0, []⟩ xs.tail w e w' := by
  have hba := below1 w (.cells (stepL 0 0 0 (.slice none 0 0)).toArray 35)
  have hQB := h.2.1
  have H1 := Lib.hid (next_any B N Q xs _ (h.below hba hB))
  have hx0 : 0 ≤ xs.headD 0 ∧ xs.headD 0 < 256 := by
    cases xs with
    | nil => simp
    | cons x ys => exact h.2.2.1 x (by simp)
  obtain ⟨x, hx⟩ : ∃ x, xs.headD 0 = x := ⟨_, rfl⟩
  obtain ⟨x1, hx1⟩ : ∃ x1, xs.tail = x1 := ⟨_, rfl⟩
  rw [hx, hx1] at H1
  rw [hx] at h4 hx0
  rw [hx, hx1]
  clear hx hx1 h
  go_enter Try.func38, Try.ntmps38
  go_wp2_with fail
  refine H1.out.mono ?_
  rintro e w1 ⟨rfl, hR1, hk1⟩
  have HT := Lib.hid (row_there (hk1.row (by simp; omega) (row_list w (stepL 0 0 0 (.slice none 0 0)) 35)))
  go_wp2_with ((with_reducible refine wpList_store_at2 (op := ⟨none, _, _, _, _, _⟩) rfl 35 _ _ rfl w.heap.size 0 (stepL 3 (x / 16) 0 (.slice none 0 0)).toArray ?_ ?_ ?_ (stepL_size _ _ _ _) ?_ ?_); (· rfl); (· rfl); (· exact HT.out); (· exact stepL_one _ _ _ _ _ _); intro w3 hw3)
  obtain ⟨w4, hw4, hl, hs, hr, hkk⟩ := step_fin hB 3 (x / 16) 0 (.slice none 0 0) [] hk1 (by omega) hR1 (Own8.nil _ _)
  rw [← hw4]
  exact bodyPost_ret (results_cell1 rfl _ _ ⟨w.heap.size, 0, none⟩ _ rfl hl) rfl ⟨_, rfl, hs, hr, hkk⟩
set_option maxRecDepth 100000 in
set_option maxHeartbeats 2000000 in
theorem step_micro1 (B : Nat) (N : List Nat) (Q : Nat) (xs : List Int) (w : World) (hB : B ≤ w.heap.size) (h : ReadAt w B N Q xs) (h4 : xs.headD 0 % 16 = 1) :
    Calls Try.prog 38 #[.pointer (some ⟨Q, 0, none⟩)] w fun e w' => StepPost B N Q ⟨3, xs.headD 0 / 16, 0, []⟩ xs.tail w e w' := by
  have hba := below1 w (.cells (stepL 0 0 0 (.slice none 0 0)).toArray 35)
  have hQB := h.2.1
  have H1 := Lib.hid (next_any B N Q xs _ (h.below hba hB))
  have hx0 : 0 ≤ xs.headD 0 ∧ xs.headD 0 < 256 := by
    cases xs with
    | nil => simp
    | cons x ys => exact h.2.2.1 x (by simp)
  obtain ⟨x, hx⟩ : ∃ x, xs.headD 0 = x := ⟨_, rfl⟩
  obtain ⟨x1, hx1⟩ : ∃ x1, xs.tail = x1 := ⟨_, rfl⟩
  rw [hx, hx1] at H1
  rw [hx] at h4 hx0
  rw [hx, hx1]
  clear hx hx1 h
  go_enter Try.func38, Try.ntmps38
  go_wp2_with fail
  refine H1.out.mono ?_
  rintro e w1 ⟨rfl, hR1, hk1⟩
  have HT := Lib.hid (row_there (hk1.row (by simp; omega) (row_list w (stepL 0 0 0 (.slice none 0 0)) 35)))
  go_wp2_with ((with_reducible refine wpList_store_at2 (op := ⟨none, _, _, _, _, _⟩) rfl 35 _ _ rfl w.heap.size 0 (stepL 3 (x / 16) 0 (.slice none 0 0)).toArray ?_ ?_ ?_ (stepL_size _ _ _ _) ?_ ?_); (· rfl); (· rfl); (· exact HT.out); (· exact stepL_one _ _ _ _ _ _); intro w3 hw3)
  obtain ⟨w4, hw4, hl, hs, hr, hkk⟩ := step_fin hB 3 (x / 16) 0 (.slice none 0 0) [] hk1 (by omega) hR1 (Own8.nil _ _)
  rw [← hw4]
  exact bodyPost_ret (results_cell1 rfl _ _ ⟨w.heap.size, 0, none⟩ _ rfl hl) rfl ⟨_, rfl, hs, hr, hkk⟩
set_option maxRecDepth 100000 in
set_option maxHeartbeats 2000000 in
theorem step_connect (B : Nat) (N : List Nat) (Q : Nat) (xs : List Int) (w : World) (hB : B ≤ w.heap.size) (h : ReadAt w B N Q xs) (h4 : xs.headD 0 % 16 = 2) :
    Calls Try.prog 38 #[.pointer (some ⟨Q, 0, none⟩)] w fun e w' => StepPost B N Q ⟨1, 0, 0, []⟩ xs.tail w e w' := by
  have hba := below1 w (.cells (stepL 0 0 0 (.slice none 0 0)).toArray 35)
  have hQB := h.2.1
  have H1 := Lib.hid (next_any B N Q xs _ (h.below hba hB))
  have hx0 : 0 ≤ xs.headD 0 ∧ xs.headD 0 < 256 := by
    cases xs with
    | nil => simp
    | cons x ys => exact h.2.2.1 x (by simp)
  obtain ⟨x, hx⟩ : ∃ x, xs.headD 0 = x := ⟨_, rfl⟩
  obtain ⟨x1, hx1⟩ : ∃ x1, xs.tail = x1 := ⟨_, rfl⟩
  rw [hx, hx1] at H1
  rw [hx] at h4 hx0
  rw [hx1]
  clear hx hx1 h
  go_enter Try.func38, Try.ntmps38
  go_wp2_with fail
  refine H1.out.mono ?_
  rintro e w1 ⟨rfl, hR1, hk1⟩
  have HT := Lib.hid (row_there (hk1.row (by simp; omega) (row_list w (stepL 0 0 0 (.slice none 0 0)) 35)))
  go_wp2_with ((with_reducible refine wpList_store_at2 (op := ⟨none, _, _, _, _, _⟩) rfl 35 _ _ rfl w.heap.size 0 (stepL 1 0 0 (.slice none 0 0)).toArray ?_ ?_ ?_ (stepL_size _ _ _ _) ?_ ?_); (· rfl); (· rfl); (· exact HT.out); (· exact stepL_one _ _ _ _ _ _); intro w3 hw3)
  obtain ⟨w4, hw4, hl, hs, hr, hkk⟩ := step_fin hB 1 0 0 (.slice none 0 0) [] hk1 (by omega) hR1 (Own8.nil _ _)
  rw [← hw4]
  exact bodyPost_ret (results_cell1 rfl _ _ ⟨w.heap.size, 0, none⟩ _ rfl hl) rfl ⟨_, rfl, hs, hr, hkk⟩
set_option maxRecDepth 100000 in
set_option maxHeartbeats 2000000 in
theorem step_tick (B : Nat) (N : List Nat) (Q : Nat) (xs : List Int) (w : World) (hB : B ≤ w.heap.size) (h : ReadAt w B N Q xs) (h4 : xs.headD 0 % 16 = 4) :
    Calls Try.prog 38 #[.pointer (some ⟨Q, 0, none⟩)] w fun e w' => StepPost B N Q ⟨4, 0, xs.tail.headD 0, []⟩ xs.tail.tail w e w' := by
  have hba := below1 w (.cells (stepL 0 0 0 (.slice none 0 0)).toArray 35)
  have hQB := h.2.1
  have H1 := Lib.hid (next_any B N Q xs _ (h.below hba hB))
  have hx0 : 0 ≤ xs.headD 0 ∧ xs.headD 0 < 256 := by
    cases xs with
    | nil => simp
    | cons x ys => exact h.2.2.1 x (by simp)
  obtain ⟨x, hx⟩ : ∃ x, xs.headD 0 = x := ⟨_, rfl⟩
  obtain ⟨x1, hx1⟩ : ∃ x1, xs.tail = x1 := ⟨_, rfl⟩
  rw [hx, hx1] at H1
  rw [hx] at h4 hx0
  rw [hx1]
  clear hx hx1 h
  obtain ⟨n, hn⟩ : ∃ n, x1.headD 0 = n := ⟨_, rfl⟩
  rw [hn]
  have HN := Lib.hid hn
  clear hn
  go_enter Try.func38, Try.ntmps38
  go_wp2_with fail
  refine H1.out.mono ?_
  rintro e w1 ⟨rfl, hR1, hk1⟩
  have H2 := Lib.hid (next_any B N Q x1 _ hR1)
  rw [HN.out] at H2
  go_wp2_with fail
  refine H2.out.mono ?_
  rintro e w2 ⟨rfl, hR2, hk2⟩
  have hk12 := hk1.trans hk2
  have HT := Lib.hid (row_there (hk12.row (by simp; omega) (row_list w (stepL 0 0 0 (.slice none 0 0)) 35)))
  go_wp2_with ((with_reducible refine wpList_store_at2 (op := ⟨none, _, _, _, _, _⟩) rfl 35 _ _ rfl w.heap.size 0 (stepL 4 0 n (.slice none 0 0)).toArray ?_ ?_ ?_ (stepL_size _ _ _ _) ?_ ?_); (· rfl); (· rfl); (· exact HT.out); (· exact stepL_one _ _ _ _ _ _); intro w3 hw3)
  obtain ⟨w4, hw4, hl, hs, hr, hkk⟩ := step_fin hB 4 0 n (.slice none 0 0) [] hk12 (by omega) hR2 (Own8.nil _ _)
  rw [← hw4]
  exact bodyPost_ret (results_cell1 rfl _ _ ⟨w.heap.size, 0, none⟩ _ rfl hl) rfl ⟨_, rfl, hs, hr, hkk⟩
set_option maxRecDepth 100000 in
set_option maxHeartbeats 2000000 in
theorem step_sweep (B : Nat) (N : List Nat) (Q : Nat) (xs : List Int) (w : World) (hB : B ≤ w.heap.size) (h : ReadAt w B N Q xs) (h4 : xs.headD 0 % 16 = 5) :
    Calls Try.prog 38 #[.pointer (some ⟨Q, 0, none⟩)] w fun e w' => StepPost B N Q ⟨5, 0, xs.tail.headD 0, []⟩ xs.tail.tail w e w' := by
  have hba := below1 w (.cells (stepL 0 0 0 (.slice none 0 0)).toArray 35)
  have hQB := h.2.1
  have H1 := Lib.hid (next_any B N Q xs _ (h.below hba hB))
  have hx0 : 0 ≤ xs.headD 0 ∧ xs.headD 0 < 256 := by
    cases xs with
    | nil => simp
    | cons x ys => exact h.2.2.1 x (by simp)
  obtain ⟨x, hx⟩ : ∃ x, xs.headD 0 = x := ⟨_, rfl⟩
  obtain ⟨x1, hx1⟩ : ∃ x1, xs.tail = x1 := ⟨_, rfl⟩
  rw [hx, hx1] at H1
  rw [hx] at h4 hx0
  rw [hx1]
  clear hx hx1 h
  obtain ⟨n, hn⟩ : ∃ n, x1.headD 0 = n := ⟨_, rfl⟩
  rw [hn]
  have HN := Lib.hid hn
  clear hn
  go_enter Try.func38, Try.ntmps38
  go_wp2_with fail
  refine H1.out.mono ?_
  rintro e w1 ⟨rfl, hR1, hk1⟩
  have H2 := Lib.hid (next_any B N Q x1 _ hR1)
  rw [HN.out] at H2
  go_wp2_with fail
  refine H2.out.mono ?_
  rintro e w2 ⟨rfl, hR2, hk2⟩
  have hk12 := hk1.trans hk2
  have HT := Lib.hid (row_there (hk12.row (by simp; omega) (row_list w (stepL 0 0 0 (.slice none 0 0)) 35)))
  go_wp2_with ((with_reducible refine wpList_store_at2 (op := ⟨none, _, _, _, _, _⟩) rfl 35 _ _ rfl w.heap.size 0 (stepL 5 0 n (.slice none 0 0)).toArray ?_ ?_ ?_ (stepL_size _ _ _ _) ?_ ?_); (· rfl); (· rfl); (· exact HT.out); (· exact stepL_one _ _ _ _ _ _); intro w3 hw3)
  obtain ⟨w4, hw4, hl, hs, hr, hkk⟩ := step_fin hB 5 0 n (.slice none 0 0) [] hk12 (by omega) hR2 (Own8.nil _ _)
  rw [← hw4]
  exact bodyPost_ret (results_cell1 rfl _ _ ⟨w.heap.size, 0, none⟩ _ rfl hl) rfl ⟨_, rfl, hs, hr, hkk⟩
set_option maxRecDepth 100000 in
set_option maxHeartbeats 2000000 in
theorem step_drain (B : Nat) (N : List Nat) (Q : Nat) (xs : List Int) (w : World) (hB : B ≤ w.heap.size) (h : ReadAt w B N Q xs) (h4 : xs.headD 0 % 16 = 6) :
    Calls Try.prog 38 #[.pointer (some ⟨Q, 0, none⟩)] w fun e w' => StepPost B N Q ⟨6, xs.headD 0 / 16, xs.tail.headD 0, []⟩ xs.tail.tail w e w' := by
  have hba := below1 w (.cells (stepL 0 0 0 (.slice none 0 0)).toArray 35)
  have hQB := h.2.1
  have H1 := Lib.hid (next_any B N Q xs _ (h.below hba hB))
  have hx0 : 0 ≤ xs.headD 0 ∧ xs.headD 0 < 256 := by
    cases xs with
    | nil => simp
    | cons x ys => exact h.2.2.1 x (by simp)
  obtain ⟨x, hx⟩ : ∃ x, xs.headD 0 = x := ⟨_, rfl⟩
  obtain ⟨x1, hx1⟩ : ∃ x1, xs.tail = x1 := ⟨_, rfl⟩
  rw [hx, hx1] at H1
  rw [hx] at h4 hx0
  rw [hx, hx1]
  clear hx hx1 h
  obtain ⟨n, hn⟩ : ∃ n, x1.headD 0 = n := ⟨_, rfl⟩
  rw [hn]
  have HN := Lib.hid hn
  clear hn
  go_enter Try.func38, Try.ntmps38
  go_wp2_with fail
  refine H1.out.mono ?_
  rintro e w1 ⟨rfl, hR1, hk1⟩
  have H2 := Lib.hid (next_any B N Q x1 _ hR1)
  rw [HN.out] at H2
  go_wp2_with fail
  refine H2.out.mono ?_
  rintro e w2 ⟨rfl, hR2, hk2⟩
  have hk12 := hk1.trans hk2
  have HT := Lib.hid (row_there (hk12.row (by simp; omega) (row_list w (stepL 0 0 0 (.slice none 0 0)) 35)))
  go_wp2_with ((with_reducible refine wpList_store_at2 (op := ⟨none, _, _, _, _, _⟩) rfl 35 _ _ rfl w.heap.size 0 (stepL 6 (x / 16) n (.slice none 0 0)).toArray ?_ ?_ ?_ (stepL_size _ _ _ _) ?_ ?_); (· rfl); (· rfl); (· exact HT.out); (· exact stepL_one _ _ _ _ _ _); intro w3 hw3)
  obtain ⟨w4, hw4, hl, hs, hr, hkk⟩ := step_fin hB 6 (x / 16) n (.slice none 0 0) [] hk12 (by omega) hR2 (Own8.nil _ _)
  rw [← hw4]
  exact bodyPost_ret (results_cell1 rfl _ _ ⟨w.heap.size, 0, none⟩ _ rfl hl) rfl ⟨_, rfl, hs, hr, hkk⟩
set_option maxRecDepth 100000 in
set_option maxHeartbeats 2000000 in
theorem step_gone (B : Nat) (N : List Nat) (Q : Nat) (xs : List Int) (w : World) (hB : B ≤ w.heap.size) (h : ReadAt w B N Q xs) (h4 : xs.headD 0 % 16 = 7) :
    Calls Try.prog 38 #[.pointer (some ⟨Q, 0, none⟩)] w fun e w' => StepPost B N Q ⟨7, xs.headD 0 / 16, 0, []⟩ xs.tail w e w' := by
  have hba := below1 w (.cells (stepL 0 0 0 (.slice none 0 0)).toArray 35)
  have hQB := h.2.1
  have H1 := Lib.hid (next_any B N Q xs _ (h.below hba hB))
  have hx0 : 0 ≤ xs.headD 0 ∧ xs.headD 0 < 256 := by
    cases xs with
    | nil => simp
    | cons x ys => exact h.2.2.1 x (by simp)
  obtain ⟨x, hx⟩ : ∃ x, xs.headD 0 = x := ⟨_, rfl⟩
  obtain ⟨x1, hx1⟩ : ∃ x1, xs.tail = x1 := ⟨_, rfl⟩
  rw [hx, hx1] at H1
  rw [hx] at h4 hx0
  rw [hx, hx1]
  clear hx hx1 h
  go_enter Try.func38, Try.ntmps38
  go_wp2_with fail
  refine H1.out.mono ?_
  rintro e w1 ⟨rfl, hR1, hk1⟩
  have HT := Lib.hid (row_there (hk1.row (by simp; omega) (row_list w (stepL 0 0 0 (.slice none 0 0)) 35)))
  go_wp2_with ((with_reducible refine wpList_store_at2 (op := ⟨none, _, _, _, _, _⟩) rfl 35 _ _ rfl w.heap.size 0 (stepL 7 (x / 16) 0 (.slice none 0 0)).toArray ?_ ?_ ?_ (stepL_size _ _ _ _) ?_ ?_); (· rfl); (· rfl); (· exact HT.out); (· exact stepL_one _ _ _ _ _ _); intro w3 hw3)
  obtain ⟨w4, hw4, hl, hs, hr, hkk⟩ := step_fin hB 7 (x / 16) 0 (.slice none 0 0) [] hk1 (by omega) hR1 (Own8.nil _ _)
  rw [← hw4]
  exact bodyPost_ret (results_cell1 rfl _ _ ⟨w.heap.size, 0, none⟩ _ rfl hl) rfl ⟨_, rfl, hs, hr, hkk⟩
end Go.Proofs.Ytnmhmabifeapkaa.Ord
