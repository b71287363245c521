/- Walks of the reader of numbers and bytes. -/
import Derived.Test.YtnmhmabifeapkaaR4
namespace Go.Proofs.Ytnmhmabifeapkaa.Ord
open Go.RowKit
set_option linter.unusedVariables false

def rdF (v : Value) : Nat → Value
  | 0 => .bool true
  | _ => v
/-- a slice of bytes in a value, in none of some blocks -/
def SlX (w : World) (N : List Nat) (v : Value) (xs : List Int) : Prop := ∃ A c, v = .slice A xs.length c ∧ Byt w w.heap.size A c xs ∧ ∀ b off, A = some ⟨b, off, none⟩ → b ∉ N
theorem SlX.of_slb {w : World} {B : Nat} {N : List Nat} {v : Value} {xs : List Int} (h : SlB w B v xs) (hN : ∀ k ∈ N, k < B) : SlX w N v xs := by
  obtain ⟨A, c, h1, h2, h3⟩ := h
  exact ⟨A, c, h1, h2, fun b off hA hm => by have := h3 b off hA; have := hN b hm; omega⟩
theorem SlX.kept {w w' : World} {N L : List Nat} {v : Value} {xs : List Int} (h : SlX w N v xs) (hk : Kept L w w') (hL : ∀ k ∈ L, k ∈ N) : SlX w' N v xs := by
  obtain ⟨A, c, h1, h2, h3⟩ := h
  exact ⟨A, c, h1, hk.byt h2 fun x off hA hm => h3 x off hA (hL x hm), h3⟩

set_option maxRecDepth 100000 in
theorem new_any (A : Option Addr) (k c : Nat) (xs : List Int) (w : World) (hk : xs.length = k) (hl : k ≤ 1000000) (hA : Byt w w.heap.size A c xs) :
    Calls Try.prog 134 #[.slice A k c] w fun e w' => ∃ R v, e = .returned (.pointer (some ⟨R, 0, none⟩)) ∧ w.heap.size ≤ R ∧ w'.rowIs R 196 2 (rdF v) ∧ (∀ NL : List Nat, (∀ k ∈ NL, k = R ∨ k < w.heap.size ∨ w'.heap.size ≤ k) → SlX w' NL v xs) ∧ Below w.heap.size w w' := by
  have HC := Lib.hid (clone_any A k c xs w hk (by omega) hA)
  go_enter Try.func134, Try.ntmps134
  go_wp2_with fail
  refine HC.out.mono ?_
  rintro e w1 ⟨v1, rfl, hown1, hb1⟩
  obtain ⟨A1, c1, rfl, hby1⟩ := hown1.val
  go_wp2_with fail
  go_ret
  have hlt : ∀ b off, A1 = some ⟨b, off, none⟩ → w.heap.size ≤ b ∧ b < w1.heap.size := fun b off hA => by
    rcases owns_shape hown1.raw (by decide) with ⟨h1, _, _⟩ | ⟨g, cap, h1, h0, h2, _⟩
    · simp at h1; simp [h1.1] at hA
    · simp at h1
      rw [h1.1] at hA
      cases hA
      exact ⟨h0, h2⟩
  refine ⟨_, .slice A1 k c1, rfl, hb1.size, World.rowIs_alloc w1 #[.bool true, .slice A1 k c1] 196 _ (fun i hi => ?_), (fun NL hN => ⟨A1, c1, by rw [hk], (hby1.below (below1 w1 _) (Nat.le_refl _)).mono (by simp), fun b off hA hm => by have h5 := hlt b off hA; have h6 := hN b hm; simp at h6; omega⟩), hb1.trans ((below1 w1 _).mono hb1.size)⟩
  match i, hi with
  | 0, _ => rfl
  | 1, _ => rfl

theorem take_end {R : Nat} {NL : List Nat} (hRN : R ∈ NL) {w w1 : World} {A' : Option Addr} {L c' : Nat} {v0 : Value} {rest : List Int} (hR1 : w1.rowIs R 196 2 (rdF v0)) (hbw : Below w.heap.size w w1) (hL : rest.length = L) (hby : Byt w1 w1.heap.size A' c' rest) (hne : ∀ b off, A' = some ⟨b, off, none⟩ → b ∉ NL) :
    (w1.setCell ⟨R, 1, none⟩ (.slice A' L c')).rowIs R 196 2 (rdF (.slice A' L c')) ∧ SlX (w1.setCell ⟨R, 1, none⟩ (.slice A' L c')) NL (.slice A' L c') rest ∧ Kept [R] w (w1.setCell ⟨R, 1, none⟩ (.slice A' L c')) := by
  have hk2 : Kept [R] w1 (w1.setCell ⟨R, 1, none⟩ (.slice A' L c')) := (Kept.refl _ _).setCell (by simp) _
  refine ⟨World.rowIs.congr (World.rowIs.set hR1 1 _) (fun i hi => ?_), ⟨A', c', by rw [hL], hk2.byt hby (fun x off hA hm => hne x off hA (by simp at hm; rw [hm]; exact hRN)), hne⟩, (Kept.of_below hbw).trans hk2⟩
  match i, hi with
  | 0, _ => rfl
  | 1, _ => rfl

set_option maxRecDepth 100000 in
set_option maxHeartbeats 1000000 in
theorem bytes_any (NL : List Nat) (R most : Nat) (hRN : R ∈ NL) (v : Value) (p rest : List Int) (w : World) (hget : GetOk p.length) (hl : (putV p.length ++ (p ++ rest)).length ≤ 1000000) (hm : p.length ≤ most) (hm2 : most ≤ 1000000)
    (hR : w.rowIs R 196 2 (rdF v)) (hv : SlX w NL v (putV p.length ++ (p ++ rest))) :
    Calls Try.prog 143 #[.pointer (some ⟨R, 0, none⟩), .int .i64 most] w fun e w' => ∃ vp v', e = .returned (.tuple #[vp, .int .i64 0]) ∧ Own8 w' w.heap.size vp p ∧ w'.rowIs R 196 2 (rdF v') ∧ SlX w' NL v' rest ∧ Kept [R] w w' := by
  obtain ⟨A, c, rfl, hA, hAR⟩ := hv
  have h0 : w.cell? ⟨R, 0, none⟩ = some (.bool true) := World.rowIs.cell hR (i := 0) (by decide)
  have h1 : w.cell? ⟨R, 1, none⟩ = some (.slice A (putV p.length ++ (p ++ rest)).length c) := World.rowIs.cell hR (i := 1) (by decide)
  obtain ⟨k, hk⟩ : ∃ k, (putV p.length ++ (p ++ rest)).length = k := ⟨_, rfl⟩
  have HR := Lib.hid hR
  have hbA := below1 w (.cells #[.int .i64 most] 3)
  have HG := Lib.hid (getBytes_any A k c most p rest (w.alloc (.cells #[.int .i64 most] 3)) hget hk (by omega) hm hm2 ((hA.below hbA (Nat.le_refl _)).mono (by simp)))
  have hc : k ≤ c := by have := hA.2.1; rw [hk] at this; exact this
  rw [hk] at h1 hl HR
  have HA := Lib.hid hA
  have hRlt := World.rowIs.lt HR.out
  clear hR hA
  obtain ⟨T, hT⟩ : ∃ T, (putV p.length).length + p.length = T := ⟨_, rfl⟩
  have hTk : T ≤ k := by rw [← hT, ← hk]; simp [List.length_append]
  have hT0 : 0 < T := by
    rw [← hT]
    by_cases h : p.length ≤ 127
    · rw [putV_small h]; simp; omega
    · rw [putV_more h]; simp; omega
  have hkr : rest.length = k - T := by rw [← hT, ← hk]; simp [List.length_append]; omega
  obtain ⟨b, off, hAe, _, _⟩ := HA.out.at (i := 0) (by rw [hk]; omega)
  subst hAe
  rw [hT] at HG
  have HT := Lib.hid hT
  have HK := Lib.hid hk
  clear hT hk hget
  go_enter Try.func143, Try.ntmps143
  go_wp2_with fail
  go_enter Try.func149, Try.ntmps149
  go_wp2_with fail
  go_enter Try.func150, Try.ntmps150
  go_wp2_with fail
  refine HG.out.mono ?_
  rintro e w1 ⟨v1, rfl, hown1, hb1⟩
  go_wp2_with fail
  go_ret3
  have hRa : (w.alloc (.cells #[.int .i64 most] 3)).rowIs R 196 2 (rdF (.slice (some ⟨b, off, none⟩) k c)) := World.rowIs.alloc HR.out _
  have hR1 := World.rowIs.of_block hRa (hb1.block R (World.rowIs.lt hRa))
  have h11 : w1.cell? ⟨R, 1, none⟩ = some (.slice (some ⟨b, off, none⟩) k c) := World.rowIs.cell hR1 (i := 1) (by decide)
  have hf11 : w1.frozen? ⟨R, 1, none⟩ = false := World.rowIs.frozen hR1 1
  have HR1 := Lib.hid hR1
  clear hR1 hRa
  go_wp2_with fail
  all_goals
    go_ret2
    have hbw : Below w.heap.size w w1 := hbA.trans (hb1.mono hbA.size)
    have hby := (HA.out.below hbw (Nat.le_refl _)).mono hbw.size
    have hbt : b ∉ NL := hAR b off rfl
    have h9 : Byt w1 w1.heap.size (some ⟨b, off, none⟩) c ((putV p.length ++ p) ++ rest ++ []) := by simpa using hby
    refine ⟨_, rfl, ?_, _, take_end hRN HR1.out hbw hkr (h9.part (m := T) (by rw [List.length_append]; exact HT.out) (by rw [hkr]; omega) (by simp) (fun h => ?_)) (fun x o hA => ?_)⟩
    · exact owns_mono (ownsRow_setCell_below hown1.raw (by show R < (w.alloc _).heap.size; simp; omega) _) hbA.size
    · first | rfl | exact absurd h (by omega)
    · cases hA; exact hbt
end Go.Proofs.Ytnmhmabifeapkaa.Ord
