/- Walks of the reader of scripts. -/
import Derived.Test.YtnmhmabifeapkaaR5
namespace Go.Proofs.Ytnmhmabifeapkaa.Ord
open Go.RowKit
set_option linter.unusedVariables false

def rsF (v : Value) : Nat → Value := fun _ => v
/-- the reader at block Q has the bytes xs before it, both below block B -/
def ReadAt (w : World) (B : Nat) (N : List Nat) (Q : Nat) (xs : List Int) : Prop :=
  Q ∈ N ∧ Q < B ∧ (∀ x ∈ xs, 0 ≤ x ∧ x < 256) ∧ xs.length ≤ 1000000 ∧ ∃ A c, w.rowIs Q 81 1 (rsF (.slice A xs.length c)) ∧ Byt w w.heap.size A c xs ∧ ∀ b off, A = some ⟨b, off, none⟩ → b ∉ N ∧ b < B
theorem ReadAt.kept {w w' : World} {B : Nat} {N L : List Nat} {Q : Nat} {xs : List Int} (h : ReadAt w B N Q xs) (hk : Kept L w w') (hL : ∀ k ∈ L, k ∈ N ∨ B ≤ k) (hQ : Q ∉ L) : ReadAt w' B N Q xs := by
  obtain ⟨h1, h2, h3, h4, A, c, h5, h6, h7⟩ := h
  exact ⟨h1, h2, h3, h4, A, c, hk.row hQ h5, hk.byt h6 (fun x off hA hm => by have := h7 x off hA; rcases hL x hm with h | h; exact this.1 h; omega), h7⟩
theorem ReadAt.below {w w' : World} {B B' : Nat} {N : List Nat} {Q : Nat} {xs : List Int} (h : ReadAt w B N Q xs) (hb : Below B' w w') (hB : B ≤ B') : ReadAt w' B N Q xs := by
  obtain ⟨h1, h2, h3, h4, A, c, h5, h6, h7⟩ := h
  refine ⟨h1, h2, h3, h4, A, c, World.rowIs.of_block h5 (hb.block Q (by omega)), ⟨h6.1, h6.2.1, fun i hi => ?_⟩, h7⟩
  obtain ⟨x, off, e1, e2, e3⟩ := h6.2.2 i hi
  refine ⟨x, off, e1, Nat.lt_of_lt_of_le e2 hb.size, fun y hy => ?_⟩
  rw [World.cell?_of_block (w := w) (hb.block x (by have := (h7 x off e1).2; omega))]
  exact e3 y hy

theorem next_end {B : Nat} {N : List Nat} {Q : Nat} {w : World} {v0 : Value} {A' : Option Addr} {L c' : Nat} {ys : List Int} (hQN : Q ∈ N) (hQB : Q < B) (hQ : w.rowIs Q 81 1 (rsF v0)) (hr : ∀ y ∈ ys, 0 ≤ y ∧ y < 256) (hl : ys.length ≤ 1000000) (hL : ys.length = L) (hby : Byt w w.heap.size A' c' ys) (hne : ∀ b off, A' = some ⟨b, off, none⟩ → b ∉ N ∧ b < B) :
    ReadAt (w.setCell ⟨Q, 0, none⟩ (.slice A' L c')) B N Q ys ∧ Kept [Q] w (w.setCell ⟨Q, 0, none⟩ (.slice A' L c')) := by
  have hk : Kept [Q] w (w.setCell ⟨Q, 0, none⟩ (.slice A' L c')) := (Kept.refl _ _).setCell (by simp) _
  subst hL
  refine ⟨⟨hQN, hQB, hr, hl, A', c', World.rowIs.congr (World.rowIs.set hQ 0 _) (fun i hi => ?_), hk.byt hby (fun x off hA hm => (hne x off hA).1 (by simp at hm; rw [hm]; exact hQN)), hne⟩, hk⟩
  match i, hi with
  | 0, _ => rfl

set_option maxRecDepth 100000 in
set_option maxHeartbeats 1000000 in
theorem next_any (B : Nat) (N : List Nat) (Q : Nat) (xs : List Int) (w : World) (h : ReadAt w B N Q xs) :
    Calls Try.prog 57 #[.pointer (some ⟨Q, 0, none⟩)] w fun e w' => e = .returned (.int .i64 (xs.headD 0)) ∧ ReadAt w' B N Q xs.tail ∧ Kept [Q] w w' := by
  have H := Lib.hid h
  obtain ⟨hQN, hQB, hr, hl, A, c, hQ, hA, hAN⟩ := h
  have h0 : w.cell? ⟨Q, 0, none⟩ = some (.slice A xs.length c) := World.rowIs.cell hQ (i := 0) (by decide)
  have hf0 : w.frozen? ⟨Q, 0, none⟩ = false := World.rowIs.frozen hQ 0
  cases xs with
  | nil =>
    simp only [List.length_nil] at h0
    have HQ := Lib.hid hQ
    clear hQ hA
    go_enter Try.func57, Try.ntmps57
    go_wp2_with fail
    go_ret
    exact ⟨rfl, H.out, Kept.refl _ _⟩
  | cons x ys =>
    obtain ⟨b, off, rfl, hb, hc⟩ := hA.at (i := 0) (by simp)
    simp only [Nat.add_zero, List.getD_cons_zero] at hc
    have hx := hr x (by simp)
    have hcl := hA.2.1
    obtain ⟨k, hk⟩ : ∃ k, ys.length = k := ⟨_, rfl⟩
    simp only [List.length_cons, hk] at h0 hcl hl
    have HA := Lib.hid hA
    have HQ := Lib.hid hQ
    have hbN : b ∉ N := (hAN b off rfl).1
    have hbB : b < B := (hAN b off rfl).2
    have hne : ((k + 1 : Nat) : Int) ≠ 0 := by omega
    have hbQ : b ≠ Q := fun e => hbN (by rw [e]; exact hQN)
    have HR := Lib.hid hr
    clear hA hQ hr hAN
    go_enter Try.func57, Try.ntmps57
    go_wp2_with fail
    all_goals
      go_ret
      have h9 : Byt w w.heap.size (some ⟨b, off, none⟩) c ([x] ++ ys ++ []) := by simpa using HA.out
      exact ⟨rfl, next_end hQN hQB HQ.out (fun y hy => HR.out y (by simp [hy])) (by omega) hk (h9.part (m := 1) rfl (by omega) (by simp) (fun h => by first | rfl | exact absurd h (by omega))) (fun b' o hA => by cases hA; exact ⟨hbN, hbB⟩)⟩
end Go.Proofs.Ytnmhmabifeapkaa.Ord
