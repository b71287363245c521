/- Walks of the reference's Ints, and of its Consistent where the calls are too many or the list is no order. -/
import Derived.Test.YtnmhmabifeapkaaA3
namespace Go.Proofs.Ytnmhmabifeapkaa.Ord
open Go.RowKit Go.Sort
set_option linter.unusedVariables false

theorem eq_of_take {xs ys : List Int} {n : Nat} (h : xs.length = n) (h' : ys.length = n) (e : ∀ i, i < n → xs[i]? = ys[i]?) : xs = ys := by
  apply List.ext_getElem?
  intro i
  by_cases hi : i < n
  · exact e i hi
  · rw [List.getElem?_eq_none (by omega), List.getElem?_eq_none (by omega)]

theorem ints_len (X Y : Option Addr) (n m cx cy : Nat) (w : World) (hn : n ≤ 5000) (hm : m ≤ 5000) (hne : n ≠ m) :
    Calls Try.prog 27 #[.slice X n cx, .slice Y m cy] w fun e w' => e = .returned (.bool false) ∧ Below w.heap.size w w' := by
  have h1 : ((n : Int) != (m : Int)) = true := by simp; omega
  go_enter Try.func27, Try.ntmps27
  go_wp2
  go_ret
  exact ⟨rfl, Below.refl _ _⟩

def eqK (xs ys : List Int) (k : Nat) : Prop := ∀ i, i < k → xs[i]? = ys[i]?

set_option maxRecDepth 100000 in
set_option maxHeartbeats 1000000 in
theorem ints_same (X Y : Option Addr) (xs ys : List Int) (cx cy : Nat) (w : World) (hn : xs.length ≤ 5000) (he : xs.length = ys.length) (hX : IntsAt w w.heap.size X xs) (hY : IntsAt w w.heap.size Y ys) :
    Calls Try.prog 27 #[.slice X xs.length cx, .slice Y xs.length cy] w fun e w' => e = .returned (.bool (decide (xs = ys))) ∧ Below w.heap.size w w' := by
  generalize hN : xs.length = N at *
  have HN := Lib.hid hN
  have HM := Lib.hid he
  clear hN he
  have h1 : ((N : Int) != (N : Int)) = false := by simp
  go_enter Try.func27, Try.ntmps27
  go_wp2
  go_loopw [5] (fun j wr => ∃ k : Nat, k ≤ N ∧ j = .int .i64 k ∧ eqK xs ys k ∧ Below w.heap.size w wr) (fun j _ => N - (intOf j).toNat)
  case atStart => exact ⟨0, Nat.zero_le _, rfl, fun i h => absurd h (by omega), Below.refl _ _⟩
  case round =>
    obtain ⟨k, hk, rfl, hE, hb⟩ := hrel
    have HE := Lib.hid hE
    clear hE
    by_cases hlt : k < N
    · obtain ⟨x, hx⟩ : ∃ x, xs[k]? = some x := ⟨xs[k]'(by rw [HN.out]; exact hlt), List.getElem?_eq_getElem _⟩
      obtain ⟨y, hy⟩ : ∃ y, ys[k]? = some y := ⟨ys[k]'(by rw [← HM.out]; exact hlt), List.getElem?_eq_getElem _⟩
      obtain ⟨b, o, rfl, hbX, hc⟩ := (hX.below hb (Nat.le_refl _)) k (by rw [HN.out]; exact hlt)
      obtain ⟨b', o', rfl, hbY, hc'⟩ := (hY.below hb (Nat.le_refl _)) k (by rw [← HM.out]; exact hlt)
      have c1 := hc _ hx
      have c2 := hc' _ hy
      have KX := Lib.hid hx
      have KY := Lib.hid hy
      clear hc hc' hx hy
      by_cases hxy : x = y
      · subst hxy
        have h2 : (x != x) = false := by simp
        go_wp2_with fail
        go_quiet (fail)
        go_wp2
        go_roundw
        case rel => exact ⟨k + 1, by omega, by go_num, fun i hi => by
          by_cases e : i = k
          · subst e; rw [KX.out, KY.out]
          · exact HE.out i (by omega), ⟨hb.os, hb.tape, hb.output, hb.size, hb.block⟩⟩
        case measure => simp [intOf]; omega
      · have h2 : (x != y) = true := by simp [hxy]
        go_wp2_with fail
        go_quiet (fail)
        go_wp2
        go_ret
        refine ⟨ret_bool ?_, ⟨hb.os, hb.tape, hb.output, hb.size, hb.block⟩⟩
        rw [eq_comm, decide_eq_false_iff_not]
        rintro rfl
        rw [KX.out] at KY
        exact hxy (by simpa using KY.out)
    · obtain rfl : k = N := by omega
      go_wp2
      go_ret
      refine ⟨ret_bool ?_, hb⟩
      rw [eq_comm, decide_eq_true_iff]
      exact eq_of_take HN.out (HM.out ▸ rfl) HE.out

theorem ints_any (X Y : Option Addr) (xs ys : List Int) (cx cy : Nat) (w : World) (hn : xs.length ≤ 5000) (hm : ys.length ≤ 5000) (hX : IntsAt w w.heap.size X xs) (hY : IntsAt w w.heap.size Y ys) :
    Calls Try.prog 27 #[.slice X xs.length cx, .slice Y ys.length cy] w fun e w' => e = .returned (.bool (decide (xs = ys))) ∧ Below w.heap.size w w' := by
  by_cases he : xs.length = ys.length
  · have := ints_same X Y xs ys cx cy w hn he hX hY
    rw [← he]; exact this
  · have := ints_len X Y _ _ cx cy w hn hm he
    have hd : decide (xs = ys) = false := by rw [decide_eq_false_iff_not]; rintro rfl; exact he rfl
    rw [hd]; exact this

theorem refCons_long (A X : Option Addr) (n m cap capx : Nat) (w : World) (hl : 4096 < n) (hn : n ≤ 5000) :
    Calls Try.prog 30 #[.slice A n cap, .slice X m capx] w fun e w' => e = .returned (.tuple #[.bool false, .int .i64 5]) ∧ Below w.heap.size w w' := by
  go_enter Try.func30, Try.ntmps30
  go_wp2
  go_ret2
  exact ⟨rfl, Below.refl _ _⟩

theorem refCons_no (A X : Option Addr) (n m cap capx : Nat) (w : World) (hl : n ≤ 4096)
    (hord1 : ∀ W, Below w.heap.size w W → Calls Try.prog 51 #[.slice A n cap, .slice X m capx] W fun e w' => e = .returned (.bool false) ∧ Below W.heap.size W w') :
    Calls Try.prog 30 #[.slice A n cap, .slice X m capx] w fun e w' => e = .returned (.tuple #[.bool false, .int .i64 2]) ∧ Below w.heap.size w w' := by
  have H1 := Lib.hid hord1
  clear hord1
  go_enter Try.func30, Try.ntmps30
  go_wp2_with (go_at_call 51; refine (H1.out _ (Below.refl _ _)).mono ?_; rintro e w1 ⟨rfl, hb1⟩)
  go_ret2
  exact ⟨rfl, hb1⟩
end Go.Proofs.Ytnmhmabifeapkaa.Ord
