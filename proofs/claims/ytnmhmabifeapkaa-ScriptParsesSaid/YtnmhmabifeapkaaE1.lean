/- Slices of any one-cell elements; walks of the functions that compare slices of strings, of numbers and of bytes. (Printed by wip/tools/genE1.py.) -/
import Derived.Test.YtnmhmabifeapkaaM4
import Derived.Test.YtnmhmabifeapkaaM1
namespace Go.Proofs.Ytnmhmabifeapkaa.Ord
open Go.RowKit
set_option linter.unusedVariables false

/-- elements of one cell, below a block -/
def ElV {α : Type} (enc : α → Value) (w : World) (B : Nat) (A : Option Addr) (xs : List α) : Prop := ∀ i x, xs[i]? = some x → ∃ b off, A = some ⟨b, off, none⟩ ∧ b < B ∧ w.cell? ⟨b, off + i, none⟩ = some (enc x)
theorem ElV.below {α : Type} {enc : α → Value} {w w' : World} {B B' : Nat} {A : Option Addr} {xs : List α} (h : ElV enc w B A xs) (hb : Below B' w w') (hB : B ≤ B') : ElV enc w' B A xs := by
  intro i x hi
  obtain ⟨b, off, h1, h2, h3⟩ := h i x hi
  exact ⟨b, off, h1, h2, (hb.cell (p := ⟨b, off + i, none⟩) (by show b < B'; omega)).trans h3⟩
theorem ElV.mono {α : Type} {enc : α → Value} {w : World} {B B' : Nat} {A : Option Addr} {xs : List α} (h : ElV enc w B A xs) (hB : B ≤ B') : ElV enc w B' A xs := by
  intro i x hi
  obtain ⟨b, off, h1, h2, h3⟩ := h i x hi
  exact ⟨b, off, h1, by omega, h3⟩
/-- a slice value with such elements -/
def SlV {α : Type} (enc : α → Value) (w : World) (B : Nat) (v : Value) (xs : List α) : Prop := xs.length ≤ maxLen ∧ ∃ A c, v = .slice A xs.length c ∧ ElV enc w B A xs
theorem SlV.below {α : Type} {enc : α → Value} {w w' : World} {B B' : Nat} {v : Value} {xs : List α} (h : SlV enc w B v xs) (hb : Below B' w w') (hB : B ≤ B') : SlV enc w' B v xs := by
  obtain ⟨h1, A, c, h2, h3⟩ := h
  exact ⟨h1, A, c, h2, h3.below hb hB⟩
theorem SlV.mono {α : Type} {enc : α → Value} {w : World} {B B' : Nat} {v : Value} {xs : List α} (h : SlV enc w B v xs) (hB : B ≤ B') : SlV enc w B' v xs := by
  obtain ⟨h1, A, c, h2, h3⟩ := h
  exact ⟨h1, A, c, h2, h3.mono hB⟩
theorem DatG.below {B B' : Nat} {w w' : World} {d : Value} {xs : List Int} (h : DatG w B d xs) (hb : Below B' w w') (hB : B ≤ B') : DatG w' B d xs := by
  obtain ⟨h1, h2, A, c, h3, h4⟩ := h
  exact ⟨h1, h2, A, c, h3, h4.below hb hB⟩
theorem DatG.mono {B B' : Nat} {w : World} {d : Value} {xs : List Int} (h : DatG w B d xs) (hB : B ≤ B') : DatG w B' d xs := by
  obtain ⟨h1, h2, A, c, h3, h4⟩ := h
  exact ⟨h1, h2, A, c, h3, h4.mono hB⟩
theorem eq_of_upto {α : Type} {xs ys : List α} {n : Nat} (h : xs.length = n) (h' : ys.length = n) (e : ∀ i, i < n → xs[i]? = ys[i]?) : xs = ys := by
  apply List.ext_getElem?
  intro i
  by_cases hi : i < n
  · exact e i hi
  · rw [List.getElem?_eq_none (by omega), List.getElem?_eq_none (by omega)]
theorem bytes_ne {x y : ByteArray} (h : x ≠ y) : (x.toList == y.toList) = false := by
  cases hb : (x.toList == y.toList) with
  | false => rfl
  | true => exact absurd (by
    have := eq_of_beq hb
    rw [ByteArray.toList_eq, ByteArray.toList_eq] at this
    cases x; cases y
    exact congrArg ByteArray.mk (Array.toList_inj.1 this)) h
theorem bytes_eq (x y : ByteArray) : (x.toList == y.toList) = decide (x = y) := by
  by_cases h : x = y
  · subst h; simp
  · rw [bytes_ne h]; simp [h]

set_option maxRecDepth 100000 in
theorem nums67_len (X Y : Option Addr) (n m cx cy : Nat) (w : World) (hn : n ≤ maxLen) (hm : m ≤ maxLen) (hne : n ≠ m) :
    Calls Try.prog 67 #[.slice X n cx, .slice Y m cy] w fun e w' => e = .returned (.bool false) ∧ ∃ q, w' = w.drewN q := by
  have hn' : n ≤ 9223372036854775807 := by unfold maxLen at hn; omega
  have hm' : m ≤ 9223372036854775807 := by unfold maxLen at hm; omega
  have h1 : ((n : Int) != (m : Int)) = true := by simp; omega
  clear hn hm
  go_enter Try.func67, Try.ntmps67
  go_wp2_with fail
  go_ret
  exact ⟨rfl, 0, rfl⟩
set_option maxRecDepth 100000 in
set_option maxHeartbeats 1000000 in
theorem nums67_same (X Y : Option Addr) (xs ys : List Int) (n cx cy : Nat) (w : World) (hx : xs.length = n) (hy : ys.length = n) (hn : n ≤ maxLen) (hX : ElV (Value.int .u64) w w.heap.size X xs) (hY : ElV (Value.int .u64) w w.heap.size Y ys) :
    Calls Try.prog 67 #[.slice X n cx, .slice Y n cy] w fun e w' => e = .returned (.bool (decide (xs = ys))) ∧ ∃ q, w' = w.drewN q := by
  have hn' : n ≤ 9223372036854775807 := by unfold maxLen at hn; omega
  have HN := Lib.hid hx
  have HM := Lib.hid hy
  have hX := Lib.hid hX
  have hY := Lib.hid hY
  clear hx hy hn
  have h1 : ((n : Int) != (n : Int)) = false := by simp
  obtain ⟨res, hres⟩ : ∃ res, decide (xs = ys) = res := ⟨_, rfl⟩
  rw [hres]
  have HR := Lib.hid hres
  clear hres
  go_enter Try.func67, Try.ntmps67
  go_wp2_with fail
  go_loopw [13] (fun j wr => ∃ k q : Nat, k ≤ n ∧ j = .int .i64 k ∧ (∀ i, i < k → xs[i]? = ys[i]?) ∧ wr = w.drewN q) (fun j _ => n - (intOf j).toNat)
  case atStart => exact ⟨0, 0, Nat.zero_le _, rfl, fun i h => absurd h (by omega), rfl⟩
  case round =>
    obtain ⟨k, q, hk, rfl, hE, rfl⟩ := hrel
    have HE := Lib.hid hE
    clear hE
    by_cases hlt : k < n
    · obtain ⟨x, hx⟩ : ∃ x, xs[k]? = some x := ⟨xs[k]'(by rw [HN.out]; exact hlt), List.getElem?_eq_getElem _⟩
      obtain ⟨y, hy⟩ : ∃ y, ys[k]? = some y := ⟨ys[k]'(by rw [HM.out]; exact hlt), List.getElem?_eq_getElem _⟩
      obtain ⟨b, o, rfl, hbX, c1⟩ := hX.out k x hx
      obtain ⟨b', o', rfl, hbY, c2⟩ := hY.out k y hy
      have c1 : (w.drewN q).cell? ⟨b, o + k, none⟩ = some ((Value.int .u64) x) := c1
      have c2 : (w.drewN q).cell? ⟨b', o' + k, none⟩ = some ((Value.int .u64) y) := c2
      have KX := Lib.hid hx
      have KY := Lib.hid hy
      clear hx hy
      have hg : decide ((k : Int) < (n : Int)) = true := by simp; omega
      obtain ⟨W, hW⟩ : ∃ W, w.drewN q = W := ⟨_, rfl⟩
      rw [hW] at c1 c2 ⊢
      have HW := Lib.hid hW
      clear hW
      by_cases hxy : x = y
      · subst hxy
        have h2 : (x != x) = false := by simp
        go_wp2_with fail
        go_quiet (fail)
        go_wp2
        go_roundw
        case rel => exact ⟨k + 1, q + nq, by omega, by go_num, fun i hi => by
          by_cases e : i = k
          · subst e; rw [KX.out, KY.out]
          · exact HE.out i (by omega), by rw [← HW.out, World.drewN_drewN]⟩
        case measure => simp [intOf]; omega
      · have h2 : (x != y) = true := by simp [hxy]
        go_wp2_with fail
        go_quiet (fail)
        go_wp2
        go_ret
        refine ⟨ret_bool ?_, q + nq, by rw [← HW.out, World.drewN_drewN]⟩
        rw [← HR.out, eq_comm, decide_eq_false_iff_not]
        rintro rfl
        rw [KX.out] at KY
        exact hxy (by simpa using KY.out)
    · obtain rfl : k = n := by omega
      have hg : decide ((k : Int) < (k : Int)) = false := by simp
      go_wp2_with fail
      go_ret
      refine ⟨ret_bool ?_, q, rfl⟩
      rw [← HR.out, eq_comm, decide_eq_true_iff]
      exact eq_of_upto HN.out HM.out HE.out
theorem nums67_any (X Y : Option Addr) (xs ys : List Int) (n m cx cy : Nat) (w : World) (hx : xs.length = n) (hy : ys.length = m) (hn : n ≤ maxLen) (hm : m ≤ maxLen) (hX : ElV (Value.int .u64) w w.heap.size X xs) (hY : ElV (Value.int .u64) w w.heap.size Y ys) :
    Calls Try.prog 67 #[.slice X n cx, .slice Y m cy] w fun e w' => e = .returned (.bool (decide (xs = ys))) ∧ ∃ q, w' = w.drewN q := by
  by_cases h : n = m
  · subst h
    exact nums67_same X Y xs ys n cx cy w hx hy hn hX hY
  · have : decide (xs = ys) = false := decide_eq_false (by rintro rfl; omega)
    rw [this]
    exact nums67_len X Y n m cx cy w hn hm h

set_option maxRecDepth 100000 in
theorem strs68_len (X Y : Option Addr) (n m cx cy : Nat) (w : World) (hn : n ≤ maxLen) (hm : m ≤ maxLen) (hne : n ≠ m) :
    Calls Try.prog 68 #[.slice X n cx, .slice Y m cy] w fun e w' => e = .returned (.bool false) ∧ ∃ q, w' = w.drewN q := by
  have hn' : n ≤ 9223372036854775807 := by unfold maxLen at hn; omega
  have hm' : m ≤ 9223372036854775807 := by unfold maxLen at hm; omega
  have h1 : ((n : Int) != (m : Int)) = true := by simp; omega
  clear hn hm
  go_enter Try.func68, Try.ntmps68
  go_wp2_with fail
  go_ret
  exact ⟨rfl, 0, rfl⟩
set_option maxRecDepth 100000 in
set_option maxHeartbeats 1000000 in
theorem strs68_same (X Y : Option Addr) (xs ys : List ByteArray) (n cx cy : Nat) (w : World) (hx : xs.length = n) (hy : ys.length = n) (hn : n ≤ maxLen) (hX : ElV Value.string w w.heap.size X xs) (hY : ElV Value.string w w.heap.size Y ys) :
    Calls Try.prog 68 #[.slice X n cx, .slice Y n cy] w fun e w' => e = .returned (.bool (decide (xs = ys))) ∧ ∃ q, w' = w.drewN q := by
  have hn' : n ≤ 9223372036854775807 := by unfold maxLen at hn; omega
  have HN := Lib.hid hx
  have HM := Lib.hid hy
  have hX := Lib.hid hX
  have hY := Lib.hid hY
  clear hx hy hn
  have h1 : ((n : Int) != (n : Int)) = false := by simp
  obtain ⟨res, hres⟩ : ∃ res, decide (xs = ys) = res := ⟨_, rfl⟩
  rw [hres]
  have HR := Lib.hid hres
  clear hres
  go_enter Try.func68, Try.ntmps68
  go_wp2_with fail
  go_loopw [5] (fun j wr => ∃ k q : Nat, k ≤ n ∧ j = .int .i64 k ∧ (∀ i, i < k → xs[i]? = ys[i]?) ∧ wr = w.drewN q) (fun j _ => n - (intOf j).toNat)
  case atStart => exact ⟨0, 0, Nat.zero_le _, rfl, fun i h => absurd h (by omega), rfl⟩
  case round =>
    obtain ⟨k, q, hk, rfl, hE, rfl⟩ := hrel
    have HE := Lib.hid hE
    clear hE
    by_cases hlt : k < n
    · obtain ⟨x, hx⟩ : ∃ x, xs[k]? = some x := ⟨xs[k]'(by rw [HN.out]; exact hlt), List.getElem?_eq_getElem _⟩
      obtain ⟨y, hy⟩ : ∃ y, ys[k]? = some y := ⟨ys[k]'(by rw [HM.out]; exact hlt), List.getElem?_eq_getElem _⟩
      obtain ⟨b, o, rfl, hbX, c1⟩ := hX.out k x hx
      obtain ⟨b', o', rfl, hbY, c2⟩ := hY.out k y hy
      have c1 : (w.drewN q).cell? ⟨b, o + k, none⟩ = some (Value.string x) := c1
      have c2 : (w.drewN q).cell? ⟨b', o' + k, none⟩ = some (Value.string y) := c2
      have KX := Lib.hid hx
      have KY := Lib.hid hy
      clear hx hy
      have hg : decide ((k : Int) < (n : Int)) = true := by simp; omega
      obtain ⟨W, hW⟩ : ∃ W, w.drewN q = W := ⟨_, rfl⟩
      rw [hW] at c1 c2 ⊢
      have HW := Lib.hid hW
      clear hW
      by_cases hxy : x = y
      · subst hxy
        have h2 : (x.toList == x.toList) = true := by simp
        go_wp2_with fail
        go_quiet (fail)
        go_wp2
        go_roundw
        case rel => exact ⟨k + 1, q + nq, by omega, by go_num, fun i hi => by
          by_cases e : i = k
          · subst e; rw [KX.out, KY.out]
          · exact HE.out i (by omega), by rw [← HW.out, World.drewN_drewN]⟩
        case measure => simp [intOf]; omega
      · have h2 : (x.toList == y.toList) = false := bytes_ne hxy
        go_wp2_with fail
        go_quiet (fail)
        go_wp2
        go_ret
        refine ⟨ret_bool ?_, q + nq, by rw [← HW.out, World.drewN_drewN]⟩
        rw [← HR.out, eq_comm, decide_eq_false_iff_not]
        rintro rfl
        rw [KX.out] at KY
        exact hxy (by simpa using KY.out)
    · obtain rfl : k = n := by omega
      have hg : decide ((k : Int) < (k : Int)) = false := by simp
      go_wp2_with fail
      go_ret
      refine ⟨ret_bool ?_, q, rfl⟩
      rw [← HR.out, eq_comm, decide_eq_true_iff]
      exact eq_of_upto HN.out HM.out HE.out
theorem strs68_any (X Y : Option Addr) (xs ys : List ByteArray) (n m cx cy : Nat) (w : World) (hx : xs.length = n) (hy : ys.length = m) (hn : n ≤ maxLen) (hm : m ≤ maxLen) (hX : ElV Value.string w w.heap.size X xs) (hY : ElV Value.string w w.heap.size Y ys) :
    Calls Try.prog 68 #[.slice X n cx, .slice Y m cy] w fun e w' => e = .returned (.bool (decide (xs = ys))) ∧ ∃ q, w' = w.drewN q := by
  by_cases h : n = m
  · subst h
    exact strs68_same X Y xs ys n cx cy w hx hy hn hX hY
  · have : decide (xs = ys) = false := decide_eq_false (by rintro rfl; omega)
    rw [this]
    exact strs68_len X Y n m cx cy w hn hm h

set_option maxRecDepth 100000 in
theorem strs64_len (X Y : Option Addr) (n m cx cy : Nat) (w : World) (hn : n ≤ maxLen) (hm : m ≤ maxLen) (hne : n ≠ m) :
    Calls Try.prog 64 #[.slice X n cx, .slice Y m cy] w fun e w' => e = .returned (.bool false) ∧ ∃ q, w' = w.drewN q := by
  have hn' : n ≤ 9223372036854775807 := by unfold maxLen at hn; omega
  have hm' : m ≤ 9223372036854775807 := by unfold maxLen at hm; omega
  have h1 : ((n : Int) != (m : Int)) = true := by simp; omega
  clear hn hm
  go_enter Try.func64, Try.ntmps64
  go_wp2_with fail
  go_ret
  exact ⟨rfl, 0, rfl⟩
set_option maxRecDepth 100000 in
set_option maxHeartbeats 1000000 in
theorem strs64_same (X Y : Option Addr) (xs ys : List ByteArray) (n cx cy : Nat) (w : World) (hx : xs.length = n) (hy : ys.length = n) (hn : n ≤ maxLen) (hX : ElV Value.string w w.heap.size X xs) (hY : ElV Value.string w w.heap.size Y ys) :
    Calls Try.prog 64 #[.slice X n cx, .slice Y n cy] w fun e w' => e = .returned (.bool (decide (xs = ys))) ∧ ∃ q, w' = w.drewN q := by
  have hn' : n ≤ 9223372036854775807 := by unfold maxLen at hn; omega
  have HN := Lib.hid hx
  have HM := Lib.hid hy
  have hX := Lib.hid hX
  have hY := Lib.hid hY
  clear hx hy hn
  have h1 : ((n : Int) != (n : Int)) = false := by simp
  obtain ⟨res, hres⟩ : ∃ res, decide (xs = ys) = res := ⟨_, rfl⟩
  rw [hres]
  have HR := Lib.hid hres
  clear hres
  go_enter Try.func64, Try.ntmps64
  go_wp2_with fail
  go_loopw [13] (fun j wr => ∃ k q : Nat, k ≤ n ∧ j = .int .i64 k ∧ (∀ i, i < k → xs[i]? = ys[i]?) ∧ wr = w.drewN q) (fun j _ => n - (intOf j).toNat)
  case atStart => exact ⟨0, 0, Nat.zero_le _, rfl, fun i h => absurd h (by omega), rfl⟩
  case round =>
    obtain ⟨k, q, hk, rfl, hE, rfl⟩ := hrel
    have HE := Lib.hid hE
    clear hE
    by_cases hlt : k < n
    · obtain ⟨x, hx⟩ : ∃ x, xs[k]? = some x := ⟨xs[k]'(by rw [HN.out]; exact hlt), List.getElem?_eq_getElem _⟩
      obtain ⟨y, hy⟩ : ∃ y, ys[k]? = some y := ⟨ys[k]'(by rw [HM.out]; exact hlt), List.getElem?_eq_getElem _⟩
      obtain ⟨b, o, rfl, hbX, c1⟩ := hX.out k x hx
      obtain ⟨b', o', rfl, hbY, c2⟩ := hY.out k y hy
      have c1 : (w.drewN q).cell? ⟨b, o + k, none⟩ = some (Value.string x) := c1
      have c2 : (w.drewN q).cell? ⟨b', o' + k, none⟩ = some (Value.string y) := c2
      have KX := Lib.hid hx
      have KY := Lib.hid hy
      clear hx hy
      have hg : decide ((k : Int) < (n : Int)) = true := by simp; omega
      obtain ⟨W, hW⟩ : ∃ W, w.drewN q = W := ⟨_, rfl⟩
      rw [hW] at c1 c2 ⊢
      have HW := Lib.hid hW
      clear hW
      by_cases hxy : x = y
      · subst hxy
        have h2 : (x.toList == x.toList) = true := by simp
        go_wp2_with fail
        go_quiet (fail)
        go_wp2
        go_roundw
        case rel => exact ⟨k + 1, q + nq, by omega, by go_num, fun i hi => by
          by_cases e : i = k
          · subst e; rw [KX.out, KY.out]
          · exact HE.out i (by omega), by rw [← HW.out, World.drewN_drewN]⟩
        case measure => simp [intOf]; omega
      · have h2 : (x.toList == y.toList) = false := bytes_ne hxy
        go_wp2_with fail
        go_quiet (fail)
        go_wp2
        go_ret
        refine ⟨ret_bool ?_, q + nq, by rw [← HW.out, World.drewN_drewN]⟩
        rw [← HR.out, eq_comm, decide_eq_false_iff_not]
        rintro rfl
        rw [KX.out] at KY
        exact hxy (by simpa using KY.out)
    · obtain rfl : k = n := by omega
      have hg : decide ((k : Int) < (k : Int)) = false := by simp
      go_wp2_with fail
      go_ret
      refine ⟨ret_bool ?_, q, rfl⟩
      rw [← HR.out, eq_comm, decide_eq_true_iff]
      exact eq_of_upto HN.out HM.out HE.out
theorem strs64_any (X Y : Option Addr) (xs ys : List ByteArray) (n m cx cy : Nat) (w : World) (hx : xs.length = n) (hy : ys.length = m) (hn : n ≤ maxLen) (hm : m ≤ maxLen) (hX : ElV Value.string w w.heap.size X xs) (hY : ElV Value.string w w.heap.size Y ys) :
    Calls Try.prog 64 #[.slice X n cx, .slice Y m cy] w fun e w' => e = .returned (.bool (decide (xs = ys))) ∧ ∃ q, w' = w.drewN q := by
  by_cases h : n = m
  · subst h
    exact strs64_same X Y xs ys n cx cy w hx hy hn hX hY
  · have : decide (xs = ys) = false := decide_eq_false (by rintro rfl; omega)
    rw [this]
    exact strs64_len X Y n m cx cy w hn hm h
end Go.Proofs.Ytnmhmabifeapkaa.Ord
