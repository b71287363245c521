/- Slices of bytes; walks of slices.Clone, varint.Put, varint.PutBytes. -/
import Derived.Test.YtnmhmabifeapkaaB4
import Derived.Lib.SliceRun
namespace Go.Proofs.Ytnmhmabifeapkaa.Ord
open Go.RowKit
set_option linter.unusedVariables false

/-- a slice value whose elements are the bytes xs, below block B -/
def Byt (w : World) (B : Nat) (A : Option Addr) (c : Nat) (xs : List Int) : Prop :=
  (A = none → c = 0) ∧ xs.length ≤ c ∧ ∀ i, i < xs.length → ∃ b off, A = some ⟨b, off, none⟩ ∧ b < B ∧ ∀ x, xs[i]? = some x → w.cell? ⟨b, off + i, none⟩ = some (.int .u8 x)
theorem Byt.below {B B' : Nat} {w w' : World} {A : Option Addr} {c : Nat} {l : List Int} (h : Byt w B A c l) (hb : Below B' w w') (hB : B ≤ B') : Byt w' B A c l := by
  refine ⟨h.1, h.2.1, fun i hi => ?_⟩
  obtain ⟨b, off, h1, h2, h3⟩ := h.2.2 i hi
  exact ⟨b, off, h1, h2, fun x hx => (hb.cell (p := ⟨b, off + i, none⟩) (by show b < B'; omega)).trans (h3 x hx)⟩
theorem Byt.mono {B B' : Nat} {w : World} {A : Option Addr} {c : Nat} {l : List Int} (h : Byt w B A c l) (hB : B ≤ B') : Byt w B' A c l := by
  refine ⟨h.1, h.2.1, fun i hi => ?_⟩
  obtain ⟨b, off, h1, h2, h3⟩ := h.2.2 i hi
  exact ⟨b, off, h1, by omega, h3⟩
theorem Byt.nil (w : World) (B : Nat) : Byt w B none 0 [] := ⟨fun _ => rfl, Nat.le_refl _, fun i hi => absurd hi (by simp)⟩
theorem q22 (w : World) (a : Option Addr) (n c n' c' : Nat) : (binOp .eql 22 (.slice a n c) (.slice none n' c')).run Try.prog w = .ok (.bool a.isNone) w := Lib.run_eql_slice_nil w _ _ a n c n' c' Try.underlying22
theorem Byt.of_owns {w : World} {base : Nat} {A : Option Addr} {n c : Nat} {xs : List Int} (h : w.ownsRow base 5 1 (.slice A n c) n (xs.map (Value.int .u8))) : n = xs.length ∧ Byt w w.heap.size A c xs := by
  have hn : n = xs.length := by have := h.1; simp at this; omega
  refine ⟨hn, ?_⟩
  rcases owns_shape h (by decide) with ⟨h1, h2, _⟩ | ⟨g, cap, h1, _, hlt, h2, _⟩
  · cases h1
    exact ⟨fun _ => rfl, by omega, fun i hi => by omega⟩
  · cases h1
    refine ⟨(fun h => by cases h), by omega, fun i hi => ⟨g, 0, rfl, hlt, fun x hx => ?_⟩⟩
    have := h.cells (g := g) rfl i (.int .u8 x) (by simp [hx])
    rwa [show ((⟨g, 0, none⟩ : Addr).add i) = ⟨g, 0 + i, none⟩ by unfold Addr.add; split <;> simp_all] at this
theorem Byt.src {w : World} {B : Nat} {A : Option Addr} {c : Nat} {xs : List Int} (h : Byt w B A c xs) : Src w A xs.length c (xs.map (Value.int .u8)) := by
  cases xs with
  | nil => exact .inl ⟨rfl, rfl, h.1⟩
  | cons x xs =>
    obtain ⟨b, off, hA, _, _⟩ := h.2.2 0 (by simp)
    refine .inr ⟨_, hA, fun j u hj => ?_⟩
    rw [List.getElem?_map] at hj
    obtain ⟨y, hy, rfl⟩ := Option.map_eq_some_iff.1 hj
    obtain ⟨b', off', hA', _, h3⟩ := h.2.2 j (List.getElem?_eq_some_iff.1 hy).1
    rw [hA] at hA'
    cases hA'
    rw [show ((⟨b, off, none⟩ : Addr).add j) = ⟨b, off + j, none⟩ by unfold Addr.add; split <;> simp_all]
    exact h3 y hy
theorem bytes_one (xs : List Int) : ∀ u ∈ xs.map (Value.int .u8), u.oneCell' = true := by
  intro u hu
  obtain ⟨x, _, rfl⟩ := List.mem_map.1 hu
  rfl
theorem Try.info5 : (Try.prog.info? 5).map (fun i => (i.zero, i.size, i.bytes)) = some (some (.int .u8 0), 1, 1) := by kernel_rfl

/-- an owned row of bytes -/
def Own8 (w : World) (base : Nat) (v : Value) (xs : List Int) : Prop := w.ownsRow base 5 1 v xs.length (xs.map (Value.int .u8))
theorem Own8.raw {w : World} {base : Nat} {v : Value} {xs : List Int} (h : Own8 w base v xs) : w.ownsRow base 5 1 v xs.length (xs.map (Value.int .u8)) := h
theorem Own8.nil (w : World) (base : Nat) : Own8 w base (.slice none 0 0) [] := World.ownsRow_nil _ _ _ _
theorem Own8.val {w : World} {base : Nat} {v : Value} {xs : List Int} (h : Own8 w base v xs) : ∃ A c, v = .slice A xs.length c ∧ Byt w w.heap.size A c xs := by
  obtain ⟨A, c, rfl⟩ := owns_len h
  exact ⟨A, c, rfl, (Byt.of_owns h).2⟩
theorem Own8.snoc {w : World} {base : Nat} {v : Value} {xs : List Int} {x : Int} (h : w.ownsRow base 5 1 v (xs.length + 1) (xs.map (Value.int .u8) ++ [.int .u8 x])) : Own8 w base v (xs ++ [x]) := by
  unfold Own8; simpa using h
theorem Own8.app {w : World} {base n : Nat} {v : Value} {xs ys : List Int} (hn : n = ys.length) (h : w.ownsRow base 5 1 v (xs.length + n) (xs.map (Value.int .u8) ++ ys.map (Value.int .u8))) : Own8 w base v (xs ++ ys) := by
  subst hn; unfold Own8; simpa using h

set_option maxRecDepth 100000 in
theorem clone_any (A : Option Addr) (n c : Nat) (xs : List Int) (w : World) (hn : xs.length = n) (hl : n ≤ 100000000) (hA : Byt w w.heap.size A c xs) :
    Calls Try.prog 137 #[.slice A n c] w fun e w' => ∃ v, e = .returned v ∧ Own8 w' w.heap.size v xs ∧ Below w.heap.size w w' := by
  subst hn
  cases A with
  | none =>
    have hc0 : c = 0 := hA.1 rfl
    subst hc0
    have hx : xs = [] := by have := hA.2.1; exact List.eq_nil_of_length_eq_zero (by omega)
    subst hx
    have hq := q22
    go_enter Try.func137, Try.ntmps137
    go_wp2_with fail
    go_ret
    exact ⟨_, rfl, Own8.nil _ _, Below.refl _ _⟩
  | some ad =>
    have hb := below1 w (.cells #[] 5)
    have hsrc := Lib.hid (hA.below hb (Nat.le_refl _)).src
    have hown := Lib.hid (World.ownsRow_made (e := 5) (size := 1) (base := w.heap.size) w #[] 0 (Nat.le_refl _) (by unfold maxLen; omega) rfl)
    have hs := Lib.hid (show w.heap.size ≤ (w.alloc (.cells #[] 5)).heap.size by simp)
    generalize hN : xs.length = N at *
    have HN := Lib.hid hN
    clear hN
    have hq := q22
    go_enter Try.func137, Try.ntmps137
    go_wp2_with ((with_reducible refine wpList_append_src (o := ⟨some 7, _, _, _, _, _⟩) rfl _ _ 22 rfl w.heap.size 5 (.int .u8 0) 1 1 Try.underlying22 Try.info5 rfl (by decide) _ _ [] ?_ hown.out (some ad) N c (xs.map (Value.int .u8)) ?_ ?_ hsrc.out (bytes_one _) ?_ ?_ hs.out ?_); (· rfl); (· rfl); (· simp [HN.out]); (· unfold maxLen; omega); (· omega); intro v1 w1 hown1 _ hb1)
    go_ret
    exact ⟨_, rfl, Own8.app HN.out.symm (xs := []) (by simpa using hown1), hb.trans hb1⟩

theorem or128_all : (List.range 256).all (fun x => (x ||| 128) == 128 + x % 128) = true := by decide +kernel
theorem or128 {x : Nat} (h : x < 256) : x ||| 128 = 128 + x % 128 := eq_of_beq (List.all_eq_true.1 or128_all x (List.mem_range.2 h))
theorem u8_nat {n : Nat} (h : n < 256) : IntKind.u8.wrap (n : Int) = n := by
  rw [IntKind.wrap_u8]; omega
theorem or_u8 {x : Nat} (h : x < 256) : bits .or .u8 (x : Int) 128 = ((128 + x % 128 : Nat) : Int) := by
  have e1 : BitVec.ofInt IntKind.u8.bits (x : Int) = BitVec.ofNat 8 x := BitVec.ofInt_natCast (w := 8) x
  have e2 : BitVec.ofInt IntKind.u8.bits (128 : Int) = BitVec.ofNat 8 128 := rfl
  unfold bits
  simp only [e1, e2]
  show IntKind.u8.wrap (((BitVec.ofNat 8 x ||| BitVec.ofNat 8 128).toNat : Nat) : Int) = _
  rw [BitVec.toNat_or, BitVec.toNat_ofNat, BitVec.toNat_ofNat, Nat.mod_eq_of_lt (show x < 2 ^ 8 by omega), show 128 % 2 ^ 8 = 128 from rfl, or128 h, u8_nat (by omega)]
theorem or_u8m (m : Nat) : bits .or .u8 ((m : Int) % 256) 128 = ((128 + m % 128 : Nat) : Int) := by
  have e : ((m : Int) % 256) = ((m % 256 : Nat) : Int) := by omega
  rw [e, or_u8 (Nat.mod_lt _ (by decide)), show m % 256 % 128 = m % 128 by omega]

/-- a number in groups of seven bits -/
def putV (n : Nat) : List Int := if n ≤ 127 then [(n : Int)] else ((128 + n % 128 : Nat) : Int) :: putV (n / 128)
termination_by n
decreasing_by omega
theorem putV_small {n : Nat} (h : n ≤ 127) : putV n = [(n : Int)] := by rw [putV, if_pos h]
theorem putV_more {n : Nat} (h : ¬ n ≤ 127) : putV n = ((128 + n % 128 : Nat) : Int) :: putV (n / 128) := by rw [putV, if_neg h]
theorem putV_len : ∀ (k n : Nat), n < 128 ^ (k + 1) → (putV n).length ≤ k + 1
  | 0, n, h => by rw [putV_small (by omega)]; simp
  | k + 1, n, h => by
    by_cases h1 : n ≤ 127
    · rw [putV_small h1]; simp
    · rw [putV_more h1]
      have h2 : n / 128 < 128 ^ (k + 1) := by
        rw [Nat.pow_succ] at h
        exact Nat.div_lt_of_lt_mul (by rw [Nat.mul_comm]; exact h)
      have := putV_len k (n / 128) h2
      simp only [List.length_cons]
      omega
theorem putV_len10 {n : Nat} (h : n < 18446744073709551616) : (putV n).length ≤ 10 := putV_len 9 n (Nat.lt_trans h (by decide))

set_option maxRecDepth 100000 in
theorem put_any (A : Option Addr) (k c : Nat) (xs : List Int) (n : Nat) (w : World) (hk : xs.length = k) (hn : n < 18446744073709551616) (hl : k ≤ 10000000) (hA : Byt w w.heap.size A c xs) :
    Calls Try.prog 109 #[.slice A k c, .int .u64 n] w fun e w' => ∃ v, e = .returned v ∧ Own8 w' w.heap.size v (xs ++ putV n) ∧ Below w.heap.size w w' := by
  have HC := Lib.hid (clone_any A k c xs w hk (by omega) hA)
  have H10 := putV_len10 hn
  have HK := Lib.hid hk
  clear hk
  go_enter Try.func109, Try.ntmps109
  go_wp2_with fail
  refine HC.out.mono ?_
  rintro e w1 ⟨v1, rfl, hown1, hb1⟩
  go_wp2_with fail
  go_loopw [1, 5] (fun j v wr => ∃ (m : Nat) (ys : List Int), j = .int .u64 m ∧ m < 18446744073709551616 ∧ ys ++ putV m = putV n ∧ Own8 wr w.heap.size v (xs ++ ys) ∧ Below w.heap.size w wr) (fun j _ _ => (intOf j).toNat)
  case atStart => exact ⟨n, [], rfl, hn, rfl, by simpa using hown1, hb1⟩
  case round =>
    obtain ⟨m, ys, rfl, hm, hys, hown, hb⟩ := hrel
    have hyl : ys.length + (putV m).length ≤ 10 := by rw [← List.length_append, hys]; exact H10
    have hxy : (xs ++ ys).length ≤ 10000010 := by rw [List.length_append, HK.out]; omega
    have hown := Lib.hid hown.raw
    by_cases h1 : m ≤ 127
    · have hg : decide ((127 : Int) < (m : Int)) = false := by simp; omega
      go_wp2_with ((with_reducible refine wpList_append_one (o := ⟨some 22, _, _, _, _, _⟩) rfl _ _ 22 rfl w.heap.size 5 (.int .u8 0) 1 Try.underlying22 Try.info5 rfl _ (xs ++ ys).length _ ?_ hown.out _ wr.heap.size ?_ ?_ ?_ ?_ ?_ hb.size ?_); (· rfl); (· rfl); (· rfl); (· rfl); (· unfold maxLen; omega); (· omega); intro v2 w2 hown2 hb2)
      go_ret
      refine ⟨_, rfl, ?_, hb.trans hb2⟩
      rw [← hys, putV_small h1, ← List.append_assoc]
      exact Own8.snoc hown2
    · have hg : decide ((127 : Int) < (m : Int)) = true := by simp; omega
      go_wp2_with ((with_reducible refine wpList_append_one (o := ⟨some 17, _, _, _, _, _⟩) rfl _ _ 22 rfl w.heap.size 5 (.int .u8 0) 1 Try.underlying22 Try.info5 rfl _ (xs ++ ys).length _ ?_ hown.out _ wr.heap.size ?_ ?_ ?_ ?_ ?_ hb.size ?_); (· rfl); (· rfl); (· rfl); (· rfl); (· unfold maxLen; omega); (· omega); intro v2 w2 hown2 hb2)
      go_roundw
      case rel =>
        refine ⟨m / 128, ys ++ [((128 + m % 128 : Nat) : Int)], by go_num, by omega, by rw [List.append_assoc, ← hys, putV_more h1]; rfl, ?_, hb.trans hb2⟩
        rw [← List.append_assoc]
        rw [or_u8m] at hown2
        exact Own8.snoc hown2
      case measure => simp [intOf]; omega
end Go.Proofs.Ytnmhmabifeapkaa.Ord
