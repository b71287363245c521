/- Walks of varint.Get at small numbers, GetBytes, the reader's take. -/
import Derived.Test.YtnmhmabifeapkaaR3
namespace Go.Proofs.Ytnmhmabifeapkaa.Ord
open Go.RowKit
set_option linter.unusedVariables false

/-- what Get answers for the bytes of a number -/
def GetOk (n : Nat) : Prop := ∀ (A : Option Addr) (k c : Nat) (rest : List Int) (w : World), (putV n ++ rest).length = k → k ≤ 1000000 → Byt w w.heap.size A c (putV n ++ rest) →
  Calls Try.prog 153 #[.slice A k c] w fun e w' => e = .returned (.tuple #[.int .u64 n, .int .i64 (putV n).length, .int .i64 0]) ∧ Below w.heap.size w w'

theorem Byt.at {w : World} {B : Nat} {A : Option Addr} {c : Nat} {xs : List Int} (h : Byt w B A c xs) {i : Nat} (hi : i < xs.length) : ∃ b off, A = some ⟨b, off, none⟩ ∧ b < B ∧ w.cell? ⟨b, off + i, none⟩ = some (.int .u8 (xs.getD i 0)) := by
  obtain ⟨b, off, h1, h2, h3⟩ := h.2.2 i hi
  exact ⟨b, off, h1, h2, h3 _ (by simp [List.getD, hi])⟩

theorem or_zero {n : Nat} (hn : n ≤ 127) : bits .or .u64 0 (n : Int) = (n : Int) := by
  have e1 : BitVec.ofInt IntKind.u64.bits (n : Int) = BitVec.ofNat 64 n := BitVec.ofInt_natCast (w := 64) n
  have e2 : BitVec.ofInt IntKind.u64.bits (0 : Int) = BitVec.ofNat 64 0 := rfl
  unfold bits
  simp only [e1, e2]
  show IntKind.u64.wrap (((BitVec.ofNat 64 0 ||| BitVec.ofNat 64 n).toNat : Nat) : Int) = _
  rw [BitVec.toNat_or, BitVec.toNat_ofNat, BitVec.toNat_ofNat, Nat.mod_eq_of_lt (show n < 2 ^ 64 by omega), show 0 % 2 ^ 64 = 0 from rfl, Nat.zero_or, IntKind.wrap_u64]
  omega

set_option maxRecDepth 100000 in
set_option maxHeartbeats 1000000 in
theorem get_small {n : Nat} (hn : n ≤ 127) : GetOk n := by
  intro A k c rest w hk hl hA
  rw [putV_small hn] at hk hA ⊢
  obtain ⟨b, off, rfl, hb, hc⟩ := hA.at (i := 0) (by simp)
  simp only [Nat.add_zero, List.cons_append, List.getD_cons_zero] at hc
  have hk1 : 1 ≤ k := by rw [← hk]; simp
  clear hk hA
  have h1 : decide ((0 : Int) < (k : Int)) = true := by simp; omega
  have h2 : decide ((n : Int) < 128) = true := by simp; omega
  have h3 : decide ((1 : Int) < (n : Int)) = decide ((1 : Int) < (n : Int)) := rfl
  go_enter Try.func153, Try.ntmps153
  go_wp2_with fail
  go_loopw [2, 9] (fun a i wr => a = .int .u64 0 ∧ i = .int .i64 0 ∧ wr = w) (fun _ _ _ => 0)
  case atStart => exact ⟨rfl, rfl, rfl⟩
  case round =>
    obtain ⟨rfl, rfl, rfl⟩ := hrel
    go_wp2_with fail
    rw [or_zero hn]
    go_ret3
    exact ⟨rfl, Below.refl _ _⟩

set_option maxRecDepth 100000 in
theorem bclone_any (A : Option Addr) (n c : Nat) (xs : List Int) (w : World) (hn : xs.length = n) (hl : n ≤ 100000000) (hA : Byt w w.heap.size A c xs) :
    Calls Try.prog 156 #[.slice A n c] w fun e w' => ∃ v, e = .returned v ∧ Own8 w' w.heap.size v xs ∧ Below w.heap.size w w' := by
  subst hn
  cases A with
  | none =>
    have hc0 : c = 0 := hA.1 rfl
    subst hc0
    have hx : xs = [] := by have := hA.2.1; exact List.eq_nil_of_length_eq_zero (by omega)
    subst hx
    have hq := q22
    go_enter Try.func156, Try.ntmps156
    go_wp2_with fail
    go_ret
    exact ⟨_, rfl, Own8.nil _ _, Below.refl _ _⟩
  | some ad =>
    have hb := below1 w (.cells #[] 5)
    have hsrc := Lib.hid (hA.below hb (Nat.le_refl _)).src
    have hown := Lib.hid (World.ownsRow_made (e := 5) (size := 1) (base := w.heap.size) w #[] 0 (Nat.le_refl _) (by unfold maxLen; omega) rfl)
    have hs := Lib.hid (show w.heap.size ≤ (w.alloc (.cells #[] 5)).heap.size by simp)
    generalize hN : xs.length = N at *
    have HN := Lib.hid hN
    clear hN
    have hq := q22
    go_enter Try.func156, Try.ntmps156
    go_wp2_with ((with_reducible refine wpList_append_src (o := ⟨some 7, _, _, _, _, _⟩) rfl _ _ 22 rfl w.heap.size 5 (.int .u8 0) 1 1 Try.underlying22 Try.info5 rfl (by decide) _ _ [] ?_ hown.out (some ad) N c (xs.map (Value.int .u8)) ?_ ?_ hsrc.out (bytes_one _) ?_ ?_ hs.out ?_); (· rfl); (· rfl); (· simp [HN.out]); (· unfold maxLen; omega); (· omega); intro v1 w1 hown1 _ hb1)
    go_ret
    exact ⟨_, rfl, Own8.app HN.out.symm (xs := []) (by simpa using hown1), hb.trans hb1⟩

/-- a part of a slice of bytes -/
theorem Byt.part {w : World} {B b off c : Nat} {xs ys zs : List Int} (h : Byt w B (some ⟨b, off, none⟩) c (xs ++ ys ++ zs)) {m e : Nat} (hm : xs.length = m) (hc : ys.length ≤ e) {A : Option Addr} (hA : A ≠ none) (hA2 : 0 < e → A = some ⟨b, off + m, none⟩) : Byt w B A e ys := by
  subst hm
  refine ⟨fun h => absurd h hA, hc, fun i hi => ?_⟩
  obtain ⟨b', off', h1, h2, h3⟩ := h.2.2 (xs.length + i) (by simp; omega)
  cases h1
  refine ⟨b, off + xs.length, hA2 (by omega), h2, fun x hx => ?_⟩
  have := h3 x (by rw [List.append_assoc, List.getElem?_append_right (by omega), Nat.add_sub_cancel_left, List.getElem?_append_left hi]; exact hx)
  rwa [← Nat.add_assoc] at this

set_option maxRecDepth 100000 in
set_option maxHeartbeats 1000000 in
theorem getBytes_any (A : Option Addr) (k c most : Nat) (p rest : List Int) (w : World) (hget : GetOk p.length) (hk : (putV p.length ++ (p ++ rest)).length = k) (hl : k ≤ 1000000) (hm : p.length ≤ most) (hm2 : most ≤ 1000000) (hA : Byt w w.heap.size A c (putV p.length ++ (p ++ rest))) :
    Calls Try.prog 151 #[.slice A k c, .int .i64 most] w fun e w' => ∃ v, e = .returned (.tuple #[v, .int .i64 ((putV p.length).length + p.length : Nat), .int .i64 0]) ∧ Own8 w' w.heap.size v p ∧ Below w.heap.size w w' := by
  have HG := Lib.hid (hget A k c (p ++ rest) w hk hl hA)
  have hpos : 0 < (putV p.length).length := by
    by_cases h : p.length ≤ 127
    · rw [putV_small h]; simp
    · rw [putV_more h]; simp
  obtain ⟨b, off, hAe, hb, _⟩ := hA.at (i := 0) (by rw [List.length_append]; omega)
  subst hAe
  have HA := Lib.hid hA
  clear hA hget
  obtain ⟨n, hn⟩ : ∃ n, p.length = n := ⟨_, rfl⟩
  obtain ⟨m, hmm⟩ : ∃ m, (putV n).length = m := ⟨_, rfl⟩
  have hkk : m + n ≤ k := by rw [← hk, ← hmm, ← hn]; simp [List.length_append]
  rw [hn] at hpos HG hm
  rw [hmm] at hpos HG
  rw [hn, hmm]
  have HN := Lib.hid hn
  have HM := Lib.hid hmm
  have HK := Lib.hid hk
  clear hn hmm hk
  have hc : k ≤ c := by have := HA.out.2.1; rw [HK.out] at this; exact this
  have h1 : decide ((most : Int) < 0) = false := by simp
  have h2 : decide ((most : Int) < (n : Int)) = false := by simp; omega
  have h3 : decide ((k : Int) - (m : Int) < (n : Int)) = false := by simp; omega
  go_enter Try.func151, Try.ntmps151
  go_wp2_with fail
  refine HG.out.mono ?_
  rintro e w1 ⟨rfl, hb1⟩
  go_wp2_with fail
  all_goals
    refine (bclone_any _ _ _ p w1 ?_ (by omega) ?_).mono ?_
    · first | exact HN.out | (rw [HN.out]; omega)
    · have h5 := HA.out.below hb1 (Nat.le_refl _)
      rw [HN.out, ← List.append_assoc] at h5
      refine (h5.part (e := _) HM.out (by rw [HN.out]; omega) (by simp) (fun h => ?_)).mono hb1.size
      first | rfl | exact absurd h (by omega)
    · rintro e w2 ⟨v2, rfl, hown2, hb2⟩
      go_wp2_with fail
      go_ret3
      refine ⟨v2, ?_, by unfold Own8; exact owns_mono hown2.raw hb1.size, hb1.trans (hb2.mono hb1.size)⟩
      first | rfl | (simp; done) | (simp; omega)
end Go.Proofs.Ytnmhmabifeapkaa.Ord
