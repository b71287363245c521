/- The commands of short requests. -/
import Derived.Test.YtnmhmabifeapkaaD10
import Derived.Test.YtnmhmabifeapkaaG0
namespace Go.Proofs.Ytnmhmabifeapkaa.Ord
open Go.RowKit
set_option linter.unusedVariables false

def manyN (y z : Nat) : List ByteArray := if z = 0 then [keyN (y / 15)] else ((List.range 8).filter fun i => z / 2 ^ i % 2 == 1).map keyN
/-- the command of a short request -/
def shortR (y z u : Nat) : CmdR :=
  if y % 15 < 2 then ⟨1 + (y % 15 : Nat), keyN (y / 15), [], List.replicate (z % 4) (97 + (u % 16 : Nat)), tagsN (z / 4), (lifeN (z / 16) : Nat), 0, eB, eB, eB⟩
  else if y % 15 = 2 then ⟨3, keyN (y / 15), [], List.replicate (z % 4) (97 + (u % 16 : Nat)), tagsN (z / 4), (lifeN (z / 16) : Nat), (u / 16 : Nat), eB, eB, eB⟩
  else if y % 15 = 3 ∨ y % 15 = 6 ∨ y % 15 = 12 then ⟨1 + (y % 15 : Nat), keyN (y / 15), [], [], [], 0, 0, eB, eB, eB⟩
  else if y % 15 = 4 then ⟨5, eB, manyN y z, [], [], 0, 0, eB, eB, eB⟩
  else if y % 15 = 5 then ⟨6, keyN (y / 15), [], [], [], (lifeN (z / 16) : Nat), 0, eB, eB, eB⟩
  else if y % 15 = 7 ∨ y % 15 = 8 then ⟨1 + (y % 15 : Nat), eB, [], [], [], 0, 0, tagN z, eB, eB⟩
  else if y % 15 = 9 then ⟨10, eB, [], [], [], 0, 0, eB, preN z, eB⟩
  else if y % 15 = 10 ∨ y % 15 = 11 then ⟨1 + (y % 15 : Nat), keyN (y / 15), [], [], [], 0, 0, eB, eB, keyN z⟩
  else ⟨1 + (y % 15 : Nat), eB, [], [], [], 0, 0, eB, eB, eB⟩

theorem keyN_ok (n : Nat) : keyOk (keyN n) = true ∧ (keyN n).size ≤ 5 := by
  unfold keyN
  rcases mod8 n with h | h | h | h | h | h | h | h <;> rw [h] <;> decide
theorem lifeN_ok (n : Nat) : 0 < lifeN n ∧ lifeN n < 18446744073709551616 := by
  unfold lifeN
  rcases mod4 n with h | h | h | h <;> rw [h] <;> decide
theorem tagsN_ok (n : Nat) : (∀ s ∈ tagsN n, tagOk s = true) ∧ (tagsN n).length ≤ 2 := by
  unfold tagsN
  rcases mod4 n with h | h | h | h <;> rw [h] <;> decide
theorem tagN_ok (n : Nat) : tagOk (tagN n) = true := by
  unfold tagN
  rcases (show n % 2 = 0 ∨ n % 2 = 1 by omega) with h | h <;> rw [h] <;> decide
theorem preN_ok (n : Nat) : preOk (preN n) = true := by
  unfold preN
  rcases mod4 n with h | h | h | h <;> rw [h] <;> decide
theorem manyN_ok (y z : Nat) (hz : z < 256) : (∀ s ∈ manyN y z, keyOk s = true) ∧ 1 ≤ (manyN y z).length ∧ (manyN y z).length ≤ 8 := by
  unfold manyN
  split
  · exact ⟨fun s hs => by simp at hs; subst hs; exact (keyN_ok _).1, by simp, by simp⟩
  · rename_i h
    refine ⟨fun s hs => ?_, ?_, ?_⟩
    · obtain ⟨i, _, rfl⟩ := List.mem_map.1 hs
      exact (keyN_ok i).1
    · rw [List.length_map]
      have hb : ∀ i, i < 8 → z / 2 ^ i % 2 = 1 → 1 ≤ ((List.range 8).filter fun i => z / 2 ^ i % 2 == 1).length := fun i hi hz => List.length_pos_of_mem (List.mem_filter.2 ⟨List.mem_range.2 hi, by simpa using hz⟩)
      rcases (show z / 2 ^ 0 % 2 = 1 ∨ z / 2 ^ 1 % 2 = 1 ∨ z / 2 ^ 2 % 2 = 1 ∨ z / 2 ^ 3 % 2 = 1 ∨ z / 2 ^ 4 % 2 = 1 ∨ z / 2 ^ 5 % 2 = 1 ∨ z / 2 ^ 6 % 2 = 1 ∨ z / 2 ^ 7 % 2 = 1 by omega) with g | g | g | g | g | g | g | g
      · exact hb 0 (by omega) g
      · exact hb 1 (by omega) g
      · exact hb 2 (by omega) g
      · exact hb 3 (by omega) g
      · exact hb 4 (by omega) g
      · exact hb 5 (by omega) g
      · exact hb 6 (by omega) g
      · exact hb 7 (by omega) g
    · rw [List.length_map]
      exact Nat.le_trans (List.length_filter_le _ _) (by simp)
theorem shortR_ok (y z u : Nat) (hz : z < 256) (hu : u < 256) : CmdV (shortR y z u) := by
  have k1 := (keyN_ok (y / 15)).1
  have k2 := (keyN_ok z).1
  have l1 := lifeN_ok (z / 16)
  have t1 := tagsN_ok (z / 4)
  have m1 := manyN_ok y z hz
  have v1 : ∀ x ∈ List.replicate (z % 4) (97 + ((u % 16 : Nat) : Int)), 0 ≤ x ∧ x < 256 := fun x hx => by
    rw [(List.mem_replicate.1 hx).2]
    omega
  have v2 : (List.replicate (z % 4) (97 + ((u % 16 : Nat) : Int))).length ≤ 65536 := by rw [List.length_replicate]; omega
  unfold shortR
  split
  · exact .set _ _ _ _ _ (by omega) k1 v1 v2 t1.1 (by omega) l1.1 l1.2
  split
  · exact .cas _ _ _ _ _ k1 v1 v2 t1.1 (by omega) l1.1 l1.2 (by omega)
  split
  · exact .key _ _ (by omega) k1
  split
  · exact .mget _ m1.1 m1.2.1 (by omega)
  split
  · exact .touch _ _ k1 l1.1 l1.2
  split
  · exact .tag _ _ (by omega) (tagN_ok z)
  split
  · exact .pre _ (preN_ok z)
  split
  · exact .dep _ _ _ (by omega) k1 k2
  · exact .none _ (by omega)

theorem putStrs_64 {l : List ByteArray} (h : ∀ s ∈ l, s.size ≤ 64) : (putStrs l).length ≤ 74 * l.length := by
  induction l with
  | nil => simp [putStrs]
  | cons a l ih =>
    have h1 := putV_len10 (n := a.size) (by have := h a (by simp); omega)
    have h2 := sBytes_len a
    have h3 := h a (by simp)
    have h4 := ih fun s hs => h s (by simp [hs])
    simp only [putStrs, List.length_append, List.length_cons]
    omega
theorem putLs_64 {l : List ByteArray} (h : ∀ s ∈ l, s.size ≤ 64) (hn : l.length ≤ 8) : (putLs l).length ≤ 610 := by
  have h1 := putV_len10 (n := l.length) (by omega)
  have h2 := putStrs_64 h
  simp only [putLs, List.length_append]
  omega
theorem putS_le {s : ByteArray} {m : Nat} (h : s.size ≤ m) (hm : m ≤ 1000) : (putS s).length ≤ m + 10 := by
  have h1 := putV_len10 (n := s.size) (by omega)
  have h2 := sBytes_len s
  simp only [putS, List.length_append]
  omega
theorem short_len (y z u : Nat) (hz : z < 256) (hu : u < 256) : (pay (shortR y z u)).length ≤ 1000 := by
  have k1 := putS_le (keyN_ok (y / 15)).2 (by omega)
  have k2 := putS_le (keyN_ok z).2 (by omega)
  have l1 := putV_len10 (lifeN_ok (z / 16)).2
  have t1 := putLs_64 (l := tagsN (z / 4)) (fun s hs => tagOk_size ((tagsN_ok (z / 4)).1 s hs)) (by have := (tagsN_ok (z / 4)).2; omega)
  have m1 := putLs_64 (l := manyN y z) (fun s hs => by
    have h2 : s.size ≤ 5 := by
      unfold manyN at hs
      split at hs
      · simp at hs; subst hs; exact (keyN_ok _).2
      · obtain ⟨i, _, rfl⟩ := List.mem_map.1 hs
        exact (keyN_ok i).2
    omega) (manyN_ok y z hz).2.2
  have g1 := putS_le (tagOk_size (tagN_ok z)) (by omega)
  have p1 := putS_le (show (preN z).size ≤ 250 by have := preN_ok z; simpa [preOk] using this) (by omega)
  have v1 := putV_len10 (n := z % 4) (by omega)
  have v2 := putV_len10 (n := u / 16) (by omega)
  unfold shortR
  split
  · rw [pay_set (by simp only; omega)]
    simp only [List.length_append, List.length_replicate, Int.toNat_natCast]
    omega
  split
  · rw [pay_cas rfl]
    simp only [List.length_append, List.length_replicate, Int.toNat_natCast]
    omega
  split
  · rw [pay_key (by simp only; omega)]
    simp only
    omega
  split
  · rw [pay_mget rfl]
    simp only
    omega
  split
  · rw [pay_touch rfl]
    simp only [List.length_append, Int.toNat_natCast]
    omega
  split
  · rw [pay_tag (by simp only; omega)]
    simp only
    omega
  split
  · rw [pay_pre rfl]
    simp only
    omega
  split
  · rw [pay_dep (by simp only; omega)]
    simp only [List.length_append]
    omega
  · rw [pay_none (by simp only; omega)]
    simp
theorem putV_byte (n : Nat) : ∀ x ∈ putV n, 0 ≤ x ∧ x < 256 := by
  induction n using Nat.strongRecOn with
  | ind n ih =>
    by_cases h : n ≤ 127
    · rw [putV_small h]
      intro x hx
      simp at hx
      omega
    · rw [putV_more h]
      intro x hx
      rcases List.mem_cons.1 hx with rfl | hx
      · omega
      · exact ih (n / 128) (by omega) x hx
theorem sBytes_byte (s : ByteArray) : ∀ x ∈ sBytes s, 0 ≤ x ∧ x < 256 := by
  intro x hx
  unfold sBytes at hx
  obtain ⟨b, _, rfl⟩ := List.mem_map.1 hx
  have := b.toNat_lt
  omega
theorem putS_byte (s : ByteArray) : ∀ x ∈ putS s, 0 ≤ x ∧ x < 256 := fun x hx => by
  rcases List.mem_append.1 hx with h | h
  · exact putV_byte _ x h
  · exact sBytes_byte s x h
theorem putStrs_byte : ∀ (l : List ByteArray), ∀ x ∈ putStrs l, 0 ≤ x ∧ x < 256
  | [], x, h => by simp [putStrs] at h
  | s :: l, x, h => by
    rcases List.mem_append.1 h with h | h
    · exact putS_byte s x h
    · exact putStrs_byte l x h
theorem putLs_byte (l : List ByteArray) : ∀ x ∈ putLs l, 0 ≤ x ∧ x < 256 := fun x hx => by
  rcases List.mem_append.1 hx with h | h
  · exact putV_byte _ x h
  · exact putStrs_byte l x h
theorem pay_byte {c : CmdR} (h : CmdV c) : ∀ x ∈ pay c, 0 ≤ x ∧ x < 256 := fun x hx => by
  have hv := h.sizes.2.1
  unfold pay at hx
  repeat' split at hx
  all_goals try simp only [List.mem_append, List.not_mem_nil] at hx
  · rcases hx with ((hx | (hx | hx)) | hx) | hx <;> first | exact putS_byte _ x hx | exact putV_byte _ x hx | exact putLs_byte _ x hx | exact hv x hx
  · rcases hx with (((hx | (hx | hx)) | hx) | hx) | hx <;> first | exact putS_byte _ x hx | exact putV_byte _ x hx | exact putLs_byte _ x hx | exact hv x hx
  · exact putS_byte _ x hx
  · exact putLs_byte _ x hx
  · rcases hx with hx | hx <;> first | exact putS_byte _ x hx | exact putV_byte _ x hx | exact putLs_byte _ x hx | exact hv x hx
  · exact putS_byte _ x hx
  · exact putS_byte _ x hx
  · rcases hx with hx | hx <;> first | exact putS_byte _ x hx | exact putV_byte _ x hx | exact putLs_byte _ x hx | exact hv x hx
end Go.Proofs.Ytnmhmabifeapkaa.Ord
