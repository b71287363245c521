/- Plain law: the ways to each set of calls, by sets as bits. -/
import Derived.Test.YtnmhmabifeapkaaA12
namespace Go.Proofs.Ytnmhmabifeapkaa.Ord
set_option linter.unusedVariables false

def clr (x k : Nat) : Nat := x ^^^ 2 ^ k
theorem clr_bit (x k j : Nat) : (clr x k).testBit j = (x.testBit j ^^ decide (k = j)) := by
  rw [clr, Nat.testBit_xor, Nat.testBit_two_pow]
theorem clr_or {m k x : Nat} (hm : m.testBit k = false) : (x = m ||| 2 ^ k) ↔ (x.testBit k = true ∧ clr x k = m) := by
  constructor
  · rintro rfl
    refine ⟨by rw [Nat.testBit_or, Nat.testBit_two_pow]; simp, ?_⟩
    apply Nat.eq_of_testBit_eq
    intro i
    rw [clr_bit, Nat.testBit_or, Nat.testBit_two_pow]
    by_cases h : k = i
    · subst h; rw [hm]; simp
    · simp [h]
  · rintro ⟨h, rfl⟩
    apply Nat.eq_of_testBit_eq
    intro i
    rw [Nat.testBit_or, Nat.testBit_two_pow, clr_bit]
    by_cases h2 : k = i
    · subst h2; simp [h]
    · simp [h2]
theorem clr_lt {x k : Nat} (h : x.testBit k = true) : clr x k < x := by
  have h1 : (clr x k).testBit k = false := by rw [clr_bit, h]; simp
  have h2 := (clr_or (x := x) h1).2 ⟨h, rfl⟩
  have h3 : clr x k ≤ x := by
    have := Nat.left_le_or (n := clr x k) (m := 2 ^ k)
    omega
  have h4 : clr x k ≠ x := fun e => by rw [e, h] at h1; cases h1
  omega
theorem mayB_bit {m k p : Nat} (h : mayB m k p = true) : m.testBit k = false := by
  unfold mayB at h
  simp only [Bool.and_eq_true, Bool.not_eq_true'] at h
  exact h.1
theorem eq_zero_of_bits {x nd : Nat} (hx : x < 2 ^ nd) (h : ∀ k, k < nd → x.testBit k = false) : x = 0 := by
  apply Nat.eq_of_testBit_eq
  intro i
  rw [Nat.zero_testBit]
  by_cases hi : i < nd
  · exact h i hi
  · exact Nat.testBit_lt_two_pow (Nat.lt_of_lt_of_le hx (Nat.pow_le_pow_right (by decide) (by omega)))

/-- a sum over the places below nd -/
def sm (nd : Nat) (g : Nat → Nat) : Nat := ((List.range nd).map g).sum
theorem sm_zero (g : Nat → Nat) : sm 0 g = 0 := rfl
theorem sm_succ (nd : Nat) (g : Nat → Nat) : sm (nd + 1) g = sm nd g + g nd := by simp [sm, List.range_succ]
theorem sm_congr {nd : Nat} {g g' : Nat → Nat} (h : ∀ k, k < nd → g k = g' k) : sm nd g = sm nd g' := by
  unfold sm
  rw [List.map_congr_left (fun a ha => h a (List.mem_range.1 ha))]
theorem sm_le {g g' : Nat → Nat} : ∀ nd : Nat, (∀ k, k < nd → g k ≤ g' k) → sm nd g ≤ sm nd g'
  | 0, _ => Nat.le_refl _
  | nd + 1, h => by
    have := sm_le nd fun k hk => h k (by omega)
    have := h nd (by omega)
    rw [sm_succ, sm_succ]; omega
theorem sm_const {g : Nat → Nat} {c : Nat} : ∀ nd : Nat, (∀ k, k < nd → g k ≤ c) → sm nd g ≤ nd * c
  | 0, _ => by simp [sm_zero]
  | nd + 1, h => by
    have := sm_const nd fun k hk => h k (by omega)
    have := h nd (by omega)
    rw [sm_succ, Nat.succ_mul]; omega
/-- one place's term more -/
theorem sm_one {nd k c : Nat} {g g' : Nat → Nat} (hk : k < nd) (h : ∀ j, j < nd → j ≠ k → g' j = g j) (hc : g' k = g k + c) : sm nd g' = sm nd g + c := by
  induction nd with
  | zero => omega
  | succ n ih =>
    rw [sm_succ, sm_succ]
    by_cases e : k = n
    · subst e
      rw [hc, sm_congr (g := g') (g' := g) fun j hj => h j (by omega) (by omega)]; omega
    · rw [ih (by omega) fun j hj hne => h j (by omega) hne, h n (by omega) (fun h => e h.symm)]; omega

/-- how many bits a set has -/
def pc (nd x : Nat) : Nat := sm nd fun k => if x.testBit k then 1 else 0
theorem pc_clr {nd x k : Nat} (hk : k < nd) (h : x.testBit k = true) : pc nd x = pc nd (clr x k) + 1 :=
  sm_one hk (fun j _ hne => by
    have : decide (k = j) = false := by simp; omega
    rw [clr_bit, this, Bool.xor_false]) (by rw [clr_bit, h]; simp)
theorem pc_le (nd x : Nat) : pc nd x ≤ nd := by
  have := sm_const (c := 1) (g := fun k => if x.testBit k then 1 else 0) nd (fun k _ => by split <;> omega)
  unfold pc; omega
theorem pc_zero (nd : Nat) : pc nd 0 = 0 := by
  unfold pc
  rw [sm_congr (g' := fun _ => 0) (fun k _ => by simp)]
  have := sm_const (c := 0) (g := fun _ => 0) nd (fun _ _ => Nat.le_refl _)
  omega

section
variable (p : Nat → Nat) (nd : Nat)
/-- the ways to a set of c places -/
def Ff : Nat → Nat → Nat
  | 0, x => if x = 0 then 1 else 0
  | c + 1, x => if x = 0 then 1 else sm nd fun k => if x.testBit k && mayB (clr x k) k (p k) then Ff c (clr x k) else 0
def F (x : Nat) : Nat := Ff p nd (pc nd x) x
variable {p nd}
theorem F_zero : F p nd 0 = 1 := by
  rw [F, pc_zero]; rfl
theorem F_eq {x : Nat} (hx : x < 2 ^ nd) (h0 : x ≠ 0) : F p nd x = sm nd fun k => if x.testBit k && mayB (clr x k) k (p k) then F p nd (clr x k) else 0 := by
  have hpos : ∃ c, pc nd x = c + 1 := by
    obtain ⟨k, hk, hb⟩ : ∃ k, k < nd ∧ x.testBit k = true := by
      refine Classical.byContradiction fun hn => h0 (eq_zero_of_bits hx fun k hk => ?_)
      cases hb : x.testBit k with
      | false => rfl
      | true => exact absurd ⟨k, hk, hb⟩ hn
    exact ⟨_, pc_clr hk hb⟩
  obtain ⟨c, hc⟩ := hpos
  rw [F, hc, Ff, if_neg h0]
  refine sm_congr fun k hk => ?_
  cases hb : x.testBit k with
  | false => simp
  | true =>
    have := pc_clr hk hb
    rw [F, show pc nd (clr x k) = c by omega]
theorem Ff_le (hnd : nd ≤ 12) : ∀ c x, Ff p nd c x ≤ 12 ^ c
  | 0, x => by rw [Ff]; split <;> simp
  | c + 1, x => by
    rw [Ff]
    split
    · exact Nat.pow_pos (by decide)
    · have h := sm_const (c := 12 ^ c) (g := fun k => if x.testBit k && mayB (clr x k) k (p k) then Ff p nd c (clr x k) else 0) nd fun k _ => by
        split
        · exact Ff_le hnd c _
        · exact Nat.zero_le _
      refine Nat.le_trans h ?_
      rw [Nat.pow_succ, Nat.mul_comm (12 ^ c)]
      exact Nat.mul_le_mul_right _ hnd
theorem F_le (hnd : nd ≤ 12) (x : Nat) : F p nd x ≤ 8916100448256 := by
  refine Nat.le_trans (Ff_le hnd _ _) ?_
  exact Nat.le_trans (Nat.pow_le_pow_right (by decide) (Nat.le_trans (pc_le nd x) hnd)) (by decide)

variable (p nd)
/-- what the table holds when the sets below m, and of m the places below k, are done -/
def S (m k x : Nat) : Nat := if x = 0 then 1 else sm nd fun j => if x.testBit j && mayB (clr x j) j (p j) && (decide (clr x j < m) || (decide (clr x j = m) && decide (j < k))) then F p nd (clr x j) else 0
variable {p nd}
theorem S_init (x : Nat) : S p nd 0 0 x = if x = 0 then 1 else 0 := by
  unfold S
  split
  · rfl
  · have := sm_const (c := 0) (g := fun j => if x.testBit j && mayB (clr x j) j (p j) && (decide (clr x j < 0) || (decide (clr x j = 0) && decide (j < 0))) then F p nd (clr x j) else 0) nd (fun k _ => by simp)
    omega
theorem S_next (m x : Nat) : S p nd m nd x = S p nd (m + 1) 0 x := by
  unfold S
  split
  · rfl
  · refine sm_congr fun j hj => ?_
    have : (decide (clr x j < m) || (decide (clr x j = m) && decide (j < nd))) = (decide (clr x j < m + 1) || (decide (clr x j = m + 1) && decide (j < 0))) := by
      rw [Bool.eq_iff_iff]; simp; omega
    rw [this]
theorem S_no {m k : Nat} (h : mayB m k (p k) = false) (x : Nat) : S p nd m (k + 1) x = S p nd m k x := by
  unfold S
  split
  · rfl
  · refine sm_congr fun j hj => ?_
    by_cases e : clr x j = m ∧ j = k
    · obtain ⟨e1, e2⟩ := e
      subst e2
      rw [e1, h]; simp
    · have : (decide (clr x j < m) || (decide (clr x j = m) && decide (j < k + 1))) = (decide (clr x j < m) || (decide (clr x j = m) && decide (j < k))) := by
        rw [Bool.eq_iff_iff]; simp; omega
      rw [this]
theorem S_self {m : Nat} (k : Nat) (hm : m < 2 ^ nd) : S p nd m k m = F p nd m := by
  unfold S
  split
  · next h => subst h; exact F_zero.symm
  · next h =>
    rw [F_eq hm h]
    refine sm_congr fun j hj => ?_
    cases hb : m.testBit j with
    | false => simp
    | true =>
      have : decide (clr m j < m) = true := by simpa using clr_lt hb
      rw [this]; simp
theorem S_yes {m k : Nat} (hk : k < nd) (hm : m < 2 ^ nd) (h : mayB m k (p k) = true) (x : Nat) : S p nd m (k + 1) x = if x = m ||| 2 ^ k then S p nd m k x + S p nd m k m else S p nd m k x := by
  have hb := mayB_bit h
  have hx := clr_or (x := x) hb
  by_cases e : x = m ||| 2 ^ k
  · rw [if_pos e, S_self k hm]
    obtain ⟨h1, h2⟩ := hx.1 e
    have h0 : x ≠ 0 := by rintro rfl; simp at h1
    unfold S
    rw [if_neg h0, if_neg h0]
    refine sm_one hk (fun j hj hne => ?_) ?_
    · have : (decide (clr x j < m) || (decide (clr x j = m) && decide (j < k + 1))) = (decide (clr x j < m) || (decide (clr x j = m) && decide (j < k))) := by
        rw [Bool.eq_iff_iff]; simp; omega
      rw [this]
    · rw [h1, h2, h]; simp
  · rw [if_neg e]
    unfold S
    split
    · rfl
    · refine sm_congr fun j hj => ?_
      by_cases e2 : j = k ∧ x.testBit j = true ∧ clr x j = m
      · obtain ⟨e3, e4, e5⟩ := e2
        subst e3
        exact absurd (hx.2 ⟨e4, e5⟩) e
      · by_cases e3 : x.testBit j = true
        · have : (decide (clr x j < m) || (decide (clr x j = m) && decide (j < k + 1))) = (decide (clr x j < m) || (decide (clr x j = m) && decide (j < k))) := by
            rw [Bool.eq_iff_iff]; simp
            by_cases e4 : j = k
            · subst e4
              have : clr x j ≠ m := fun h => e2 ⟨rfl, e3, h⟩
              omega
            · omega
          rw [this]
        · simp [e3]
theorem S_le {m k x : Nat} (hnd : nd ≤ 12) (hx : x < 2 ^ nd) : S p nd m k x ≤ 8916100448256 := by
  refine Nat.le_trans ?_ (F_le (p := p) hnd x)
  unfold S
  split
  · next h => subst h; rw [F_zero]; exact Nat.le_refl _
  · next h =>
    rw [F_eq hx h]
    refine sm_le nd fun j _ => ?_
    cases x.testBit j && mayB (clr x j) j (p j) with
    | false => simp
    | true =>
      simp only [Bool.true_and, if_true]
      split <;> omega
theorem S_done (hnd : nd ≤ 12) {x : Nat} (hx : x < 2 ^ nd) : S p nd (2 ^ nd) 0 x = F p nd x := by
  unfold S
  split
  · next h => subst h; exact F_zero.symm
  · next h =>
    rw [F_eq hx h]
    refine sm_congr fun j hj => ?_
    cases hb : x.testBit j with
    | false => simp
    | true =>
      have : decide (clr x j < 2 ^ nd) = true := by simpa using Nat.lt_trans (clr_lt hb) hx
      rw [this]; simp
end
end Go.Proofs.Ytnmhmabifeapkaa.Ord
