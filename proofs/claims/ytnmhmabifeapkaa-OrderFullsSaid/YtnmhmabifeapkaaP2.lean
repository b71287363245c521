/- Plain law: orders counted from the front are orders counted from the back. -/
import Derived.Test.YtnmhmabifeapkaaA13
namespace Go.Proofs.Ytnmhmabifeapkaa.Ord
set_option linter.unusedVariables false

section
variable (R : Nat → Nat → Bool)

/-- the orders of the places, by the first of them -/
def freeA (A : List Nat) (i k : Nat) : Bool := (List.range k).all fun (j : Nat) => j == i || !R (A.getD j 0) (A.getD i 0)
def E1 : Nat → List Nat → List (List Nat)
  | 0, _ => [[]]
  | n + 1, A => (List.range (n + 1)).flatMap fun (i : Nat) => if freeA R A i (n + 1) then (E1 n (A.eraseIdx i)).map (A.getD i 0 :: ·) else []

variable {R}
theorem freeA_iff {A : List Nat} {i k : Nat} : freeA R A i k = true ↔ ∀ j, j < k → j ≠ i → R (A.getD j 0) (A.getD i 0) = false := by
  unfold freeA
  simp only [List.all_eq_true, List.mem_range, Bool.or_eq_true, beq_iff_eq, Bool.not_eq_true']
  constructor
  · intro h j hj hne
    rcases h j hj with h1 | h1
    · exact absurd h1 hne
    · exact h1
  · intro h j hj
    by_cases e : j = i
    · exact .inl e
    · exact .inr (h j hj e)

theorem erase_perm {A : List Nat} {i : Nat} (hi : i < A.length) : (A[i] :: A.eraseIdx i).Perm A := by
  have h1 : A = A.take i ++ A[i] :: A.drop (i + 1) := by
    rw [List.getElem_cons_drop, List.take_append_drop]
  have h2 : (A[i] :: A.eraseIdx i).Perm (A.take i ++ A[i] :: A.drop (i + 1)) := by
    rw [List.eraseIdx_eq_take_drop_succ]
    exact List.perm_middle.symm
  rw [← h1] at h2
  exact h2
theorem mem_E1 : ∀ {n : Nat} {A : List Nat}, A.length = n → A.Nodup → ∀ {s : List Nat}, s ∈ E1 R n A ↔ s.Perm A ∧ s.Pairwise (fun a b => R b a = false)
  | 0, A, hl, hn, s => by
    obtain rfl : A = [] := List.eq_nil_of_length_eq_zero hl
    simp only [E1, List.mem_singleton, List.perm_nil]
    constructor
    · rintro rfl; exact ⟨rfl, List.Pairwise.nil⟩
    · exact fun h => h.1
  | n + 1, A, hl, hn, s => by
    rw [E1, List.mem_flatMap]
    constructor
    · rintro ⟨i, hi, hs⟩
      have hi' : i < A.length := by rw [hl]; exact List.mem_range.1 hi
      split at hs
      · next hf =>
        rw [List.mem_map] at hs
        obtain ⟨r, hr, rfl⟩ := hs
        have ih := (mem_E1 (n := n) (A := A.eraseIdx i) (by rw [List.length_eraseIdx_of_lt hi']; omega) (hn.sublist (List.eraseIdx_sublist _ _))).1 hr
        have eg : A.getD i 0 = A[i] := by simp [List.getD, hi']
        rw [eg]
        refine ⟨(List.Perm.cons _ ih.1).trans (erase_perm hi'), List.pairwise_cons.2 ⟨fun b hb => ?_, ih.2⟩⟩
        have hb2 := ih.1.mem_iff.1 hb
        rw [List.mem_eraseIdx_iff_getElem] at hb2
        obtain ⟨j, hj, hji, rfl⟩ := hb2
        have := freeA_iff.1 hf j (by omega) hji
        rw [eg] at this
        simpa [List.getD, hj] using this
      · cases hs
    · rintro ⟨hp, hw⟩
      cases s with
      | nil =>
        have := hp.length_eq
        rw [hl] at this; simp at this
      | cons a r =>
        rw [List.pairwise_cons] at hw
        obtain ⟨i, hi', rfl⟩ := List.getElem_of_mem (hp.mem_iff.1 (List.mem_cons_self (a := a)))
        have eg : A.getD i 0 = A[i] := by simp [List.getD, hi']
        have hr : r.Perm (A.eraseIdx i) := List.Perm.cons_inv (hp.trans (erase_perm hi').symm)
        refine ⟨i, List.mem_range.2 (by omega), ?_⟩
        have hf : freeA R A i (n + 1) = true := freeA_iff.2 fun j hj hne => by
          have hj' : j < A.length := by omega
          have ej : A.getD j 0 = A[j] := by simp [List.getD, hj']
          rw [ej, eg]
          refine hw.1 _ (hr.mem_iff.2 ?_)
          rw [List.mem_eraseIdx_iff_getElem]
          exact ⟨j, hj', hne, rfl⟩
        rw [if_pos hf, List.mem_map]
        exact ⟨r, (mem_E1 (n := n) (by rw [List.length_eraseIdx_of_lt hi']; omega) (hn.sublist (List.eraseIdx_sublist _ _))).2 ⟨hr, hw.2⟩, by rw [eg]⟩

theorem nodup_E1 : ∀ {n : Nat} {A : List Nat}, A.length = n → A.Nodup → (E1 R n A).Nodup
  | 0, A, _, _ => by simp [E1]
  | n + 1, A, hl, hn => by
    rw [E1]
    unfold List.Nodup
    rw [List.pairwise_flatMap]
    refine ⟨fun i hi => ?_, ?_⟩
    · have hi' : i < A.length := by rw [hl]; exact List.mem_range.1 hi
      split
      · refine List.Pairwise.map _ ?_ (nodup_E1 (n := n) (A := A.eraseIdx i) (by rw [List.length_eraseIdx_of_lt hi']; omega) (hn.sublist (List.eraseIdx_sublist _ _)))
        intro a b hab e
        exact hab (List.cons.inj e).2
      · exact List.Pairwise.nil
    · have h0 : (List.range (n + 1)).Pairwise (fun a b => a < b) := List.pairwise_lt_range
      refine List.Pairwise.imp_of_mem ?_ h0
      intro i j hi hj hij x hx y hy e
      subst e
      have hi' : i < A.length := by rw [hl]; exact List.mem_range.1 hi
      have hj' : j < A.length := by rw [hl]; exact List.mem_range.1 hj
      split at hx
      · split at hy
        · rw [List.mem_map] at hx hy
          obtain ⟨r1, _, e1⟩ := hx
          obtain ⟨r2, _, e2⟩ := hy
          have e3 := e1.trans e2.symm
          have e4 := (List.cons.inj e3).1
          have : A[i] = A[j] := by simpa [List.getD, hi', hj'] using e4
          exact (List.pairwise_iff_getElem.1 hn) i j hi' hj' hij this
        · cases hy
      · cases hx
end

section
variable (bf : Nat → Nat → Bool) (nd : Nat)
/-- the orders of the places of a set, the last one first -/
def E2 : Nat → Nat → List (List Nat)
  | 0, x => if x = 0 then [[]] else []
  | c + 1, x => if x = 0 then [[]] else (List.range nd).flatMap fun (k : Nat) => if x.testBit k && mayB (clr x k) k (predK bf k nd) then (E2 c (clr x k)).map (k :: ·) else []
def Good : List Nat → Prop
  | [] => True
  | k :: r => (∀ j, j < nd → bf j k = true → j ∈ r) ∧ Good r
variable {bf nd}
theorem sum_ite (g : Nat → List (List Nat)) (b : Nat → Bool) (h : Nat → Nat) (l : List Nat) (hh : ∀ k ∈ l, (g k).length = h k) : ((l.flatMap fun k => if b k then (g k).map (k :: ·) else []).length) = (l.map fun k => if b k then h k else 0).sum := by
  induction l with
  | nil => rfl
  | cons k l ih =>
    rw [List.flatMap_cons, List.length_append, List.map_cons, List.sum_cons, ih fun k hk => hh k (List.mem_cons_of_mem _ hk)]
    congr 1
    split
    · rw [List.length_map, hh k List.mem_cons_self]
    · rfl
theorem length_E2 : ∀ c x, (E2 bf nd c x).length = Ff (fun k => predK bf k nd) nd c x
  | 0, x => by rw [E2, Ff]; split <;> rfl
  | c + 1, x => by
    rw [E2, Ff]
    split
    · rfl
    · exact sum_ite (fun k => E2 bf nd c (clr x k)) (fun k => x.testBit k && mayB (clr x k) k (predK bf k nd)) (fun k => Ff (fun k => predK bf k nd) nd c (clr x k)) _ fun k _ => length_E2 c (clr x k)
theorem predK_bit (i k : Nat) : ∀ j, (predK bf i j).testBit k = (decide (k < j) && bf k i)
  | 0 => by simp [predK]
  | j + 1 => by
    have ih := predK_bit i k j
    rw [predK]
    by_cases e : j = k
    · subst e
      have h0 : (predK bf i j).testBit j = false := by rw [ih]; simp
      cases hb : bf j i with
      | true => rw [if_pos rfl, Nat.testBit_or, Nat.testBit_two_pow]; simp
      | false => simp [h0]
    · have e2 : decide (k < j + 1) = decide (k < j) := by rw [decide_eq_decide]; omega
      rw [e2, ← ih]
      split
      · rw [Nat.testBit_or, Nat.testBit_two_pow]; simp [e]
      · rfl
theorem may_iff {x k : Nat} (hx : x.testBit k = true) : mayB (clr x k) k (predK bf k nd) = true ↔ ∀ j, j < nd → bf j k = true → (clr x k).testBit j = true := by
  have h0 : (clr x k).testBit k = false := by rw [clr_bit, hx]; simp
  unfold mayB
  rw [h0]
  simp only [Bool.not_false, Bool.true_and, decide_eq_true_eq]
  constructor
  · intro h j hj hb
    have h1 := congrArg (fun y => Nat.testBit y j) h
    simp only [Nat.testBit_and, predK_bit, hj, decide_true, hb, Bool.true_and] at h1
    exact h1
  · intro h
    apply Nat.eq_of_testBit_eq
    intro j
    rw [Nat.testBit_and, predK_bit]
    by_cases hj : j < nd
    · cases hb : bf j k with
      | true => rw [h j hj hb]; simp [hj]
      | false => simp
    · simp [hj]
theorem pc_pos {x : Nat} (hx : x < 2 ^ nd) (h : pc nd x = 0) : x = 0 := by
  refine eq_zero_of_bits hx fun k hk => ?_
  cases hb : x.testBit k with
  | false => rfl
  | true => have := pc_clr hk hb; omega
theorem mem_E2 : ∀ {c x : Nat}, x < 2 ^ nd → pc nd x = c → ∀ {s : List Nat}, s ∈ E2 bf nd c x ↔ s.Nodup ∧ (∀ j, j ∈ s ↔ x.testBit j = true) ∧ Good bf nd s
  | 0, x, hx, hc, s => by
    obtain rfl := pc_pos hx hc
    rw [E2, if_pos rfl, List.mem_singleton]
    constructor
    · rintro rfl; exact ⟨List.nodup_nil, by simp, trivial⟩
    · rintro ⟨_, h, _⟩
      cases s with
      | nil => rfl
      | cons a r => have := (h a).1 List.mem_cons_self; simp at this
  | c + 1, x, hx, hc, s => by
    have h0 : x ≠ 0 := by rintro rfl; rw [pc_zero] at hc; omega
    rw [E2, if_neg h0, List.mem_flatMap]
    constructor
    · rintro ⟨k, hk, hs⟩
      rw [List.mem_range] at hk
      split at hs
      · next hcond =>
        rw [Bool.and_eq_true] at hcond
        rw [List.mem_map] at hs
        obtain ⟨r, hr, rfl⟩ := hs
        have hb := hcond.1
        have hpc := pc_clr hk hb
        have ih := (mem_E2 (Nat.lt_trans (clr_lt hb) hx) (by omega)).1 hr
        have hkb : (clr x k).testBit k = false := by rw [clr_bit, hb]; simp
        refine ⟨List.nodup_cons.2 ⟨fun hm => ?_, ih.1⟩, fun j => ?_, fun j hj hbj => (ih.2.1 j).2 ((may_iff hb).1 hcond.2 j hj hbj), ih.2.2⟩
        · rw [(ih.2.1 k).1 hm] at hkb; cases hkb
        · rw [List.mem_cons, ih.2.1 j, clr_bit]
          by_cases e : k = j
          · subst e; simp [hb]
          · simp [e, Ne.symm e]
      · cases hs
    · rintro ⟨hn, hm, hg⟩
      cases s with
      | nil =>
        refine absurd (eq_zero_of_bits hx fun k _ => ?_) h0
        cases hb : x.testBit k with
        | false => rfl
        | true => have := (hm k).2 hb; cases this
      | cons k r =>
        have hb := (hm k).1 List.mem_cons_self
        have hk : k < nd := by
          refine Classical.byContradiction fun hlt => ?_
          rw [Nat.testBit_lt_two_pow (Nat.lt_of_lt_of_le hx (Nat.pow_le_pow_right (by decide) (by omega)))] at hb
          cases hb
        have hpc := pc_clr hk hb
        rw [List.nodup_cons] at hn
        have hmem : ∀ j, j ∈ r ↔ (clr x k).testBit j = true := fun j => by
          rw [clr_bit]
          by_cases e : k = j
          · subst e; simp [hb, hn.1]
          · have := hm j
            rw [List.mem_cons] at this
            simp only [Ne.symm e, false_or] at this
            simp [e, this]
        refine ⟨k, List.mem_range.2 hk, ?_⟩
        have hcond : (x.testBit k && mayB (clr x k) k (predK bf k nd)) = true := by
          rw [hb, Bool.true_and]
          exact (may_iff hb).2 fun j hj hbj => (hmem j).1 (hg.1 j hj hbj)
        rw [if_pos hcond, List.mem_map]
        exact ⟨r, (mem_E2 (Nat.lt_trans (clr_lt hb) hx) (by omega)).2 ⟨hn.2, hmem, hg.2⟩, rfl⟩
theorem nodup_E2 : ∀ c x, (E2 bf nd c x).Nodup
  | 0, x => by rw [E2]; split <;> simp
  | c + 1, x => by
    rw [E2]
    split
    · simp
    · unfold List.Nodup
      rw [List.pairwise_flatMap]
      refine ⟨fun k _ => ?_, ?_⟩
      · split
        · exact List.Pairwise.map _ (fun a b hab e => hab (List.cons.inj e).2) (nodup_E2 c _)
        · exact List.Pairwise.nil
      · refine List.Pairwise.imp ?_ (List.pairwise_lt_range (n := nd))
        intro i j hij y hy z hz e
        subst e
        split at hy
        · split at hz
          · rw [List.mem_map] at hy hz
            obtain ⟨r1, _, e1⟩ := hy
            obtain ⟨r2, _, e2⟩ := hz
            have := (List.cons.inj (e1.trans e2.symm)).1
            omega
          · cases hz
        · cases hy
end

theorem good_mem {bf : Nat → Nat → Bool} {nd : Nat} : ∀ {s : List Nat}, Good bf nd s → ∀ {b j : Nat}, b ∈ s → j < nd → bf j b = true → j ∈ s
  | k :: r, hg, b, j, hb, hj, hbj => by
    rcases List.mem_cons.1 hb with e | hb
    · subst e; exact List.mem_cons_of_mem _ (hg.1 j hj hbj)
    · exact List.mem_cons_of_mem _ (good_mem hg.2 hb hj hbj)
/-- a list of different places, each of which knows those that must come before it behind it: backwards it is an order that holds -/
theorem good_iff {R : Nat → Nat → Bool} {nd : Nat} : ∀ {pre s : List Nat}, (pre ++ s).Nodup → (∀ j, j < nd → j ∈ pre ++ s) →
    (Good (fun a b => a != b && R a b) nd s ∧ (∀ k ∈ s, ∀ a ∈ pre, a < nd → R a k = false) → s.Pairwise (fun a b => a < nd → R a b = false)) ∧
    (s.Pairwise (fun a b => R a b = false) → (∀ k ∈ s, ∀ a ∈ pre, R a k = false) → Good (fun a b => a != b && R a b) nd s)
  | pre, [], _, _ => ⟨fun _ => List.Pairwise.nil, fun _ _ => trivial⟩
  | pre, k :: r, hn, hm => by
    have e : pre ++ k :: r = (pre ++ [k]) ++ r := by simp
    have hn2 : ((pre ++ [k]) ++ r).Nodup := by rw [← e]; exact hn
    have hm2 : ∀ j, j < nd → j ∈ (pre ++ [k]) ++ r := fun j hj => by rw [← e]; exact hm j hj
    have ih := good_iff (R := R) (nd := nd) hn2 hm2
    rw [List.nodup_append] at hn
    have hkr := (List.nodup_cons.1 hn.2.1).1
    constructor
    · rintro ⟨⟨h1, h2⟩, h3⟩
      have key : ∀ b ∈ r, k < nd → R k b = false := by
        intro b hb hk
        cases hR : R k b with
        | false => rfl
        | true =>
          have hne : k ≠ b := fun e => hkr (e ▸ hb)
          exact absurd (good_mem h2 hb hk (by simp [hR, hne])) hkr
      refine List.pairwise_cons.2 ⟨key, ih.1 ⟨h2, ?_⟩⟩
      intro b hb a ha hlt
      rcases List.mem_append.1 ha with ha | ha
      · exact h3 b (List.mem_cons_of_mem _ hb) a ha hlt
      · simp only [List.mem_singleton] at ha; subst ha; exact key b hb hlt
    · intro hp hpre
      rw [List.pairwise_cons] at hp
      refine ⟨fun j hj hb => ?_, ih.2 hp.2 ?_⟩
      · simp only [Bool.and_eq_true, bne_iff_ne] at hb
        rcases List.mem_append.1 (hm j hj) with h | h
        · have := hpre k List.mem_cons_self j h
          rw [this] at hb; cases hb.2
        · rcases List.mem_cons.1 h with h | h
          · exact absurd h hb.1
          · exact h
      · intro b hb a ha
        rcases List.mem_append.1 ha with ha | ha
        · exact hpre b (List.mem_cons_of_mem _ hb) a ha
        · simp only [List.mem_singleton] at ha; subst ha; exact hp.1 b hb
end Go.Proofs.Ytnmhmabifeapkaa.Ord
