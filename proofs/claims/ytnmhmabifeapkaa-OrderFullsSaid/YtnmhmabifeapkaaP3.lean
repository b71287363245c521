/- Plain law: the reference's count is the table's last cell. -/
import Derived.Test.YtnmhmabifeapkaaP2
import Derived.Test.YtnmhmabifeapkaaP0
namespace Go.Proofs.Ytnmhmabifeapkaa.Ord
set_option linter.unusedVariables false

theorem at_get {l : List CallC} {i : Nat} (h : i < l.length) : at_ l (i : Int) = l[i] := by simp [at_, List.getD, h]
theorem map_at (l : List CallC) : (List.range l.length).map (fun (i : Nat) => at_ l (i : Int)) = l := by
  apply List.ext_getElem?
  intro i
  by_cases h : i < l.length
  · rw [List.getElem?_map, List.getElem?_range h, List.getElem?_eq_getElem h, Option.map_some, at_get h]
  · rw [List.getElem?_eq_none (by simp; omega), List.getElem?_eq_none (by omega)]
theorem dcalls_eq (l : List CallC) : dcalls l = (doneN l).map fun (n : Nat) => at_ l (n : Int) := by
  have h : (List.range l.length).filter ((fun c : CallC => decide (0 ≤ c.d)) ∘ fun (i : Nat) => at_ l (i : Int)) = doneN l := by
    unfold doneN
    refine List.filter_congr fun i hi => ?_
    have hi := List.mem_range.1 hi
    simp only [Function.comp, at_get hi, List.getElem?_eq_getElem hi]
  rw [← h, ← List.filter_map, map_at]
  rfl
theorem dcalls_length (l : List CallC) : (dcalls l).length = (doneN l).length := by rw [dcalls_eq, List.length_map]

theorem map_erase {α β : Type} (f : α → β) (A : List α) (i : Nat) : (A.map f).eraseIdx i = (A.eraseIdx i).map f := by
  rw [List.eraseIdx_eq_take_drop_succ, List.eraseIdx_eq_take_drop_succ, List.map_append, List.map_take, List.map_drop]
theorem sum_ite' (g : Nat → List (List Nat)) (b : Nat → Bool) (h : Nat → Nat) (v : Nat → Nat) (l : List Nat) (hh : ∀ k ∈ l, (g k).length = h k) : ((l.flatMap fun k => if b k then (g k).map (v k :: ·) else []).length) = (l.map fun k => if b k then h k else 0).sum := by
  induction l with
  | nil => rfl
  | cons k l ih =>
    rw [List.flatMap_cons, List.length_append, List.map_cons, List.sum_cons, ih fun k hk => hh k (List.mem_cons_of_mem _ hk)]
    congr 1
    split
    · rw [List.length_map, hh k List.mem_cons_self]
    · rfl
theorem length_E1 (c : Nat → CallC) : ∀ (n : Nat) (A : List Nat), A.length = n → (E1 (fun a b => before (c a) (c b)) n A).length = countF n (A.map c)
  | 0, A, _ => rfl
  | n + 1, A, hl => by
    rw [E1, countF]
    rw [sum_ite' (fun i => E1 (fun a b => before (c a) (c b)) n (A.eraseIdx i)) (fun i => freeA (fun a b => before (c a) (c b)) A i (n + 1)) (fun i => countF n ((A.eraseIdx i).map c)) (fun i => A.getD i 0) _ fun i hi =>
      length_E1 c n (A.eraseIdx i) (by rw [List.length_eraseIdx_of_lt (by rw [hl]; exact List.mem_range.1 hi)]; omega)]
    congr 1
    refine List.map_congr_left fun i hi => ?_
    have hi := List.mem_range.1 hi
    rw [map_erase]
    have : freeK (A.map c) i (n + 1) = freeA (fun a b => before (c a) (c b)) A i (n + 1) := by
      unfold freeK freeA
      have hat : ∀ j, j < n + 1 → at_ (A.map c) (j : Int) = c (A.getD j 0) := fun j hj => by
        have h1 : j < (A.map c).length := by rw [List.length_map]; omega
        have h2 : j < A.length := by omega
        rw [at_get h1]
        simp [List.getD, h2]
      rw [Bool.eq_iff_iff, List.all_eq_true, List.all_eq_true]
      constructor
      · intro h j hj
        have := h j hj
        rw [hat j (List.mem_range.1 hj), hat i hi] at this
        exact this
      · intro h j hj
        have := h j hj
        rw [hat j (List.mem_range.1 hj), hat i hi]
        exact this
    rw [this]

theorem full_bit (nd k : Nat) : (2 ^ nd - 1).testBit k = decide (k < nd) := Nat.testBit_two_pow_sub_one nd k
theorem pc_full (nd : Nat) : pc nd (2 ^ nd - 1) = nd := by
  have h : ∀ m, m ≤ nd → sm m (fun k => if (2 ^ nd - 1).testBit k then 1 else 0) = m := by
    intro m
    induction m with
    | zero => intro _; rfl
    | succ m ih =>
      intro hm
      rw [sm_succ, ih (by omega), full_bit]
      simp; omega
  exact h nd (Nat.le_refl _)

theorem nodup_rev {s : List Nat} : s.reverse.Nodup ↔ s.Nodup := (List.reverse_perm s).nodup_iff
theorem orders_same (R : Nat → Nat → Bool) (nd : Nat) : (E1 R nd (List.range nd)).length = (E2 (fun a b => a != b && R a b) nd nd (2 ^ nd - 1)).length := by
  have hx : 2 ^ nd - 1 < 2 ^ nd := Nat.sub_lt (Nat.pow_pos (by decide)) (by decide)
  have h1 : (E1 R nd (List.range nd)).Nodup := nodup_E1 (by simp) List.nodup_range
  have h2 : ((E2 (fun a b => a != b && R a b) nd nd (2 ^ nd - 1)).map List.reverse).Nodup :=
    List.Pairwise.map _ (fun a b hab e => hab (List.reverse_inj.1 e)) (nodup_E2 _ _)
  have hlen : ((E2 (fun a b => a != b && R a b) nd nd (2 ^ nd - 1)).map List.reverse).length = (E2 (fun a b => a != b && R a b) nd nd (2 ^ nd - 1)).length := List.length_map ..
  rw [← hlen]
  refine List.Perm.length_eq ((List.perm_ext_iff_of_nodup h1 h2).2 fun s => ?_)
  have e2 : s ∈ (E2 (fun a b => a != b && R a b) nd nd (2 ^ nd - 1)).map List.reverse ↔ s.reverse ∈ E2 (fun a b => a != b && R a b) nd nd (2 ^ nd - 1) := by
    rw [List.mem_map]
    constructor
    · rintro ⟨r, hr, rfl⟩; rwa [List.reverse_reverse]
    · intro h; exact ⟨_, h, List.reverse_reverse _⟩
  rw [e2, mem_E1 (by simp) List.nodup_range, mem_E2 hx (pc_full nd)]
  constructor
  · rintro ⟨hp, hw⟩
    have hn : s.Nodup := hp.nodup_iff.2 List.nodup_range
    have hm : ∀ j, j ∈ s ↔ j < nd := fun j => hp.mem_iff.trans List.mem_range
    refine ⟨nodup_rev.2 hn, fun j => by rw [List.mem_reverse, hm, full_bit, decide_eq_true_iff], ?_⟩
    exact (good_iff (R := R) (nd := nd) (pre := []) (s := s.reverse) (by simpa using nodup_rev.2 hn) (fun j hj => by simpa using (hm j).2 hj)).2
      (by rw [List.pairwise_reverse]; exact hw) (by simp)
  · rintro ⟨hn, hm, hg⟩
    have hn' : s.Nodup := nodup_rev.1 hn
    have hm' : ∀ j, j ∈ s ↔ j < nd := fun j => by
      have := hm j
      rw [List.mem_reverse, full_bit, decide_eq_true_iff] at this
      exact this
    refine ⟨(List.perm_ext_iff_of_nodup hn' List.nodup_range).2 fun a => (hm' a).trans List.mem_range.symm, ?_⟩
    have := (good_iff (R := R) (nd := nd) (pre := []) (s := s.reverse) (by simpa using hn) (fun j hj => by simpa using (hm' j).2 hj)).1 ⟨hg, by simp⟩
    rw [List.pairwise_reverse] at this
    exact List.Pairwise.imp_of_mem (fun {a b} ha hb h => h ((hm' b).1 hb)) this

/-- the reference counts what the table holds -/
theorem count_same (l : List CallC) : countF (doneN l).length (dcalls l) = countN l := by
  have h1 : (List.range (doneN l).length).map (fun (i : Nat) => at_ l (((doneN l).getD i 0 : Nat) : Int)) = dcalls l := by
    rw [dcalls_eq]
    apply List.ext_getElem?
    intro i
    by_cases h : i < (doneN l).length
    · rw [List.getElem?_map, List.getElem?_range h, List.getElem?_map, List.getElem?_eq_getElem h]
      simp [List.getD, h]
    · rw [List.getElem?_eq_none (by simp; omega), List.getElem?_eq_none (by simp; omega)]
  have h2 := length_E1 (fun i => at_ l (((doneN l).getD i 0 : Nat) : Int)) (doneN l).length (List.range (doneN l).length) (by simp)
  rw [h1] at h2
  rw [← h2, orders_same, length_E2]
  unfold countN F
  rw [pc_full]
  rfl
end Go.Proofs.Ytnmhmabifeapkaa.Ord
