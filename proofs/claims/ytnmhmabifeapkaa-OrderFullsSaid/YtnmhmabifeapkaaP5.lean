/- The law of OrderFulls, reckoned: its calls, their commits, their order, how many orders hold. -/
import Derived.Test.YtnmhmabifeapkaaF1
import Derived.Test.YtnmhmabifeapkaaP3
namespace Go.Proofs.Ytnmhmabifeapkaa.Ord
set_option linter.unusedVariables false

noncomputable def fulls (N d : Nat) : List CallC := (List.range N).map (fullC d)
theorem fulls_len (N d : Nat) : (fulls N d).length = N := by simp [fulls]
theorem fulls_at {N d i : Nat} (h : i < N) : at_ (fulls N d) (i : Int) = fullC d i := by
  simp [at_, fulls, List.getD, h]
theorem fulls_get {N d i : Nat} (h : i < N) : (fulls N d)[i]? = some (fullC d i) := by simp [fulls, h]
theorem fullC_d (d i : Nat) : (fullC d i).d = if i < d then 5000 + (i : Int) else -1 := rfl
theorem fullC_s (d i : Nat) : (fullC d i).s = ((i % 2 : Nat) : Int) := rfl
theorem fullC_n (d i : Nat) : (fullC d i).n = ((i / 2 : Nat) : Int) := rfl
theorem fullC_t (d i : Nat) : (fullC d i).t = -1 := rfl
theorem range_filter_lt : ∀ (N d : Nat), d ≤ N → (List.range N).filter (fun i => decide (i < d)) = List.range d
  | 0, d, h => by obtain rfl : d = 0 := by omega
                  rfl
  | N + 1, d, h => by
    rw [List.range_succ, List.filter_append]
    by_cases hd : d = N + 1
    · subst hd
      rw [List.range_succ]
      congr 1
      · exact List.filter_eq_self.2 fun i hi => by have := List.mem_range.1 hi; simp; omega
      · simp
    · rw [range_filter_lt N d (by omega)]
      have : ¬ N < d := by omega
      simp [this]
theorem fulls_done {N d : Nat} (h : d ≤ N) : doneN (fulls N d) = List.range d := by
  unfold doneN
  rw [fulls_len, ← range_filter_lt N d h]
  refine List.filter_congr fun i hi => ?_
  have hi := List.mem_range.1 hi
  simp only [fulls_get hi]
  have hd0 := fullC_d d i
  by_cases hd : i < d
  · rw [if_pos hd] at hd0
    rw [decide_eq_true hd, decide_eq_true (by omega)]
  · rw [if_neg hd] at hd0
    rw [decide_eq_false hd, decide_eq_false (by omega)]
theorem fulls_doneL {N d : Nat} (h : d ≤ N) : doneL (fulls N d) = (List.range d).map fun (n : Nat) => (n : Int) := by rw [doneL_eq, fulls_done h]
theorem fulls_dcalls {N d : Nat} (h : d ≤ N) : dcalls (fulls N d) = (List.range d).map (fullC d) := by
  rw [dcalls_eq, fulls_done h]
  refine List.map_congr_left fun i hi => ?_
  have := List.mem_range.1 hi
  exact fulls_at (by omega)
theorem fulls_commits {N d : Nat} (h : d ≤ N) : commitsOf (fulls N d) = some (List.range d) := by
  refine commitsOf_eq ⟨?_, ?_⟩
  · rw [fulls_done h]
  · refine (List.pairwise_lt_range (n := d)).imp_of_mem fun {a b} ha hb hab => ?_
    have ha := List.mem_range.1 ha
    have hb := List.mem_range.1 hb
    rw [fulls_at (by omega), fulls_at (by omega), fullC_d, fullC_d, if_pos ha, if_pos hb]
    omega
theorem fulls_ord {N d : Nat} (h : d ≤ N) : isOrd (fulls N d) ((List.range d).map fun (n : Nat) => (n : Int)) = true := by
  unfold isOrd
  rw [fulls_doneL h]
  simp
theorem fulls_cons {N d : Nat} (h : d ≤ N) : consB (fulls N d) ((List.range d).map fun (n : Nat) => (n : Int)) = true := by
  unfold consB
  rw [decide_eq_true_eq]
  intro j hj i hi
  simp only [List.length_map, List.length_range] at hj
  have e : ∀ k, k < d → ((List.range d).map fun (n : Nat) => (n : Int)).getD k 0 = (k : Int) := fun k hk => by simp [List.getD, hk]
  rw [e j hj, e i (by omega), fulls_at (by omega), fulls_at (by omega)]
  unfold before
  rw [fullC_d, fullC_d, fullC_s, fullC_s, fullC_n, fullC_n, fullC_t, if_pos hj, if_pos (show i < d by omega)]
  rw [if_neg (by omega), if_neg (by omega)]
  simp

/-- ways to choose the places of one session -/
def waysK (d : Nat) : Nat → Nat
  | 0 => 1
  | k + 1 => waysK d k * ((d + 1) / 2 + (k + 1)) / (k + 1)
theorem waysK_le : (List.range 13).all (fun d => (List.range 7).all fun k => decide (waysK d k ≤ 100000)) = true := by decide +kernel
theorem waysK_bound {d k : Nat} (hd : d ≤ 12) (hk : k ≤ 6) : waysK d k ≤ 100000 := by
  have h1 := List.all_eq_true.1 waysK_le d (List.mem_range.2 (by omega))
  have h2 := List.all_eq_true.1 h1 k (List.mem_range.2 (by omega))
  exact of_decide_eq_true h2
set_option maxRecDepth 1000000 in
theorem fulls_countF : (List.range 13).all (fun d => countF d ((List.range d).map (fullC d)) == waysK d (d / 2)) = true := by decide +kernel
theorem fulls_count {N d : Nat} (h : d ≤ N) (hd : d ≤ 12) : countN (fulls N d) = waysK d (d / 2) := by
  rw [← count_same, fulls_done h, List.length_range, fulls_dcalls h]
  have h1 := List.all_eq_true.1 fulls_countF d (List.mem_range.2 (by omega))
  exact eq_of_beq h1
end Go.Proofs.Ytnmhmabifeapkaa.Ord
