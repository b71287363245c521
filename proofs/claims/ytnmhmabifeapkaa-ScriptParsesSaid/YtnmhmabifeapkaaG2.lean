/- The steps of any bytes: what script.Parse and the reference's First make. -/
import Derived.Test.YtnmhmabifeapkaaG1
import Derived.Test.YtnmhmabifeapkaaR33
namespace Go.Proofs.Ytnmhmabifeapkaa.Ord
open Go.RowKit
set_option linter.unusedVariables false

/-- the bytes of a short request -/
def reqB (y z u : Nat) : List Int := putV ((pay (shortR y z u)).length + 1) ++ [(shortR y z u).op] ++ pay (shortR y z u)
/-- the first step of some bytes -/
def stepOf (xs : List Int) : StepR :=
  if xs.getD 0 0 % 16 < 2 then ⟨3, xs.getD 0 0 / 16, 0, []⟩
  else if xs.getD 0 0 % 16 = 2 then ⟨1, 0, 0, []⟩
  else if xs.getD 0 0 % 16 = 3 then ⟨2, xs.getD 0 0 / 16, 0, takeZ (xs.getD 1 0).toNat (xs.drop 2)⟩
  else if xs.getD 0 0 % 16 = 4 then ⟨4, 0, xs.getD 1 0, []⟩
  else if xs.getD 0 0 % 16 = 5 then ⟨5, 0, xs.getD 1 0, []⟩
  else if xs.getD 0 0 % 16 = 6 then ⟨6, xs.getD 0 0 / 16, xs.getD 1 0, []⟩
  else if xs.getD 0 0 % 16 = 7 then ⟨7, xs.getD 0 0 / 16, 0, []⟩
  else ⟨2, xs.getD 0 0 / 16, 0, reqB (xs.getD 1 0).toNat (xs.getD 2 0).toNat (xs.getD 3 0).toNat⟩
/-- how many bytes it has -/
def stepN (xs : List Int) : Nat :=
  if xs.getD 0 0 % 16 < 3 then 1
  else if xs.getD 0 0 % 16 = 3 then 2 + (xs.getD 1 0).toNat
  else if xs.getD 0 0 % 16 < 7 then 2
  else if xs.getD 0 0 % 16 = 7 then 1
  else 4
theorem stepN_pos (xs : List Int) : 1 ≤ stepN xs := by
  unfold stepN
  repeat' split
  all_goals omega
def stepsF : Nat → List Int → List StepR
  | 0, _ => []
  | _, [] => []
  | n + 1, x :: xs => stepOf (x :: xs) :: stepsF n ((x :: xs).drop (stepN (x :: xs)))
/-- the steps of some bytes -/
def stepsOf (xs : List Int) : List StepR := stepsF xs.length xs
theorem stepsF_len : ∀ (n : Nat) (xs : List Int), (stepsF n xs).length ≤ n
  | 0, _ => by simp [stepsF]
  | n + 1, [] => by simp [stepsF]
  | n + 1, x :: xs => by simp only [stepsF, List.length_cons]; have := stepsF_len n ((x :: xs).drop (stepN (x :: xs))); omega
theorem stepsF_eq : ∀ (n m : Nat) (xs : List Int), xs.length ≤ n → xs.length ≤ m → stepsF n xs = stepsF m xs
  | 0, 0, _, _, _ => rfl
  | 0, m + 1, xs, h1, _ => by cases xs <;> simp_all [stepsF]
  | n + 1, 0, xs, _, h2 => by cases xs <;> simp_all [stepsF]
  | n + 1, m + 1, [], _, _ => rfl
  | n + 1, m + 1, x :: xs, h1, h2 => by
    have hp := stepN_pos (x :: xs)
    simp only [stepsF]
    rw [stepsF_eq n m _ (by rw [List.length_drop]; simp only [List.length_cons] at *; omega) (by rw [List.length_drop]; simp only [List.length_cons] at *; omega)]
theorem stepsOf_cons (xs : List Int) (h : xs ≠ []) : stepsOf xs = stepOf xs :: stepsOf (xs.drop (stepN xs)) := by
  cases xs with
  | nil => exact absurd rfl h
  | cons x xs =>
    have hp := stepN_pos (x :: xs)
    unfold stepsOf
    simp only [List.length_cons, stepsF]
    rw [stepsF_eq xs.length _ _ (by rw [List.length_drop]; simp only [List.length_cons]; omega) (Nat.le_refl _)]
theorem reqB_ok (y z u : Nat) (hz : z < 256) (hu : u < 256) : (∀ x ∈ reqB y z u, 0 ≤ x ∧ x < 256) ∧ (reqB y z u).length ≤ 1100 := by
  have h1 := short_len y z u hz hu
  have h2 := (shortR_ok y z u hz hu).op_range
  have h3 := putV_len10 (n := (pay (shortR y z u)).length + 1) (by omega)
  refine ⟨fun x hx => ?_, ?_⟩
  · simp only [reqB, List.mem_append, List.mem_singleton] at hx
    rcases hx with (hx | hx) | hx
    · exact putV_byte _ x hx
    · subst hx; omega
    · exact pay_byte (shortR_ok y z u hz hu) x hx
  · simp only [reqB, List.length_append, List.length_singleton]
    omega
theorem stepOf_bytD {xs : List Int} (hx : ∀ y ∈ xs, 0 ≤ y ∧ y < 256) : (∀ y ∈ (stepOf xs).d, 0 ≤ y ∧ y < 256) ∧ (stepOf xs).d.length ≤ 10000 := by
  have b1 := getD_byte hx 1
  have b2 := getD_byte hx 2
  have b3 := getD_byte hx 3
  unfold stepOf
  repeat' split
  all_goals first | exact ⟨fun y hy => absurd hy (List.not_mem_nil), Nat.zero_le _⟩ | skip
  · refine ⟨fun y hy => ?_, by simp only [takeZ_len]; omega⟩
    obtain ⟨i, _, rfl⟩ := List.mem_map.1 hy
    exact getD_byte (fun y hy => hx y (List.mem_of_mem_drop hy)) i
  · have := reqB_ok (xs.getD 1 0).toNat (xs.getD 2 0).toNat (xs.getD 3 0).toNat (by omega) (by omega)
    exact ⟨this.1, by simp only; omega⟩

theorem headD_getD (xs : List Int) : xs.headD 0 = xs.getD 0 0 := by cases xs <;> rfl
theorem tail_getD (xs : List Int) (i : Nat) : xs.tail.getD i 0 = xs.getD (i + 1) 0 := by cases xs <;> simp [List.getD]
theorem tail_drop (xs : List Int) (i : Nat) : xs.tail.drop i = xs.drop (i + 1) := by cases xs <;> simp
/-- a step read -/
theorem step_any (hreq : ∀ y z u : Nat, y < 256 → z < 256 → u < 256 → ReqOk y z u (reqB y z u)) (xs : List Int) (hx : ∀ y ∈ xs, 0 ≤ y ∧ y < 256) : StepAt xs (stepOf xs) (xs.drop (stepN xs)) := by
  intro B N Q w hB h
  have b0 := getD_byte hx 0
  have b1 := getD_byte hx 1
  have b2 := getD_byte hx 2
  have b3 := getD_byte hx 3
  have e0 := headD_getD xs
  have e1 : xs.tail.headD 0 = xs.getD 1 0 := by rw [headD_getD, tail_getD]
  have e2 : xs.tail.tail.headD 0 = xs.getD 2 0 := by rw [headD_getD, tail_getD, tail_getD]
  have e3 : xs.tail.tail.tail.headD 0 = xs.getD 3 0 := by rw [headD_getD, tail_getD, tail_getD, tail_getD]
  have d1 : xs.tail = xs.drop 1 := by cases xs <;> simp
  have d2 : xs.tail.tail = xs.drop 2 := by rw [show xs.tail.tail = xs.tail.drop 1 by cases xs.tail <;> simp, tail_drop]
  have d4 : xs.tail.tail.tail.tail = xs.drop 4 := by
    rw [show xs.tail.tail.tail.tail = xs.tail.tail.tail.drop 1 by cases xs.tail.tail.tail <;> simp, tail_drop, tail_drop, tail_drop]
  rcases (show xs.getD 0 0 % 16 = 0 ∨ xs.getD 0 0 % 16 = 1 ∨ xs.getD 0 0 % 16 = 2 ∨ xs.getD 0 0 % 16 = 3 ∨ xs.getD 0 0 % 16 = 4 ∨ xs.getD 0 0 % 16 = 5 ∨ xs.getD 0 0 % 16 = 6 ∨ xs.getD 0 0 % 16 = 7 ∨ 8 ≤ xs.getD 0 0 % 16 by omega) with g | g | g | g | g | g | g | g | g
  · have := step_micro0 B N Q xs w hB h (by rw [e0]; exact g)
    rw [e0, d1] at this
    have f1 : stepOf xs = ⟨3, xs.getD 0 0 / 16, 0, []⟩ := by
      unfold stepOf
      rw [if_pos (by omega)]
    have f2 : stepN xs = 1 := by
      unfold stepN
      rw [if_pos (by omega)]
    rw [f1, f2]
    exact this
  · have := step_micro1 B N Q xs w hB h (by rw [e0]; exact g)
    rw [e0, d1] at this
    have f1 : stepOf xs = ⟨3, xs.getD 0 0 / 16, 0, []⟩ := by
      unfold stepOf
      rw [if_pos (by omega)]
    have f2 : stepN xs = 1 := by
      unfold stepN
      rw [if_pos (by omega)]
    rw [f1, f2]
    exact this
  · have := step_connect B N Q xs w hB h (by rw [e0]; exact g)
    rw [d1] at this
    have f1 : stepOf xs = ⟨1, 0, 0, []⟩ := by
      unfold stepOf
      rw [if_neg (by omega), if_pos (by omega)]
    have f2 : stepN xs = 1 := by
      unfold stepN
      rw [if_pos (by omega)]
    rw [f1, f2]
    exact this
  · have := step_data B N Q xs w hB h (by rw [e0]; exact g)
    rw [dataL, e1, d2, e0, List.drop_drop] at this
    have f1 : stepOf xs = ⟨2, xs.getD 0 0 / 16, 0, takeZ (xs.getD 1 0).toNat (xs.drop 2)⟩ := by
      unfold stepOf
      rw [if_neg (by omega), if_neg (by omega), if_pos (by omega)]
    have f2 : stepN xs = 2 + (xs.getD 1 0).toNat := by
      unfold stepN
      rw [if_neg (by omega), if_pos (by omega)]
    rw [f1, f2]
    exact this
  · have := step_tick B N Q xs w hB h (by rw [e0]; exact g)
    rw [e1, d2] at this
    have f1 : stepOf xs = ⟨4, 0, xs.getD 1 0, []⟩ := by
      unfold stepOf
      rw [if_neg (by omega), if_neg (by omega), if_neg (by omega), if_pos (by omega)]
    have f2 : stepN xs = 2 := by
      unfold stepN
      rw [if_neg (by omega), if_neg (by omega), if_pos (by omega)]
    rw [f1, f2]
    exact this
  · have := step_sweep B N Q xs w hB h (by rw [e0]; exact g)
    rw [e1, d2] at this
    have f1 : stepOf xs = ⟨5, 0, xs.getD 1 0, []⟩ := by
      unfold stepOf
      rw [if_neg (by omega), if_neg (by omega), if_neg (by omega), if_neg (by omega), if_pos (by omega)]
    have f2 : stepN xs = 2 := by
      unfold stepN
      rw [if_neg (by omega), if_neg (by omega), if_pos (by omega)]
    rw [f1, f2]
    exact this
  · have := step_drain B N Q xs w hB h (by rw [e0]; exact g)
    rw [e0, e1, d2] at this
    have f1 : stepOf xs = ⟨6, xs.getD 0 0 / 16, xs.getD 1 0, []⟩ := by
      unfold stepOf
      rw [if_neg (by omega), if_neg (by omega), if_neg (by omega), if_neg (by omega), if_neg (by omega), if_pos (by omega)]
    have f2 : stepN xs = 2 := by
      unfold stepN
      rw [if_neg (by omega), if_neg (by omega), if_pos (by omega)]
    rw [f1, f2]
    exact this
  · have := step_gone B N Q xs w hB h (by rw [e0]; exact g)
    rw [e0, d1] at this
    have f1 : stepOf xs = ⟨7, xs.getD 0 0 / 16, 0, []⟩ := by
      unfold stepOf
      rw [if_neg (by omega), if_neg (by omega), if_neg (by omega), if_neg (by omega), if_neg (by omega), if_neg (by omega), if_pos (by omega)]
    have f2 : stepN xs = 1 := by
      unfold stepN
      rw [if_neg (by omega), if_neg (by omega), if_neg (by omega), if_pos (by omega)]
    rw [f1, f2]
    exact this
  · have hq := hreq (xs.getD 1 0).toNat (xs.getD 2 0).toNat (xs.getD 3 0).toNat (by omega) (by omega) (by omega)
    rw [Int.toNat_of_nonneg b1.1, Int.toNat_of_nonneg b2.1, Int.toNat_of_nonneg b3.1] at hq
    have := step_req B N Q xs _ w hB h (by rw [e0]; exact g) (by rw [e1, e2, e3]; exact hq)
    rw [e0, d4] at this
    have f1 : stepOf xs = ⟨2, xs.getD 0 0 / 16, 0, reqB (xs.getD 1 0).toNat (xs.getD 2 0).toNat (xs.getD 3 0).toNat⟩ := by
      unfold stepOf
      rw [if_neg (by omega), if_neg (by omega), if_neg (by omega), if_neg (by omega), if_neg (by omega), if_neg (by omega), if_neg (by omega)]
    have f2 : stepN xs = 4 := by
      unfold stepN
      rw [if_neg (by omega), if_neg (by omega), if_neg (by omega), if_neg (by omega)]
    rw [f1, f2]
    exact this
theorem parseOk_any (hreq : ∀ y z u : Nat, y < 256 → z < 256 → u < 256 → ReqOk y z u (reqB y z u)) : ∀ (n : Nat) (xs : List Int), xs.length ≤ n → (∀ y ∈ xs, 0 ≤ y ∧ y < 256) → ParseOk xs (stepsOf xs)
  | n, [], _, _ => .nil
  | 0, x :: xs, h, _ => by simp at h
  | n + 1, x :: xs, h, hx => by
    have hp := stepN_pos (x :: xs)
    rw [stepsOf_cons _ (by simp)]
    have hl : ((x :: xs).drop (stepN (x :: xs))).length < (x :: xs).length := by rw [List.length_drop]; simp only [List.length_cons]; omega
    exact .cons (step_any hreq _ hx) hl (parseOk_any hreq n _ (by simp only [List.length_cons] at h hl ⊢; omega) fun y hy => hx y (List.mem_of_mem_drop hy))
end Go.Proofs.Ytnmhmabifeapkaa.Ord
