/- The plain law of the reference's Valid: what its inner loop counts. -/
import Derived.Test.YtnjhpgmbfblgaaaGreatMO0
namespace Go.Proofs.YtnjhpgmbfblgaaaGreat.Ord
open Go.RowKit
set_option linter.unusedVariables false
set_option linter.unusedSimpArgs false
/-- what the inner loop knows of a call behind some calls -/
structure RIn (pre : List CallR) (x : CallR) (n : Nat) (told : Int) : Prop where
 n : n = (ofSes pre x.ses).length
 told : told = ((ofSes pre x.ses).getLast?.map (·.told)).getD (-1)
 all : ∀ y ∈ pre, y.ses = x.ses -> 0 <= y.told
 pair : ∀ y ∈ pre, Pair x y
theorem RIn.nil (x : CallR) : RIn [] x 0 (-1) := ⟨rfl, rfl, fun y h => by simp at h, fun y h => by simp at h⟩
theorem RIn.snoc_eq {pre : List CallR} {x y : CallR} {n : Nat} {told : Int} (h : RIn pre x n told) (hs : y.ses = x.ses) (ht : 0 <= y.told) (hp : Pair x y) : RIn (pre ++ [y]) x (n + 1) y.told := by
 have e : ofSes (pre ++ [y]) x.ses = ofSes pre x.ses ++ [y] := by rw [ofSes_snoc, if_pos hs]
 refine ⟨by rw [e, List.length_append, h.n]; rfl, by rw [e]; simp, fun z hz hk => ?_, fun z hz => ?_⟩
 ·rcases List.mem_append.1 hz with h1 | h1
  ·exact h.all z h1 hk
  ·simp at h1; subst h1; exact ht
 ·rcases List.mem_append.1 hz with h1 | h1
  ·exact h.pair z h1
  ·simp at h1; subst h1; exact hp
theorem RIn.snoc_ne {pre : List CallR} {x y : CallR} {n : Nat} {told : Int} (h : RIn pre x n told) (hs : y.ses ≠ x.ses) (hp : Pair x y) : RIn (pre ++ [y]) x n told := by
 have e : ofSes (pre ++ [y]) x.ses = ofSes pre x.ses := by rw [ofSes_snoc, if_neg hs]
 refine ⟨by rw [e, h.n], by rw [e]; exact h.told, fun z hz hk => ?_, fun z hz => ?_⟩
 ·rcases List.mem_append.1 hz with h1 | h1
  ·exact h.all z h1 hk
  ·simp at h1; subst h1; exact absurd hk hs
 ·rcases List.mem_append.1 hz with h1 | h1
  ·exact h.pair z h1
  ·simp at h1; subst h1; exact hp
theorem not_fit {l pre post : List CallR} {x : CallR} (e : l = pre ++ x :: post) (h : ¬ (Okc singleB pre x /\ ∀ y ∈ pre, Pair x y)) : ¬ ValidP singleB l := fun hv => h ⟨hv.2.1 pre x post e, hv.2.2 pre x post e⟩
/-- what the checks ahead of the inner loop say -/
structure OkA (pre : List CallR) (x : CallR) : Prop where
 one : singleB x = true
 ask : ∀ y, pre.getLast? = some y -> y.asked < x.asked
 fresh : ∀ j, j < 3 -> 0 <= stamp x j -> ¬ Seen pre (stamp x j)
theorem asked_pos {x : CallR} (h : singleB x = true) : 0 <= x.asked := by
 have ho : rngB x = true := by
  cases e : rngB x
  ·rw [single_rng e] at h; cases h
  ·rfl
 simp only [rngB, Bool.and_eq_true, stepB_iff] at ho
 omega
theorem OkA.okc {pre : List CallR} {x : CallR} {n : Nat} {told : Int} (h : OkA pre x) (hr : RIn pre x n told) (h1 : x.num = n) (h2 : told < x.asked) : Okc singleB pre x := by
 refine ⟨h.one, h.ask, fun m hm h0 => ?_, by rw [h1, hr.n]; rfl, hr.all, fun y hy => ?_⟩
 ·rw [fresh_iff]
  simp at hm
  rcases hm with rfl | rfl | rfl
  ·exact h.fresh 0 (by omega) h0
  ·exact h.fresh 1 (by omega) h0
  ·exact h.fresh 2 (by omega) h0
 ·have h3 := hr.told
  have h4 : (ofSes pre x.ses).getLast? = some y := hy
  rw [h4] at h3
  simp at h3
  omega
theorem RIn.of_okc {pre : List CallR} {x : CallR} {n : Nat} {told : Int} (hr : RIn pre x n told) (h : Okc singleB pre x) : x.num = n /\ told < x.asked := by
 refine ⟨by rw [h.num, hr.n]; rfl, ?_⟩
 rw [hr.told]
 cases hl : (ofSes pre x.ses).getLast? with
 | none => have := asked_pos h.one; simp; omega
 | some y => simpa using h.after y hl
theorem VlPost.no2 {L pre post : List (CallR × CallV)} {x : CallR × CallV} {w w' : World} {e : Ending} (he : e = .returned (.bool false)) (hL : L = pre ++ x :: post) (h : ¬ (Okc singleB (pre.map (·.1)) x.1 /\ ∀ y ∈ pre.map (·.1), Pair x.1 y)) (hb : Below w.heap.size w w') : VlPost L w e w' :=
 ⟨false, he, ⟨fun h => by (cases h), fun hv => absurd hv (not_fit (by rw [hL, List.map_append, List.map_cons]) h)⟩, hb⟩
/-- the world of the reference's walk behind some calls -/
structure RInv (w0 : World) (sb : Nat) (pre : List (CallR × CallV)) (w : World) : Prop where
 seen : MapAt w sb (seenV pre)
 below : Below w0.heap.size w0 w
 size : sb < w.heap.size
theorem pair_dec {x y : CallR} : Pair x y ↔ ¬ (0 <= x.done /\ 0 <= y.done /\ (y.done < x.done /\ x.tim < y.tim ∨ x.done < y.done /\ y.tim < x.tim)) := by
 unfold Pair
 constructor
 ·rintro h ⟨h1, h2, h3 | h3⟩
  ·have := (h h1 h2).1 h3.1; omega
  ·have := (h h1 h2).2 h3.1; omega
 ·intro h h1 h2
  refine ⟨fun h3 => ?_, fun h3 => ?_⟩
  ·by_cases h4 : x.tim < y.tim
   ·exact absurd ⟨h1, h2, .inl ⟨h3, h4⟩⟩ h
   ·omega
  ·by_cases h4 : y.tim < x.tim
   ·exact absurd ⟨h1, h2, .inr ⟨h3, h4⟩⟩ h
   ·omega
end Go.Proofs.YtnjhpgmbfblgaaaGreat.Ord
