/- The walk of the law OrderCounts. -/
import Derived.Test.YtnmhmabifeapkaaP3
import Derived.Test.YtnmhmabifeapkaaA14
import Derived.Test.YtnmhmabifeapkaaW2
import Derived.Test.YtnmhmabifeapkaaA11
import Derived.Test.YtnmhmabifeapkaaA17
namespace Go.Proofs.Ytnmhmabifeapkaa.Ord
open Go.RowKit Go.Sort
set_option linter.unusedVariables false

/-- what both counts answer -/
def cntN (l : List CallC) : Int := if (doneN l).length ≤ 12 then (countN l : Int) else 0
def cntE (l : List CallC) : Int := if (doneN l).length ≤ 12 then 0 else 5
theorem countBoth (A : Option Addr) (l : List CallC) (cap : Nat) (w : World) (hl : l.length ≤ 4096) (hA : CallsAt w w.heap.size A l) :
    Calls Try.prog 33 #[.slice A l.length cap] w fun e w' => e = .returned (.tuple #[.int .i64 (cntN l), .int .i64 (cntE l)]) ∧ RowKit.Below w.heap.size w w' := by
  unfold cntN cntE
  by_cases h : (doneN l).length ≤ 12
  · rw [if_pos h, if_pos h]; exact count_any A l cap w hl hA h
  · rw [if_neg h, if_neg h]; exact count_many A l cap w hl hA (by omega)
theorem refCountBoth (A : Option Addr) (l : List CallC) (cap : Nat) (w : World) (hl : l.length ≤ 4096) (hA : CallsAt w w.heap.size A l) :
    Calls Try.prog 34 #[.slice A l.length cap] w fun e w' => e = .returned (.tuple #[.int .i64 (cntN l), .int .i64 (cntE l)]) ∧ RowKit.Below w.heap.size w w' := by
  unfold cntN cntE
  by_cases h : (doneN l).length ≤ 12
  · rw [if_pos h, if_pos h]
    have := refCount_any A l cap w hl hA (by rw [dcalls_length]; exact h) (fun A l cap w n h1 h2 h3 h4 => refcount_any n A l cap w h1 h2 h3 h4)
    rw [dcalls_length, count_same] at this
    exact this
  · rw [if_neg h, if_neg h]; exact refCount_many A l cap w hl hA (by rw [dcalls_length]; omega)

set_option maxRecDepth 100000 in
theorem law8_many (A : Option Addr) (n cap : Nat) (w : World) (h : 30 < n) : Law 8 #[.slice A n cap] w := by
  unfold Law
  have hg : decide ((30 : Int) < (n : Int)) = true := by simp; omega
  go_enter Try.func8, Try.ntmps8
  go_wp2_with fail
  refine (known_any _).mono ?_
  rintro e w1 ⟨rfl, hb1⟩
  go_wp2_with fail
  go_ret
  exact ⟨rfl, hb1⟩
set_option maxRecDepth 100000 in
theorem law8_few (A : Option Addr) (l : List CallC) (cap : Nat) (w : World) (hn : l.length ≤ 30) (hA : CallsAt w w.heap.size A l) : Law 8 #[.slice A l.length cap] w := by
  unfold Law
  have HD := Lib.hid (refDone_any A l cap w (by omega) hA)
  have HC := Lib.hid fun w1 (hb : RowKit.Below w.heap.size w w1) => countBoth A l cap w1 (by omega) ((hA.below hb (Nat.le_refl _)).mono hb.size)
  have HR := Lib.hid fun w1 (hb : RowKit.Below w.heap.size w w1) => refCountBoth A l cap w1 (by omega) ((hA.below hb (Nat.le_refl _)).mono hb.size)
  have hM : ∃ M, (dcalls l).length = M := ⟨_, rfl⟩
  obtain ⟨M, hM⟩ := hM
  have hM2 : M ≤ 30 := by have := dcalls_len l; omega
  have HM := Lib.hid hM
  clear hM
  generalize l.length = n at *
  generalize cntN l = C at *
  generalize cntE l = E at *
  have hg : decide ((30 : Int) < (n : Int)) = false := by simp; omega
  go_enter Try.func8, Try.ntmps8
  go_wp2_with fail
  refine HD.out.mono ?_
  rintro e w1 ⟨v1, rfl, hown1, hb1⟩
  rw [HM.out] at hown1
  obtain ⟨A1, c1, rfl, hc1, hA1⟩ := own_calls hown1 HM.out
  clear hown1 hA1
  by_cases h7 : M ≤ 7
  · have hg2 : decide ((7 : Int) < (M : Int)) = false := by simp; omega
    go_wp2_with fail
    refine (HC.out w1 hb1).mono ?_
    rintro e w2 ⟨rfl, hb2⟩
    have hb12 := hb1.trans (hb2.mono hb1.size)
    go_wp2_with fail
    refine (HR.out w2 hb12).mono ?_
    rintro e w3 ⟨rfl, hb3⟩
    have hb13 := hb12.trans (hb3.mono hb12.size)
    go_wp2_with fail
    refine (known_any _).mono ?_
    rintro e w4 ⟨rfl, hb4⟩
    go_wp2_with fail
    go_ret
    exact ⟨rfl, hb13.trans (hb4.mono hb13.size)⟩
  · have hg2 : decide ((7 : Int) < (M : Int)) = true := by simp; omega
    by_cases h12 : M ≤ 12
    · have hg3 : decide ((M : Int) ≤ (12 : Int)) = true := by simp; omega
      go_wp2_with fail
      refine (known_any _).mono ?_
      rintro e w2 ⟨rfl, hb2⟩
      go_wp2_with fail
      go_ret
      exact ⟨rfl, hb1.trans (hb2.mono hb1.size)⟩
    · have hg3 : decide ((M : Int) ≤ (12 : Int)) = false := by simp; omega
      go_wp2_with fail
      refine (HC.out w1 hb1).mono ?_
      rintro e w2 ⟨rfl, hb2⟩
      have hb12 := hb1.trans (hb2.mono hb1.size)
      go_wp2_with fail
      refine (HR.out w2 hb12).mono ?_
      rintro e w3 ⟨rfl, hb3⟩
      have hb13 := hb12.trans (hb3.mono hb12.size)
      go_wp2_with fail
      refine (known_any _).mono ?_
      rintro e w4 ⟨rfl, hb4⟩
      go_wp2_with fail
      go_ret
      exact ⟨rfl, hb13.trans (hb4.mono hb13.size)⟩

theorem orderCounts_walk : orderCountsWalk := fun A l cap w hc hm hA => by
  by_cases h : l.length ≤ 30
  · exact law8_few A l cap w h hA
  · exact law8_many A _ cap w (by omega)

/-- the orders of any calls are counted as the reference counts them -/
theorem orderCounts_proved : Rows.OrderCountsSaid := orderCounts_of orderCounts_walk
#print axioms orderCounts_proved
end Go.Proofs.Ytnmhmabifeapkaa.Ord
