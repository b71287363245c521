/- Walk of script.Valid. -/
import Derived.Test.YtnmhmabifeapkaaM4
namespace Go.Proofs.Ytnmhmabifeapkaa.Ord
open Go.RowKit
set_option linter.unusedVariables false

def connOk (c : Int) : Bool := decide (0 ≤ c) && decide (c < 16)
def numOk (n : Int) : Bool := decide (0 ≤ n) && decide (n < 256)
def stepValid (k c n : Int) (L : Nat) : Bool :=
  if k == 1 then (c == 0 && n == 0) && ((L : Int) == 0)
  else if k == 2 then (connOk c && n == 0) && decide ((L : Int) < 256)
  else if k == 3 || k == 7 then (connOk c && n == 0) && ((L : Int) == 0)
  else if k == 4 || k == 5 then (c == 0 && numOk n) && ((L : Int) == 0)
  else if k == 6 then (connOk c && numOk n) && ((L : Int) == 0)
  else false

set_option maxRecDepth 100000 in
set_option maxHeartbeats 2000000 in
theorem valid15_any (k c n : Int) (A : Option Addr) (L cap : Nat) (w : World) (hL : L ≤ 1000000) :
    Calls Try.prog 15 #[.agg (stepL k c n (.slice A L cap)).toArray] w fun e w' => e = .returned (.bool (stepValid k c n L)) ∧ Below w.heap.size w w' := by
  have hb := below1 w (.cells (stepL k c n (.slice A L cap)).toArray 35)
  have HB := Lib.hid hb
  clear hb
  simp only [stepL] at *
  obtain ⟨bv, hbv⟩ : ∃ bv, stepValid k c n L = bv := ⟨_, rfl⟩
  rw [hbv]
  have HV := Lib.hid hbv
  clear hbv
  go_enter Try.func15, Try.ntmps15
  go_wp2_with fail
  cases g1 : decide (0 ≤ c)
  · cases g2 : decide (0 ≤ n)
    · go_quiet (fail)
      cases k1 : (k == 1)
      · cases k2 : (k == 2)
        · cases k3 : (k == 3)
          · cases k7 : (k == 7)
            · cases k4 : (k == 4)
              · cases k5 : (k == 5)
                · cases k6 : (k == 6)
                  · go_wp2_with fail
                    go_ret
                    exact ⟨ret_bool (by rw [← HV.out]; unfold stepValid connOk numOk; simp [*]), ⟨HB.out.os, HB.out.tape, HB.out.output, HB.out.size, HB.out.block⟩⟩
                  · go_wp2_with fail
                    go_ret
                    exact ⟨ret_bool (by rw [← HV.out]; unfold stepValid connOk numOk; simp [*]), ⟨HB.out.os, HB.out.tape, HB.out.output, HB.out.size, HB.out.block⟩⟩
                · cases gc : (c == 0)
                  · go_wp2_with fail
                    go_ret
                    exact ⟨ret_bool (by rw [← HV.out]; unfold stepValid connOk numOk; simp [*]), ⟨HB.out.os, HB.out.tape, HB.out.output, HB.out.size, HB.out.block⟩⟩
                  · go_wp2_with fail
                    go_ret
                    exact ⟨ret_bool (by rw [← HV.out]; unfold stepValid connOk numOk; simp [*]), ⟨HB.out.os, HB.out.tape, HB.out.output, HB.out.size, HB.out.block⟩⟩
              · cases gc : (c == 0)
                · go_wp2_with fail
                  go_ret
                  exact ⟨ret_bool (by rw [← HV.out]; unfold stepValid connOk numOk; simp [*]), ⟨HB.out.os, HB.out.tape, HB.out.output, HB.out.size, HB.out.block⟩⟩
                · go_wp2_with fail
                  go_ret
                  exact ⟨ret_bool (by rw [← HV.out]; unfold stepValid connOk numOk; simp [*]), ⟨HB.out.os, HB.out.tape, HB.out.output, HB.out.size, HB.out.block⟩⟩
            · go_wp2_with fail
              go_ret
              exact ⟨ret_bool (by rw [← HV.out]; unfold stepValid connOk numOk; simp [*]), ⟨HB.out.os, HB.out.tape, HB.out.output, HB.out.size, HB.out.block⟩⟩
          · go_wp2_with fail
            go_ret
            exact ⟨ret_bool (by rw [← HV.out]; unfold stepValid connOk numOk; simp [*]), ⟨HB.out.os, HB.out.tape, HB.out.output, HB.out.size, HB.out.block⟩⟩
        · go_wp2_with fail
          go_ret
          exact ⟨ret_bool (by rw [← HV.out]; unfold stepValid connOk numOk; simp [*]), ⟨HB.out.os, HB.out.tape, HB.out.output, HB.out.size, HB.out.block⟩⟩
      · cases gc : (c == 0)
        · go_wp2_with fail
          go_ret
          exact ⟨ret_bool (by rw [← HV.out]; unfold stepValid connOk numOk; simp [*]), ⟨HB.out.os, HB.out.tape, HB.out.output, HB.out.size, HB.out.block⟩⟩
        · cases gn : (n == 0)
          · go_wp2_with fail
            go_ret
            exact ⟨ret_bool (by rw [← HV.out]; unfold stepValid connOk numOk; simp [*]), ⟨HB.out.os, HB.out.tape, HB.out.output, HB.out.size, HB.out.block⟩⟩
          · go_wp2_with fail
            go_ret
            exact ⟨ret_bool (by rw [← HV.out]; unfold stepValid connOk numOk; simp [*]), ⟨HB.out.os, HB.out.tape, HB.out.output, HB.out.size, HB.out.block⟩⟩
    · go_quiet (fail)
      cases k1 : (k == 1)
      · cases k2 : (k == 2)
        · cases k3 : (k == 3)
          · cases k7 : (k == 7)
            · cases k4 : (k == 4)
              · cases k5 : (k == 5)
                · cases k6 : (k == 6)
                  · go_wp2_with fail
                    go_ret
                    exact ⟨ret_bool (by rw [← HV.out]; unfold stepValid connOk numOk; simp [*]), ⟨HB.out.os, HB.out.tape, HB.out.output, HB.out.size, HB.out.block⟩⟩
                  · go_wp2_with fail
                    go_ret
                    exact ⟨ret_bool (by rw [← HV.out]; unfold stepValid connOk numOk; simp [*]), ⟨HB.out.os, HB.out.tape, HB.out.output, HB.out.size, HB.out.block⟩⟩
                · cases gc : (c == 0)
                  · go_wp2_with fail
                    go_ret
                    exact ⟨ret_bool (by rw [← HV.out]; unfold stepValid connOk numOk; simp [*]), ⟨HB.out.os, HB.out.tape, HB.out.output, HB.out.size, HB.out.block⟩⟩
                  · cases g4 : decide (n < 256)
                    · go_wp2_with fail
                      go_ret
                      exact ⟨ret_bool (by rw [← HV.out]; unfold stepValid connOk numOk; simp [*]), ⟨HB.out.os, HB.out.tape, HB.out.output, HB.out.size, HB.out.block⟩⟩
                    · go_wp2_with fail
                      go_ret
                      exact ⟨ret_bool (by rw [← HV.out]; unfold stepValid connOk numOk; simp [*]), ⟨HB.out.os, HB.out.tape, HB.out.output, HB.out.size, HB.out.block⟩⟩
              · cases gc : (c == 0)
                · go_wp2_with fail
                  go_ret
                  exact ⟨ret_bool (by rw [← HV.out]; unfold stepValid connOk numOk; simp [*]), ⟨HB.out.os, HB.out.tape, HB.out.output, HB.out.size, HB.out.block⟩⟩
                · cases g4 : decide (n < 256)
                  · go_wp2_with fail
                    go_ret
                    exact ⟨ret_bool (by rw [← HV.out]; unfold stepValid connOk numOk; simp [*]), ⟨HB.out.os, HB.out.tape, HB.out.output, HB.out.size, HB.out.block⟩⟩
                  · go_wp2_with fail
                    go_ret
                    exact ⟨ret_bool (by rw [← HV.out]; unfold stepValid connOk numOk; simp [*]), ⟨HB.out.os, HB.out.tape, HB.out.output, HB.out.size, HB.out.block⟩⟩
            · go_wp2_with fail
              go_ret
              exact ⟨ret_bool (by rw [← HV.out]; unfold stepValid connOk numOk; simp [*]), ⟨HB.out.os, HB.out.tape, HB.out.output, HB.out.size, HB.out.block⟩⟩
          · go_wp2_with fail
            go_ret
            exact ⟨ret_bool (by rw [← HV.out]; unfold stepValid connOk numOk; simp [*]), ⟨HB.out.os, HB.out.tape, HB.out.output, HB.out.size, HB.out.block⟩⟩
        · go_wp2_with fail
          go_ret
          exact ⟨ret_bool (by rw [← HV.out]; unfold stepValid connOk numOk; simp [*]), ⟨HB.out.os, HB.out.tape, HB.out.output, HB.out.size, HB.out.block⟩⟩
      · cases gc : (c == 0)
        · go_wp2_with fail
          go_ret
          exact ⟨ret_bool (by rw [← HV.out]; unfold stepValid connOk numOk; simp [*]), ⟨HB.out.os, HB.out.tape, HB.out.output, HB.out.size, HB.out.block⟩⟩
        · cases gn : (n == 0)
          · go_wp2_with fail
            go_ret
            exact ⟨ret_bool (by rw [← HV.out]; unfold stepValid connOk numOk; simp [*]), ⟨HB.out.os, HB.out.tape, HB.out.output, HB.out.size, HB.out.block⟩⟩
          · go_wp2_with fail
            go_ret
            exact ⟨ret_bool (by rw [← HV.out]; unfold stepValid connOk numOk; simp [*]), ⟨HB.out.os, HB.out.tape, HB.out.output, HB.out.size, HB.out.block⟩⟩
  · cases g2 : decide (0 ≤ n)
    · go_quiet (fail)
      cases k1 : (k == 1)
      · cases k2 : (k == 2)
        · cases k3 : (k == 3)
          · cases k7 : (k == 7)
            · cases k4 : (k == 4)
              · cases k5 : (k == 5)
                · cases k6 : (k == 6)
                  · go_wp2_with fail
                    go_ret
                    exact ⟨ret_bool (by rw [← HV.out]; unfold stepValid connOk numOk; simp [*]), ⟨HB.out.os, HB.out.tape, HB.out.output, HB.out.size, HB.out.block⟩⟩
                  · cases g3 : decide (c < 16)
                    · go_wp2_with fail
                      go_ret
                      exact ⟨ret_bool (by rw [← HV.out]; unfold stepValid connOk numOk; simp [*]), ⟨HB.out.os, HB.out.tape, HB.out.output, HB.out.size, HB.out.block⟩⟩
                    · go_wp2_with fail
                      go_ret
                      exact ⟨ret_bool (by rw [← HV.out]; unfold stepValid connOk numOk; simp [*]), ⟨HB.out.os, HB.out.tape, HB.out.output, HB.out.size, HB.out.block⟩⟩
                · cases gc : (c == 0)
                  · go_wp2_with fail
                    go_ret
                    exact ⟨ret_bool (by rw [← HV.out]; unfold stepValid connOk numOk; simp [*]), ⟨HB.out.os, HB.out.tape, HB.out.output, HB.out.size, HB.out.block⟩⟩
                  · go_wp2_with fail
                    go_ret
                    exact ⟨ret_bool (by rw [← HV.out]; unfold stepValid connOk numOk; simp [*]), ⟨HB.out.os, HB.out.tape, HB.out.output, HB.out.size, HB.out.block⟩⟩
              · cases gc : (c == 0)
                · go_wp2_with fail
                  go_ret
                  exact ⟨ret_bool (by rw [← HV.out]; unfold stepValid connOk numOk; simp [*]), ⟨HB.out.os, HB.out.tape, HB.out.output, HB.out.size, HB.out.block⟩⟩
                · go_wp2_with fail
                  go_ret
                  exact ⟨ret_bool (by rw [← HV.out]; unfold stepValid connOk numOk; simp [*]), ⟨HB.out.os, HB.out.tape, HB.out.output, HB.out.size, HB.out.block⟩⟩
            · cases g3 : decide (c < 16)
              · go_wp2_with fail
                go_ret
                exact ⟨ret_bool (by rw [← HV.out]; unfold stepValid connOk numOk; simp [*]), ⟨HB.out.os, HB.out.tape, HB.out.output, HB.out.size, HB.out.block⟩⟩
              · cases gn : (n == 0)
                · go_wp2_with fail
                  go_ret
                  exact ⟨ret_bool (by rw [← HV.out]; unfold stepValid connOk numOk; simp [*]), ⟨HB.out.os, HB.out.tape, HB.out.output, HB.out.size, HB.out.block⟩⟩
                · go_wp2_with fail
                  go_ret
                  exact ⟨ret_bool (by rw [← HV.out]; unfold stepValid connOk numOk; simp [*]), ⟨HB.out.os, HB.out.tape, HB.out.output, HB.out.size, HB.out.block⟩⟩
          · cases g3 : decide (c < 16)
            · go_wp2_with fail
              go_ret
              exact ⟨ret_bool (by rw [← HV.out]; unfold stepValid connOk numOk; simp [*]), ⟨HB.out.os, HB.out.tape, HB.out.output, HB.out.size, HB.out.block⟩⟩
            · cases gn : (n == 0)
              · go_wp2_with fail
                go_ret
                exact ⟨ret_bool (by rw [← HV.out]; unfold stepValid connOk numOk; simp [*]), ⟨HB.out.os, HB.out.tape, HB.out.output, HB.out.size, HB.out.block⟩⟩
              · go_wp2_with fail
                go_ret
                exact ⟨ret_bool (by rw [← HV.out]; unfold stepValid connOk numOk; simp [*]), ⟨HB.out.os, HB.out.tape, HB.out.output, HB.out.size, HB.out.block⟩⟩
        · cases g3 : decide (c < 16)
          · go_wp2_with fail
            go_ret
            exact ⟨ret_bool (by rw [← HV.out]; unfold stepValid connOk numOk; simp [*]), ⟨HB.out.os, HB.out.tape, HB.out.output, HB.out.size, HB.out.block⟩⟩
          · cases gn : (n == 0)
            · go_wp2_with fail
              go_ret
              exact ⟨ret_bool (by rw [← HV.out]; unfold stepValid connOk numOk; simp [*]), ⟨HB.out.os, HB.out.tape, HB.out.output, HB.out.size, HB.out.block⟩⟩
            · go_wp2_with fail
              go_ret
              exact ⟨ret_bool (by rw [← HV.out]; unfold stepValid connOk numOk; simp [*]), ⟨HB.out.os, HB.out.tape, HB.out.output, HB.out.size, HB.out.block⟩⟩
      · cases gc : (c == 0)
        · go_wp2_with fail
          go_ret
          exact ⟨ret_bool (by rw [← HV.out]; unfold stepValid connOk numOk; simp [*]), ⟨HB.out.os, HB.out.tape, HB.out.output, HB.out.size, HB.out.block⟩⟩
        · cases gn : (n == 0)
          · go_wp2_with fail
            go_ret
            exact ⟨ret_bool (by rw [← HV.out]; unfold stepValid connOk numOk; simp [*]), ⟨HB.out.os, HB.out.tape, HB.out.output, HB.out.size, HB.out.block⟩⟩
          · go_wp2_with fail
            go_ret
            exact ⟨ret_bool (by rw [← HV.out]; unfold stepValid connOk numOk; simp [*]), ⟨HB.out.os, HB.out.tape, HB.out.output, HB.out.size, HB.out.block⟩⟩
    · go_quiet (fail)
      cases k1 : (k == 1)
      · cases k2 : (k == 2)
        · cases k3 : (k == 3)
          · cases k7 : (k == 7)
            · cases k4 : (k == 4)
              · cases k5 : (k == 5)
                · cases k6 : (k == 6)
                  · go_wp2_with fail
                    go_ret
                    exact ⟨ret_bool (by rw [← HV.out]; unfold stepValid connOk numOk; simp [*]), ⟨HB.out.os, HB.out.tape, HB.out.output, HB.out.size, HB.out.block⟩⟩
                  · cases g3 : decide (c < 16)
                    · go_wp2_with fail
                      go_ret
                      exact ⟨ret_bool (by rw [← HV.out]; unfold stepValid connOk numOk; simp [*]), ⟨HB.out.os, HB.out.tape, HB.out.output, HB.out.size, HB.out.block⟩⟩
                    · cases g4 : decide (n < 256)
                      · go_wp2_with fail
                        go_ret
                        exact ⟨ret_bool (by rw [← HV.out]; unfold stepValid connOk numOk; simp [*]), ⟨HB.out.os, HB.out.tape, HB.out.output, HB.out.size, HB.out.block⟩⟩
                      · go_wp2_with fail
                        go_ret
                        exact ⟨ret_bool (by rw [← HV.out]; unfold stepValid connOk numOk; simp [*]), ⟨HB.out.os, HB.out.tape, HB.out.output, HB.out.size, HB.out.block⟩⟩
                · cases gc : (c == 0)
                  · go_wp2_with fail
                    go_ret
                    exact ⟨ret_bool (by rw [← HV.out]; unfold stepValid connOk numOk; simp [*]), ⟨HB.out.os, HB.out.tape, HB.out.output, HB.out.size, HB.out.block⟩⟩
                  · cases g4 : decide (n < 256)
                    · go_wp2_with fail
                      go_ret
                      exact ⟨ret_bool (by rw [← HV.out]; unfold stepValid connOk numOk; simp [*]), ⟨HB.out.os, HB.out.tape, HB.out.output, HB.out.size, HB.out.block⟩⟩
                    · go_wp2_with fail
                      go_ret
                      exact ⟨ret_bool (by rw [← HV.out]; unfold stepValid connOk numOk; simp [*]), ⟨HB.out.os, HB.out.tape, HB.out.output, HB.out.size, HB.out.block⟩⟩
              · cases gc : (c == 0)
                · go_wp2_with fail
                  go_ret
                  exact ⟨ret_bool (by rw [← HV.out]; unfold stepValid connOk numOk; simp [*]), ⟨HB.out.os, HB.out.tape, HB.out.output, HB.out.size, HB.out.block⟩⟩
                · cases g4 : decide (n < 256)
                  · go_wp2_with fail
                    go_ret
                    exact ⟨ret_bool (by rw [← HV.out]; unfold stepValid connOk numOk; simp [*]), ⟨HB.out.os, HB.out.tape, HB.out.output, HB.out.size, HB.out.block⟩⟩
                  · go_wp2_with fail
                    go_ret
                    exact ⟨ret_bool (by rw [← HV.out]; unfold stepValid connOk numOk; simp [*]), ⟨HB.out.os, HB.out.tape, HB.out.output, HB.out.size, HB.out.block⟩⟩
            · cases g3 : decide (c < 16)
              · go_wp2_with fail
                go_ret
                exact ⟨ret_bool (by rw [← HV.out]; unfold stepValid connOk numOk; simp [*]), ⟨HB.out.os, HB.out.tape, HB.out.output, HB.out.size, HB.out.block⟩⟩
              · cases gn : (n == 0)
                · go_wp2_with fail
                  go_ret
                  exact ⟨ret_bool (by rw [← HV.out]; unfold stepValid connOk numOk; simp [*]), ⟨HB.out.os, HB.out.tape, HB.out.output, HB.out.size, HB.out.block⟩⟩
                · go_wp2_with fail
                  go_ret
                  exact ⟨ret_bool (by rw [← HV.out]; unfold stepValid connOk numOk; simp [*]), ⟨HB.out.os, HB.out.tape, HB.out.output, HB.out.size, HB.out.block⟩⟩
          · cases g3 : decide (c < 16)
            · go_wp2_with fail
              go_ret
              exact ⟨ret_bool (by rw [← HV.out]; unfold stepValid connOk numOk; simp [*]), ⟨HB.out.os, HB.out.tape, HB.out.output, HB.out.size, HB.out.block⟩⟩
            · cases gn : (n == 0)
              · go_wp2_with fail
                go_ret
                exact ⟨ret_bool (by rw [← HV.out]; unfold stepValid connOk numOk; simp [*]), ⟨HB.out.os, HB.out.tape, HB.out.output, HB.out.size, HB.out.block⟩⟩
              · go_wp2_with fail
                go_ret
                exact ⟨ret_bool (by rw [← HV.out]; unfold stepValid connOk numOk; simp [*]), ⟨HB.out.os, HB.out.tape, HB.out.output, HB.out.size, HB.out.block⟩⟩
        · cases g3 : decide (c < 16)
          · go_wp2_with fail
            go_ret
            exact ⟨ret_bool (by rw [← HV.out]; unfold stepValid connOk numOk; simp [*]), ⟨HB.out.os, HB.out.tape, HB.out.output, HB.out.size, HB.out.block⟩⟩
          · cases gn : (n == 0)
            · go_wp2_with fail
              go_ret
              exact ⟨ret_bool (by rw [← HV.out]; unfold stepValid connOk numOk; simp [*]), ⟨HB.out.os, HB.out.tape, HB.out.output, HB.out.size, HB.out.block⟩⟩
            · go_wp2_with fail
              go_ret
              exact ⟨ret_bool (by rw [← HV.out]; unfold stepValid connOk numOk; simp [*]), ⟨HB.out.os, HB.out.tape, HB.out.output, HB.out.size, HB.out.block⟩⟩
      · cases gc : (c == 0)
        · go_wp2_with fail
          go_ret
          exact ⟨ret_bool (by rw [← HV.out]; unfold stepValid connOk numOk; simp [*]), ⟨HB.out.os, HB.out.tape, HB.out.output, HB.out.size, HB.out.block⟩⟩
        · cases gn : (n == 0)
          · go_wp2_with fail
            go_ret
            exact ⟨ret_bool (by rw [← HV.out]; unfold stepValid connOk numOk; simp [*]), ⟨HB.out.os, HB.out.tape, HB.out.output, HB.out.size, HB.out.block⟩⟩
          · go_wp2_with fail
            go_ret
            exact ⟨ret_bool (by rw [← HV.out]; unfold stepValid connOk numOk; simp [*]), ⟨HB.out.os, HB.out.tape, HB.out.output, HB.out.size, HB.out.block⟩⟩
end Go.Proofs.Ytnmhmabifeapkaa.Ord
