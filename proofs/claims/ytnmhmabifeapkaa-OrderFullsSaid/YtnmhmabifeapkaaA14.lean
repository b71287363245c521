/- Walk of the reference's Count. -/
import Derived.Test.YtnmhmabifeapkaaP0
import Derived.Test.YtnmhmabifeapkaaB7
namespace Go.Proofs.Ytnmhmabifeapkaa.Ord
open Go.RowKit Go.Sort
set_option linter.unusedVariables false

def CountR (n : Nat) (l : List CallC) (w : World) (u : Value) (w' : World) : Prop := u = .int .i64 (countF n l) ∧ RowKit.Below w.heap.size w w'
theorem own_calls {w : World} {base n : Nat} {v : Value} {l : List CallC} (h : w.ownsRow base 64 23 v n (allCells l)) (hl : l.length = n) : ∃ A cap, v = .slice A n cap ∧ n ≤ cap ∧ CallsAt w w.heap.size A l := by
  rcases owns_shape h (by decide) with ⟨h1, h2, _⟩ | ⟨g, cap, h1, _, _, h2, _⟩
  · subst h1 h2
    exact ⟨none, 0, rfl, Nat.le_refl _, CallsAt.of_owns h⟩
  · subst h1
    exact ⟨_, cap, rfl, h2, CallsAt.of_owns h⟩

theorem refCount_long (A : Option Addr) (n cap : Nat) (w : World) (hl : 4096 < n) (hn : n ≤ 5000) :
    Calls Try.prog 34 #[.slice A n cap] w fun e w' => e = .returned (.tuple #[.int .i64 0, .int .i64 5]) ∧ RowKit.Below w.heap.size w w' := by
  have hg : decide ((4096 : Int) < (n : Int)) = true := by simp; omega
  go_enter Try.func34, Try.ntmps34
  go_wp2_with fail
  go_ret2
  exact ⟨rfl, RowKit.Below.refl _ _⟩

set_option maxRecDepth 100000 in
theorem refCount_many (A : Option Addr) (l : List CallC) (cap : Nat) (w : World) (hl : l.length ≤ 4096) (hA : CallsAt w w.heap.size A l) (hnd : 12 < (dcalls l).length) :
    Calls Try.prog 34 #[.slice A l.length cap] w fun e w' => e = .returned (.tuple #[.int .i64 0, .int .i64 5]) ∧ RowKit.Below w.heap.size w w' := by
  have hD := Lib.hid (refDone_any A l cap w (by omega) hA)
  have h5 : (dcalls l).length ≤ 5000 := Nat.le_trans (dcalls_len l) (by omega)
  generalize hN : l.length = N at *
  clear hN
  have hg : decide ((4096 : Int) < (N : Int)) = false := by simp; omega
  have hM : ∃ M, (dcalls l).length = M := ⟨_, rfl⟩
  obtain ⟨M, hM⟩ := hM
  rw [hM] at hnd h5
  have HM := Lib.hid hM
  clear hM
  go_enter Try.func34, Try.ntmps34
  go_wp2_with fail
  refine hD.out.mono ?_
  rintro e w1 ⟨v1, rfl, hown1, hb1⟩
  rw [HM.out] at hown1
  obtain ⟨A1, c1, rfl, hc1, hA1⟩ := own_calls hown1 HM.out
  have hg2 : decide ((12 : Int) < (M : Int)) = true := by simp; omega
  go_wp2_with fail
  go_ret2
  exact ⟨rfl, hb1⟩

set_option maxRecDepth 100000 in
theorem refCount_any (A : Option Addr) (l : List CallC) (cap : Nat) (w : World) (hl : l.length ≤ 4096) (hA : CallsAt w w.heap.size A l) (hnd : (dcalls l).length ≤ 12)
    (hcount : ∀ (A : Option Addr) (l : List CallC) (cap : Nat) (w : World) (n : Nat), l.length = n → n ≤ 12 → n ≤ cap → CallsAt w w.heap.size A l → Calls Try.prog 53 #[.slice A n cap] w fun e w' => ∃ u, e = .returned u ∧ CountR n l w u w') :
    Calls Try.prog 34 #[.slice A l.length cap] w fun e w' => e = .returned (.tuple #[.int .i64 ((countF (dcalls l).length (dcalls l) : Nat) : Int), .int .i64 0]) ∧ RowKit.Below w.heap.size w w' := by
  have hD := Lib.hid (refDone_any A l cap w (by omega) hA)
  have hD2 := Lib.hid (fun w1 (hb : RowKit.Below w.heap.size w w1) => refDone_any A l cap w1 (by omega) ((hA.below hb (Nat.le_refl _)).mono hb.size))
  have HC := Lib.hid hcount
  clear hcount
  generalize hN : l.length = N at *
  clear hN
  have hg : decide ((4096 : Int) < (N : Int)) = false := by simp; omega
  have hM : ∃ M, (dcalls l).length = M := ⟨_, rfl⟩
  obtain ⟨M, hM⟩ := hM
  rw [hM] at hnd ⊢
  obtain ⟨d, hd⟩ : ∃ d, dcalls l = d := ⟨_, rfl⟩
  rw [hd]
  have HM := Lib.hid (show d.length = M by rw [← hd]; exact hM)
  have HDD := Lib.hid hd
  clear hM hd
  have hg2 : decide ((12 : Int) < (M : Int)) = false := by simp; omega
  go_enter Try.func34, Try.ntmps34
  go_wp2_with fail
  refine hD.out.mono ?_
  rintro e w1 ⟨v1, rfl, hown1, hb1⟩
  rw [HDD.out, HM.out] at hown1
  obtain ⟨A1, c1, rfl, hc1, hA1⟩ := own_calls hown1 HM.out
  go_wp2_with fail
  refine (hD2.out w1 hb1).mono ?_
  rintro e w2 ⟨v2, rfl, hown2, hb2⟩
  rw [HDD.out, HM.out] at hown2
  obtain ⟨A2, c2, rfl, hc2, hA2⟩ := own_calls hown2 HM.out
  have hb02 := hb1.trans (hb2.mono hb1.size)
  go_wp2_with fail
  refine (HC.out A2 d c2 w2 M HM.out hnd hc2 hA2).mono ?_
  rintro e w3 ⟨u, rfl, rfl, hb3⟩
  go_wp2_with fail
  go_ret2
  exact ⟨rfl, hb02.trans (hb3.mono hb02.size)⟩
end Go.Proofs.Ytnmhmabifeapkaa.Ord
