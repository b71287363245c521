/- The walk of the law OrderConsistent. -/
import Derived.Test.YtnmhmabifeapkaaA17
import Derived.Test.YtnmhmabifeapkaaW2
namespace Go.Proofs.Ytnmhmabifeapkaa.Ord
open Go.RowKit
set_option linter.unusedVariables false

def refW (l : List CallC) (xs : List Int) : Bool := isOrd l xs && consB l xs
def refN (l : List CallC) (xs : List Int) : Int := if isOrd l xs then 0 else 2
theorem refCons_any (A X : Option Addr) (l : List CallC) (xs : List Int) (cap capx : Nat) (w : World) (hl : l.length ≤ 4096) (hx : xs.length ≤ 5000) (hA : CallsAt w w.heap.size A l) (hX : IntsAt w w.heap.size X xs) :
    Calls Try.prog 30 #[.slice A l.length cap, .slice X xs.length capx] w fun e w' => e = .returned (.tuple #[.bool (refW l xs), .int .i64 (refN l xs)]) ∧ Below w.heap.size w w' := by
  have hord : ∀ W, Below w.heap.size w W → Calls Try.prog 51 #[.slice A l.length cap, .slice X xs.length capx] W fun e w' => e = .returned (.bool (isOrd l xs)) ∧ Below W.heap.size W w' := fun W hb =>
    refOrder_any A X l xs cap capx W (by omega) hx ((hA.below hb (Nat.le_refl _)).mono hb.size) ((hX.below hb (Nat.le_refl _)).mono hb.size)
  unfold refW refN
  cases ho : isOrd l xs with
  | true => rw [ho] at hord; exact refCons_yes A X l xs cap capx w hl hx hA hX ho hord
  | false => rw [ho] at hord; exact refCons_no A X _ _ cap capx w hl hord

theorem consV_ref (l : List CallC) (xs : List Int) : consV l xs (refW l xs) (refN l xs) = true := by simp [consV, refW, refN]

theorem consistent_ref (A X : Option Addr) (l : List CallC) (xs : List Int) (cap capx : Nat) (w : World) (hcx : xs.length ≤ capx) (hl : l.length ≤ 4096) (hx : xs.length ≤ 5000) (hA : CallsAt w w.heap.size A l) (hX : IntsAt w w.heap.size X xs) :
    Calls Try.prog 31 #[.slice A l.length cap, .bool (refW l xs), .int .i64 (refN l xs), .slice X xs.length capx] w fun e w' => e = .returned (.bool true) ∧ Below w.heap.size w w' :=
  (consistent_any A X l xs (refW l xs) (refN l xs) cap capx w hcx hl hx hA hX).mono fun e w' h => ⟨by rw [← consV_ref l xs]; exact h.1, h.2⟩

set_option maxRecDepth 100000 in
theorem law7_many (A X : Option Addr) (n m cap capx : Nat) (w : World) (h : 100 < n) : Law 7 #[.slice A n cap, .slice X m capx] w := by
  unfold Law
  have hg : decide ((100 : Int) < (n : Int)) = true := by simp; omega
  go_enter Try.func7, Try.ntmps7
  go_wp2_with fail
  refine (known_any _).mono ?_
  rintro e w1 ⟨rfl, hb1⟩
  go_wp2_with fail
  go_ret
  exact ⟨rfl, hb1⟩
set_option maxRecDepth 100000 in
theorem law7_many2 (A X : Option Addr) (n m cap capx : Nat) (w : World) (h : n ≤ 100) (h2 : 100 < m) : Law 7 #[.slice A n cap, .slice X m capx] w := by
  unfold Law
  have hg : decide ((100 : Int) < (n : Int)) = false := by simp; omega
  have hg2 : decide ((100 : Int) < (m : Int)) = true := by simp; omega
  go_enter Try.func7, Try.ntmps7
  go_wp2_with fail
  refine (known_any _).mono ?_
  rintro e w1 ⟨rfl, hb1⟩
  go_wp2_with fail
  go_ret
  exact ⟨rfl, hb1⟩
set_option maxRecDepth 100000 in
theorem law7_few (A X : Option Addr) (l : List CallC) (xs : List Int) (cap capx : Nat) (w : World) (hn : l.length ≤ 100) (hm : xs.length ≤ 100) (hcx : xs.length ≤ capx) (hA : CallsAt w w.heap.size A l) (hX : IntsAt w w.heap.size X xs) :
    Law 7 #[.slice A l.length cap, .slice X xs.length capx] w := by
  unfold Law
  have HR := Lib.hid (refCons_any A X l xs cap capx w (by omega) (by omega) hA hX)
  have HC := Lib.hid fun w1 (hb : Below w.heap.size w w1) => consistent_ref A X l xs cap capx w1 hcx (by omega) (by omega) ((hA.below hb (Nat.le_refl _)).mono hb.size) ((hX.below hb (Nat.le_refl _)).mono hb.size)
  generalize l.length = n at *
  generalize xs.length = m at *
  generalize refW l xs = W at *
  generalize refN l xs = N at *
  have hg : decide ((100 : Int) < (n : Int)) = false := by simp; omega
  have hg2 : decide ((100 : Int) < (m : Int)) = false := by simp; omega
  go_enter Try.func7, Try.ntmps7
  go_wp2_with fail
  refine HR.out.mono ?_
  rintro e w1 ⟨rfl, hb1⟩
  go_wp2_with fail
  refine (HC.out w1 hb1).mono ?_
  rintro e w2 ⟨rfl, hb2⟩
  go_wp2_with fail
  refine (known_any _).mono ?_
  rintro e w3 ⟨rfl, hb3⟩
  go_wp2_with fail
  go_ret
  have hb12 := hb1.trans (hb2.mono hb1.size)
  exact ⟨rfl, hb12.trans (hb3.mono hb12.size)⟩

theorem orderConsistent_walk : orderConsistentWalk := fun A l cap X xs capx w hc hm hA hcx hmx hX => by
  by_cases h : l.length ≤ 100
  · by_cases h2 : xs.length ≤ 100
    · exact law7_few A X l xs cap capx w h h2 hcx hA hX
    · exact law7_many2 A X _ _ cap capx w h (by omega)
  · exact law7_many A X _ _ cap capx w (by omega)

/-- every order of any calls is judged as the reference judges it -/
theorem orderConsistent_proved : Rows.OrderConsistentSaid := orderConsistent_of orderConsistent_walk
#print axioms orderConsistent_proved
end Go.Proofs.Ytnmhmabifeapkaa.Ord
