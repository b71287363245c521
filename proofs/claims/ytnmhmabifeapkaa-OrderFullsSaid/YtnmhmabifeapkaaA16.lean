/- Walk of the law's consistent. -/
import Derived.Test.YtnmhmabifeapkaaA9
namespace Go.Proofs.Ytnmhmabifeapkaa.Ord
open Go.RowKit
set_option linter.unusedVariables false

/-- what 'consistent' answers -/
def consV (l : List CallC) (xs : List Int) (want : Bool) (no : Int) : Bool := ((isOrd l xs && consB l xs) == want) && ((if isOrd l xs then (0 : Int) else 2) == no)
def ConsVPost (l : List CallC) (xs : List Int) (want : Bool) (no : Int) (w : World) (e : Ending) (w' : World) : Prop := e = .returned (.bool (consV l xs want no)) ∧ RowKit.Below w.heap.size w w'
theorem consVPost {l : List CallC} {xs : List Int} {want : Bool} {no : Int} {w w' : World} {b : Bool} (h : consV l xs want no = b) (hb : RowKit.Below w.heap.size w w') : ConsVPost l xs want no w (.returned (.bool b)) w' := ⟨by rw [h], hb⟩

set_option maxRecDepth 100000 in
theorem consistent_any (A X : Option Addr) (l : List CallC) (xs : List Int) (want : Bool) (no : Int) (cap capx : Nat) (w : World) (hcx : xs.length ≤ capx) (hl : l.length ≤ 4096) (hx : xs.length ≤ 5000) (hA : CallsAt w w.heap.size A l) (hX : IntsAt w w.heap.size X xs) :
    Calls Try.prog 31 #[.slice A l.length cap, .bool want, .int .i64 no, .slice X xs.length capx] w fun e w' => ConsVPost l xs want no w e w' := by
  have HC := Lib.hid (cons_any A X l xs cap capx w hcx hl hx hA hX)
  generalize l.length = N at *
  generalize xs.length = M at *
  go_enter Try.func31, Try.ntmps31
  go_wp2_with fail
  refine HC.out.mono ?_
  rintro e w1 ⟨rfl, hb1⟩
  cases ho : isOrd l xs with
  | false =>
    have HO := Lib.hid ho
    clear ho
    rw [if_neg (by decide)]
    go_wp2_with fail
    all_goals go_ret
    all_goals refine consVPost ?_ hb1
    all_goals unfold consV; rw [HO.out]; cases want <;> simp_all
  | true =>
    have HO := Lib.hid ho
    clear ho
    rw [if_pos rfl]
    obtain ⟨cb, hcb⟩ : ∃ cb, consB l xs = cb := ⟨_, rfl⟩
    rw [hcb]
    have HB := Lib.hid hcb
    clear hcb
    go_wp2_with fail
    all_goals go_ret
    all_goals refine consVPost ?_ hb1
    all_goals unfold consV; rw [HO.out, HB.out]; cases want <;> cases cb <;> simp_all
end Go.Proofs.Ytnmhmabifeapkaa.Ord
