/- What the rows of the laws need from their walks. -/
import Derived.Test.YtnmhmabifeapkaaW1
import Derived.Test.YtnmhmabifeapkaaRows
import Derived.WalkKit
import Derived.ProofKit
import Derived.OpenShut
import Derived.ShutString
import Derived.ChangeOld
import Derived.Below
namespace Go.Proofs.Ytnmhmabifeapkaa.Ord
open Go.ChangeShapes Go.WideShapes Go.ChangeAt Go.RowKit
set_option linter.unusedVariables false

theorem own : ownKnob Try.prog.godebug = none := by kernel_rfl
theorem laidOut : laidOutB Try.prog = true := by kernel_rfl

/-- an argument that is a slice of ints, opened -/
theorem open_xs {H : Type} {enc : TypeId × Value → H} {W : World} {A : Option Addr} {len cap : Nat} {d : DataW H} {p : List MemPlace}
    (h0 : DataW.Trod enc Try.prog W 0 (fun _ => true) true 56 (.slice A len cap) d p) : ∃ xs : List Int, xs.length = len ∧ len ≤ cap ∧ cap ≤ maxLen ∧ IntsAt W W.heap.size A xs := by
  obtain ⟨fuel, hf⟩ := h0
  rcases open_ints Try.underlying56 Try.underlying3 (by kernel_rfl) hf with ⟨hcs, _⟩ | ⟨x, l, c, zs, hcs, _, hl, hm, hz, _, hcell, hwz⟩
  · simp [Value.cells] at hcs
    obtain ⟨rfl, rfl, rfl⟩ := hcs
    exact ⟨[], rfl, Nat.le_refl _, by unfold maxLen; omega, fun i hi => by simp at hi⟩
  · simp [Value.cells] at hcs
    obtain ⟨rfl, rfl, rfl⟩ := hcs
    have hz' : zs.length = cap := by simpa using hz
    refine ⟨zs.take len, by simp; omega, hl, hm, fun i hi => ?_⟩
    simp only [List.length_take] at hi
    have h0 := hcell 0 (by omega)
    obtain ⟨b, off, sp⟩ := x
    have hsp : sp = none := by simpa [Addr.add] using World.cell?_spot h0
    subst hsp
    refine ⟨b, off, rfl, by simpa [Addr.add] using cell_lt h0, fun v hv => ?_⟩
    have hi2 := hcell i (by omega)
    have e : (⟨b, off, none⟩ : Addr).add i = ⟨b, off + i, none⟩ := by unfold Addr.add; split <;> simp_all
    rw [e] at hi2
    rw [hi2]
    rw [List.getElem?_take_of_lt (by omega)] at hv
    simp [List.getD, hv]

/-- what a law's walk gives: true, and nothing that was there is written -/
def Law (N : Nat) (args : Array Value) (w : World) : Prop := Calls Try.prog N args w fun e w' => e = .returned (.bool true) ∧ Go.RowKit.Below w.heap.size w w'

end Go.Proofs.Ytnmhmabifeapkaa.Ord
