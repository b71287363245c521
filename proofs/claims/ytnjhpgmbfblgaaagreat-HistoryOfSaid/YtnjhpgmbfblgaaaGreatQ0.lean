/- What the walks of the History laws share: the ranges of what arguments hold. -/
import Derived.Test.YtnjhpgmbfblgaaaGreatP6
import Derived.Test.YtnjhpgmbfblgaaaGreatV5
namespace Go.Proofs.YtnjhpgmbfblgaaaGreat.Ord
open Go.RowKit
set_option linter.unusedVariables false
set_option linter.unusedSimpArgs false
/-- what the kinds of an argument keep of its numbers -/
structure Rng (x : CallR) : Prop where
 bytes : ∀ y ∈ x.cmd.val, 0 <= y /\ y < 256
 life : 0 <= x.cmd.life /\ x.cmd.life < 18446744073709551616
 cver : 0 <= x.cmd.ver /\ x.cmd.ver < 18446744073709551616
 rbytes : ∀ y ∈ x.resp.items, ∀ z ∈ y.val, 0 <= z /\ z < 256
 ver : 0 <= x.resp.ver /\ x.resp.ver < 18446744073709551616
 nums : ∀ y ∈ x.resp.nums, 0 <= y /\ y < 18446744073709551616
 vers : ∀ y ∈ x.resp.items, 0 <= y.ver /\ y.ver < 18446744073709551616
 deads : ∀ y ∈ x.resp.items, 0 <= y.dead /\ y.dead < 18446744073709551616
 count : -9223372036854775808 <= x.resp.count /\ x.resp.count < 9223372036854775808
 marks : ∀ y ∈ x.resp.items, -9223372036854775808 <= y.mark /\ y.mark < 9223372036854775808
 err : -9223372036854775808 <= x.resp.err /\ x.resp.err < 9223372036854775808
 op : -9223372036854775808 <= x.resp.op /\ x.resp.op < 9223372036854775808
theorem callS_of {x : CallR} (h : Light x.cmd x.resp) (r : Rng x) : CallS x :=
 ⟨⟨h.nkeys, h.ntags, h.key, h.val, h.tag, h.pre, h.chi, h.keys, h.tags, r.bytes, r.life, r.cver⟩,
  ⟨h.nitems, h.nnums, h.vals, r.rbytes, r.ver, r.nums, r.vers, r.deads, r.count, r.marks, r.err, r.op⟩⟩
theorem cmdEq_self (c : CmdR) : cmdEq c c = true := by simp [cmdEq]
theorem respEq_self (r : RespR) : respEq r r = true := by simp [respEq, itemsEq, itemEq]
theorem callEq_self (x : CallR) : callEq x x = true := by simp [callEq, cmdEq_self, respEq_self]
noncomputable def vb (L : List (CallR × CallV)) : Bool := @decide (ValidP singleB (L.map (·.1))) (Classical.propDecidable _)
theorem VlPost.det {L : List (CallR × CallV)} {w w' : World} {e : Ending} (h : VlPost L w e w') : e = .returned (.bool (vb L)) /\ Below w.heap.size w w' := by
 obtain ⟨b, h1, h2, h3⟩ := h
 refine ⟨?_, h3⟩
 rw [h1]
 congr 2
 unfold vb
 by_cases hv : ValidP singleB (L.map (·.1))
 ·rw [h2.2 hv]; simp [hv]
 ·have : b = false := by cases b; rfl; exact absurd (h2.1 rfl) hv
  rw [this]; simp [hv]
def LawP (w : World) (e : Ending) (w' : World) : Prop := e = .returned (.bool true) /\ Below w.heap.size w w'
end Go.Proofs.YtnjhpgmbfblgaaaGreat.Ord
