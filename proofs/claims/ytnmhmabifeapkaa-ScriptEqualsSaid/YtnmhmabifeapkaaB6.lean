/- A slice literal of one struct. -/
import Derived.Test.YtnmhmabifeapkaaB4
import Derived.Great.BuildSlice
namespace Go.Proofs.Ytnmhmabifeapkaa.Ord
open Go.RowKit
set_option linter.unusedVariables false

theorem fold_put : ∀ (l : List Value) (k : Nat) (acc : Array Value), k + l.length = acc.size →
    ((l.zipIdx k).foldl (fun cs (x : Value × Nat) => cs.setIfInBounds (0 + x.2) x.1) acc).toList = acc.toList.take k ++ l
  | [], k, acc, h => by simp at h; subst h; simp [List.take_of_length_le]
  | v :: l, k, acc, h => by
    rw [List.zipIdx_cons, List.foldl_cons, fold_put l (k + 1) _ (by simp at h ⊢; omega)]
    simp only [List.length_cons] at h
    rw [Nat.zero_add, Array.toList_setIfInBounds, List.take_add_one, List.take_set_of_le (Nat.le_refl _), List.getElem?_set_self (by simp; omega)]
    simp
theorem fill_one (v : Value) (size : Nat) (acc : Array Value) (hs : v.cells.size = size) (ha : acc.size = size) :
    Instr.fill (fun i => some (i * size, size)) acc [(0, v)] = some v.cells := by
  unfold Instr.fill
  simp only [Nat.zero_mul, Nat.zero_add, hs, ha, ne_eq, not_true_eq_false, Nat.lt_irrefl, decide_false, Bool.or_self, Bool.false_eq_true, if_false]
  unfold Instr.fill
  congr 1
  apply Array.toList_inj.1
  have := fold_put v.cells.toList 0 acc (by simp; omega)
  simp only [List.take_zero, List.nil_append, Nat.zero_add] at this
  rw [← Array.foldl_toList, Array.toList_zipIdx]
  simpa using this

section
variable {P : Program}
theorem wpList_slice_one {ops : Array Oper} {rest : List Oper} {o : Oper} {a : Act} {w : World} {Q : Exit → Act → World → Prop} (hgd : o.guard = none) (t : TypeId) (x : Operand) (ho : o.op = .buildSlice t 1 #[(0, x)])
    (e : TypeId) (z : Value) (size bytes : Nat) (v : Value) (cs : Array Value) (ht : P.underlying t = some (.slice e)) (hinfo : (P.info? e).map (fun i => (i.zero, i.size, i.bytes)) = some (some z, size, bytes))
    (hsz : 0 < size) (hle : size ≤ 2 ^ 24) (hv : a.eval x = v) (hcs : v.cells = cs) (hs : cs.size = size)
    (h : wpList P ops Q rest (a.put o.dst (.slice (some ⟨w.heap.size, 0, none⟩) 1 1)) (w.alloc (.cells cs e))) : wpList P ops Q (o :: rest) a w := by
  obtain ⟨i, hi, hz, h4, h5⟩ := info_parts hinfo
  refine wpList_buildSlice hgd t e 1 #[(0, x)] ho cs i z ht hi hz (by omega) (by omega) ?_ h
  rw [h4, Nat.one_mul]
  have : ((#[(0, x)] : Array (Nat × Operand)).map fun (i, x) => (i, a.eval x)).toList = [(0, v)] := by simp [hv]
  rw [this, fill_one v size _ (by rw [hcs, hs]) (by simp), hcs]
end
end Go.Proofs.Ytnmhmabifeapkaa.Ord
