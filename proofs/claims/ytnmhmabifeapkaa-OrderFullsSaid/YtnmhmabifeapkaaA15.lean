/- Walk of the examples' calls. -/
import Derived.Test.YtnmhmabifeapkaaA14
import Derived.Test.YtnmhmabifeapkaaP3
namespace Go.Proofs.Ytnmhmabifeapkaa.Ord
open Go.RowKit Go.Sort
set_option linter.unusedVariables false

theorem zero64_one : (List.range 23).all (fun j => (zero64.cells.getD j undef).oneCell') = true := by kernel_rfl
theorem zero64_at (j : Nat) (hj : j < 23) : (zero64.cells.getD j undef).oneCell' = true := by
  have := List.all_eq_true.1 zero64_one j (List.mem_range.2 hj)
  exact this
/-- a call of the examples -/
noncomputable def mkC (s n a d t : Int) : CallC :=
  { s := s, n := n, m := fun i => zero64.cells.getD (i.val + 2) undef, a := a, d := d, t := t, x := zero64.cells.getD 22 undef,
    one := fun i => zero64_at _ (by omega), onex := zero64_at _ (by decide) }
noncomputable def g0 : CallC := mkC 0 0 0 4 5
noncomputable def g1 : CallC := mkC 1 0 1 2 3
noncomputable def g2 : CallC := mkC 1 1 6 7 (-1)
noncomputable def g3 : CallC := mkC 2 0 2 (-1) (-1)
noncomputable def given4 : List CallC := [g0, g1, g2, g3]
theorem built0 : Try.prog.built 64 [(6, .int .i64 4), (7, .int .i64 5)] = some g0.cells.toArray := by kernel_rfl
theorem built1 : Try.prog.built 64 [(0, .int .i64 1), (5, .int .i64 1), (6, .int .i64 2), (7, .int .i64 3)] = some g1.cells.toArray := by kernel_rfl
theorem built2 : Try.prog.built 64 [(0, .int .i64 1), (1, .int .i64 1), (5, .int .i64 6), (6, .int .i64 7), (7, .int .i64 (-1))] = some g2.cells.toArray := by kernel_rfl
theorem built3 : Try.prog.built 64 [(0, .int .i64 2), (5, .int .i64 2), (6, .int .i64 (-1)), (7, .int .i64 (-1))] = some g3.cells.toArray := by kernel_rfl
theorem filled4 : Instr.fill (fun i => some (i * 23, 23)) ((Array.range (4 * 23)).map (zero64.cells[· % zero64.cells.size]!)) [(0, g0.val), (1, g1.val), (2, g2.val), (3, g3.val)] = some (allCells given4).toArray := by kernel_rfl
theorem filled2 : Instr.fill (fun i => some (i * 23, 23)) ((Array.range (2 * 23)).map (zero64.cells[· % zero64.cells.size]!)) [(0, g0.val), (1, g0.val)] = some (allCells [g0, g0]).toArray := by kernel_rfl

section
variable {P : Program}
theorem wpList_build_to {ops : Array Oper} {rest : List Oper} {o : Oper} {a : Act} {w : World} {Q : Exit → Act → World → Prop} (hg : o.guard = none) (t : TypeId) (parts : Array (Nat × Operand)) (ho : o.op = .build t parts)
    (l : List (Nat × Value)) (cs : Array Value) (hl : (parts.map fun (i, x) => (i, a.eval x)).toList = l) (hb : P.built t l = some cs)
    (h : wpList P ops Q rest (a.put o.dst (.agg cs)) w) : wpList P ops Q (o :: rest) a w :=
  wpList_plain hg fun _ hK => by
    refine wp_build t parts ho (by rw [hl, hb]; rfl) ?_
    rw [hl, hb]
    exact hK _ _ h
/-- a slice literal of structs: a row of the call's own -/
theorem wpList_slice_own {ops : Array Oper} {rest : List Oper} {o : Oper} {a : Act} {w : World} {Q : Exit → Act → World → Prop} (hgd : o.guard = none) (t e : TypeId) (len : Nat) (parts : Array (Nat × Operand)) (ho : o.op = .buildSlice t len parts)
    (z : Value) (size bytes : Nat) (ht : P.underlying t = some (.slice e)) (hinfo : (P.info? e).map (fun i => (i.zero, i.size, i.bytes)) = some (some z, size, bytes))
    (l : List (Nat × Value)) (xs : List Value) (hl : (parts.map fun (i, x) => (i, a.eval x)).toList = l)
    (hf : Instr.fill (fun i => some (i * size, size)) ((Array.range (len * size)).map (z.cells[· % z.cells.size]!)) l = some xs.toArray)
    (hxs : xs.length = len * size) (hsm : ¬ len * size > 2 ^ 24) (hp : ¬ len * size = 0) (hm : len ≤ maxLen)
    (h : ∀ w', w'.ownsRow w.heap.size e size (.slice (some ⟨w.heap.size, 0, none⟩) len len) len xs → RowKit.Below w.heap.size w w' → wpList P ops Q rest (a.put o.dst (.slice (some ⟨w.heap.size, 0, none⟩) len len)) w') : wpList P ops Q (o :: rest) a w := by
  obtain ⟨i, hi, hz, h4, h5⟩ := info_parts hinfo
  subst h4
  refine wpList_buildSlice hgd t e len parts ho xs.toArray i z ht hi hz hsm hp (by rw [hl]; exact hf) ?_
  refine h _ ⟨hxs, .inr ⟨w.heap.size, len, xs.toArray, rfl, Nat.le_refl _, heap_alloc_new w _, Nat.le_refl _, hm, by simpa using hxs, ?_⟩⟩ (below1 w _)
  rw [List.take_of_length_le (by simp [hxs])]
end

theorem calls_alloc (l : List CallC) (w : World) (hl : l.length ≤ maxLen) : CallsAt (w.alloc (.cells (allCells l).toArray 64)) (w.alloc (.cells (allCells l).toArray 64)).heap.size (some ⟨w.heap.size, 0, none⟩) l :=
  CallsAt.of_owns (base := w.heap.size) (n := l.length) (cap := l.length) ⟨allCells_length l, .inr ⟨w.heap.size, l.length, (allCells l).toArray, rfl, Nat.le_refl _, heap_alloc_new w _, Nat.le_refl _, hl, by simp [allCells_length], by rw [List.take_of_length_le (by simp [allCells_length])]⟩⟩

set_option maxRecDepth 100000 in
theorem given_any (w : World) : Calls Try.prog 46 #[] w fun e w' => ∃ g, e = .returned (.slice (some ⟨g, 0, none⟩) 4 4) ∧ CallsAt w' w'.heap.size (some ⟨g, 0, none⟩) given4 ∧ RowKit.Below w.heap.size w w' := by
  have HC := Lib.hid (calls_alloc given4 w (by decide))
  go_enter Try.func46, Try.ntmps46
  go_wp2_with fail
  go_ret
  exact ⟨_, rfl, HC.out, below1 _ _⟩
end Go.Proofs.Ytnmhmabifeapkaa.Ord
