/- A fresh row of calls, written call by call. -/
import Derived.Test.YtnmhmabifeapkaaA17
import Derived.Lib.LazyBuf
import Derived.Deep.OwnRows
import Derived.Deep.MidRow
import Derived.Laws.MakeOwn
namespace Go.Proofs.Ytnmhmabifeapkaa.Ord
open Go.RowKit
set_option linter.unusedVariables false

section
variable {P : Program}
theorem wpList_make_row {ops : Array Oper} {rest : List Oper} {o : Oper} {a : Act} {w : World} {Q : Exit → Act → World → Prop} (hgd : o.guard = none) (t : TypeId) (x y : Operand) (ho : o.op = .makeSlice t x y)
    (e : TypeId) (z : Value) (size bytes n : Nat) (ht : P.underlying t = some (.slice e)) (hinfo : (P.info? e).map (fun i => (i.zero, i.size, i.bytes)) = some (some z, size, bytes))
    (hx : a.eval x = .int .i64 n) (hy : a.eval y = .int .i64 n) (hb : bytes * n ≤ 281474976710656) (hn : n ≤ 9223372036854775807)
    (h : ∀ w', w' = w.alloc (.cells (madeCells z.cells (n * size)) e) → wpList P ops Q rest (a.put o.dst (.slice (some ⟨w.heap.size, 0, none⟩) n n)) w') : wpList P ops Q (o :: rest) a w := by
  obtain ⟨i, hi, hz, h4, h5⟩ := info_parts hinfo
  subst h4 h5
  have hr := run_make (P := P) w t e i z ht hi hz .i64 .i64 n n (by omega) (Int.le_refl _) (by rw [← Int.natCast_mul]; omega) (by omega)
  simp only [Int.toNat_natCast] at hr
  refine wpList_plain hgd fun _ hK => ?_
  unfold Oper.wp execOp
  simp only [ho, hx, hy, Sem.run_bind, hr, Result.andThen_ok]
  exact hK _ _ (h _ rfl)

theorem wpList_store_at {ops : Array Oper} {rest : List Oper} {op : Oper} {a : Act} {w : World} {Q : Exit → Act → World → Prop} (hgd : op.guard = none) (ty : TypeId) (x y : Operand) (ho : op.op = .store ty x y)
    (b o : Nat) (cells : Array Value) (hx : a.eval x = .pointer (some ⟨b, o, none⟩)) (hy : a.eval y = .agg cells)
    (ht : w.there b o cells.size) (hi : (P.info? ty).map (·.size) = some cells.size) (h1 : cells.all (·.oneCell') = true)
    (h : ∀ w', w' = w.setCells b o cells.toList → wpList P ops Q rest (a.put op.dst undef) w') : wpList P ops Q (op :: rest) a w :=
  wpList_store_mid hgd ty x y ho b o cells hx hy ht hi h1 (h _ rfl)
end

def updC (c : Nat → CallC) (i : Nat) (x : CallC) : Nat → CallC := fun j => if j = i then x else c j
def cellF (c : Nat → CallC) (q : Nat) : Value := (c (q / 23)).cells.getD (q % 23) undef
def RowC (w : World) (L N : Nat) (c : Nat → CallC) : Prop := w.rowIs L 64 (N * 23) (cellF c)

theorem RowC.at {w : World} {L N : Nat} {c : Nat → CallC} (h : RowC w L N c) {j : Nat} (hj : j < N) : CellsAt w ⟨L, j * 23, none⟩ (c j).cells := by
  intro q v hq
  have hq2 : q < 23 := by have := (List.getElem?_eq_some_iff.1 hq).1; rwa [cells_len] at this
  rw [Addr.add_mid, World.rowIs.cell h (i := j * 23 + q) (by omega)]
  unfold cellF
  rw [show (j * 23 + q) / 23 = j by omega, show (j * 23 + q) % 23 = q by omega]
  simp [List.getD, hq]
theorem RowC.calls {w : World} {L N : Nat} {c : Nat → CallC} (h : RowC w L N c) : CallsAt w w.heap.size (some ⟨L, 0, none⟩) ((List.range N).map c) := by
  intro i hi
  simp only [List.length_map, List.length_range] at hi
  refine ⟨L, 0, rfl, World.rowIs.lt h, fun x hx => ?_⟩
  rw [List.getElem?_map, List.getElem?_range hi] at hx
  simp at hx
  subst hx
  rw [Nat.zero_add]
  exact h.at hi
theorem RowC.there {w : World} {L N : Nat} {c : Nat → CallC} (h : RowC w L N c) {i : Nat} (hi : i < N) : w.there L (i * 23) 23 := fun j hj =>
  ⟨by rw [World.rowIs.cell h (i := i * 23 + j) (by omega)]; rfl, World.rowIs.frozen h _⟩
theorem RowC.store {w : World} {L N : Nat} {c : Nat → CallC} (h : RowC w L N c) (i : Nat) (x : CallC) : RowC (w.setCells L (i * 23) x.cells) L N (updC c i x) := by
  refine World.rowIs.congr (rowIs_setCells x.cells (i * 23) w (cellF c) h) fun j hj => ?_
  rw [cells_len]
  unfold cellF updC
  by_cases hc : i * 23 ≤ j ∧ j < i * 23 + 23
  · have e1 : j / 23 = i := by omega
    have e2 : j - i * 23 = j % 23 := by omega
    rw [if_pos hc, if_pos e1, e2]
    have : j % 23 < x.cells.length := by rw [cells_len]; omega
    simp [List.getD, List.getElem?_eq_getElem this]
  · have e1 : ¬ j / 23 = i := by omega
    rw [if_neg hc, if_neg e1]
theorem RowC.done {w : World} {L N : Nat} {c : Nat → CallC} (h : RowC w L N c) (i : Nat) (d : Int) : RowC (w.setCell ⟨L, i * 23 + 20, none⟩ (.int .i64 d)) L N (updC c i { c i with d := d }) := by
  refine World.rowIs.congr (World.rowIs.set h (i * 23 + 20) (.int .i64 d)) fun j hj => ?_
  unfold cellF updC
  by_cases e1 : j / 23 = i
  · rw [if_pos e1, e1]
    have hm : j % 23 < 23 := Nat.mod_lt _ (by decide)
    have hj2 : j = i * 23 + j % 23 := by omega
    generalize hq : j % 23 = q at *
    subst hj2
    clear hq e1 hj
    match q, hm with
    | 20, _ => rw [if_pos rfl]; rfl
    | 0, _ => rw [if_neg (by omega)]; rfl
    | 1, _ => rw [if_neg (by omega)]; rfl
    | 2, _ => rw [if_neg (by omega)]; rfl
    | 3, _ => rw [if_neg (by omega)]; rfl
    | 4, _ => rw [if_neg (by omega)]; rfl
    | 5, _ => rw [if_neg (by omega)]; rfl
    | 6, _ => rw [if_neg (by omega)]; rfl
    | 7, _ => rw [if_neg (by omega)]; rfl
    | 8, _ => rw [if_neg (by omega)]; rfl
    | 9, _ => rw [if_neg (by omega)]; rfl
    | 10, _ => rw [if_neg (by omega)]; rfl
    | 11, _ => rw [if_neg (by omega)]; rfl
    | 12, _ => rw [if_neg (by omega)]; rfl
    | 13, _ => rw [if_neg (by omega)]; rfl
    | 14, _ => rw [if_neg (by omega)]; rfl
    | 15, _ => rw [if_neg (by omega)]; rfl
    | 16, _ => rw [if_neg (by omega)]; rfl
    | 17, _ => rw [if_neg (by omega)]; rfl
    | 18, _ => rw [if_neg (by omega)]; rfl
    | 19, _ => rw [if_neg (by omega)]; rfl
    | 21, _ => rw [if_neg (by omega)]; rfl
    | 22, _ => rw [if_neg (by omega)]; rfl
    | k + 23, h => exact absurd h (by omega)
  · rw [if_neg (by omega), if_neg e1]

noncomputable def zeroC : CallC := mkC 0 0 0 0 0
theorem zeroC_cells : zero64.cells = zeroC.cells.toArray := by kernel_rfl
theorem RowC.made (w : World) (N : Nat) : RowC (w.alloc (.cells (madeCells zero64.cells (N * 23)) 64)) w.heap.size N (fun _ => zeroC) := by
  have := World.rowIs_alloc w (madeCells zero64.cells (N * 23)) 64 (cellF fun _ => zeroC) (fun i hi => by
    rw [size_madeCells] at hi
    unfold madeCells cellF
    rw [zeroC_cells]
    have h23 : zeroC.cells.toArray.size = 23 := by rw [List.size_toArray, cells_len]
    have hl : i % 23 < zeroC.cells.length := by rw [cells_len]; exact Nat.mod_lt _ (by decide)
    rw [Array.getElem?_map, Array.getElem?_range, if_pos hi, Option.map_some, h23]
    simp [List.getD, hl])
  rwa [size_madeCells] at this

/-- the calls of 'OrderFulls' -/
noncomputable def fullC (d i : Nat) : CallC := mkC ((i % 2 : Nat) : Int) ((i / 2 : Nat) : Int) i (if i < d then 5000 + i else -1) (-1)
theorem builtF (s n a : Int) : Try.prog.built 64 [(0, .int .i64 s), (1, .int .i64 n), (5, .int .i64 a), (6, .int .i64 (-1)), (7, .int .i64 (-1))] = some (mkC s n a (-1) (-1)).cells.toArray := by kernel_rfl

theorem owns_setCells {base : Nat} {e : TypeId} {size : Nat} {v : Value} {n : Nat} {xs : List Value} {L : Nat} (hL : L < base) : ∀ (vs : List Value) (o : Nat) (w : World), w.ownsRow base e size v n xs → (w.setCells L o vs).ownsRow base e size v n xs
  | [], _, _, h => h
  | v :: r, o, w, h => owns_setCells hL r (o + 1) _ (ownsRow_setCell_below h (by exact hL) v)
theorem size_setCells (L : Nat) : ∀ (vs : List Value) (o : Nat) (w : World), (w.setCells L o vs).heap.size = w.heap.size
  | [], _, _ => rfl
  | v :: r, o, w => by rw [World.setCells, size_setCells L r]; simp
end Go.Proofs.Ytnmhmabifeapkaa.Ord
