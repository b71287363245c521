/- Facts for the law's known: literal slices of bytes and of steps; what parses says of them. -/
import Derived.Test.YtnmhmabifeapkaaR22
import Derived.Test.YtnmhmabifeapkaaR20
namespace Go.Proofs.Ytnmhmabifeapkaa.Ord
open Go.RowKit
set_option linter.unusedVariables false

theorem stepEq_refl (a : StepR) : stepEq a a = true := by simp [stepEq]
theorem stepsEq_refl (rs : List StepR) : stepsEq rs rs = true := stepsEq_yes rfl fun i _ => stepEq_refl _

/-- literal bytes -/
theorem byt_lit (w : World) (xs : List Int) (g n B : Nat) (hg : w.heap.size = g) (hB : g < B) (hn : xs.length = n) : Byt (w.alloc (.cells (xs.map (Value.int .u8)).toArray 5)) B (some ⟨g, 0, none⟩) n xs := by
  subst hg
  refine ⟨(fun h => by cases h), by omega, fun i hi => ⟨w.heap.size, 0, rfl, hB, fun x hx => ?_⟩⟩
  have hl : ((xs.map (Value.int .u8)).toArray)[i]? = some (.int .u8 x) := by simp [hx]
  unfold World.cell?
  simp only [heap_alloc_new, Nat.zero_add]
  exact hl
theorem datB_nil (w : World) (B : Nat) : DatB w B (.slice none 0 0) [] := ⟨fun y hy => by simp at hy, by simp, none, 0, rfl, Byt.nil _ _⟩
theorem datB_of {w : World} {B n c : Nat} {A : Option Addr} {xs : List Int} (h : Byt w B A c xs) (hn : xs.length = n) (h1 : (∀ y ∈ xs, 0 ≤ y ∧ y < 256) ∧ xs.length ≤ 10000) : DatB w B (.slice A n c) xs := by
  subst hn
  exact ⟨h1.1, h1.2, A, c, rfl, h⟩
/-- literal steps -/
theorem steps_lit (w : World) (ps : List (StepR × Value)) (g B : Nat) (hg : w.heap.size = g) (hB : g < B) (hd : ∀ p ∈ ps, DatB w w.heap.size p.2 p.1.d) : Steps (w.alloc (.cells (ps.flatMap stepC).toArray 35)) B (some ⟨g, 0, none⟩) (ps.map (·.1)) := by
  subst hg
  intro i r hi
  rw [List.getElem?_map] at hi
  obtain ⟨p, hp, rfl⟩ := Option.map_eq_some_iff.1 hi
  refine ⟨w.heap.size, 0, p.2, rfl, hB, fun j u hj => ?_, ((hd p (List.mem_iff_getElem?.2 ⟨i, hp⟩)).below (below1 w _) (Nat.le_refl _)).mono (by omega)⟩
  have hl := flat4 ps i p j u hp hj
  have ha : (⟨w.heap.size, 0 + i * 4, none⟩ : Addr).add j = ⟨w.heap.size, i * 4 + j, none⟩ := by rw [Addr.add_mid, Nat.zero_add]
  rw [ha]
  unfold World.cell?
  simp only [heap_alloc_new]
  simpa using hl
/-- steps in a row of one's own -/
theorem steps_row {w : World} {base g n c : Nat} {ps : List (StepR × Value)} (h : w.ownsRow base 35 4 (.slice (some ⟨g, 0, none⟩) n c) n (ps.flatMap stepC)) (hd : ∀ p ∈ ps, DatB w w.heap.size p.2 p.1.d) : Steps w w.heap.size (some ⟨g, 0, none⟩) (ps.map (·.1)) := by
  intro i r hi
  rw [List.getElem?_map] at hi
  obtain ⟨p, hp, rfl⟩ := Option.map_eq_some_iff.1 hi
  refine ⟨g, 0, p.2, rfl, (h.lt g rfl).2, fun j u hj => ?_, hd p (List.mem_iff_getElem?.2 ⟨i, hp⟩)⟩
  have hc := h.cells (g := g) rfl (i * 4 + j) u (flat4 ps i p j u hp hj)
  rw [Addr.add_mid] at hc ⊢
  rw [Nat.zero_add] at hc ⊢
  exact hc
/-- parses says yes -/
theorem parses_yes (A A' : Option Addr) (k m c c' : Nat) (xs : List Int) (rs : List StepR) (w : World) (hk : xs.length = k) (hm : rs.length = m) (hx : ∀ y ∈ xs, 0 ≤ y ∧ y < 256) (hl : k ≤ 4096) (hA : Byt w w.heap.size A c xs) (hAb : ∀ b off, A = some ⟨b, off, none⟩ → b < w.heap.size) (hp : ParseOk xs rs) (hd : ∀ r ∈ rs, BytD r)
    (hl' : m ≤ 5000) (hc' : m ≤ c') (hA' : Steps w w.heap.size A' rs) : Calls Try.prog 37 #[.slice A k c, .slice A' m c'] w fun e w' => e = .returned (.bool true) ∧ Below w.heap.size w w' :=
  (parses_any A A' k m c c' xs rs rs w hk hx hl hA hAb hp hd hm hl' hc' hA').mono fun e w' h => ⟨by rw [h.1, stepsEq_refl], h.2⟩

/-- what known keeps: the four steps that it names, and the bytes of the last -/
structure K30 (w : World) (B g1 g2 g3 g4 gd : Nat) : Prop where
  hB : B ≤ w.heap.size
  l1 : g1 < B
  l2 : g2 < B
  l3 : g3 < B
  l4 : g4 < B
  ld : gd < B
  c1 : CellsAt w ⟨g1, 0, none⟩ [.int .i64 1, .int .i64 0, .int .i64 0, .slice none 0 0]
  c2 : CellsAt w ⟨g2, 0, none⟩ [.int .i64 3, .int .i64 0, .int .i64 0, .slice none 0 0]
  c3 : CellsAt w ⟨g3, 0, none⟩ [.int .i64 3, .int .i64 1, .int .i64 0, .slice none 0 0]
  c4 : CellsAt w ⟨g4, 0, none⟩ [.int .i64 2, .int .i64 0, .int .i64 0, .slice (some ⟨gd, 0, none⟩) 4 4]
  d : Byt w B (some ⟨gd, 0, none⟩) 4 [3, 4, 1, 97]
theorem K30.below {w w' : World} {B B' g1 g2 g3 g4 gd : Nat} (h : K30 w B g1 g2 g3 g4 gd) (hb : Below B' w w') (hB : B ≤ B') : K30 w' B g1 g2 g3 g4 gd :=
  ⟨Nat.le_trans h.hB hb.size, h.l1, h.l2, h.l3, h.l4, h.ld, h.c1.below hb (Nat.lt_of_lt_of_le h.l1 hB), h.c2.below hb (Nat.lt_of_lt_of_le h.l2 hB), h.c3.below hb (Nat.lt_of_lt_of_le h.l3 hB), h.c4.below hb (Nat.lt_of_lt_of_le h.l4 hB), h.d.below hb hB⟩
theorem cells_lit (w : World) (l : List Value) (g : Nat) (t : TypeId) (hg : w.heap.size = g) : CellsAt (w.alloc (.cells l.toArray t)) ⟨g, 0, none⟩ l := by
  subst hg
  exact row_cells (row_list w l t) _ rfl fun i hi => rfl
end Go.Proofs.Ytnmhmabifeapkaa.Ord
