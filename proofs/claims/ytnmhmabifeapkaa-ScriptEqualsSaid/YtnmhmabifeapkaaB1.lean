/- Laws of the walk that this seat's texts share: a struct loaded from any address. -/
import Derived.Test.YtnmhmabifeapkaaChecked
import Derived.WalkKit
import Derived.BigQuiet
import Derived.Outline
import Derived.Lib.Hide
namespace Go.Proofs.Ytnmhmabifeapkaa.Ord
open Go.RowKit
set_option linter.unusedVariables false

section
variable {P : Program}

/-- the cells from an address on are a list -/
def CellsAt (w : World) (a : Addr) (cs : List Value) : Prop := ∀ j v, cs[j]? = some v → w.cell? (a.add j) = some v

theorem CellsAt.below {B : Nat} {w w' : World} {a : Addr} {cs : List Value} (h : CellsAt w a cs) (hb : Below B w w') (ha : a.block < B) : CellsAt w' a cs := by
  intro j v hj
  have := h j v hj
  rw [hb.cell (p := a.add j) (by unfold Addr.add; split <;> exact ha)]
  exact this

theorem run_loadVar_at (w : World) (ad : Addr) (ty : TypeId) (cs : List Value) (d : TypeDesc) (hc : CellsAt w ad cs)
    (hu : P.underlying ty = some d) (hd : (match d with | .struct _ | .array _ _ => true | _ => false) = true) (hi : (P.info? ty).map (·.size) = some cs.length) :
    (loadVar ty ad).run P w = .ok (.agg cs.toArray) w := by
  have hl : (loadCells ad cs.length).run P w = .ok cs.toArray w := run_loadCells_list (P := P) w ad cs hc
  cases hq : P.info? ty with
  | none => simp [hq] at hi
  | some i =>
    have hs : i.size = cs.length := by simpa [hq] using hi
    have hagg : (isAgg ty).run P w = .ok true w := by
      unfold isAgg
      rw [Sem.run_bind, run_underlying hu w]
      cases d <;> simp_all
    simp [loadVar, Sem.run_bind, hagg, sizeOf, typeInfo, hq, hs, hl]

theorem wp_load_agg {o : Oper} {a : Act} {w : World} {K : Act → World → Prop} {Q : Exit → Act → World → Prop} (ty : TypeId) (x : Operand) (ho : o.op = .load ty x)
    (ad : Addr) (hx : a.eval x = .pointer (some ad)) (cs : List Value) (d : TypeDesc) (hc : CellsAt w ad cs)
    (hu : P.underlying ty = some d) (hd : (match d with | .struct _ | .array _ _ => true | _ => false) = true) (hi : (P.info? ty).map (·.size) = some cs.length)
    (h : K (a.put o.dst (.agg cs.toArray)) w) : o.wp P a w K Q := by
  unfold Oper.wp execOp
  simp only [ho, hx, Instr.loadAt, Instr.sureAddr, Sem.run_bind, Sem.run_pure, Result.andThen_ok, run_loadVar_at w ad ty cs d hc hu hd hi]
  exact h

theorem wpList_load_agg {ops : Array Oper} {rest : List Oper} {o : Oper} {a : Act} {w : World} {Q : Exit → Act → World → Prop} (hgd : o.guard = none) (ty : TypeId) (x : Operand) (ho : o.op = .load ty x)
    (ad : Addr) (hx : a.eval x = .pointer (some ad)) (cs : List Value) (d : TypeDesc) (hc : CellsAt w ad cs)
    (hu : P.underlying ty = some d) (hd : (match d with | .struct _ | .array _ _ => true | _ => false) = true) (hi : (P.info? ty).map (·.size) = some cs.length)
    (h : wpList P ops Q rest (a.put o.dst (.agg cs.toArray)) w) : wpList P ops Q (o :: rest) a w :=
  wpList_plain hgd fun _ hK => wp_load_agg ty x ho ad hx cs d hc hu hd hi (hK _ _ h)

theorem setRow_alloc (w : World) (old cs : Array Value) (t : TypeId) : (w.alloc (.cells old t)).setRow w.heap.size cs = w.alloc (.cells cs t) := by
  unfold World.setRow World.alloc
  congr 1
  apply Array.ext_getElem?
  intro k
  simp only [Array.getElem?_modify, Array.getElem?_push]
  by_cases hk : k = w.heap.size
  · subst hk; simp
  · simp [hk, Ne.symm hk]

/-- a struct stored into the block that was just made for it -/
theorem wpList_store_new {ops : Array Oper} {rest : List Oper} {o : Oper} {a : Act} {w : World} {Q : Exit → Act → World → Prop} (hgd : o.guard = none) (ty : TypeId) (x y : Operand) (ho : o.op = .store ty x y)
    (old cells : Array Value) (t : TypeId) (g : Nat) (hx : a.eval x = .pointer (some ⟨g, 0, none⟩)) (hg : g = w.heap.size) (hy : a.eval y = .agg cells)
    (hi : (P.info? ty).map (·.size) = some cells.size) (hs : old.size = cells.size) (h1 : cells.all (·.oneCell') = true)
    (h : wpList P ops Q rest (a.put o.dst undef) (w.alloc (.cells cells t))) : wpList P ops Q (o :: rest) a (w.alloc (.cells old t)) :=
  wpList_plain hgd fun _ hK => by
    subst hg
    have hr := run_storeVar_row (P := P) (w.alloc (.cells old t)) w.heap.size t ty old cells (heap_alloc_new w _) hi hs h1
    rw [setRow_alloc] at hr
    unfold Oper.wp execOp
    simp only [ho, hx, hy, Instr.storeAt, Instr.sureAddr, Sem.run_bind, Sem.run_pure, Result.andThen_ok, hr]
    exact hK _ _ h
end

/-- a call, as cells -/
structure CallC where
  s : Int
  n : Int
  m : Fin 17 → Value
  a : Int
  d : Int
  t : Int
  x : Value
  one : ∀ i, (m i).oneCell' = true
  onex : x.oneCell' = true

def CallC.cells (c : CallC) : List Value :=
  [.int .i64 c.s, .int .i64 c.n, c.m 0, c.m 1, c.m 2, c.m 3, c.m 4, c.m 5, c.m 6, c.m 7, c.m 8, c.m 9, c.m 10, c.m 11, c.m 12, c.m 13, c.m 14, c.m 15, c.m 16, .int .i64 c.a, .int .i64 c.d, .int .i64 c.t, c.x]

theorem CallC.oneCell (c : CallC) : ∀ v ∈ c.cells, v.oneCell' = true := by
  intro v hv
  simp only [CallC.cells, List.mem_cons, List.not_mem_nil, or_false] at hv
  rcases hv with rfl | rfl | rfl | rfl | rfl | rfl | rfl | rfl | rfl | rfl | rfl | rfl | rfl | rfl | rfl | rfl | rfl | rfl | rfl | rfl | rfl | rfl | rfl <;> first | rfl | exact c.one _ | exact c.onex

theorem CallC.allOne (c : CallC) : c.cells.toArray.all (·.oneCell') = true := by
  rw [Array.all_eq_true_iff_forall_mem]
  intro v hv
  exact c.oneCell v (by simpa using hv)

theorem callSize (c : CallC) : (Try.prog.info? 64).map (·.size) = some c.cells.length := by kernel_rfl
theorem callSizeA (c : CallC) : (Try.prog.info? 64).map (·.size) = some c.cells.toArray.size := by kernel_rfl

/-- a slice of calls that lies below block B -/
def CallsAt (w : World) (B : Nat) (A : Option Addr) (l : List CallC) : Prop :=
  ∀ i, i < l.length → ∃ b off, A = some ⟨b, off, none⟩ ∧ b < B ∧ ∀ c, l[i]? = some c → CellsAt w ⟨b, off + i * 23, none⟩ c.cells

theorem CallsAt.below {B B' : Nat} {w w' : World} {A : Option Addr} {l : List CallC} (h : CallsAt w B A l) (hb : Below B' w w') (hB : B ≤ B') : CallsAt w' B A l := by
  intro i hi
  obtain ⟨b, off, h1, h2, h3⟩ := h i hi
  exact ⟨b, off, h1, h2, fun c hc => (h3 c hc).below hb (by show b < B'; omega)⟩

end Go.Proofs.Ytnmhmabifeapkaa.Ord
