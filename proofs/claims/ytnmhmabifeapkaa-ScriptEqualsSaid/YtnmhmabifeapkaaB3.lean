/- Laws for regions that draw their order, whose operations read and whose callees make memory: structs loaded in them; ints as slices. -/
import Derived.Test.YtnmhmabifeapkaaB2
import Derived.Lib.QuietBelow
namespace Go.Proofs.Ytnmhmabifeapkaa.Ord
open Go.RowKit Go.Sort
set_option linter.unusedVariables false

section
variable {P : Program}

theorem qk_load_agg {ops : Array Oper} {C : World → Prop} {Q : Act → Prop} {a : Act} {o : Oper} {rest : List Oper} (hgd : o.guard = none) (ty : TypeId) (x : Operand) (ho : o.op = .load ty x)
    (ad : Addr) (hx : a.eval x = .pointer (some ad)) (cs : List Value) (d : TypeDesc) (hc : ∀ W, C W → CellsAt W ad cs)
    (hu : P.underlying ty = some d) (hd : (match d with | .struct _ | .array _ _ => true | _ => false) = true) (hi : (P.info? ty).map (·.size) = some cs.length)
    (h : wpQuiet P ops C Q rest (a.put o.dst (.agg cs.toArray))) : wpQuiet P ops C Q (o :: rest) a := by
  refine wpQuiet_step fun K hK => ?_
  rw [if_pos (by simp [Region.wanted, hgd])]
  refine ⟨.agg cs.toArray, fun W hW => ?_, hK _ h⟩
  unfold Oper.quietAt execOp
  simp only [ho, hx, Instr.loadAt, Instr.sureAddr, Sem.run_bind, Sem.run_pure, Result.andThen_ok, run_loadVar_at W ad ty cs d (hc W hW) hu hd hi]
  exact ⟨rfl, rfl⟩

theorem CellsAt.regrown {w : World} {a : Addr} {cs : List Value} (h : CellsAt w a cs) : ∀ W, (∃ p : Regrown, W = grow (redrawn w p.d) p.os) → CellsAt W a cs := by
  rintro W ⟨p, rfl⟩ j v hj
  exact cell_regrown (h j v hj) _ _

/-- behind such a region: the world is some world in which nothing of the old has turned -/
theorem regrown_below {w W : World} (h : ∃ p : Regrown, W = grow (redrawn w p.d) p.os) : Below w.heap.size w W := by
  obtain ⟨p, rfl⟩ := h
  exact below_regrown w _ _
end

/-- a slice of ints that lies below block B -/
def IntsAt (w : World) (B : Nat) (A : Option Addr) (xs : List Int) : Prop :=
  ∀ i, i < xs.length → ∃ b off, A = some ⟨b, off, none⟩ ∧ b < B ∧ ∀ x, xs[i]? = some x → w.cell? ⟨b, off + i, none⟩ = some (.int .i64 x)

theorem IntsAt.below {B B' : Nat} {w w' : World} {A : Option Addr} {l : List Int} (h : IntsAt w B A l) (hb : Below B' w w') (hB : B ≤ B') : IntsAt w' B A l := by
  intro i hi
  obtain ⟨b, off, h1, h2, h3⟩ := h i hi
  exact ⟨b, off, h1, h2, fun c hc => (hb.cell (p := ⟨b, off + i, none⟩) (by show b < B'; omega)).trans (h3 c hc)⟩

theorem IntsAt.mono {B B' : Nat} {w : World} {A : Option Addr} {l : List Int} (h : IntsAt w B A l) (hB : B ≤ B') : IntsAt w B' A l := by
  intro i hi
  obtain ⟨b, off, h1, h2, h3⟩ := h i hi
  exact ⟨b, off, h1, by omega, h3⟩
theorem CallsAt.mono {B B' : Nat} {w : World} {A : Option Addr} {l : List CallC} (h : CallsAt w B A l) (hB : B ≤ B') : CallsAt w B' A l := by
  intro i hi
  obtain ⟨b, off, h1, h2, h3⟩ := h i hi
  exact ⟨b, off, h1, by omega, h3⟩

/-- what the call owns is a slice of ints -/
theorem IntsAt.of_owns {w : World} {base : Nat} {e : TypeId} {A : Option Addr} {n cap : Nat} {xs : List Int} (h : w.ownsRow base e 1 (.slice A n cap) n (xs.map (Value.int .i64))) : IntsAt w w.heap.size A xs := by
  intro i hi
  rcases h.2 with ⟨he, hn⟩ | ⟨g, cap', cur, he, hg, hh, r⟩
  · have := h.1; simp at this; omega
  · cases he
    refine ⟨g, 0, rfl, (Array.getElem?_eq_some_iff.1 hh).1, fun x hx => ?_⟩
    have := h.cells (g := g) rfl i (.int .i64 x) (by simp [hx])
    have e1 : ((⟨g, 0, none⟩ : Addr).add i) = ⟨g, 0 + i, none⟩ := by unfold Addr.add; split <;> simp_all
    rwa [e1] at this

theorem owns_len {w : World} {base : Nat} {e : TypeId} {v : Value} {n : Nat} {ys : List Value} (h : w.ownsRow base e 1 v n ys) : ∃ A cap, v = .slice A n cap := by
  rcases h.2 with ⟨he, rfl⟩ | ⟨g, cap', cur, he, _⟩
  · exact ⟨_, _, he⟩
  · exact ⟨_, _, he⟩
end Go.Proofs.Ytnmhmabifeapkaa.Ord
