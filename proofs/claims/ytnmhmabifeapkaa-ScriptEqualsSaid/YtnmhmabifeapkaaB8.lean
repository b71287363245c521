/- A struct loaded inside a quiet region behind a guard that holds. -/
import Derived.Test.YtnmhmabifeapkaaB3
namespace Go.Proofs.Ytnmhmabifeapkaa.Ord
open Go.RowKit Go.Sort
set_option linter.unusedVariables false

section
variable {P : Program}
theorem qk_load_agg_want {ops : Array Oper} {C : World → Prop} {Q : Act → Prop} {a : Act} {o : Oper} {rest : List Oper} (ty : TypeId) (x : Operand) (ho : o.op = .load ty x)
    (ad : Addr) (hx : a.eval x = .pointer (some ad)) (cs : List Value) (d : TypeDesc) (hc : ∀ W, C W → CellsAt W ad cs)
    (hu : P.underlying ty = some d) (hd : (match d with | .struct _ | .array _ _ => true | _ => false) = true) (hi : (P.info? ty).map (·.size) = some cs.length)
    (hw : Region.wanted o (yielded ops a.tmps) = true)
    (h : wpQuiet P ops C Q rest (a.put o.dst (.agg cs.toArray))) : wpQuiet P ops C Q (o :: rest) a := by
  refine wpQuiet_step fun K hK => ?_
  rw [if_pos hw]
  refine ⟨.agg cs.toArray, fun W hW => ?_, hK _ h⟩
  unfold Oper.quietAt execOp
  simp only [ho, hx, Instr.loadAt, Instr.sureAddr, Sem.run_bind, Sem.run_pure, Result.andThen_ok, run_loadVar_at W ad ty cs d (hc W hW) hu hd hi]
  exact ⟨rfl, rfl⟩
end
end Go.Proofs.Ytnmhmabifeapkaa.Ord
