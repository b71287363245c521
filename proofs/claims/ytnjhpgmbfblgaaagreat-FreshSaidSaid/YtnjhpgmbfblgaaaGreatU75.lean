/- Walk of the law. -/
import Derived.Test.YtnjhpgmbfblgaaaGreatU74
import Derived.Test.YtnjhpgmbfblgaaaGreatU67
import Derived.Test.YtnjhpgmbfblgaaaGreatMU69
set_option linter.unusedVariables false
set_option linter.unusedSimpArgs false
namespace Go.Proofs.YtnjhpgmbfblgaaaGreat.Ord
open Go.RowKit
set_option maxRecDepth 100000
set_option maxHeartbeats 8000000
def CalsG (L : List (CallR × CallV)) : Prop := ∀ x ∈ L, (Rng x.1 /\ CmdSz x.1.cmd /\ RespSz x.1.resp) /\ IsT x.1.tim /\ CapI x.1 x.2
theorem CalsG.row {w : World} {A : Option Addr} {L : List (CallR × CallV)} (h : CalsG L) (hA : RowCO w w.heap.size A L) (hl : L.length <= 60) (hs : ∀ x ∈ L, Light x.1.cmd x.1.resp) : RowG w A L :=
 ⟨hA, fun x hx => callS_of (hs x hx) (h x hx).1.1, fun x hx => ⟨(h x hx).1.1, (h x hx).2.1⟩, fun x hx => (h x hx).2.2, by omega⟩
end Go.Proofs.YtnjhpgmbfblgaaaGreat.Ord
