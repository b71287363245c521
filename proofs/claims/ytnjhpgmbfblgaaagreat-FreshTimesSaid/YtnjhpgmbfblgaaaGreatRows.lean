/-
  No cell of these rows narrows 'for every input' (looked for: loops, veiled, ifaces, maps, wideKeys, modest, calm, conditions, laid).
  DERIVED. THE GIVEN ROWS OF THIS SEAT. 12 by the template 'for every input the law returns true; each argument reads behind the call as it read before'; 0 by the template 'total and deterministic' (their statements: YtnjhpgmbfblgaaaGreatTotals.lean).
  GIVEN WITH THE SEED: the statements are not yours to turn. If you find one false, say at which input.
  Laid BY PROGRAM, IN A SANDBOX (cutbox-rows.mjs): the forced cells as the released guide's own fill.sh prints them over the translation 78917b0f09f4865f… (all of the seat's roots in one cut). By AI agents, Wed Nov 11 2026. No macro, syntax, notation, axiom, sorry.
-/
import Derived.Test.YtnjhpgmbfblgaaaGreatChecked
import GoSem.Claim
import GoSem.ClaimJoined
import GoSem.ClaimMapViews
import Derived.JoinedTies
import Derived.KernelRfl
namespace Go.Proofs.YtnjhpgmbfblgaaaGreat
/- THE CELL 'sum', in the pinned program and in every row, IS THE sha256 OF THE DUMP (.gsa) THAT YtnjhpgmbfblgaaaGreatProg.lean LOADS. Nothing in Lean hashes anything: it is a label: what it is worth is what the hold of that sum in a sandbox is worth. -/
noncomputable def Tryz.pinned : Pinned := { name := "ytnjhpgmbfblgaaagreat", sum := "78917b0f09f4865faedc28782ff1c6c8ff7da7bf82965fde9f5f4bf808365d0d", checked := Tryz.checked }
namespace Rows
def none {H : Type} : Left H := { results := [], args := [] }

/-- 'tagcachelaw31.HistoryOf': WHATEVER THE INPUT: true; the input reads as it did. -/
def historyOfSpec : ChangeSpec := { name := "historyOf", fn := fun _ => fun
  | [d1, d2] => { results := [.lit (.bool true)], args := [d1, d2] }
  | _ => none }
def historyOfRow : OpenClaim := { program := "ytnjhpgmbfblgaaagreat", sum := "78917b0f09f4865faedc28782ff1c6c8ff7da7bf82965fde9f5f4bf808365d0d", func := "tagcache/tagcachelaw31.HistoryOf", spec := "historyOf", unfollowed := true, recurses := true, apart := false }
def HistoryOfSaid : Prop := historyOfRow.holds Tryz.pinned (OpenSpec.ofChange historyOfSpec)

/-- ITS FALSE NEIGHBOUR: 'it returns false'. Refute it at one input. -/
def historyOfWrong : ChangeSpec := { name := "historyOf", fn := fun _ => fun
  | [d1, d2] => { results := [.lit (.bool false)], args := [d1, d2] }
  | _ => none }
def HistoryOfWrongFalsely : Prop := historyOfRow.holds Tryz.pinned (OpenSpec.ofChange historyOfWrong)

/-- 'tagcachelaw31.HistoryOutputs': WHATEVER THE INPUT: true; the input reads as it did. -/
def historyOutputsSpec : ChangeSpec := { name := "historyOutputs", fn := fun _ => fun
  | [d] => { results := [.lit (.bool true)], args := [d] }
  | _ => none }
def historyOutputsRow : OpenClaim := { program := "ytnjhpgmbfblgaaagreat", sum := "78917b0f09f4865faedc28782ff1c6c8ff7da7bf82965fde9f5f4bf808365d0d", func := "tagcache/tagcachelaw31.HistoryOutputs", spec := "historyOutputs", unfollowed := true, recurses := true, apart := false }
def HistoryOutputsSaid : Prop := historyOutputsRow.holds Tryz.pinned (OpenSpec.ofChange historyOutputsSpec)

/-- ITS FALSE NEIGHBOUR: 'it returns false'. Refute it at one input. -/
def historyOutputsWrong : ChangeSpec := { name := "historyOutputs", fn := fun _ => fun
  | [d] => { results := [.lit (.bool false)], args := [d] }
  | _ => none }
def HistoryOutputsWrongFalsely : Prop := historyOutputsRow.holds Tryz.pinned (OpenSpec.ofChange historyOutputsWrong)

/-- 'tagcachelaw31.HistoryValid': WHATEVER THE INPUT: true; the input reads as it did. -/
def historyValidSpec : ChangeSpec := { name := "historyValid", fn := fun _ => fun
  | [d1, d2, d3] => { results := [.lit (.bool true)], args := [d1, d2, d3] }
  | _ => none }
def historyValidRow : OpenClaim := { program := "ytnjhpgmbfblgaaagreat", sum := "78917b0f09f4865faedc28782ff1c6c8ff7da7bf82965fde9f5f4bf808365d0d", func := "tagcache/tagcachelaw31.HistoryValid", spec := "historyValid", unfollowed := true, recurses := true, apart := false }
def HistoryValidSaid : Prop := historyValidRow.holds Tryz.pinned (OpenSpec.ofChange historyValidSpec)

/-- ITS FALSE NEIGHBOUR: 'it returns false'. Refute it at one input. -/
def historyValidWrong : ChangeSpec := { name := "historyValid", fn := fun _ => fun
  | [d1, d2, d3] => { results := [.lit (.bool false)], args := [d1, d2, d3] }
  | _ => none }
def HistoryValidWrongFalsely : Prop := historyValidRow.holds Tryz.pinned (OpenSpec.ofChange historyValidWrong)

/-- 'tagcachelaw34.FreshChecks': WHATEVER THE INPUT: true; the input reads as it did. -/
def freshChecksSpec : ChangeSpec := { name := "freshChecks", fn := fun _ => fun
  | [d1, d2] => { results := [.lit (.bool true)], args := [d1, d2] }
  | _ => none }
def freshChecksRow : OpenClaim := { program := "ytnjhpgmbfblgaaagreat", sum := "78917b0f09f4865faedc28782ff1c6c8ff7da7bf82965fde9f5f4bf808365d0d", func := "tagcache/tagcachelaw34.FreshChecks", spec := "freshChecks", unfollowed := true, recurses := true, apart := false }
def FreshChecksSaid : Prop := freshChecksRow.holds Tryz.pinned (OpenSpec.ofChange freshChecksSpec)

/-- ITS FALSE NEIGHBOUR: 'it returns false'. Refute it at one input. -/
def freshChecksWrong : ChangeSpec := { name := "freshChecks", fn := fun _ => fun
  | [d1, d2] => { results := [.lit (.bool false)], args := [d1, d2] }
  | _ => none }
def FreshChecksWrongFalsely : Prop := freshChecksRow.holds Tryz.pinned (OpenSpec.ofChange freshChecksWrong)

/-- 'tagcachelaw34.FreshSaid': WHATEVER THE INPUT: true; the input reads as it did. -/
def freshSaidSpec : ChangeSpec := { name := "freshSaid", fn := fun _ => fun
  | [d1, d2] => { results := [.lit (.bool true)], args := [d1, d2] }
  | _ => none }
def freshSaidRow : OpenClaim := { program := "ytnjhpgmbfblgaaagreat", sum := "78917b0f09f4865faedc28782ff1c6c8ff7da7bf82965fde9f5f4bf808365d0d", func := "tagcache/tagcachelaw34.FreshSaid", spec := "freshSaid", unfollowed := true, recurses := true, apart := false }
def FreshSaidSaid : Prop := freshSaidRow.holds Tryz.pinned (OpenSpec.ofChange freshSaidSpec)

/-- ITS FALSE NEIGHBOUR: 'it returns false'. Refute it at one input. -/
def freshSaidWrong : ChangeSpec := { name := "freshSaid", fn := fun _ => fun
  | [d1, d2] => { results := [.lit (.bool false)], args := [d1, d2] }
  | _ => none }
def FreshSaidWrongFalsely : Prop := freshSaidRow.holds Tryz.pinned (OpenSpec.ofChange freshSaidWrong)

/-- 'tagcachelaw34.FreshTimes': WHATEVER THE INPUT: true; the input reads as it did. -/
def freshTimesSpec : ChangeSpec := { name := "freshTimes", fn := fun _ => fun
  | [d1, d2, d3, d4, d5] => { results := [.lit (.bool true)], args := [d1, d2, d3, d4, d5] }
  | _ => none }
def freshTimesRow : OpenClaim := { program := "ytnjhpgmbfblgaaagreat", sum := "78917b0f09f4865faedc28782ff1c6c8ff7da7bf82965fde9f5f4bf808365d0d", func := "tagcache/tagcachelaw34.FreshTimes", spec := "freshTimes", unfollowed := true, recurses := true, apart := false }
def FreshTimesSaid : Prop := freshTimesRow.holds Tryz.pinned (OpenSpec.ofChange freshTimesSpec)

/-- ITS FALSE NEIGHBOUR: 'it returns false'. Refute it at one input. -/
def freshTimesWrong : ChangeSpec := { name := "freshTimes", fn := fun _ => fun
  | [d1, d2, d3, d4, d5] => { results := [.lit (.bool false)], args := [d1, d2, d3, d4, d5] }
  | _ => none }
def FreshTimesWrongFalsely : Prop := freshTimesRow.holds Tryz.pinned (OpenSpec.ofChange freshTimesWrong)

/-- 'tagcachelaw35.RoomChecks': WHATEVER THE INPUT: true; the input reads as it did. -/
def roomChecksSpec : ChangeSpec := { name := "roomChecks", fn := fun _ => fun
  | [d1, d2] => { results := [.lit (.bool true)], args := [d1, d2] }
  | _ => none }
def roomChecksRow : OpenClaim := { program := "ytnjhpgmbfblgaaagreat", sum := "78917b0f09f4865faedc28782ff1c6c8ff7da7bf82965fde9f5f4bf808365d0d", func := "tagcache/tagcachelaw35.RoomChecks", spec := "roomChecks", unfollowed := true, recurses := true, apart := false }
def RoomChecksSaid : Prop := roomChecksRow.holds Tryz.pinned (OpenSpec.ofChange roomChecksSpec)

/-- ITS FALSE NEIGHBOUR: 'it returns false'. Refute it at one input. -/
def roomChecksWrong : ChangeSpec := { name := "roomChecks", fn := fun _ => fun
  | [d1, d2] => { results := [.lit (.bool false)], args := [d1, d2] }
  | _ => none }
def RoomChecksWrongFalsely : Prop := roomChecksRow.holds Tryz.pinned (OpenSpec.ofChange roomChecksWrong)

/-- 'tagcachelaw35.RoomSaid': WHATEVER THE INPUT: true; the input reads as it did. -/
def roomSaidSpec : ChangeSpec := { name := "roomSaid", fn := fun _ => fun
  | [d1, d2] => { results := [.lit (.bool true)], args := [d1, d2] }
  | _ => none }
def roomSaidRow : OpenClaim := { program := "ytnjhpgmbfblgaaagreat", sum := "78917b0f09f4865faedc28782ff1c6c8ff7da7bf82965fde9f5f4bf808365d0d", func := "tagcache/tagcachelaw35.RoomSaid", spec := "roomSaid", unfollowed := true, recurses := true, apart := false }
def RoomSaidSaid : Prop := roomSaidRow.holds Tryz.pinned (OpenSpec.ofChange roomSaidSpec)

/-- ITS FALSE NEIGHBOUR: 'it returns false'. Refute it at one input. -/
def roomSaidWrong : ChangeSpec := { name := "roomSaid", fn := fun _ => fun
  | [d1, d2] => { results := [.lit (.bool false)], args := [d1, d2] }
  | _ => none }
def RoomSaidWrongFalsely : Prop := roomSaidRow.holds Tryz.pinned (OpenSpec.ofChange roomSaidWrong)

/-- 'tagcachelaw35.RoomDemands': WHATEVER THE INPUT: true; the input reads as it did. -/
def roomDemandsSpec : ChangeSpec := { name := "roomDemands", fn := fun _ => fun
  | [d] => { results := [.lit (.bool true)], args := [d] }
  | _ => none }
def roomDemandsRow : OpenClaim := { program := "ytnjhpgmbfblgaaagreat", sum := "78917b0f09f4865faedc28782ff1c6c8ff7da7bf82965fde9f5f4bf808365d0d", func := "tagcache/tagcachelaw35.RoomDemands", spec := "roomDemands", unfollowed := true, recurses := true, apart := false }
def RoomDemandsSaid : Prop := roomDemandsRow.holds Tryz.pinned (OpenSpec.ofChange roomDemandsSpec)

/-- ITS FALSE NEIGHBOUR: 'it returns false'. Refute it at one input. -/
def roomDemandsWrong : ChangeSpec := { name := "roomDemands", fn := fun _ => fun
  | [d] => { results := [.lit (.bool false)], args := [d] }
  | _ => none }
def RoomDemandsWrongFalsely : Prop := roomDemandsRow.holds Tryz.pinned (OpenSpec.ofChange roomDemandsWrong)

/-- 'tagcachelaw33.LinearOrders': WHATEVER THE INPUT: true; the input reads as it did. -/
def linearOrdersSpec : ChangeSpec := { name := "linearOrders", fn := fun _ => fun
  | [d1, d2, d3] => { results := [.lit (.bool true)], args := [d1, d2, d3] }
  | _ => none }
def linearOrdersRow : OpenClaim := { program := "ytnjhpgmbfblgaaagreat", sum := "78917b0f09f4865faedc28782ff1c6c8ff7da7bf82965fde9f5f4bf808365d0d", func := "tagcache/tagcachelaw33.LinearOrders", spec := "linearOrders", inPlace := ["maps.clone"], unfollowed := true, recurses := true, apart := false }
def LinearOrdersSaid : Prop := linearOrdersRow.holds Tryz.pinned (OpenSpec.ofChange linearOrdersSpec)

/-- ITS FALSE NEIGHBOUR: 'it returns false'. Refute it at one input. -/
def linearOrdersWrong : ChangeSpec := { name := "linearOrders", fn := fun _ => fun
  | [d1, d2, d3] => { results := [.lit (.bool false)], args := [d1, d2, d3] }
  | _ => none }
def LinearOrdersWrongFalsely : Prop := linearOrdersRow.holds Tryz.pinned (OpenSpec.ofChange linearOrdersWrong)

/-- 'tagcachelaw33.LinearCommits': WHATEVER THE INPUT: true; the input reads as it did. -/
def linearCommitsSpec : ChangeSpec := { name := "linearCommits", fn := fun _ => fun
  | [d1, d2] => { results := [.lit (.bool true)], args := [d1, d2] }
  | _ => none }
def linearCommitsRow : OpenClaim := { program := "ytnjhpgmbfblgaaagreat", sum := "78917b0f09f4865faedc28782ff1c6c8ff7da7bf82965fde9f5f4bf808365d0d", func := "tagcache/tagcachelaw33.LinearCommits", spec := "linearCommits", inPlace := ["maps.clone"], unfollowed := true, recurses := true, apart := false }
def LinearCommitsSaid : Prop := linearCommitsRow.holds Tryz.pinned (OpenSpec.ofChange linearCommitsSpec)

/-- ITS FALSE NEIGHBOUR: 'it returns false'. Refute it at one input. -/
def linearCommitsWrong : ChangeSpec := { name := "linearCommits", fn := fun _ => fun
  | [d1, d2] => { results := [.lit (.bool false)], args := [d1, d2] }
  | _ => none }
def LinearCommitsWrongFalsely : Prop := linearCommitsRow.holds Tryz.pinned (OpenSpec.ofChange linearCommitsWrong)

/-- 'tagcachelaw33.LinearSearches': WHATEVER THE INPUT: true; the input reads as it did. -/
def linearSearchesSpec : ChangeSpec := { name := "linearSearches", fn := fun _ => fun
  | [d1, d2] => { results := [.lit (.bool true)], args := [d1, d2] }
  | _ => none }
def linearSearchesRow : OpenClaim := { program := "ytnjhpgmbfblgaaagreat", sum := "78917b0f09f4865faedc28782ff1c6c8ff7da7bf82965fde9f5f4bf808365d0d", func := "tagcache/tagcachelaw33.LinearSearches", spec := "linearSearches", inPlace := ["maps.clone"], unfollowed := true, recurses := true, apart := false }
def LinearSearchesSaid : Prop := linearSearchesRow.holds Tryz.pinned (OpenSpec.ofChange linearSearchesSpec)

/-- ITS FALSE NEIGHBOUR: 'it returns false'. Refute it at one input. -/
def linearSearchesWrong : ChangeSpec := { name := "linearSearches", fn := fun _ => fun
  | [d1, d2] => { results := [.lit (.bool false)], args := [d1, d2] }
  | _ => none }
def LinearSearchesWrongFalsely : Prop := linearSearchesRow.holds Tryz.pinned (OpenSpec.ofChange linearSearchesWrong)

/- THE SECOND FORM. 'bulk': how many values and letters a reading holds, each counted each time it is reached (what is shared counts as often as it is met; a slice's spare places count too). A statement '..UptoSaid' is the law's where the arguments, and the package variables that the reading takes, are together of bulk at most 1048576: NARROWER than '..Said'. Prove '..Said' where nothing that the law and all that it calls make is longer than what came in: it says more and counts as full. Else prove '..UptoSaid'. A law counts once. -/
mutual
def uptoBulk {H : Type} : DataW H → Nat
  | .lit (.string bytes) => bytes.length + 1
  | .lit _ => 1
  | .nil => 1
  | .ptr d => uptoBulk d + 1
  | .slice elems spare => uptoBulkAll elems + uptoBulkAll spare + 1
  | .agg parts => uptoBulkAll parts + 1
  | .iface _ d => uptoBulk d + 1
  | .map entries => uptoBulkEntries entries + 1
  | .held _ => 1
def uptoBulkAll {H : Type} : List (DataW H) → Nat
  | [] => 0
  | d :: r => uptoBulk d + uptoBulkAll r
def uptoBulkEntries {H : Type} : List (Lit × DataW H) → Nat
  | [] => 0
  | x :: r => uptoBulkEntry x + uptoBulkEntries r
def uptoBulkEntry {H : Type} : Lit × DataW H → Nat
  | (.string bytes, d) => bytes.length + uptoBulk d + 1
  | (_, d) => uptoBulk d + 1
 end
def uptoSmall : (H : Type) → List (DataW H) → Bool := fun _ ds => decide (uptoBulkAll ds ≤ 1048576)
def OpenSpec.upto (s : _root_.Go.ChangeSpec) : _root_.Go.OpenSpec := { _root_.Go.OpenSpec.ofChange s with cond := some uptoSmall }

/-- 'tagcachelaw31.HistoryOf', WHERE WHAT IT READS IS OF BULK AT MOST 1048576: true; the input reads as it did. -/
def historyOfUptoRow : OpenClaim := { program := "ytnjhpgmbfblgaaagreat", sum := "78917b0f09f4865faedc28782ff1c6c8ff7da7bf82965fde9f5f4bf808365d0d", func := "tagcache/tagcachelaw31.HistoryOf", spec := "historyOf", unfollowed := true, recurses := true, apart := false, narrowed := true }
def HistoryOfUptoSaid : Prop := historyOfUptoRow.holds Tryz.pinned (OpenSpec.upto historyOfSpec)

/-- 'tagcachelaw31.HistoryOutputs', WHERE WHAT IT READS IS OF BULK AT MOST 1048576: true; the input reads as it did. -/
def historyOutputsUptoRow : OpenClaim := { program := "ytnjhpgmbfblgaaagreat", sum := "78917b0f09f4865faedc28782ff1c6c8ff7da7bf82965fde9f5f4bf808365d0d", func := "tagcache/tagcachelaw31.HistoryOutputs", spec := "historyOutputs", unfollowed := true, recurses := true, apart := false, narrowed := true }
def HistoryOutputsUptoSaid : Prop := historyOutputsUptoRow.holds Tryz.pinned (OpenSpec.upto historyOutputsSpec)

/-- 'tagcachelaw31.HistoryValid', WHERE WHAT IT READS IS OF BULK AT MOST 1048576: true; the input reads as it did. -/
def historyValidUptoRow : OpenClaim := { program := "ytnjhpgmbfblgaaagreat", sum := "78917b0f09f4865faedc28782ff1c6c8ff7da7bf82965fde9f5f4bf808365d0d", func := "tagcache/tagcachelaw31.HistoryValid", spec := "historyValid", unfollowed := true, recurses := true, apart := false, narrowed := true }
def HistoryValidUptoSaid : Prop := historyValidUptoRow.holds Tryz.pinned (OpenSpec.upto historyValidSpec)

/-- 'tagcachelaw34.FreshChecks', WHERE WHAT IT READS IS OF BULK AT MOST 1048576: true; the input reads as it did. -/
def freshChecksUptoRow : OpenClaim := { program := "ytnjhpgmbfblgaaagreat", sum := "78917b0f09f4865faedc28782ff1c6c8ff7da7bf82965fde9f5f4bf808365d0d", func := "tagcache/tagcachelaw34.FreshChecks", spec := "freshChecks", unfollowed := true, recurses := true, apart := false, narrowed := true }
def FreshChecksUptoSaid : Prop := freshChecksUptoRow.holds Tryz.pinned (OpenSpec.upto freshChecksSpec)

/-- 'tagcachelaw34.FreshSaid', WHERE WHAT IT READS IS OF BULK AT MOST 1048576: true; the input reads as it did. -/
def freshSaidUptoRow : OpenClaim := { program := "ytnjhpgmbfblgaaagreat", sum := "78917b0f09f4865faedc28782ff1c6c8ff7da7bf82965fde9f5f4bf808365d0d", func := "tagcache/tagcachelaw34.FreshSaid", spec := "freshSaid", unfollowed := true, recurses := true, apart := false, narrowed := true }
def FreshSaidUptoSaid : Prop := freshSaidUptoRow.holds Tryz.pinned (OpenSpec.upto freshSaidSpec)

/-- 'tagcachelaw34.FreshTimes', WHERE WHAT IT READS IS OF BULK AT MOST 1048576: true; the input reads as it did. -/
def freshTimesUptoRow : OpenClaim := { program := "ytnjhpgmbfblgaaagreat", sum := "78917b0f09f4865faedc28782ff1c6c8ff7da7bf82965fde9f5f4bf808365d0d", func := "tagcache/tagcachelaw34.FreshTimes", spec := "freshTimes", unfollowed := true, recurses := true, apart := false, narrowed := true }
def FreshTimesUptoSaid : Prop := freshTimesUptoRow.holds Tryz.pinned (OpenSpec.upto freshTimesSpec)

/-- 'tagcachelaw35.RoomChecks', WHERE WHAT IT READS IS OF BULK AT MOST 1048576: true; the input reads as it did. -/
def roomChecksUptoRow : OpenClaim := { program := "ytnjhpgmbfblgaaagreat", sum := "78917b0f09f4865faedc28782ff1c6c8ff7da7bf82965fde9f5f4bf808365d0d", func := "tagcache/tagcachelaw35.RoomChecks", spec := "roomChecks", unfollowed := true, recurses := true, apart := false, narrowed := true }
def RoomChecksUptoSaid : Prop := roomChecksUptoRow.holds Tryz.pinned (OpenSpec.upto roomChecksSpec)

/-- 'tagcachelaw35.RoomSaid', WHERE WHAT IT READS IS OF BULK AT MOST 1048576: true; the input reads as it did. -/
def roomSaidUptoRow : OpenClaim := { program := "ytnjhpgmbfblgaaagreat", sum := "78917b0f09f4865faedc28782ff1c6c8ff7da7bf82965fde9f5f4bf808365d0d", func := "tagcache/tagcachelaw35.RoomSaid", spec := "roomSaid", unfollowed := true, recurses := true, apart := false, narrowed := true }
def RoomSaidUptoSaid : Prop := roomSaidUptoRow.holds Tryz.pinned (OpenSpec.upto roomSaidSpec)

/-- 'tagcachelaw35.RoomDemands', WHERE WHAT IT READS IS OF BULK AT MOST 1048576: true; the input reads as it did. -/
def roomDemandsUptoRow : OpenClaim := { program := "ytnjhpgmbfblgaaagreat", sum := "78917b0f09f4865faedc28782ff1c6c8ff7da7bf82965fde9f5f4bf808365d0d", func := "tagcache/tagcachelaw35.RoomDemands", spec := "roomDemands", unfollowed := true, recurses := true, apart := false, narrowed := true }
def RoomDemandsUptoSaid : Prop := roomDemandsUptoRow.holds Tryz.pinned (OpenSpec.upto roomDemandsSpec)

/-- 'tagcachelaw33.LinearOrders', WHERE WHAT IT READS IS OF BULK AT MOST 1048576: true; the input reads as it did. -/
def linearOrdersUptoRow : OpenClaim := { program := "ytnjhpgmbfblgaaagreat", sum := "78917b0f09f4865faedc28782ff1c6c8ff7da7bf82965fde9f5f4bf808365d0d", func := "tagcache/tagcachelaw33.LinearOrders", spec := "linearOrders", inPlace := ["maps.clone"], unfollowed := true, recurses := true, apart := false, narrowed := true }
def LinearOrdersUptoSaid : Prop := linearOrdersUptoRow.holds Tryz.pinned (OpenSpec.upto linearOrdersSpec)

/-- 'tagcachelaw33.LinearCommits', WHERE WHAT IT READS IS OF BULK AT MOST 1048576: true; the input reads as it did. -/
def linearCommitsUptoRow : OpenClaim := { program := "ytnjhpgmbfblgaaagreat", sum := "78917b0f09f4865faedc28782ff1c6c8ff7da7bf82965fde9f5f4bf808365d0d", func := "tagcache/tagcachelaw33.LinearCommits", spec := "linearCommits", inPlace := ["maps.clone"], unfollowed := true, recurses := true, apart := false, narrowed := true }
def LinearCommitsUptoSaid : Prop := linearCommitsUptoRow.holds Tryz.pinned (OpenSpec.upto linearCommitsSpec)

/-- 'tagcachelaw33.LinearSearches', WHERE WHAT IT READS IS OF BULK AT MOST 1048576: true; the input reads as it did. -/
def linearSearchesUptoRow : OpenClaim := { program := "ytnjhpgmbfblgaaagreat", sum := "78917b0f09f4865faedc28782ff1c6c8ff7da7bf82965fde9f5f4bf808365d0d", func := "tagcache/tagcachelaw33.LinearSearches", spec := "linearSearches", inPlace := ["maps.clone"], unfollowed := true, recurses := true, apart := false, narrowed := true }
def LinearSearchesUptoSaid : Prop := linearSearchesUptoRow.holds Tryz.pinned (OpenSpec.upto linearSearchesSpec)

end Rows
end Go.Proofs.YtnjhpgmbfblgaaaGreat
