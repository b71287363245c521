/-
  No cell of these rows narrows 'for every input' (looked for: loops, veiled, ifaces, maps, wideKeys, modest, calm, conditions, laid).
  DERIVED. THE GIVEN ROWS OF THIS SEAT. 7 by the template 'for every input the law returns true; each argument reads behind the call as it read before'; 0 by the template 'total and deterministic' (their statements: YtnmhmabifeapkaaTotals.lean).
  GIVEN WITH THE SEED: the statements are not yours to turn. If you find one false, say at which input.
  Laid BY PROGRAM, IN A SANDBOX (cutbox-rows.mjs): the forced cells as the released guide's own fill.sh prints them over the translation f3db0d2f7d75395a… (all of the seat's roots in one cut). By AI agents, Wed Nov 11 2026. No macro, syntax, notation, axiom, sorry.
-/
import Derived.Test.YtnmhmabifeapkaaChecked
import GoSem.Claim
import GoSem.ClaimJoined
import GoSem.ClaimMapViews
import Derived.JoinedTies
import Derived.KernelRfl
namespace Go.Proofs.Ytnmhmabifeapkaa
/- THE CELL 'sum', in the pinned program and in every row, IS THE sha256 OF THE DUMP (.gsa) THAT YtnmhmabifeapkaaProg.lean LOADS. Nothing in Lean hashes anything: it is a label: what it is worth is what the hold of that sum in a sandbox is worth. -/
noncomputable def Try.pinned : Pinned := { name := "ytnmhmabifeapkaa", sum := "f3db0d2f7d75395a7187ce542e5c605892a9a85191fe344994d2a5c8608d2bbc", checked := Try.checked }
namespace Rows
def none {H : Type} : Left H := { results := [], args := [] }

/-- 'tagcachelaw30.ScriptParses': WHATEVER THE INPUT: true; the input reads as it did. -/
def scriptParsesSpec : ChangeSpec := { name := "scriptParses", fn := fun _ => fun
  | [d1, d2] => { results := [.lit (.bool true)], args := [d1, d2] }
  | _ => none }
def scriptParsesRow : OpenClaim := { program := "ytnmhmabifeapkaa", sum := "f3db0d2f7d75395a7187ce542e5c605892a9a85191fe344994d2a5c8608d2bbc", func := "tagcache/tagcachelaw30.ScriptParses", spec := "scriptParses", inPlace := ["internal/bytealg.MakeNoZero"], unfollowed := true, recurses := true, apart := false }
def ScriptParsesSaid : Prop := scriptParsesRow.holds Try.pinned (OpenSpec.ofChange scriptParsesSpec)

/-- ITS FALSE NEIGHBOUR: 'it returns false'. Refute it at one input. -/
def scriptParsesWrong : ChangeSpec := { name := "scriptParses", fn := fun _ => fun
  | [d1, d2] => { results := [.lit (.bool false)], args := [d1, d2] }
  | _ => none }
def ScriptParsesWrongFalsely : Prop := scriptParsesRow.holds Try.pinned (OpenSpec.ofChange scriptParsesWrong)

/-- 'tagcachelaw30.ScriptWrites': WHATEVER THE INPUT: true; the input reads as it did. -/
def scriptWritesSpec : ChangeSpec := { name := "scriptWrites", fn := fun _ => fun
  | [d] => { results := [.lit (.bool true)], args := [d] }
  | _ => none }
def scriptWritesRow : OpenClaim := { program := "ytnmhmabifeapkaa", sum := "f3db0d2f7d75395a7187ce542e5c605892a9a85191fe344994d2a5c8608d2bbc", func := "tagcache/tagcachelaw30.ScriptWrites", spec := "scriptWrites", inPlace := ["internal/bytealg.MakeNoZero"], unfollowed := true, recurses := true, apart := false }
def ScriptWritesSaid : Prop := scriptWritesRow.holds Try.pinned (OpenSpec.ofChange scriptWritesSpec)

/-- ITS FALSE NEIGHBOUR: 'it returns false'. Refute it at one input. -/
def scriptWritesWrong : ChangeSpec := { name := "scriptWrites", fn := fun _ => fun
  | [d] => { results := [.lit (.bool false)], args := [d] }
  | _ => none }
def ScriptWritesWrongFalsely : Prop := scriptWritesRow.holds Try.pinned (OpenSpec.ofChange scriptWritesWrong)

/-- 'tagcachelaw30.ScriptEquals': WHATEVER THE INPUT: true; the input reads as it did. -/
def scriptEqualsSpec : ChangeSpec := { name := "scriptEquals", fn := fun _ => fun
  | [d1, d2] => { results := [.lit (.bool true)], args := [d1, d2] }
  | _ => none }
def scriptEqualsRow : OpenClaim := { program := "ytnmhmabifeapkaa", sum := "f3db0d2f7d75395a7187ce542e5c605892a9a85191fe344994d2a5c8608d2bbc", func := "tagcache/tagcachelaw30.ScriptEquals", spec := "scriptEquals", inPlace := ["internal/bytealg.MakeNoZero"], unfollowed := true, recurses := true, apart := false }
def ScriptEqualsSaid : Prop := scriptEqualsRow.holds Try.pinned (OpenSpec.ofChange scriptEqualsSpec)

/-- ITS FALSE NEIGHBOUR: 'it returns false'. Refute it at one input. -/
def scriptEqualsWrong : ChangeSpec := { name := "scriptEquals", fn := fun _ => fun
  | [d1, d2] => { results := [.lit (.bool false)], args := [d1, d2] }
  | _ => none }
def ScriptEqualsWrongFalsely : Prop := scriptEqualsRow.holds Try.pinned (OpenSpec.ofChange scriptEqualsWrong)

/-- 'tagcachelaw32.OrderCommits': WHATEVER THE INPUT: true; the input reads as it did. -/
def orderCommitsSpec : ChangeSpec := { name := "orderCommits", fn := fun _ => fun
  | [d] => { results := [.lit (.bool true)], args := [d] }
  | _ => none }
def orderCommitsRow : OpenClaim := { program := "ytnmhmabifeapkaa", sum := "f3db0d2f7d75395a7187ce542e5c605892a9a85191fe344994d2a5c8608d2bbc", func := "tagcache/tagcachelaw32.OrderCommits", spec := "orderCommits", unfollowed := true, recurses := true, apart := false }
def OrderCommitsSaid : Prop := orderCommitsRow.holds Try.pinned (OpenSpec.ofChange orderCommitsSpec)

/-- ITS FALSE NEIGHBOUR: 'it returns false'. Refute it at one input. -/
def orderCommitsWrong : ChangeSpec := { name := "orderCommits", fn := fun _ => fun
  | [d] => { results := [.lit (.bool false)], args := [d] }
  | _ => none }
def OrderCommitsWrongFalsely : Prop := orderCommitsRow.holds Try.pinned (OpenSpec.ofChange orderCommitsWrong)

/-- 'tagcachelaw32.OrderConsistent': WHATEVER THE INPUT: true; the input reads as it did. -/
def orderConsistentSpec : ChangeSpec := { name := "orderConsistent", fn := fun _ => fun
  | [d1, d2] => { results := [.lit (.bool true)], args := [d1, d2] }
  | _ => none }
def orderConsistentRow : OpenClaim := { program := "ytnmhmabifeapkaa", sum := "f3db0d2f7d75395a7187ce542e5c605892a9a85191fe344994d2a5c8608d2bbc", func := "tagcache/tagcachelaw32.OrderConsistent", spec := "orderConsistent", unfollowed := true, recurses := true, apart := false }
def OrderConsistentSaid : Prop := orderConsistentRow.holds Try.pinned (OpenSpec.ofChange orderConsistentSpec)

/-- ITS FALSE NEIGHBOUR: 'it returns false'. Refute it at one input. -/
def orderConsistentWrong : ChangeSpec := { name := "orderConsistent", fn := fun _ => fun
  | [d1, d2] => { results := [.lit (.bool false)], args := [d1, d2] }
  | _ => none }
def OrderConsistentWrongFalsely : Prop := orderConsistentRow.holds Try.pinned (OpenSpec.ofChange orderConsistentWrong)

/-- 'tagcachelaw32.OrderCounts': WHATEVER THE INPUT: true; the input reads as it did. -/
def orderCountsSpec : ChangeSpec := { name := "orderCounts", fn := fun _ => fun
  | [d] => { results := [.lit (.bool true)], args := [d] }
  | _ => none }
def orderCountsRow : OpenClaim := { program := "ytnmhmabifeapkaa", sum := "f3db0d2f7d75395a7187ce542e5c605892a9a85191fe344994d2a5c8608d2bbc", func := "tagcache/tagcachelaw32.OrderCounts", spec := "orderCounts", unfollowed := true, recurses := true, apart := false }
def OrderCountsSaid : Prop := orderCountsRow.holds Try.pinned (OpenSpec.ofChange orderCountsSpec)

/-- ITS FALSE NEIGHBOUR: 'it returns false'. Refute it at one input. -/
def orderCountsWrong : ChangeSpec := { name := "orderCounts", fn := fun _ => fun
  | [d] => { results := [.lit (.bool false)], args := [d] }
  | _ => none }
def OrderCountsWrongFalsely : Prop := orderCountsRow.holds Try.pinned (OpenSpec.ofChange orderCountsWrong)

/-- 'tagcachelaw32.OrderFulls': WHATEVER THE INPUT: true; the input reads as it did. -/
def orderFullsSpec : ChangeSpec := { name := "orderFulls", fn := fun _ => fun
  | [d1, d2] => { results := [.lit (.bool true)], args := [d1, d2] }
  | _ => none }
def orderFullsRow : OpenClaim := { program := "ytnmhmabifeapkaa", sum := "f3db0d2f7d75395a7187ce542e5c605892a9a85191fe344994d2a5c8608d2bbc", func := "tagcache/tagcachelaw32.OrderFulls", spec := "orderFulls", unfollowed := true, recurses := true, apart := false }
def OrderFullsSaid : Prop := orderFullsRow.holds Try.pinned (OpenSpec.ofChange orderFullsSpec)

/-- ITS FALSE NEIGHBOUR: 'it returns false'. Refute it at one input. -/
def orderFullsWrong : ChangeSpec := { name := "orderFulls", fn := fun _ => fun
  | [d1, d2] => { results := [.lit (.bool false)], args := [d1, d2] }
  | _ => none }
def OrderFullsWrongFalsely : Prop := orderFullsRow.holds Try.pinned (OpenSpec.ofChange orderFullsWrong)

/- THE SECOND FORM. 'bulk': how many values and letters a reading holds, each counted each time it is reached (what is shared counts as often as it is met; a slice's spare places count too). A statement '..UptoSaid' is the law's where the arguments, and the package variables that the reading takes, are together of bulk at most 1048576: NARROWER than '..Said'. Prove '..Said' where nothing that the law and all that it calls make is longer than what came in: it says more and counts as full. Else prove '..UptoSaid'. A law counts once. -/
mutual
def uptoBulk {H : Type} : DataW H → Nat
  | .lit (.string bytes) => bytes.length + 1
  | .lit _ => 1
  | .nil => 1
  | .ptr d => uptoBulk d + 1
  | .slice elems spare => uptoBulkAll elems + uptoBulkAll spare + 1
  | .agg parts => uptoBulkAll parts + 1
  | .iface _ d => uptoBulk d + 1
  | .map entries => uptoBulkEntries entries + 1
  | .held _ => 1
def uptoBulkAll {H : Type} : List (DataW H) → Nat
  | [] => 0
  | d :: r => uptoBulk d + uptoBulkAll r
def uptoBulkEntries {H : Type} : List (Lit × DataW H) → Nat
  | [] => 0
  | x :: r => uptoBulkEntry x + uptoBulkEntries r
def uptoBulkEntry {H : Type} : Lit × DataW H → Nat
  | (.string bytes, d) => bytes.length + uptoBulk d + 1
  | (_, d) => uptoBulk d + 1
 end
def uptoSmall : (H : Type) → List (DataW H) → Bool := fun _ ds => decide (uptoBulkAll ds ≤ 1048576)
def OpenSpec.upto (s : _root_.Go.ChangeSpec) : _root_.Go.OpenSpec := { _root_.Go.OpenSpec.ofChange s with cond := some uptoSmall }

/-- 'tagcachelaw30.ScriptParses', WHERE WHAT IT READS IS OF BULK AT MOST 1048576: true; the input reads as it did. -/
def scriptParsesUptoRow : OpenClaim := { program := "ytnmhmabifeapkaa", sum := "f3db0d2f7d75395a7187ce542e5c605892a9a85191fe344994d2a5c8608d2bbc", func := "tagcache/tagcachelaw30.ScriptParses", spec := "scriptParses", inPlace := ["internal/bytealg.MakeNoZero"], unfollowed := true, recurses := true, apart := false, narrowed := true }
def ScriptParsesUptoSaid : Prop := scriptParsesUptoRow.holds Try.pinned (OpenSpec.upto scriptParsesSpec)

/-- 'tagcachelaw30.ScriptWrites', WHERE WHAT IT READS IS OF BULK AT MOST 1048576: true; the input reads as it did. -/
def scriptWritesUptoRow : OpenClaim := { program := "ytnmhmabifeapkaa", sum := "f3db0d2f7d75395a7187ce542e5c605892a9a85191fe344994d2a5c8608d2bbc", func := "tagcache/tagcachelaw30.ScriptWrites", spec := "scriptWrites", inPlace := ["internal/bytealg.MakeNoZero"], unfollowed := true, recurses := true, apart := false, narrowed := true }
def ScriptWritesUptoSaid : Prop := scriptWritesUptoRow.holds Try.pinned (OpenSpec.upto scriptWritesSpec)

/-- 'tagcachelaw30.ScriptEquals', WHERE WHAT IT READS IS OF BULK AT MOST 1048576: true; the input reads as it did. -/
def scriptEqualsUptoRow : OpenClaim := { program := "ytnmhmabifeapkaa", sum := "f3db0d2f7d75395a7187ce542e5c605892a9a85191fe344994d2a5c8608d2bbc", func := "tagcache/tagcachelaw30.ScriptEquals", spec := "scriptEquals", inPlace := ["internal/bytealg.MakeNoZero"], unfollowed := true, recurses := true, apart := false, narrowed := true }
def ScriptEqualsUptoSaid : Prop := scriptEqualsUptoRow.holds Try.pinned (OpenSpec.upto scriptEqualsSpec)

/-- 'tagcachelaw32.OrderCommits', WHERE WHAT IT READS IS OF BULK AT MOST 1048576: true; the input reads as it did. -/
def orderCommitsUptoRow : OpenClaim := { program := "ytnmhmabifeapkaa", sum := "f3db0d2f7d75395a7187ce542e5c605892a9a85191fe344994d2a5c8608d2bbc", func := "tagcache/tagcachelaw32.OrderCommits", spec := "orderCommits", unfollowed := true, recurses := true, apart := false, narrowed := true }
def OrderCommitsUptoSaid : Prop := orderCommitsUptoRow.holds Try.pinned (OpenSpec.upto orderCommitsSpec)

/-- 'tagcachelaw32.OrderConsistent', WHERE WHAT IT READS IS OF BULK AT MOST 1048576: true; the input reads as it did. -/
def orderConsistentUptoRow : OpenClaim := { program := "ytnmhmabifeapkaa", sum := "f3db0d2f7d75395a7187ce542e5c605892a9a85191fe344994d2a5c8608d2bbc", func := "tagcache/tagcachelaw32.OrderConsistent", spec := "orderConsistent", unfollowed := true, recurses := true, apart := false, narrowed := true }
def OrderConsistentUptoSaid : Prop := orderConsistentUptoRow.holds Try.pinned (OpenSpec.upto orderConsistentSpec)

/-- 'tagcachelaw32.OrderCounts', WHERE WHAT IT READS IS OF BULK AT MOST 1048576: true; the input reads as it did. -/
def orderCountsUptoRow : OpenClaim := { program := "ytnmhmabifeapkaa", sum := "f3db0d2f7d75395a7187ce542e5c605892a9a85191fe344994d2a5c8608d2bbc", func := "tagcache/tagcachelaw32.OrderCounts", spec := "orderCounts", unfollowed := true, recurses := true, apart := false, narrowed := true }
def OrderCountsUptoSaid : Prop := orderCountsUptoRow.holds Try.pinned (OpenSpec.upto orderCountsSpec)

/-- 'tagcachelaw32.OrderFulls', WHERE WHAT IT READS IS OF BULK AT MOST 1048576: true; the input reads as it did. -/
def orderFullsUptoRow : OpenClaim := { program := "ytnmhmabifeapkaa", sum := "f3db0d2f7d75395a7187ce542e5c605892a9a85191fe344994d2a5c8608d2bbc", func := "tagcache/tagcachelaw32.OrderFulls", spec := "orderFulls", unfollowed := true, recurses := true, apart := false, narrowed := true }
def OrderFullsUptoSaid : Prop := orderFullsUptoRow.holds Try.pinned (OpenSpec.upto orderFullsSpec)

end Rows
end Go.Proofs.Ytnmhmabifeapkaa
