/- The law ScriptEquals is proved: whatever the two arguments, it returns true, and the arguments read as they did. No conditions. -/
import Derived.Test.YtnmhmabifeapkaaE8
import Derived.Test.YtnmhmabifeapkaaW4
namespace Go.Proofs.Ytnmhmabifeapkaa.Ord
open Go.RowKit
set_option linter.unusedVariables false

theorem scriptEquals_walk : scriptEqualsWalk := fun a b p q w ha hb => law5 a b p q w ha hb
theorem scriptEquals_proved : Rows.ScriptEqualsSaid := scriptEquals_of scriptEquals_walk
#print axioms scriptEquals_proved
end Go.Proofs.Ytnmhmabifeapkaa.Ord
