/-
The fixed facts, second part.
-/
import Derived.Test.YtacoaajilnpeiaaGreatDoorSd

set_option linter.unusedVariables false
set_option linter.unusedSimpArgs false

section
namespace Go.Kal
open Go Go.Proofs

theorem call_315 : callR (mkE I2) 100000 300 315 [] = some (.val (.bool true)) := by kernel_rfl

def awT1 : T (List AV → Option AV) := (.node (.node (.node .leaf none (.node .leaf none (.node .leaf none (.node .leaf none (.node (.node (.node .leaf (some (memo (.bool true))) .leaf) none .leaf) none .leaf))))) none .leaf) none .leaf)
noncomputable def I3 : Nat → Option (List AV → Option AV) := moreI awT1 I2

end Go.Kal
end
