/-
The fixed facts, fourth part.
-/
import Derived.Test.YtacoaajilnpeiaaGreatDoorSf

set_option linter.unusedVariables false
set_option linter.unusedSimpArgs false

section
namespace Go.Kal
open Go Go.Proofs

theorem call_152 : callR (mkE I4) 100000 300 152 [] = some (.val (.bool true)) := by kernel_rfl

def awT3 : T (List AV → Option AV) := (.node .leaf none (.node (.node (.node .leaf none (.node .leaf none (.node (.node (.node .leaf (some (memo (.bool true))) .leaf) none .leaf) none .leaf))) none .leaf) none .leaf))
noncomputable def I5 : Nat → Option (List AV → Option AV) := moreI awT3 I4

end Go.Kal
end
