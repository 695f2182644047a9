/-
The fixed facts, third part.
-/
import Derived.Test.YtacoaajilnpeiaaGreatDoorSe

set_option linter.unusedVariables false
set_option linter.unusedSimpArgs false

section
namespace Go.Kal
open Go Go.Proofs

theorem call_219 : callR (mkE I3) 100000 300 219 [] = some (.val (.bool true)) := by kernel_rfl

def awT2 : T (List AV → Option AV) := (.node (.node (.node .leaf none (.node .leaf none (.node .leaf none (.node (.node .leaf none (.node .leaf (some (memo (.bool true))) .leaf)) none .leaf)))) none .leaf) none .leaf)
noncomputable def I4 : Nat → Option (List AV → Option AV) := moreI awT2 I3

end Go.Kal
end
