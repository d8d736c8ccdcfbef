/-
  The laying of the variables ends.
-/
import Derived.Test.YtbfoocginkdmcaaGreatDoorKTa

namespace Go.Proofs.YtbfoocginkdmcaaGreatDoor
open Go
set_option maxRecDepth 100000
set_option linter.unusedVariables false
theorem tie_d' : ∀ os tape, varsDone Tryz.prog 400 652 os tape = true := fun _ _ => by kernel_rfl
end Go.Proofs.YtbfoocginkdmcaaGreatDoor
