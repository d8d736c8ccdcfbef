/-
  What the laying of the variables leaves.
-/
import Derived.Test.YtbfoocginkdmcaaGreatDoorKTa

namespace Go.Proofs.YtbfoocginkdmcaaGreatDoor
open Go
set_option maxRecDepth 100000
set_option linter.unusedVariables false
theorem tie_1' : ∀ os tape, (DataW.laidRun Tryz.prog (varsWorld Tryz.prog 400 652 os tape).memory 8 (tieL.map (·.1))).map (·.1) = some tieL := fun _ _ => by kernel_rfl
end Go.Proofs.YtbfoocginkdmcaaGreatDoor
