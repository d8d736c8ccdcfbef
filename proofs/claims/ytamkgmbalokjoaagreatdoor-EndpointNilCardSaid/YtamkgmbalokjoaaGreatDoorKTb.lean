/-
  The laying of the variables ends.
-/
import Derived.Test.YtamkgmbalokjoaaGreatDoorKTa

namespace Go.Proofs.YtamkgmbalokjoaaGreatDoor
open Go
set_option maxRecDepth 100000
set_option linter.unusedVariables false
theorem tie_d' : ∀ os tape, varsDone Tryz.prog 400 601 os tape = true := fun _ _ => by kernel_rfl
end Go.Proofs.YtamkgmbalokjoaaGreatDoor
