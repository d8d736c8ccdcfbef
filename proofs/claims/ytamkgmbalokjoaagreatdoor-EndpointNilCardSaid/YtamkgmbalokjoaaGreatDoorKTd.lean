/-
  There is a function that lays the variables.
-/
import Derived.Test.YtamkgmbalokjoaaGreatDoorKTa

namespace Go.Proofs.YtamkgmbalokjoaaGreatDoor
open Go
set_option maxRecDepth 100000
set_option linter.unusedVariables false
theorem tie_g : (Tryz.prog.funcNamed "gosem.cut.vars").isSome = true := by kernel_rfl
end Go.Proofs.YtamkgmbalokjoaaGreatDoor
