/-
  The variables' cells are of their types.
-/
import Derived.Test.YtbfoocginkdmcaaGreatDoorKXa
import Derived.KernelRfl

set_option maxRecDepth 100000
set_option linter.unusedVariables false
namespace Go.Proofs.YtbfoocginkdmcaaGreatDoor
open Go Go.Ev
theorem lay_zip (os : Os) : ((laidW os).forCall (fun _ _ => 0) ⟨#[], #[], []⟩).variablesZipB Tryz.prog = true := by kernel_rfl
end Go.Proofs.YtbfoocginkdmcaaGreatDoor
