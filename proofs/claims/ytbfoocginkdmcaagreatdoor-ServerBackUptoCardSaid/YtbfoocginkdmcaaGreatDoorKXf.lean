/-
  The witness's arguments are of their types.
-/
import Derived.Test.YtbfoocginkdmcaaGreatDoorKXa
import Derived.KernelRfl
import Derived.Test.YtbfoocginkdmcaaGreatDoorRows
import Derived.ProofKit
import Derived.LaidMore

set_option maxRecDepth 100000
set_option linter.unusedVariables false
namespace Go.Proofs.YtbfoocginkdmcaaGreatDoor
open Go Go.Ev
abbrev argsW : Array Value := #[.slice none 0 0, .string ByteArray.empty]
theorem w_ok (os : Os) : Input.okWideB Tryz.prog ((laidW os).forCall (fun _ _ => 0) ⟨#[], argsW, []⟩) 6 ⟨#[], argsW, []⟩ = true := by kernel_rfl
end Go.Proofs.YtbfoocginkdmcaaGreatDoor
