/-
  The interface values that are laid are of their types.
-/
import Derived.Test.YtbfoocginkdmcaaGreatDoorKXa
import Derived.KernelRfl

set_option maxRecDepth 100000
set_option linter.unusedVariables false
namespace Go.Proofs.YtbfoocginkdmcaaGreatDoor
open Go Go.Ev
theorem lay_ifaces (os : Os) : (World.holding Tryz.prog os ⟨#[], #[], []⟩).layIfaces Tryz.prog Rows.serverBackUptoRow.laid (laidW os) = true := layIfaces_ids laid_named (by kernel_rfl)
end Go.Proofs.YtbfoocginkdmcaaGreatDoor
