/-
  The listed data can be laid.
-/
import Derived.Test.YtbfoocginkdmcaaGreatDoorKXa
import Derived.KernelRfl

set_option maxRecDepth 100000
set_option linter.unusedVariables false
namespace Go.Proofs.YtbfoocginkdmcaaGreatDoor
open Go Go.Ev
theorem lay_fits (os : Os) : (World.holding Tryz.prog os ⟨#[], #[], []⟩).layFits Tryz.prog Rows.serverBackUptoRow.laid [] = true := layFits_ids laid_named [] (by kernel_rfl)
end Go.Proofs.YtbfoocginkdmcaaGreatDoor
