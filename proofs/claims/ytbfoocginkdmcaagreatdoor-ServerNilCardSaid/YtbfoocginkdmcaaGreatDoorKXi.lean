/-
  Facts on the argument's type.
-/
import Derived.KernelRfl
import Derived.Test.YtbfoocginkdmcaaGreatDoorRows
import Derived.ProofKit

set_option maxRecDepth 100000
set_option linter.unusedVariables false
namespace Go.Proofs.YtbfoocginkdmcaaGreatDoor
open Go
theorem t36_reads : Tryz.prog.readableRec 36 = true := by kernel_rfl
theorem t36_row : 36 < Tryz.prog.types.size := of_decide_eq_true (by kernel_rfl)
theorem no_init : Tryz.prog.inits.idxOf? 4 = none := by kernel_rfl
end Go.Proofs.YtbfoocginkdmcaaGreatDoor
