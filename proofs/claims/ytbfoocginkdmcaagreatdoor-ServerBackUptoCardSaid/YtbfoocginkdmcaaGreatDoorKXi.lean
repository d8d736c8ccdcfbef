/-
  Facts on the arguments' types.
-/
import Derived.KernelRfl
import Derived.Test.YtbfoocginkdmcaaGreatDoorRows
import Derived.ProofKit

set_option maxRecDepth 100000
set_option linter.unusedVariables false
namespace Go.Proofs.YtbfoocginkdmcaaGreatDoor
open Go
theorem t22_reads : Tryz.prog.readableRec 22 = true := by kernel_rfl
theorem t22_row : 22 < Tryz.prog.types.size := of_decide_eq_true (by kernel_rfl)
theorem t9_reads : Tryz.prog.readableRec 9 = true := by kernel_rfl
theorem t9_row : 9 < Tryz.prog.types.size := of_decide_eq_true (by kernel_rfl)
theorem no_init : Tryz.prog.inits.idxOf? 6 = none := by kernel_rfl
end Go.Proofs.YtbfoocginkdmcaaGreatDoor
