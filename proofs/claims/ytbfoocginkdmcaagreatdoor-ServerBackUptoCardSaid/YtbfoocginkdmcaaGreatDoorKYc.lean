/-
  Closed facts of the row ServerBackUpto: the package-level variables that are named.
-/
import Derived.Test.YtbfoocginkdmcaaGreatDoorKYb

set_option maxRecDepth 100000
set_option linter.unusedVariables false
namespace Go.Proofs.YtbfoocginkdmcaaGreatDoor
open Go
theorem n_nm : (Rows.serverBackUptoRow.named == Tryz.prog.varsNamed 6) = true := by
  unfold Program.varsNamed
  rw [n_cl]
  kernel_rfl
end Go.Proofs.YtbfoocginkdmcaaGreatDoor
