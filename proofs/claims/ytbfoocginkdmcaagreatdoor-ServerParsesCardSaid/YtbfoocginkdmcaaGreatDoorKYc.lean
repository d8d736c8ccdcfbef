/-
  Closed facts of the row ServerParses: the package-level variables that are named.
-/
import Derived.Test.YtbfoocginkdmcaaGreatDoorKYb

set_option maxRecDepth 100000
set_option linter.unusedVariables false
namespace Go.Proofs.YtbfoocginkdmcaaGreatDoor
open Go
theorem n_nm : (Rows.serverParsesRow.named == Tryz.prog.varsNamed 3) = true := by
  unfold Program.varsNamed
  rw [n_cl]
  kernel_rfl
end Go.Proofs.YtbfoocginkdmcaaGreatDoor
