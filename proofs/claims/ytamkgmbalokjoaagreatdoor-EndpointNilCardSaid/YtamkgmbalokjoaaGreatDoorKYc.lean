/-
  Closed facts of the row EndpointNil: the package-level variables that are named.
-/
import Derived.Test.YtamkgmbalokjoaaGreatDoorKYb

set_option maxRecDepth 100000
set_option linter.unusedVariables false
namespace Go.Proofs.YtamkgmbalokjoaaGreatDoor
open Go
theorem n_nm : (Rows.endpointNilRow.named == Tryz.prog.varsNamed 3) = true := by
  unfold Program.varsNamed
  rw [n_cl]
  kernel_rfl
end Go.Proofs.YtamkgmbalokjoaaGreatDoor
