/-
  Closed facts of the row ServerNames: the package-level variables that are named.
-/
import Derived.Test.YtddldbdopenabaaGreatDoorKYb

set_option maxRecDepth 100000
set_option linter.unusedVariables false
namespace Go.Proofs.YtddldbdopenabaaGreatDoor
open Go
theorem n_nm : (Rows.serverNamesRow.named == Tryz.prog.varsNamed 3) = true := by
  unfold Program.varsNamed
  rw [n_cl]
  kernel_rfl
end Go.Proofs.YtddldbdopenabaaGreatDoor
