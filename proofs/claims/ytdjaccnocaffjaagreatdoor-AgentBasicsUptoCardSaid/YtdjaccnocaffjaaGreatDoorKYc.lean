/-
  Closed facts of the row AgentBasicsUpto: the package-level variables that are named.
-/
import Derived.Test.YtdjaccnocaffjaaGreatDoorKYb

set_option maxRecDepth 100000
set_option linter.unusedVariables false
namespace Go.Proofs.YtdjaccnocaffjaaGreatDoor
open Go
theorem n_nm : (Rows.agentBasicsUptoRow.named == Tryz.prog.varsNamed 3) = true := by
  unfold Program.varsNamed
  rw [n_cl]
  kernel_rfl
end Go.Proofs.YtdjaccnocaffjaaGreatDoor
