/-
  Closed facts of the row ServerBackUpto: those over the type table, out of what was checked.
-/
import Derived.Test.YtbfoocginkdmcaaGreatDoorChecked
import Derived.Test.YtbfoocginkdmcaaGreatDoorRows
import Derived.ClosedOfChecked
import Derived.KernelRfl

set_option maxRecDepth 100000
set_option linter.unusedVariables false
namespace Go.Proofs.YtbfoocginkdmcaaGreatDoor
open Go
theorem n_three : laidOutB Tryz.prog = true ∧ mapsRowed Tryz.prog = true ∧ Tryz.prog.plainKeys = true :=
  ClosedOfChecked.closed_of_checked Tryz.checked (by kernel_rfl) (by kernel_rfl) (by kernel_rfl)
theorem n_pk : (Rows.serverBackUptoRow.plainKeys == Tryz.prog.plainKeys) = true := by
  rw [n_three.2.2]
  rfl
end Go.Proofs.YtbfoocginkdmcaaGreatDoor
