/-
  Closed facts of the row ServerNames, one by one.
-/
import Derived.Test.YtddldbdopenabaaGreatDoorRows
import Derived.JoinedOf
import Derived.KernelRfl

set_option maxRecDepth 100000
set_option linter.unusedVariables false
namespace Go.Proofs.YtddldbdopenabaaGreatDoor
open Go
theorem j_0 : (Rows.serverNamesRow.wf (OpenSpec.ofChange Rows.serverNamesSpec) : Bool) = true := by kernel_rfl
theorem j_6 : ((Tryz.prog.stops == []) : Bool) = true := by kernel_rfl
theorem j_14 : ((Rows.serverNamesRow.ifaces == (Tryz.f3.params.toList ++ Rows.serverNamesSpec.plain.varTypes Tryz.prog).any (Tryz.prog.ifacesRec ·)) : Bool) = true := by kernel_rfl
theorem j_18 : (Rows.serverNamesSpec.vars.all (Tryz.prog.varReadable ·) : Bool) = true := by kernel_rfl
theorem j_23 : (Rows.serverNamesRow.shortTexts.isNone : Bool) = true := by kernel_rfl
theorem j_27 : ((Tryz.prog.make == some Rows.serverNamesRow.make) : Bool) = true := by kernel_rfl
theorem j_31 : (Rows.serverNamesRow.veiledFits Tryz.prog Tryz.f3.params.toList (Tryz.f3.params.toList ++ Rows.serverNamesSpec.plain.varTypes Tryz.prog ++ Tryz.f3.resultTypes.toList) : Bool) = true := by kernel_rfl
end Go.Proofs.YtddldbdopenabaaGreatDoor
