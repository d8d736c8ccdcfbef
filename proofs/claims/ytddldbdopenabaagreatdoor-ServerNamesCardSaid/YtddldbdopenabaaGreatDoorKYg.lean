/-
  Closed facts of the row ServerNames, one by one.
-/
import Derived.Test.YtddldbdopenabaaGreatDoorRows
import Derived.JoinedOf
import Derived.KernelRfl

set_option maxRecDepth 100000
set_option linter.unusedVariables false
namespace Go.Proofs.YtddldbdopenabaaGreatDoor
open Go
theorem j_5 : ((Rows.serverNamesRow.stops == []) : Bool) = true := by kernel_rfl
theorem j_13 : ((Rows.serverNamesRow.maps == (Tryz.f3.params.toList ++ Rows.serverNamesSpec.plain.varTypes Tryz.prog).any (Tryz.prog.mapsRec ·)) : Bool) = true := by kernel_rfl
theorem j_17 : ((Rows.serverNamesRow.wideKeys == (Tryz.f3.params.toList ++ Rows.serverNamesSpec.plain.varTypes Tryz.prog ++ Tryz.f3.resultTypes.toList).any (Tryz.prog.wideKeysFrom ·)) : Bool) = true := by kernel_rfl
theorem j_21 : ((Rows.serverNamesRow.loopsOut == Tryz.f3.resultTypes.toList.any (Tryz.prog.loopsFrom ·)) : Bool) = true := by kernel_rfl
theorem j_26 : ((Rows.serverNamesRow.lifted == Tryz.prog.liftsFinal) : Bool) = true := by kernel_rfl
theorem j_30 : ((Rows.serverNamesRow.veiled == (Tryz.f3.params.toList ++ Rows.serverNamesSpec.plain.varTypes Tryz.prog ++ Tryz.f3.resultTypes.toList).any (Tryz.prog.veiledRec ·)) : Bool) = true := by kernel_rfl
end Go.Proofs.YtddldbdopenabaaGreatDoor
