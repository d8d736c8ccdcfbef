/-
  Closed facts of the row ServerNames, one by one.
-/
import Derived.Test.YtddldbdopenabaaGreatDoorRows
import Derived.JoinedOf
import Derived.KernelRfl

set_option maxRecDepth 100000
set_option linter.unusedVariables false
namespace Go.Proofs.YtddldbdopenabaaGreatDoor
open Go
theorem j_4 : (namedTie Tryz.prog Rows.serverNamesRow.named Rows.serverNamesSpec.vars : Bool) = true := by kernel_rfl
theorem j_8 : ((Tryz.prog.stopKnobs == []) : Bool) = true := by kernel_rfl
theorem j_16 : ((Rows.serverNamesRow.loops == (Tryz.f3.params.toList ++ Rows.serverNamesSpec.plain.varTypes Tryz.prog).any (Tryz.prog.loopsFrom ·)) : Bool) = true := by kernel_rfl
theorem j_20 : ((Rows.serverNamesRow.ifacesOut == Tryz.f3.resultTypes.toList.any (Tryz.prog.ifacesRec ·)) : Bool) = true := by kernel_rfl
theorem j_25 : (Tryz.prog.mayEnter : Bool) = true := by kernel_rfl
theorem j_29 : ((Rows.serverNamesRow.pinned == Rows.serverNamesRow.pinnedBy) : Bool) = true := by kernel_rfl
end Go.Proofs.YtddldbdopenabaaGreatDoor
