/-
  Closed facts of the row ServerNil, one by one.
-/
import Derived.Test.YtbfoocginkdmcaaGreatDoorRows
import Derived.JoinedOf
import Derived.KernelRfl

set_option maxRecDepth 100000
set_option linter.unusedVariables false
namespace Go.Proofs.YtbfoocginkdmcaaGreatDoor
open Go
theorem j_4 : (namedTie Tryz.prog Rows.serverNilRow.named Rows.serverNilSpec.vars : Bool) = true := by kernel_rfl
theorem j_8 : ((Tryz.prog.stopKnobs == []) : Bool) = true := by kernel_rfl
theorem j_16 : ((Rows.serverNilRow.loops == (Tryz.f4.params.toList ++ Rows.serverNilSpec.plain.varTypes Tryz.prog).any (Tryz.prog.loopsFrom ·)) : Bool) = true := by kernel_rfl
theorem j_20 : ((Rows.serverNilRow.ifacesOut == Tryz.f4.resultTypes.toList.any (Tryz.prog.ifacesRec ·)) : Bool) = true := by kernel_rfl
theorem j_25 : (Tryz.prog.mayEnter : Bool) = true := by kernel_rfl
theorem j_29 : ((Rows.serverNilRow.pinned == Rows.serverNilRow.pinnedBy) : Bool) = true := by kernel_rfl
end Go.Proofs.YtbfoocginkdmcaaGreatDoor
