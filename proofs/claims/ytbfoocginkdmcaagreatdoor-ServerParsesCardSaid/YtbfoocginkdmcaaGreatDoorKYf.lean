/-
  Closed facts of the row ServerParses, one by one.
-/
import Derived.Test.YtbfoocginkdmcaaGreatDoorRows
import Derived.JoinedOf
import Derived.KernelRfl

set_option maxRecDepth 100000
set_option linter.unusedVariables false
namespace Go.Proofs.YtbfoocginkdmcaaGreatDoor
open Go
theorem j_4 : (namedTie Tryz.prog Rows.serverParsesRow.named Rows.serverParsesSpec.vars : Bool) = true := by kernel_rfl
theorem j_8 : ((Tryz.prog.stopKnobs == []) : Bool) = true := by kernel_rfl
theorem j_16 : ((Rows.serverParsesRow.loops == (Tryz.f3.params.toList ++ Rows.serverParsesSpec.plain.varTypes Tryz.prog).any (Tryz.prog.loopsFrom ·)) : Bool) = true := by kernel_rfl
theorem j_20 : ((Rows.serverParsesRow.ifacesOut == Tryz.f3.resultTypes.toList.any (Tryz.prog.ifacesRec ·)) : Bool) = true := by kernel_rfl
theorem j_25 : (Tryz.prog.mayEnter : Bool) = true := by kernel_rfl
theorem j_29 : ((Rows.serverParsesRow.pinned == Rows.serverParsesRow.pinnedBy) : Bool) = true := by kernel_rfl
end Go.Proofs.YtbfoocginkdmcaaGreatDoor
