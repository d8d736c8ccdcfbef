/-
  Closed facts of the row EndpointNil, one by one.
-/
import Derived.Test.YtamkgmbalokjoaaGreatDoorRows
import Derived.JoinedOf
import Derived.KernelRfl

set_option maxRecDepth 100000
set_option linter.unusedVariables false
namespace Go.Proofs.YtamkgmbalokjoaaGreatDoor
open Go
theorem j_4 : (namedTie Tryz.prog Rows.endpointNilRow.named Rows.endpointNilSpec.vars : Bool) = true := by kernel_rfl
theorem j_8 : ((Tryz.prog.stopKnobs == []) : Bool) = true := by kernel_rfl
theorem j_16 : ((Rows.endpointNilRow.loops == (Tryz.f3.params.toList ++ Rows.endpointNilSpec.plain.varTypes Tryz.prog).any (Tryz.prog.loopsFrom ·)) : Bool) = true := by kernel_rfl
theorem j_20 : ((Rows.endpointNilRow.ifacesOut == Tryz.f3.resultTypes.toList.any (Tryz.prog.ifacesRec ·)) : Bool) = true := by kernel_rfl
theorem j_25 : (Tryz.prog.mayEnter : Bool) = true := by kernel_rfl
theorem j_29 : ((Rows.endpointNilRow.pinned == Rows.endpointNilRow.pinnedBy) : Bool) = true := by kernel_rfl
end Go.Proofs.YtamkgmbalokjoaaGreatDoor
