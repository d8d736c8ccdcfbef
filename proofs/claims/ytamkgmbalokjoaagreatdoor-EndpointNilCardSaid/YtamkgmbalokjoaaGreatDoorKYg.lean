/-
  Closed facts of the row EndpointNil, one by one.
-/
import Derived.Test.YtamkgmbalokjoaaGreatDoorRows
import Derived.JoinedOf
import Derived.KernelRfl

set_option maxRecDepth 100000
set_option linter.unusedVariables false
namespace Go.Proofs.YtamkgmbalokjoaaGreatDoor
open Go
theorem j_5 : ((Rows.endpointNilRow.stops == []) : Bool) = true := by kernel_rfl
theorem j_13 : ((Rows.endpointNilRow.maps == (Tryz.f3.params.toList ++ Rows.endpointNilSpec.plain.varTypes Tryz.prog).any (Tryz.prog.mapsRec ·)) : Bool) = true := by kernel_rfl
theorem j_17 : ((Rows.endpointNilRow.wideKeys == (Tryz.f3.params.toList ++ Rows.endpointNilSpec.plain.varTypes Tryz.prog ++ Tryz.f3.resultTypes.toList).any (Tryz.prog.wideKeysFrom ·)) : Bool) = true := by kernel_rfl
theorem j_21 : ((Rows.endpointNilRow.loopsOut == Tryz.f3.resultTypes.toList.any (Tryz.prog.loopsFrom ·)) : Bool) = true := by kernel_rfl
theorem j_26 : ((Rows.endpointNilRow.lifted == Tryz.prog.liftsFinal) : Bool) = true := by kernel_rfl
theorem j_30 : ((Rows.endpointNilRow.veiled == (Tryz.f3.params.toList ++ Rows.endpointNilSpec.plain.varTypes Tryz.prog ++ Tryz.f3.resultTypes.toList).any (Tryz.prog.veiledRec ·)) : Bool) = true := by kernel_rfl
end Go.Proofs.YtamkgmbalokjoaaGreatDoor
