/-
  Closed facts of the row EndpointNil, one by one.
-/
import Derived.Test.YtamkgmbalokjoaaGreatDoorRows
import Derived.JoinedOf
import Derived.KernelRfl

set_option maxRecDepth 100000
set_option linter.unusedVariables false
namespace Go.Proofs.YtamkgmbalokjoaaGreatDoor
open Go
theorem j_0 : (Rows.endpointNilRow.wf (OpenSpec.ofChange Rows.endpointNilSpec) : Bool) = true := by kernel_rfl
theorem j_6 : ((Tryz.prog.stops == []) : Bool) = true := by kernel_rfl
theorem j_14 : ((Rows.endpointNilRow.ifaces == (Tryz.f3.params.toList ++ Rows.endpointNilSpec.plain.varTypes Tryz.prog).any (Tryz.prog.ifacesRec ·)) : Bool) = true := by kernel_rfl
theorem j_18 : (Rows.endpointNilSpec.vars.all (Tryz.prog.varReadable ·) : Bool) = true := by kernel_rfl
theorem j_23 : (Rows.endpointNilRow.shortTexts.isNone : Bool) = true := by kernel_rfl
theorem j_27 : ((Tryz.prog.make == some Rows.endpointNilRow.make) : Bool) = true := by kernel_rfl
theorem j_31 : (Rows.endpointNilRow.veiledFits Tryz.prog Tryz.f3.params.toList (Tryz.f3.params.toList ++ Rows.endpointNilSpec.plain.varTypes Tryz.prog ++ Tryz.f3.resultTypes.toList) : Bool) = true := by kernel_rfl
end Go.Proofs.YtamkgmbalokjoaaGreatDoor
