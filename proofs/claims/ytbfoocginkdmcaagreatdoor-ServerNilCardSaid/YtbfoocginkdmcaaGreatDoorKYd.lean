/-
  Closed facts of the row ServerNil, one by one.
-/
import Derived.Test.YtbfoocginkdmcaaGreatDoorRows
import Derived.JoinedOf
import Derived.KernelRfl

set_option maxRecDepth 100000
set_option linter.unusedVariables false
namespace Go.Proofs.YtbfoocginkdmcaaGreatDoor
open Go
theorem j_0 : (Rows.serverNilRow.wf (OpenSpec.ofChange Rows.serverNilSpec) : Bool) = true := by kernel_rfl
theorem j_6 : ((Tryz.prog.stops == []) : Bool) = true := by kernel_rfl
theorem j_14 : ((Rows.serverNilRow.ifaces == (Tryz.f4.params.toList ++ Rows.serverNilSpec.plain.varTypes Tryz.prog).any (Tryz.prog.ifacesRec ·)) : Bool) = true := by kernel_rfl
theorem j_18 : (Rows.serverNilSpec.vars.all (Tryz.prog.varReadable ·) : Bool) = true := by kernel_rfl
theorem j_23 : (Rows.serverNilRow.shortTexts.isNone : Bool) = true := by kernel_rfl
theorem j_27 : ((Tryz.prog.make == some Rows.serverNilRow.make) : Bool) = true := by kernel_rfl
theorem j_31 : (Rows.serverNilRow.veiledFits Tryz.prog Tryz.f4.params.toList (Tryz.f4.params.toList ++ Rows.serverNilSpec.plain.varTypes Tryz.prog ++ Tryz.f4.resultTypes.toList) : Bool) = true := by kernel_rfl
end Go.Proofs.YtbfoocginkdmcaaGreatDoor

/-
  Closed facts of the row ServerNil, one by one.
-/

set_option maxRecDepth 100000
set_option linter.unusedVariables false
namespace Go.Proofs.YtbfoocginkdmcaaGreatDoor
open Go
theorem j_5 : ((Rows.serverNilRow.stops == []) : Bool) = true := by kernel_rfl
theorem j_13 : ((Rows.serverNilRow.maps == (Tryz.f4.params.toList ++ Rows.serverNilSpec.plain.varTypes Tryz.prog).any (Tryz.prog.mapsRec ·)) : Bool) = true := by kernel_rfl
theorem j_17 : ((Rows.serverNilRow.wideKeys == (Tryz.f4.params.toList ++ Rows.serverNilSpec.plain.varTypes Tryz.prog ++ Tryz.f4.resultTypes.toList).any (Tryz.prog.wideKeysFrom ·)) : Bool) = true := by kernel_rfl
theorem j_21 : ((Rows.serverNilRow.loopsOut == Tryz.f4.resultTypes.toList.any (Tryz.prog.loopsFrom ·)) : Bool) = true := by kernel_rfl
theorem j_26 : ((Rows.serverNilRow.lifted == Tryz.prog.liftsFinal) : Bool) = true := by kernel_rfl
theorem j_30 : ((Rows.serverNilRow.veiled == (Tryz.f4.params.toList ++ Rows.serverNilSpec.plain.varTypes Tryz.prog ++ Tryz.f4.resultTypes.toList).any (Tryz.prog.veiledRec ·)) : Bool) = true := by kernel_rfl
end Go.Proofs.YtbfoocginkdmcaaGreatDoor
