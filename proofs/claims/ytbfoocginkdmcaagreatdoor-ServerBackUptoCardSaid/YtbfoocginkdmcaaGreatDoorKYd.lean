/-
  Closed facts of the row ServerBackUpto, one by one.
-/
import Derived.Test.YtbfoocginkdmcaaGreatDoorRows
import Derived.JoinedOf
import Derived.KernelRfl

set_option maxRecDepth 100000
set_option linter.unusedVariables false
namespace Go.Proofs.YtbfoocginkdmcaaGreatDoor
open Go
theorem j_0 : (Rows.serverBackUptoRow.wf (OpenSpec.ofChange (Rows.OpenSpec.upto Rows.serverBackSpec).bare) : Bool) = true := by kernel_rfl
theorem j_6 : ((Tryz.prog.stops == []) : Bool) = true := by kernel_rfl
theorem j_14 : ((Rows.serverBackUptoRow.ifaces == (Tryz.f6.params.toList ++ (Rows.OpenSpec.upto Rows.serverBackSpec).bare.plain.varTypes Tryz.prog).any (Tryz.prog.ifacesRec ·)) : Bool) = true := by kernel_rfl
theorem j_18 : ((Rows.OpenSpec.upto Rows.serverBackSpec).bare.vars.all (Tryz.prog.varReadable ·) : Bool) = true := by kernel_rfl
theorem j_23 : (Rows.serverBackUptoRow.shortTexts.isNone : Bool) = true := by kernel_rfl
theorem j_27 : ((Tryz.prog.make == some Rows.serverBackUptoRow.make) : Bool) = true := by kernel_rfl
theorem j_31 : (Rows.serverBackUptoRow.veiledFits Tryz.prog Tryz.f6.params.toList (Tryz.f6.params.toList ++ (Rows.OpenSpec.upto Rows.serverBackSpec).bare.plain.varTypes Tryz.prog ++ Tryz.f6.resultTypes.toList) : Bool) = true := by kernel_rfl
end Go.Proofs.YtbfoocginkdmcaaGreatDoor

/-
  Closed facts of the row ServerBackUpto, one by one.
-/

set_option maxRecDepth 100000
set_option linter.unusedVariables false
namespace Go.Proofs.YtbfoocginkdmcaaGreatDoor
open Go
theorem j_5 : ((Rows.serverBackUptoRow.stops == []) : Bool) = true := by kernel_rfl
theorem j_13 : ((Rows.serverBackUptoRow.maps == (Tryz.f6.params.toList ++ (Rows.OpenSpec.upto Rows.serverBackSpec).bare.plain.varTypes Tryz.prog).any (Tryz.prog.mapsRec ·)) : Bool) = true := by kernel_rfl
theorem j_17 : ((Rows.serverBackUptoRow.wideKeys == (Tryz.f6.params.toList ++ (Rows.OpenSpec.upto Rows.serverBackSpec).bare.plain.varTypes Tryz.prog ++ Tryz.f6.resultTypes.toList).any (Tryz.prog.wideKeysFrom ·)) : Bool) = true := by kernel_rfl
theorem j_21 : ((Rows.serverBackUptoRow.loopsOut == Tryz.f6.resultTypes.toList.any (Tryz.prog.loopsFrom ·)) : Bool) = true := by kernel_rfl
theorem j_26 : ((Rows.serverBackUptoRow.lifted == Tryz.prog.liftsFinal) : Bool) = true := by kernel_rfl
theorem j_30 : ((Rows.serverBackUptoRow.veiled == (Tryz.f6.params.toList ++ (Rows.OpenSpec.upto Rows.serverBackSpec).bare.plain.varTypes Tryz.prog ++ Tryz.f6.resultTypes.toList).any (Tryz.prog.veiledRec ·)) : Bool) = true := by kernel_rfl
end Go.Proofs.YtbfoocginkdmcaaGreatDoor
