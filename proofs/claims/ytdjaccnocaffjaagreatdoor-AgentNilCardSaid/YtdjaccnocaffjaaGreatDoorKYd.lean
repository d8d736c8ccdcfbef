/-
  Closed facts of the row AgentNil, one by one.
-/
import Derived.Test.YtdjaccnocaffjaaGreatDoorRows
import Derived.JoinedOf
import Derived.KernelRfl

set_option maxRecDepth 100000
set_option linter.unusedVariables false
namespace Go.Proofs.YtdjaccnocaffjaaGreatDoor
open Go
theorem j_0 : (Rows.agentNilRow.wf (OpenSpec.ofChange Rows.agentNilSpec) : Bool) = true := by kernel_rfl
theorem j_6 : ((Tryz.prog.stops == []) : Bool) = true := by kernel_rfl
theorem j_14 : ((Rows.agentNilRow.ifaces == (Tryz.f4.params.toList ++ Rows.agentNilSpec.plain.varTypes Tryz.prog).any (Tryz.prog.ifacesRec ·)) : Bool) = true := by kernel_rfl
theorem j_18 : (Rows.agentNilSpec.vars.all (Tryz.prog.varReadable ·) : Bool) = true := by kernel_rfl
theorem j_23 : (Rows.agentNilRow.shortTexts.isNone : Bool) = true := by kernel_rfl
theorem j_27 : ((Tryz.prog.make == some Rows.agentNilRow.make) : Bool) = true := by kernel_rfl
theorem j_31 : (Rows.agentNilRow.veiledFits Tryz.prog Tryz.f4.params.toList (Tryz.f4.params.toList ++ Rows.agentNilSpec.plain.varTypes Tryz.prog ++ Tryz.f4.resultTypes.toList) : Bool) = true := by kernel_rfl
end Go.Proofs.YtdjaccnocaffjaaGreatDoor

/-
  Closed facts of the row AgentNil, one by one.
-/

set_option maxRecDepth 100000
set_option linter.unusedVariables false
namespace Go.Proofs.YtdjaccnocaffjaaGreatDoor
open Go
theorem j_5 : ((Rows.agentNilRow.stops == []) : Bool) = true := by kernel_rfl
theorem j_13 : ((Rows.agentNilRow.maps == (Tryz.f4.params.toList ++ Rows.agentNilSpec.plain.varTypes Tryz.prog).any (Tryz.prog.mapsRec ·)) : Bool) = true := by kernel_rfl
theorem j_17 : ((Rows.agentNilRow.wideKeys == (Tryz.f4.params.toList ++ Rows.agentNilSpec.plain.varTypes Tryz.prog ++ Tryz.f4.resultTypes.toList).any (Tryz.prog.wideKeysFrom ·)) : Bool) = true := by kernel_rfl
theorem j_21 : ((Rows.agentNilRow.loopsOut == Tryz.f4.resultTypes.toList.any (Tryz.prog.loopsFrom ·)) : Bool) = true := by kernel_rfl
theorem j_26 : ((Rows.agentNilRow.lifted == Tryz.prog.liftsFinal) : Bool) = true := by kernel_rfl
theorem j_30 : ((Rows.agentNilRow.veiled == (Tryz.f4.params.toList ++ Rows.agentNilSpec.plain.varTypes Tryz.prog ++ Tryz.f4.resultTypes.toList).any (Tryz.prog.veiledRec ·)) : Bool) = true := by kernel_rfl
end Go.Proofs.YtdjaccnocaffjaaGreatDoor
