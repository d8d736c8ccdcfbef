/-
  Closed facts of the row AgentBasicsUpto, one by one.
-/
import Derived.Test.YtdjaccnocaffjaaGreatDoorRows
import Derived.JoinedOf
import Derived.KernelRfl

set_option maxRecDepth 100000
set_option linter.unusedVariables false
namespace Go.Proofs.YtdjaccnocaffjaaGreatDoor
open Go
theorem j_0 : (Rows.agentBasicsUptoRow.wf (OpenSpec.ofChange (Rows.OpenSpec.upto Rows.agentBasicsSpec).bare) : Bool) = true := by kernel_rfl
theorem j_6 : ((Tryz.prog.stops == []) : Bool) = true := by kernel_rfl
theorem j_14 : ((Rows.agentBasicsUptoRow.ifaces == (Tryz.f3.params.toList ++ (Rows.OpenSpec.upto Rows.agentBasicsSpec).bare.plain.varTypes Tryz.prog).any (Tryz.prog.ifacesRec ·)) : Bool) = true := by kernel_rfl
theorem j_18 : ((Rows.OpenSpec.upto Rows.agentBasicsSpec).bare.vars.all (Tryz.prog.varReadable ·) : Bool) = true := by kernel_rfl
theorem j_23 : (Rows.agentBasicsUptoRow.shortTexts.isNone : Bool) = true := by kernel_rfl
theorem j_27 : ((Tryz.prog.make == some Rows.agentBasicsUptoRow.make) : Bool) = true := by kernel_rfl
theorem j_31 : (Rows.agentBasicsUptoRow.veiledFits Tryz.prog Tryz.f3.params.toList (Tryz.f3.params.toList ++ (Rows.OpenSpec.upto Rows.agentBasicsSpec).bare.plain.varTypes Tryz.prog ++ Tryz.f3.resultTypes.toList) : Bool) = true := by kernel_rfl
end Go.Proofs.YtdjaccnocaffjaaGreatDoor

/-
  Closed facts of the row AgentBasicsUpto, one by one.
-/

set_option maxRecDepth 100000
set_option linter.unusedVariables false
namespace Go.Proofs.YtdjaccnocaffjaaGreatDoor
open Go
theorem j_5 : ((Rows.agentBasicsUptoRow.stops == []) : Bool) = true := by kernel_rfl
theorem j_13 : ((Rows.agentBasicsUptoRow.maps == (Tryz.f3.params.toList ++ (Rows.OpenSpec.upto Rows.agentBasicsSpec).bare.plain.varTypes Tryz.prog).any (Tryz.prog.mapsRec ·)) : Bool) = true := by kernel_rfl
theorem j_17 : ((Rows.agentBasicsUptoRow.wideKeys == (Tryz.f3.params.toList ++ (Rows.OpenSpec.upto Rows.agentBasicsSpec).bare.plain.varTypes Tryz.prog ++ Tryz.f3.resultTypes.toList).any (Tryz.prog.wideKeysFrom ·)) : Bool) = true := by kernel_rfl
theorem j_21 : ((Rows.agentBasicsUptoRow.loopsOut == Tryz.f3.resultTypes.toList.any (Tryz.prog.loopsFrom ·)) : Bool) = true := by kernel_rfl
theorem j_26 : ((Rows.agentBasicsUptoRow.lifted == Tryz.prog.liftsFinal) : Bool) = true := by kernel_rfl
theorem j_30 : ((Rows.agentBasicsUptoRow.veiled == (Tryz.f3.params.toList ++ (Rows.OpenSpec.upto Rows.agentBasicsSpec).bare.plain.varTypes Tryz.prog ++ Tryz.f3.resultTypes.toList).any (Tryz.prog.veiledRec ·)) : Bool) = true := by kernel_rfl
end Go.Proofs.YtdjaccnocaffjaaGreatDoor
