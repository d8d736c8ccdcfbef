/-
  Closed facts of the row AgentBasicsUpto, one by one.
-/
import Derived.Test.YtdjaccnocaffjaaGreatDoorRows
import Derived.JoinedOf
import Derived.KernelRfl

set_option maxRecDepth 100000
set_option linter.unusedVariables false
namespace Go.Proofs.YtdjaccnocaffjaaGreatDoor
open Go
theorem j_4 : (namedTie Tryz.prog Rows.agentBasicsUptoRow.named (Rows.OpenSpec.upto Rows.agentBasicsSpec).bare.vars : Bool) = true := by kernel_rfl
theorem j_8 : ((Tryz.prog.stopKnobs == []) : Bool) = true := by kernel_rfl
theorem j_16 : ((Rows.agentBasicsUptoRow.loops == (Tryz.f3.params.toList ++ (Rows.OpenSpec.upto Rows.agentBasicsSpec).bare.plain.varTypes Tryz.prog).any (Tryz.prog.loopsFrom ·)) : Bool) = true := by kernel_rfl
theorem j_20 : ((Rows.agentBasicsUptoRow.ifacesOut == Tryz.f3.resultTypes.toList.any (Tryz.prog.ifacesRec ·)) : Bool) = true := by kernel_rfl
theorem j_25 : (Tryz.prog.mayEnter : Bool) = true := by kernel_rfl
theorem j_29 : ((Rows.agentBasicsUptoRow.pinned == Rows.agentBasicsUptoRow.pinnedBy) : Bool) = true := by kernel_rfl
end Go.Proofs.YtdjaccnocaffjaaGreatDoor
