/-
  Closed facts of the row AgentNil, one by one.
-/
import Derived.Test.YtdjaccnocaffjaaGreatDoorRows
import Derived.JoinedOf
import Derived.KernelRfl

set_option maxRecDepth 100000
set_option linter.unusedVariables false
namespace Go.Proofs.YtdjaccnocaffjaaGreatDoor
open Go
theorem j_4 : (namedTie Tryz.prog Rows.agentNilRow.named Rows.agentNilSpec.vars : Bool) = true := by kernel_rfl
theorem j_8 : ((Tryz.prog.stopKnobs == []) : Bool) = true := by kernel_rfl
theorem j_16 : ((Rows.agentNilRow.loops == (Tryz.f4.params.toList ++ Rows.agentNilSpec.plain.varTypes Tryz.prog).any (Tryz.prog.loopsFrom ·)) : Bool) = true := by kernel_rfl
theorem j_20 : ((Rows.agentNilRow.ifacesOut == Tryz.f4.resultTypes.toList.any (Tryz.prog.ifacesRec ·)) : Bool) = true := by kernel_rfl
theorem j_25 : (Tryz.prog.mayEnter : Bool) = true := by kernel_rfl
theorem j_29 : ((Rows.agentNilRow.pinned == Rows.agentNilRow.pinnedBy) : Bool) = true := by kernel_rfl
end Go.Proofs.YtdjaccnocaffjaaGreatDoor
