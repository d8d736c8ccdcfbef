/-
  AgentBasics: the row.
-/
import Derived.Test.YtdjaccnocaffjaaGreatDoorKX1
import Derived.Test.YtdjaccnocaffjaaGreatDoorKY
import Derived.JoinedCond

namespace Go.Proofs.YtdjaccnocaffjaaGreatDoor
open Go Go.ChangeShapes Go.WideShapes Go.ChangeAt Go.RowKit Go.Joins
set_option linter.unusedVariables false

theorem agentBasics_holds : Rows.AgentBasicsUptoSaid :=
  OpenClaim.holds_of_cond 3 Tryz.f3 rfl rfl rfl rfl rfl rfl rfl ⟨rfl, rfl, rfl, rfl, rfl⟩ rfl rfl rfl rfl rfl n_fn Tryz.func3 n_facts
    (of_decide_eq_true (by kernel_rfl)) n_wrap
    (fun os started H enc _ F => basics_lifted os started H enc F)

end Go.Proofs.YtdjaccnocaffjaaGreatDoor
