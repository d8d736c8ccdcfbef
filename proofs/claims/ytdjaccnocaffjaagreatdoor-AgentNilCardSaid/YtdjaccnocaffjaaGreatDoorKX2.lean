/-
  AgentNil: the row.
-/
import Derived.Test.YtdjaccnocaffjaaGreatDoorKX1
import Derived.Test.YtdjaccnocaffjaaGreatDoorKY

namespace Go.Proofs.YtdjaccnocaffjaaGreatDoor
open Go Go.ChangeShapes Go.WideShapes Go.ChangeAt Go.RowKit Go.Joins
set_option linter.unusedVariables false

theorem agentNil_holds : Rows.AgentNilSaid :=
  OpenClaim.holds_of_wide 4 Tryz.f4 rfl rfl rfl rfl rfl rfl rfl ⟨rfl, rfl, rfl, rfl, rfl⟩ rfl rfl rfl rfl rfl n_fn Tryz.func4 n_facts
    (of_decide_eq_true (by kernel_rfl)) n_wrap
    (fun os started H enc _ => names_lifted os started H enc)

end Go.Proofs.YtdjaccnocaffjaaGreatDoor
