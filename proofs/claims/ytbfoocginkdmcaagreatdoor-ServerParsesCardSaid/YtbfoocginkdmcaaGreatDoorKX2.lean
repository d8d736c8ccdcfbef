/-
  ServerParses: the row.
-/
import Derived.Test.YtbfoocginkdmcaaGreatDoorKX1
import Derived.Test.YtbfoocginkdmcaaGreatDoorKY

namespace Go.Proofs.YtbfoocginkdmcaaGreatDoor
open Go Go.ChangeShapes Go.WideShapes Go.ChangeAt Go.RowKit Go.Joins
set_option linter.unusedVariables false

theorem serverParses_holds : Rows.ServerParsesSaid :=
  OpenClaim.holds_of_wide 3 Tryz.f3 rfl rfl rfl rfl rfl rfl rfl ⟨rfl, rfl, rfl, rfl, rfl⟩ rfl rfl rfl rfl rfl n_fn Tryz.func3 n_facts
    (of_decide_eq_true (by kernel_rfl)) n_wrap
    (fun os started H enc _ => law_lifted os started H enc)

end Go.Proofs.YtbfoocginkdmcaaGreatDoor
