/-
  ServerNil: the row.
-/
import Derived.Test.YtbfoocginkdmcaaGreatDoorKX1
import Derived.Test.YtbfoocginkdmcaaGreatDoorKY

namespace Go.Proofs.YtbfoocginkdmcaaGreatDoor
open Go Go.ChangeShapes Go.WideShapes Go.ChangeAt Go.RowKit Go.Joins
set_option linter.unusedVariables false

theorem serverNil_holds : Rows.ServerNilSaid :=
  OpenClaim.holds_of_wide 4 Tryz.f4 rfl rfl rfl rfl rfl rfl rfl ⟨rfl, rfl, rfl, rfl, rfl⟩ rfl rfl rfl rfl rfl n_fn Tryz.func4 n_facts
    (of_decide_eq_true (by kernel_rfl)) n_wrap
    (fun os started H enc _ => nil_lifted os started H enc)

end Go.Proofs.YtbfoocginkdmcaaGreatDoor
