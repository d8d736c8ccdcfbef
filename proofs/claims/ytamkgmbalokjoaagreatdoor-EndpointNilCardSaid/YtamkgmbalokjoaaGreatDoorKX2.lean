/-
  EndpointNil: the row.
-/
import Derived.Test.YtamkgmbalokjoaaGreatDoorKX1
import Derived.Test.YtamkgmbalokjoaaGreatDoorKY

namespace Go.Proofs.YtamkgmbalokjoaaGreatDoor
open Go Go.ChangeShapes Go.WideShapes Go.ChangeAt Go.RowKit Go.Joins
set_option linter.unusedVariables false

theorem endpointNil_holds : Rows.EndpointNilSaid :=
  OpenClaim.holds_of_wide 3 Tryz.f3 rfl rfl rfl rfl rfl rfl rfl ⟨rfl, rfl, rfl, rfl, rfl⟩ rfl rfl rfl rfl rfl n_fn Tryz.func3 n_facts
    (of_decide_eq_true (by kernel_rfl)) n_wrap
    (fun os started H enc _ => names_lifted os started H enc)

end Go.Proofs.YtamkgmbalokjoaaGreatDoor
