/-
  ServerBackUpto: the row.
-/
import Derived.Test.YtbfoocginkdmcaaGreatDoorKX1
import Derived.Test.YtbfoocginkdmcaaGreatDoorKY
import Derived.JoinedCond

namespace Go.Proofs.YtbfoocginkdmcaaGreatDoor
open Go Go.ChangeShapes Go.WideShapes Go.ChangeAt Go.RowKit Go.Joins
set_option linter.unusedVariables false

theorem serverBackUpto_holds : Rows.ServerBackUptoSaid :=
  OpenClaim.holds_of_cond 6 Tryz.f6 rfl rfl rfl rfl rfl rfl rfl ⟨rfl, rfl, rfl, rfl, rfl⟩ rfl rfl rfl rfl rfl n_fn Tryz.func6 n_facts
    (of_decide_eq_true (by kernel_rfl)) n_wrap
    (fun os started H enc _ F => law_lifted os started H enc F)

end Go.Proofs.YtbfoocginkdmcaaGreatDoor
