/-
  Closed facts of the row EndpointNil: where it lies, what is in its place.
-/
import Derived.Test.YtamkgmbalokjoaaGreatDoorKYb

set_option maxRecDepth 100000
set_option linter.unusedVariables false
namespace Go.Proofs.YtamkgmbalokjoaaGreatDoor
open Go
theorem n_ip : (Rows.endpointNilRow.inPlace == Tryz.prog.inPlace 3) = true := by
  unfold Program.inPlace
  rw [n_cl]
  kernel_rfl
theorem n_un : Tryz.prog.unfollowed 3 = true := by
  unfold Program.unfollowed
  rw [n_cl]
  kernel_rfl
theorem n_uf : (Rows.endpointNilRow.unfollowed == Tryz.prog.unfollowed 3) = true := by
  rw [n_un]
  rfl
theorem n_re : Tryz.prog.recurses 3 = true := by
  unfold Program.recurses
  rw [n_un]
  exact Bool.true_or _
theorem n_rc : (Rows.endpointNilRow.recurses == Tryz.prog.recurses 3) = true := by
  rw [n_re]
  rfl
theorem n_fn : Tryz.prog.funcNamed "wicket/wicketlaw16.EndpointNil" = some 3 := by kernel_rfl
theorem n_wrap : Tryz.f3.isWrapper Tryz.prog Rows.endpointNilRow.wrapper Rows.endpointNilRow.mainSum := by
  unfold Func.isWrapper
  first | (rw [if_pos (by decide +kernel)]; kernel_rfl) | (rw [if_neg (by decide +kernel)]; exact ⟨rfl, rfl⟩)
end Go.Proofs.YtamkgmbalokjoaaGreatDoor
