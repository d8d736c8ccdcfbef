/-
  Closed facts of the row ServerNames: where it lies, what is in its place.
-/
import Derived.Test.YtddldbdopenabaaGreatDoorKYb

set_option maxRecDepth 100000
set_option linter.unusedVariables false
namespace Go.Proofs.YtddldbdopenabaaGreatDoor
open Go
theorem n_ip : (Rows.serverNamesRow.inPlace == Tryz.prog.inPlace 3) = true := by
  unfold Program.inPlace
  rw [n_cl]
  kernel_rfl
theorem n_un : Tryz.prog.unfollowed 3 = true := by
  unfold Program.unfollowed
  rw [n_cl]
  kernel_rfl
theorem n_uf : (Rows.serverNamesRow.unfollowed == Tryz.prog.unfollowed 3) = true := by
  rw [n_un]
  rfl
theorem n_re : Tryz.prog.recurses 3 = true := by
  unfold Program.recurses
  rw [n_un]
  exact Bool.true_or _
theorem n_rc : (Rows.serverNamesRow.recurses == Tryz.prog.recurses 3) = true := by
  rw [n_re]
  rfl
theorem n_fn : Tryz.prog.funcNamed "wicket/wicketlaw17.ServerNames" = some 3 := by kernel_rfl
theorem n_wrap : Tryz.f3.isWrapper Tryz.prog Rows.serverNamesRow.wrapper Rows.serverNamesRow.mainSum := by
  unfold Func.isWrapper
  first | (rw [if_pos (by decide +kernel)]; kernel_rfl) | (rw [if_neg (by decide +kernel)]; exact ⟨rfl, rfl⟩)
end Go.Proofs.YtddldbdopenabaaGreatDoor
