/-
  Closed facts of the row ServerBackUpto: where it lies, what is in its place.
-/
import Derived.Test.YtbfoocginkdmcaaGreatDoorKYb
import Derived.Test.YtbfoocginkdmcaaGreatDoorKNM

set_option maxRecDepth 100000
set_option linter.unusedVariables false
namespace Go.Proofs.YtbfoocginkdmcaaGreatDoor
open Go
theorem n_ip : (Rows.serverBackUptoRow.inPlace == Tryz.prog.inPlace 6) = true := by
  unfold Program.inPlace
  rw [n_cl]
  kernel_rfl
theorem n_un : Tryz.prog.unfollowed 6 = true := by
  unfold Program.unfollowed
  rw [n_cl]
  kernel_rfl
theorem n_uf : (Rows.serverBackUptoRow.unfollowed == Tryz.prog.unfollowed 6) = true := by
  rw [n_un]
  rfl
theorem n_re : Tryz.prog.recurses 6 = true := by
  unfold Program.recurses
  rw [n_un]
  exact Bool.true_or _
theorem n_rc : (Rows.serverBackUptoRow.recurses == Tryz.prog.recurses 6) = true := by
  rw [n_re]
  rfl
theorem n_fn : Tryz.prog.funcNamed "wicket/wicketlaw17.ServerBack" = some 6 := law_named0
theorem n_wrap : Tryz.f6.isWrapper Tryz.prog Rows.serverBackUptoRow.wrapper Rows.serverBackUptoRow.mainSum := by
  unfold Func.isWrapper
  first | (rw [if_pos (by decide +kernel)]; kernel_rfl) | (rw [if_neg (by decide +kernel)]; exact ⟨rfl, rfl⟩)
end Go.Proofs.YtbfoocginkdmcaaGreatDoor
