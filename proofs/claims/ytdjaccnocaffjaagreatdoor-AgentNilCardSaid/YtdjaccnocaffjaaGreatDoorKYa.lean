/-
  Closed facts of the row AgentNil: where it lies, what is in its place.
-/
import Derived.Test.YtdjaccnocaffjaaGreatDoorKYb
import Derived.Test.YtdjaccnocaffjaaGreatDoorKNM

set_option maxRecDepth 100000
set_option linter.unusedVariables false
namespace Go.Proofs.YtdjaccnocaffjaaGreatDoor
open Go
theorem n_ip : (Rows.agentNilRow.inPlace == Tryz.prog.inPlace 4) = true := by
  unfold Program.inPlace
  rw [n_cl]
  kernel_rfl
theorem n_un : Tryz.prog.unfollowed 4 = true := by
  unfold Program.unfollowed
  rw [n_cl]
  kernel_rfl
theorem n_uf : (Rows.agentNilRow.unfollowed == Tryz.prog.unfollowed 4) = true := by
  rw [n_un]
  rfl
theorem n_re : Tryz.prog.recurses 4 = true := by
  unfold Program.recurses
  rw [n_un]
  exact Bool.true_or _
theorem n_rc : (Rows.agentNilRow.recurses == Tryz.prog.recurses 4) = true := by
  rw [n_re]
  rfl
theorem n_fn : Tryz.prog.funcNamed "wicket/wicketlaw24.AgentNil" = some 4 := law_named1
theorem n_wrap : Tryz.f4.isWrapper Tryz.prog Rows.agentNilRow.wrapper Rows.agentNilRow.mainSum := by
  unfold Func.isWrapper
  first | (rw [if_pos (by decide +kernel)]; kernel_rfl) | (rw [if_neg (by decide +kernel)]; exact ⟨rfl, rfl⟩)
end Go.Proofs.YtdjaccnocaffjaaGreatDoor
