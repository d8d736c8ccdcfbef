/-
  Closed facts of the row AgentBasicsUpto: where it lies, what is in its place.
-/
import Derived.Test.YtdjaccnocaffjaaGreatDoorKYb
import Derived.Test.YtdjaccnocaffjaaGreatDoorKNM

set_option maxRecDepth 100000
set_option linter.unusedVariables false
namespace Go.Proofs.YtdjaccnocaffjaaGreatDoor
open Go
theorem n_ip : (Rows.agentBasicsUptoRow.inPlace == Tryz.prog.inPlace 3) = true := by
  unfold Program.inPlace
  rw [n_cl]
  kernel_rfl
theorem n_un : Tryz.prog.unfollowed 3 = true := by
  unfold Program.unfollowed
  rw [n_cl]
  kernel_rfl
theorem n_uf : (Rows.agentBasicsUptoRow.unfollowed == Tryz.prog.unfollowed 3) = true := by
  rw [n_un]
  rfl
theorem n_re : Tryz.prog.recurses 3 = true := by
  unfold Program.recurses
  rw [n_un]
  exact Bool.true_or _
theorem n_rc : (Rows.agentBasicsUptoRow.recurses == Tryz.prog.recurses 3) = true := by
  rw [n_re]
  rfl
theorem n_fn : Tryz.prog.funcNamed "wicket/wicketlaw24.AgentBasics" = some 3 := law_named0
theorem n_wrap : Tryz.f3.isWrapper Tryz.prog Rows.agentBasicsUptoRow.wrapper Rows.agentBasicsUptoRow.mainSum := by
  unfold Func.isWrapper
  first | (rw [if_pos (by decide +kernel)]; kernel_rfl) | (rw [if_neg (by decide +kernel)]; exact ⟨rfl, rfl⟩)
end Go.Proofs.YtdjaccnocaffjaaGreatDoor
