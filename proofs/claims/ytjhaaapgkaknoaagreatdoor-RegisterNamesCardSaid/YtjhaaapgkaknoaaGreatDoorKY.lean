/-
  Closed facts of the row RegisterNames, each by the kernel.
-/
import Derived.Test.YtjhaaapgkaknoaaGreatDoorRows
import Derived.JoinedOf
import Derived.KernelRfl

set_option maxRecDepth 100000
namespace Go.Proofs.YtjhaaapgkaknoaaGreatDoor
open Go
theorem n_ip : (Rows.registerNamesRow.inPlace == Tryz.prog.inPlace 3) = true := by kernel_rfl
theorem n_uf : (Rows.registerNamesRow.unfollowed == Tryz.prog.unfollowed 3) = true := by kernel_rfl
theorem n_rc : (Rows.registerNamesRow.recurses == Tryz.prog.recurses 3) = true := by kernel_rfl
theorem n_nm : (Rows.registerNamesRow.named == Tryz.prog.varsNamed 3) = true := by kernel_rfl
theorem n_facts : joinedFacts Tryz.prog 3 Tryz.f3 Rows.registerNamesSpec Rows.registerNamesRow = true := by
  unfold joinedFacts
  rw [n_ip, n_uf, n_rc, n_nm]
  kernel_rfl
theorem n_fn : Tryz.prog.funcNamed "wicket/wicketlaw21.RegisterNames" = some 3 := by kernel_rfl
theorem n_wrap : Tryz.f3.isWrapper Tryz.prog Rows.registerNamesRow.wrapper Rows.registerNamesRow.mainSum := by
  unfold Func.isWrapper
  first | (rw [if_pos (by decide +kernel)]; kernel_rfl) | (rw [if_neg (by decide +kernel)]; exact ⟨rfl, rfl⟩)
end Go.Proofs.YtjhaaapgkaknoaaGreatDoor
