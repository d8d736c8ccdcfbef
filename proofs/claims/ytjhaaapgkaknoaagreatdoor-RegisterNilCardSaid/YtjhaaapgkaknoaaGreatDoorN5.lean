/-
  Closed facts of the row and the card RegisterNil, each by the kernel.
-/
import Derived.Test.YtjhaaapgkaknoaaGreatDoorKY
import Derived.Test.YtjhaaapgkaknoaaGreatDoorRows
import Derived.Test.YtjhaaapgkaknoaaGreatDoorCards
import Derived.JoinedOf
import Derived.KernelRfl
import Derived.SevenTiedAt

set_option maxRecDepth 100000
namespace Go.Proofs.YtjhaaapgkaknoaaGreatDoor
open Go
theorem l_ip : (Rows.registerNilRow.inPlace == Tryz.prog.inPlace 4) = true := by kernel_rfl
theorem l_uf : (Rows.registerNilRow.unfollowed == Tryz.prog.unfollowed 4) = true := by kernel_rfl
theorem l_rc : (Rows.registerNilRow.recurses == Tryz.prog.recurses 4) = true := by kernel_rfl
theorem l_nm : (Rows.registerNilRow.named == Tryz.prog.varsNamed 4) = true := by kernel_rfl
theorem l_facts : joinedFacts Tryz.prog 4 Tryz.f4 Rows.registerNilSpec Rows.registerNilRow = true := by
  unfold joinedFacts
  rw [l_ip, l_uf, l_rc, l_nm]
  kernel_rfl
theorem l_fn : Tryz.prog.funcNamed "wicket/wicketlaw21.RegisterNil" = some 4 := by kernel_rfl
theorem l_wrap : Tryz.f4.isWrapper Tryz.prog Rows.registerNilRow.wrapper Rows.registerNilRow.mainSum := by
  unfold Func.isWrapper
  first | (rw [if_pos (by decide +kernel)]; kernel_rfl) | (rw [if_neg (by decide +kernel)]; exact ⟨rfl, rfl⟩)
theorem l_wf : Rows.registerNilRow.wfByText (OpenSpec.ofChange Rows.registerNilSpec) = true := by kernel_rfl
end Go.Proofs.YtjhaaapgkaknoaaGreatDoor
