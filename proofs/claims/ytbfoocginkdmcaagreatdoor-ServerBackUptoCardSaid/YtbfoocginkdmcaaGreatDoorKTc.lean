/-
  The words of the translation's head; the variables are named where they are laid.
-/
import Derived.Test.YtbfoocginkdmcaaGreatDoorKTa

namespace Go.Proofs.YtbfoocginkdmcaaGreatDoor
open Go
set_option maxRecDepth 100000
set_option linter.unusedVariables false
theorem tie_w : Tryz.prog.worded (varsWordLater true) = true := by kernel_rfl
theorem tie_v : Tryz.prog.worded (varsWordLater !true) = false := by kernel_rfl
theorem tie_r : Tryz.prog.worded rootWordLater = true := by kernel_rfl
theorem tie_k : tieL.map (fun x => Tryz.prog.kindOfLater x.1) = ([.data, .data, .data, .data, .sentinel, .sentinel, .data, .data, .data, .data, .data, .data, .data, .data] : List LaidKind).map some := by kernel_rfl
theorem tie_n : varsNamedLaterB Tryz.prog (varsId Tryz.prog) tieL = true := by
  rw [tie_id]
  kernel_rfl
end Go.Proofs.YtbfoocginkdmcaaGreatDoor
