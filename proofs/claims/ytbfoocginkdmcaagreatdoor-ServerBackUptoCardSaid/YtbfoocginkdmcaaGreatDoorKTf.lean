/-
  No place is laid twice.
-/
import Derived.Test.YtbfoocginkdmcaaGreatDoorKTa

namespace Go.Proofs.YtbfoocginkdmcaaGreatDoor
open Go
set_option maxRecDepth 100000
set_option linter.unusedVariables false
theorem tie_2' : ∀ os tape, (DataW.laidRun Tryz.prog (varsWorld Tryz.prog 400 652 os tape).memory 8 (tieL.map (·.1))).map (fun x => nodupBits 300 x.2 0 && laidRowsB Tryz.prog (varsWorld Tryz.prog 400 652 os tape).memory x.2) = some true := fun _ _ => by kernel_rfl
end Go.Proofs.YtbfoocginkdmcaaGreatDoor
