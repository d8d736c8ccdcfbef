/-
  The witness's arguments are small.
-/
import Derived.Test.YtbfoocginkdmcaaGreatDoorKXf

set_option maxRecDepth 100000
set_option linter.unusedVariables false
namespace Go.Proofs.YtbfoocginkdmcaaGreatDoor
open Go Go.Ev
theorem w_sz {H : Type} (enc : TypeId × Value → H) (os : Os) : (Rows.OpenSpec.upto Rows.serverBackSpec).bare.sizedB enc Tryz.prog Tryz.f6 false ((laidW os).forCall (fun _ _ => 0) ⟨#[], argsW, []⟩).memory argsW 8 = true := by kernel_rfl
end Go.Proofs.YtbfoocginkdmcaaGreatDoor
