/-
  The witness's arguments read.
-/
import Derived.Test.YtbfoocginkdmcaaGreatDoorKXf

set_option maxRecDepth 100000
set_option linter.unusedVariables false
namespace Go.Proofs.YtbfoocginkdmcaaGreatDoor
open Go Go.Ev
theorem w_pre {H : Type} (enc : TypeId × Value → H) (os : Os) : DataW.whole enc Tryz.prog ((laidW os).forCall (fun _ _ => 0) ⟨#[], argsW, []⟩).memory Tryz.f6.params.toList (Rows.OpenSpec.upto Rows.serverBackSpec).vars false argsW.toList 8 = some ([.nil, .lit (.string [])], [], []) := by kernel_rfl
theorem w_small (H : Type) : Rows.uptoSmall H ([.nil, .lit (.string [])] ++ []) = true := by kernel_rfl
end Go.Proofs.YtbfoocginkdmcaaGreatDoor
