/-
  The world's shape behind the variables.
-/
import Derived.Test.YtbfoocginkdmcaaGreatDoorKXa
import Derived.KernelRfl

set_option maxRecDepth 100000
set_option linter.unusedVariables false
namespace Go.Proofs.YtbfoocginkdmcaaGreatDoor
open Go Go.Ev
theorem lay_rest (os : Os) : (((laidW os).forCall (fun _ _ => 0) ⟨#[], #[], []⟩).heap.toList.drop Tryz.prog.globals.size).take ((begin Tryz.prog (fun _ _ => 0) default).world.heap.size - Tryz.prog.globals.size) = (begin Tryz.prog (fun _ _ => 0) default).world.heap.toList.drop Tryz.prog.globals.size := by kernel_rfl
end Go.Proofs.YtbfoocginkdmcaaGreatDoor
