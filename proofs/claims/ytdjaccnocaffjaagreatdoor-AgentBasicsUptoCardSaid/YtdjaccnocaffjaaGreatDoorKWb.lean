/-
  No unnamed type has the sentinels' name.
-/
import Derived.Test.YtdjaccnocaffjaaGreatDoorProg
import Derived.LaidLaws
import Derived.KernelRfl

set_option maxRecDepth 100000
namespace Go.Proofs.YtdjaccnocaffjaaGreatDoor
open Go
theorem sent_named : ((List.range Tryz.prog.types.size).all fun e => Tryz.prog.typeName? 2 e != some "errors.errorString" || (match (Tryz.prog.info? e).map (·.desc) with | some (TypeDesc.named _ _) => true | _ => false)) = true := by kernel_rfl
end Go.Proofs.YtdjaccnocaffjaaGreatDoor
