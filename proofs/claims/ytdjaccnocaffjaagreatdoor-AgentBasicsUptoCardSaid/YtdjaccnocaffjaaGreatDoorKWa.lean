/-
  The type of the sentinels' pointers is the one of its name.
-/
import Derived.Test.YtdjaccnocaffjaaGreatDoorProg
import Derived.LaidLaws
import Derived.KernelRfl

set_option maxRecDepth 100000
namespace Go.Proofs.YtdjaccnocaffjaaGreatDoor
open Go
theorem sent_rows : ((List.range Tryz.prog.types.size).all fun u => Tryz.prog.typeName? 3 u != some ("*" ++ "errors.errorString") || u == 477) = true := by kernel_rfl
end Go.Proofs.YtdjaccnocaffjaaGreatDoor
