/-
  Pieces of the cut run, each run in the kernel.
-/
import Derived.Test.YtjhaaapgkaknoaaGreatDoorLE

set_option maxRecDepth 100000
namespace Go.Proofs.YtjhaaapgkaknoaaGreatDoor.L
open Go Go.Ev
noncomputable section
/-- 5830 operations -/
theorem run0 : chk e0 ((evCall cx kn [] 1000000 80).fn e0.f e0.args e0.m) = true := by decide +kernel
/-- 13380 operations -/
theorem run1 : chk e1 ((evCall cx kn [] 1000000 80).fn e1.f e1.args e1.m) = true := by decide +kernel
/-- 6929 operations -/
theorem run3 : chk e3 ((evCall cx kn [] 1000000 80).fn e3.f e3.args e3.m) = true := by decide +kernel
/-- 1362 operations -/
theorem run7 : chk e7 ((evCall cx kn [] 1000000 80).fn e7.f e7.args e7.m) = true := by decide +kernel
/-- 1770 operations -/
theorem run8 : chk e8 ((evCall cx kn [] 1000000 80).fn e8.f e8.args e8.m) = true := by decide +kernel
/-- 3517 operations -/
theorem run9 : chk e9 ((evCall cx kn [] 1000000 80).fn e9.f e9.args e9.m) = true := by decide +kernel
end
end Go.Proofs.YtjhaaapgkaknoaaGreatDoor.L
