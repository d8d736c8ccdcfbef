/-
  Pieces of the cut run, each run in the kernel.
-/
import Derived.Test.YtjhaaapgkaknoaaGreatDoorLE

set_option maxRecDepth 100000
namespace Go.Proofs.YtjhaaapgkaknoaaGreatDoor.L
open Go Go.Ev
noncomputable section
/-- 4704 operations -/
theorem run4 : chk e4 ((evCall cx kn [] 1000000 80).fn e4.f e4.args e4.m) = true := by decide +kernel
/-- 2653 operations -/
theorem run5 : chk e5 ((evCall cx kn [] 1000000 80).fn e5.f e5.args e5.m) = true := by decide +kernel
/-- 1702 operations -/
theorem run6 : chk e6 ((evCall cx kn [] 1000000 80).fn e6.f e6.args e6.m) = true := by decide +kernel
/-- 1838 operations -/
theorem run11 : chk e11 ((evCall cx kn [] 1000000 80).fn e11.f e11.args e11.m) = true := by decide +kernel
/-- 7810 operations -/
theorem run14 : chk e14 ((evCall cx kn [e5, e6, e7, e8, e9, e10, e11, e12, e13] 1000000 80).fn e14.f e14.args e14.m) = true := by decide +kernel
/-- 6986 operations -/
theorem run16 : chk e16 ((evCall cx kn [] 1000000 80).fn e16.f e16.args e16.m) = true := by decide +kernel
/-- 6764 operations -/
theorem run17 : chk e17 ((evCall cx kn [] 1000000 80).fn e17.f e17.args e17.m) = true := by decide +kernel
end
end Go.Proofs.YtjhaaapgkaknoaaGreatDoor.L
