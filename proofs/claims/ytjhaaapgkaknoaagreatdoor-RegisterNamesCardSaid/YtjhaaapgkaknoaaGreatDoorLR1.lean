/-
  Pieces of the cut run, each run in the kernel.
-/
import Derived.Test.YtjhaaapgkaknoaaGreatDoorLE

set_option maxRecDepth 100000
namespace Go.Proofs.YtjhaaapgkaknoaaGreatDoor.L
open Go Go.Ev
noncomputable section
/-- 6796 operations -/
theorem run2 : chk e2 ((evCall cx kn [] 1000000 80).fn e2.f e2.args e2.m) = true := by decide +kernel
/-- 2906 operations -/
theorem run10 : chk e10 ((evCall cx kn [] 1000000 80).fn e10.f e10.args e10.m) = true := by decide +kernel
/-- 1621 operations -/
theorem run12 : chk e12 ((evCall cx kn [] 1000000 80).fn e12.f e12.args e12.m) = true := by decide +kernel
/-- 2178 operations -/
theorem run13 : chk e13 ((evCall cx kn [] 1000000 80).fn e13.f e13.args e13.m) = true := by decide +kernel
/-- 6080 operations -/
theorem run15 : chk e15 ((evCall cx kn [e0, e1, e2, e3, e4, e14] 1000000 80).fn e15.f e15.args e15.m) = true := by decide +kernel
/-- 13380 operations -/
theorem run18 : chk e18 ((evCall cx kn [] 1000000 80).fn e18.f e18.args e18.m) = true := by decide +kernel
end
end Go.Proofs.YtjhaaapgkaknoaaGreatDoor.L
