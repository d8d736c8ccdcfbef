/-
  A part of the evaluator for closed runs: proved once over any program.
-/
import Derived.Test.YtamkgmbalokjoaaGreatDoorLE
set_option maxRecDepth 100000
namespace Go.Proofs.YtamkgmbalokjoaaGreatDoor.L
open Go Go.Ev
noncomputable section
/-- 3005 operations -/
theorem run13 : chk e13 ((evCall cx kn [] 1000000 80).fn e13.f e13.args e13.m) = true := by decide +kernel
/-- 7205 operations -/
theorem run29 : chk e29 ((evCall cx kn [] 1000000 80).fn e29.f e29.args e29.m) = true := by decide +kernel
/-- 14962 operations -/
theorem run48 : chk e48 ((evCall cx kn [] 1000000 80).fn e48.f e48.args e48.m) = true := by decide +kernel
/-- 4634 operations -/
theorem run56 : chk e56 ((evCall cx kn [] 1000000 80).fn e56.f e56.args e56.m) = true := by decide +kernel
/-- 394 operations -/
theorem run71 : chk e71 ((evCall cx kn [] 1000000 80).fn e71.f e71.args e71.m) = true := by decide +kernel
/-- 7681 operations -/
theorem run87 : chk e87 ((evCall cx kn [] 1000000 80).fn e87.f e87.args e87.m) = true := by decide +kernel
/-- 364 operations -/
theorem run117 : chk e117 ((evCall cx kn [] 1000000 80).fn e117.f e117.args e117.m) = true := by decide +kernel
/-- 354 operations -/
theorem run125 : chk e125 ((evCall cx kn [] 1000000 80).fn e125.f e125.args e125.m) = true := by decide +kernel
/-- 304 operations -/
theorem run128 : chk e128 ((evCall cx kn [] 1000000 80).fn e128.f e128.args e128.m) = true := by decide +kernel
/-- 454 operations -/
theorem run156 : chk e156 ((evCall cx kn [] 1000000 80).fn e156.f e156.args e156.m) = true := by decide +kernel
/-- 574 operations -/
theorem run158 : chk e158 ((evCall cx kn [] 1000000 80).fn e158.f e158.args e158.m) = true := by decide +kernel
/-- 524 operations -/
theorem run161 : chk e161 ((evCall cx kn [] 1000000 80).fn e161.f e161.args e161.m) = true := by decide +kernel
/-- 254 operations -/
theorem run162 : chk e162 ((evCall cx kn [] 1000000 80).fn e162.f e162.args e162.m) = true := by decide +kernel
/-- 5959 operations -/
theorem run178 : chk e178 ((evCall cx kn [e1, e177] 1000000 80).fn e178.f e178.args e178.m) = true := by decide +kernel
end
end Go.Proofs.YtamkgmbalokjoaaGreatDoor.L
