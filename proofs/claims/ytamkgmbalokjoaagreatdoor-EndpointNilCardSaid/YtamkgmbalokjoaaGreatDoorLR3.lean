/-
  A part of the evaluator for closed runs: proved once over any program.
-/
import Derived.Test.YtamkgmbalokjoaaGreatDoorLE
set_option maxRecDepth 100000
namespace Go.Proofs.YtamkgmbalokjoaaGreatDoor.L
open Go Go.Ev
noncomputable section
/-- 6548 operations -/
theorem run1 : chk e1 ((evCall cx kn [] 1000000 80).fn e1.f e1.args e1.m) = true := by decide +kernel
/-- 7334 operations -/
theorem run18 : chk e18 ((evCall cx kn [] 1000000 80).fn e18.f e18.args e18.m) = true := by decide +kernel
/-- 5032 operations -/
theorem run25 : chk e25 ((evCall cx kn [e24] 1000000 80).fn e25.f e25.args e25.m) = true := by decide +kernel
/-- 4100 operations -/
theorem run28 : chk e28 ((evCall cx kn [] 1000000 80).fn e28.f e28.args e28.m) = true := by decide +kernel
/-- 10779 operations -/
theorem run51 : chk e51 ((evCall cx kn [] 1000000 80).fn e51.f e51.args e51.m) = true := by decide +kernel
/-- 384 operations -/
theorem run75 : chk e75 ((evCall cx kn [] 1000000 80).fn e75.f e75.args e75.m) = true := by decide +kernel
/-- 7681 operations -/
theorem run82 : chk e82 ((evCall cx kn [] 1000000 80).fn e82.f e82.args e82.m) = true := by decide +kernel
/-- 740 operations -/
theorem run88 : chk e88 ((evCall cx kn [e87] 1000000 80).fn e88.f e88.args e88.m) = true := by decide +kernel
/-- 414 operations -/
theorem run97 : chk e97 ((evCall cx kn [] 1000000 80).fn e97.f e97.args e97.m) = true := by decide +kernel
/-- 484 operations -/
theorem run103 : chk e103 ((evCall cx kn [] 1000000 80).fn e103.f e103.args e103.m) = true := by decide +kernel
/-- 354 operations -/
theorem run106 : chk e106 ((evCall cx kn [] 1000000 80).fn e106.f e106.args e106.m) = true := by decide +kernel
/-- 284 operations -/
theorem run121 : chk e121 ((evCall cx kn [] 1000000 80).fn e121.f e121.args e121.m) = true := by decide +kernel
/-- 324 operations -/
theorem run123 : chk e123 ((evCall cx kn [] 1000000 80).fn e123.f e123.args e123.m) = true := by decide +kernel
/-- 534 operations -/
theorem run165 : chk e165 ((evCall cx kn [] 1000000 80).fn e165.f e165.args e165.m) = true := by decide +kernel
/-- 1143 operations -/
theorem run174 : chk e174 ((evCall cx kn [] 1000000 80).fn e174.f e174.args e174.m) = true := by decide +kernel
end
end Go.Proofs.YtamkgmbalokjoaaGreatDoor.L
