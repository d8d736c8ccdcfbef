/-
  A part of the evaluator for closed runs: proved once over any program.
-/
import Derived.Test.YtdjaccnocaffjaaGreatDoorLE
set_option maxRecDepth 100000
namespace Go.Proofs.YtdjaccnocaffjaaGreatDoor.L
open Go Go.Ev
noncomputable section
/-- 3517 operations -/
theorem run6 : chk e6 ((evCall cx kn [] 1000000 80).fn e6.f e6.args e6.m) = true := by decide +kernel
/-- 3005 operations -/
theorem run12 : chk e12 ((evCall cx kn [] 1000000 80).fn e12.f e12.args e12.m) = true := by decide +kernel
/-- 6968 operations -/
theorem run20 : chk e20 ((evCall cx kn [e11, e15, e19] 1000000 80).fn e20.f e20.args e20.m) = true := by decide +kernel
/-- 6174 operations -/
theorem run23 : chk e23 ((evCall cx kn [e22] 1000000 80).fn e23.f e23.args e23.m) = true := by decide +kernel
/-- 7841 operations -/
theorem run32 : chk e32 ((evCall cx kn [e31] 1000000 80).fn e32.f e32.args e32.m) = true := by decide +kernel
/-- 5357 operations -/
theorem run34 : chk e34 ((evCall cx kn [] 1000000 80).fn e34.f e34.args e34.m) = true := by decide +kernel
/-- 394 operations -/
theorem run75 : chk e75 ((evCall cx kn [] 1000000 80).fn e75.f e75.args e75.m) = true := by decide +kernel
/-- 494 operations -/
theorem run82 : chk e82 ((evCall cx kn [] 1000000 80).fn e82.f e82.args e82.m) = true := by decide +kernel
/-- 7681 operations -/
theorem run95 : chk e95 ((evCall cx kn [] 1000000 80).fn e95.f e95.args e95.m) = true := by decide +kernel
/-- 424 operations -/
theorem run100 : chk e100 ((evCall cx kn [] 1000000 80).fn e100.f e100.args e100.m) = true := by decide +kernel
/-- 304 operations -/
theorem run116 : chk e116 ((evCall cx kn [] 1000000 80).fn e116.f e116.args e116.m) = true := by decide +kernel
/-- 354 operations -/
theorem run134 : chk e134 ((evCall cx kn [] 1000000 80).fn e134.f e134.args e134.m) = true := by decide +kernel
/-- 364 operations -/
theorem run140 : chk e140 ((evCall cx kn [] 1000000 80).fn e140.f e140.args e140.m) = true := by decide +kernel
/-- 254 operations -/
theorem run160 : chk e160 ((evCall cx kn [] 1000000 80).fn e160.f e160.args e160.m) = true := by decide +kernel
/-- 7692 operations -/
theorem run181 : chk e181 ((evCall cx kn [e180] 1000000 80).fn e181.f e181.args e181.m) = true := by decide +kernel
end
end Go.Proofs.YtdjaccnocaffjaaGreatDoor.L
