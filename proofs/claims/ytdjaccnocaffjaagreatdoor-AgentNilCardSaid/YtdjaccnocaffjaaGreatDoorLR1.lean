/-
  A part of the evaluator for closed runs: proved once over any program.
-/
import Derived.Test.YtdjaccnocaffjaaGreatDoorLE
set_option maxRecDepth 100000
namespace Go.Proofs.YtdjaccnocaffjaaGreatDoor.L
open Go Go.Ev
noncomputable section
/-- 6545 operations -/
theorem run30 : chk e30 ((evCall cx kn [] 1000000 80).fn e30.f e30.args e30.m) = true := by decide +kernel
/-- 7344 operations -/
theorem run38 : chk e38 ((evCall cx kn [e35, e36, e37] 1000000 80).fn e38.f e38.args e38.m) = true := by decide +kernel
/-- 5717 operations -/
theorem run39 : chk e39 ((evCall cx kn [] 1000000 80).fn e39.f e39.args e39.m) = true := by decide +kernel
/-- 3235 operations -/
theorem run41 : chk e41 ((evCall cx kn [] 1000000 80).fn e41.f e41.args e41.m) = true := by decide +kernel
/-- 7681 operations -/
theorem run54 : chk e54 ((evCall cx kn [] 1000000 80).fn e54.f e54.args e54.m) = true := by decide +kernel
/-- 13431 operations -/
theorem run68 : chk e68 ((evCall cx kn [] 1000000 80).fn e68.f e68.args e68.m) = true := by decide +kernel
/-- 524 operations -/
theorem run72 : chk e72 ((evCall cx kn [] 1000000 80).fn e72.f e72.args e72.m) = true := by decide +kernel
/-- 454 operations -/
theorem run74 : chk e74 ((evCall cx kn [] 1000000 80).fn e74.f e74.args e74.m) = true := by decide +kernel
/-- 404 operations -/
theorem run87 : chk e87 ((evCall cx kn [] 1000000 80).fn e87.f e87.args e87.m) = true := by decide +kernel
/-- 314 operations -/
theorem run98 : chk e98 ((evCall cx kn [] 1000000 80).fn e98.f e98.args e98.m) = true := by decide +kernel
/-- 354 operations -/
theorem run119 : chk e119 ((evCall cx kn [] 1000000 80).fn e119.f e119.args e119.m) = true := by decide +kernel
/-- 284 operations -/
theorem run141 : chk e141 ((evCall cx kn [] 1000000 80).fn e141.f e141.args e141.m) = true := by decide +kernel
/-- 384 operations -/
theorem run143 : chk e143 ((evCall cx kn [] 1000000 80).fn e143.f e143.args e143.m) = true := by decide +kernel
/-- 4362 operations -/
theorem run182 : chk e182 ((evCall cx kn [e181] 1000000 80).fn e182.f e182.args e182.m) = true := by decide +kernel
end
end Go.Proofs.YtdjaccnocaffjaaGreatDoor.L
