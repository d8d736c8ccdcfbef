/-
  A part of the evaluator for closed runs: proved once over any program.
-/
import Derived.Test.YtdjaccnocaffjaaGreatDoorLE
set_option maxRecDepth 100000
namespace Go.Proofs.YtdjaccnocaffjaaGreatDoor.L
open Go Go.Ev
noncomputable section
/-- 5696 operations -/
theorem run11 : chk e11 ((evCall cx kn [e2, e5, e10] 1000000 80).fn e11.f e11.args e11.m) = true := by decide +kernel
/-- 3005 operations -/
theorem run16 : chk e16 ((evCall cx kn [] 1000000 80).fn e16.f e16.args e16.m) = true := by decide +kernel
/-- 6329 operations -/
theorem run18 : chk e18 ((evCall cx kn [e16, e17] 1000000 80).fn e18.f e18.args e18.m) = true := by decide +kernel
/-- 3728 operations -/
theorem run22 : chk e22 ((evCall cx kn [] 1000000 80).fn e22.f e22.args e22.m) = true := by decide +kernel
/-- 7334 operations -/
theorem run24 : chk e24 ((evCall cx kn [] 1000000 80).fn e24.f e24.args e24.m) = true := by decide +kernel
/-- 15030 operations -/
theorem run58 : chk e58 ((evCall cx kn [] 1000000 80).fn e58.f e58.args e58.m) = true := by decide +kernel
/-- 384 operations -/
theorem run83 : chk e83 ((evCall cx kn [] 1000000 80).fn e83.f e83.args e83.m) = true := by decide +kernel
/-- 414 operations -/
theorem run85 : chk e85 ((evCall cx kn [] 1000000 80).fn e85.f e85.args e85.m) = true := by decide +kernel
/-- 7681 operations -/
theorem run90 : chk e90 ((evCall cx kn [] 1000000 80).fn e90.f e90.args e90.m) = true := by decide +kernel
/-- 354 operations -/
theorem run103 : chk e103 ((evCall cx kn [] 1000000 80).fn e103.f e103.args e103.m) = true := by decide +kernel
/-- 494 operations -/
theorem run107 : chk e107 ((evCall cx kn [] 1000000 80).fn e107.f e107.args e107.m) = true := by decide +kernel
/-- 294 operations -/
theorem run147 : chk e147 ((evCall cx kn [] 1000000 80).fn e147.f e147.args e147.m) = true := by decide +kernel
/-- 354 operations -/
theorem run167 : chk e167 ((evCall cx kn [] 1000000 80).fn e167.f e167.args e167.m) = true := by decide +kernel
end
end Go.Proofs.YtdjaccnocaffjaaGreatDoor.L
set_option maxRecDepth 100000
namespace Go.Proofs.YtdjaccnocaffjaaGreatDoor.L
open Go Go.Ev
noncomputable section
/-- 6545 operations -/
theorem run30 : chk e30 ((evCall cx kn [] 1000000 80).fn e30.f e30.args e30.m) = true := by decide +kernel
/-- 7344 operations -/
theorem run38 : chk e38 ((evCall cx kn [e35, e36, e37] 1000000 80).fn e38.f e38.args e38.m) = true := by decide +kernel
/-- 5717 operations -/
theorem run39 : chk e39 ((evCall cx kn [] 1000000 80).fn e39.f e39.args e39.m) = true := by decide +kernel
/-- 3235 operations -/
theorem run41 : chk e41 ((evCall cx kn [] 1000000 80).fn e41.f e41.args e41.m) = true := by decide +kernel
/-- 7681 operations -/
theorem run54 : chk e54 ((evCall cx kn [] 1000000 80).fn e54.f e54.args e54.m) = true := by decide +kernel
/-- 13431 operations -/
theorem run68 : chk e68 ((evCall cx kn [] 1000000 80).fn e68.f e68.args e68.m) = true := by decide +kernel
/-- 524 operations -/
theorem run72 : chk e72 ((evCall cx kn [] 1000000 80).fn e72.f e72.args e72.m) = true := by decide +kernel
/-- 454 operations -/
theorem run74 : chk e74 ((evCall cx kn [] 1000000 80).fn e74.f e74.args e74.m) = true := by decide +kernel
/-- 404 operations -/
theorem run87 : chk e87 ((evCall cx kn [] 1000000 80).fn e87.f e87.args e87.m) = true := by decide +kernel
/-- 314 operations -/
theorem run98 : chk e98 ((evCall cx kn [] 1000000 80).fn e98.f e98.args e98.m) = true := by decide +kernel
/-- 354 operations -/
theorem run119 : chk e119 ((evCall cx kn [] 1000000 80).fn e119.f e119.args e119.m) = true := by decide +kernel
/-- 284 operations -/
theorem run141 : chk e141 ((evCall cx kn [] 1000000 80).fn e141.f e141.args e141.m) = true := by decide +kernel
/-- 384 operations -/
theorem run143 : chk e143 ((evCall cx kn [] 1000000 80).fn e143.f e143.args e143.m) = true := by decide +kernel
/-- 4362 operations -/
theorem run182 : chk e182 ((evCall cx kn [e181] 1000000 80).fn e182.f e182.args e182.m) = true := by decide +kernel
end
end Go.Proofs.YtdjaccnocaffjaaGreatDoor.L
