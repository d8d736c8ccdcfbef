/-
  A part of the evaluator for closed runs: proved once over any program.
-/
import Derived.Test.YtamkgmbalokjoaaGreatDoorLE
set_option maxRecDepth 100000
namespace Go.Proofs.YtamkgmbalokjoaaGreatDoor.L
open Go Go.Ev
noncomputable section
/-- 6548 operations -/
theorem run0 : chk e0 ((evCall cx kn [] 1000000 80).fn e0.f e0.args e0.m) = true := by decide +kernel
/-- 1461 operations -/
theorem run8 : chk e8 ((evCall cx kn [] 1000000 80).fn e8.f e8.args e8.m) = true := by decide +kernel
/-- 4535 operations -/
theorem run31 : chk e31 ((evCall cx kn [e28, e29, e30] 1000000 80).fn e31.f e31.args e31.m) = true := by decide +kernel
/-- 7681 operations -/
theorem run35 : chk e35 ((evCall cx kn [] 1000000 80).fn e35.f e35.args e35.m) = true := by decide +kernel
/-- 7746 operations -/
theorem run42 : chk e42 ((evCall cx kn [e41] 1000000 80).fn e42.f e42.args e42.m) = true := by decide +kernel
/-- 5954 operations -/
theorem run47 : chk e47 ((evCall cx kn [e36, e37, e38, e46] 1000000 80).fn e47.f e47.args e47.m) = true := by decide +kernel
/-- 524 operations -/
theorem run64 : chk e64 ((evCall cx kn [] 1000000 80).fn e64.f e64.args e64.m) = true := by decide +kernel
/-- 464 operations -/
theorem run68 : chk e68 ((evCall cx kn [] 1000000 80).fn e68.f e68.args e68.m) = true := by decide +kernel
/-- 384 operations -/
theorem run78 : chk e78 ((evCall cx kn [] 1000000 80).fn e78.f e78.args e78.m) = true := by decide +kernel
/-- 7664 operations -/
theorem run89 : chk e89 ((evCall cx kn [e82, e83, e85, e86, e88] 1000000 80).fn e89.f e89.args e89.m) = true := by decide +kernel
/-- 314 operations -/
theorem run90 : chk e90 ((evCall cx kn [] 1000000 80).fn e90.f e90.args e90.m) = true := by decide +kernel
/-- 414 operations -/
theorem run102 : chk e102 ((evCall cx kn [] 1000000 80).fn e102.f e102.args e102.m) = true := by decide +kernel
/-- 354 operations -/
theorem run110 : chk e110 ((evCall cx kn [] 1000000 80).fn e110.f e110.args e110.m) = true := by decide +kernel
/-- 284 operations -/
theorem run133 : chk e133 ((evCall cx kn [] 1000000 80).fn e133.f e133.args e133.m) = true := by decide +kernel
/-- 594 operations -/
theorem run148 : chk e148 ((evCall cx kn [] 1000000 80).fn e148.f e148.args e148.m) = true := by decide +kernel
/-- 750 operations -/
theorem run171 : chk e171 ((evCall cx kn [] 1000000 80).fn e171.f e171.args e171.m) = true := by decide +kernel
end
end Go.Proofs.YtamkgmbalokjoaaGreatDoor.L
