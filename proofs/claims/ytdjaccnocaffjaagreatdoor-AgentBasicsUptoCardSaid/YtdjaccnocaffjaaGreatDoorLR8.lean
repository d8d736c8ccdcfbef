/-
  A part of the evaluator for closed runs: proved once over any program.
-/
import Derived.Test.YtdjaccnocaffjaaGreatDoorLE
set_option maxRecDepth 100000
namespace Go.Proofs.YtdjaccnocaffjaaGreatDoor.L
open Go Go.Ev
noncomputable section
/-- 3517 operations -/
theorem run6 : chk e6 ((evCall cx kn [] 1000000 80).fn e6.f e6.args e6.m) = true := by decide +kernel
/-- 3005 operations -/
theorem run12 : chk e12 ((evCall cx kn [] 1000000 80).fn e12.f e12.args e12.m) = true := by decide +kernel
/-- 6968 operations -/
theorem run20 : chk e20 ((evCall cx kn [e11, e15, e19] 1000000 80).fn e20.f e20.args e20.m) = true := by decide +kernel
/-- 6174 operations -/
theorem run23 : chk e23 ((evCall cx kn [e22] 1000000 80).fn e23.f e23.args e23.m) = true := by decide +kernel
/-- 7841 operations -/
theorem run32 : chk e32 ((evCall cx kn [e31] 1000000 80).fn e32.f e32.args e32.m) = true := by decide +kernel
/-- 5357 operations -/
theorem run34 : chk e34 ((evCall cx kn [] 1000000 80).fn e34.f e34.args e34.m) = true := by decide +kernel
/-- 394 operations -/
theorem run75 : chk e75 ((evCall cx kn [] 1000000 80).fn e75.f e75.args e75.m) = true := by decide +kernel
/-- 494 operations -/
theorem run82 : chk e82 ((evCall cx kn [] 1000000 80).fn e82.f e82.args e82.m) = true := by decide +kernel
/-- 7681 operations -/
theorem run95 : chk e95 ((evCall cx kn [] 1000000 80).fn e95.f e95.args e95.m) = true := by decide +kernel
/-- 424 operations -/
theorem run100 : chk e100 ((evCall cx kn [] 1000000 80).fn e100.f e100.args e100.m) = true := by decide +kernel
/-- 304 operations -/
theorem run116 : chk e116 ((evCall cx kn [] 1000000 80).fn e116.f e116.args e116.m) = true := by decide +kernel
/-- 354 operations -/
theorem run134 : chk e134 ((evCall cx kn [] 1000000 80).fn e134.f e134.args e134.m) = true := by decide +kernel
/-- 364 operations -/
theorem run140 : chk e140 ((evCall cx kn [] 1000000 80).fn e140.f e140.args e140.m) = true := by decide +kernel
/-- 254 operations -/
theorem run160 : chk e160 ((evCall cx kn [] 1000000 80).fn e160.f e160.args e160.m) = true := by decide +kernel
/-- 7692 operations -/
theorem run181 : chk e181 ((evCall cx kn [e180] 1000000 80).fn e181.f e181.args e181.m) = true := by decide +kernel
end
end Go.Proofs.YtdjaccnocaffjaaGreatDoor.L
set_option maxRecDepth 100000
namespace Go.Proofs.YtdjaccnocaffjaaGreatDoor.L
open Go Go.Ev
noncomputable section
/-- 7830 operations -/
theorem run26 : chk e26 ((evCall cx kn [e25] 1000000 80).fn e26.f e26.args e26.m) = true := by decide +kernel
/-- 6174 operations -/
theorem run43 : chk e43 ((evCall cx kn [e42] 1000000 80).fn e43.f e43.args e43.m) = true := by decide +kernel
/-- 4010 operations -/
theorem run47 : chk e47 ((evCall cx kn [] 1000000 80).fn e47.f e47.args e47.m) = true := by decide +kernel
/-- 7036 operations -/
theorem run48 : chk e48 ((evCall cx kn [] 1000000 80).fn e48.f e48.args e48.m) = true := by decide +kernel
/-- 5049 operations -/
theorem run69 : chk e69 ((evCall cx kn [] 1000000 80).fn e69.f e69.args e69.m) = true := by decide +kernel
/-- 7695 operations -/
theorem run89 : chk e89 ((evCall cx kn [e71, e72, e73, e74, e75, e76, e77, e78, e79, e80, e81, e82, e83, e84, e85, e86, e87, e88] 1000000 80).fn e89.f e89.args e89.m) = true := by decide +kernel
/-- 7681 operations -/
theorem run94 : chk e94 ((evCall cx kn [] 1000000 80).fn e94.f e94.args e94.m) = true := by decide +kernel
/-- 414 operations -/
theorem run110 : chk e110 ((evCall cx kn [] 1000000 80).fn e110.f e110.args e110.m) = true := by decide +kernel
/-- 484 operations -/
theorem run111 : chk e111 ((evCall cx kn [] 1000000 80).fn e111.f e111.args e111.m) = true := by decide +kernel
/-- 354 operations -/
theorem run114 : chk e114 ((evCall cx kn [] 1000000 80).fn e114.f e114.args e114.m) = true := by decide +kernel
/-- 284 operations -/
theorem run126 : chk e126 ((evCall cx kn [] 1000000 80).fn e126.f e126.args e126.m) = true := by decide +kernel
/-- 384 operations -/
theorem run127 : chk e127 ((evCall cx kn [] 1000000 80).fn e127.f e127.args e127.m) = true := by decide +kernel
/-- 534 operations -/
theorem run135 : chk e135 ((evCall cx kn [] 1000000 80).fn e135.f e135.args e135.m) = true := by decide +kernel
/-- 344 operations -/
theorem run149 : chk e149 ((evCall cx kn [] 1000000 80).fn e149.f e149.args e149.m) = true := by decide +kernel
/-- 594 operations -/
theorem run156 : chk e156 ((evCall cx kn [] 1000000 80).fn e156.f e156.args e156.m) = true := by decide +kernel
/-- 949 operations -/
theorem run176 : chk e176 ((evCall cx kn [] 1000000 80).fn e176.f e176.args e176.m) = true := by decide +kernel
end
end Go.Proofs.YtdjaccnocaffjaaGreatDoor.L
