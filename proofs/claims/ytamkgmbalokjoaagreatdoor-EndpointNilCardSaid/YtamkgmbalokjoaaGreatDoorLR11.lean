/-
  A part of the evaluator for closed runs: proved once over any program.
-/
import Derived.Test.YtamkgmbalokjoaaGreatDoorLE
set_option maxRecDepth 100000
namespace Go.Proofs.YtamkgmbalokjoaaGreatDoor.L
open Go Go.Ev
noncomputable section
/-- 7681 operations -/
theorem run4 : chk e4 ((evCall cx kn [] 1000000 80).fn e4.f e4.args e4.m) = true := by decide +kernel
/-- 4620 operations -/
theorem run27 : chk e27 ((evCall cx kn [] 1000000 80).fn e27.f e27.args e27.m) = true := by decide +kernel
/-- 3021 operations -/
theorem run33 : chk e33 ((evCall cx kn [] 1000000 80).fn e33.f e33.args e33.m) = true := by decide +kernel
/-- 514 operations -/
theorem run63 : chk e63 ((evCall cx kn [] 1000000 80).fn e63.f e63.args e63.m) = true := by decide +kernel
/-- 7695 operations -/
theorem run81 : chk e81 ((evCall cx kn [e63, e64, e65, e66, e67, e68, e69, e70, e71, e72, e73, e74, e75, e76, e77, e78, e79, e80] 1000000 80).fn e81.f e81.args e81.m) = true := by decide +kernel
/-- 294 operations -/
theorem run93 : chk e93 ((evCall cx kn [] 1000000 80).fn e93.f e93.args e93.m) = true := by decide +kernel
/-- 564 operations -/
theorem run94 : chk e94 ((evCall cx kn [] 1000000 80).fn e94.f e94.args e94.m) = true := by decide +kernel
/-- 404 operations -/
theorem run122 : chk e122 ((evCall cx kn [] 1000000 80).fn e122.f e122.args e122.m) = true := by decide +kernel
/-- 274 operations -/
theorem run124 : chk e124 ((evCall cx kn [] 1000000 80).fn e124.f e124.args e124.m) = true := by decide +kernel
/-- 354 operations -/
theorem run126 : chk e126 ((evCall cx kn [] 1000000 80).fn e126.f e126.args e126.m) = true := by decide +kernel
/-- 454 operations -/
theorem run130 : chk e130 ((evCall cx kn [] 1000000 80).fn e130.f e130.args e130.m) = true := by decide +kernel
/-- 364 operations -/
theorem run132 : chk e132 ((evCall cx kn [] 1000000 80).fn e132.f e132.args e132.m) = true := by decide +kernel
/-- 6914 operations -/
theorem run169 : chk e169 ((evCall cx kn [e81, e89, e168] 1000000 80).fn e169.f e169.args e169.m) = true := by decide +kernel
/-- 7670 operations -/
theorem run175 : chk e175 ((evCall cx kn [e174] 1000000 80).fn e175.f e175.args e175.m) = true := by decide +kernel
/-- 5357 operations -/
theorem run177 : chk e177 ((evCall cx kn [e2, e12, e16, e17, e22, e23, e25, e26, e27, e31, e32, e33, e50, e53, e57, e58, e60, e173, e176] 1000000 80).fn e177.f e177.args e177.m) = true := by decide +kernel
end
end Go.Proofs.YtamkgmbalokjoaaGreatDoor.L
