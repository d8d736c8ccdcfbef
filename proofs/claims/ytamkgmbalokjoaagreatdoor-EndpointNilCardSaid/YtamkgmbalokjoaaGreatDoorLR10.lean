/-
  A part of the evaluator for closed runs: proved once over any program.
-/
import Derived.Test.YtamkgmbalokjoaaGreatDoorLE
set_option maxRecDepth 100000
namespace Go.Proofs.YtamkgmbalokjoaaGreatDoor.L
open Go Go.Ev
noncomputable section
/-- 3517 operations -/
theorem run7 : chk e7 ((evCall cx kn [] 1000000 80).fn e7.f e7.args e7.m) = true := by decide +kernel
/-- 4262 operations -/
theorem run16 : chk e16 ((evCall cx kn [e15] 1000000 80).fn e16.f e16.args e16.m) = true := by decide +kernel
/-- 5671 operations -/
theorem run32 : chk e32 ((evCall cx kn [] 1000000 80).fn e32.f e32.args e32.m) = true := by decide +kernel
/-- 7681 operations -/
theorem run39 : chk e39 ((evCall cx kn [] 1000000 80).fn e39.f e39.args e39.m) = true := by decide +kernel
/-- 7625 operations -/
theorem run50 : chk e50 ((evCall cx kn [e34, e47, e49] 1000000 80).fn e50.f e50.args e50.m) = true := by decide +kernel
/-- 6898 operations -/
theorem run57 : chk e57 ((evCall cx kn [e54, e55, e56] 1000000 80).fn e57.f e57.args e57.m) = true := by decide +kernel
/-- 494 operations -/
theorem run76 : chk e76 ((evCall cx kn [] 1000000 80).fn e76.f e76.args e76.m) = true := by decide +kernel
/-- 534 operations -/
theorem run80 : chk e80 ((evCall cx kn [] 1000000 80).fn e80.f e80.args e80.m) = true := by decide +kernel
/-- 7746 operations -/
theorem run85 : chk e85 ((evCall cx kn [e84] 1000000 80).fn e85.f e85.args e85.m) = true := by decide +kernel
/-- 234 operations -/
theorem run109 : chk e109 ((evCall cx kn [] 1000000 80).fn e109.f e109.args e109.m) = true := by decide +kernel
/-- 394 operations -/
theorem run140 : chk e140 ((evCall cx kn [] 1000000 80).fn e140.f e140.args e140.m) = true := by decide +kernel
/-- 424 operations -/
theorem run145 : chk e145 ((evCall cx kn [] 1000000 80).fn e145.f e145.args e145.m) = true := by decide +kernel
/-- 354 operations -/
theorem run154 : chk e154 ((evCall cx kn [] 1000000 80).fn e154.f e154.args e154.m) = true := by decide +kernel
/-- 364 operations -/
theorem run155 : chk e155 ((evCall cx kn [] 1000000 80).fn e155.f e155.args e155.m) = true := by decide +kernel
/-- 294 operations -/
theorem run159 : chk e159 ((evCall cx kn [] 1000000 80).fn e159.f e159.args e159.m) = true := by decide +kernel
end
end Go.Proofs.YtamkgmbalokjoaaGreatDoor.L
