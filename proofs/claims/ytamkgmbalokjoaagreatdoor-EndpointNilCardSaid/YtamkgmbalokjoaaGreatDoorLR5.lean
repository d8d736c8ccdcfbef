/-
  A part of the evaluator for closed runs: proved once over any program.
-/
import Derived.Test.YtamkgmbalokjoaaGreatDoorLE
set_option maxRecDepth 100000
namespace Go.Proofs.YtamkgmbalokjoaaGreatDoor.L
open Go Go.Ev
noncomputable section
/-- 2955 operations -/
theorem run2 : chk e2 ((evCall cx kn [] 1000000 80).fn e2.f e2.args e2.m) = true := by decide +kernel
/-- 5783 operations -/
theorem run5 : chk e5 ((evCall cx kn [] 1000000 80).fn e5.f e5.args e5.m) = true := by decide +kernel
/-- 7468 operations -/
theorem run17 : chk e17 ((evCall cx kn [] 1000000 80).fn e17.f e17.args e17.m) = true := by decide +kernel
/-- 7830 operations -/
theorem run20 : chk e20 ((evCall cx kn [e19] 1000000 80).fn e20.f e20.args e20.m) = true := by decide +kernel
/-- 6924 operations -/
theorem run36 : chk e36 ((evCall cx kn [e35] 1000000 80).fn e36.f e36.args e36.m) = true := by decide +kernel
/-- 7681 operations -/
theorem run44 : chk e44 ((evCall cx kn [] 1000000 80).fn e44.f e44.args e44.m) = true := by decide +kernel
/-- 454 operations -/
theorem run66 : chk e66 ((evCall cx kn [] 1000000 80).fn e66.f e66.args e66.m) = true := by decide +kernel
/-- 524 operations -/
theorem run101 : chk e101 ((evCall cx kn [] 1000000 80).fn e101.f e101.args e101.m) = true := by decide +kernel
/-- 304 operations -/
theorem run108 : chk e108 ((evCall cx kn [] 1000000 80).fn e108.f e108.args e108.m) = true := by decide +kernel
/-- 574 operations -/
theorem run115 : chk e115 ((evCall cx kn [] 1000000 80).fn e115.f e115.args e115.m) = true := by decide +kernel
/-- 354 operations -/
theorem run116 : chk e116 ((evCall cx kn [] 1000000 80).fn e116.f e116.args e116.m) = true := by decide +kernel
/-- 384 operations -/
theorem run120 : chk e120 ((evCall cx kn [] 1000000 80).fn e120.f e120.args e120.m) = true := by decide +kernel
/-- 414 operations -/
theorem run137 : chk e137 ((evCall cx kn [] 1000000 80).fn e137.f e137.args e137.m) = true := by decide +kernel
/-- 254 operations -/
theorem run152 : chk e152 ((evCall cx kn [] 1000000 80).fn e152.f e152.args e152.m) = true := by decide +kernel
/-- 4262 operations -/
theorem run176 : chk e176 ((evCall cx kn [e175] 1000000 80).fn e176.f e176.args e176.m) = true := by decide +kernel
end
end Go.Proofs.YtamkgmbalokjoaaGreatDoor.L
