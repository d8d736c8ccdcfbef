/-
  A part of the evaluator for closed runs: proved once over any program.
-/
import Derived.Test.YtdjaccnocaffjaaGreatDoorLE
set_option maxRecDepth 100000
namespace Go.Proofs.YtdjaccnocaffjaaGreatDoor.L
open Go Go.Ev
noncomputable section
/-- 7518 operations -/
theorem run1 : chk e1 ((evCall cx kn [e0] 1000000 80).fn e1.f e1.args e1.m) = true := by decide +kernel
/-- 3348 operations -/
theorem run17 : chk e17 ((evCall cx kn [] 1000000 80).fn e17.f e17.args e17.m) = true := by decide +kernel
/-- 7681 operations -/
theorem run50 : chk e50 ((evCall cx kn [] 1000000 80).fn e50.f e50.args e50.m) = true := by decide +kernel
/-- 6773 operations -/
theorem run59 : chk e59 ((evCall cx kn [e58] 1000000 80).fn e59.f e59.args e59.m) = true := by decide +kernel
/-- 10828 operations -/
theorem run64 : chk e64 ((evCall cx kn [] 1000000 80).fn e64.f e64.args e64.m) = true := by decide +kernel
/-- 4504 operations -/
theorem run66 : chk e66 ((evCall cx kn [e65] 1000000 80).fn e66.f e66.args e66.m) = true := by decide +kernel
/-- 544 operations -/
theorem run73 : chk e73 ((evCall cx kn [] 1000000 80).fn e73.f e73.args e73.m) = true := by decide +kernel
/-- 394 operations -/
theorem run79 : chk e79 ((evCall cx kn [] 1000000 80).fn e79.f e79.args e79.m) = true := by decide +kernel
/-- 504 operations -/
theorem run81 : chk e81 ((evCall cx kn [] 1000000 80).fn e81.f e81.args e81.m) = true := by decide +kernel
/-- 740 operations -/
theorem run96 : chk e96 ((evCall cx kn [e95] 1000000 80).fn e96.f e96.args e96.m) = true := by decide +kernel
/-- 234 operations -/
theorem run117 : chk e117 ((evCall cx kn [] 1000000 80).fn e117.f e117.args e117.m) = true := by decide +kernel
/-- 304 operations -/
theorem run136 : chk e136 ((evCall cx kn [] 1000000 80).fn e136.f e136.args e136.m) = true := by decide +kernel
/-- 354 operations -/
theorem run137 : chk e137 ((evCall cx kn [] 1000000 80).fn e137.f e137.args e137.m) = true := by decide +kernel
/-- 364 operations -/
theorem run144 : chk e144 ((evCall cx kn [] 1000000 80).fn e144.f e144.args e144.m) = true := by decide +kernel
/-- 424 operations -/
theorem run153 : chk e153 ((evCall cx kn [] 1000000 80).fn e153.f e153.args e153.m) = true := by decide +kernel
/-- 5796 operations -/
theorem run175 : chk e175 ((evCall cx kn [e174] 1000000 80).fn e175.f e175.args e175.m) = true := by decide +kernel
end
end Go.Proofs.YtdjaccnocaffjaaGreatDoor.L
