/-
  A part of the evaluator for closed runs: proved once over any program.
-/
import Derived.Test.YtdjaccnocaffjaaGreatDoorLE
set_option maxRecDepth 100000
namespace Go.Proofs.YtdjaccnocaffjaaGreatDoor.L
open Go Go.Ev
noncomputable section
/-- 3348 operations -/
theorem run13 : chk e13 ((evCall cx kn [] 1000000 80).fn e13.f e13.args e13.m) = true := by decide +kernel
/-- 7584 operations -/
theorem run28 : chk e28 ((evCall cx kn [e24, e26, e27] 1000000 80).fn e28.f e28.args e28.m) = true := by decide +kernel
/-- 4376 operations -/
theorem run37 : chk e37 ((evCall cx kn [] 1000000 80).fn e37.f e37.args e37.m) = true := by decide +kernel
/-- 7681 operations -/
theorem run49 : chk e49 ((evCall cx kn [] 1000000 80).fn e49.f e49.args e49.m) = true := by decide +kernel
/-- 740 operations -/
theorem run55 : chk e55 ((evCall cx kn [e54] 1000000 80).fn e55.f e55.args e55.m) = true := by decide +kernel
/-- 5972 operations -/
theorem run57 : chk e57 ((evCall cx kn [e46, e47, e48, e56] 1000000 80).fn e57.f e57.args e57.m) = true := by decide +kernel
/-- 10828 operations -/
theorem run61 : chk e61 ((evCall cx kn [] 1000000 80).fn e61.f e61.args e61.m) = true := by decide +kernel
/-- 514 operations -/
theorem run71 : chk e71 ((evCall cx kn [] 1000000 80).fn e71.f e71.args e71.m) = true := by decide +kernel
/-- 294 operations -/
theorem run101 : chk e101 ((evCall cx kn [] 1000000 80).fn e101.f e101.args e101.m) = true := by decide +kernel
/-- 394 operations -/
theorem run122 : chk e122 ((evCall cx kn [] 1000000 80).fn e122.f e122.args e122.m) = true := by decide +kernel
/-- 454 operations -/
theorem run138 : chk e138 ((evCall cx kn [] 1000000 80).fn e138.f e138.args e138.m) = true := by decide +kernel
/-- 354 operations -/
theorem run146 : chk e146 ((evCall cx kn [] 1000000 80).fn e146.f e146.args e146.m) = true := by decide +kernel
/-- 264 operations -/
theorem run150 : chk e150 ((evCall cx kn [] 1000000 80).fn e150.f e150.args e150.m) = true := by decide +kernel
/-- 364 operations -/
theorem run157 : chk e157 ((evCall cx kn [] 1000000 80).fn e157.f e157.args e157.m) = true := by decide +kernel
/-- 554 operations -/
theorem run169 : chk e169 ((evCall cx kn [] 1000000 80).fn e169.f e169.args e169.m) = true := by decide +kernel
/-- 6612 operations -/
theorem run172 : chk e172 ((evCall cx kn [] 1000000 80).fn e172.f e172.args e172.m) = true := by decide +kernel
end
end Go.Proofs.YtdjaccnocaffjaaGreatDoor.L
