/-
  A part of the evaluator for closed runs: proved once over any program.
-/
import Derived.Test.YtdjaccnocaffjaaGreatDoorLE
set_option maxRecDepth 100000
namespace Go.Proofs.YtdjaccnocaffjaaGreatDoor.L
open Go Go.Ev
noncomputable section
/-- 6548 operations -/
theorem run0 : chk e0 ((evCall cx kn [] 1000000 80).fn e0.f e0.args e0.m) = true := by decide +kernel
/-- 5783 operations -/
theorem run4 : chk e4 ((evCall cx kn [] 1000000 80).fn e4.f e4.args e4.m) = true := by decide +kernel
/-- 7412 operations -/
theorem run10 : chk e10 ((evCall cx kn [e6, e7, e8, e9] 1000000 80).fn e10.f e10.args e10.m) = true := by decide +kernel
/-- 4374 operations -/
theorem run15 : chk e15 ((evCall cx kn [e14] 1000000 80).fn e15.f e15.args e15.m) = true := by decide +kernel
/-- 3235 operations -/
theorem run21 : chk e21 ((evCall cx kn [] 1000000 80).fn e21.f e21.args e21.m) = true := by decide +kernel
/-- 7681 operations -/
theorem run53 : chk e53 ((evCall cx kn [] 1000000 80).fn e53.f e53.args e53.m) = true := by decide +kernel
/-- 11468 operations -/
theorem run70 : chk e70 ((evCall cx kn [] 1000000 80).fn e70.f e70.args e70.m) = true := by decide +kernel
/-- 294 operations -/
theorem run108 : chk e108 ((evCall cx kn [] 1000000 80).fn e108.f e108.args e108.m) = true := by decide +kernel
/-- 564 operations -/
theorem run112 : chk e112 ((evCall cx kn [] 1000000 80).fn e112.f e112.args e112.m) = true := by decide +kernel
/-- 524 operations -/
theorem run115 : chk e115 ((evCall cx kn [] 1000000 80).fn e115.f e115.args e115.m) = true := by decide +kernel
/-- 394 operations -/
theorem run148 : chk e148 ((evCall cx kn [] 1000000 80).fn e148.f e148.args e148.m) = true := by decide +kernel
/-- 454 operations -/
theorem run151 : chk e151 ((evCall cx kn [] 1000000 80).fn e151.f e151.args e151.m) = true := by decide +kernel
/-- 354 operations -/
theorem run158 : chk e158 ((evCall cx kn [] 1000000 80).fn e158.f e158.args e158.m) = true := by decide +kernel
/-- 244 operations -/
theorem run161 : chk e161 ((evCall cx kn [] 1000000 80).fn e161.f e161.args e161.m) = true := by decide +kernel
/-- 364 operations -/
theorem run163 : chk e163 ((evCall cx kn [] 1000000 80).fn e163.f e163.args e163.m) = true := by decide +kernel
/-- 624 operations -/
theorem run170 : chk e170 ((evCall cx kn [] 1000000 80).fn e170.f e170.args e170.m) = true := by decide +kernel
end
end Go.Proofs.YtdjaccnocaffjaaGreatDoor.L
set_option maxRecDepth 100000
namespace Go.Proofs.YtdjaccnocaffjaaGreatDoor.L
open Go Go.Ev
noncomputable section
/-- 3348 operations -/
theorem run13 : chk e13 ((evCall cx kn [] 1000000 80).fn e13.f e13.args e13.m) = true := by decide +kernel
/-- 7584 operations -/
theorem run28 : chk e28 ((evCall cx kn [e24, e26, e27] 1000000 80).fn e28.f e28.args e28.m) = true := by decide +kernel
/-- 4376 operations -/
theorem run37 : chk e37 ((evCall cx kn [] 1000000 80).fn e37.f e37.args e37.m) = true := by decide +kernel
/-- 7681 operations -/
theorem run49 : chk e49 ((evCall cx kn [] 1000000 80).fn e49.f e49.args e49.m) = true := by decide +kernel
/-- 740 operations -/
theorem run55 : chk e55 ((evCall cx kn [e54] 1000000 80).fn e55.f e55.args e55.m) = true := by decide +kernel
/-- 5972 operations -/
theorem run57 : chk e57 ((evCall cx kn [e46, e47, e48, e56] 1000000 80).fn e57.f e57.args e57.m) = true := by decide +kernel
/-- 10828 operations -/
theorem run61 : chk e61 ((evCall cx kn [] 1000000 80).fn e61.f e61.args e61.m) = true := by decide +kernel
/-- 514 operations -/
theorem run71 : chk e71 ((evCall cx kn [] 1000000 80).fn e71.f e71.args e71.m) = true := by decide +kernel
/-- 294 operations -/
theorem run101 : chk e101 ((evCall cx kn [] 1000000 80).fn e101.f e101.args e101.m) = true := by decide +kernel
/-- 394 operations -/
theorem run122 : chk e122 ((evCall cx kn [] 1000000 80).fn e122.f e122.args e122.m) = true := by decide +kernel
/-- 454 operations -/
theorem run138 : chk e138 ((evCall cx kn [] 1000000 80).fn e138.f e138.args e138.m) = true := by decide +kernel
/-- 354 operations -/
theorem run146 : chk e146 ((evCall cx kn [] 1000000 80).fn e146.f e146.args e146.m) = true := by decide +kernel
/-- 264 operations -/
theorem run150 : chk e150 ((evCall cx kn [] 1000000 80).fn e150.f e150.args e150.m) = true := by decide +kernel
/-- 364 operations -/
theorem run157 : chk e157 ((evCall cx kn [] 1000000 80).fn e157.f e157.args e157.m) = true := by decide +kernel
/-- 554 operations -/
theorem run169 : chk e169 ((evCall cx kn [] 1000000 80).fn e169.f e169.args e169.m) = true := by decide +kernel
/-- 6612 operations -/
theorem run172 : chk e172 ((evCall cx kn [] 1000000 80).fn e172.f e172.args e172.m) = true := by decide +kernel
end
end Go.Proofs.YtdjaccnocaffjaaGreatDoor.L
