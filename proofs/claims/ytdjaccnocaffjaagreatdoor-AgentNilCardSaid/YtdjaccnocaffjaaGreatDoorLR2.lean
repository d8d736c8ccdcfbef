/-
  A part of the evaluator for closed runs: proved once over any program.
-/
import Derived.Test.YtdjaccnocaffjaaGreatDoorLE
set_option maxRecDepth 100000
namespace Go.Proofs.YtdjaccnocaffjaaGreatDoor.L
open Go Go.Ev
noncomputable section
/-- 6548 operations -/
theorem run0 : chk e0 ((evCall cx kn [] 1000000 80).fn e0.f e0.args e0.m) = true := by decide +kernel
/-- 5783 operations -/
theorem run4 : chk e4 ((evCall cx kn [] 1000000 80).fn e4.f e4.args e4.m) = true := by decide +kernel
/-- 7412 operations -/
theorem run10 : chk e10 ((evCall cx kn [e6, e7, e8, e9] 1000000 80).fn e10.f e10.args e10.m) = true := by decide +kernel
/-- 4374 operations -/
theorem run15 : chk e15 ((evCall cx kn [e14] 1000000 80).fn e15.f e15.args e15.m) = true := by decide +kernel
/-- 3235 operations -/
theorem run21 : chk e21 ((evCall cx kn [] 1000000 80).fn e21.f e21.args e21.m) = true := by decide +kernel
/-- 7681 operations -/
theorem run53 : chk e53 ((evCall cx kn [] 1000000 80).fn e53.f e53.args e53.m) = true := by decide +kernel
/-- 11468 operations -/
theorem run70 : chk e70 ((evCall cx kn [] 1000000 80).fn e70.f e70.args e70.m) = true := by decide +kernel
/-- 294 operations -/
theorem run108 : chk e108 ((evCall cx kn [] 1000000 80).fn e108.f e108.args e108.m) = true := by decide +kernel
/-- 564 operations -/
theorem run112 : chk e112 ((evCall cx kn [] 1000000 80).fn e112.f e112.args e112.m) = true := by decide +kernel
/-- 524 operations -/
theorem run115 : chk e115 ((evCall cx kn [] 1000000 80).fn e115.f e115.args e115.m) = true := by decide +kernel
/-- 394 operations -/
theorem run148 : chk e148 ((evCall cx kn [] 1000000 80).fn e148.f e148.args e148.m) = true := by decide +kernel
/-- 454 operations -/
theorem run151 : chk e151 ((evCall cx kn [] 1000000 80).fn e151.f e151.args e151.m) = true := by decide +kernel
/-- 354 operations -/
theorem run158 : chk e158 ((evCall cx kn [] 1000000 80).fn e158.f e158.args e158.m) = true := by decide +kernel
/-- 244 operations -/
theorem run161 : chk e161 ((evCall cx kn [] 1000000 80).fn e161.f e161.args e161.m) = true := by decide +kernel
/-- 364 operations -/
theorem run163 : chk e163 ((evCall cx kn [] 1000000 80).fn e163.f e163.args e163.m) = true := by decide +kernel
/-- 624 operations -/
theorem run170 : chk e170 ((evCall cx kn [] 1000000 80).fn e170.f e170.args e170.m) = true := by decide +kernel
end
end Go.Proofs.YtdjaccnocaffjaaGreatDoor.L
