/-
  A part of the evaluator for closed runs: proved once over any program.
-/
import Derived.Test.YtdjaccnocaffjaaGreatDoorLE
set_option maxRecDepth 100000
namespace Go.Proofs.YtdjaccnocaffjaaGreatDoor.L
open Go Go.Ev
noncomputable section
/-- 7681 operations -/
theorem run3 : chk e3 ((evCall cx kn [] 1000000 80).fn e3.f e3.args e3.m) = true := by decide +kernel
/-- 2901 operations -/
theorem run9 : chk e9 ((evCall cx kn [] 1000000 80).fn e9.f e9.args e9.m) = true := by decide +kernel
/-- 6242 operations -/
theorem run19 : chk e19 ((evCall cx kn [e18] 1000000 80).fn e19.f e19.args e19.m) = true := by decide +kernel
/-- 5234 operations -/
theorem run27 : chk e27 ((evCall cx kn [] 1000000 80).fn e27.f e27.args e27.m) = true := by decide +kernel
/-- 3728 operations -/
theorem run42 : chk e42 ((evCall cx kn [] 1000000 80).fn e42.f e42.args e42.m) = true := by decide +kernel
/-- 494 operations -/
theorem run84 : chk e84 ((evCall cx kn [] 1000000 80).fn e84.f e84.args e84.m) = true := by decide +kernel
/-- 7652 operations -/
theorem run97 : chk e97 ((evCall cx kn [e90, e91, e93, e94, e96] 1000000 80).fn e97.f e97.args e97.m) = true := by decide +kernel
/-- 294 operations -/
theorem run113 : chk e113 ((evCall cx kn [] 1000000 80).fn e113.f e113.args e113.m) = true := by decide +kernel
/-- 394 operations -/
theorem run152 : chk e152 ((evCall cx kn [] 1000000 80).fn e152.f e152.args e152.m) = true := by decide +kernel
/-- 424 operations -/
theorem run159 : chk e159 ((evCall cx kn [] 1000000 80).fn e159.f e159.args e159.m) = true := by decide +kernel
/-- 354 operations -/
theorem run162 : chk e162 ((evCall cx kn [] 1000000 80).fn e162.f e162.args e162.m) = true := by decide +kernel
/-- 364 operations -/
theorem run168 : chk e168 ((evCall cx kn [] 1000000 80).fn e168.f e168.args e168.m) = true := by decide +kernel
/-- 6914 operations -/
theorem run174 : chk e174 ((evCall cx kn [e89, e97, e173] 1000000 80).fn e174.f e174.args e174.m) = true := by decide +kernel
/-- 7909 operations -/
theorem run179 : chk e179 ((evCall cx kn [e69, e70, e175, e178] 1000000 80).fn e179.f e179.args e179.m) = true := by decide +kernel
end
end Go.Proofs.YtdjaccnocaffjaaGreatDoor.L
