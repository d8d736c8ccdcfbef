/-
  A part of the evaluator for closed runs: proved once over any program.
-/
import Derived.Test.YtdjaccnocaffjaaGreatDoorLE
set_option maxRecDepth 100000
namespace Go.Proofs.YtdjaccnocaffjaaGreatDoor.L
open Go Go.Ev
noncomputable section
/-- 1770 operations -/
theorem run8 : chk e8 ((evCall cx kn [] 1000000 80).fn e8.f e8.args e8.m) = true := by decide +kernel
/-- 6315 operations -/
theorem run29 : chk e29 ((evCall cx kn [] 1000000 80).fn e29.f e29.args e29.m) = true := by decide +kernel
/-- 6868 operations -/
theorem run31 : chk e31 ((evCall cx kn [] 1000000 80).fn e31.f e31.args e31.m) = true := by decide +kernel
/-- 4100 operations -/
theorem run35 : chk e35 ((evCall cx kn [] 1000000 80).fn e35.f e35.args e35.m) = true := by decide +kernel
/-- 7961 operations -/
theorem run40 : chk e40 ((evCall cx kn [e32, e33, e34, e38, e39] 1000000 80).fn e40.f e40.args e40.m) = true := by decide +kernel
/-- 7681 operations -/
theorem run45 : chk e45 ((evCall cx kn [] 1000000 80).fn e45.f e45.args e45.m) = true := by decide +kernel
/-- 4820 operations -/
theorem run65 : chk e65 ((evCall cx kn [e64] 1000000 80).fn e65.f e65.args e65.m) = true := by decide +kernel
/-- 424 operations -/
theorem run77 : chk e77 ((evCall cx kn [] 1000000 80).fn e77.f e77.args e77.m) = true := by decide +kernel
/-- 7620 operations -/
theorem run92 : chk e92 ((evCall cx kn [] 1000000 80).fn e92.f e92.args e92.m) = true := by decide +kernel
/-- 514 operations -/
theorem run99 : chk e99 ((evCall cx kn [] 1000000 80).fn e99.f e99.args e99.m) = true := by decide +kernel
/-- 304 operations -/
theorem run106 : chk e106 ((evCall cx kn [] 1000000 80).fn e106.f e106.args e106.m) = true := by decide +kernel
/-- 364 operations -/
theorem run125 : chk e125 ((evCall cx kn [] 1000000 80).fn e125.f e125.args e125.m) = true := by decide +kernel
/-- 354 operations -/
theorem run133 : chk e133 ((evCall cx kn [] 1000000 80).fn e133.f e133.args e133.m) = true := by decide +kernel
/-- 404 operations -/
theorem run139 : chk e139 ((evCall cx kn [] 1000000 80).fn e139.f e139.args e139.m) = true := by decide +kernel
/-- 564 operations -/
theorem run142 : chk e142 ((evCall cx kn [] 1000000 80).fn e142.f e142.args e142.m) = true := by decide +kernel
/-- 274 operations -/
theorem run155 : chk e155 ((evCall cx kn [] 1000000 80).fn e155.f e155.args e155.m) = true := by decide +kernel
end
end Go.Proofs.YtdjaccnocaffjaaGreatDoor.L
