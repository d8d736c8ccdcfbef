/-
  A part of the evaluator for closed runs: proved once over any program.
-/
import Derived.Test.YtdjaccnocaffjaaGreatDoorLE
set_option maxRecDepth 100000
namespace Go.Proofs.YtdjaccnocaffjaaGreatDoor.L
open Go Go.Ev
noncomputable section
/-- 7518 operations -/
theorem run1 : chk e1 ((evCall cx kn [e0] 1000000 80).fn e1.f e1.args e1.m) = true := by decide +kernel
/-- 3348 operations -/
theorem run17 : chk e17 ((evCall cx kn [] 1000000 80).fn e17.f e17.args e17.m) = true := by decide +kernel
/-- 7681 operations -/
theorem run50 : chk e50 ((evCall cx kn [] 1000000 80).fn e50.f e50.args e50.m) = true := by decide +kernel
/-- 6773 operations -/
theorem run59 : chk e59 ((evCall cx kn [e58] 1000000 80).fn e59.f e59.args e59.m) = true := by decide +kernel
/-- 10828 operations -/
theorem run64 : chk e64 ((evCall cx kn [] 1000000 80).fn e64.f e64.args e64.m) = true := by decide +kernel
/-- 4504 operations -/
theorem run66 : chk e66 ((evCall cx kn [e65] 1000000 80).fn e66.f e66.args e66.m) = true := by decide +kernel
/-- 544 operations -/
theorem run73 : chk e73 ((evCall cx kn [] 1000000 80).fn e73.f e73.args e73.m) = true := by decide +kernel
/-- 394 operations -/
theorem run79 : chk e79 ((evCall cx kn [] 1000000 80).fn e79.f e79.args e79.m) = true := by decide +kernel
/-- 504 operations -/
theorem run81 : chk e81 ((evCall cx kn [] 1000000 80).fn e81.f e81.args e81.m) = true := by decide +kernel
/-- 740 operations -/
theorem run96 : chk e96 ((evCall cx kn [e95] 1000000 80).fn e96.f e96.args e96.m) = true := by decide +kernel
/-- 234 operations -/
theorem run117 : chk e117 ((evCall cx kn [] 1000000 80).fn e117.f e117.args e117.m) = true := by decide +kernel
/-- 304 operations -/
theorem run136 : chk e136 ((evCall cx kn [] 1000000 80).fn e136.f e136.args e136.m) = true := by decide +kernel
/-- 354 operations -/
theorem run137 : chk e137 ((evCall cx kn [] 1000000 80).fn e137.f e137.args e137.m) = true := by decide +kernel
/-- 364 operations -/
theorem run144 : chk e144 ((evCall cx kn [] 1000000 80).fn e144.f e144.args e144.m) = true := by decide +kernel
/-- 424 operations -/
theorem run153 : chk e153 ((evCall cx kn [] 1000000 80).fn e153.f e153.args e153.m) = true := by decide +kernel
/-- 5796 operations -/
theorem run175 : chk e175 ((evCall cx kn [e174] 1000000 80).fn e175.f e175.args e175.m) = true := by decide +kernel
end
end Go.Proofs.YtdjaccnocaffjaaGreatDoor.L
set_option maxRecDepth 100000
namespace Go.Proofs.YtdjaccnocaffjaaGreatDoor.L
open Go Go.Ev
noncomputable section
/-- 1770 operations -/
theorem run8 : chk e8 ((evCall cx kn [] 1000000 80).fn e8.f e8.args e8.m) = true := by decide +kernel
/-- 6315 operations -/
theorem run29 : chk e29 ((evCall cx kn [] 1000000 80).fn e29.f e29.args e29.m) = true := by decide +kernel
/-- 6868 operations -/
theorem run31 : chk e31 ((evCall cx kn [] 1000000 80).fn e31.f e31.args e31.m) = true := by decide +kernel
/-- 4100 operations -/
theorem run35 : chk e35 ((evCall cx kn [] 1000000 80).fn e35.f e35.args e35.m) = true := by decide +kernel
/-- 7961 operations -/
theorem run40 : chk e40 ((evCall cx kn [e32, e33, e34, e38, e39] 1000000 80).fn e40.f e40.args e40.m) = true := by decide +kernel
/-- 7681 operations -/
theorem run45 : chk e45 ((evCall cx kn [] 1000000 80).fn e45.f e45.args e45.m) = true := by decide +kernel
/-- 4820 operations -/
theorem run65 : chk e65 ((evCall cx kn [e64] 1000000 80).fn e65.f e65.args e65.m) = true := by decide +kernel
/-- 424 operations -/
theorem run77 : chk e77 ((evCall cx kn [] 1000000 80).fn e77.f e77.args e77.m) = true := by decide +kernel
/-- 7620 operations -/
theorem run92 : chk e92 ((evCall cx kn [] 1000000 80).fn e92.f e92.args e92.m) = true := by decide +kernel
/-- 514 operations -/
theorem run99 : chk e99 ((evCall cx kn [] 1000000 80).fn e99.f e99.args e99.m) = true := by decide +kernel
/-- 304 operations -/
theorem run106 : chk e106 ((evCall cx kn [] 1000000 80).fn e106.f e106.args e106.m) = true := by decide +kernel
/-- 364 operations -/
theorem run125 : chk e125 ((evCall cx kn [] 1000000 80).fn e125.f e125.args e125.m) = true := by decide +kernel
/-- 354 operations -/
theorem run133 : chk e133 ((evCall cx kn [] 1000000 80).fn e133.f e133.args e133.m) = true := by decide +kernel
/-- 404 operations -/
theorem run139 : chk e139 ((evCall cx kn [] 1000000 80).fn e139.f e139.args e139.m) = true := by decide +kernel
/-- 564 operations -/
theorem run142 : chk e142 ((evCall cx kn [] 1000000 80).fn e142.f e142.args e142.m) = true := by decide +kernel
/-- 274 operations -/
theorem run155 : chk e155 ((evCall cx kn [] 1000000 80).fn e155.f e155.args e155.m) = true := by decide +kernel
end
end Go.Proofs.YtdjaccnocaffjaaGreatDoor.L
