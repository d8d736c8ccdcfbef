/-
  A part of the evaluator for closed runs: proved once over any program.
-/
import Derived.Test.YtamkgmbalokjoaaGreatDoorLE
set_option maxRecDepth 100000
namespace Go.Proofs.YtamkgmbalokjoaaGreatDoor.L
open Go Go.Ev
noncomputable section
/-- 5722 operations -/
theorem run6 : chk e6 ((evCall cx kn [e4, e5] 1000000 80).fn e6.f e6.args e6.m) = true := by decide +kernel
/-- 3348 operations -/
theorem run14 : chk e14 ((evCall cx kn [] 1000000 80).fn e14.f e14.args e14.m) = true := by decide +kernel
/-- 6868 operations -/
theorem run24 : chk e24 ((evCall cx kn [] 1000000 80).fn e24.f e24.args e24.m) = true := by decide +kernel
/-- 7681 operations -/
theorem run40 : chk e40 ((evCall cx kn [] 1000000 80).fn e40.f e40.args e40.m) = true := by decide +kernel
/-- 7620 operations -/
theorem run41 : chk e41 ((evCall cx kn [] 1000000 80).fn e41.f e41.args e41.m) = true := by decide +kernel
/-- 4262 operations -/
theorem run53 : chk e53 ((evCall cx kn [e52] 1000000 80).fn e53.f e53.args e53.m) = true := by decide +kernel
/-- 544 operations -/
theorem run65 : chk e65 ((evCall cx kn [] 1000000 80).fn e65.f e65.args e65.m) = true := by decide +kernel
/-- 494 operations -/
theorem run74 : chk e74 ((evCall cx kn [] 1000000 80).fn e74.f e74.args e74.m) = true := by decide +kernel
/-- 424 operations -/
theorem run92 : chk e92 ((evCall cx kn [] 1000000 80).fn e92.f e92.args e92.m) = true := by decide +kernel
/-- 394 operations -/
theorem run114 : chk e114 ((evCall cx kn [] 1000000 80).fn e114.f e114.args e114.m) = true := by decide +kernel
/-- 294 operations -/
theorem run139 : chk e139 ((evCall cx kn [] 1000000 80).fn e139.f e139.args e139.m) = true := by decide +kernel
/-- 364 operations -/
theorem run149 : chk e149 ((evCall cx kn [] 1000000 80).fn e149.f e149.args e149.m) = true := by decide +kernel
/-- 354 operations -/
theorem run150 : chk e150 ((evCall cx kn [] 1000000 80).fn e150.f e150.args e150.m) = true := by decide +kernel
/-- 244 operations -/
theorem run164 : chk e164 ((evCall cx kn [] 1000000 80).fn e164.f e164.args e164.m) = true := by decide +kernel
/-- 7776 operations -/
theorem run172 : chk e172 ((evCall cx kn [e170, e171] 1000000 80).fn e172.f e172.args e172.m) = true := by decide +kernel
end
end Go.Proofs.YtamkgmbalokjoaaGreatDoor.L
