/-
  A part of the evaluator for closed runs: proved once over any program.
-/
import Derived.Test.YtamkgmbalokjoaaGreatDoorLE
set_option maxRecDepth 100000
namespace Go.Proofs.YtamkgmbalokjoaaGreatDoor.L
open Go Go.Ev
noncomputable section
/-- 6269 operations -/
theorem run23 : chk e23 ((evCall cx kn [] 1000000 80).fn e23.f e23.args e23.m) = true := by decide +kernel
/-- 4010 operations -/
theorem run37 : chk e37 ((evCall cx kn [] 1000000 80).fn e37.f e37.args e37.m) = true := by decide +kernel
/-- 4798 operations -/
theorem run52 : chk e52 ((evCall cx kn [e51] 1000000 80).fn e52.f e52.args e52.m) = true := by decide +kernel
/-- 7334 operations -/
theorem run54 : chk e54 ((evCall cx kn [] 1000000 80).fn e54.f e54.args e54.m) = true := by decide +kernel
/-- 13370 operations -/
theorem run59 : chk e59 ((evCall cx kn [] 1000000 80).fn e59.f e59.args e59.m) = true := by decide +kernel
/-- 7681 operations -/
theorem run86 : chk e86 ((evCall cx kn [] 1000000 80).fn e86.f e86.args e86.m) = true := by decide +kernel
/-- 514 operations -/
theorem run91 : chk e91 ((evCall cx kn [] 1000000 80).fn e91.f e91.args e91.m) = true := by decide +kernel
/-- 294 operations -/
theorem run100 : chk e100 ((evCall cx kn [] 1000000 80).fn e100.f e100.args e100.m) = true := by decide +kernel
/-- 564 operations -/
theorem run104 : chk e104 ((evCall cx kn [] 1000000 80).fn e104.f e104.args e104.m) = true := by decide +kernel
/-- 354 operations -/
theorem run129 : chk e129 ((evCall cx kn [] 1000000 80).fn e129.f e129.args e129.m) = true := by decide +kernel
/-- 404 operations -/
theorem run131 : chk e131 ((evCall cx kn [] 1000000 80).fn e131.f e131.args e131.m) = true := by decide +kernel
/-- 364 operations -/
theorem run136 : chk e136 ((evCall cx kn [] 1000000 80).fn e136.f e136.args e136.m) = true := by decide +kernel
/-- 264 operations -/
theorem run142 : chk e142 ((evCall cx kn [] 1000000 80).fn e142.f e142.args e142.m) = true := by decide +kernel
/-- 454 operations -/
theorem run143 : chk e143 ((evCall cx kn [] 1000000 80).fn e143.f e143.args e143.m) = true := by decide +kernel
end
end Go.Proofs.YtamkgmbalokjoaaGreatDoor.L
