/-
  A part of the evaluator for closed runs: proved once over any program.
-/
import Derived.Test.YtamkgmbalokjoaaGreatDoorLE
set_option maxRecDepth 100000
namespace Go.Proofs.YtamkgmbalokjoaaGreatDoor.L
open Go Go.Ev
noncomputable section
/-- 4080 operations -/
theorem run3 : chk e3 ((evCall cx kn [] 1000000 80).fn e3.f e3.args e3.m) = true := by decide +kernel
/-- 4920 operations -/
theorem run12 : chk e12 ((evCall cx kn [e3, e6, e11] 1000000 80).fn e12.f e12.args e12.m) = true := by decide +kernel
/-- 6307 operations -/
theorem run15 : chk e15 ((evCall cx kn [e13, e14] 1000000 80).fn e15.f e15.args e15.m) = true := by decide +kernel
/-- 7334 operations -/
theorem run34 : chk e34 ((evCall cx kn [] 1000000 80).fn e34.f e34.args e34.m) = true := by decide +kernel
/-- 11416 operations -/
theorem run62 : chk e62 ((evCall cx kn [] 1000000 80).fn e62.f e62.args e62.m) = true := by decide +kernel
/-- 594 operations -/
theorem run70 : chk e70 ((evCall cx kn [] 1000000 80).fn e70.f e70.args e70.m) = true := by decide +kernel
/-- 414 operations -/
theorem run77 : chk e77 ((evCall cx kn [] 1000000 80).fn e77.f e77.args e77.m) = true := by decide +kernel
/-- 7681 operations -/
theorem run83 : chk e83 ((evCall cx kn [] 1000000 80).fn e83.f e83.args e83.m) = true := by decide +kernel
/-- 354 operations -/
theorem run96 : chk e96 ((evCall cx kn [] 1000000 80).fn e96.f e96.args e96.m) = true := by decide +kernel
/-- 284 operations -/
theorem run118 : chk e118 ((evCall cx kn [] 1000000 80).fn e118.f e118.args e118.m) = true := by decide +kernel
/-- 344 operations -/
theorem run141 : chk e141 ((evCall cx kn [] 1000000 80).fn e141.f e141.args e141.m) = true := by decide +kernel
/-- 534 operations -/
theorem run146 : chk e146 ((evCall cx kn [] 1000000 80).fn e146.f e146.args e146.m) = true := by decide +kernel
/-- 394 operations -/
theorem run157 : chk e157 ((evCall cx kn [] 1000000 80).fn e157.f e157.args e157.m) = true := by decide +kernel
/-- 494 operations -/
theorem run163 : chk e163 ((evCall cx kn [] 1000000 80).fn e163.f e163.args e163.m) = true := by decide +kernel
/-- 949 operations -/
theorem run170 : chk e170 ((evCall cx kn [] 1000000 80).fn e170.f e170.args e170.m) = true := by decide +kernel
end
end Go.Proofs.YtamkgmbalokjoaaGreatDoor.L
