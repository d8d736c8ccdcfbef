/-
  A part of the evaluator for closed runs: proved once over any program.
-/
import Derived.Test.YtdjaccnocaffjaaGreatDoorLE
set_option maxRecDepth 100000
namespace Go.Proofs.YtdjaccnocaffjaaGreatDoor.L
open Go Go.Ev
noncomputable section
/-- 5997 operations -/
theorem run5 : chk e5 ((evCall cx kn [e3, e4] 1000000 80).fn e5.f e5.args e5.m) = true := by decide +kernel
/-- 7334 operations -/
theorem run44 : chk e44 ((evCall cx kn [] 1000000 80).fn e44.f e44.args e44.m) = true := by decide +kernel
/-- 7746 operations -/
theorem run52 : chk e52 ((evCall cx kn [e51] 1000000 80).fn e52.f e52.args e52.m) = true := by decide +kernel
/-- 7754 operations -/
theorem run60 : chk e60 ((evCall cx kn [e44, e57, e59] 1000000 80).fn e60.f e60.args e60.m) = true := by decide +kernel
/-- 4338 operations -/
theorem run63 : chk e63 ((evCall cx kn [e62] 1000000 80).fn e63.f e63.args e63.m) = true := by decide +kernel
/-- 464 operations -/
theorem run76 : chk e76 ((evCall cx kn [] 1000000 80).fn e76.f e76.args e76.m) = true := by decide +kernel
/-- 7681 operations -/
theorem run91 : chk e91 ((evCall cx kn [] 1000000 80).fn e91.f e91.args e91.m) = true := by decide +kernel
/-- 354 operations -/
theorem run118 : chk e118 ((evCall cx kn [] 1000000 80).fn e118.f e118.args e118.m) = true := by decide +kernel
/-- 574 operations -/
theorem run123 : chk e123 ((evCall cx kn [] 1000000 80).fn e123.f e123.args e123.m) = true := by decide +kernel
/-- 384 operations -/
theorem run128 : chk e128 ((evCall cx kn [] 1000000 80).fn e128.f e128.args e128.m) = true := by decide +kernel
/-- 284 operations -/
theorem run129 : chk e129 ((evCall cx kn [] 1000000 80).fn e129.f e129.args e129.m) = true := by decide +kernel
/-- 324 operations -/
theorem run131 : chk e131 ((evCall cx kn [] 1000000 80).fn e131.f e131.args e131.m) = true := by decide +kernel
/-- 414 operations -/
theorem run145 : chk e145 ((evCall cx kn [] 1000000 80).fn e145.f e145.args e145.m) = true := by decide +kernel
/-- 534 operations -/
theorem run154 : chk e154 ((evCall cx kn [] 1000000 80).fn e154.f e154.args e154.m) = true := by decide +kernel
/-- 1143 operations -/
theorem run180 : chk e180 ((evCall cx kn [] 1000000 80).fn e180.f e180.args e180.m) = true := by decide +kernel
/-- 4616 operations -/
theorem run183 : chk e183 ((evCall cx kn [e68, e179, e182] 1000000 80).fn e183.f e183.args e183.m) = true := by decide +kernel
end
end Go.Proofs.YtdjaccnocaffjaaGreatDoor.L
