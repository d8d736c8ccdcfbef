/-
  A part of the evaluator for closed runs: proved once over any program.
-/
import Derived.Test.YtdjaccnocaffjaaGreatDoorLE
set_option maxRecDepth 100000
namespace Go.Proofs.YtdjaccnocaffjaaGreatDoor.L
open Go Go.Ev
noncomputable section
/-- 4080 operations -/
theorem run2 : chk e2 ((evCall cx kn [] 1000000 80).fn e2.f e2.args e2.m) = true := by decide +kernel
/-- 7205 operations -/
theorem run36 : chk e36 ((evCall cx kn [] 1000000 80).fn e36.f e36.args e36.m) = true := by decide +kernel
/-- 7652 operations -/
theorem run56 : chk e56 ((evCall cx kn [e49, e50, e52, e53, e55] 1000000 80).fn e56.f e56.args e56.m) = true := by decide +kernel
/-- 5016 operations -/
theorem run67 : chk e67 ((evCall cx kn [e43, e60, e63, e66] 1000000 80).fn e67.f e67.args e67.m) = true := by decide +kernel
/-- 594 operations -/
theorem run78 : chk e78 ((evCall cx kn [] 1000000 80).fn e78.f e78.args e78.m) = true := by decide +kernel
/-- 384 operations -/
theorem run86 : chk e86 ((evCall cx kn [] 1000000 80).fn e86.f e86.args e86.m) = true := by decide +kernel
/-- 534 operations -/
theorem run88 : chk e88 ((evCall cx kn [] 1000000 80).fn e88.f e88.args e88.m) = true := by decide +kernel
/-- 7746 operations -/
theorem run93 : chk e93 ((evCall cx kn [e92] 1000000 80).fn e93.f e93.args e93.m) = true := by decide +kernel
/-- 354 operations -/
theorem run104 : chk e104 ((evCall cx kn [] 1000000 80).fn e104.f e104.args e104.m) = true := by decide +kernel
/-- 414 operations -/
theorem run105 : chk e105 ((evCall cx kn [] 1000000 80).fn e105.f e105.args e105.m) = true := by decide +kernel
/-- 344 operations -/
theorem run120 : chk e120 ((evCall cx kn [] 1000000 80).fn e120.f e120.args e120.m) = true := by decide +kernel
/-- 284 operations -/
theorem run121 : chk e121 ((evCall cx kn [] 1000000 80).fn e121.f e121.args e121.m) = true := by decide +kernel
/-- 494 operations -/
theorem run164 : chk e164 ((evCall cx kn [] 1000000 80).fn e164.f e164.args e164.m) = true := by decide +kernel
/-- 6021 operations -/
theorem run173 : chk e173 ((evCall cx kn [e171, e172] 1000000 80).fn e173.f e173.args e173.m) = true := by decide +kernel
/-- 750 operations -/
theorem run177 : chk e177 ((evCall cx kn [] 1000000 80).fn e177.f e177.args e177.m) = true := by decide +kernel
/-- 7798 operations -/
theorem run178 : chk e178 ((evCall cx kn [e176, e177] 1000000 80).fn e178.f e178.args e178.m) = true := by decide +kernel
end
end Go.Proofs.YtdjaccnocaffjaaGreatDoor.L
set_option maxRecDepth 100000
namespace Go.Proofs.YtdjaccnocaffjaaGreatDoor.L
open Go Go.Ev
noncomputable section
/-- 5997 operations -/
theorem run5 : chk e5 ((evCall cx kn [e3, e4] 1000000 80).fn e5.f e5.args e5.m) = true := by decide +kernel
/-- 7334 operations -/
theorem run44 : chk e44 ((evCall cx kn [] 1000000 80).fn e44.f e44.args e44.m) = true := by decide +kernel
/-- 7746 operations -/
theorem run52 : chk e52 ((evCall cx kn [e51] 1000000 80).fn e52.f e52.args e52.m) = true := by decide +kernel
/-- 7754 operations -/
theorem run60 : chk e60 ((evCall cx kn [e44, e57, e59] 1000000 80).fn e60.f e60.args e60.m) = true := by decide +kernel
/-- 4338 operations -/
theorem run63 : chk e63 ((evCall cx kn [e62] 1000000 80).fn e63.f e63.args e63.m) = true := by decide +kernel
/-- 464 operations -/
theorem run76 : chk e76 ((evCall cx kn [] 1000000 80).fn e76.f e76.args e76.m) = true := by decide +kernel
/-- 7681 operations -/
theorem run91 : chk e91 ((evCall cx kn [] 1000000 80).fn e91.f e91.args e91.m) = true := by decide +kernel
/-- 354 operations -/
theorem run118 : chk e118 ((evCall cx kn [] 1000000 80).fn e118.f e118.args e118.m) = true := by decide +kernel
/-- 574 operations -/
theorem run123 : chk e123 ((evCall cx kn [] 1000000 80).fn e123.f e123.args e123.m) = true := by decide +kernel
/-- 384 operations -/
theorem run128 : chk e128 ((evCall cx kn [] 1000000 80).fn e128.f e128.args e128.m) = true := by decide +kernel
/-- 284 operations -/
theorem run129 : chk e129 ((evCall cx kn [] 1000000 80).fn e129.f e129.args e129.m) = true := by decide +kernel
/-- 324 operations -/
theorem run131 : chk e131 ((evCall cx kn [] 1000000 80).fn e131.f e131.args e131.m) = true := by decide +kernel
/-- 414 operations -/
theorem run145 : chk e145 ((evCall cx kn [] 1000000 80).fn e145.f e145.args e145.m) = true := by decide +kernel
/-- 534 operations -/
theorem run154 : chk e154 ((evCall cx kn [] 1000000 80).fn e154.f e154.args e154.m) = true := by decide +kernel
/-- 1143 operations -/
theorem run180 : chk e180 ((evCall cx kn [] 1000000 80).fn e180.f e180.args e180.m) = true := by decide +kernel
/-- 4616 operations -/
theorem run183 : chk e183 ((evCall cx kn [e68, e179, e182] 1000000 80).fn e183.f e183.args e183.m) = true := by decide +kernel
end
end Go.Proofs.YtdjaccnocaffjaaGreatDoor.L
