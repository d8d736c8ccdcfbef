/-
  A part of the evaluator for closed runs: proved once over any program.
-/
import Derived.Test.YtbfoocginkdmcaaGreatDoorLE
set_option maxRecDepth 100000
namespace Go.Proofs.YtbfoocginkdmcaaGreatDoor.L
open Go Go.Ev
noncomputable section
/-- 5783 operations -/
theorem run3 : chk e3 ((evCall cx kn [] 1000000 80).fn e3.f e3.args e3.m) = true := by decide +kernel
/-- 1461 operations -/
theorem run6 : chk e6 ((evCall cx kn [] 1000000 80).fn e6.f e6.args e6.m) = true := by decide +kernel
/-- 1770 operations -/
theorem run7 : chk e7 ((evCall cx kn [] 1000000 80).fn e7.f e7.args e7.m) = true := by decide +kernel
/-- 7412 operations -/
theorem run9 : chk e9 ((evCall cx kn [e5, e6, e7, e8] 1000000 80).fn e9.f e9.args e9.m) = true := by decide +kernel
/-- 5049 operations -/
theorem run10 : chk e10 ((evCall cx kn [e1, e4, e9] 1000000 80).fn e10.f e10.args e10.m) = true := by decide +kernel
end
end Go.Proofs.YtbfoocginkdmcaaGreatDoor.L
