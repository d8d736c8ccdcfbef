/-
  A part of the evaluator for closed runs: proved once over any program.
-/
import Derived.Test.YtbfoocginkdmcaaGreatDoorLE
set_option maxRecDepth 100000
namespace Go.Proofs.YtbfoocginkdmcaaGreatDoor.L
open Go Go.Ev
noncomputable section
/-- 5799 operations -/
theorem run0 : chk e0 ((evCall cx kn [] 1000000 80).fn e0.f e0.args e0.m) = true := by decide +kernel
/-- 3517 operations -/
theorem run5 : chk e5 ((evCall cx kn [] 1000000 80).fn e5.f e5.args e5.m) = true := by decide +kernel
/-- 5799 operations -/
theorem run11 : chk e11 ((evCall cx kn [] 1000000 80).fn e11.f e11.args e11.m) = true := by decide +kernel
/-- 5637 operations -/
theorem run12 : chk e12 ((evCall cx kn [e11] 1000000 80).fn e12.f e12.args e12.m) = true := by decide +kernel
end
end Go.Proofs.YtbfoocginkdmcaaGreatDoor.L
