/-
  A part of the evaluator for closed runs: proved once over any program.
-/
import Derived.Test.YtbfoocginkdmcaaGreatDoorLE
set_option maxRecDepth 100000
namespace Go.Proofs.YtbfoocginkdmcaaGreatDoor.L
open Go Go.Ev
noncomputable section
/-- 4080 operations -/
theorem run1 : chk e1 ((evCall cx kn [] 1000000 80).fn e1.f e1.args e1.m) = true := by decide +kernel
/-- 7681 operations -/
theorem run2 : chk e2 ((evCall cx kn [] 1000000 80).fn e2.f e2.args e2.m) = true := by decide +kernel
/-- 5722 operations -/
theorem run4 : chk e4 ((evCall cx kn [e2, e3] 1000000 80).fn e4.f e4.args e4.m) = true := by decide +kernel
/-- 2901 operations -/
theorem run8 : chk e8 ((evCall cx kn [] 1000000 80).fn e8.f e8.args e8.m) = true := by decide +kernel
end
end Go.Proofs.YtbfoocginkdmcaaGreatDoor.L
