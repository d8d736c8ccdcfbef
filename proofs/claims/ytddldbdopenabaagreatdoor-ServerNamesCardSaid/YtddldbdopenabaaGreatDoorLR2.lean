/-
  A part of the evaluator for closed runs: proved once over any program.
-/
import Derived.Test.YtddldbdopenabaaGreatDoorLE
set_option maxRecDepth 100000
namespace Go.Proofs.YtddldbdopenabaaGreatDoor.L
open Go Go.Ev
noncomputable section
/-- 5810 operations -/
theorem run0 : chk e0 ((evCall cx kn [] 1000000 80).fn e0.f e0.args e0.m) = true := by decide +kernel
/-- 4080 operations -/
theorem run1 : chk e1 ((evCall cx kn [] 1000000 80).fn e1.f e1.args e1.m) = true := by decide +kernel
/-- 5783 operations -/
theorem run3 : chk e3 ((evCall cx kn [] 1000000 80).fn e3.f e3.args e3.m) = true := by decide +kernel
/-- 1461 operations -/
theorem run6 : chk e6 ((evCall cx kn [] 1000000 80).fn e6.f e6.args e6.m) = true := by decide +kernel
/-- 5810 operations -/
theorem run11 : chk e11 ((evCall cx kn [] 1000000 80).fn e11.f e11.args e11.m) = true := by decide +kernel
end
end Go.Proofs.YtddldbdopenabaaGreatDoor.L
