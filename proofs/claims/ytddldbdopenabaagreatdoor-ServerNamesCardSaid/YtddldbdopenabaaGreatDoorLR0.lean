/-
  A part of the evaluator for closed runs: proved once over any program.
-/
import Derived.Test.YtddldbdopenabaaGreatDoorLE
set_option maxRecDepth 100000
namespace Go.Proofs.YtddldbdopenabaaGreatDoor.L
open Go Go.Ev
noncomputable section
/-- 13380 operations -/
theorem run2 : chk e2 ((evCall cx kn [] 1000000 80).fn e2.f e2.args e2.m) = true := by decide +kernel
/-- 1770 operations -/
theorem run7 : chk e7 ((evCall cx kn [] 1000000 80).fn e7.f e7.args e7.m) = true := by decide +kernel
/-- 2901 operations -/
theorem run8 : chk e8 ((evCall cx kn [] 1000000 80).fn e8.f e8.args e8.m) = true := by decide +kernel
/-- 5637 operations -/
theorem run12 : chk e12 ((evCall cx kn [e11] 1000000 80).fn e12.f e12.args e12.m) = true := by decide +kernel
end
end Go.Proofs.YtddldbdopenabaaGreatDoor.L
