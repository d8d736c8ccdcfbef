/-
  A part of the evaluator for closed runs: proved once over any program.
-/
import Derived.Test.YtddldbdopenabaaGreatDoorLE
set_option maxRecDepth 100000
namespace Go.Proofs.YtddldbdopenabaaGreatDoor.L
open Go Go.Ev
noncomputable section
/-- 5794 operations -/
theorem run4 : chk e4 ((evCall cx kn [e2, e3] 1000000 80).fn e4.f e4.args e4.m) = true := by decide +kernel
/-- 3517 operations -/
theorem run5 : chk e5 ((evCall cx kn [] 1000000 80).fn e5.f e5.args e5.m) = true := by decide +kernel
/-- 7412 operations -/
theorem run9 : chk e9 ((evCall cx kn [e5, e6, e7, e8] 1000000 80).fn e9.f e9.args e9.m) = true := by decide +kernel
/-- 5049 operations -/
theorem run10 : chk e10 ((evCall cx kn [e1, e4, e9] 1000000 80).fn e10.f e10.args e10.m) = true := by decide +kernel
end
end Go.Proofs.YtddldbdopenabaaGreatDoor.L
