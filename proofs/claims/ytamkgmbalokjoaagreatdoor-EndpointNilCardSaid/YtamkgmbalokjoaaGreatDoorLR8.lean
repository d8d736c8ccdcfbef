/-
  A part of the evaluator for closed runs: proved once over any program.
-/
import Derived.Test.YtamkgmbalokjoaaGreatDoorLE
set_option maxRecDepth 100000
namespace Go.Proofs.YtamkgmbalokjoaaGreatDoor.L
open Go Go.Ev
noncomputable section
/-- 1770 operations -/
theorem run9 : chk e9 ((evCall cx kn [] 1000000 80).fn e9.f e9.args e9.m) = true := by decide +kernel
/-- 7681 operations -/
theorem run19 : chk e19 ((evCall cx kn [] 1000000 80).fn e19.f e19.args e19.m) = true := by decide +kernel
/-- 7746 operations -/
theorem run26 : chk e26 ((evCall cx kn [] 1000000 80).fn e26.f e26.args e26.m) = true := by decide +kernel
/-- 4376 operations -/
theorem run30 : chk e30 ((evCall cx kn [] 1000000 80).fn e30.f e30.args e30.m) = true := by decide +kernel
/-- 740 operations -/
theorem run45 : chk e45 ((evCall cx kn [e44] 1000000 80).fn e45.f e45.args e45.m) = true := by decide +kernel
/-- 7664 operations -/
theorem run46 : chk e46 ((evCall cx kn [e39, e40, e42, e43, e45] 1000000 80).fn e46.f e46.args e46.m) = true := by decide +kernel
/-- 394 operations -/
theorem run67 : chk e67 ((evCall cx kn [] 1000000 80).fn e67.f e67.args e67.m) = true := by decide +kernel
/-- 424 operations -/
theorem run69 : chk e69 ((evCall cx kn [] 1000000 80).fn e69.f e69.args e69.m) = true := by decide +kernel
/-- 504 operations -/
theorem run73 : chk e73 ((evCall cx kn [] 1000000 80).fn e73.f e73.args e73.m) = true := by decide +kernel
/-- 294 operations -/
theorem run105 : chk e105 ((evCall cx kn [] 1000000 80).fn e105.f e105.args e105.m) = true := by decide +kernel
/-- 564 operations -/
theorem run134 : chk e134 ((evCall cx kn [] 1000000 80).fn e134.f e134.args e134.m) = true := by decide +kernel
/-- 384 operations -/
theorem run135 : chk e135 ((evCall cx kn [] 1000000 80).fn e135.f e135.args e135.m) = true := by decide +kernel
/-- 354 operations -/
theorem run138 : chk e138 ((evCall cx kn [] 1000000 80).fn e138.f e138.args e138.m) = true := by decide +kernel
/-- 244 operations -/
theorem run153 : chk e153 ((evCall cx kn [] 1000000 80).fn e153.f e153.args e153.m) = true := by decide +kernel
/-- 6590 operations -/
theorem run167 : chk e167 ((evCall cx kn [] 1000000 80).fn e167.f e167.args e167.m) = true := by decide +kernel
/-- 5936 operations -/
theorem run168 : chk e168 ((evCall cx kn [e166, e167] 1000000 80).fn e168.f e168.args e168.m) = true := by decide +kernel
end
end Go.Proofs.YtamkgmbalokjoaaGreatDoor.L
