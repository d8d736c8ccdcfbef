/-
  A part of the evaluator for closed runs: proved once over any program.
-/
import Derived.Test.YtamkgmbalokjoaaGreatDoorLE
set_option maxRecDepth 100000
namespace Go.Proofs.YtamkgmbalokjoaaGreatDoor.L
open Go Go.Ev
noncomputable section
/-- 2901 operations -/
theorem run10 : chk e10 ((evCall cx kn [] 1000000 80).fn e10.f e10.args e10.m) = true := by decide +kernel
/-- 7412 operations -/
theorem run11 : chk e11 ((evCall cx kn [e7, e8, e9, e10] 1000000 80).fn e11.f e11.args e11.m) = true := by decide +kernel
/-- 5234 operations -/
theorem run21 : chk e21 ((evCall cx kn [] 1000000 80).fn e21.f e21.args e21.m) = true := by decide +kernel
/-- 4775 operations -/
theorem run22 : chk e22 ((evCall cx kn [e18, e20, e21] 1000000 80).fn e22.f e22.args e22.m) = true := by decide +kernel
/-- 7014 operations -/
theorem run38 : chk e38 ((evCall cx kn [] 1000000 80).fn e38.f e38.args e38.m) = true := by decide +kernel
/-- 7681 operations -/
theorem run55 : chk e55 ((evCall cx kn [] 1000000 80).fn e55.f e55.args e55.m) = true := by decide +kernel
/-- 454 operations -/
theorem run72 : chk e72 ((evCall cx kn [] 1000000 80).fn e72.f e72.args e72.m) = true := by decide +kernel
/-- 404 operations -/
theorem run79 : chk e79 ((evCall cx kn [] 1000000 80).fn e79.f e79.args e79.m) = true := by decide +kernel
/-- 304 operations -/
theorem run98 : chk e98 ((evCall cx kn [] 1000000 80).fn e98.f e98.args e98.m) = true := by decide +kernel
/-- 524 operations -/
theorem run107 : chk e107 ((evCall cx kn [] 1000000 80).fn e107.f e107.args e107.m) = true := by decide +kernel
/-- 354 operations -/
theorem run111 : chk e111 ((evCall cx kn [] 1000000 80).fn e111.f e111.args e111.m) = true := by decide +kernel
/-- 384 operations -/
theorem run119 : chk e119 ((evCall cx kn [] 1000000 80).fn e119.f e119.args e119.m) = true := by decide +kernel
/-- 274 operations -/
theorem run147 : chk e147 ((evCall cx kn [] 1000000 80).fn e147.f e147.args e147.m) = true := by decide +kernel
/-- 594 operations -/
theorem run160 : chk e160 ((evCall cx kn [] 1000000 80).fn e160.f e160.args e160.m) = true := by decide +kernel
/-- 7872 operations -/
theorem run173 : chk e173 ((evCall cx kn [e61, e62, e169, e172] 1000000 80).fn e173.f e173.args e173.m) = true := by decide +kernel
end
end Go.Proofs.YtamkgmbalokjoaaGreatDoor.L
