/-
  A part of the evaluator for closed runs: proved once over any program.
-/
import Derived.Test.YtdjaccnocaffjaaGreatDoorLE
set_option maxRecDepth 100000
namespace Go.Proofs.YtdjaccnocaffjaaGreatDoor.L
open Go Go.Ev
noncomputable section
/-- 1461 operations -/
theorem run7 : chk e7 ((evCall cx kn [] 1000000 80).fn e7.f e7.args e7.m) = true := by decide +kernel
/-- 6307 operations -/
theorem run14 : chk e14 ((evCall cx kn [e12, e13] 1000000 80).fn e14.f e14.args e14.m) = true := by decide +kernel
/-- 7681 operations -/
theorem run25 : chk e25 ((evCall cx kn [] 1000000 80).fn e25.f e25.args e25.m) = true := by decide +kernel
/-- 4158 operations -/
theorem run33 : chk e33 ((evCall cx kn [] 1000000 80).fn e33.f e33.args e33.m) = true := by decide +kernel
/-- 6924 operations -/
theorem run46 : chk e46 ((evCall cx kn [e45] 1000000 80).fn e46.f e46.args e46.m) = true := by decide +kernel
/-- 7620 operations -/
theorem run51 : chk e51 ((evCall cx kn [] 1000000 80).fn e51.f e51.args e51.m) = true := by decide +kernel
/-- 4798 operations -/
theorem run62 : chk e62 ((evCall cx kn [e61] 1000000 80).fn e62.f e62.args e62.m) = true := by decide +kernel
/-- 454 operations -/
theorem run80 : chk e80 ((evCall cx kn [] 1000000 80).fn e80.f e80.args e80.m) = true := by decide +kernel
/-- 564 operations -/
theorem run102 : chk e102 ((evCall cx kn [] 1000000 80).fn e102.f e102.args e102.m) = true := by decide +kernel
/-- 524 operations -/
theorem run109 : chk e109 ((evCall cx kn [] 1000000 80).fn e109.f e109.args e109.m) = true := by decide +kernel
/-- 354 operations -/
theorem run124 : chk e124 ((evCall cx kn [] 1000000 80).fn e124.f e124.args e124.m) = true := by decide +kernel
/-- 404 operations -/
theorem run130 : chk e130 ((evCall cx kn [] 1000000 80).fn e130.f e130.args e130.m) = true := by decide +kernel
/-- 274 operations -/
theorem run132 : chk e132 ((evCall cx kn [] 1000000 80).fn e132.f e132.args e132.m) = true := by decide +kernel
/-- 384 operations -/
theorem run165 : chk e165 ((evCall cx kn [] 1000000 80).fn e165.f e165.args e165.m) = true := by decide +kernel
/-- 314 operations -/
theorem run166 : chk e166 ((evCall cx kn [] 1000000 80).fn e166.f e166.args e166.m) = true := by decide +kernel
/-- 7921 operations -/
theorem run171 : chk e171 ((evCall cx kn [e98, e99, e100, e101, e102, e103, e104, e105, e106, e107, e108, e109, e110, e111, e112, e113, e114, e115, e116, e117, e118, e119, e120, e121, e122, e123, e124, e125, e126, e127, e128, e129, e130, e131, e132, e133, e134, e135, e136, e137, e138, e139, e140, e141, e142, e143, e144, e145, e146, e147, e148, e149, e150, e151, e152, e153, e154, e155, e156, e157, e158, e159, e160, e161, e162, e163, e164, e165, e166, e167, e168, e169, e170] 1000000 80).fn e171.f e171.args e171.m) = true := by decide +kernel
end
end Go.Proofs.YtdjaccnocaffjaaGreatDoor.L
set_option maxRecDepth 100000
namespace Go.Proofs.YtdjaccnocaffjaaGreatDoor.L
open Go Go.Ev
noncomputable section
/-- 7681 operations -/
theorem run3 : chk e3 ((evCall cx kn [] 1000000 80).fn e3.f e3.args e3.m) = true := by decide +kernel
/-- 2901 operations -/
theorem run9 : chk e9 ((evCall cx kn [] 1000000 80).fn e9.f e9.args e9.m) = true := by decide +kernel
/-- 6242 operations -/
theorem run19 : chk e19 ((evCall cx kn [e18] 1000000 80).fn e19.f e19.args e19.m) = true := by decide +kernel
/-- 5234 operations -/
theorem run27 : chk e27 ((evCall cx kn [] 1000000 80).fn e27.f e27.args e27.m) = true := by decide +kernel
/-- 3728 operations -/
theorem run42 : chk e42 ((evCall cx kn [] 1000000 80).fn e42.f e42.args e42.m) = true := by decide +kernel
/-- 494 operations -/
theorem run84 : chk e84 ((evCall cx kn [] 1000000 80).fn e84.f e84.args e84.m) = true := by decide +kernel
/-- 7652 operations -/
theorem run97 : chk e97 ((evCall cx kn [e90, e91, e93, e94, e96] 1000000 80).fn e97.f e97.args e97.m) = true := by decide +kernel
/-- 294 operations -/
theorem run113 : chk e113 ((evCall cx kn [] 1000000 80).fn e113.f e113.args e113.m) = true := by decide +kernel
/-- 394 operations -/
theorem run152 : chk e152 ((evCall cx kn [] 1000000 80).fn e152.f e152.args e152.m) = true := by decide +kernel
/-- 424 operations -/
theorem run159 : chk e159 ((evCall cx kn [] 1000000 80).fn e159.f e159.args e159.m) = true := by decide +kernel
/-- 354 operations -/
theorem run162 : chk e162 ((evCall cx kn [] 1000000 80).fn e162.f e162.args e162.m) = true := by decide +kernel
/-- 364 operations -/
theorem run168 : chk e168 ((evCall cx kn [] 1000000 80).fn e168.f e168.args e168.m) = true := by decide +kernel
/-- 6914 operations -/
theorem run174 : chk e174 ((evCall cx kn [e89, e97, e173] 1000000 80).fn e174.f e174.args e174.m) = true := by decide +kernel
/-- 7909 operations -/
theorem run179 : chk e179 ((evCall cx kn [e69, e70, e175, e178] 1000000 80).fn e179.f e179.args e179.m) = true := by decide +kernel
end
end Go.Proofs.YtdjaccnocaffjaaGreatDoor.L
