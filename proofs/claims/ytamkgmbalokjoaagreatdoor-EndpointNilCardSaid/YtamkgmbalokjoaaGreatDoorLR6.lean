/-
  A part of the evaluator for closed runs: proved once over any program.
-/
import Derived.Test.YtamkgmbalokjoaaGreatDoorLE
set_option maxRecDepth 100000
namespace Go.Proofs.YtamkgmbalokjoaaGreatDoor.L
open Go Go.Ev
noncomputable section
/-- 7681 operations -/
theorem run43 : chk e43 ((evCall cx kn [] 1000000 80).fn e43.f e43.args e43.m) = true := by decide +kernel
/-- 6753 operations -/
theorem run49 : chk e49 ((evCall cx kn [e48] 1000000 80).fn e49.f e49.args e49.m) = true := by decide +kernel
/-- 5877 operations -/
theorem run58 : chk e58 ((evCall cx kn [] 1000000 80).fn e58.f e58.args e58.m) = true := by decide +kernel
/-- 4110 operations -/
theorem run60 : chk e60 ((evCall cx kn [e59] 1000000 80).fn e60.f e60.args e60.m) = true := by decide +kernel
/-- 3739 operations -/
theorem run61 : chk e61 ((evCall cx kn [] 1000000 80).fn e61.f e61.args e61.m) = true := by decide +kernel
/-- 7620 operations -/
theorem run84 : chk e84 ((evCall cx kn [] 1000000 80).fn e84.f e84.args e84.m) = true := by decide +kernel
/-- 354 operations -/
theorem run95 : chk e95 ((evCall cx kn [] 1000000 80).fn e95.f e95.args e95.m) = true := by decide +kernel
/-- 494 operations -/
theorem run99 : chk e99 ((evCall cx kn [] 1000000 80).fn e99.f e99.args e99.m) = true := by decide +kernel
/-- 344 operations -/
theorem run112 : chk e112 ((evCall cx kn [] 1000000 80).fn e112.f e112.args e112.m) = true := by decide +kernel
/-- 284 operations -/
theorem run113 : chk e113 ((evCall cx kn [] 1000000 80).fn e113.f e113.args e113.m) = true := by decide +kernel
/-- 534 operations -/
theorem run127 : chk e127 ((evCall cx kn [] 1000000 80).fn e127.f e127.args e127.m) = true := by decide +kernel
/-- 394 operations -/
theorem run144 : chk e144 ((evCall cx kn [] 1000000 80).fn e144.f e144.args e144.m) = true := by decide +kernel
/-- 424 operations -/
theorem run151 : chk e151 ((evCall cx kn [] 1000000 80).fn e151.f e151.args e151.m) = true := by decide +kernel
/-- 7777 operations -/
theorem run166 : chk e166 ((evCall cx kn [e90, e91, e92, e93, e94, e95, e96, e97, e98, e99, e100, e101, e102, e103, e104, e105, e106, e107, e108, e109, e110, e111, e112, e113, e114, e115, e116, e117, e118, e119, e120, e121, e122, e123, e124, e125, e126, e127, e128, e129, e130, e131, e132, e133, e134, e135, e136, e137, e138, e139, e140, e141, e142, e143, e144, e145, e146, e147, e148, e149, e150, e151, e152, e153, e154, e155, e156, e157, e158, e159, e160, e161, e162, e163, e164, e165] 1000000 80).fn e166.f e166.args e166.m) = true := by decide +kernel
end
end Go.Proofs.YtamkgmbalokjoaaGreatDoor.L
