/-
  Closed facts of the row ServerBackUpto, one by one.
-/
import Derived.Test.YtbfoocginkdmcaaGreatDoorRows
import Derived.JoinedOf
import Derived.KernelRfl

set_option maxRecDepth 100000
set_option linter.unusedVariables false
namespace Go.Proofs.YtbfoocginkdmcaaGreatDoor
open Go
theorem j_4 : (namedTie Tryz.prog Rows.serverBackUptoRow.named (Rows.OpenSpec.upto Rows.serverBackSpec).bare.vars : Bool) = true := by kernel_rfl
theorem j_8 : ((Tryz.prog.stopKnobs == []) : Bool) = true := by kernel_rfl
theorem j_16 : ((Rows.serverBackUptoRow.loops == (Tryz.f6.params.toList ++ (Rows.OpenSpec.upto Rows.serverBackSpec).bare.plain.varTypes Tryz.prog).any (Tryz.prog.loopsFrom ·)) : Bool) = true := by kernel_rfl
theorem j_20 : ((Rows.serverBackUptoRow.ifacesOut == Tryz.f6.resultTypes.toList.any (Tryz.prog.ifacesRec ·)) : Bool) = true := by kernel_rfl
theorem j_25 : (Tryz.prog.mayEnter : Bool) = true := by kernel_rfl
theorem j_29 : ((Rows.serverBackUptoRow.pinned == Rows.serverBackUptoRow.pinnedBy) : Bool) = true := by kernel_rfl
end Go.Proofs.YtbfoocginkdmcaaGreatDoor
