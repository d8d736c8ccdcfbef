/-
  The listed variables by their numbers; the world in which they are laid.
-/
import Derived.Test.YtbfoocginkdmcaaGreatDoorKNM
import Derived.Test.YtbfoocginkdmcaaGreatDoorEvZ
import Derived.Test.YtbfoocginkdmcaaGreatDoorRows
import Derived.Test.YtbfoocginkdmcaaGreatDoorCards
import Derived.ProofKit
import Derived.LaidMore
import Derived.OpenShut
import Derived.ChangeOld
import Derived.Stop.LaidErr
import Derived.Lib.SmallJoins
import Derived.Lib.LaidTab
import Derived.SevenTiedAt
import Derived.Lay

set_option maxRecDepth 100000
set_option linter.unusedVariables false
namespace Go.Proofs.YtbfoocginkdmcaaGreatDoor
open Go Go.Ev
theorem own : ownKnob Tryz.prog.godebug = none := by kernel_rfl
theorem laid_named : Named Tryz.prog Rows.serverBackUptoRow.laid [2, 9, 10, 3, 4, 5, 6, 11, 12, 7, 13, 8, 14, 15, 16, 0] := ⟨gn0, gn1, gn2, gn3, gn4, gn5, gn6, gn7, gn8, gn9, gn10, gn11, gn12, gn13, gn14, gn15, trivial⟩
abbrev laidI : List (Nat × DataW Unit) := List.zip [2, 9, 10, 3, 4, 5, 6, 11, 12, 7, 13, 8, 14, 15, 16, 0] (Rows.serverBackUptoRow.laid.map (·.2))
noncomputable abbrev laidW (os : Os) : World := layW Tryz.prog (World.holding Tryz.prog os ⟨#[], #[], []⟩) laidI
theorem laidW_eq (os : Os) : World.laidAll Tryz.prog os Rows.serverBackUptoRow.laid = laidW os := laidAll_ids laid_named
theorem laidW_os (os : Os) : (laidW os).os = os := by
  rw [← laidW_eq]
  exact World.laidAll_os _ _ _
end Go.Proofs.YtbfoocginkdmcaaGreatDoor
