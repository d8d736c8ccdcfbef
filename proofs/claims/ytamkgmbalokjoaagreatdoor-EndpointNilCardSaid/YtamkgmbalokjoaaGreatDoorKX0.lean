/-
  A world in which the listed variables are laid.
-/
import Derived.Test.YtamkgmbalokjoaaGreatDoorRows
import Derived.Test.YtamkgmbalokjoaaGreatDoorCards
import Derived.ProofKit
import Derived.LaidMore
import Derived.OpenShut
import Derived.ChangeOld
import Derived.Stop.LaidErr
import Derived.Lib.SmallJoins
import Derived.Lib.LaidTab
import Derived.SevenTiedAt
import Derived.Lay

namespace Go.Proofs.YtamkgmbalokjoaaGreatDoor
open Go Go.ChangeShapes Go.WideShapes Go.ChangeAt Go.RowKit Go.Joins
set_option linter.unusedVariables false

theorem own : ownKnob Tryz.prog.godebug = none := by kernel_rfl

set_option maxRecDepth 100000 in
theorem laid_witness (os : Os) (args : Array Value) : laidMetH Tryz.prog Rows.endpointNilRow.laid (((World.laidAll Tryz.prog os Rows.endpointNilRow.laid).forCall (fun _ _ => 0) ⟨#[], args, []⟩).memory) := by
  rw [MakeChecks.laidMetH_plain _ _ _ (by kernel_rfl)]
  exact laidMet_laidAll _ (by kernel_rfl) (by kernel_rfl)

end Go.Proofs.YtamkgmbalokjoaaGreatDoor
