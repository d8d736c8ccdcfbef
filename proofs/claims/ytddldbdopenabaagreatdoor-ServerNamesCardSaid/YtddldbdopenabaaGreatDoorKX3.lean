/-
  ServerNames: the closed law answers true, with the listed package-level variables tied to the program's text. Conditions: those of the given card alone.
-/
import Derived.Test.YtddldbdopenabaaGreatDoorKX2
import Derived.Test.YtddldbdopenabaaGreatDoorKZ
import Derived.Test.YtddldbdopenabaaGreatDoorKT

set_option maxRecDepth 100000
namespace Go.Proofs.YtddldbdopenabaaGreatDoor
open Go Go.RowKit
/-- The statement. -/
theorem serverNames_card : Rows.ServerNamesCardSaid :=
  Claim7.holds_tied_plain_at .later [] [.pinned, .data, .data, .data, .sentinel, .sentinel, .data, .data, .data, .data, .data, .data, .data, .data, .pinned, .data] true (true, "6f9096b8b04f7fb0c9e0f8dd685b3be36beadcf081b5b2f481ff14451c491766") true
    serverNames_holds (fun _ h => by cases h) n_wf (fun _ h => by cases h) serverNames_row_tie rfl ⟨rfl, rfl⟩ n_main rfl
    (fun f fn hf hfn => by
      obtain rfl : f = 3 := Option.some.inj (n_fn.symm.trans hf) |>.symm
      obtain rfl : fn = Tryz.f3 := (Option.some.inj (Tryz.func3.symm.trans hfn)).symm
      exact ⟨n_looks, fun j t ht => by
        rw [Tryz.params3] at ht
        simp at ht⟩)
    n_goes
#print axioms serverNames_card
end Go.Proofs.YtddldbdopenabaaGreatDoor
