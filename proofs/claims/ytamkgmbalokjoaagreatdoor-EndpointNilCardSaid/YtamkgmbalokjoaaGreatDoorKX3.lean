/-
  EndpointNil: the closed law answers true, with the listed package-level variables tied to the program's text. Conditions: those of the given card alone.
-/
import Derived.Test.YtamkgmbalokjoaaGreatDoorKX2
import Derived.Test.YtamkgmbalokjoaaGreatDoorKZ
import Derived.Test.YtamkgmbalokjoaaGreatDoorKT

set_option maxRecDepth 100000
namespace Go.Proofs.YtamkgmbalokjoaaGreatDoor
open Go Go.RowKit
/-- The statement. -/
theorem endpointNil_card : Rows.EndpointNilCardSaid :=
  Claim7.holds_tied_plain_at .later [] [.pinned, .data, .data, .data, .sentinel, .sentinel, .data, .data, .data, .data, .data, .data, .data, .data, .pinned, .data] true (true, "fa9ff6d7667d70e5eb605b307d8475c4e96bcf97f9c1eed83a60875f72f0b1ae") true
    endpointNil_holds (fun _ h => by cases h) n_wf (fun _ h => by cases h) endpointNil_row_tie rfl ⟨rfl, rfl⟩ n_main rfl
    (fun f fn hf hfn => by
      obtain rfl : f = 3 := Option.some.inj (n_fn.symm.trans hf) |>.symm
      obtain rfl : fn = Tryz.f3 := (Option.some.inj (Tryz.func3.symm.trans hfn)).symm
      exact ⟨n_looks, fun j t ht => by
        rw [Tryz.params3] at ht
        simp at ht⟩)
    n_goes
#print axioms endpointNil_card
end Go.Proofs.YtamkgmbalokjoaaGreatDoor
