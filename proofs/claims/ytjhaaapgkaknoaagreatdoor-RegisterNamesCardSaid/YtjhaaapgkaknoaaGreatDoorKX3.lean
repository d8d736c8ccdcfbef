/-
  RegisterNames: the closed law answers true, with the listed package-level variables tied to the program's text. Conditions: those of the given card alone.
-/
import Derived.Test.YtjhaaapgkaknoaaGreatDoorKZ

set_option maxRecDepth 100000
namespace Go.Proofs.YtjhaaapgkaknoaaGreatDoor
open Go Go.RowKit
/-- The statement. -/
theorem registerNames_card : Rows.RegisterNamesCardSaid :=
  Claim7.holds_tied_plain_at .later [] [.data, .data, .data, .data, .data, .data, .sentinel, .sentinel, .data, .data, .sentinel, .pinned] true (true, "3b6893816a86b44cc55026d597b635f1c4217c6b0890045224c7b7ec4778d4dc") true
    registerNames_holds (fun _ h => by cases h) n_wf (fun _ h => by cases h) registerNames_row_tie rfl ⟨rfl, rfl⟩ n_main rfl
    (fun f fn hf hfn => by
      obtain rfl : f = 3 := Option.some.inj (n_fn.symm.trans hf) |>.symm
      obtain rfl : fn = Tryz.f3 := (Option.some.inj (Tryz.func3.symm.trans hfn)).symm
      exact ⟨n_looks, fun j t ht => by
        rw [Tryz.params3] at ht
        simp at ht⟩)
    n_goes
#print axioms registerNames_card
end Go.Proofs.YtjhaaapgkaknoaaGreatDoor
