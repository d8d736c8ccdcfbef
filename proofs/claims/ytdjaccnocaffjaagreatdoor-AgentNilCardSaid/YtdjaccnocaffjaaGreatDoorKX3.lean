/-
  AgentNil: the closed law answers true, with the listed package-level variables tied to the program's text. Conditions: those of the given card alone.
-/
import Derived.Test.YtdjaccnocaffjaaGreatDoorKX2
import Derived.Test.YtdjaccnocaffjaaGreatDoorKZ
import Derived.Test.YtdjaccnocaffjaaGreatDoorKT

set_option maxRecDepth 100000
namespace Go.Proofs.YtdjaccnocaffjaaGreatDoor
open Go Go.RowKit
/-- The statement. -/
theorem agentNil_card : Rows.AgentNilCardSaid :=
  Claim7.holds_tied_plain_at .later [] [.sentinel, .sentinel, .data, .data, .data, .pinned, .data, .data, .data, .data, .data, .data, .data, .data, .pinned, .data] true (true, "475d105e88f2088f266ab75e675fd6b74d129714c559f928fadf0bbe3f49f52b") true
    agentNil_holds (fun _ h => by cases h) n_wf (fun _ h => by cases h) agentNil_row_tie rfl ⟨rfl, rfl⟩ n_main rfl
    (fun f fn hf hfn => by
      obtain rfl : f = 4 := Option.some.inj (n_fn.symm.trans hf) |>.symm
      obtain rfl : fn = Tryz.f4 := (Option.some.inj (Tryz.func4.symm.trans hfn)).symm
      exact ⟨n_looks, fun j t ht => by
        rw [Tryz.params4] at ht
        simp at ht⟩)
    n_goes
#print axioms agentNil_card
end Go.Proofs.YtdjaccnocaffjaaGreatDoor
