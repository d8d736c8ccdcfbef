/-
  AgentBasics: what is shown is read again, whatever the name and the secret (of bulk at most 1048576 together), with the listed package-level variables tied to the program's text. Conditions: those of the given card alone.
-/
import Derived.Test.YtdjaccnocaffjaaGreatDoorKX2
import Derived.Test.YtdjaccnocaffjaaGreatDoorKZ
import Derived.Test.YtdjaccnocaffjaaGreatDoorKT

set_option maxRecDepth 100000
namespace Go.Proofs.YtdjaccnocaffjaaGreatDoor
open Go Go.RowKit
/-- The statement. -/
theorem agentBasicsUpto_card : Rows.AgentBasicsUptoCardSaid :=
  Claim7.holds_tied_plain_at .later [] [.pinned, .data, .data, .data, .sentinel, .sentinel, .data, .data, .data, .data, .data, .data, .data, .data, .pinned, .data] true (true, "475d105e88f2088f266ab75e675fd6b74d129714c559f928fadf0bbe3f49f52b") true
    agentBasics_holds (fun _ h => by cases h) n_wf (fun _ h => by cases h) agentBasicsUpto_row_tie rfl ⟨rfl, rfl⟩ n_main rfl
    (fun f fn hf hfn => by
      obtain rfl : f = 3 := Option.some.inj (n_fn.symm.trans hf) |>.symm
      obtain rfl : fn = Tryz.f3 := (Option.some.inj (Tryz.func3.symm.trans hfn)).symm
      exact ⟨n_looks, fun j t ht => by
        rw [Tryz.params3] at ht
        have hm : t ∈ [9, 9] := by simpa using Array.mem_of_getElem? ht
        have hall : ([9, 9].all fun u => !Tryz.prog.wantsStandIn u) = true := by kernel_rfl
        exact (show Tryz.prog.wantsStandIn t = false by simpa using List.all_eq_true.1 hall t hm)⟩)
    n_goes
#print axioms agentBasicsUpto_card
end Go.Proofs.YtdjaccnocaffjaaGreatDoor
