/-
  ServerBack: whatever the arguments (of bulk at most 1048576 together) the law answers true and they read behind the call as they did, with the listed package-level variables tied to the program's text. Conditions: those of the given card alone.
-/
import Derived.Test.YtbfoocginkdmcaaGreatDoorKX2
import Derived.Test.YtbfoocginkdmcaaGreatDoorKZ
import Derived.Test.YtbfoocginkdmcaaGreatDoorKT

set_option maxRecDepth 100000
namespace Go.Proofs.YtbfoocginkdmcaaGreatDoor
open Go Go.RowKit
/-- The statement. -/
theorem serverBackUpto_card : Rows.ServerBackUptoCardSaid :=
  Claim7.holds_tied_plain_at .later [] [.data, .data, .data, .pinned, .data, .sentinel, .sentinel, .data, .data, .data, .data, .data, .data, .data, .pinned, .data] true (true, "12c71933e61d9653c31f6c148a663033bb0e8faa5ffacdf6a4097bf4071b6f2b") true
    serverBackUpto_holds (fun _ h => by cases h) n_wf (fun _ h => by cases h) serverBackUpto_row_tie rfl ⟨rfl, rfl⟩ n_main rfl
    (fun f fn hf hfn => by
      obtain rfl : f = 6 := Option.some.inj (n_fn.symm.trans hf) |>.symm
      obtain rfl : fn = Tryz.f6 := (Option.some.inj (Tryz.func6.symm.trans hfn)).symm
      exact ⟨n_looks, fun j t ht => by
        rw [Tryz.params6] at ht
        have hm : t ∈ [22, 9] := by simpa using Array.mem_of_getElem? ht
        have hall : ([22, 9].all fun u => !Tryz.prog.wantsStandIn u) = true := by kernel_rfl
        exact (show Tryz.prog.wantsStandIn t = false by simpa using List.all_eq_true.1 hall t hm)⟩)
    n_goes
#print axioms serverBackUpto_card
end Go.Proofs.YtbfoocginkdmcaaGreatDoor
