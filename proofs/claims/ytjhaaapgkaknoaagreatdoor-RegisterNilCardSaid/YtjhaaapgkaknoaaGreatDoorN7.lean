/-
  RegisterNil: the statement.
-/
import Derived.Test.YtjhaaapgkaknoaaGreatDoorN6

set_option maxRecDepth 100000
namespace Go.Proofs.YtjhaaapgkaknoaaGreatDoor
open Go Go.RowKit
theorem registerNil_holds : Rows.RegisterNilSaid :=
  OpenClaim.holds_of_wide 4 Tryz.f4 rfl rfl rfl rfl rfl rfl rfl ⟨rfl, rfl, rfl, rfl, rfl⟩ rfl rfl rfl rfl rfl l_fn Tryz.func4 l_facts
    (of_decide_eq_true (by kernel_rfl)) l_wrap
    (fun os started H enc _ => nil_lifted os started H enc)

theorem l_goes : false = Rows.registerNilRow.goesBy Tryz.prog := by
  have h1 : ∀ g : Nat, (Tryz.prog.funcs[g]?).any Func.goes = false := fun g => by
    cases hg : Tryz.prog.funcs[g]? with
    | none => rfl
    | some fn =>
      have hm : fn ∈ Tryz.prog.funcs.toList := by simpa using Array.mem_of_getElem? hg
      have := List.any_eq_false.1 n_any fn hm
      simpa using this
  have h2 : Tryz.prog.funcs.any Func.goes = false := by rw [← Array.any_toList]; exact n_any
  have h3 : Tryz.prog.goes 4 = false := by
    unfold Program.goes
    rw [h2]
    simp [h1]
  show false = ((Tryz.prog.funcNamed "wicket/wicketlaw21.RegisterNil").any Tryz.prog.goes || false)
  rw [l_fn]
  simp [h3]

/-- The statement. -/
theorem registerNil_card : Rows.RegisterNilCardSaid :=
  Claim7.holds_tied_plain_at .later [] [.data, .data, .data, .data, .data, .data, .sentinel, .sentinel, .data, .data, .sentinel, .pinned] true (true, "3b6893816a86b44cc55026d597b635f1c4217c6b0890045224c7b7ec4778d4dc") true
    registerNil_holds (fun _ h => by cases h) l_wf (fun _ h => by cases h) registerNil_row_tie rfl ⟨rfl, rfl⟩ n_main rfl
    (fun f fn hf hfn => by
      obtain rfl : f = 4 := Option.some.inj (l_fn.symm.trans hf) |>.symm
      obtain rfl : fn = Tryz.f4 := (Option.some.inj (Tryz.func4.symm.trans hfn)).symm
      exact ⟨n_looks, fun j t ht => by
        rw [Tryz.params4] at ht
        have hm : t ∈ [28] := by simpa using Array.mem_of_getElem? ht
        have hall : ([28].all fun u => !Tryz.prog.wantsStandIn u) = true := by kernel_rfl
        exact (show Tryz.prog.wantsStandIn t = false by simpa using List.all_eq_true.1 hall t hm)⟩)
    l_goes
#print axioms registerNil_card
end Go.Proofs.YtjhaaapgkaknoaaGreatDoor
