/-
  Closed facts of the card RegisterNames, each by the kernel.
-/
import Derived.Test.YtjhaaapgkaknoaaGreatDoorKX2
import Derived.Test.YtjhaaapgkaknoaaGreatDoorCards
import Derived.Test.YtjhaaapgkaknoaaGreatDoorTie
import Derived.SevenTiedAt

set_option maxRecDepth 100000
namespace Go.Proofs.YtjhaaapgkaknoaaGreatDoor
open Go
theorem n_wf : Rows.registerNamesRow.wfByText (OpenSpec.ofChange Rows.registerNamesSpec) = true := by kernel_rfl
theorem n_main : Tryz.prog.mainIs = some (true, "3b6893816a86b44cc55026d597b635f1c4217c6b0890045224c7b7ec4778d4dc".toList) := by kernel_rfl
theorem n_looks : true = Tryz.prog.looks [] :=
  Eq.symm (List.any_eq_true.2 ⟨83, List.mem_range.2 (Array.getElem?_eq_some_iff.1 Tryz.func83).1, by
    rw [Tryz.func83]
    kernel_rfl⟩)
theorem n_any : Tryz.prog.funcs.toList.any Func.goes = false := by kernel_rfl
theorem n_goes : false = Rows.registerNamesRow.goesBy Tryz.prog := by
  have h1 : ∀ g : Nat, (Tryz.prog.funcs[g]?).any Func.goes = false := fun g => by
    cases hg : Tryz.prog.funcs[g]? with
    | none => rfl
    | some fn =>
      have hm : fn ∈ Tryz.prog.funcs.toList := by simpa using Array.mem_of_getElem? hg
      have := List.any_eq_false.1 n_any fn hm
      simpa using this
  have h2 : Tryz.prog.funcs.any Func.goes = false := by rw [← Array.any_toList]; exact n_any
  have h3 : Tryz.prog.goes 3 = false := by
    unfold Program.goes
    rw [h2]
    simp [h1]
  show false = ((Tryz.prog.funcNamed "wicket/wicketlaw21.RegisterNames").any Tryz.prog.goes || false)
  rw [n_fn]
  simp [h3]
end Go.Proofs.YtjhaaapgkaknoaaGreatDoor
