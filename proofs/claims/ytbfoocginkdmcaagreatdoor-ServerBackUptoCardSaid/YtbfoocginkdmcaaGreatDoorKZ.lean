/-
  Closed facts of the card ServerBackUpto, each by the kernel.
-/
import Derived.Test.YtbfoocginkdmcaaGreatDoorKYa
import Derived.Test.YtbfoocginkdmcaaGreatDoorCards
import Derived.SevenTiedAt

set_option maxRecDepth 100000
namespace Go.Proofs.YtbfoocginkdmcaaGreatDoor
open Go
theorem n_wf : Rows.serverBackUptoRow.wfByText (Rows.OpenSpec.upto Rows.serverBackSpec) = true := by kernel_rfl
theorem n_main : Tryz.prog.mainIs = some (true, "12c71933e61d9653c31f6c148a663033bb0e8faa5ffacdf6a4097bf4071b6f2b".toList) := by kernel_rfl
theorem n_looks : true = Tryz.prog.looks [] :=
  Eq.symm (List.any_eq_true.2 ⟨470, List.mem_range.2 (Array.getElem?_eq_some_iff.1 Tryz.func470).1, by
    rw [Tryz.func470]
    kernel_rfl⟩)
end Go.Proofs.YtbfoocginkdmcaaGreatDoor

/-
  Closed facts of the card ServerBackUpto, each by the kernel.
-/

set_option maxRecDepth 100000
namespace Go.Proofs.YtbfoocginkdmcaaGreatDoor
open Go
theorem n_any : Tryz.prog.funcs.toList.any Func.goes = false := by kernel_rfl
end Go.Proofs.YtbfoocginkdmcaaGreatDoor

/-
  Closed facts of the card ServerBackUpto, each by the kernel.
-/

set_option maxRecDepth 100000
namespace Go.Proofs.YtbfoocginkdmcaaGreatDoor
open Go
theorem n_no (g : Nat) : (Tryz.prog.funcs[g]?).any Func.goes = false := by
  cases hg : Tryz.prog.funcs[g]? with
  | none => rfl
  | some fn =>
    have hm : fn ∈ Tryz.prog.funcs.toList := by simpa using Array.mem_of_getElem? hg
    have := List.any_eq_false.1 n_any fn hm
    simpa using this
theorem n_go3 : Tryz.prog.goes 6 = false := by
  have h2 : Tryz.prog.funcs.any Func.goes = false := by rw [← Array.any_toList]; exact n_any
  unfold Program.goes
  rw [h2]
  simp [n_no]
theorem n_from : Tryz.prog.goesFrom "wicket/wicketlaw17.ServerBack" = false := by
  unfold Program.goesFrom
  rw [n_fn, Option.any_some]
  exact n_go3
theorem goes_at {P : Program} {c : OpenClaim} {s : String} (hs : c.start = .entering) (hf : c.func = s) (h : P.goesFrom s = false) : false = c.goesBy P := by
  unfold OpenClaim.goesBy Program.goesAt
  rw [hs, hf, h]
  rfl
theorem n_goes : false = Rows.serverBackUptoRow.goesBy Tryz.prog := goes_at rfl rfl n_from
end Go.Proofs.YtbfoocginkdmcaaGreatDoor
