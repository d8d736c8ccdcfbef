/-
  Closed facts of the card AgentBasicsUpto, each by the kernel.
-/
import Derived.Test.YtdjaccnocaffjaaGreatDoorKYa
import Derived.Test.YtdjaccnocaffjaaGreatDoorCards
import Derived.SevenTiedAt

set_option maxRecDepth 100000
namespace Go.Proofs.YtdjaccnocaffjaaGreatDoor
open Go
theorem n_wf : Rows.agentBasicsUptoRow.wfByText (Rows.OpenSpec.upto Rows.agentBasicsSpec) = true := by kernel_rfl
theorem n_main : Tryz.prog.mainIs = some (true, "475d105e88f2088f266ab75e675fd6b74d129714c559f928fadf0bbe3f49f52b".toList) := by kernel_rfl
theorem n_looks : true = Tryz.prog.looks [] :=
  Eq.symm (List.any_eq_true.2 ⟨425, List.mem_range.2 (Array.getElem?_eq_some_iff.1 Tryz.func425).1, by
    rw [Tryz.func425]
    kernel_rfl⟩)
end Go.Proofs.YtdjaccnocaffjaaGreatDoor

/-
  Closed facts of the card AgentBasicsUpto, each by the kernel.
-/

set_option maxRecDepth 100000
namespace Go.Proofs.YtdjaccnocaffjaaGreatDoor
open Go
theorem n_any : Tryz.prog.funcs.toList.any Func.goes = false := by kernel_rfl
end Go.Proofs.YtdjaccnocaffjaaGreatDoor

/-
  Closed facts of the card AgentBasicsUpto, each by the kernel.
-/

set_option maxRecDepth 100000
namespace Go.Proofs.YtdjaccnocaffjaaGreatDoor
open Go
theorem n_no (g : Nat) : (Tryz.prog.funcs[g]?).any Func.goes = false := by
  cases hg : Tryz.prog.funcs[g]? with
  | none => rfl
  | some fn =>
    have hm : fn ∈ Tryz.prog.funcs.toList := by simpa using Array.mem_of_getElem? hg
    have := List.any_eq_false.1 n_any fn hm
    simpa using this
theorem n_go3 : Tryz.prog.goes 3 = false := by
  have h2 : Tryz.prog.funcs.any Func.goes = false := by rw [← Array.any_toList]; exact n_any
  unfold Program.goes
  rw [h2]
  simp [n_no]
theorem n_from : Tryz.prog.goesFrom "wicket/wicketlaw24.AgentBasics" = false := by
  unfold Program.goesFrom
  rw [n_fn, Option.any_some]
  exact n_go3
theorem goes_at {P : Program} {c : OpenClaim} {s : String} (hs : c.start = .entering) (hf : c.func = s) (h : P.goesFrom s = false) : false = c.goesBy P := by
  unfold OpenClaim.goesBy Program.goesAt
  rw [hs, hf, h]
  rfl
theorem n_goes : false = Rows.agentBasicsUptoRow.goesBy Tryz.prog := goes_at rfl rfl n_from
end Go.Proofs.YtdjaccnocaffjaaGreatDoor
