/-
  The law's live() answers true in the evaluator.
-/
import Derived.Test.YtjhaaapgkaknoaaGreatDoorLT

set_option maxRecDepth 100000
namespace Go.Proofs.YtjhaaapgkaknoaaGreatDoor.L
open Go Go.Ev
noncomputable section
/-- 4834 operations -/
theorem top6 : isTrue ((evCall cx kn [e15, e16, e17, e18] 1000000 80).fn 6 [] ⟨.leaf, .h⟩) = true := by decide +kernel
theorem holds6 {G : Nat → Nat} {w : World} (h : cx.Fine G w) (kh : KnOK G w cx.P kn) : Calls cx.P 6 #[] w fun e w' => e = .returned (.bool true) ∧ Go.RowKit.Below w.heap.size w w' := closed_run h kh (tab := [e15, e16, e17, e18]) (.cons (ok15 h kh) (.cons (ok16 h kh) (.cons (ok17 h kh) (.cons (ok18 h kh) .nil)))) top6
end
end Go.Proofs.YtjhaaapgkaknoaaGreatDoor.L
