/-
  A part of the evaluator for closed runs: proved once over any program.
-/
import Derived.Test.YtbfoocginkdmcaaGreatDoorLR0
import Derived.Test.YtbfoocginkdmcaaGreatDoorLR1
import Derived.Test.YtbfoocginkdmcaaGreatDoorLR2
set_option maxRecDepth 100000
namespace Go.Proofs.YtbfoocginkdmcaaGreatDoor.L
open Go Go.Ev
noncomputable section
theorem ok0 {G : Nat → Nat} {w : World} (h : cx.Fine G w) (kh : KnOK G w cx.P kn) : EntOK G w cx.P e0 := ent_ok h kh (tab := []) .nil run0
theorem ok1 {G : Nat → Nat} {w : World} (h : cx.Fine G w) (kh : KnOK G w cx.P kn) : EntOK G w cx.P e1 := ent_ok h kh (tab := []) .nil run1
theorem ok2 {G : Nat → Nat} {w : World} (h : cx.Fine G w) (kh : KnOK G w cx.P kn) : EntOK G w cx.P e2 := ent_ok h kh (tab := []) .nil run2
theorem ok3 {G : Nat → Nat} {w : World} (h : cx.Fine G w) (kh : KnOK G w cx.P kn) : EntOK G w cx.P e3 := ent_ok h kh (tab := []) .nil run3
theorem ok4 {G : Nat → Nat} {w : World} (h : cx.Fine G w) (kh : KnOK G w cx.P kn) : EntOK G w cx.P e4 := ent_ok h kh (tab := [e2, e3]) (.cons (ok2 h kh) (.cons (ok3 h kh) .nil)) run4
theorem ok5 {G : Nat → Nat} {w : World} (h : cx.Fine G w) (kh : KnOK G w cx.P kn) : EntOK G w cx.P e5 := ent_ok h kh (tab := []) .nil run5
theorem ok6 {G : Nat → Nat} {w : World} (h : cx.Fine G w) (kh : KnOK G w cx.P kn) : EntOK G w cx.P e6 := ent_ok h kh (tab := []) .nil run6
theorem ok7 {G : Nat → Nat} {w : World} (h : cx.Fine G w) (kh : KnOK G w cx.P kn) : EntOK G w cx.P e7 := ent_ok h kh (tab := []) .nil run7
theorem ok8 {G : Nat → Nat} {w : World} (h : cx.Fine G w) (kh : KnOK G w cx.P kn) : EntOK G w cx.P e8 := ent_ok h kh (tab := []) .nil run8
theorem ok9 {G : Nat → Nat} {w : World} (h : cx.Fine G w) (kh : KnOK G w cx.P kn) : EntOK G w cx.P e9 := ent_ok h kh (tab := [e5, e6, e7, e8]) (.cons (ok5 h kh) (.cons (ok6 h kh) (.cons (ok7 h kh) (.cons (ok8 h kh) .nil)))) run9
theorem ok10 {G : Nat → Nat} {w : World} (h : cx.Fine G w) (kh : KnOK G w cx.P kn) : EntOK G w cx.P e10 := ent_ok h kh (tab := [e1, e4, e9]) (.cons (ok1 h kh) (.cons (ok4 h kh) (.cons (ok9 h kh) .nil))) run10
theorem ok11 {G : Nat → Nat} {w : World} (h : cx.Fine G w) (kh : KnOK G w cx.P kn) : EntOK G w cx.P e11 := ent_ok h kh (tab := []) .nil run11
theorem ok12 {G : Nat → Nat} {w : World} (h : cx.Fine G w) (kh : KnOK G w cx.P kn) : EntOK G w cx.P e12 := ent_ok h kh (tab := [e11]) (.cons (ok11 h kh) .nil) run12
/-- 3269 operations -/
theorem top : isTrue ((evCall cx kn [e0, e10, e12] 1000000 80).fn 12 [] ⟨.leaf, .h⟩) = true := by decide +kernel
theorem holds {G : Nat → Nat} {w : World} (h : cx.Fine G w) (kh : KnOK G w cx.P kn) : Calls cx.P 12 #[] w fun e w' => e = .returned (.bool true) ∧ Go.RowKit.Below w.heap.size w w' := closed_run h kh (tab := [e0, e10, e12]) (.cons (ok0 h kh) (.cons (ok10 h kh) (.cons (ok12 h kh) .nil))) top
end
end Go.Proofs.YtbfoocginkdmcaaGreatDoor.L
