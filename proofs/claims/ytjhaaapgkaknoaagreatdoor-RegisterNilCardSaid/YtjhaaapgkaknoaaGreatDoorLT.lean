/-
  The cut run, joined: the law's function answers true in the evaluator.
-/
import Derived.Test.YtjhaaapgkaknoaaGreatDoorLR0
import Derived.Test.YtjhaaapgkaknoaaGreatDoorLR1
import Derived.Test.YtjhaaapgkaknoaaGreatDoorLR2

set_option maxRecDepth 100000
namespace Go.Proofs.YtjhaaapgkaknoaaGreatDoor.L
open Go Go.Ev
noncomputable section
theorem ok0 {G : Nat → Nat} {w : World} (h : cx.Fine G w) (kh : KnOK G w cx.P kn) : EntOK G w cx.P e0 := ent_ok h kh (tab := []) .nil run0
theorem ok1 {G : Nat → Nat} {w : World} (h : cx.Fine G w) (kh : KnOK G w cx.P kn) : EntOK G w cx.P e1 := ent_ok h kh (tab := []) .nil run1
theorem ok2 {G : Nat → Nat} {w : World} (h : cx.Fine G w) (kh : KnOK G w cx.P kn) : EntOK G w cx.P e2 := ent_ok h kh (tab := []) .nil run2
theorem ok3 {G : Nat → Nat} {w : World} (h : cx.Fine G w) (kh : KnOK G w cx.P kn) : EntOK G w cx.P e3 := ent_ok h kh (tab := []) .nil run3
theorem ok4 {G : Nat → Nat} {w : World} (h : cx.Fine G w) (kh : KnOK G w cx.P kn) : EntOK G w cx.P e4 := ent_ok h kh (tab := []) .nil run4
theorem ok5 {G : Nat → Nat} {w : World} (h : cx.Fine G w) (kh : KnOK G w cx.P kn) : EntOK G w cx.P e5 := ent_ok h kh (tab := []) .nil run5
theorem ok6 {G : Nat → Nat} {w : World} (h : cx.Fine G w) (kh : KnOK G w cx.P kn) : EntOK G w cx.P e6 := ent_ok h kh (tab := []) .nil run6
theorem ok7 {G : Nat → Nat} {w : World} (h : cx.Fine G w) (kh : KnOK G w cx.P kn) : EntOK G w cx.P e7 := ent_ok h kh (tab := []) .nil run7
theorem ok8 {G : Nat → Nat} {w : World} (h : cx.Fine G w) (kh : KnOK G w cx.P kn) : EntOK G w cx.P e8 := ent_ok h kh (tab := []) .nil run8
theorem ok9 {G : Nat → Nat} {w : World} (h : cx.Fine G w) (kh : KnOK G w cx.P kn) : EntOK G w cx.P e9 := ent_ok h kh (tab := []) .nil run9
theorem ok10 {G : Nat → Nat} {w : World} (h : cx.Fine G w) (kh : KnOK G w cx.P kn) : EntOK G w cx.P e10 := ent_ok h kh (tab := []) .nil run10
theorem ok11 {G : Nat → Nat} {w : World} (h : cx.Fine G w) (kh : KnOK G w cx.P kn) : EntOK G w cx.P e11 := ent_ok h kh (tab := []) .nil run11
theorem ok12 {G : Nat → Nat} {w : World} (h : cx.Fine G w) (kh : KnOK G w cx.P kn) : EntOK G w cx.P e12 := ent_ok h kh (tab := []) .nil run12
theorem ok13 {G : Nat → Nat} {w : World} (h : cx.Fine G w) (kh : KnOK G w cx.P kn) : EntOK G w cx.P e13 := ent_ok h kh (tab := []) .nil run13
theorem ok14 {G : Nat → Nat} {w : World} (h : cx.Fine G w) (kh : KnOK G w cx.P kn) : EntOK G w cx.P e14 := ent_ok h kh (tab := [e5, e6, e7, e8, e9, e10, e11, e12, e13]) (.cons (ok5 h kh) (.cons (ok6 h kh) (.cons (ok7 h kh) (.cons (ok8 h kh) (.cons (ok9 h kh) (.cons (ok10 h kh) (.cons (ok11 h kh) (.cons (ok12 h kh) (.cons (ok13 h kh) .nil))))))))) run14
theorem ok15 {G : Nat → Nat} {w : World} (h : cx.Fine G w) (kh : KnOK G w cx.P kn) : EntOK G w cx.P e15 := ent_ok h kh (tab := [e0, e1, e2, e3, e4, e14]) (.cons (ok0 h kh) (.cons (ok1 h kh) (.cons (ok2 h kh) (.cons (ok3 h kh) (.cons (ok4 h kh) (.cons (ok14 h kh) .nil)))))) run15
theorem ok16 {G : Nat → Nat} {w : World} (h : cx.Fine G w) (kh : KnOK G w cx.P kn) : EntOK G w cx.P e16 := ent_ok h kh (tab := []) .nil run16
theorem ok17 {G : Nat → Nat} {w : World} (h : cx.Fine G w) (kh : KnOK G w cx.P kn) : EntOK G w cx.P e17 := ent_ok h kh (tab := []) .nil run17
theorem ok18 {G : Nat → Nat} {w : World} (h : cx.Fine G w) (kh : KnOK G w cx.P kn) : EntOK G w cx.P e18 := ent_ok h kh (tab := []) .nil run18
/-- 4834 operations -/
theorem top : isTrue ((evCall cx kn [e15, e16, e17, e18] 1000000 80).fn 3 [] ⟨.leaf, .h⟩) = true := by decide +kernel
theorem holds {G : Nat → Nat} {w : World} (h : cx.Fine G w) (kh : KnOK G w cx.P kn) : Calls cx.P 3 #[] w fun e w' => e = .returned (.bool true) ∧ Go.RowKit.Below w.heap.size w w' := closed_run h kh (tab := [e15, e16, e17, e18]) (.cons (ok15 h kh) (.cons (ok16 h kh) (.cons (ok17 h kh) (.cons (ok18 h kh) .nil)))) top
end
end Go.Proofs.YtjhaaapgkaknoaaGreatDoor.L
