/-
  A part of the evaluator for closed runs: proved once over any program.
-/
import Derived.Test.YtgcpgkbplgjpoaaGreatDoorEvYA
import Derived.Below
set_option linter.unusedVariables false
set_option linter.unusedSimpArgs false
namespace Go.Ev
open Go.RowKit
noncomputable section

def isTrue : Option (Bool × AV × Mem) → Bool
  | some (true, .bool true, _) => true
  | _ => false

theorem isTrue_iff {x : Option (Bool × AV × Mem)} (h : isTrue x = true) : ∃ m, x = some (true, .bool true, m) := by
  unfold isTrue at h
  split at h
  · exact ⟨_, rfl⟩
  · cases h

theorem RelH.start {G : Nat → Nat} {w : World} : RelH G w (fun _ => none) .leaf .h w where
  obj p o h := by simp [T.get_leaf] at h
  inj p q o o' b κ κ' h := by simp [T.get_leaf] at h
  fresh _ _ := rfl
  low _ _ := rfl
  os := rfl
  tape := rfl
  output := rfl
  size := Nat.le_refl _

/-- A closed run that answers true. -/
theorem closed_run {C : Cx} {G : Nat → Nat} {w : World} (ok : C.Fine G w) {rounds d f : Nat} (h : isTrue (evCall C rounds d f [] ⟨.leaf, .h⟩) = true) :
    Calls C.P f #[] w fun e w' => e = .returned (.bool true) ∧ Below w.heap.size w w' := by
  obtain ⟨m, hm⟩ := isTrue_iff h
  refine ((evCall_ok ok d).ret f [] ⟨.leaf, .h⟩ _ m hm _ w [] rfl RelH.start).mono fun e w' ⟨ρ', x, he, hx, hr, hf⟩ => ?_
  simp only [den, Option.some.injEq] at hx
  subst hx
  exact ⟨he, ⟨hr.os, hr.tape, hr.output, hr.size, hr.low⟩⟩
end
end Go.Ev
