/-
  How many bytes a small number takes, by the evaluator, run in the kernel.
-/
import Derived.Test.YtjhaaapgkaknoaaGreatDoorKA

set_option linter.unusedVariables false
set_option maxRecDepth 100000
namespace Go.Proofs.YtjhaaapgkaknoaaGreatDoor
open Go Go.Ev Go.RowKit
noncomputable section

/- ### How many bytes a number takes: by the evaluator -/
def szChk (x : Option (Bool × AV × Mem)) : Bool :=
  match x with
  | some (true, .int .i64 (.ofNat c), _) => Nat.ble c 10
  | _ => false

theorem szChk_iff {x : Option (Bool × AV × Mem)} (h : szChk x = true) : ∃ c m, x = some (true, .int .i64 (.ofNat c), m) ∧ c ≤ 10 := by
  unfold szChk at h
  split at h
  · exact ⟨_, _, rfl, Nat.le_of_ble_eq_true h⟩
  · cases h

def szAll : Nat → Bool
  | 0 => true
  | n + 1 => bif szChk ((evCall cx ⟨fun _ => none, fun _ => none, fun _ => none⟩ [] 1000 10).fn 106 [.int .i64 (.ofNat n)] ⟨.leaf, .h⟩) then szAll n else false

theorem szAll_iff : ∀ {k : Nat}, szAll k = true → ∀ n, n < k → szChk ((evCall cx ⟨fun _ => none, fun _ => none, fun _ => none⟩ [] 1000 10).fn 106 [.int .i64 (.ofNat n)] ⟨.leaf, .h⟩) = true
  | 0, _, n, hn => absurd hn (by omega)
  | k + 1, h, n, hn => by
    simp only [szAll] at h
    obtain ⟨h1, h2⟩ := and_ok h
    rcases Nat.lt_or_ge n k with h3 | h3
    · exact szAll_iff h2 n h3
    · obtain rfl : n = k := by omega
      exact h1

theorem sz_run : szAll 512 = true := by decide +kernel

theorem sz_ok {G : Nat → Nat} {w : World} (h : cx.Fine G w) {n : Nat} (hn : n < 512) : Calls Tryz.prog 106 #[.int .i64 n] w fun e w' => (∃ c : Nat, c ≤ 10 ∧ e = .returned (.int .i64 c)) ∧ Below w.heap.size w w' := by
  obtain ⟨c, m, h1, h2⟩ := szChk_iff (szAll_iff sz_run n hn)
  refine ((evCall_ok h KnOK.none TabOK.nil 10).ret 106 _ _ _ m h1 (fun _ => none) w [.int .i64 n] rfl RelH.start).mono fun e w' ⟨ρ', x, he, hx, hr, hf⟩ => ?_
  simp only [den, Option.some.injEq] at hx
  subst hx
  exact ⟨⟨c, h2, he⟩, ⟨hr.os, hr.tape, hr.output, hr.size, hr.low⟩⟩
end
end Go.Proofs.YtjhaaapgkaknoaaGreatDoor
