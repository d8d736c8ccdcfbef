/-
  What the desk's methods answer without a desk; a source of no bytes.
-/
import Derived.Test.YtjhaaapgkaknoaaGreatDoorKA
import Derived.Test.YtjhaaapgkaknoaaGreatDoorEvZ
import Derived.WalkKit

set_option linter.unusedVariables false
set_option maxRecDepth 100000
namespace Go.Proofs.YtjhaaapgkaknoaaGreatDoor
open Go Go.Ev Go.RowKit

theorem c7 (s : ByteArray) (p : Option Addr) (n : Int) (w : World) : Calls Tryz.prog 7 #[.pointer none, .string s, .pointer p, .int .u64 n] w fun e w' => e = .returned (.tuple #[.string ByteArray.empty, .int .i64 0]) ∧ Below w.heap.size w w' := by
  go_enter Tryz.func7, Tryz.ntmps7
  go_wp2
  first | go_ret2 | go_ret
  first | exact ⟨rfl, Below.refl _ _⟩ | exact ⟨rfl, (Below.refl _ _).alloc (Nat.le_refl _) _⟩ | exact ⟨rfl, ((Below.refl _ _).alloc (Nat.le_refl _) _).alloc (by simp) _⟩
theorem c9 (s t : ByteArray) (w : World) : Calls Tryz.prog 9 #[.pointer none, .string s, .string t] w fun e w' => e = .returned (.tuple #[.string ByteArray.empty, .int .i64 0]) ∧ Below w.heap.size w w' := by
  go_enter Tryz.func9, Tryz.ntmps9
  go_wp2
  first | go_ret2 | go_ret
  first | exact ⟨rfl, Below.refl _ _⟩ | exact ⟨rfl, (Below.refl _ _).alloc (Nat.le_refl _) _⟩ | exact ⟨rfl, ((Below.refl _ _).alloc (Nat.le_refl _) _).alloc (by simp) _⟩
theorem c10 (s t u : ByteArray) (w : World) : Calls Tryz.prog 10 #[.pointer none, .string s, .string t, .string u] w fun e w' => e = .returned (.tuple #[.string ByteArray.empty, .int .i64 0]) ∧ Below w.heap.size w w' := by
  go_enter Tryz.func10, Tryz.ntmps10
  go_wp2
  first | go_ret2 | go_ret
  first | exact ⟨rfl, Below.refl _ _⟩ | exact ⟨rfl, (Below.refl _ _).alloc (Nat.le_refl _) _⟩ | exact ⟨rfl, ((Below.refl _ _).alloc (Nat.le_refl _) _).alloc (by simp) _⟩
theorem c11 (s t : ByteArray) (w : World) : Calls Tryz.prog 11 #[.pointer none, .string s, .string t] w fun e w' => e = .returned (.int .i64 0) ∧ Below w.heap.size w w' := by
  go_enter Tryz.func11, Tryz.ntmps11
  go_wp2
  first | go_ret2 | go_ret
  first | exact ⟨rfl, Below.refl _ _⟩ | exact ⟨rfl, (Below.refl _ _).alloc (Nat.le_refl _) _⟩ | exact ⟨rfl, ((Below.refl _ _).alloc (Nat.le_refl _) _).alloc (by simp) _⟩
theorem c12 (w : World) : Calls Tryz.prog 12 #[.pointer none] w fun e w' => e = .returned (.slice none 0 0) ∧ Below w.heap.size w w' := by
  go_enter Tryz.func12, Tryz.ntmps12
  go_wp2
  first | go_ret2 | go_ret
  first | exact ⟨rfl, Below.refl _ _⟩ | exact ⟨rfl, (Below.refl _ _).alloc (Nat.le_refl _) _⟩ | exact ⟨rfl, ((Below.refl _ _).alloc (Nat.le_refl _) _).alloc (by simp) _⟩
theorem c5 (n : Int) (w : World) : Calls Tryz.prog 5 #[.int .i64 n] w fun e w' => e = .returned (.int .i64 n) ∧ Below w.heap.size w w' := by
  go_enter Tryz.func5, Tryz.ntmps5
  go_wp2
  first | go_ret2 | go_ret
  first | exact ⟨rfl, Below.refl _ _⟩ | exact ⟨rfl, (Below.refl _ _).alloc (Nat.le_refl _) _⟩ | exact ⟨rfl, ((Below.refl _ _).alloc (Nat.le_refl _) _).alloc (by simp) _⟩

/- A source of no bytes, by the evaluator. -/
def isPtr : Option (Bool × AV × Mem) → Bool
  | some (true, .ptr _ 0, _) => true
  | _ => false
theorem isPtr_iff {x : Option (Bool × AV × Mem)} (h : isPtr x = true) : ∃ p m, x = some (true, .ptr p 0, m) := by
  unfold isPtr at h
  split at h
  · exact ⟨_, _, rfl⟩
  · cases h
noncomputable def cx0 : Cx := ⟨Tryz.prog, 100, fun _ _ => none, fun _ => none, fun _ _ => 0⟩
theorem no_numgo' : (Tryz.prog.funcs.all fun fn => !(fn.name == "runtime.NumGoroutine")) = true := by kernel_rfl
theorem cx0_fine (w : World) : cx0.Fine (Gs []) w where
  glob g hg := Gs_glob _ hg
  cell g off v h := by cases h
  mixed := by kernel_rfl
  name f fn h := by
    obtain ⟨h1, h2⟩ := Array.getElem?_eq_some_iff.1 (show Tryz.prog.funcs[f]? = some fn from h)
    have := Array.all_eq_true.1 no_numgo' f h1
    rw [h2] at this
    simpa using this
  extern f k h := by cases h
theorem src_run : isPtr ((evCall cx0 ⟨fun _ => none, fun _ => none, fun _ => none⟩ [] 1000 10).fn 8 [.nilS] ⟨.leaf, .h⟩) = true := by decide +kernel
theorem c8 (w : World) : Calls Tryz.prog 8 #[.slice none 0 0] w fun e w' => (∃ p, e = .returned (.pointer (some p))) ∧ Below w.heap.size w w' := by
  obtain ⟨p, m, h1⟩ := isPtr_iff src_run
  refine ((evCall_ok (cx0_fine w) KnOK.none TabOK.nil 10).ret 8 _ _ _ m h1 (fun _ => none) w [.slice none 0 0] rfl RelH.start).mono fun e w' ⟨ρ', x, he, hx, hr, hf⟩ => ?_
  obtain ⟨b, κ, _, rfl⟩ := den_ptr hx
  exact ⟨⟨_, he⟩, ⟨hr.os, hr.tape, hr.output, hr.size, hr.low⟩⟩
end Go.Proofs.YtjhaaapgkaknoaaGreatDoor
