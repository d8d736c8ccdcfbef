/-
  The statement's own live() answers true, in whatever world it is called, and writes nothing that was there: by the evaluator, run in the kernel.
-/
import Derived.Test.YtgcpgkbplgjpoaaGreatDoorEvZ
import Derived.Test.YtgcpgkbplgjpoaaGreatDoorChecked
import Derived.KernelRfl
namespace Go.Proofs.YtgcpgkbplgjpoaaGreatDoor
open Go Go.Ev Go.RowKit
noncomputable section

def extF (f : FuncId) : Option Ext := bif Nat.beq f 242 then some .same else bif Nat.beq f 224 then some .indexByte else bif Nat.beq f 184 then some .count else none

/-- The program, and what is known of its externs; of package-level variables nothing. -/
def cx : Cx := ⟨Tryz.prog, 100, fun _ _ => none, extF, fun _ _ => 0⟩

theorem live_run : isTrue (evCall cx 1000000 80 4 [] ⟨.leaf, .h⟩) = true := by decide +kernel

theorem no_numgo : (Tryz.prog.funcs.all fun fn => !(fn.name == "runtime.NumGoroutine")) = true := by kernel_rfl

theorem ext242 (args : Array Value) (w : World) : (callFunc 242 args).run Tryz.prog w = ((Extern.AbiNoEscape.same args).run Tryz.prog w).andThen fun v w' => .ok (.value v) w' :=
  run_callFunc_extern Tryz.func242 (by kernel_rfl) (by kernel_rfl) (by kernel_rfl) (by kernel_rfl) args w
theorem ext224 (args : Array Value) (w : World) : (callFunc 224 args).run Tryz.prog w = ((Extern.BytealgIndexByte.indexByte args).run Tryz.prog w).andThen fun v w' => .ok (.value v) w' :=
  run_callFunc_extern Tryz.func224 (by kernel_rfl) (by kernel_rfl) (by kernel_rfl) (by kernel_rfl) args w
theorem ext184 (args : Array Value) (w : World) : (callFunc 184 args).run Tryz.prog w = ((Extern.BytealgCount.count args).run Tryz.prog w).andThen fun v w' => .ok (.value v) w' :=
  run_callFunc_extern Tryz.func184 (by kernel_rfl) (by kernel_rfl) (by kernel_rfl) (by kernel_rfl) args w

theorem cx_fine (w : World) : cx.Fine id w where
  glob _ _ := rfl
  cell g off v h := by cases h
  mixed := by kernel_rfl
  name f fn h := by
    obtain ⟨h1, h2⟩ := Array.getElem?_eq_some_iff.1 (show Tryz.prog.funcs[f]? = some fn from h)
    have := Array.all_eq_true.1 no_numgo f h1
    rw [h2] at this
    simpa using this
  extern f k h args w := by
    have h' : extF f = some k := h
    unfold extF at h'
    cases h1 : Nat.beq f 242 with
    | true =>
      obtain rfl := Nat.eq_of_beq_eq_true h1
      simp only [h1, cond_true, Option.some.injEq] at h'
      subst h'
      exact ext242 args w
    | false =>
      simp only [h1, cond_false] at h'
      cases h2 : Nat.beq f 224 with
      | true =>
        obtain rfl := Nat.eq_of_beq_eq_true h2
        simp only [h2, cond_true, Option.some.injEq] at h'
        subst h'
        exact ext224 args w
      | false =>
        simp only [h2, cond_false] at h'
        cases h3 : Nat.beq f 184 with
        | true =>
          obtain rfl := Nat.eq_of_beq_eq_true h3
          simp only [h3, cond_true, Option.some.injEq] at h'
          subst h'
          exact ext184 args w
        | false => simp [h3] at h'

theorem live_true (w : World) : Calls Tryz.prog 4 #[] w fun e w' => e = .returned (.bool true) ∧ Below w.heap.size w w' := closed_run (cx_fine w) live_run
end
end Go.Proofs.YtgcpgkbplgjpoaaGreatDoor
