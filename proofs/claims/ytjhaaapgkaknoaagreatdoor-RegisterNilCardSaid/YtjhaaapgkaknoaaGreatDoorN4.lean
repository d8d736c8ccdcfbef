/-
  What an act that came in is, cell for cell.
-/
import Derived.Test.YtjhaaapgkaknoaaGreatDoorRows
import Derived.ProofKit
import Derived.OpenShut
import Derived.ChangeOld
import Derived.Lib.SmallJoins

set_option linter.unusedVariables false
set_option maxRecDepth 100000
namespace Go.Proofs.YtjhaaapgkaknoaaGreatDoor
open Go Go.ChangeShapes Go.WideShapes Go.ChangeAt Go.RowKit Go.Joins

theorem array6 {α : Type} {cs : Array α} (h : cs.size = 6) : ∃ c0 c1 c2 c3 c4 c5, cs = #[c0, c1, c2, c3, c4, c5] := by
  obtain ⟨l⟩ := cs
  match l, h with
  | [c0, c1, c2, c3, c4, c5], _ => exact ⟨c0, c1, c2, c3, c4, c5, rfl⟩

theorem cells28 : Tryz.prog.cellsOf 28 = 6 := by kernel_rfl

theorem open_act {H : Type} {enc : TypeId × Value → H} {W : World} {r : Reach} {b0 base : Nat} {sp : Nat → Bool} {held : Bool} {v : Value} {d : DataW H} {p : List MemPlace}
    (hv : Value.okWide Tryz.prog W r b0 28 v) (h : DataW.Trod enc Tryz.prog W base sp held 28 v d p) :
    ∃ (k t : Int) (s1 s2 s3 : ByteArray) (x : Value), v = .agg #[.int .i64 k, .string s1, .string s2, .string s3, x, .int .u64 t] := by
  obtain ⟨cs, rfl, hsz⟩ := okWide_struct Tryz.underlying28 hv
  obtain ⟨c0, c1, c2, c3, c4, c5, rfl⟩ := array6 (hsz.trans cells28)
  obtain ⟨fuel, hf⟩ := h
  obtain ⟨xs, n, _, hx, hl, hlen, hf⟩ := DataW.trod_struct Tryz.underlying28 hf
  match xs, hlen with
  | [y0, y1, y2, y3, y4, y5], _ =>
    have e3 : Tryz.prog.cellsOf 3 = 1 := by kernel_rfl
    have e9 : Tryz.prog.cellsOf 9 = 1 := by kernel_rfl
    have e26 : Tryz.prog.cellsOf 26 = 1 := by kernel_rfl
    have h0 : DataW.trod enc Tryz.prog W base sp held n 3 [c0] = some y0 := by simpa [Value.cells, e3] using hf 0 _ rfl
    have h1 : DataW.trod enc Tryz.prog W base sp held n 9 [c1] = some y1 := by simpa [Value.cells, e9] using hf 1 _ rfl
    have h2 : DataW.trod enc Tryz.prog W base sp held n 9 [c2] = some y2 := by simpa [Value.cells, e9] using hf 2 _ rfl
    have h3 : DataW.trod enc Tryz.prog W base sp held n 9 [c3] = some y3 := by simpa [Value.cells, e9] using hf 3 _ rfl
    have h5 : DataW.trod enc Tryz.prog W base sp held n 26 [c5] = some y5 := by simpa [Value.cells, e26] using hf 5 _ rfl
    obtain ⟨k, g0, _, _⟩ := DataW.trod_int Tryz.underlying3 h0
    obtain ⟨s1, g1, _, _⟩ := DataW.trod_string Tryz.underlying9 h1
    obtain ⟨s2, g2, _, _⟩ := DataW.trod_string Tryz.underlying9 h2
    obtain ⟨s3, g3, _, _⟩ := DataW.trod_string Tryz.underlying9 h3
    obtain ⟨t, g5, _, _⟩ := DataW.trod_int Tryz.underlying26 h5
    simp only [List.cons.injEq, and_true] at g0 g1 g2 g3 g5
    subst g0 g1 g2 g3 g5
    exact ⟨k, t, s1, s2, s3, c4, rfl⟩
end Go.Proofs.YtjhaaapgkaknoaaGreatDoor
