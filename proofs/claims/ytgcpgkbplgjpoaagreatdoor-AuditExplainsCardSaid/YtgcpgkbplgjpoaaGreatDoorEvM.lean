/-
  A part of the evaluator for closed runs: proved once over any program.
-/
import Derived.Test.YtgcpgkbplgjpoaaGreatDoorEvL
set_option linter.unusedVariables false
set_option linter.unusedSimpArgs false
namespace Go.Ev
noncomputable section

/-! ### append -/
theorem growBy_le (n : Nat) : ∀ (k c : Nat), Builtin.growBy n k c ≤ max c (n + (n + 768) / 4)
  | 0, c => by simp [Builtin.growBy]; omega
  | k + 1, c => by
    simp only [Builtin.growBy]
    split
    · omega
    · have := growBy_le n k (c + (c + 768) / 4); omega

theorem nextcap_le (n c : Nat) (h : c < n) : Builtin.nextslicecap n c ≤ 2 * n + 192 := by
  unfold Builtin.nextslicecap
  split
  · omega
  · split
    · omega
    · have := growBy_le n 4 c; omega

def notInt (P : Program) (t : TypeId) : Bool :=
  match P.underlying t with
  | some (.int _) => false
  | some _ => true
  | none => false

theorem notInt_ok {P : Program} {t : TypeId} (h : notInt P t = true) : ∃ d, P.underlying t = some d ∧ (match d with | .int _ => true | _ => false) = false := by
  unfold notInt at h
  cases hu : P.underlying t with
  | none => simp [hu] at h
  | some d => exact ⟨d, rfl, by cases d <;> first | rfl | (simp [hu] at h)⟩

section
variable {P : Program} {t0 t1 ty e : TypeId} {ts : List TypeId} {w : World} {s : Nat} {base : Option Addr} {sLen sCap n : Nat} {X : Value} {N : Array Value}

theorem append_in (hu : P.underlying t0 = some (.slice e)) (hs : sizeA P e = some s) (hi : notInt P t1 = true) (hl : (Builtin.lenOf X).run P w = .ok n w) (hc : sLen + n ≤ sCap)
    (hN : (Builtin.firstCells s n X).run P w = .ok N w) {w' : World} (hst : (match base with | some a => storeCells (a.add (sLen * s)) N.toList | none => pure () : Sem Unit).run P w = .ok () w') :
    (Builtin.append_ (t0 :: t1 :: ts).toArray ty #[.slice base sLen sCap, X]).run P w = .ok (.slice base (sLen + n) sCap) w' := by
  obtain ⟨d1, hd1, hm1⟩ := notInt_ok hi
  cases d1 <;> first | (simp at hm1; done) | skip
  all_goals
   simp only [Builtin.append_, List.size_toArray, List.length_cons, List.length_nil, List.getElem?_toArray, List.getElem?_cons_zero, List.getElem?_cons_succ, Sem.run_bind, run_underlying hu, run_underlying hd1, Result.andThen_ok, sizeA_ok hs, Sem.run_pure, hm1, Bool.false_eq_true, if_false, hl, Sem.run_ite, Bool.not_false, if_true]
   rw [if_pos hc]
   simp only [Sem.run_bind, hN, Result.andThen_ok]
   cases base with
   | none => simp at hst; subst hst; simp
   | some a => simp only at hst; simp [hst]

theorem append_grow (hu : P.underlying t0 = some (.slice e)) (hs : sizeA P e = some s) (hi : notInt P t1 = true) {i : TypeInfo} (hinfo : P.info? e = some i) {z : Value} (hz : ∀ w, (zeroValue e).run P w = .ok z w) (hzs : z.cells.size = s)
    (hl : (Builtin.lenOf X).run P w = .ok n w) (hc : ¬ sLen + n ≤ sCap) (hb1 : sLen + n ≤ 1000000) (hb2 : i.bytes ≤ 1000000) {O : Array Value}
    (hO : ∀ d, (Builtin.firstCells s sLen (.slice base sLen sCap)).run P { w with drawn := d } = .ok O { w with drawn := d }) (hN : ∀ d, (Builtin.firstCells s n X).run P { w with drawn := d } = .ok N { w with drawn := d }) :
    ∃ κ, sLen + n ≤ κ ∧ (Builtin.append_ (t0 :: t1 :: ts).toArray ty #[.slice base sLen sCap, X]).run P w =
      .ok (.slice (some ⟨w.heap.size, 0, none⟩) (sLen + n) κ) ({ w with drawn := w.drawn + 1 }.alloc (.cells (O ++ N ++ (zrow z.cells.toList (κ - (sLen + n))).toArray) e)) := by
  obtain ⟨d1, hd1, hm1⟩ := notInt_ok hi
  have hmax : IntKind.i64.max = 9223372036854775807 := by decide
  have hno : ¬ (((sLen + n : Nat) : Int) > IntKind.i64.max ∧ (False ∨ i.bytes = 0)) := by
    rw [hmax]; omega
  have hnc : Builtin.nextslicecap (sLen + n) sCap * i.bytes ≤ 2 ^ 48 := by
    have h1 := nextcap_le (sLen + n) sCap (by omega)
    have h2 : Builtin.nextslicecap (sLen + n) sCap * i.bytes ≤ 2000192 * 1000000 := Nat.mul_le_mul (by omega) hb2
    omega
  refine ⟨(Question.appendCap (sLen + n) sCap e).cut (w.tape w.drawn (Question.appendCap (sLen + n) sCap e)), by simp [Question.cut], ?_⟩
  generalize hκ : (Question.appendCap (sLen + n) sCap e).cut (w.tape w.drawn (Question.appendCap (sLen + n) sCap e)) = κ
  have ezr : Builtin.zeroCells z.cells (κ - (sLen + n)) = (zrow z.cells.toList (κ - (sLen + n))).toArray := by
    apply Array.ext'; rw [zeroCells_list]
  cases d1 <;> first | (simp at hm1; done) | skip
  all_goals
   simp only [Builtin.append_, List.size_toArray, List.length_cons, List.length_nil, List.getElem?_toArray, List.getElem?_cons_zero, List.getElem?_cons_succ, Sem.run_bind, run_underlying hu, run_underlying hd1, Result.andThen_ok, sizeA_ok hs, Sem.run_pure, hm1, Bool.false_eq_true, if_false, hl, Sem.run_ite, Bool.not_false, if_true]
   rw [if_neg hc]
   simp only [Sem.run_bind, typeInfo, run_program, Result.andThen_ok, hinfo, Sem.run_pure, Sem.run_ite]
   rw [if_neg hno, if_neg (by omega)]
   simp only [Result.andThen_ok, run_choose, Question.forced, Bool.false_eq_true, if_false, hκ, run_askRoom, hO, hN, hz, ezr, run_newRow]
end
end
end Go.Ev
