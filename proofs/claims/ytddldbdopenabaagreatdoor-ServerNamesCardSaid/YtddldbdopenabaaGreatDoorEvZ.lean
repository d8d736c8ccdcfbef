/-
  The place of a text in a text, as numbers: what the shelf's contract for the search gives.
-/
import Derived.Test.YtddldbdopenabaaGreatDoorEvY
import Derived.Below
import Derived.Lib.IndexLaws
set_option linter.unusedVariables false
set_option linter.unusedSimpArgs false
namespace Go.Ev
open Go.RowKit
noncomputable section

def isTrue : Option (Bool × AV × Mem) → Bool
  | some (true, .bool true, _) => true
  | _ => false

theorem isTrue_iff {x : Option (Bool × AV × Mem)} (h : isTrue x = true) : ∃ m, x = some (true, .bool true, m) := by
  unfold isTrue at h
  split at h
  · exact ⟨_, rfl⟩
  · cases h

theorem RelH.start {G : Nat → Nat} {w : World} : RelH G w (fun _ => none) .leaf .h w where
  obj p o h := by simp [T.get_leaf] at h
  inj p q o o' b κ κ' h := by simp [T.get_leaf] at h
  fresh _ _ := rfl
  low _ _ := rfl
  os := rfl
  tape := rfl
  output := rfl
  size := Nat.le_refl _

/-- A closed run that answers true. -/
theorem closed_run {C : Cx} {G : Nat → Nat} {w : World} (ok : C.Fine G w) {kn : Kn} (hs : KnOK G w C.P kn) {tab : List Ent} (ht : TabOK G w C.P tab) {rounds d f : Nat} (h : isTrue ((evCall C kn tab rounds d).fn f [] ⟨.leaf, .h⟩) = true) :
    Calls C.P f #[] w fun e w' => e = .returned (.bool true) ∧ Below w.heap.size w w' := by
  obtain ⟨m, hm⟩ := isTrue_iff h
  refine ((evCall_ok ok hs ht d).ret f [] ⟨.leaf, .h⟩ _ m hm _ w [] rfl RelH.start).mono fun e w' ⟨ρ', x, he, hx, hr, hf⟩ => ?_
  simp only [den, Option.some.injEq] at hx
  subst hx
  exact ⟨he, ⟨hr.os, hr.tape, hr.output, hr.size, hr.low⟩⟩
end
end Go.Ev

set_option linter.unusedVariables false
namespace Go.Ev
open Go Go.RowKit
noncomputable section

/-- Where does the text of m bytes c (below 256 ^ m) begin in the text of n bytes b? -/
def idxN (m q c : Nat) : Nat → Nat → Nat → Option Nat
  | 0, _, i => bif Nat.beq m 0 then some i else none
  | n + 1, b, i => bif Nat.beq (Nat.mod b q) c then (bif Nat.ble m (Nat.succ n) then some i else none) else idxN m q c n (Nat.div b 256) (Nat.succ i)

def idxI : Option Nat → Int
  | some i => .ofNat i
  | none => .negSucc 0

theorem pre_bytes (m c n b : Nat) : (bytesL m c).isPrefixOf (bytesL n b) = decide (m ≤ n ∧ b % 256 ^ m = c % 256 ^ m) := by
  rw [Bool.eq_iff_iff, List.isPrefixOf_iff_prefix, decide_eq_true_iff, List.prefix_iff_eq_take, length_bytesL]
  constructor
  · intro h
    have hl : m ≤ n := by
      have := congrArg List.length h
      simp at this
      omega
    rw [bytesL_take _ _ _ hl] at h
    exact ⟨hl, ((bytesL_inj _ _ _).1 h).symm⟩
  · intro ⟨hl, h⟩
    rw [bytesL_take _ _ _ hl]
    exact (bytesL_inj _ _ _).2 h.symm

theorem idxN_ok (m c : Nat) : ∀ (n b i : Nat), idxN m (256 ^ m) (c % 256 ^ m) n b i = (match Lib.index (bytesL n b) (bytesL m c) with | .ofNat j => some (i + j) | .negSucc _ => none)
  | 0, b, i => by
    cases m with
    | zero => rfl
    | succ m => rfl
  | n + 1, b, i => by
    have hp := pre_bytes m c (n + 1) b
    have hr := idxN_ok m c n (b / 256) (i + 1)
    have hge := Lib.index_ge (bytesL n (b / 256)) (bytesL m c)
    simp only [idxN, nbeq, nble]
    simp only [bytesL] at hp ⊢
    unfold Lib.index
    rw [hp]
    by_cases h : b % 256 ^ m = c % 256 ^ m
    · have h' : b.mod (256 ^ m) = c % 256 ^ m := h
      simp only [h', decide_true, cond_true]
      by_cases hm : m ≤ n + 1
      · simp [hm, h]
      · have hn : Lib.index (bytesL n (b / 256)) (bytesL m c) = -1 := by
          refine Lib.index_long (by simp; omega) fun e => ?_
          have := congrArg List.length e
          simp at this
          omega
        simp only [hm, false_and, decide_false, cond_false, Bool.false_eq_true, if_false, hn]
        rfl
    · have h' : ¬ b.mod (256 ^ m) = c % 256 ^ m := h
      simp only [h', h, and_false, decide_false, cond_false, Bool.false_eq_true, if_false]
      show idxN m (256 ^ m) (c % 256 ^ m) n (b / 256) (i + 1) = _
      rw [hr]
      cases hi : Lib.index (bytesL n (b / 256)) (bytesL m c) with
      | ofNat j =>
        have : ((Int.ofNat j == -1) : Bool) = false := rfl
        simp only [this, Bool.false_eq_true, if_false]
        show some (i + 1 + j) = some (i + (j + 1))
        congr 1
        omega
      | negSucc j =>
        rw [hi] at hge
        have : j = 0 := by omega
        subst this
        rfl

def idxK (args : List AV) : Option AV :=
  match args with
  | [.str n b, .str m c] => bif Nat.ble n 1000000000 then (match idxN m (Nat.pow 256 m) (Nat.mod c (Nat.pow 256 m)) n b 0 with
    | some i => fN i fun i => some (.int .i64 (.ofNat i))
    | none => some (.int .i64 (.negSucc 0))) else none
  | _ => none

/-- What a call of the search answers. -/
theorem idxK_ok {P : Program} {f : FuncId} {G : Nat → Nat} {ρ : Env} {args : List AV} {v : AV} {xs : List Value} {w : World} (hk : idxK args = some v) (d : denL G ρ args = some xs)
    (H : ∀ s sub : ByteArray, s.size < 4294967281 → Calls P f #[.string s, .string sub] w fun e w' => e = .returned (.int .i64 (Lib.index s.data.toList sub.data.toList)) ∧ w' = w) :
    Calls P f xs.toArray w fun e w' => ∃ x, e = .returned x ∧ den G ρ v = some x ∧ Below w.heap.size w w' := by
  unfold idxK at hk
  split at hk
  · rename_i n b m c
    obtain ⟨hn, hk⟩ := cond_some hk
    have hn := Nat.le_of_ble_eq_true hn
    obtain ⟨x, ys, d1, d2, rfl⟩ := denL_cons.1 d
    obtain ⟨y, zs, d3, d4, rfl⟩ := denL_cons.1 d2
    simp [denL] at d4; subst d4
    simp only [den, Option.some.injEq] at d1 d3; subst d1 d3
    refine (H (mkB n b) (mkB m c) (by rw [size_mkB]; omega)).mono fun e w' ⟨he, hw⟩ => ?_
    subst hw
    refine ⟨_, he, ?_, Below.refl _ _⟩
    have h := idxN_ok m c n b 0
    have hge := Lib.index_ge (bytesL n b) (bytesL m c)
    rw [show Nat.pow 256 m = 256 ^ m from rfl, show Nat.mod c (256 ^ m) = c % 256 ^ m from rfl, h] at hk
    simp only [mkB]
    cases hi : Lib.index (bytesL n b) (bytesL m c) with
    | ofNat j =>
      simp only [hi, Nat.zero_add, fN_eq, Option.some.injEq] at hk
      subst hk
      rfl
    | negSucc j =>
      rw [hi] at hge
      have : j = 0 := by omega
      subst this
      simp only [hi, Option.some.injEq] at hk
      subst hk
      rfl
  · cases hk
end
end Go.Ev
