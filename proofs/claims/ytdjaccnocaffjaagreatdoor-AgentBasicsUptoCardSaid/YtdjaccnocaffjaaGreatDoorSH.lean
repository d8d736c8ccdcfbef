/-
  The header that shows a client, in plain words: the form's escape, base64, both ways. No program in sight.
-/
import Derived.Lib.Replace
import Derived.Lib.IndexAny
import Derived.Lib.IndexBytes
import Derived.Lib.IndexMore
import Derived.Lib.Strings
import Derived.Lib.TrimByte
import Derived.Lib.Fold
import Derived.Shelf.Strings.BuilderK
import Derived.Test.YtdjaccnocaffjaaGreatDoorProg
import Derived.Shelf.Strings.Trim
import Derived.Shelf.Strings.Shaped
import Derived.Shelf.Strings.Prefix
import Derived.Shelf.Strings.Fold
import Derived.Shelf.Strings.SplitShaped
import Derived.Shelf.Strings.IndexAnyAll

set_option linter.unusedVariables false
set_option maxRecDepth 100000
namespace Go.Basic

/- ### The form's escape -/
def hexd (n : Nat) : UInt8 := if n < 10 then UInt8.ofNat (48 + n) else UInt8.ofNat (55 + n)

def isPlain (c : Nat) : Bool := (decide (65 ≤ c) && decide (c ≤ 90)) || (decide (97 ≤ c) && decide (c ≤ 122)) || (decide (48 ≤ c) && decide (c ≤ 57)) || c == 45 || c == 46 || c == 95 || c == 42

def esc1 (c : UInt8) : List UInt8 := if c = 32 then [43] else if isPlain c.toNat then [c] else [37, hexd (c.toNat / 16), hexd (c.toNat % 16)]

def esc (l : List UInt8) : List UInt8 := l.flatMap esc1

def hexv (c : UInt8) : Option Nat :=
  if 48 ≤ c.toNat ∧ c.toNat ≤ 57 then some (c.toNat - 48) else if 97 ≤ c.toNat ∧ c.toNat ≤ 102 then some (c.toNat - 87) else if 65 ≤ c.toNat ∧ c.toNat ≤ 70 then some (c.toNat - 55) else none

def unesc : List UInt8 → Option (List UInt8)
  | [] => some []
  | c :: t =>
    if c.toNat < 33 ∨ 126 < c.toNat then none
    else if c = 43 then (unesc t).map (32 :: ·)
    else if c = 37 then
      match t with
      | a :: b :: u => match hexv a, hexv b with
        | some x, some y => (unesc u).map (UInt8.ofNat (16 * x + y) :: ·)
        | _, _ => none
      | _ => none
    else (unesc t).map (c :: ·)

theorem hexv_hexd : ∀ n, n < 16 → hexv (hexd n) = some n := by decide

theorem plain_ok : ∀ n, n < 256 → isPlain n = true → 33 ≤ n ∧ n ≤ 126 ∧ n ≠ 43 ∧ n ≠ 37 ∧ n ≠ 58 := by decide

theorem toNat_ne {c d : UInt8} (h : c.toNat ≠ d.toNat) : c ≠ d := fun e => h (by rw [e])

theorem unesc_esc1 (c : UInt8) (t : List UInt8) : unesc (esc1 c ++ t) = (unesc t).map (c :: ·) := by
  unfold esc1
  split
  · rename_i h
    subst h
    show unesc (43 :: t) = _
    conv => lhs; unfold unesc
    rw [if_neg (by decide), if_pos rfl]
  · split
    · rename_i h1 h2
      obtain ⟨a, b, d, e, _⟩ := plain_ok _ (UInt8.toNat_lt c) h2
      show unesc (c :: t) = _
      conv => lhs; unfold unesc
      rw [if_neg (by omega), if_neg (toNat_ne (d := 43) d), if_neg (toNat_ne (d := 37) e)]
    · have hc := UInt8.toNat_lt c
      show unesc (37 :: hexd (c.toNat / 16) :: hexd (c.toNat % 16) :: t) = _
      conv => lhs; unfold unesc
      rw [if_neg (by decide), if_neg (by decide), if_pos rfl]
      simp only [hexv_hexd _ (show c.toNat / 16 < 16 by omega), hexv_hexd _ (show c.toNat % 16 < 16 by omega)]
      rw [show 16 * (c.toNat / 16) + c.toNat % 16 = c.toNat from by omega, UInt8.ofNat_toNat]

theorem unesc_esc (l : List UInt8) : unesc (esc l) = some l := by
  induction l with
  | nil => rfl
  | cons c l ih =>
    show unesc (esc1 c ++ esc l) = _
    rw [unesc_esc1, ih]
    rfl

theorem hexd_ne : ∀ n, n < 16 → hexd n ≠ 58 := by decide

/-- No colon is in what is escaped. -/
theorem esc_colon (l : List UInt8) : ∀ x ∈ esc l, x ≠ 58 := by
  intro x hx
  obtain ⟨c, _, hc⟩ := List.mem_flatMap.1 hx
  unfold esc1 at hc
  have hl := UInt8.toNat_lt c
  split at hc
  · simp at hc; subst hc; decide
  · split at hc
    · rename_i h2
      obtain ⟨_, _, _, _, e⟩ := plain_ok _ hl h2
      simp at hc; subst hc
      exact toNat_ne (d := 58) e
    · simp at hc
      rcases hc with rfl | rfl | rfl
      · decide
      · exact hexd_ne _ (by omega)
      · exact hexd_ne _ (by omega)

/- ### Base64 -/
def let64 (n : Nat) : UInt8 := if n < 26 then UInt8.ofNat (65 + n) else if n < 52 then UInt8.ofNat (71 + n) else if n < 62 then UInt8.ofNat (n - 4) else if n = 62 then 43 else 47

def b64 : List UInt8 → List UInt8
  | [] => []
  | [a] => [let64 (a.toNat / 4), let64 (a.toNat % 4 * 16), 61, 61]
  | [a, b] => [let64 (a.toNat / 4), let64 (a.toNat % 4 * 16 + b.toNat / 16), let64 (b.toNat % 16 * 4), 61]
  | a :: b :: c :: t => let64 (a.toNat / 4) :: let64 (a.toNat % 4 * 16 + b.toNat / 16) :: let64 (b.toNat % 16 * 4 + c.toNat / 64) :: let64 (c.toNat % 64) :: b64 t

def val64 (c : UInt8) : Option Nat :=
  if 65 ≤ c.toNat ∧ c.toNat ≤ 90 then some (c.toNat - 65) else if 97 ≤ c.toNat ∧ c.toNat ≤ 122 then some (c.toNat - 71) else if 48 ≤ c.toNat ∧ c.toNat ≤ 57 then some (c.toNat + 4)
  else if c = 43 then some 62 else if c = 47 then some 63 else none

theorem val_let : ∀ n, n < 64 → val64 (let64 n) = some n := by decide
theorem let_ne : ∀ n, n < 64 → let64 n ≠ 61 ∧ let64 n ≠ 45 ∧ let64 n ≠ 95 := by decide

/-- Six bits each, into bytes: what is left over is n, of so many bits. -/
def bytesOf : List Nat → Nat → Nat → List UInt8 × Nat
  | [], n, _ => ([], n)
  | x :: l, n, have' =>
    let m := n * 64 + x
    let h := have' + 6
    if 8 ≤ h then let r := bytesOf l (m % 2 ^ (h - 8)) (h - 8); (UInt8.ofNat (m / 2 ^ (h - 8)) :: r.1, r.2) else bytesOf l m h

theorem bytesOf_lt {x n h : Nat} {l : List Nat} (hh : ¬ 8 ≤ h + 6) : bytesOf (x :: l) n h = bytesOf l (n * 64 + x) (h + 6) := by
  conv => lhs; unfold bytesOf
  simp only [if_neg hh]

theorem bytesOf_ge {x n h : Nat} {l : List Nat} (hh : 8 ≤ h + 6) : bytesOf (x :: l) n h = (UInt8.ofNat ((n * 64 + x) / 2 ^ (h + 6 - 8)) :: (bytesOf l ((n * 64 + x) % 2 ^ (h + 6 - 8)) (h + 6 - 8)).1, (bytesOf l ((n * 64 + x) % 2 ^ (h + 6 - 8)) (h + 6 - 8)).2) := by
  conv => lhs; unfold bytesOf
  simp only [if_pos hh]

def six : List UInt8 → List Nat
  | [] => []
  | [a] => [a.toNat / 4, a.toNat % 4 * 16]
  | [a, b] => [a.toNat / 4, a.toNat % 4 * 16 + b.toNat / 16, b.toNat % 16 * 4]
  | a :: b :: c :: t => a.toNat / 4 :: (a.toNat % 4 * 16 + b.toNat / 16) :: (b.toNat % 16 * 4 + c.toNat / 64) :: (c.toNat % 64) :: six t

theorem ofNat_eq' {n : Nat} {a : UInt8} (h : n = a.toNat) : UInt8.ofNat n = a := by subst h; exact UInt8.ofNat_toNat

theorem bytesOf_six : ∀ p : List UInt8, bytesOf (six p) 0 0 = (p, 0)
  | [] => rfl
  | [a] => by
    have ha := UInt8.toNat_lt a
    show bytesOf [a.toNat / 4, a.toNat % 4 * 16] 0 0 = _
    rw [bytesOf_lt (by omega), bytesOf_ge (by omega)]
    simp only [bytesOf, Nat.reduceAdd, Nat.reduceSub, Nat.reducePow]
    rw [ofNat_eq' (a := a) (by omega), show ((0 * 64 + a.toNat / 4) * 64 + a.toNat % 4 * 16) % 16 = 0 from by omega]
  | [a, b] => by
    have ha := UInt8.toNat_lt a
    have hb := UInt8.toNat_lt b
    show bytesOf [a.toNat / 4, a.toNat % 4 * 16 + b.toNat / 16, b.toNat % 16 * 4] 0 0 = _
    rw [bytesOf_lt (by omega), bytesOf_ge (by omega), bytesOf_ge (by omega)]
    simp only [bytesOf, Nat.reduceAdd, Nat.reduceSub, Nat.reducePow]
    rw [ofNat_eq' (a := a) (by omega), ofNat_eq' (a := b) (by omega), show (((0 * 64 + a.toNat / 4) * 64 + (a.toNat % 4 * 16 + b.toNat / 16)) % 16 * 64 + b.toNat % 16 * 4) % 4 = 0 from by omega]
  | a :: b :: c :: t => by
    have ha := UInt8.toNat_lt a
    have hb := UInt8.toNat_lt b
    have hc := UInt8.toNat_lt c
    show bytesOf (a.toNat / 4 :: (a.toNat % 4 * 16 + b.toNat / 16) :: (b.toNat % 16 * 4 + c.toNat / 64) :: (c.toNat % 64) :: six t) 0 0 = _
    rw [bytesOf_lt (by omega), bytesOf_ge (by omega), bytesOf_ge (by omega), bytesOf_ge (by omega)]
    simp only [Nat.reduceAdd, Nat.reduceSub, Nat.reducePow, Nat.div_one, Nat.mod_one]
    rw [bytesOf_six t, ofNat_eq' (a := a) (by omega), ofNat_eq' (a := b) (by omega), ofNat_eq' (a := c) (by omega)]

theorem six_lt : ∀ (p : List UInt8), ∀ x ∈ six p, x < 64
  | [] => by simp [six]
  | [a] => by
    have ha := UInt8.toNat_lt a
    simp only [six, List.mem_cons, List.mem_nil_iff, or_false]
    omega
  | [a, b] => by
    have ha := UInt8.toNat_lt a
    have hb := UInt8.toNat_lt b
    simp only [six, List.mem_cons, List.mem_nil_iff, or_false]
    omega
  | a :: b :: c :: t => by
    have ha := UInt8.toNat_lt a
    have hb := UInt8.toNat_lt b
    have hc := UInt8.toNat_lt c
    intro x hx
    simp only [six, List.mem_cons] at hx
    rcases hx with h | h | h | h | h
    · omega
    · omega
    · omega
    · omega
    · exact six_lt t x h

/-- How many signs of filling. -/
def fill (p : List UInt8) : List UInt8 := if p.length % 3 = 1 then [61, 61] else if p.length % 3 = 2 then [61] else []

theorem b64_six : ∀ p : List UInt8, b64 p = (six p).map let64 ++ fill p
  | [] => rfl
  | [a] => rfl
  | [a, b] => rfl
  | a :: b :: c :: t => by
    have e : fill (a :: b :: c :: t) = fill t := by
      unfold fill
      simp only [List.length_cons, show (t.length + 1 + 1 + 1) % 3 = t.length % 3 from by omega]
    rw [e]
    simp only [b64, six, List.map_cons, List.cons_append, b64_six t]

theorem six_length : ∀ p : List UInt8, (six p).length = (4 * p.length + 2) / 3
  | [] => rfl
  | [a] => by simp [six]
  | [a, b] => by simp [six]
  | a :: b :: c :: t => by
    simp only [six, List.length_cons, six_length t]
    omega

theorem vals_six (p : List UInt8) : ((six p).map let64).mapM val64 = some (six p) := by
  have h := six_lt p
  generalize six p = l at h
  induction l with
  | nil => rfl
  | cons x l ih =>
    rw [List.map_cons, List.mapM_cons, val_let x (h x (by simp)), ih fun y hy => h y (by simp [hy])]
    rfl
end Go.Basic

/-
  The header that shows a client, read again, in the words of the shelf's contracts: TrimSuffix, ReplaceAll, ContainsAny, Cut. No program in sight.
-/

set_option linter.unusedVariables false
set_option maxRecDepth 100000
namespace Go.Basic
open Go.Lib

/- ### ReplaceAll of one byte by another -/
theorem index_cons_ne (b c : UInt8) (l : List UInt8) (h : b ≠ c) : index (b :: l) [c] = if index l [c] == -1 then -1 else index l [c] + 1 := by
  rw [index_one, index_one]
  show (if b == c then 0 else if indexByte l c == -1 then -1 else indexByte l c + 1) = _
  rw [if_neg (by simpa using h)]

theorem index_cons_eq (c : UInt8) (l : List UInt8) : index (c :: l) [c] = 0 := by
  rw [index_one]
  show (if c == c then 0 else _) = _
  rw [if_pos (by simp)]

theorem replaceK_cons_ne (b c d : UInt8) (l : List UInt8) (h : b ≠ c) (k : Nat) : replaceK [c] [d] k (b :: l) = b :: replaceK [c] [d] k l := by
  cases k with
  | zero => rfl
  | succ k =>
    unfold replaceK
    rw [index_cons_ne b c l h]
    have hge := index_ge l [c]
    by_cases hm : index l [c] = -1
    · rw [hm]; rfl
    · have e : (index l [c] == -1) = false := by simpa using hm
      have e2 : (index l [c] + 1 == -1) = false := by simp; omega
      simp only [e, Bool.false_eq_true, if_false, e2]
      have : (index l [c] + 1).toNat = (index l [c]).toNat + 1 := by omega
      rw [this]
      simp only [List.take_succ_cons, List.cons_append, List.length_cons, List.length_nil]
      rw [show (index l [c]).toNat + 1 + (0 + 1) = ((index l [c]).toNat + (0 + 1)) + 1 from by omega, List.drop_succ_cons]

theorem replaceK_cons_eq (c d : UInt8) (l : List UInt8) (k : Nat) : replaceK [c] [d] (k + 1) (c :: l) = d :: replaceK [c] [d] k l := by
  conv => lhs; unfold replaceK
  rw [index_cons_eq]
  rfl

theorem replaceK_map (c d : UInt8) : ∀ (s : List UInt8) (k : Nat), s.count c ≤ k → replaceK [c] [d] k s = s.map fun x => if x = c then d else x
  | [], k, _ => by
    cases k with
    | zero => rfl
    | succ k => rfl
  | b :: l, k, h => by
    by_cases e : b = c
    · subst e
      rw [List.count_cons_self] at h
      obtain ⟨k, rfl⟩ : ∃ m, k = m + 1 := ⟨k - 1, by omega⟩
      rw [replaceK_cons_eq, replaceK_map b d l k (by omega), List.map_cons, if_pos rfl]
    · rw [List.count_cons_of_ne (fun h => e h)] at h
      rw [replaceK_cons_ne b c d l e, replaceK_map c d l k h, List.map_cons, if_neg e]

theorem replaceAll_map (c d : UInt8) (s : List UInt8) (h : c ≠ d) : replaceAll s [c] [d] = s.map fun x => if x = c then d else x := by
  unfold replaceAll replace
  rw [if_neg (by simpa using h)]
  unfold replaceNum
  rw [if_pos (Or.inl (by omega)), count_one]
  exact replaceK_map c d s _ (Nat.le_refl _)

/- ### TrimSuffix of one byte -/
theorem trim_yes (l : List UInt8) (c : UInt8) : trimSuffix (l ++ [c]) [c] = l := by
  unfold trimSuffix hasSuffix
  rw [if_pos (by simp)]
  simp

theorem trim_no (l : List UInt8) (c : UInt8) (h : ∀ x ∈ l, x ≠ c) : trimSuffix l [c] = l := by
  unfold trimSuffix hasSuffix
  rw [if_neg]
  intro hs
  obtain ⟨t, rfl⟩ := List.isSuffixOf_iff_suffix.1 hs
  exact h c (by simp) rfl

theorem six_let_ne (p : List UInt8) : ∀ x ∈ (six p).map let64, x ≠ 61 ∧ x ≠ 45 ∧ x ≠ 95 := by
  intro x hx
  obtain ⟨n, hn, rfl⟩ := List.mem_map.1 hx
  exact let_ne n (six_lt p n hn)

theorem trim_b64 (p : List UInt8) : trimSuffix (trimSuffix (b64 p) [61]) [61] = (six p).map let64 := by
  rw [b64_six]
  have hn := trim_no ((six p).map let64) 61 fun x hx => (six_let_ne p x hx).1
  unfold fill
  split
  · rw [show ([61, 61] : List UInt8) = [61] ++ [61] from rfl, ← List.append_assoc, trim_yes, trim_yes]
  · split
    · rw [trim_yes, hn]
    · rw [List.append_nil, hn, hn]

/- ### ContainsAny -/
theorem any_no (chars : List UInt8) : ∀ l : List UInt8, (∀ x ∈ l, chars.contains x = false) → indexAny l chars = -1
  | [], _ => rfl
  | b :: l, h => by
    unfold indexAny
    rw [h b (by simp), any_no chars l fun x hx => h x (by simp [hx])]
    rfl

theorem b64_none (p : List UInt8) : containsAny (b64 p) [45, 95] = false := by
  unfold containsAny
  rw [any_no _ _ fun x hx => ?_]
  · rfl
  · rw [b64_six, List.mem_append] at hx
    rcases hx with hx | hx
    · obtain ⟨_, h1, h2⟩ := six_let_ne p x hx
      simp [h1, h2]
    · unfold fill at hx
      split at hx
      · simp at hx; subst hx; decide
      · split at hx
        · simp at hx; subst hx; decide
        · cases hx

/- ### Cut at a colon -/
theorem index_mid (a b : List UInt8) (c : UInt8) (h : ∀ x ∈ a, x ≠ c) : index (a ++ c :: b) [c] = a.length := by
  induction a with
  | nil => exact index_cons_eq c b
  | cons x a ih =>
    have hx := h x (by simp)
    have := ih fun y hy => h y (by simp [hy])
    rw [List.cons_append, index_cons_ne x c _ hx, this]
    have e : (((a.length : Nat) : Int) == -1) = false := by
      rw [beq_eq_false_iff_ne]
      omega
    rw [e]
    simp

theorem cut_mid (a b : List UInt8) (c : UInt8) (h : ∀ x ∈ a, x ≠ c) : cut (a ++ c :: b) [c] = (a, b, true) := by
  unfold cut
  rw [index_mid a b c h, if_pos (by omega)]
  simp

/- ### The bytes of a text of the other alphabet -/
/-- A letter's number in the alphabet that has - and _. -/
def val64u (c : UInt8) : Option Nat :=
  if 65 ≤ c.toNat ∧ c.toNat ≤ 90 then some (c.toNat - 65) else if 97 ≤ c.toNat ∧ c.toNat ≤ 122 then some (c.toNat - 71) else if 48 ≤ c.toNat ∧ c.toNat ≤ 57 then some (c.toNat + 4)
  else if c = 45 then some 62 else if c = 95 then some 63 else none

def turnL (l : List UInt8) : List UInt8 := (l.map fun x => if x = 43 then 45 else x).map fun x => if x = 47 then 95 else x

theorem val_turn : ∀ n, n < 64 → val64u ((fun x => if x = 47 then 95 else x) ((fun x => if x = 43 then 45 else x) (let64 n))) = some n := by decide

theorem vals_turn (p : List UInt8) : (turnL ((six p).map let64)).mapM val64u = some (six p) := by
  have h := six_lt p
  generalize six p = l at h
  unfold turnL
  induction l with
  | nil => rfl
  | cons x l ih =>
    simp only [List.map_cons, List.mapM_cons]
    rw [show val64u (if (if let64 x = 43 then 45 else let64 x) = 47 then 95 else (if let64 x = 43 then 45 else let64 x)) = some x from val_turn x (h x (by simp)), ih fun y hy => h y (by simp [hy])]
    rfl

/-- What is read of a text: the bytes, if its letters are letters, their number is not one over a multiple of four, and nothing is left over. -/
def from64 (s : List UInt8) : Option (List UInt8) :=
  match s.mapM val64u with
  | none => none
  | some v => if v.length % 4 = 1 then none else if (bytesOf v 0 0).2 = 0 then some (bytesOf v 0 0).1 else none

theorem from64_six (p : List UInt8) : from64 (turnL ((six p).map let64)) = some p := by
  unfold from64
  rw [vals_turn]
  have := six_length p
  simp only [bytesOf_six]
  rw [if_neg (by omega), if_pos trivial]

theorem b64_length (p : List UInt8) : (b64 p).length = (((six p).map let64).length + 3) / 4 * 4 := by
  rw [b64_six, List.length_append, List.length_map, six_length]
  unfold fill
  split
  · simp; omega
  · split
    · simp; omega
    · simp; omega
end Go.Basic

/-
  The reference's base64, bit by bit, is the base64 of three bytes at a time.
-/

set_option linter.unusedVariables false
set_option maxRecDepth 100000
namespace Go.Basic

/-- Bit i of the bytes, the highest of each first; behind their end: 0. -/
def bitAt (p : List UInt8) (i : Nat) : Nat :=
  match p[i / 8]? with
  | some x => x.toNat / 2 ^ (7 - i % 8) % 2
  | none => 0

/-- Six bits from i on. -/
def grp (p : List UInt8) (i : Nat) : Nat := 2 * (2 * (2 * (2 * (2 * (2 * 0 + bitAt p i) + bitAt p (i + 1)) + bitAt p (i + 2)) + bitAt p (i + 3)) + bitAt p (i + 4)) + bitAt p (i + 5)

theorem bitAt_skip (a b c : UInt8) (t : List UInt8) (i : Nat) : bitAt (a :: b :: c :: t) (i + 24) = bitAt t i := by
  unfold bitAt
  rw [show (i + 24) / 8 = i / 8 + 1 + 1 + 1 from by omega, show (i + 24) % 8 = i % 8 from by omega]
  simp only [List.getElem?_cons_succ]

theorem grp_skip (a b c : UInt8) (t : List UInt8) (i : Nat) : grp (a :: b :: c :: t) (i + 24) = grp t i := by
  unfold grp
  rw [show i + 24 + 1 = i + 1 + 24 from by omega, show i + 24 + 2 = i + 2 + 24 from by omega, show i + 24 + 3 = i + 3 + 24 from by omega, show i + 24 + 4 = i + 4 + 24 from by omega, show i + 24 + 5 = i + 5 + 24 from by omega]
  simp only [bitAt_skip]

theorem grp_0 (a : UInt8) (t : List UInt8) : grp (a :: t) 0 = a.toNat / 4 := by
  have ha := UInt8.toNat_lt a
  simp only [grp, bitAt, Nat.reduceAdd, Nat.reduceDiv, Nat.reduceMod, Nat.reduceSub, Nat.reducePow, List.getElem?_cons_zero]
  omega

theorem grp_6 (a b : UInt8) (t : List UInt8) : grp (a :: b :: t) 6 = a.toNat % 4 * 16 + b.toNat / 16 := by
  have ha := UInt8.toNat_lt a
  have hb := UInt8.toNat_lt b
  simp only [grp, bitAt, Nat.reduceAdd, Nat.reduceDiv, Nat.reduceMod, Nat.reduceSub, Nat.reducePow, List.getElem?_cons_zero, List.getElem?_cons_succ]
  omega

theorem grp_12 (a b c : UInt8) (t : List UInt8) : grp (a :: b :: c :: t) 12 = b.toNat % 16 * 4 + c.toNat / 64 := by
  have hb := UInt8.toNat_lt b
  have hc := UInt8.toNat_lt c
  simp only [grp, bitAt, Nat.reduceAdd, Nat.reduceDiv, Nat.reduceMod, Nat.reduceSub, Nat.reducePow, List.getElem?_cons_zero, List.getElem?_cons_succ]
  omega

theorem grp_18 (a b c : UInt8) (t : List UInt8) : grp (a :: b :: c :: t) 18 = c.toNat % 64 := by
  have hc := UInt8.toNat_lt c
  simp only [grp, bitAt, Nat.reduceAdd, Nat.reduceDiv, Nat.reduceMod, Nat.reduceSub, Nat.reducePow, List.getElem?_cons_zero, List.getElem?_cons_succ]
  omega

theorem grp_6' (a : UInt8) : grp [a] 6 = a.toNat % 4 * 16 := by
  have ha := UInt8.toNat_lt a
  simp only [grp, bitAt, Nat.reduceAdd, Nat.reduceDiv, Nat.reduceMod, Nat.reduceSub, Nat.reducePow, List.getElem?_cons_zero, List.getElem?_cons_succ, List.getElem?_nil]
  omega

theorem grp_12' (a b : UInt8) : grp [a, b] 12 = b.toNat % 16 * 4 := by
  have hb := UInt8.toNat_lt b
  simp only [grp, bitAt, Nat.reduceAdd, Nat.reduceDiv, Nat.reduceMod, Nat.reduceSub, Nat.reducePow, List.getElem?_cons_zero, List.getElem?_cons_succ, List.getElem?_nil]
  omega

/-- All groups, up to the end. -/
theorem grps_six : ∀ p : List UInt8, (List.range ((4 * p.length + 2) / 3)).map (fun j => grp p (6 * j)) = six p
  | [] => rfl
  | [a] => by
    rw [show (4 * [a].length + 2) / 3 = 2 from by simp, show List.range 2 = [0, 1] from rfl]
    simp only [List.map_cons, List.map_nil, Nat.mul_zero, Nat.mul_one]
    rw [grp_0, grp_6']
    rfl
  | [a, b] => by
    rw [show (4 * [a, b].length + 2) / 3 = 3 from by simp, show List.range 3 = [0, 1, 2] from rfl]
    simp only [List.map_cons, List.map_nil, Nat.mul_zero, Nat.mul_one, Nat.reduceMul]
    rw [grp_0, grp_6, grp_12']
    rfl
  | a :: b :: c :: t => by
    have e : (4 * (a :: b :: c :: t).length + 2) / 3 = (4 * t.length + 2) / 3 + 1 + 1 + 1 + 1 := by simp only [List.length_cons]; omega
    rw [e]
    simp only [List.range_succ_eq_map, List.map_cons, List.map_map]
    rw [show 6 * 0 = 0 from rfl, grp_0]
    simp only [Nat.succ_eq_add_one, Nat.zero_add, Nat.reduceAdd, Nat.reduceMul]
    rw [grp_6, grp_12, grp_18]
    have h : ((List.range ((4 * t.length + 2) / 3)).map ((fun j => grp (a :: b :: c :: t) (6 * j)) ∘ Nat.succ ∘ Nat.succ ∘ Nat.succ ∘ Nat.succ)) = six t := by
      rw [← grps_six t]
      apply List.map_congr_left
      intro j _
      show grp (a :: b :: c :: t) (6 * (j + 1 + 1 + 1 + 1)) = _
      rw [show 6 * (j + 1 + 1 + 1 + 1) = 6 * j + 24 from by omega, grp_skip]
    rw [h]
    rfl

/-- The reference's letter. -/
def letU (n : Nat) : UInt8 := if n < 26 then UInt8.ofNat (65 + n) else if n < 52 then UInt8.ofNat (97 + n - 26) else if n < 62 then UInt8.ofNat (48 + n - 52) else if n = 62 then 45 else 95

theorem let_turn : ∀ n, n < 64 → (fun x : UInt8 => if x = 95 then 47 else x) ((fun x : UInt8 => if x = 45 then 43 else x) (letU n)) = let64 n := by decide
end Go.Basic

/-
  The shelf's contracts of the builder at this seat, in plain words (lay-plain's print, parted; the laying of WriteByte by hand).
-/

namespace Go.Proofs
open Go.Shelf
def Tryz.lays169_ren : Go.Shelf.Ren := ⟨fun | 169 => 59 | n => n, fun | 70 => 108 | 9 => 9 | 0 => 0 | 72 => 110 | 37 => 50 | 127 => 182 | 3 => 3 | 5 => 5 | n => n, fun | n => n⟩
theorem Tryz.lays169 : Go.Proofs.Lays.n169 Tryz.prog Tryz.lays169_ren := {
  mixed := by kernel_rfl
  f169 := Tryz.func59.trans (congrArg some (by kernel_rfl))
  t0 := Tryz.underlying0
  a0 := Tryz.isAgg0
  z0 := Tryz.sizeOf0
  v0 := Tryz.zeroValue0
  t3 := Tryz.underlying3
  a3 := Tryz.isAgg3
  z3 := Tryz.sizeOf3
  v3 := Tryz.zeroValue3
  t9 := Tryz.underlying9
  a9 := Tryz.isAgg9
  z9 := Tryz.sizeOf9
  v9 := Tryz.zeroValue9
  t37 := Tryz.underlying50
  a37 := Tryz.isAgg50
  z37 := Tryz.sizeOf50
  v37 := Tryz.zeroValue50
  t70 := Tryz.underlying108
  a70 := Tryz.isAgg108
  z70 := Tryz.sizeOf108
  v70 := Tryz.zeroValue108
  t72 := Tryz.underlying110
  a72 := Tryz.isAgg110
  z72 := Tryz.sizeOf110
  v72 := Tryz.zeroValue110
  t127 := Tryz.underlying182
  a127 := Tryz.isAgg182
  z127 := Tryz.sizeOf182
  v127 := Tryz.zeroValue182 }
theorem Tryz.Builder_Extra_169 : Builder.Extra Tryz.prog Tryz.lays169_ren := {
  sizeBuilder := by kernel_rfl
  liesBuilder := by kernel_rfl
  t5 := Tryz.underlying5
  a5 := Tryz.isAgg5
  z5 := Tryz.sizeOf5
  v5 := Tryz.zeroValue5
  infoByte := by kernel_rfl
  cellsByte := by kernel_rfl
  sizeByte := by kernel_rfl
  neB5 := by decide }
def Tryz.lays167_ren : Go.Shelf.Ren := ⟨fun | 167 => 57 | 240 => 107 | 276 => 154 | n => n, fun | 9 => 9 | 4 => 4 | 0 => 0 | 5 => 5 | 72 => 110 | 70 => 108 | 37 => 50 | 20 => 20 | 75 => 112 | 80 => 42 | 164 => 236 | n => n, fun | n => n⟩
theorem Tryz.lays167 : Go.Proofs.Lays.n167 Tryz.prog Tryz.lays167_ren := {
  mixed := by kernel_rfl
  f167 := Tryz.func57.trans (congrArg some (by kernel_rfl))
  f240 := Tryz.func107.trans (congrArg some (by kernel_rfl))
  f276 := Tryz.func154.trans (congrArg some (by kernel_rfl))
  t0 := Tryz.underlying0
  a0 := Tryz.isAgg0
  z0 := Tryz.sizeOf0
  v0 := Tryz.zeroValue0
  t4 := Tryz.underlying4
  a4 := Tryz.isAgg4
  z4 := Tryz.sizeOf4
  v4 := Tryz.zeroValue4
  t5 := Tryz.underlying5
  a5 := Tryz.isAgg5
  z5 := Tryz.sizeOf5
  v5 := Tryz.zeroValue5
  t9 := Tryz.underlying9
  a9 := Tryz.isAgg9
  z9 := Tryz.sizeOf9
  v9 := Tryz.zeroValue9
  t20 := Tryz.underlying20
  a20 := Tryz.isAgg20
  z20 := Tryz.sizeOf20
  v20 := Tryz.zeroValue20
  t37 := Tryz.underlying50
  a37 := Tryz.isAgg50
  z37 := Tryz.sizeOf50
  v37 := Tryz.zeroValue50
  t70 := Tryz.underlying108
  a70 := Tryz.isAgg108
  z70 := Tryz.sizeOf108
  v70 := Tryz.zeroValue108
  t72 := Tryz.underlying110
  a72 := Tryz.isAgg110
  z72 := Tryz.sizeOf110
  v72 := Tryz.zeroValue110
  t75 := Tryz.underlying112
  a75 := Tryz.isAgg112
  z75 := Tryz.sizeOf112
  v75 := Tryz.zeroValue112
  t164 := Tryz.underlying236
  a164 := Tryz.isAgg236
  z164 := Tryz.sizeOf236
  v164 := Tryz.zeroValue236 }
theorem Tryz.Builder_Extra_167 : Builder.Extra Tryz.prog Tryz.lays167_ren := {
  sizeBuilder := by kernel_rfl
  liesBuilder := by kernel_rfl
  t5 := Tryz.underlying5
  a5 := Tryz.isAgg5
  z5 := Tryz.sizeOf5
  v5 := Tryz.zeroValue5
  infoByte := by kernel_rfl
  cellsByte := by kernel_rfl
  sizeByte := by kernel_rfl
  neB5 := by decide }
open Go.RowKit in
/-- (*strings.Builder).String: "String returns the accumulated string.": WHATEVER THE BUILDER HOLDS; THE FORM '_k': OVER 'Lib.IsBuilderF' (a builder that 'String()' may have read), AND WITH THE FRAME THAT REACHES ABOVE THE BUILDER: 'Lib.OthersKept': every block that is not b and is no row of uint8's stands as it stood: the iterator of a range among them. (LAID: no walk: one application.) -/
theorem Tryz.Builder_String_any_k (B b : Nat) (l : List UInt8) (w : World) (h : Lib.IsBuilderF 110 5 B b (Lib.byteCells l) w) (hBw : B ≤ w.heap.size) :
    Calls Tryz.prog 59 #[.pointer (some ⟨b, 0, none⟩)] w fun e w' => e = .returned (.string ⟨l.toArray⟩) ∧ (Lib.IsBuilderF 110 5 B b (Lib.byteCells l) w' ∧ Below B w w' ∧ Lib.OthersKept 5 (some b) w w') := Any.Builder_String_any_k Tryz.lays169 Tryz.Builder_Extra_169 B b l w h hBw
open Go.RowKit in
theorem Tryz.Builder_WriteByte_k (B b : Nat) (bs : List Value) (c : Int) (w : World) (h : Lib.IsBuilderF 110 5 B b bs w) (hlen : bs.length + 1 ≤ 140737488355328) (hBw : B ≤ w.heap.size) :
    Calls Tryz.prog 57 #[.pointer (some ⟨b, 0, none⟩), .int .u8 c] w fun e w' => e = .returned .nilIface ∧ (Lib.BuilderAtF 110 5 B b (.pointer (some ⟨b, 0, none⟩)) (bs ++ [.int .u8 c]) w' ∧ Below B w w' ∧ Lib.OthersKept 5 (some b) w w') := Any.Builder_WriteByte_k Tryz.lays167 Tryz.Builder_Extra_167 B b bs c w h hlen hBw
end Go.Proofs

/-
  The shelf's contracts of strings at this seat, in plain words (lay-plain's print, parted).
-/

namespace Go.Proofs
open Go.Shelf
def Tryz.lays161_ren : Go.Shelf.Ren := ⟨fun | 161 => 34 | 231 => 80 | 227 => 81 | 233 => 82 | 235 => 83 | 228 => 128 | 197 => 74 | 151 => 129 | 260 => 121 | 152 => 177 | 137 => 239 | 119 => 240 | 224 => 186 | 225 => 185 | 217 => 184 | 266 => 244 | n => n, fun | 9 => 9 | 4 => 4 | 3 => 3 | 5 => 5 | 117 => 155 | 116 => 154 | 0 => 0 | 124 => 158 | 105 => 146 | 21 => 21 | 119 => 274 | 46 => 48 | 139 => 277 | 138 => 276 | n => n, fun | 3 => 3 | 4 => 4 | n => n⟩
theorem Tryz.lays161 : Go.Proofs.Lays.n161 Tryz.prog Tryz.lays161_ren := {
  mixed := by kernel_rfl
  f119 := Tryz.func240.trans (congrArg some (by kernel_rfl))
  f137 := Tryz.func239.trans (congrArg some (by kernel_rfl))
  f151 := Tryz.func129.trans (congrArg some (by kernel_rfl))
  f152 := Tryz.func177.trans (congrArg some (by kernel_rfl))
  f161 := Tryz.func34.trans (congrArg some (by kernel_rfl))
  f197 := Tryz.func74.trans (congrArg some (by kernel_rfl))
  f217 := Tryz.func184.trans (congrArg some (by kernel_rfl))
  f224 := Tryz.func186.trans (congrArg some (by kernel_rfl))
  f225 := Tryz.func185.trans (congrArg some (by kernel_rfl))
  f227 := Tryz.func81.trans (congrArg some (by kernel_rfl))
  f228 := Tryz.func128.trans (congrArg some (by kernel_rfl))
  f231 := Tryz.func80.trans (congrArg some (by kernel_rfl))
  f233 := Tryz.func82.trans (congrArg some (by kernel_rfl))
  f235 := Tryz.func83.trans (congrArg some (by kernel_rfl))
  f260 := Tryz.func121.trans (congrArg some (by kernel_rfl))
  f266 := Tryz.func244.trans (congrArg some (by kernel_rfl))
  t0 := Tryz.underlying0
  a0 := Tryz.isAgg0
  z0 := Tryz.sizeOf0
  v0 := Tryz.zeroValue0
  t3 := Tryz.underlying3
  a3 := Tryz.isAgg3
  z3 := Tryz.sizeOf3
  v3 := Tryz.zeroValue3
  t4 := Tryz.underlying4
  a4 := Tryz.isAgg4
  z4 := Tryz.sizeOf4
  v4 := Tryz.zeroValue4
  t5 := Tryz.underlying5
  a5 := Tryz.isAgg5
  z5 := Tryz.sizeOf5
  v5 := Tryz.zeroValue5
  t9 := Tryz.underlying9
  a9 := Tryz.isAgg9
  z9 := Tryz.sizeOf9
  v9 := Tryz.zeroValue9
  t21 := Tryz.underlying21
  a21 := Tryz.isAgg21
  z21 := Tryz.sizeOf21
  v21 := Tryz.zeroValue21
  t46 := Tryz.underlying48
  a46 := Tryz.isAgg48
  z46 := Tryz.sizeOf48
  v46 := Tryz.zeroValue48
  t105 := Tryz.underlying146
  a105 := Tryz.isAgg146
  z105 := Tryz.sizeOf146
  v105 := Tryz.zeroValue146
  t116 := Tryz.underlying154
  a116 := Tryz.isAgg154
  z116 := Tryz.sizeOf154
  t117 := Tryz.underlying155
  a117 := Tryz.isAgg155
  z117 := Tryz.sizeOf155
  v117 := Tryz.zeroValue155
  t119 := Tryz.underlying274
  a119 := Tryz.isAgg274
  z119 := Tryz.sizeOf274
  t124 := Tryz.underlying158
  a124 := Tryz.isAgg158
  z124 := Tryz.sizeOf158
  v124 := Tryz.zeroValue158
  t138 := Tryz.underlying276
  a138 := Tryz.isAgg276
  z138 := Tryz.sizeOf276
  v138 := Tryz.zeroValue276
  t139 := Tryz.underlying277
  a139 := Tryz.isAgg277
  z139 := Tryz.sizeOf277
  v139 := Tryz.zeroValue277
  g3 := by kernel_rfl
  g4 := by kernel_rfl }
open Go.RowKit in
/-- strings.TrimLeft: "TrimLeft returns a slice of the string s with all leading Unicode code points contained in cutset removed.": AT A cutset OF ONE ASCII BYTE. The world is as it was. (LAID: no walk: one application.) -/
theorem Tryz.strings_TrimLeft_one (s : ByteArray) (c : UInt8) (hc : c.toNat < 128) (w : World) :
    Calls Tryz.prog 34 #[.string s, .string ⟨#[c]⟩] w fun e w' => e = .returned (.string ⟨(Lib.trimLeftB s.data.toList c).toArray⟩) ∧ w' = w := Any.strings_TrimLeft_one Tryz.lays161 s c hc w
def Tryz.laysM145_ren : Go.Shelf.Ren := ⟨fun | 145 => 35 | 220 => 84 | 219 => 130 | 217 => 184 | 225 => 185 | 224 => 186 | 267 => 187 | 266 => 244 | 314 => 245 | n => n, fun | 9 => 9 | 4 => 4 | 59 => 60 | 3 => 3 | 5 => 5 | 46 => 48 | 146 => 353 | 51 => 278 | n => n, fun | 1 => 5 | n => n⟩
theorem Tryz.laysM145 : Go.Proofs.LaysM.n145 Tryz.prog Tryz.laysM145_ren := {
  mixed := by kernel_rfl
  f145 := Tryz.func35.trans (congrArg some (by kernel_rfl))
  f217 := Tryz.func184.trans (congrArg some (by kernel_rfl))
  f219 := Tryz.func130.trans (congrArg some (by kernel_rfl))
  f220 := Tryz.func84.trans (congrArg some (by kernel_rfl))
  f224 := Tryz.func186.trans (congrArg some (by kernel_rfl))
  f225 := Tryz.func185.trans (congrArg some (by kernel_rfl))
  f266 := Tryz.func244.trans (congrArg some (by kernel_rfl))
  f267 := Tryz.func187.trans (congrArg some (by kernel_rfl))
  f314 := Tryz.func245.trans (congrArg some (by kernel_rfl))
  t3 := Tryz.underlying3
  a3 := Tryz.isAgg3
  z3 := Tryz.sizeOf3
  v3 := Tryz.zeroValue3
  t4 := Tryz.underlying4
  a4 := Tryz.isAgg4
  z4 := Tryz.sizeOf4
  v4 := Tryz.zeroValue4
  t5 := Tryz.underlying5
  a5 := Tryz.isAgg5
  z5 := Tryz.sizeOf5
  v5 := Tryz.zeroValue5
  t9 := Tryz.underlying9
  a9 := Tryz.isAgg9
  z9 := Tryz.sizeOf9
  v9 := Tryz.zeroValue9
  t46 := Tryz.underlying48
  a46 := Tryz.isAgg48
  z46 := Tryz.sizeOf48
  v46 := Tryz.zeroValue48
  t51 := Tryz.underlying278
  a51 := Tryz.isAgg278
  z51 := Tryz.sizeOf278
  v51 := Tryz.zeroValue278
  t59 := Tryz.underlying60
  a59 := Tryz.isAgg60
  z59 := Tryz.sizeOf60
  v59 := Tryz.zeroValue60
  t146 := Tryz.underlying353
  a146 := Tryz.isAgg353
  z146 := Tryz.sizeOf353
  v146 := Tryz.zeroValue353
  g1 := by kernel_rfl
  i3 := by kernel_rfl
  i4 := by kernel_rfl
  i5 := by kernel_rfl
  i9 := by kernel_rfl
  i46 := by kernel_rfl
  i51 := by kernel_rfl
  i59 := by kernel_rfl
  i146 := by kernel_rfl
  m1 := by kernel_rfl
  s1_3 := fun w h => Go.Proofs.cell_of_shapedOpen_int (zero := #[.int .i64 0]) (t := 3) h (of_decide_eq_true (by kernel_rfl)) (by kernel_rfl) rfl (by kernel_rfl) (by kernel_rfl) Tryz.underlying3 }
open Go.RowKit Go.Lib in
theorem Tryz.strings_Cut_shaped (s sep : ByteArray) (w : World) (h : w.ShapedOpen Tryz.prog) (hs : s.size < 4294967281) :
    Calls Tryz.prog 35 #[.string s, .string sep] w fun e w' => e = .returned (.tuple #[.string ⟨(Lib.cut s.data.toList sep.data.toList).1.toArray⟩, .string ⟨(Lib.cut s.data.toList sep.data.toList).2.1.toArray⟩, .bool (Lib.cut s.data.toList sep.data.toList).2.2]) ∧ ∃ n, w' = w.drewN n := Any.strings_Cut_shaped Tryz.laysM145 s sep w h hs
def Tryz.lays102_ren : Go.Shelf.Ren := ⟨fun | 102 => 77 | 209 => 125 | 207 => 179 | n => n, fun | 9 => 9 | 4 => 4 | 3 => 3 | n => n, fun | n => n⟩
theorem Tryz.lays102 : Go.Proofs.Lays.n102 Tryz.prog Tryz.lays102_ren := {
  mixed := by kernel_rfl
  f102 := Tryz.func77.trans (congrArg some (by kernel_rfl))
  f207 := Tryz.func179.trans (congrArg some (by kernel_rfl))
  f209 := Tryz.func125.trans (congrArg some (by kernel_rfl))
  t3 := Tryz.underlying3
  a3 := Tryz.isAgg3
  z3 := Tryz.sizeOf3
  v3 := Tryz.zeroValue3
  t4 := Tryz.underlying4
  a4 := Tryz.isAgg4
  z4 := Tryz.sizeOf4
  v4 := Tryz.zeroValue4
  t9 := Tryz.underlying9
  a9 := Tryz.isAgg9
  z9 := Tryz.sizeOf9
  v9 := Tryz.zeroValue9 }
open Go.RowKit Go.Lib in
/-- strings.TrimSuffix: "TrimSuffix returns s without the provided trailing suffix string. If s doesn't end with suffix, s is returned unchanged.": IT RETURNS 'Lib.trimSuffix s suffix'; the world is as it was. (LAID: no walk: one application.) -/
theorem Tryz.strings_TrimSuffix (s p : ByteArray) (w : World) (hs : s.size ≤ 9223372036854775807) :
    Calls Tryz.prog 77 #[.string s, .string p] w fun e w' => e = .returned (.string ⟨(Lib.trimSuffix s.data.toList p.data.toList).toArray⟩) ∧ w' = w := Any.strings_TrimSuffix Tryz.lays102 s p w hs
def Tryz.lays164_ren : Go.Shelf.Ren := ⟨fun | 164 => 32 | 197 => 74 | 239 => 75 | 260 => 121 | 274 => 122 | 275 => 123 | n => n, fun | 9 => 9 | 4 => 4 | 3 => 3 | 5 => 5 | 0 => 0 | 21 => 21 | 105 => 146 | 156 => 204 | 49 => 203 | 157 => 205 | 46 => 48 | 159 => 207 | 162 => 210 | 160 => 208 | 119 => 274 | 139 => 277 | 138 => 276 | 208 => 282 | 51 => 278 | 206 => 280 | n => n, fun | 11 => 0 | 12 => 1 | 13 => 2 | 3 => 3 | 4 => 4 | n => n⟩
theorem Tryz.lays164 : Go.Proofs.Lays.n164 Tryz.prog Tryz.lays164_ren := {
  mixed := by kernel_rfl
  f164 := Tryz.func32.trans (congrArg some (by kernel_rfl))
  f197 := Tryz.func74.trans (congrArg some (by kernel_rfl))
  f239 := Tryz.func75.trans (congrArg some (by kernel_rfl))
  f260 := Tryz.func121.trans (congrArg some (by kernel_rfl))
  f274 := Tryz.func122.trans (congrArg some (by kernel_rfl))
  f275 := Tryz.func123.trans (congrArg some (by kernel_rfl))
  t0 := Tryz.underlying0
  a0 := Tryz.isAgg0
  z0 := Tryz.sizeOf0
  v0 := Tryz.zeroValue0
  t3 := Tryz.underlying3
  a3 := Tryz.isAgg3
  z3 := Tryz.sizeOf3
  v3 := Tryz.zeroValue3
  t4 := Tryz.underlying4
  a4 := Tryz.isAgg4
  z4 := Tryz.sizeOf4
  v4 := Tryz.zeroValue4
  t5 := Tryz.underlying5
  a5 := Tryz.isAgg5
  z5 := Tryz.sizeOf5
  v5 := Tryz.zeroValue5
  t9 := Tryz.underlying9
  a9 := Tryz.isAgg9
  z9 := Tryz.sizeOf9
  v9 := Tryz.zeroValue9
  t21 := Tryz.underlying21
  a21 := Tryz.isAgg21
  z21 := Tryz.sizeOf21
  v21 := Tryz.zeroValue21
  t46 := Tryz.underlying48
  a46 := Tryz.isAgg48
  z46 := Tryz.sizeOf48
  v46 := Tryz.zeroValue48
  t49 := Tryz.underlying203
  a49 := Tryz.isAgg203
  z49 := Tryz.sizeOf203
  v49 := Tryz.zeroValue203
  t51 := Tryz.underlying278
  a51 := Tryz.isAgg278
  z51 := Tryz.sizeOf278
  v51 := Tryz.zeroValue278
  t105 := Tryz.underlying146
  a105 := Tryz.isAgg146
  z105 := Tryz.sizeOf146
  v105 := Tryz.zeroValue146
  t119 := Tryz.underlying274
  a119 := Tryz.isAgg274
  z119 := Tryz.sizeOf274
  t138 := Tryz.underlying276
  a138 := Tryz.isAgg276
  z138 := Tryz.sizeOf276
  v138 := Tryz.zeroValue276
  t139 := Tryz.underlying277
  a139 := Tryz.isAgg277
  z139 := Tryz.sizeOf277
  v139 := Tryz.zeroValue277
  t156 := Tryz.underlying204
  a156 := Tryz.isAgg204
  z156 := Tryz.sizeOf204
  t157 := Tryz.underlying205
  a157 := Tryz.isAgg205
  z157 := Tryz.sizeOf205
  v157 := Tryz.zeroValue205
  t159 := Tryz.underlying207
  a159 := Tryz.isAgg207
  z159 := Tryz.sizeOf207
  v159 := Tryz.zeroValue207
  t160 := Tryz.underlying208
  a160 := Tryz.isAgg208
  z160 := Tryz.sizeOf208
  v160 := Tryz.zeroValue208
  t162 := Tryz.underlying210
  a162 := Tryz.isAgg210
  z162 := Tryz.sizeOf210
  v162 := Tryz.zeroValue210
  t206 := Tryz.underlying280
  a206 := Tryz.isAgg280
  z206 := Tryz.sizeOf280
  v206 := Tryz.zeroValue280
  t208 := Tryz.underlying282
  a208 := Tryz.isAgg282
  z208 := Tryz.sizeOf282
  v208 := Tryz.zeroValue282
  g3 := by kernel_rfl
  g4 := by kernel_rfl
  g11 := by kernel_rfl
  g12 := by kernel_rfl
  g13 := by kernel_rfl }
open Go.RowKit Go.Lib in
theorem Tryz.strings_EqualFold (s t : ByteArray) (w : World) (hs : s.size < 4294967281) (has : ∀ (j : Nat) b, s.data.toList[j]? = some b → b.toNat < 128) (hat : ∀ (j : Nat) b, t.data.toList[j]? = some b → b.toNat < 128) :
    Calls Tryz.prog 32 #[.string s, .string t] w fun e w' => e = .returned (.bool (Lib.equalFold s.data.toList t.data.toList)) ∧ w' = w := Any.strings_EqualFold Tryz.lays164 s t w hs has hat
def Tryz.laysM155_ren : Go.Shelf.Ren := ⟨fun | 155 => 78 | 154 => 126 | 138 => 180 | 165 => 181 | 143 => 182 | 166 => 104 | 197 => 74 | 169 => 59 | 195 => 241 | 218 => 242 | 240 => 107 | 241 => 243 | 219 => 130 | 260 => 121 | 276 => 154 | 277 => 338 | 217 => 184 | 225 => 185 | 224 => 186 | 267 => 187 | 266 => 244 | 314 => 245 | n => n, fun | 9 => 9 | 3 => 3 | 4 => 4 | 72 => 110 | 0 => 0 | 76 => 161 | 105 => 146 | 21 => 21 | 5 => 5 | 70 => 108 | 20 => 20 | 37 => 50 | 75 => 112 | 127 => 182 | 164 => 236 | 46 => 48 | 119 => 274 | 139 => 277 | 138 => 276 | 146 => 353 | 51 => 278 | 80 => 42 | n => n, fun | 1 => 5 | 3 => 3 | 4 => 4 | n => n⟩
theorem Tryz.laysM155 : Go.Proofs.LaysM.n155 Tryz.prog Tryz.laysM155_ren := {
  mixed := by kernel_rfl
  f138 := Tryz.func180.trans (congrArg some (by kernel_rfl))
  f143 := Tryz.func182.trans (congrArg some (by kernel_rfl))
  f154 := Tryz.func126.trans (congrArg some (by kernel_rfl))
  f155 := Tryz.func78.trans (congrArg some (by kernel_rfl))
  f165 := Tryz.func181.trans (congrArg some (by kernel_rfl))
  f166 := Tryz.func104.trans (congrArg some (by kernel_rfl))
  f169 := Tryz.func59.trans (congrArg some (by kernel_rfl))
  f195 := Tryz.func241.trans (congrArg some (by kernel_rfl))
  f197 := Tryz.func74.trans (congrArg some (by kernel_rfl))
  f217 := Tryz.func184.trans (congrArg some (by kernel_rfl))
  f218 := Tryz.func242.trans (congrArg some (by kernel_rfl))
  f219 := Tryz.func130.trans (congrArg some (by kernel_rfl))
  f224 := Tryz.func186.trans (congrArg some (by kernel_rfl))
  f225 := Tryz.func185.trans (congrArg some (by kernel_rfl))
  f240 := Tryz.func107.trans (congrArg some (by kernel_rfl))
  f241 := Tryz.func243.trans (congrArg some (by kernel_rfl))
  f260 := Tryz.func121.trans (congrArg some (by kernel_rfl))
  f266 := Tryz.func244.trans (congrArg some (by kernel_rfl))
  f267 := Tryz.func187.trans (congrArg some (by kernel_rfl))
  f276 := Tryz.func154.trans (congrArg some (by kernel_rfl))
  f277 := Tryz.func338.trans (congrArg some (by kernel_rfl))
  f314 := Tryz.func245.trans (congrArg some (by kernel_rfl))
  t0 := Tryz.underlying0
  a0 := Tryz.isAgg0
  z0 := Tryz.sizeOf0
  v0 := Tryz.zeroValue0
  t3 := Tryz.underlying3
  a3 := Tryz.isAgg3
  z3 := Tryz.sizeOf3
  v3 := Tryz.zeroValue3
  t4 := Tryz.underlying4
  a4 := Tryz.isAgg4
  z4 := Tryz.sizeOf4
  v4 := Tryz.zeroValue4
  t5 := Tryz.underlying5
  a5 := Tryz.isAgg5
  z5 := Tryz.sizeOf5
  v5 := Tryz.zeroValue5
  t9 := Tryz.underlying9
  a9 := Tryz.isAgg9
  z9 := Tryz.sizeOf9
  v9 := Tryz.zeroValue9
  t20 := Tryz.underlying20
  a20 := Tryz.isAgg20
  z20 := Tryz.sizeOf20
  v20 := Tryz.zeroValue20
  t21 := Tryz.underlying21
  a21 := Tryz.isAgg21
  z21 := Tryz.sizeOf21
  v21 := Tryz.zeroValue21
  t37 := Tryz.underlying50
  a37 := Tryz.isAgg50
  z37 := Tryz.sizeOf50
  v37 := Tryz.zeroValue50
  t46 := Tryz.underlying48
  a46 := Tryz.isAgg48
  z46 := Tryz.sizeOf48
  v46 := Tryz.zeroValue48
  t51 := Tryz.underlying278
  a51 := Tryz.isAgg278
  z51 := Tryz.sizeOf278
  v51 := Tryz.zeroValue278
  t70 := Tryz.underlying108
  a70 := Tryz.isAgg108
  z70 := Tryz.sizeOf108
  v70 := Tryz.zeroValue108
  t72 := Tryz.underlying110
  a72 := Tryz.isAgg110
  z72 := Tryz.sizeOf110
  v72 := Tryz.zeroValue110
  t75 := Tryz.underlying112
  a75 := Tryz.isAgg112
  z75 := Tryz.sizeOf112
  v75 := Tryz.zeroValue112
  t76 := Tryz.underlying161
  a76 := Tryz.isAgg161
  z76 := Tryz.sizeOf161
  v76 := Tryz.zeroValue161
  t105 := Tryz.underlying146
  a105 := Tryz.isAgg146
  z105 := Tryz.sizeOf146
  v105 := Tryz.zeroValue146
  t119 := Tryz.underlying274
  a119 := Tryz.isAgg274
  z119 := Tryz.sizeOf274
  t127 := Tryz.underlying182
  a127 := Tryz.isAgg182
  z127 := Tryz.sizeOf182
  v127 := Tryz.zeroValue182
  t138 := Tryz.underlying276
  a138 := Tryz.isAgg276
  z138 := Tryz.sizeOf276
  v138 := Tryz.zeroValue276
  t139 := Tryz.underlying277
  a139 := Tryz.isAgg277
  z139 := Tryz.sizeOf277
  v139 := Tryz.zeroValue277
  t146 := Tryz.underlying353
  a146 := Tryz.isAgg353
  z146 := Tryz.sizeOf353
  v146 := Tryz.zeroValue353
  t164 := Tryz.underlying236
  a164 := Tryz.isAgg236
  z164 := Tryz.sizeOf236
  v164 := Tryz.zeroValue236
  g1 := by kernel_rfl
  g3 := by kernel_rfl
  g4 := by kernel_rfl
  t80 := Tryz.underlying42
  a80 := Tryz.isAgg42
  z80 := Tryz.sizeOf42
  v80 := Tryz.zeroValue42
  i0 := by kernel_rfl
  i3 := by kernel_rfl
  i4 := by kernel_rfl
  i5 := by kernel_rfl
  i9 := by kernel_rfl
  i20 := by kernel_rfl
  i21 := by kernel_rfl
  i37 := by kernel_rfl
  i46 := by kernel_rfl
  i51 := by kernel_rfl
  i70 := by kernel_rfl
  i72 := by kernel_rfl
  i75 := by kernel_rfl
  i76 := by kernel_rfl
  i80 := by kernel_rfl
  i105 := by kernel_rfl
  i127 := by kernel_rfl
  i138 := by kernel_rfl
  i139 := by kernel_rfl
  i146 := by kernel_rfl
  i164 := by kernel_rfl
  m1 := by kernel_rfl
  s1_3 := fun w h => Go.Proofs.cell_of_shapedOpen_int (zero := #[.int .i64 0]) (t := 3) h (of_decide_eq_true (by kernel_rfl)) (by kernel_rfl) rfl (by kernel_rfl) (by kernel_rfl) Tryz.underlying3
  m3 := by kernel_rfl
  m4 := by kernel_rfl }
theorem Tryz.Builder_Extra_M155 : Builder.Extra Tryz.prog Tryz.laysM155_ren := {
  sizeBuilder := by kernel_rfl
  liesBuilder := by kernel_rfl
  t5 := Tryz.underlying5
  a5 := Tryz.isAgg5
  z5 := Tryz.sizeOf5
  v5 := Tryz.zeroValue5
  infoByte := by kernel_rfl
  cellsByte := by kernel_rfl
  sizeByte := by kernel_rfl
  neB5 := by decide }
open Go.RowKit Go.Lib in
/-- strings.ReplaceAll, old not empty. (LAID: no walk: one application.) -/
theorem Tryz.strings_ReplaceAll_shaped (s old new : ByteArray) (w : World) (h : w.ShapedOpen Tryz.prog) (hs : s.size < 4294967281) (h1 : 1 ≤ old.size) (hlen : s.size + Lib.countB s old * new.size ≤ 140737488355328) :
    Calls Tryz.prog 78 #[.string s, .string old, .string new] w fun e w' =>
      e = .returned (.string ⟨(Lib.replaceAll s.data.toList old.data.toList new.data.toList).toArray⟩) ∧ Below w.heap.size w w' := Any.strings_ReplaceAll_shaped Tryz.laysM155 Tryz.Builder_Extra_M155 s old new w h hs h1 hlen
def Tryz.lays150_ren : Go.Shelf.Ren := ⟨fun | 150 => 76 | 153 => 124 | 152 => 177 | 226 => 178 | 227 => 81 | 228 => 128 | 137 => 239 | 119 => 240 | 224 => 186 | 225 => 185 | 217 => 184 | 266 => 244 | n => n, fun | 9 => 9 | 4 => 4 | 3 => 3 | 5 => 5 | 21 => 21 | 117 => 155 | 116 => 154 | 0 => 0 | 46 => 48 | 124 => 158 | n => n, fun | n => n⟩
theorem Tryz.lays150 : Go.Proofs.Lays.n150 Tryz.prog Tryz.lays150_ren := {
  mixed := by kernel_rfl
  f119 := Tryz.func240.trans (congrArg some (by kernel_rfl))
  f137 := Tryz.func239.trans (congrArg some (by kernel_rfl))
  f150 := Tryz.func76.trans (congrArg some (by kernel_rfl))
  f152 := Tryz.func177.trans (congrArg some (by kernel_rfl))
  f153 := Tryz.func124.trans (congrArg some (by kernel_rfl))
  f217 := Tryz.func184.trans (congrArg some (by kernel_rfl))
  f224 := Tryz.func186.trans (congrArg some (by kernel_rfl))
  f225 := Tryz.func185.trans (congrArg some (by kernel_rfl))
  f226 := Tryz.func178.trans (congrArg some (by kernel_rfl))
  f227 := Tryz.func81.trans (congrArg some (by kernel_rfl))
  f228 := Tryz.func128.trans (congrArg some (by kernel_rfl))
  f266 := Tryz.func244.trans (congrArg some (by kernel_rfl))
  t0 := Tryz.underlying0
  a0 := Tryz.isAgg0
  z0 := Tryz.sizeOf0
  v0 := Tryz.zeroValue0
  t3 := Tryz.underlying3
  a3 := Tryz.isAgg3
  z3 := Tryz.sizeOf3
  v3 := Tryz.zeroValue3
  t4 := Tryz.underlying4
  a4 := Tryz.isAgg4
  z4 := Tryz.sizeOf4
  v4 := Tryz.zeroValue4
  t5 := Tryz.underlying5
  a5 := Tryz.isAgg5
  z5 := Tryz.sizeOf5
  v5 := Tryz.zeroValue5
  t9 := Tryz.underlying9
  a9 := Tryz.isAgg9
  z9 := Tryz.sizeOf9
  v9 := Tryz.zeroValue9
  t21 := Tryz.underlying21
  a21 := Tryz.isAgg21
  z21 := Tryz.sizeOf21
  v21 := Tryz.zeroValue21
  t46 := Tryz.underlying48
  a46 := Tryz.isAgg48
  z46 := Tryz.sizeOf48
  v46 := Tryz.zeroValue48
  t116 := Tryz.underlying154
  a116 := Tryz.isAgg154
  z116 := Tryz.sizeOf154
  t117 := Tryz.underlying155
  a117 := Tryz.isAgg155
  z117 := Tryz.sizeOf155
  v117 := Tryz.zeroValue155
  t124 := Tryz.underlying158
  a124 := Tryz.isAgg158
  z124 := Tryz.sizeOf158
  v124 := Tryz.zeroValue158 }
open Go.RowKit Go.Lib in
theorem Tryz.strings_ContainsAny_laid (s chars : ByteArray) (w : World) (hs : s.size < 4294967281) (hcs : chars.size < 4294967281) (has : ∀ (j : Nat) b, s.data.toList[j]? = some b → b.toNat < 128) (hac : ∀ (j : Nat) b, chars.data.toList[j]? = some b → b.toNat < 128) :
    Calls Tryz.prog 76 #[.string s, .string chars] w fun e w' => e = .returned (.bool (Lib.containsAny s.data.toList chars.data.toList)) ∧ Below w.heap.size w w' := Any.strings_ContainsAny_laid Tryz.lays150 (by kernel_rfl) s chars w hs hcs has hac
end Go.Proofs
