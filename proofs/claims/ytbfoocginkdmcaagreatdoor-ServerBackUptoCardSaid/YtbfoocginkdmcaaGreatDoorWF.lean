/-
  Scripts read, in plain words: pieces, numbers, words of bytes, acts, lines. No program in sight.
-/
import Derived.Test.YtbfoocginkdmcaaGreatDoorWC
import Derived.Lib.ParseIntBCases
import Derived.Lib.SplitLaws
import Derived.Test.YtbfoocginkdmcaaGreatDoorProg
import Derived.WalkKit
import Derived.LoopTactic
import Derived.Laws.BytesArg
import Derived.Test.YtbfoocginkdmcaaGreatDoorWA

set_option linter.unusedVariables false
set_option maxRecDepth 100000
namespace Go.Scr
open Go Go.Basic Go.Lib
def cutAt (c : UInt8) : List UInt8 → List (List UInt8)
  | [] => [[]]
  | x :: l => if x = c then [] :: cutAt c l else (x :: (cutAt c l).headD []) :: (cutAt c l).tail
theorem cutAt_ne (c : UInt8) (l : List UInt8) : cutAt c l ≠ [] := by
  cases l with
  | nil => simp [cutAt]
  | cons x l => unfold cutAt; split <;> simp
theorem cutAt_cons (c : UInt8) (l : List UInt8) : ∃ p r, cutAt c l = p :: r := by
  cases h : cutAt c l with
  | nil => exact absurd h (cutAt_ne c l)
  | cons p r => exact ⟨p, r, rfl⟩
theorem cutAt_sep (c : UInt8) (r : List UInt8) : cutAt c (c :: r) = [] :: cutAt c r := by simp [cutAt]
theorem cutAt_app (c : UInt8) : ∀ (p r : List UInt8), c ∉ p → cutAt c (p ++ c :: r) = p :: cutAt c r
  | [], r, _ => cutAt_sep c r
  | x :: p, r, h => by
    have hx : x ≠ c := fun e => h (by simp [e])
    have ih := cutAt_app c p r (fun e => h (by simp [e]))
    show cutAt c (x :: (p ++ c :: r)) = _
    conv => lhs; unfold cutAt
    rw [if_neg hx, ih]
    rfl
theorem cutAt_one (c : UInt8) : ∀ (p : List UInt8), c ∉ p → cutAt c p = [p]
  | [], _ => rfl
  | x :: p, h => by
    have hx : x ≠ c := fun e => h (by simp [e])
    have ih := cutAt_one c p (fun e => h (by simp [e]))
    unfold cutAt
    rw [if_neg hx, ih]
    rfl
theorem index_ne (b c : UInt8) (l : List UInt8) (h : b ≠ c) : index (b :: l) [c] = if index l [c] == -1 then -1 else index l [c] + 1 := by
  have hp : ([c] : List UInt8).isPrefixOf (b :: l) = false := by simp [List.isPrefixOf, Ne.symm h]
  rw [index, hp]
  simp
theorem index_eq (c : UInt8) (l : List UInt8) : index (c :: l) [c] = 0 := by
  rw [index]
  simp [List.isPrefixOf]
theorem splitK_cut (c : UInt8) : ∀ s : List UInt8, splitK [c] 0 (count s [c]) s = cutAt c s
  | [] => by
    rw [count_one]
    rfl
  | x :: l => by
    have ih := splitK_cut c l
    rw [count_one] at ih ⊢
    by_cases h : x = c
    · subst h
      rw [List.count_cons_self]
      unfold splitK cutAt
      rw [if_neg (by rw [index_eq]; decide), if_pos rfl, index_eq]
      show ((x :: l).take 0) :: splitK [x] 0 (l.count x) ((x :: l).drop (0 + 1)) = _
      simp only [List.take_zero, Nat.zero_add, List.drop_succ_cons, List.drop_zero]
      rw [ih]
    · rw [List.count_cons_of_ne (by simpa using h)]
      unfold cutAt
      rw [if_neg h]
      cases hk : l.count c with
      | zero =>
        rw [hk] at ih
        rw [← ih]
        rfl
      | succ k =>
        rw [hk] at ih
        unfold splitK at ih ⊢
        rw [index_ne x c l h]
        have hge := index_ge l [c]
        by_cases hm : index l [c] = -1
        · rw [hm] at ih ⊢
          have e1 : ((-1 : Int) == -1) = true := rfl
          simp only [e1, if_true] at ih ⊢
          rw [← ih]
          rfl
        · have e : (index l [c] == -1) = false := by simpa using hm
          simp only [e, Bool.false_eq_true, if_false] at ih ⊢
          have e2 : (index l [c] + 1 == -1) = false := by simp; omega
          simp only [e2, Bool.false_eq_true, if_false]
          have e3 : (index l [c] + 1).toNat = (index l [c]).toNat + 1 := by omega
          rw [e3, ← ih]
          simp only [Nat.add_zero, List.take_succ_cons, List.headD_cons, List.tail_cons]
          rw [show (index l [c]).toNat + 1 + [c].length = ((index l [c]).toNat + [c].length) + 1 from by omega, List.drop_succ_cons]
def numOf (l : List UInt8) : Option Nat :=
  match parseUint10 0 l with
  | .ok u => if l ≠ [] ∧ decDigits u = l then some u else none
  | _ => none
def zOf (l : List UInt8) : Option Int :=
  if l.head? = some 45 then
    match numOf l.tail with
    | some n => if n = 0 ∨ 9223372036854775808 < n then none else some (-(n : Int))
    | none => none
  else
    match numOf l with
    | some n => if 9223372036854775807 < n then none else some (n : Int)
    | none => none
def timeOf (l : List UInt8) : Option Nat :=
  match parseUintB 64 l with
  | .ok u => if decDigits u = l then some u else none
  | _ => none
def intOf' (l : List UInt8) : Option Int :=
  match atoiAll l with
  | .ok v => if itoa v = l then some v else none
  | _ => none
theorem time_num (l : List UInt8) : timeOf l = numOf l := by
  unfold timeOf numOf
  rw [parseUintB_64, parseMag]
  by_cases h : l = []
  · subst h
    rfl
  · rw [if_neg h]
    cases parseUint10 0 l <;> simp [h]
theorem decDigits_head (u : Nat) : ∃ c r, decDigits u = c :: r ∧ 48 ≤ c.toNat ∧ c.toNat ≤ 57 := by
  induction u using Nat.strongRecOn with
  | _ u ih =>
    rw [decDigits]
    split
    · refine ⟨_, _, rfl, ?_⟩
      rw [UInt8.toNat_ofNat']
      omega
    · obtain ⟨c, r, h1, h2⟩ := ih (u / 10) (by omega)
      exact ⟨c, r ++ [UInt8.ofNat (48 + u % 10)], by rw [h1]; rfl, h2⟩
theorem decDigits_zero : decDigits 0 = [48] := by rw [decDigits]; rfl
theorem toNat_eq {a b : UInt8} (h : a.toNat = b.toNat) : a = b := UInt8.toNat_inj.1 h
theorem itoa_pos (n : Nat) : itoa (n : Int) = decDigits n := by
  unfold itoa
  rw [if_neg (by omega)]
  rfl
theorem itoa_minus (n : Nat) (h : n ≠ 0) : itoa (-(n : Int)) = 45 :: decDigits n := by
  unfold itoa
  rw [if_pos (by omega)]
  simp
theorem int_z (l : List UInt8) : intOf' l = zOf l := by
  cases l with
  | nil =>
    unfold intOf' zOf numOf
    rfl
  | cons c r =>
    by_cases h45 : c.toNat = 45
    · obtain rfl : c = 45 := toNat_eq h45
      unfold intOf' zOf
      rw [atoiAll_minus, if_pos (show (45 :: r).head? = some 45 from rfl)]
      show _ = match numOf r with | some n => _ | none => _
      unfold numOf parseMag
      by_cases hr : r = []
      · subst hr
        rfl
      · rw [if_neg hr]
        cases hp : parseUint10 0 r with
        | range => rfl
        | ok u =>
          simp only [signed]
          by_cases h1 : 9223372036854775808 < u
          · simp only [h1, if_pos]
            split <;> simp_all
          · simp only [h1, if_false]
            by_cases h0 : u = 0
            · subst h0
              have : itoa (-((0 : Nat) : Int)) ≠ 45 :: r := by
                show itoa 0 ≠ _
                have := itoa_pos 0
                rw [show ((0 : Nat) : Int) = 0 from rfl] at this
                rw [this, decDigits_zero]
                simp
              rw [if_neg this]
              split <;> simp_all
            · rw [itoa_minus u h0]
              by_cases hd : decDigits u = r
              · simp [hd, hr, h0]
                omega
              · simp [hd, hr]
        | _ => rfl
    · have hh : ¬ (c :: r).head? = some 45 := by
        intro e
        simp at e
        exact h45 (by rw [e]; rfl)
      unfold intOf' zOf
      rw [if_neg hh]
      by_cases h43 : c.toNat = 43
      · obtain rfl : c = 43 := toNat_eq h43
        rw [atoiAll_plus]
        have hn : numOf (43 :: r) = none := by
          unfold numOf
          rw [parseUint10, if_neg (by decide)]
        rw [hn]
        cases hp : parseMag r with
        | range => rfl
        | ok u =>
          simp only [signless]
          split
          · rename_i v hv
            split at hv
            · cases hv
            · injection hv with hv
              subst hv
              rw [itoa_pos, if_neg]
              intro e
              obtain ⟨c, t, h1, h2, h3⟩ := decDigits_head u
              rw [h1] at e
              injection e with e1 e2
              subst e1
              revert h2
              decide
          · rfl
        | _ => rfl
      · rw [atoiAll_plain c r h43 h45]
        unfold numOf parseMag
        rw [if_neg (by simp)]
        cases hp : parseUint10 0 (c :: r) with
        | range => rfl
        | ok u =>
          simp only [signless]
          by_cases h1 : 9223372036854775808 ≤ u
          · have h2 : 9223372036854775807 < u := by omega
            simp only [h1, if_pos]
            split <;> simp_all
          · have h2 : ¬ 9223372036854775807 < u := by omega
            simp only [h1, if_false]
            rw [itoa_pos]
            by_cases hd : decDigits u = c :: r
            · simp [hd, h2]
            · simp [hd]
        | _ => rfl
theorem numOf_lt {l : List UInt8} {n : Nat} (h : numOf l = some n) : n < 18446744073709551616 := by
  unfold numOf at h
  split at h
  · rename_i u hu
    split at h
    · injection h with h
      subst h
      exact parseUint10_lt _ _ _ (by decide) hu
    · cases h
  · cases h
theorem numOf_digits {l : List UInt8} {n : Nat} (h : numOf l = some n) : decDigits n = l := by
  unfold numOf at h
  split at h
  · split at h
    · rename_i h2
      injection h with h
      subst h
      exact h2.2
    · cases h
  · cases h
theorem zOf_bounds {l : List UInt8} {n : Int} (h : zOf l = some n) : -9223372036854775808 ≤ n ∧ n ≤ 9223372036854775807 := by
  unfold zOf at h
  split at h
  · split at h
    · split at h
      · cases h
      · injection h with h
        omega
    · cases h
  · split at h
    · split at h
      · cases h
      · injection h with h
        omega
    · cases h
def valU (c : UInt8) : Option Nat :=
  if 65 ≤ c.toNat ∧ c.toNat ≤ 90 then some (c.toNat - 65) else if 97 ≤ c.toNat ∧ c.toNat ≤ 122 then some (c.toNat - 71) else if 48 ≤ c.toNat ∧ c.toNat ≤ 57 then some (c.toNat + 4)
  else if c.toNat = 45 then some 62 else if c.toNat = 95 then some 63 else none
theorem valU_let : ∀ n, n < 64 → valU (letU n) = some n := by decide
theorem valU_some : ∀ m, m < 256 → ∀ n, valU (UInt8.ofNat m) = some n → n < 64 ∧ letU n = UInt8.ofNat m := by
  intro m hm n h
  unfold valU at h
  rw [UInt8.toNat_ofNat', Nat.mod_eq_of_lt hm] at h
  have key : ∀ k, k < 64 → valU (letU k) = some k := valU_let
  split at h
  · injection h with h
    subst h
    refine ⟨by omega, ?_⟩
    unfold letU
    rw [if_pos (by omega), show 65 + (m - 65) = m from by omega]
  · split at h
    · injection h with h
      subst h
      refine ⟨by omega, ?_⟩
      unfold letU
      rw [if_neg (by omega), if_pos (by omega), show 97 + (m - 71) - 26 = m from by omega]
    · split at h
      · injection h with h
        subst h
        refine ⟨by omega, ?_⟩
        unfold letU
        rw [if_neg (by omega), if_neg (by omega), if_pos (by omega), show 48 + (m + 4) - 52 = m from by omega]
      · split at h
        · rename_i e
          injection h with h
          subst h
          subst e
          exact ⟨by decide, rfl⟩
        · split at h
          · rename_i e
            injection h with h
            subst h
            subst e
            exact ⟨by decide, rfl⟩
          · cases h
theorem valU_inv {c : UInt8} {n : Nat} (h : valU c = some n) : n < 64 ∧ letU n = c := by
  have h2 := valU_some c.toNat (UInt8.toNat_lt c) n (by rw [UInt8.ofNat_toNat]; exact h)
  rw [UInt8.ofNat_toNat] at h2
  exact h2
def valsU : List UInt8 → Option (List Nat)
  | [] => some []
  | c :: t => match valU c with
    | none => none
    | some n => (valsU t).map (n :: ·)
def dec64 (l : List UInt8) : Option (List UInt8) :=
  if 65536 < l.length then none else
  match valsU l with
  | none => none
  | some v => if v.length % 4 = 1 then none else if (bytesOf v 0 0).2 ≠ 0 then none else some (bytesOf v 0 0).1
def wordOf (l : List UInt8) : Option (List UInt8) :=
  if l = [45] then some [] else
  match dec64 l with
  | some b => if b = [] then none else some b
  | none => none
def act1 (d r : List UInt8) : PAct := { kind := 1, raw := ⟨r.toArray⟩, draws := d, now := 0, outcome := 0, n := 0, dir := 0, tails := [] }
def act2 (t : Nat) : PAct := { kind := 2, raw := ⟨#[]⟩, draws := [], now := t, outcome := 0, n := 0, dir := 0, tails := [] }
def act3 (o : Int) : PAct := { kind := 3, raw := ⟨#[]⟩, draws := [], now := 0, outcome := o, n := 0, dir := 0, tails := [] }
def act4 (n : Int) : PAct := { kind := 4, raw := ⟨#[]⟩, draws := [], now := 0, outcome := 0, n := n, dir := 0, tails := [] }
def act5 (n q : Int) (ts : List Int) : PAct := { kind := 5, raw := ⟨#[]⟩, draws := [], now := 0, outcome := 0, n := n, dir := q, tails := ts }
def act6 : PAct := { kind := 6, raw := ⟨#[]⟩, draws := [], now := 0, outcome := 0, n := 0, dir := 0, tails := [] }
def wRequest : List UInt8 := [114, 101, 113, 117, 101, 115, 116]
def wTick : List UInt8 := [116, 105, 99, 107]
def wPing : List UInt8 := [112, 105, 110, 103]
def wArm : List UInt8 := [97, 114, 109]
def wRestart : List UInt8 := [114, 101, 115, 116, 97, 114, 116]
def wCompact : List UInt8 := [99, 111, 109, 112, 97, 99, 116]
def ofRequest : List (List UInt8) → Option PAct
  | [x, y] => match wordOf x, wordOf y with | some d, some r => some (act1 d r) | _, _ => none
  | _ => none
def ofTick : List (List UInt8) → Option PAct
  | [x] => (numOf x).map act2
  | _ => none
def ofPing : List (List UInt8) → Option PAct
  | [x] => (zOf x).map act3
  | _ => none
def ofArm : List (List UInt8) → Option PAct
  | [x] => (zOf x).map act4
  | _ => none
def ofRestart (l : List (List UInt8)) : Option PAct :=
  match l.mapM zOf with
  | some (n :: q :: ts) => some (act5 n q ts)
  | _ => none
def actOf (l : List (List UInt8)) : Option PAct :=
  match l with
  | [] => none
  | k :: r =>
    if k = wRequest then ofRequest r
    else if k = wTick then ofTick r
    else if k = wPing then ofPing r
    else if k = wArm then ofArm r
    else if k = wRestart then ofRestart r
    else if k = wCompact then (if r = [] then some act6 else none)
    else none
def ofLine (s : List UInt8) : Option PAct := actOf (cutAt 32 s)
def strip (s : List UInt8) : List UInt8 := if s.getLast? = some 10 then s.dropLast else s
def goL : List (List UInt8) → Nat → List PAct → List PAct × Int × Int
  | [], _, acc => (acc, 0, 0)
  | s :: t, n, acc =>
    match ofLine s with
    | none => ([], 170, (n : Int) + 1)
    | some a => if acc.length = 4096 then ([], 32, (n : Int) + 1) else goL t (n + 1) (acc ++ [a])
def goRest (r : List UInt8) (n : Nat) (acc : List PAct) : List PAct × Int × Int := if r = [] then (acc, 0, 0) else goL (cutAt 10 (strip r)) n acc
def parseS (s : List UInt8) : List PAct × Int × Int := if 1048576 < s.length then ([], 1, 0) else goRest s 0 []
theorem strip_app (p r : List UInt8) (h : r ≠ []) : strip (p ++ 10 :: r) = p ++ 10 :: strip r := by
  unfold strip
  have e : (p ++ 10 :: r).getLast? = r.getLast? := by
    rw [List.getLast?_append, List.getLast?_cons]
    cases hr : r.getLast? with
    | none => rw [List.getLast?_eq_none_iff] at hr; exact absurd hr h
    | some x => simp
  rw [e]
  split
  · rw [List.dropLast_append_cons, List.dropLast_cons_of_ne_nil h]
  · rfl
theorem goRest_line (p r : List UInt8) (n : Nat) (acc : List PAct) (hp : (10 : UInt8) ∉ p) : goRest (p ++ 10 :: r) n acc =
    match ofLine p with
    | none => ([], 170, (n : Int) + 1)
    | some a => if acc.length = 4096 then ([], 32, (n : Int) + 1) else goRest r (n + 1) (acc ++ [a]) := by
  have h0 : p ++ 10 :: r ≠ [] := by simp
  conv => lhs; unfold goRest
  rw [if_neg h0]
  by_cases hr : r = []
  · subst hr
    have : strip (p ++ [10]) = p := by
      unfold strip
      rw [if_pos (by simp)]
      simp
    rw [this, cutAt_one 10 p hp]
    unfold goL
    cases ofLine p with
    | none => rfl
    | some a =>
      simp only
      split
      · rfl
      · simp [goL, goRest]
  · rw [strip_app p r hr, cutAt_app 10 p _ hp]
    conv => lhs; unfold goL
    cases ofLine p with
    | none => rfl
    | some a =>
      simp only
      split
      · rfl
      · rw [goRest, if_neg hr]
end Go.Scr

/-
  Bits of letters, eight at a time, in plain words. No program in sight.
-/

namespace Go.Scr
open Go Go.Basic Go.Lib
end Go.Scr

/-
  What is printed reads back; what was read is printed as it was. No program in sight.
-/

namespace Go.Scr
open Go Go.Basic Go.Lib
theorem parse_snoc (c : UInt8) : ∀ (l : List UInt8) (acc v : Nat), parseUint10 acc l = .ok v → parseUint10 acc (l ++ [c]) = parseUint10 v [c]
  | [], acc, v, h => by
    rw [parseUint10] at h
    injection h with h
    rw [h]
    rfl
  | x :: l, acc, v, h => by
    rw [parseUint10] at h
    rw [List.cons_append, parseUint10]
    split at h
    · rename_i h1
      rw [if_pos h1]
      split at h
      · cases h
      · rename_i h2
        rw [if_neg h2]
        split at h
        · cases h
        · rename_i h3
          rw [if_neg h3]
          exact parse_snoc c l _ v h
    · cases h
theorem parse_digits (u : Nat) : u < 18446744073709551616 → parseUint10 0 (decDigits u) = .ok u := by
  induction u using Nat.strongRecOn with
  | _ u ih =>
    intro hu
    rw [decDigits]
    split
    · rename_i h
      rw [parseUint10]
      have e : (UInt8.ofNat (48 + u)).toNat = 48 + u := by rw [UInt8.toNat_ofNat']; omega
      rw [e, if_pos (by omega), if_neg (by omega), if_neg (by omega), parseUint10]
      congr 1
      omega
    · have h := ih (u / 10) (by omega) (by omega)
      rw [parse_snoc _ _ _ _ h, parseUint10]
      have e : (UInt8.ofNat (48 + u % 10)).toNat = 48 + u % 10 := by rw [UInt8.toNat_ofNat']; omega
      rw [e, if_pos (by omega), if_neg (by omega), if_neg (by omega), parseUint10]
      congr 1
      omega
theorem decDigits_ne (u : Nat) : decDigits u ≠ [] := by
  obtain ⟨c, r, h, _⟩ := decDigits_head u
  rw [h]
  simp
theorem num_digits {u : Nat} (h : u < 18446744073709551616) : numOf (decDigits u) = some u := by
  unfold numOf
  rw [parse_digits u h]
  simp [decDigits_ne]
theorem digit_range (u : Nat) : ∀ c ∈ decDigits u, 48 ≤ c.toNat ∧ c.toNat ≤ 57 := by
  induction u using Nat.strongRecOn with
  | _ u ih =>
    intro c hc
    rw [decDigits] at hc
    split at hc
    · simp only [List.mem_singleton] at hc
      subst hc
      rw [UInt8.toNat_ofNat']
      omega
    · rcases List.mem_append.1 hc with hc | hc
      · exact ih (u / 10) (by omega) c hc
      · simp only [List.mem_singleton] at hc
        subst hc
        rw [UInt8.toNat_ofNat']
        omega
theorem itoa_cases (z : Int) : (∃ n : Nat, z = n ∧ itoa z = decDigits n) ∨ ∃ n : Nat, n ≠ 0 ∧ z = -(n : Int) ∧ itoa z = 45 :: decDigits n := by
  by_cases h : 0 ≤ z
  · obtain ⟨n, rfl⟩ := Int.eq_ofNat_of_zero_le h
    exact .inl ⟨n, rfl, itoa_pos n⟩
  · obtain ⟨n, hn⟩ := Int.eq_ofNat_of_zero_le (show 0 ≤ -z by omega)
    obtain rfl : z = -(n : Int) := by omega
    exact .inr ⟨n, by omega, rfl, itoa_minus n (by omega)⟩
theorem z_itoa {z : Int} (h1 : -9223372036854775808 ≤ z) (h2 : z ≤ 9223372036854775807) : zOf (itoa z) = some z := by
  rcases itoa_cases z with ⟨n, rfl, e⟩ | ⟨n, h0, rfl, e⟩
  · rw [e]
    unfold zOf
    obtain ⟨c, r, hc, h3, _⟩ := decDigits_head n
    rw [if_neg (by rw [hc]; simp; intro e; subst e; revert h3; decide), num_digits (by omega)]
    simp only
    rw [if_neg (by omega)]
  · rw [e]
    unfold zOf
    rw [if_pos (show (45 :: decDigits n).head? = some 45 from rfl), List.tail_cons, num_digits (by omega)]
    simp only
    rw [if_neg (by omega)]
theorem itoa_z {l : List UInt8} {z : Int} (h : zOf l = some z) : itoa z = l := by
  unfold zOf at h
  split at h
  · rename_i h0
    split at h
    · rename_i n hn
      split at h
      · cases h
      · injection h with h
        subst h
        rw [itoa_minus n (by omega), numOf_digits hn]
        cases l with
        | nil => simp at h0
        | cons c r =>
          simp at h0
          rw [h0]
          rfl
    · cases h
  · split at h
    · rename_i n hn
      split at h
      · cases h
      · injection h with h
        subst h
        rw [itoa_pos, numOf_digits hn]
    · cases h
def Plain (l : List UInt8) : Prop := (32 : UInt8) ∉ l ∧ (10 : UInt8) ∉ l
theorem plain_of {l : List UInt8} (h : ∀ c ∈ l, 45 ≤ c.toNat) : Plain l :=
  ⟨fun e => absurd (h _ e) (by decide), fun e => absurd (h _ e) (by decide)⟩
theorem plain_digits (u : Nat) : Plain (decDigits u) := plain_of fun c hc => by have := digit_range u c hc; omega
theorem plain_itoa (z : Int) : Plain (itoa z) := by
  rcases itoa_cases z with ⟨n, _, e⟩ | ⟨n, _, _, e⟩
  · rw [e]
    exact plain_digits n
  · rw [e]
    refine plain_of fun c hc => ?_
    rcases List.mem_cons.1 hc with rfl | hc
    · decide
    · have := digit_range n c hc
      omega
theorem letU_ge : ∀ n, n < 64 → 45 ≤ (letU n).toNat := by decide
theorem plain_word (p : List UInt8) : Plain (word p) := by
  unfold word
  split
  · exact plain_of fun c hc => by simp at hc; subst hc; decide
  · refine plain_of fun c hc => ?_
    obtain ⟨n, hn, rfl⟩ := List.mem_map.1 hc
    exact letU_ge n (six_lt p n hn)
theorem vals_letU : ∀ (v : List Nat), (∀ x ∈ v, x < 64) → valsU (v.map letU) = some v
  | [], _ => rfl
  | x :: v, h => by
    rw [List.map_cons, valsU, valU_let x (h x (by simp)), vals_letU v fun y hy => h y (by simp [hy])]
    rfl
theorem letU_vals : ∀ (l : List UInt8) (v : List Nat), valsU l = some v → v.map letU = l ∧ ∀ x ∈ v, x < 64
  | [], v, h => by
    cases h
    simp
  | c :: t, v, h => by
    rw [valsU] at h
    split at h
    · cases h
    · rename_i n hn
      cases ht : valsU t with
      | none => rw [ht] at h; cases h
      | some u =>
        rw [ht] at h
        cases h
        obtain ⟨h1, h2⟩ := letU_vals t u ht
        obtain ⟨h3, h4⟩ := valU_inv hn
        refine ⟨by rw [List.map_cons, h1, h4], fun x hx => ?_⟩
        rcases List.mem_cons.1 hx with rfl | hx
        · exact h3
        · exact h2 x hx
theorem word_back (p : List UInt8) (hw : (word p).length ≤ 65536) : wordOf (word p) = some p := by
  by_cases hp : p = []
  · subst hp
    rfl
  · have hl := word_len p hp
    have hpos : 0 < p.length := List.length_pos_iff.2 hp
    have hn : word p ≠ [45] := by
      intro e
      rw [e] at hl
      simp only [List.length_cons, List.length_nil] at hl
      omega
    have he : word p = (six p).map letU := by rw [word, if_neg hp]
    unfold wordOf
    rw [if_neg hn]
    unfold dec64
    rw [if_neg (by omega), he, vals_letU _ (six_lt p)]
    have h4 : ¬ (six p).length % 4 = 1 := by rw [six_length]; omega
    simp only
    rw [if_neg h4, bytesOf_six]
    simp [hp]
theorem six_back : ∀ (v : List Nat), (∀ x ∈ v, x < 64) → v.length % 4 ≠ 1 → (bytesOf v 0 0).2 = 0 → six (bytesOf v 0 0).1 = v
  | [], _, _, _ => rfl
  | [x], _, h, _ => absurd rfl h
  | [x, y], hv, _, h => by
    have hx := hv x (by simp)
    have hy := hv y (by simp)
    rw [bytesOf_lt (by omega), bytesOf_ge (by omega)] at h ⊢
    simp only [bytesOf, Nat.reduceAdd, Nat.reduceSub, Nat.reducePow] at h ⊢
    simp only [six]
    rw [UInt8.toNat_ofNat', show (0 * 64 + x) * 64 + y = 64 * x + y from by omega] at *
    congr 1
    · omega
    · congr 1
      omega
  | [x, y, z], hv, _, h => by
    have hx := hv x (by simp)
    have hy := hv y (by simp)
    have hz := hv z (by simp)
    rw [bytesOf_lt (by omega), bytesOf_ge (by omega), bytesOf_ge (by omega)] at h ⊢
    simp only [bytesOf, Nat.reduceAdd, Nat.reduceSub, Nat.reducePow] at h ⊢
    simp only [six]
    rw [UInt8.toNat_ofNat', UInt8.toNat_ofNat'] at *
    congr 1
    · omega
    · congr 1
      · omega
      · congr 1
        omega
  | x :: y :: z :: w :: t, hv, hl, h => by
    have hx := hv x (by simp)
    have hy := hv y (by simp)
    have hz := hv z (by simp)
    have hw := hv w (by simp)
    rw [bytesOf_lt (by omega), bytesOf_ge (by omega), bytesOf_ge (by omega), bytesOf_ge (by omega)] at h ⊢
    simp only [Nat.reduceAdd, Nat.reduceSub, Nat.reducePow, Nat.div_one, Nat.mod_one] at h ⊢
    have ih := six_back t (fun q hq => hv q (by simp [hq])) (by simp only [List.length_cons] at hl; omega) h
    simp only [six]
    rw [ih]
    rw [UInt8.toNat_ofNat', UInt8.toNat_ofNat', UInt8.toNat_ofNat']
    congr 1
    · omega
    · congr 1
      · omega
      · congr 1
        · omega
        · congr 1
          omega
theorem word_of {l p : List UInt8} (h : wordOf l = some p) : word p = l ∧ l.length ≤ 65536 := by
  unfold wordOf at h
  split at h
  · rename_i e
    cases h
    subst e
    exact ⟨rfl, by decide⟩
  · split at h
    · rename_i b hb
      split at h
      · cases h
      · rename_i hne
        cases h
        unfold dec64 at hb
        split at hb
        · cases hb
        · rename_i hlen
          split at hb
          · cases hb
          · rename_i v hv
            split at hb
            · cases hb
            · rename_i h4
              split at hb
              · cases hb
              · rename_i h0
                injection hb with hb
                obtain ⟨h1, h2⟩ := letU_vals l v hv
                have h3 := six_back v h2 h4 (by omega)
                rw [hb] at h3
                refine ⟨?_, by omega⟩
                unfold word
                rw [if_neg hne, h3, h1]
    · cases h
end Go.Scr

/-
  Lines and scripts: printed and read back; read and printed. No program in sight.
-/

namespace Go.Scr
open Go Go.Basic Go.Lib
def FitsN (a : PAct) : Prop :=
  a.now < 18446744073709551616 ∧ (-9223372036854775808 ≤ a.outcome ∧ a.outcome ≤ 9223372036854775807) ∧ (-9223372036854775808 ≤ a.n ∧ a.n ≤ 9223372036854775807) ∧
    (-9223372036854775808 ≤ a.dir ∧ a.dir ≤ 9223372036854775807) ∧ ∀ t ∈ a.tails, -9223372036854775808 ≤ t ∧ t ≤ 9223372036854775807
def joinS (c : UInt8) : List (List UInt8) → List UInt8
  | [] => []
  | [p] => p
  | p :: q :: r => p ++ c :: joinS c (q :: r)
theorem join_cut (c : UInt8) : ∀ (l : List UInt8), joinS c (cutAt c l) = l
  | [] => rfl
  | x :: l => by
    have ih := join_cut c l
    obtain ⟨p, r, hp⟩ := cutAt_cons c l
    unfold cutAt
    split
    · rename_i h
      subst h
      rw [hp] at ih ⊢
      show [] ++ x :: joinS x (p :: r) = _
      rw [ih]
      rfl
    · rw [hp] at ih ⊢
      simp only [List.headD_cons, List.tail_cons]
      cases r with
      | nil => exact congrArg (x :: ·) ih
      | cons q r => exact congrArg (x :: ·) ih
theorem cut_rest : ∀ (ts : List Int) (p : List UInt8), Plain p → cutAt 32 (p ++ rest ts) = p :: ts.map itoa
  | [], p, hp => by
    show cutAt 32 (p ++ []) = _
    rw [List.append_nil, cutAt_one 32 p hp.1]
    rfl
  | t :: ts, p, hp => by
    show cutAt 32 (p ++ (32 :: itoa t ++ rest ts)) = _
    rw [show (32 :: itoa t ++ rest ts : List UInt8) = 32 :: (itoa t ++ rest ts) from rfl, cutAt_app 32 p _ hp.1, cut_rest ts _ (plain_itoa t)]
    rfl
theorem join_rest : ∀ (ts : List Int) (p : List UInt8), joinS 32 (p :: ts.map itoa) = p ++ rest ts
  | [], p => (List.append_nil p).symm
  | t :: ts, p => by
    show p ++ 32 :: joinS 32 (itoa t :: ts.map itoa) = _
    rw [join_rest ts]
    rfl
theorem mapM_itoa : ∀ (ts : List Int), (∀ t ∈ ts, -9223372036854775808 ≤ t ∧ t ≤ 9223372036854775807) → (ts.map itoa).mapM zOf = some ts
  | [], _ => rfl
  | t :: ts, h => by
    rw [List.map_cons, List.mapM_cons, z_itoa (h t (by simp)).1 (h t (by simp)).2, mapM_itoa ts fun x hx => h x (by simp [hx])]
    rfl
theorem itoa_mapM : ∀ (l : List (List UInt8)) (ts : List Int), l.mapM zOf = some ts → ts.map itoa = l
  | [], ts, h => by
    cases h
    rfl
  | x :: l, ts, h => by
    rw [List.mapM_cons] at h
    cases hx : zOf x with
    | none => rw [hx] at h; cases h
    | some z =>
      rw [hx] at h
      cases hl : l.mapM zOf with
      | none => rw [hl] at h; cases h
      | some u =>
        rw [hl] at h
        cases h
        rw [List.map_cons, itoa_z hx, itoa_mapM l u hl]
theorem data_back (s : ByteArray) : (⟨s.data.toList.toArray⟩ : ByteArray) = s := by cases s; rfl
theorem line_back {a : PAct} (hok : okA a = true) (hw : wideA a = false) (hf : FitsN a) : ofLine (lineS a) = some a := by
  obtain ⟨k, r, d, t, o, n, q, ts⟩ := a
  obtain ⟨f1, f2, f3, f4, f5⟩ := hf
  simp only at f1 f2 f3 f4 f5
  unfold ofLine
  rcases kinds k with rfl | rfl | rfl | rfl | rfl | rfl | ⟨h1, h2, h3, h4, h5, h6⟩
  · simp [okA] at hok
    simp [wideA] at hw
    show actOf (cutAt 32 (wRequest ++ 32 :: (word d ++ [32] ++ word r.data.toList))) = _
    rw [cutAt_app 32 wRequest _ (by decide), List.append_assoc, List.singleton_append, cutAt_app 32 _ _ (plain_word d).1, cutAt_one 32 _ (plain_word _).1]
    show ofRequest [word d, word r.data.toList] = _
    simp only [ofRequest, word_back d hw.1, word_back _ hw.2, act1, data_back]
    simp [hok]
  · simp [okA] at hok
    show actOf (cutAt 32 (wTick ++ 32 :: decDigits t)) = _
    rw [cutAt_app 32 wTick _ (by decide), cutAt_one 32 _ (plain_digits t).1]
    show (numOf (decDigits t)).map act2 = _
    rw [num_digits f1]
    simp [act2, hok]
  · simp [okA] at hok
    show actOf (cutAt 32 (wPing ++ 32 :: itoa o)) = _
    rw [cutAt_app 32 wPing _ (by decide), cutAt_one 32 _ (plain_itoa o).1]
    show (zOf (itoa o)).map act3 = _
    rw [z_itoa f2.1 f2.2]
    simp [act3, hok]
  · simp [okA] at hok
    show actOf (cutAt 32 (wArm ++ 32 :: itoa n)) = _
    rw [cutAt_app 32 wArm _ (by decide), cutAt_one 32 _ (plain_itoa n).1]
    show (zOf (itoa n)).map act4 = _
    rw [z_itoa f3.1 f3.2]
    simp [act4, hok]
  · simp [okA] at hok
    show actOf (cutAt 32 (wRestart ++ 32 :: (itoa n ++ [32] ++ itoa q) ++ rest ts)) = _
    rw [show wRestart ++ 32 :: (itoa n ++ [32] ++ itoa q) ++ rest ts = wRestart ++ 32 :: (itoa n ++ 32 :: (itoa q ++ rest ts)) from by simp]
    rw [cutAt_app 32 wRestart _ (by decide), cutAt_app 32 _ _ (plain_itoa n).1, cut_rest ts _ (plain_itoa q)]
    show ofRestart (itoa n :: itoa q :: ts.map itoa) = _
    unfold ofRestart
    have e := mapM_itoa (n :: q :: ts) (by
      intro x hx
      rcases List.mem_cons.1 hx with rfl | hx
      · exact f3
      · rcases List.mem_cons.1 hx with rfl | hx
        · exact f4
        · exact f5 x hx)
    rw [List.map_cons, List.map_cons] at e
    rw [e]
    simp [act5, hok]
  · simp [okA] at hok
    show actOf (cutAt 32 wCompact) = _
    rw [cutAt_one 32 wCompact (by decide)]
    show some act6 = _
    simp [act6, hok]
  · simp [okA] at hok
    omega
theorem plain_rest (ts : List Int) : (10 : UInt8) ∉ rest ts := by
  intro h
  obtain ⟨t, _, ht⟩ := List.mem_flatMap.1 h
  rcases List.mem_cons.1 ht with e | e
  · revert e; decide
  · exact (plain_itoa t).2 e
theorem line_ten (a : PAct) : (10 : UInt8) ∉ lineS a := by
  unfold lineS
  split
  · simp only [List.mem_append, not_or]
    exact ⟨⟨⟨by decide, (plain_word _).2⟩, by decide⟩, (plain_word _).2⟩
  · split
    · simp only [List.mem_append, not_or]
      exact ⟨by decide, (plain_digits _).2⟩
    · split
      · simp only [List.mem_append, not_or]
        exact ⟨by decide, (plain_itoa _).2⟩
      · split
        · simp only [List.mem_append, not_or]
          exact ⟨by decide, (plain_itoa _).2⟩
        · split
          · simp only [List.mem_append, not_or]
            exact ⟨⟨⟨⟨by decide, (plain_itoa _).2⟩, by decide⟩, (plain_itoa _).2⟩, plain_rest _⟩
          · split
            · decide
            · simp
theorem back_line {l : List UInt8} {a : PAct} (h : ofLine l = some a) : lineS a = l ∧ okA a = true ∧ wideA a = false := by
  have hj := join_cut 32 l
  unfold ofLine at h
  obtain ⟨kb, rb, hc⟩ := cutAt_cons 32 l
  rw [hc] at h hj
  change (if kb = wRequest then ofRequest rb else if kb = wTick then ofTick rb else if kb = wPing then ofPing rb else if kb = wArm then ofArm rb else if kb = wRestart then ofRestart rb else if kb = wCompact then (if rb = [] then some act6 else none) else none) = some a at h
  split at h
  · rename_i hk
    subst hk
    unfold ofRequest at h
    split at h
    · split at h
      · rename_i x y d r h1 h2
        cases h
        obtain ⟨e1, l1⟩ := word_of h1
        obtain ⟨e2, l2⟩ := word_of h2
        rw [← e1] at l1 hj
        rw [← e2] at l2 hj
        refine ⟨?_, by simp [okA, act1], ?_⟩
        · rw [← hj]
          simp [lineS, act1, joinS, wRequest]
        · simp only [wideA, act1, Bool.or_eq_false_iff]
          exact ⟨decide_eq_false (by omega), decide_eq_false (by show ¬ 65536 < (word r).length; omega)⟩
      · cases h
    · cases h
  · split at h
    · rename_i hk
      subst hk
      unfold ofTick at h
      split at h
      · rename_i x
        cases hn : numOf x with
        | none => rw [hn] at h; cases h
        | some n =>
          rw [hn] at h
          cases h
          refine ⟨?_, by simp [okA, act2], by simp [wideA, act2, word]⟩
          rw [← hj, ← numOf_digits hn]
          simp [lineS, act2, joinS, wTick]
      · cases h
    · split at h
      · rename_i hk
        subst hk
        unfold ofPing at h
        split at h
        · rename_i x
          cases hn : zOf x with
          | none => rw [hn] at h; cases h
          | some n =>
            rw [hn] at h
            cases h
            refine ⟨?_, by simp [okA, act3], by simp [wideA, act3, word]⟩
            rw [← hj, ← itoa_z hn]
            simp [lineS, act3, joinS, wPing]
        · cases h
      · split at h
        · rename_i hk
          subst hk
          unfold ofArm at h
          split at h
          · rename_i x
            cases hn : zOf x with
            | none => rw [hn] at h; cases h
            | some n =>
              rw [hn] at h
              cases h
              refine ⟨?_, by simp [okA, act4], by simp [wideA, act4, word]⟩
              rw [← hj, ← itoa_z hn]
              simp [lineS, act4, joinS, wArm]
          · cases h
        · split at h
          · rename_i hk
            subst hk
            unfold ofRestart at h
            split at h
            · rename_i n q ts hz
              cases h
              have e := itoa_mapM _ _ hz
              refine ⟨?_, by simp [okA, act5], by simp [wideA, act5, word]⟩
              rw [← hj, ← e]
              show _ = wRestart ++ 32 :: (itoa n ++ 32 :: joinS 32 (itoa q :: ts.map itoa))
              rw [join_rest]
              simp [lineS, act5, wRestart]
            · cases h
          · split at h
            · rename_i hk
              subst hk
              split at h
              · rename_i hr
                subst hr
                cases h
                refine ⟨?_, by simp [okA, act6], by simp [wideA, act6, word]⟩
                rw [← hj]
                rfl
              · cases h
            · cases h
theorem goRest_script : ∀ (l : List PAct) (n : Nat) (acc : List PAct), l.all okA = true → l.any wideA = false → (∀ a ∈ l, FitsN a) → acc.length + l.length ≤ 4096 → goRest (script l) n acc = (acc ++ l, 0, 0)
  | [], n, acc, _, _, _, _ => by
    show goRest [] n acc = _
    unfold goRest
    rw [if_pos rfl, List.append_nil]
  | a :: l, n, acc, h1, h2, h3, h4 => by
    simp only [List.all_cons, Bool.and_eq_true] at h1
    simp only [List.any_cons, Bool.or_eq_false_iff] at h2
    simp only [List.length_cons] at h4
    have e : script (a :: l) = lineS a ++ 10 :: script l := by simp [script]
    rw [e, goRest_line _ _ _ _ (line_ten a), line_back h1.1 h2.1 (h3 a (by simp))]
    simp only
    rw [if_neg (by omega), goRest_script l (n + 1) (acc ++ [a]) h1.2 h2.2 (fun x hx => h3 x (by simp [hx])) (by simp; omega)]
    simp
theorem parse_print {l : List PAct} {s : List UInt8} (h : printS l = (s, 0)) (hf : ∀ a ∈ l, FitsN a) : parseS s = (l, 0, 0) := by
  unfold printS at h
  split at h
  · cases h
  · split at h
    · cases h
    · split at h
      · cases h
      · rename_i h1 h2 h3
        injection h with h _
        subst h
        unfold parseS
        rw [if_neg (by omega), goRest_script l 0 [] (by simpa using h2) (by simpa using fun hc => h3 (.inl hc)) hf (by simp; omega)]
        rfl
theorem goL_back : ∀ (ls : List (List UInt8)) (n : Nat) (acc k : List PAct) (m : Int), goL ls n acc = (k, 0, m) → acc.length ≤ 4096 → ∃ t, k = acc ++ t ∧ t.map lineS = ls ∧ t.all okA = true ∧ t.any wideA = false ∧ k.length ≤ 4096
  | [], n, acc, k, m, h, ha => by
    unfold goL at h
    cases h
    exact ⟨[], by simp, rfl, rfl, rfl, ha⟩
  | s :: ls, n, acc, k, m, h, ha => by
    unfold goL at h
    cases hs : ofLine s with
    | none => rw [hs] at h; cases h
    | some a =>
      rw [hs] at h
      simp only at h
      split at h
      · cases h
      · obtain ⟨t, rfl, h2, h3, h4, h5⟩ := goL_back ls (n + 1) (acc ++ [a]) k m h (by simp; omega)
        obtain ⟨b1, b2, b3⟩ := back_line hs
        exact ⟨a :: t, by simp, by rw [List.map_cons, b1, h2], by simp [b2, h3], by simp [b3, h4], h5⟩
theorem join_lines : ∀ (p : List UInt8) (ls : List (List UInt8)), ((p :: ls).flatMap fun x => x ++ [10]) = joinS 10 (p :: ls) ++ [10]
  | p, [] => by simp [joinS]
  | p, q :: ls => by
    have ih := join_lines q ls
    rw [List.flatMap_cons, ih]
    simp [joinS]
theorem script_lines (l : List PAct) : script l = (l.map lineS).flatMap fun x => x ++ [10] := by
  induction l with
  | nil => rfl
  | cons a l ih =>
    show lineS a ++ [10] ++ script l = _
    rw [ih]
    rfl
theorem strip_end (s : List UInt8) : strip s ++ [10] = s ∨ strip s = s := by
  unfold strip
  split
  · rename_i h
    left
    have h0 : s ≠ [] := by intro e; rw [e] at h; cases h
    have h1 := List.dropLast_concat_getLast h0
    rw [List.getLast?_eq_some_getLast h0] at h
    injection h with h
    rw [h] at h1
    exact h1
  · exact .inr rfl
theorem print_parse {s : List UInt8} {k : List PAct} {m : Int} (h : parseS s = (k, 0, m)) :
    (∃ t, printS k = (t, 0) ∧ (t = s ∨ t = s ++ [10])) ∨ (printS k = ([], 1) ∧ s.length = 1048576) := by
  unfold parseS at h
  split at h
  · cases h
  · rename_i hl
    unfold goRest at h
    split at h
    · rename_i h0
      cases h
      subst h0
      exact .inl ⟨[], rfl, .inl rfl⟩
    · rename_i h0
      obtain ⟨t, hk, h2, h3, h4, h5⟩ := goL_back _ _ _ _ _ h (by simp)
      rw [List.nil_append] at hk
      subst hk
      have e : script k = strip s ++ [10] := by
        obtain ⟨p, r, hp⟩ := cutAt_cons 10 (strip s)
        rw [script_lines, h2, hp, join_lines, ← hp, join_cut]
      unfold printS
      rw [if_neg (by omega), if_neg (by simp [h3])]
      rcases strip_end s with e1 | e1
      · rw [e1] at e
        rw [if_neg (by rw [e, h4]; simp; omega)]
        exact .inl ⟨_, rfl, .inl e⟩
      · rw [e1] at e
        by_cases hl2 : 1048576 < (script k).length
        · rw [if_pos (.inr hl2)]
          refine .inr ⟨rfl, ?_⟩
          rw [e] at hl2
          simp only [List.length_append, List.length_cons, List.length_nil] at hl2
          omega
        · rw [if_neg (by rw [h4]; simp; omega)]
          exact .inl ⟨_, rfl, .inr e⟩
end Go.Scr

/-
  What was read fits its types; an error leaves nothing. No program in sight.
-/

namespace Go.Scr
open Go Go.Basic Go.Lib
def GoodA (m : Nat) (a : PAct) : Prop := FitsN a ∧ a.raw.size ≤ 65536 ∧ a.draws.length ≤ 65536 ∧ a.tails.length ≤ m
theorem mapM_bounds : ∀ (l : List (List UInt8)) (ts : List Int), l.mapM zOf = some ts → ts.length = l.length ∧ ∀ t ∈ ts, -9223372036854775808 ≤ t ∧ t ≤ 9223372036854775807
  | [], ts, h => by
    cases h
    simp
  | x :: l, ts, h => by
    rw [List.mapM_cons] at h
    cases hx : zOf x with
    | none => rw [hx] at h; cases h
    | some z =>
      rw [hx] at h
      cases hl : l.mapM zOf with
      | none => rw [hl] at h; cases h
      | some u =>
        rw [hl] at h
        cases h
        obtain ⟨h1, h2⟩ := mapM_bounds l u hl
        refine ⟨by simp [h1], fun t ht => ?_⟩
        rcases List.mem_cons.1 ht with rfl | ht
        · exact zOf_bounds hx
        · exact h2 t ht
theorem word_short {l p : List UInt8} (h : wordOf l = some p) : p.length ≤ 65536 := by
  obtain ⟨h1, h2⟩ := word_of h
  by_cases hp : p = []
  · subst hp
    simp
  · have := word_len p hp
    rw [h1] at this
    omega
theorem cut_count (c : UInt8) : ∀ (l : List UInt8), (cutAt c l).length ≤ l.length + 1
  | [] => by simp [cutAt]
  | x :: l => by
    have ih := cut_count c l
    unfold cutAt
    split
    · simp only [List.length_cons]
      omega
    · obtain ⟨p, r, hp⟩ := cutAt_cons c l
      rw [hp] at ih ⊢
      simp only [List.length_cons, List.tail_cons] at ih ⊢
      omega
theorem line_good {l : List UInt8} {a : PAct} (h : ofLine l = some a) : GoodA (l.length + 1) a := by
  have hl := cut_count 32 l
  unfold ofLine at h
  obtain ⟨kb, rb, hc⟩ := cutAt_cons 32 l
  rw [hc] at h hl
  simp only [List.length_cons] at hl
  change (if kb = wRequest then ofRequest rb else if kb = wTick then ofTick rb else if kb = wPing then ofPing rb else if kb = wArm then ofArm rb else if kb = wRestart then ofRestart rb else if kb = wCompact then (if rb = [] then some act6 else none) else none) = some a at h
  unfold GoodA FitsN
  split at h
  · unfold ofRequest at h
    split at h
    · split at h
      · rename_i x y d r h1 h2
        cases h
        have := word_short h1
        have h3 := word_short h2
        refine ⟨by simp [act1], ?_, this, by simp [act1]⟩
        show r.toArray.size ≤ 65536
        simpa using h3
      · cases h
    · cases h
  · split at h
    · unfold ofTick at h
      split at h
      · rename_i x
        cases hn : numOf x with
        | none => rw [hn] at h; cases h
        | some n => rw [hn] at h; cases h; exact ⟨⟨numOf_lt hn, by simp [act2], by simp [act2], by simp [act2], by simp [act2]⟩, Nat.zero_le _, by simp [act2], by simp [act2]⟩
      · cases h
    · split at h
      · unfold ofPing at h
        split at h
        · rename_i x
          cases hn : zOf x with
          | none => rw [hn] at h; cases h
          | some n => rw [hn] at h; cases h; exact ⟨⟨by simp [act3], zOf_bounds hn, by simp [act3], by simp [act3], by simp [act3]⟩, Nat.zero_le _, by simp [act3], by simp [act3]⟩
        · cases h
      · split at h
        · unfold ofArm at h
          split at h
          · rename_i x
            cases hn : zOf x with
            | none => rw [hn] at h; cases h
            | some n => rw [hn] at h; cases h; exact ⟨⟨by simp [act4], by simp [act4], zOf_bounds hn, by simp [act4], by simp [act4]⟩, Nat.zero_le _, by simp [act4], by simp [act4]⟩
          · cases h
        · split at h
          · unfold ofRestart at h
            split at h
            · rename_i n q ts hz
              cases h
              obtain ⟨h1, h2⟩ := mapM_bounds _ _ hz
              simp only [List.length_cons] at h1
              refine ⟨⟨by simp [act5], by simp [act5], h2 n (by simp), h2 q (by simp), fun t ht => h2 t (by simp [show t ∈ ts from ht])⟩, Nat.zero_le _, by simp [act5], by show ts.length ≤ _; omega⟩
            · cases h
          · split at h
            · split at h
              · cases h; exact ⟨⟨by simp [act6], by simp [act6], by simp [act6], by simp [act6], by simp [act6]⟩, Nat.zero_le _, by simp [act6], by simp [act6]⟩
              · cases h
            · cases h
theorem goL_good {m : Nat} : ∀ (ls : List (List UInt8)) (n : Nat) (acc : List PAct), (∀ p ∈ ls, p.length + 1 ≤ m) → (∀ a ∈ acc, GoodA m a) → ∀ a ∈ (goL ls n acc).1, GoodA m a
  | [], n, acc, _, ha => ha
  | s :: t, n, acc, hl, ha => by
    unfold goL
    cases h : ofLine s with
    | none => intro a h; cases h
    | some A =>
      simp only
      split
      · intro a h; cases h
      · refine goL_good t (n + 1) (acc ++ [A]) (fun p hp => hl p (by simp [hp])) fun a h' => ?_
        rcases List.mem_append.1 h' with h' | h'
        · exact ha a h'
        · simp at h'
          subst h'
          have h1 := line_good h
          have h2 := hl s (by simp)
          exact ⟨h1.1, h1.2.1, h1.2.2.1, by have := h1.2.2.2; omega⟩
theorem cut_len (c : UInt8) : ∀ (l : List UInt8), ∀ p ∈ cutAt c l, p.length ≤ l.length
  | [], p, h => by
    simp [cutAt] at h
    subst h
    simp
  | x :: l, p, h => by
    have ih := cut_len c l
    unfold cutAt at h
    split at h
    · rcases List.mem_cons.1 h with rfl | h
      · simp
      · have := ih p h
        simp only [List.length_cons]
        omega
    · obtain ⟨q, r, hq⟩ := cutAt_cons c l
      rw [hq] at h ih
      rcases List.mem_cons.1 h with rfl | h
      · have := ih q (by simp)
        simp only [List.headD_cons, List.length_cons]
        omega
      · have := ih p (by simp at h ⊢; exact .inr h)
        simp only [List.length_cons]
        omega
theorem parse_good (l : List UInt8) : ∀ a ∈ (parseS l).1, GoodA 1048577 a := by
  unfold parseS
  split
  · intro a h; cases h
  · rename_i hl
    unfold goRest
    split
    · intro a h; cases h
    · refine goL_good _ _ _ (fun p hp => ?_) (fun a h => by cases h)
      have h1 := cut_len 10 (strip l) p hp
      have h2 : (strip l).length ≤ l.length := by
        unfold strip
        split
        · rw [List.length_dropLast]; omega
        · exact Nat.le_refl _
      omega
theorem goL_bad : ∀ (ls : List (List UInt8)) (n : Nat) (acc : List PAct), (goL ls n acc).2.1 ≠ 0 → (goL ls n acc).1 = []
  | [], n, acc, h => absurd rfl h
  | s :: t, n, acc, h => by
    unfold goL at h ⊢
    cases hs : ofLine s with
    | none => rfl
    | some A =>
      rw [hs] at h
      simp only at h ⊢
      split
      · rfl
      · rename_i hne
        rw [if_neg hne] at h
        exact goL_bad t _ _ h
theorem parse_bad (l : List UInt8) (h : (parseS l).2.1 ≠ 0) : (parseS l).1 = [] := by
  unfold parseS at h ⊢
  split
  · rfl
  · rename_i hl
    rw [if_neg hl] at h
    unfold goRest at h ⊢
    split
    · rfl
    · rename_i h0
      rw [if_neg h0] at h
      exact goL_bad _ _ _ h
theorem parse_cases (s : ByteArray) : ((parseS s.data.toList).2.1 ≠ 0 ∧ (parseS s.data.toList).1 = []) ∨ ((parseS s.data.toList).2.1 = 0 ∧ (script (parseS s.data.toList).1).length ≤ 1048577 ∧ (parseS s.data.toList).1.length ≤ 4096 ∧
    (((printS (parseS s.data.toList).1).2 = 1 ∧ s.size = 1048576) ∨ ((printS (parseS s.data.toList).1).2 = 0 ∧ ((printS (parseS s.data.toList).1).1 = s.data.toList ∨ (printS (parseS s.data.toList).1).1 = s.data.toList ++ [10])))) := by
  by_cases h : (parseS s.data.toList).2.1 = 0
  · right
    cases hp : parseS s.data.toList with
    | mk k em =>
    obtain ⟨e, m⟩ := em
    rw [hp] at h
    simp only at h ⊢
    subst h
    refine ⟨rfl, ?_, ?_, ?_⟩
    · unfold parseS at hp
      split at hp
      · cases hp
      · rename_i hl
        unfold goRest at hp
        split at hp
        · cases hp
          simp [script]
        · obtain ⟨t, hk, h2, h3, h4, h5⟩ := goL_back _ _ _ _ _ hp (by simp)
          rw [List.nil_append] at hk
          subst hk
          obtain ⟨p, r, hc⟩ := cutAt_cons 10 (strip s.data.toList)
          rw [script_lines, h2, hc, join_lines, ← hc, join_cut]
          have : (strip s.data.toList).length ≤ s.data.toList.length := by
            unfold strip
            split
            · rw [List.length_dropLast]; omega
            · exact Nat.le_refl _
          simp only [List.length_append, List.length_cons, List.length_nil]
          omega
    · unfold parseS at hp
      split at hp
      · cases hp
      · unfold goRest at hp
        split at hp
        · cases hp
          simp
        · obtain ⟨t, hk, h2, h3, h4, h5⟩ := goL_back _ _ _ _ _ hp (by simp)
          exact h5
    · rcases print_parse hp with ⟨t, h1, h2⟩ | ⟨h1, h2⟩
      · rw [h1]
        exact .inr ⟨rfl, h2⟩
      · rw [h1]
        exact .inl ⟨rfl, by simpa using h2⟩
  · exact .inl ⟨h, parse_bad _ h⟩
end Go.Scr

/-
  The place of a byte in a text; the letters of base64.
-/

namespace Go.Proofs.YtbfoocginkdmcaaGreatDoor
open Go Go.RowKit
def placeF (c : Nat) : List UInt8 → Nat → Int
  | [], _ => -1
  | x :: l, k => if x.toNat = c then k else placeF c l (k + 1)
theorem drop_at (s : ByteArray) (k : Nat) (h : k < s.size) : s.data.toList.drop k = s[k] :: s.data.toList.drop (k + 1) := by
  rw [List.drop_eq_getElem_cons (by simpa using h)]
  rfl
theorem place_calls (all : ByteArray) (hs : all.size ≤ 1000000) (c : Nat) (w : World) : Calls Tryz.prog 182 #[.string all, .int .u8 c] w fun e w' => e = .returned (.int .i64 (placeF c all.data.toList 0)) ∧ w' = w := by
  go_enter Tryz.func182, Tryz.ntmps182
  go_wp2
  go_loop [8] (fun n => ∃ k : Nat, k ≤ all.size ∧ n = .int .i64 k ∧ Hid (placeF c all.data.toList 0 = placeF c (all.data.toList.drop k) k)) (fun n => all.size - (intOf n).toNat)
  case atStart => exact ⟨0, by omega, rfl, rfl⟩
  case round =>
    obtain ⟨k, hk, rfl, hI⟩ := hrel
    by_cases hp : k < all.size
    · have hd := drop_at all k hp
      have hI' : placeF c all.data.toList 0 = placeF c (all.data.toList.drop k) k := hI
      rw [hd] at hI'
      simp only [placeF] at hI'
      by_cases he : all[k].toNat = c
      · have hb : (((all[k].toNat : Nat) : Int) == (c : Int)) = true := by rw [he]; simp
        rw [if_pos he] at hI'
        go_wp2
        go_ret
        first | exact ⟨rfl, rfl⟩ | (rw [hI']; exact ⟨rfl, rfl⟩)
      · have hb : (((all[k].toNat : Nat) : Int) == (c : Int)) = false := by
          rw [beq_eq_false_iff_ne]
          omega
        rw [if_neg he] at hI'
        go_wp2
        go_round
        case rel => exact ⟨k + 1, by omega, by go_num, hI'⟩
        case measure => simp only [intOf]; omega
    · have he : all.data.toList.drop k = [] := List.drop_eq_nil_of_le (by simpa using Nat.le_of_not_lt hp)
      have hI' : placeF c all.data.toList 0 = placeF c (all.data.toList.drop k) k := hI
      rw [he] at hI'
      simp only [placeF] at hI'
      go_wp2
      go_ret
      first | exact ⟨rfl, rfl⟩ | (rw [hI']; exact ⟨rfl, rfl⟩)
abbrev alphaB : ByteArray := { data := #[65, 66, 67, 68, 69, 70, 71, 72, 73, 74, 75, 76, 77, 78, 79, 80, 81, 82, 83, 84, 85, 86, 87, 88, 89, 90, 97, 98, 99, 100, 101, 102, 103, 104, 105, 106, 107, 108, 109, 110, 111, 112, 113, 114, 115, 116, 117, 118, 119, 120, 121, 122, 48, 49, 50, 51, 52, 53, 54, 55, 56, 57, 45, 95] }
def valZ (c : UInt8) : Int := match Scr.valU c with | some n => n | none => -1
theorem place_all : ∀ m, m < 256 → placeF m alphaB.data.toList 0 = valZ (UInt8.ofNat m) := by decide +kernel
theorem place_val (c : UInt8) : placeF c.toNat alphaB.data.toList 0 = valZ c := by
  have h := place_all c.toNat (UInt8.toNat_lt c)
  rw [UInt8.ofNat_toNat] at h
  exact h
end Go.Proofs.YtbfoocginkdmcaaGreatDoor

/-
  The letters' numbers, or the first letter that is none.
-/

set_option maxHeartbeats 1000000
namespace Go.Proofs.YtbfoocginkdmcaaGreatDoor
open Go Go.RowKit Go.Basic Go.Scr
abbrev ic (l : List Nat) : List Value := l.map fun n : Nat => Value.int .i64 (n : Int)
theorem vals_none {c : UInt8} {t : List UInt8} (h : valU c = none) : valsU (c :: t) = none := by
  unfold valsU
  rw [h]
theorem vals_some {c : UInt8} {n : Nat} {t : List UInt8} (h : valU c = some n) : valsU (c :: t) = (valsU t).map (n :: ·) := by
  conv => lhs; unfold valsU
  rw [h]
def ValOut (B : Nat) (s : ByteArray) (e : Ending) (w' : World) : Prop :=
  (65536 < s.size ∧ e = .returned (.tuple #[.slice none 0 0, .int .i64 1, .int .i64 0])) ∨
  (s.size ≤ 65536 ∧ valsU s.data.toList = none ∧ ∃ z : Int, e = .returned (.tuple #[.slice none 0 0, .int .i64 20, .int .i64 z])) ∨
  (s.size ≤ 65536 ∧ ∃ v val, valsU s.data.toList = some v ∧ e = .returned (.tuple #[val, .int .i64 0, .int .i64 0]) ∧ w'.ownsRow B 3 1 val v.length (ic v))
theorem values_calls (s : ByteArray) (hs : s.size ≤ 2000000) (w : World) :
    Calls Tryz.prog 118 #[.string alphaB, .string s] w fun e w' => ValOut w.heap.size s e w' ∧ Below w.heap.size w w' := by
  obtain ⟨i0, hi, hz0, hz1, hz2⟩ := info_parts inf3
  by_cases hlen : 65536 < s.size
  · have hlen' : (65536 : Int) < (s.size : Int) := by omega
    go_enter Tryz.func118, Tryz.ntmps118
    go_wp2
    go_ret3
    exact ⟨.inl ⟨hlen, rfl⟩, Below.refl _ _⟩
  · have hlen' : ¬ (65536 : Int) < (s.size : Int) := by omega
    have hle : s.size ≤ 65536 := by omega
    have hleI : (s.size : Int) ≤ 65536 := by omega
    go_enter Tryz.func118, Tryz.ntmps118
    go_wp2
    go_loopw [7, 15] (fun o i wr => ∃ (k : Nat) (v : List Nat), k ≤ s.size ∧ i = .int .i64 k ∧ Hid (valsU s.data.toList = (valsU (s.data.toList.drop k)).map (v ++ ·)) ∧ Hid (v.length = k) ∧ wr.ownsRow w.heap.size 3 1 o k (ic v) ∧ Below w.heap.size w wr) (fun _ i _ => s.size - (intOf i).toNat)
    case atStart => exact ⟨0, [], Nat.zero_le _, rfl, (by show _ = _; simp), rfl, World.ownsRow_nil _ _ _ _, Below.refl _ _⟩
    case round =>
      obtain ⟨k, v, hk, rfl, hI, hvl, hown, hbw⟩ := hrel
      by_cases hlt : k < s.size
      · have hlt' : (k : Int) < (s.size : Int) := by omega
        have hd := drop_at s k hlt
        have hI' : valsU s.data.toList = (valsU (s.data.toList.drop k)).map (v ++ ·) := hI
        rw [hd] at hI'
        have hp := fun W => place_calls alphaB (by decide) s[k].toNat W
        rw [place_val] at hp
        cases hv : valU s[k] with
        | none =>
          rw [vals_none hv] at hI'
          have hz : valZ s[k] = -1 := by unfold valZ; rw [hv]
          rw [hz] at hp
          have hh : Hid (valsU s.data.toList = none) := hI'
          clear hI' hI hd hv hz
          go_wp2_with (go_at_call 182; refine (hp _).mono ?_; clear hp; rintro e w1 ⟨rfl, rfl⟩)
          go_ret3
          exact ⟨.inr (.inl ⟨hle, hh, _, rfl⟩), hbw⟩
        | some n =>
          rw [vals_some hv, Option.map_map] at hI'
          have hn64 := (valU_inv hv).1
          have hz : valZ s[k] = (n : Int) := by unfold valZ; rw [hv]
          rw [hz] at hp
          have hI2 : Hid (valsU s.data.toList = (valsU (s.data.toList.drop (k + 1))).map ((v ++ [n]) ++ ·)) := by
            show _ = _
            rw [hI']
            congr 1
            funext x
            simp
          have hvl2 : Hid ((v ++ [n]).length = k + 1) := by
            show _ = _
            rw [List.length_append, show v.length = k from hvl]
            rfl
          clear hI' hI hd hv hz hvl
          go_wp2_with (first
            | (go_at_call 182; refine (hp _).mono ?_; clear hp; rintro e w1 ⟨rfl, rfl⟩)
            | (at_builtin; refine wpList_append_own _ rfl _ _ 32 rfl w.heap.size 3 i0 (.int .i64 0) 1 8 Tryz.underlying32 hi hz0 hz1 hz2 rfl (by decide) _ _ _ rfl (hown.alloc _) ⟨_, 0, none⟩ 1 1 [.int .i64 (n : Int)] rfl rfl (one_cell _ _ _) (by intro u hu; simp at hu; subst hu; rfl) (by unfold maxLen; omega) (by omega) (by have := hbw.size; simp; omega) ?_))
          intro v' w2 hown' hgrow _
          have hb2 := (hbw.alloc hbw.size (.cells #[.int .i64 (n : Int)] 3)).grown hgrow (by have := hbw.size; simp; omega) fun j hj => (hown.lt j hj).1
          have hown2 : w2.ownsRow w.heap.size 3 1 v' (k + 1) (ic (v ++ [n])) := by
            show w2.ownsRow w.heap.size 3 1 v' (k + 1) ((v ++ [n]).map _)
            rw [List.map_append]
            exact hown'
          clear hown' hgrow hown
          go_wp2
          go_roundw
          case rel => exact ⟨k + 1, v ++ [n], by omega, by go_num, hI2, hvl2, hown2, hb2⟩
          case measure => simp only [intOf]; omega
      · have hge : ¬ (k : Int) < (s.size : Int) := by omega
        obtain rfl : k = s.size := by omega
        have hI' : valsU s.data.toList = (valsU (s.data.toList.drop s.size)).map (v ++ ·) := hI
        rw [List.drop_eq_nil_of_le (by simp)] at hI'
        have hh : Hid (valsU s.data.toList = some v) := by
          show _ = _
          rw [hI']
          simp [valsU]
        have hvl' : v.length = s.size := hvl
        rw [← hvl'] at hown
        clear hI' hI
        have hvh : Hid (v.length = s.size) := hvl'
        clear hvl'
        go_wp2
        go_ret3
        exact ⟨.inr (.inr ⟨hle, v, _, hh, rfl, hown⟩), hbw⟩
end Go.Proofs.YtbfoocginkdmcaaGreatDoor

/-
  FromBase64 of any text.
-/

namespace Go.Proofs.YtbfoocginkdmcaaGreatDoor
open Go Go.RowKit Go.Basic Go.Scr
theorem bytes_step (x n h : Nat) (l : List Nat) (hh : h = 2 ∨ h = 4 ∨ h = 6) :
    bytesOf (x :: l) n h = (UInt8.ofNat ((n * 64 + x) / 2 ^ (h - 2)) :: (bytesOf l ((n * 64 + x) % 2 ^ (h - 2)) (h - 2)).1, (bytesOf l ((n * 64 + x) % 2 ^ (h - 2)) (h - 2)).2) := by
  rw [bytesOf_ge (by omega), show h + 6 - 8 = h - 2 from by omega]
theorem bytes_step0 (x : Nat) (l : List Nat) (n : Nat) : bytesOf (x :: l) n 0 = bytesOf l (n * 64 + x) 6 := bytesOf_lt (by omega)
theorem own_slc {w : World} {B : Nat} {e : TypeId} {v : Value} {n : Nat} {xs : List Value} (h : w.ownsRow B e 1 v n xs) : ∃ a c, v = .slice a n c := by
  rcases h.2 with ⟨h0, rfl⟩ | ⟨g, cap, cur, h0, _⟩
  · exact ⟨_, _, h0⟩
  · exact ⟨_, _, h0⟩
theorem values_ok (s : ByteArray) (v : List Nat) (hle : s.size ≤ 65536) (hv : valsU s.data.toList = some v) (w : World) :
    Calls Tryz.prog 118 #[.string alphaB, .string s] w fun e w' => ∃ val, e = .returned (.tuple #[val, .int .i64 0, .int .i64 0]) ∧ w'.ownsRow w.heap.size 3 1 val v.length (ic v) ∧ Below w.heap.size w w' := by
  refine (values_calls s (by omega) w).mono fun e w' ⟨h, hb⟩ => ?_
  rcases h with ⟨h, _⟩ | ⟨_, h, _⟩ | ⟨_, v', val, h, he, ho⟩
  · omega
  · rw [hv] at h; cases h
  · rw [hv] at h
    cases h
    exact ⟨val, he, ho, hb⟩
theorem values_long (s : ByteArray) (hle : 65536 < s.size) (hs : s.size ≤ 2000000) (w : World) :
    Calls Tryz.prog 118 #[.string alphaB, .string s] w fun e w' => e = .returned (.tuple #[.slice none 0 0, .int .i64 1, .int .i64 0]) ∧ Below w.heap.size w w' := by
  refine (values_calls s hs w).mono fun e w' ⟨h, hb⟩ => ?_
  rcases h with ⟨_, h⟩ | ⟨h, _⟩ | ⟨h, _⟩
  · exact ⟨h, hb⟩
  · omega
  · omega
theorem values_bad (s : ByteArray) (hle : s.size ≤ 65536) (hv : valsU s.data.toList = none) (w : World) :
    Calls Tryz.prog 118 #[.string alphaB, .string s] w fun e w' => ∃ z : Int, e = .returned (.tuple #[.slice none 0 0, .int .i64 20, .int .i64 z]) ∧ Below w.heap.size w w' := by
  refine (values_calls s (by omega) w).mono fun e w' ⟨h, hb⟩ => ?_
  rcases h with ⟨h, _⟩ | ⟨_, _, z, h⟩ | ⟨_, v', val, h, _⟩
  · omega
  · exact ⟨z, h, hb⟩
  · rw [hv] at h; cases h
theorem vals_length : ∀ (l : List UInt8) (v : List Nat), valsU l = some v → v.length = l.length ∧ ∀ x ∈ v, x < 64
  | [], v, h => by
    cases h
    exact ⟨rfl, fun x hx => by cases hx⟩
  | c :: t, v, h => by
    cases hc : valU c with
    | none => rw [vals_none hc] at h; cases h
    | some n =>
      rw [vals_some hc] at h
      cases ht : valsU t with
      | none => rw [ht] at h; cases h
      | some u =>
        rw [ht] at h
        cases h
        obtain ⟨h1, h2⟩ := vals_length t u ht
        refine ⟨by simp [h1], fun x hx => ?_⟩
        rcases List.mem_cons.1 hx with rfl | hx
        · exact (valU_inv hc).1
        · exact h2 x hx
def FbV (B : Nat) (w : World) (P : List UInt8) (R0 : Nat) (e : Ending) (w' : World) : Prop :=
  (R0 = 0 ∧ ∃ val, e = .returned (.tuple #[val, .int .i64 0, .int .i64 0]) ∧ w'.ownsRow B 5 1 val P.length (Lib.byteCells P) ∧ Below B w w') ∨
      (R0 ≠ 0 ∧ ∃ z1 z2 : Int, e = .returned (.tuple #[.slice none 0 0, .int .i64 z1, .int .i64 z2]) ∧ z1 ≠ 0 ∧ Below B w w')
theorem fb_vals (s : ByteArray) (v : List Nat) (P : List UInt8) (R0 : Nat) (hle : s.size ≤ 65536) (hv : valsU s.data.toList = some v) (hv4 : v.length % 4 ≠ 1) (hb : bytesOf v 0 0 = (P, R0)) (w : World) :
    Calls Tryz.prog 85 #[.string s] w (FbV w.heap.size w P R0) := by
  obtain ⟨i0, hi, hz0, hz1, hz2⟩ := info_parts inf5
  obtain ⟨hvl, hlt6⟩ := vals_length _ v hv
  have hsl : s.data.toList.length = s.size := by simp
  have hv6 : v.length ≤ 65536 := by omega
  have hv4' : ((v.length : Int) % 4 == 1) = false := by
    rw [beq_eq_false_iff_ne]
    omega
  have hv4'' : ¬ (v.length : Int) % 4 = 1 := by omega
  have hsI : (s.size : Int) ≤ 65536 := by omega
  have hbh : Hid (bytesOf v 0 0 = (P, R0)) := hb
  have hf := fun W => values_ok s v hle hv W
  clear hb hv4 hv hvl hsl
  go_enter Tryz.func85, Tryz.ntmps85
  go_wp2_with (go_at_call 118; refine (hf _).mono ?_; clear hf; rintro e w1 ⟨val, rfl, hown1, hb1⟩; (obtain ⟨a1, c1, rfl⟩ := own_slc hown1))
  go_wp2
  go_loopw [8, 9, 10, 31] (fun o n h i wr => ∃ (k m N H : Nat) (O : List UInt8), k ≤ v.length ∧ i = .int .i64 k ∧ n = .int .i64 N ∧ h = .int .i64 H ∧ (H = 0 ∨ H = 2 ∨ H = 4 ∨ H = 6) ∧ N < 2 ^ H ∧ m ≤ k ∧ Hid (m = O.length) ∧
      Hid (O ++ (bytesOf (v.drop k) N H).1 = P ∧ (bytesOf (v.drop k) N H).2 = R0) ∧ wr.ownsRow w1.heap.size 5 1 o m (Lib.byteCells O) ∧ Below w1.heap.size w1 wr) (fun _ _ _ i _ => v.length - (intOf i).toNat)
  case atStart => exact ⟨0, 0, 0, 0, [], Nat.zero_le _, rfl, rfl, rfl, Or.inl rfl, by decide, Nat.zero_le _, rfl, (by show _ ∧ _; rw [List.drop_zero, show _ = _ from hbh]; exact ⟨rfl, rfl⟩), World.ownsRow_nil _ _ _ _, Below.refl _ _⟩
  case round =>
    obtain ⟨k, m, N, H, O, hk, rfl, rfl, rfl, hH, hN, hmk, hm, hO, hown, hbw⟩ := hrel
    by_cases hlt : k < v.length
    · have hlt' : (k : Int) < (v.length : Int) := by omega
      obtain ⟨x, hx⟩ : ∃ x, x = v[k] := ⟨_, rfl⟩
      have hx64 : x < 64 := by rw [hx]; exact hlt6 _ (List.getElem_mem hlt)
      have hdr : v.drop k = x :: v.drop (k + 1) := by rw [hx]; exact List.drop_eq_getElem_cons hlt
      obtain ⟨g, cap, hsl, hg1, hg2, hcells⟩ := own_cells hown1 (by omega)
      cases hsl
      have hcx : wr.cell? ⟨g, k, none⟩ = some (.int .i64 (x : Int)) := (hbw.cell (by exact hg2)).trans (hcells k _ (by rw [List.getElem?_map, List.getElem?_eq_getElem hlt, hx]; rfl))
      clear hcells
      have hNs : N < 64 := by rcases hH with rfl | rfl | rfl | rfl <;> omega
      have hor := or_64 N x (by omega) hx64
      obtain ⟨M, hM⟩ : ∃ M, M = N * 64 + x := ⟨_, rfl⟩
      rw [← hM] at hor
      have hO1 : O ++ (bytesOf (v.drop k) N H).1 = P ∧ (bytesOf (v.drop k) N H).2 = R0 := hO
      rw [hdr] at hO1
      have hMs : M < 4096 := by omega
      clear hx hdr
      rcases hH with rfl | rfl | rfl | rfl
      · rw [bytes_step0, ← hM] at hO1
        have hM64 : M < 64 := by omega
        have hOh : Hid _ := hO1
        clear hO1 hO hM
        go_wp2
        go_roundw
        case rel => exact ⟨k + 1, m, M, 6, O, by omega, by go_num, rfl, rfl, by omega, hM64, by omega, hm, hOh, hown, hbw⟩
        case measure => simp only [intOf]; omega
      · rw [bytes_step _ _ _ _ (by omega), ← hM] at hO1
        obtain ⟨y, hy⟩ : ∃ y, y = UInt8.ofNat (M / 2 ^ (2 - 2)) := ⟨_, rfl⟩
        obtain ⟨R, hR⟩ : ∃ R, R = M % 2 ^ (2 - 2) := ⟨_, rfl⟩
        rw [← hy, ← hR] at hO1
        have hby : (M : Int) % 256 = (y.toNat : Int) := by
          rw [hy, UInt8.toNat_ofNat']
          simp only [Nat.reduceSub, Nat.reducePow]
          omega
        have hRl : R < 1 := by rw [hR]; exact Nat.mod_lt _ (by decide)
        have hand : bits .and .i64 (M : Int) 0 = (R : Int) := by
          have h := and_pow M 0 (by omega) (by omega)
          rw [show ((2 : Int) ^ 0 - 1) = 0 from by decide] at h
          rw [h, hR]
        have hOh : Hid _ := hO1
        clear hO1 hO hM hy hR
        go_wp2_with (at_builtin; refine wpList_append_own _ rfl _ _ 30 rfl w1.heap.size 5 i0 (.int .u8 0) 1 1 Tryz.underlying30 hi hz0 hz1 hz2 rfl (by decide) _ _ _ rfl (hown.alloc _) ⟨_, 0, none⟩ 1 1 [.int .u8 y.toNat] rfl rfl (one_cell _ _ _) (by intro u hu; simp at hu; subst hu; rfl) (by unfold maxLen; omega) (by omega) (by have := hbw.size; simp; omega) ?_)
        intro v' w2 hown' hgrow _
        have Q := own_push (m := [y]) hbw.size hown hbw hown' hgrow
        have hOl := show m = O.length from hm
        have hm2 : Hid (m + 1 = (O ++ [y]).length) := by
          show m + 1 = _
          rw [List.length_append, hOl]
          rfl
        have hO2 : Hid ((O ++ [y]) ++ (bytesOf (v.drop (k + 1)) R 0).1 = P ∧ (bytesOf (v.drop (k + 1)) R 0).2 = R0) := by
          have h := show _ ∧ _ from hOh
          refine ⟨?_, h.2⟩
          rw [← h.1, List.append_assoc]
          rfl
        clear hown' hgrow hown hOl hm hOh
        go_wp2
        go_roundw
        case rel => exact ⟨k + 1, m + 1, R, 0, O ++ [y], by omega, by go_num, rfl, rfl, by omega, hRl, by omega, hm2, hO2, Q.1, Q.2⟩
        case measure => simp only [intOf]; omega
      · rw [bytes_step _ _ _ _ (by omega), ← hM] at hO1
        obtain ⟨y, hy⟩ : ∃ y, y = UInt8.ofNat (M / 2 ^ (4 - 2)) := ⟨_, rfl⟩
        obtain ⟨R, hR⟩ : ∃ R, R = M % 2 ^ (4 - 2) := ⟨_, rfl⟩
        rw [← hy, ← hR] at hO1
        have hby : (M : Int) / 4 % 256 = (y.toNat : Int) := by
          rw [hy, UInt8.toNat_ofNat']
          simp only [Nat.reduceSub, Nat.reducePow]
          omega
        have hRl : R < 4 := by rw [hR]; exact Nat.mod_lt _ (by decide)
        have hand : bits .and .i64 (M : Int) 3 = (R : Int) := by
          have h := and_pow M 2 (by omega) (by omega)
          rw [show ((2 : Int) ^ 2 - 1) = 3 from by decide] at h
          rw [h, hR]
        have hOh : Hid _ := hO1
        clear hO1 hO hM hy hR
        go_wp2_with (at_builtin; refine wpList_append_own _ rfl _ _ 30 rfl w1.heap.size 5 i0 (.int .u8 0) 1 1 Tryz.underlying30 hi hz0 hz1 hz2 rfl (by decide) _ _ _ rfl (hown.alloc _) ⟨_, 0, none⟩ 1 1 [.int .u8 y.toNat] rfl rfl (one_cell _ _ _) (by intro u hu; simp at hu; subst hu; rfl) (by unfold maxLen; omega) (by omega) (by have := hbw.size; simp; omega) ?_)
        intro v' w2 hown' hgrow _
        have Q := own_push (m := [y]) hbw.size hown hbw hown' hgrow
        have hOl := show m = O.length from hm
        have hm2 : Hid (m + 1 = (O ++ [y]).length) := by
          show m + 1 = _
          rw [List.length_append, hOl]
          rfl
        have hO2 : Hid ((O ++ [y]) ++ (bytesOf (v.drop (k + 1)) R 2).1 = P ∧ (bytesOf (v.drop (k + 1)) R 2).2 = R0) := by
          have h := show _ ∧ _ from hOh
          refine ⟨?_, h.2⟩
          rw [← h.1, List.append_assoc]
          rfl
        clear hown' hgrow hown hOl hm hOh
        go_wp2
        go_roundw
        case rel => exact ⟨k + 1, m + 1, R, 2, O ++ [y], by omega, by go_num, rfl, rfl, by omega, hRl, by omega, hm2, hO2, Q.1, Q.2⟩
        case measure => simp only [intOf]; omega
      · rw [bytes_step _ _ _ _ (by omega), ← hM] at hO1
        obtain ⟨y, hy⟩ : ∃ y, y = UInt8.ofNat (M / 2 ^ (6 - 2)) := ⟨_, rfl⟩
        obtain ⟨R, hR⟩ : ∃ R, R = M % 2 ^ (6 - 2) := ⟨_, rfl⟩
        rw [← hy, ← hR] at hO1
        have hby : (M : Int) / 16 = (y.toNat : Int) := by
          rw [hy, UInt8.toNat_ofNat']
          simp only [Nat.reduceSub, Nat.reducePow]
          omega
        have hRl : R < 16 := by rw [hR]; exact Nat.mod_lt _ (by decide)
        have hand : bits .and .i64 (M : Int) 15 = (R : Int) := by
          have h := and_pow M 4 (by omega) (by omega)
          rw [show ((2 : Int) ^ 4 - 1) = 15 from by decide] at h
          rw [h, hR]
        have hOh : Hid _ := hO1
        clear hO1 hO hM hy hR
        go_wp2_with (at_builtin; refine wpList_append_own _ rfl _ _ 30 rfl w1.heap.size 5 i0 (.int .u8 0) 1 1 Tryz.underlying30 hi hz0 hz1 hz2 rfl (by decide) _ _ _ rfl (hown.alloc _) ⟨_, 0, none⟩ 1 1 [.int .u8 y.toNat] rfl rfl (one_cell _ _ _) (by intro u hu; simp at hu; subst hu; rfl) (by unfold maxLen; omega) (by omega) (by have := hbw.size; simp; omega) ?_)
        intro v' w2 hown' hgrow _
        have Q := own_push (m := [y]) hbw.size hown hbw hown' hgrow
        have hOl := show m = O.length from hm
        have hm2 : Hid (m + 1 = (O ++ [y]).length) := by
          show m + 1 = _
          rw [List.length_append, hOl]
          rfl
        have hO2 : Hid ((O ++ [y]) ++ (bytesOf (v.drop (k + 1)) R 4).1 = P ∧ (bytesOf (v.drop (k + 1)) R 4).2 = R0) := by
          have h := show _ ∧ _ from hOh
          refine ⟨?_, h.2⟩
          rw [← h.1, List.append_assoc]
          rfl
        clear hown' hgrow hown hOl hm hOh
        go_wp2
        go_roundw
        case rel => exact ⟨k + 1, m + 1, R, 4, O ++ [y], by omega, by go_num, rfl, rfl, by omega, hRl, by omega, hm2, hO2, Q.1, Q.2⟩
        case measure => simp only [intOf]; omega
    · have hge : ¬ (k : Int) < (v.length : Int) := by omega
      obtain rfl : k = v.length := by omega
      have hO1 : O ++ (bytesOf (v.drop v.length) N H).1 = P ∧ (bytesOf (v.drop v.length) N H).2 = R0 := hO
      rw [List.drop_length] at hO1
      simp only [bytesOf, List.append_nil] at hO1
      obtain ⟨rfl, rfl⟩ := hO1
      have hm' := show m = O.length from hm
      rw [hm'] at hown
      clear hm'
      have hb9 : Below w.heap.size w wr := hb1.trans (hbw.mono hb1.size)
      by_cases hN0 : N = 0
      · subst hN0
        go_wp2
        go_ret3
        unfold FbV
        exact .inl ⟨rfl, _, rfl, own_mono hown hb1.size, hb9⟩
      · have h1 : ¬ (N : Int) = 0 := by omega
        have h2 : ((N : Int) == 0) = false := by simpa using hN0
        go_wp2
        go_ret3
        unfold FbV
        exact .inr ⟨hN0, _, _, rfl, by decide, hb9⟩
def FbOut (B : Nat) (l : List UInt8) (e : Ending) (w' : World) : Prop :=
  (dec64 l = none ∧ ∃ z1 z2 : Int, e = .returned (.tuple #[.slice none 0 0, .int .i64 z1, .int .i64 z2]) ∧ z1 ≠ 0) ∨
  (∃ p val, dec64 l = some p ∧ e = .returned (.tuple #[val, .int .i64 0, .int .i64 0]) ∧ w'.ownsRow B 5 1 val p.length (Lib.byteCells p))
theorem fromBase64_calls (s : ByteArray) (hs : s.size ≤ 2000000) (w : World) :
    Calls Tryz.prog 85 #[.string s] w fun e w' => FbOut w.heap.size s.data.toList e w' ∧ Below w.heap.size w w' := by
  have hsl : s.data.toList.length = s.size := by simp
  by_cases hlen : 65536 < s.size
  · have hf := fun W => values_long s hlen hs W
    have hd : dec64 s.data.toList = none := by
      unfold dec64
      rw [if_pos (by omega)]
    go_enter Tryz.func85, Tryz.ntmps85
    go_wp2_with (go_at_call 118; refine (hf _).mono ?_; clear hf; rintro e w1 ⟨rfl, hb1⟩)
    go_ret3
    exact ⟨.inl ⟨hd, _, _, rfl, by decide⟩, hb1⟩
  · have hle : s.size ≤ 65536 := by omega
    cases hv : valsU s.data.toList with
    | none =>
      have hf := fun W => values_bad s hle hv W
      have hd : dec64 s.data.toList = none := by
        unfold dec64
        rw [if_neg (by omega), hv]
      clear hv
      go_enter Tryz.func85, Tryz.ntmps85
      go_wp2_with (go_at_call 118; refine (hf _).mono ?_; clear hf; rintro e w1 ⟨z, rfl, hb1⟩)
      go_ret3
      exact ⟨.inl ⟨hd, _, _, rfl, by decide⟩, hb1⟩
    | some v =>
      by_cases hv4 : v.length % 4 = 1
      · have hf := fun W => values_ok s v hle hv W
        have hd : dec64 s.data.toList = none := by
          unfold dec64
          rw [if_neg (by omega), hv]
          simp only
          rw [if_pos hv4]
        have hv4' : ((v.length : Int) % 4 == 1) = true := by
          rw [beq_iff_eq]
          omega
        have hv4'' : (v.length : Int) % 4 = 1 := by omega
        have hvl := (vals_length _ v hv).1
        have hv6 : v.length ≤ 65536 := by omega
        clear hv hvl hv4
        go_enter Tryz.func85, Tryz.ntmps85
        go_wp2_with (go_at_call 118; refine (hf _).mono ?_; clear hf; rintro e w1 ⟨val, rfl, hown1, hb1⟩; (obtain ⟨a1, c1, rfl⟩ := own_slc hown1))
        go_ret3
        exact ⟨.inl ⟨hd, _, _, rfl, by decide⟩, hb1⟩
      · obtain ⟨P, R0, hb⟩ : ∃ P R0, bytesOf v 0 0 = (P, R0) := ⟨_, _, rfl⟩
        refine (fb_vals s v P R0 hle hv hv4 hb w).mono fun e w' h => ?_
        rcases h with ⟨h0, val, he, ho, hb2⟩ | ⟨h0, z1, z2, he, h1, hb2⟩
        · refine ⟨.inr ⟨P, val, ?_, he, ho⟩, hb2⟩
          unfold dec64
          rw [if_neg (by omega), hv]
          simp only
          rw [if_neg hv4, hb]
          simp [h0]
        · refine ⟨.inl ⟨?_, z1, z2, he, h1⟩, hb2⟩
          unfold dec64
          rw [if_neg (by omega), hv]
          simp only
          rw [if_neg hv4, hb]
          simp [h0]
end Go.Proofs.YtbfoocginkdmcaaGreatDoor

/-
  The server's reader of a line: its next word.
-/

namespace Go.Proofs.YtbfoocginkdmcaaGreatDoor
open Go Go.RowKit Go.ArgS
def Rd (w : World) (b g : Nat) (ws : List ByteArray) (bad : Bool) : Prop :=
  ∃ o, Box w b [.slice (some ⟨g, o, none⟩) ws.length ws.length, .bool bad] ∧ g ≠ b ∧ g < w.heap.size ∧ ∀ (j : Nat) x, ws[j]? = some x → w.cell? ⟨g, o + j, none⟩ = some (.string x)
theorem Rd.of_block {w w' : World} {b g : Nat} {ws : List ByteArray} {bad : Bool} (h : Rd w b g ws bad) (hs : w.heap.size ≤ w'.heap.size) (hb : w'.heap[b]? = w.heap[b]?) (hg : w'.heap[g]? = w.heap[g]?) : Rd w' b g ws bad := by
  obtain ⟨o, h1, h2, h3, h4⟩ := h
  exact ⟨o, h1.of_block (Nat.lt_of_lt_of_le h1.1 hs) hb, h2, Nat.lt_of_lt_of_le h3 hs, fun j x hj => (World.cell?_of_block (a := ⟨g, o + j, none⟩) hg).trans (h4 j x hj)⟩
theorem Rd.lt {w : World} {b g : Nat} {ws : List ByteArray} {bad : Bool} (h : Rd w b g ws bad) : b < w.heap.size ∧ g < w.heap.size ∧ g ≠ b := by
  obtain ⟨o, h1, h2, h3, h4⟩ := h
  exact ⟨h1.1, h3, h2⟩
theorem Rd.below {w w' : World} {b g : Nat} {ws : List ByteArray} {bad : Bool} (h : Rd w b g ws bad) (hb : Below w.heap.size w w') : Rd w' b g ws bad :=
  h.of_block hb.size (hb.block _ h.lt.1) (hb.block _ h.lt.2.1)
theorem grown_of_below {w w' : World} (row : Option Nat) (h : Below w.heap.size w w') : w.grownBy w' row := ⟨h.os, h.tape, h.output, h.size, fun k hk _ => h.block k hk⟩
theorem grown_trans {w w1 w2 : World} {row : Option Nat} (h : w.grownBy w1 row) (h' : w1.grownBy w2 row) : w.grownBy w2 row :=
  ⟨h'.os.trans h.os, h'.tape.trans h.tape, h'.output.trans h.output, Nat.le_trans h.size h'.size, fun k hk hne => (h'.block k (Nat.lt_of_lt_of_le hk h.size) hne).trans (h.block k hk hne)⟩
theorem grown_refl (w : World) (row : Option Nat) : w.grownBy w row := ⟨rfl, rfl, rfl, Nat.le_refl _, fun _ _ _ => rfl⟩
theorem grown_set (w : World) (b j : Nat) (v : Value) : w.grownBy (w.setCell ⟨b, j, none⟩ v) (some b) :=
  ⟨rfl, rfl, rfl, by simp [World.setCell], fun k hk hne => Below.heap_setCell w _ v k (by intro e; exact hne (by rw [e]))⟩
theorem Rd.spoil {w : World} {b g : Nat} {ws : List ByteArray} {bad : Bool} (h : Rd w b g ws bad) : Rd (w.setCell ⟨b, 1, none⟩ (.bool true)) b g ws true := by
  obtain ⟨o, h1, h2, h3, h4⟩ := h
  refine ⟨o, h1.set 1 _ (by simp), h2, by simp [World.setCell]; exact h3, fun j x hj => ?_⟩
  rw [World.cell?_setCell_other _ _ _ _ (by simp)]
  exact h4 j x hj
theorem word_nil (b g : Nat) (bad : Bool) (w : World) (h : Rd w b g [] bad) :
    Calls Tryz.prog 48 #[.pointer (some ⟨b, 0, none⟩)] w fun e w' => e = .returned (.string ⟨#[]⟩) ∧ Rd w' b g [] true ∧ w.grownBy w' (some b) := by
  have hS := h.spoil
  obtain ⟨o, hB, hgb, hg, hc⟩ := h
  have c0 := hB.at 0 rfl
  have c1 := hB.at 1 rfl
  have f1 := hB.2.2 1
  simp only [List.length_nil] at c0
  go_enter Tryz.func48, Tryz.ntmps48
  go_wp2
  go_ret
  exact ⟨rfl, hS, grown_set _ _ _ _⟩
theorem word_cons (b g : Nat) (x : ByteArray) (r : List ByteArray) (bad : Bool) (w : World) (h : Rd w b g (x :: r) bad) (hl : r.length ≤ 100000000) :
    Calls Tryz.prog 48 #[.pointer (some ⟨b, 0, none⟩)] w fun e w' => e = .returned (.string x) ∧ Rd w' b g r bad ∧ w.grownBy w' (some b) := by
  obtain ⟨o, hB, hgb, hg, hc⟩ := h
  obtain ⟨m, hm⟩ : ∃ m, m = (x :: r).length := ⟨_, rfl⟩
  rw [← hm] at hB
  rw [List.length_cons] at hm
  have c0 := hB.at 0 rfl
  have c1 := hB.at 1 rfl
  have f0 := hB.2.2 0
  have cx := hc 0 x rfl
  rw [Nat.add_zero] at cx
  have m0 : ¬ (m : Int) = 0 := by omega
  have m1 : (0 : Int) < (m : Int) := by omega
  have m2 : (1 : Int) ≤ (m : Int) := by omega
  have m3 : m - 1 = r.length := by omega
  have hnext : ∀ o', (∀ (j : Nat) y, r[j]? = some y → w.cell? ⟨g, o' + j, none⟩ = some (.string y)) → Rd (w.setCell ⟨b, 0, none⟩ (.slice (some ⟨g, o', none⟩) (m - 1) (m - 1))) b g r bad := by
    intro o' ho
    refine ⟨o', ?_, hgb, by simp [World.setCell]; exact hg, fun j y hj => ?_⟩
    · have := hB.set 0 (.slice (some ⟨g, o', none⟩) (m - 1) (m - 1)) (by simp)
      rw [m3] at this ⊢
      exact this
    · rw [World.cell?_setCell_other _ _ _ _ (by simp)]
      exact ho j y hj
  have hc1 : ∀ (j : Nat) y, r[j]? = some y → w.cell? ⟨g, o + 1 + j, none⟩ = some (.string y) := by
    intro j y hj
    have := hc (j + 1) y (by simpa using hj)
    rw [show o + 1 + j = o + (j + 1) from by omega]
    exact this
  by_cases h1 : m = 1
  · have hr : r = [] := List.length_eq_zero_iff.1 (by omega)
    have hN := hnext o (fun j y hj => by rw [hr] at hj; simp at hj)
    subst h1
    clear hnext hc hc1 hm m0 m1 m2 m3 hr hB
    go_enter Tryz.func48, Tryz.ntmps48
    go_wp2
    go_ret
    exact ⟨rfl, hN, grown_set _ _ _ _⟩
  · have hN := hnext (o + 1) hc1
    have m4 : ¬ m - 1 = 0 := by omega
    clear hnext hc hc1 hm m3 hB
    go_enter Tryz.func48, Tryz.ntmps48
    go_wp2
    go_ret
    exact ⟨rfl, hN, grown_set _ _ _ _⟩
end Go.Proofs.YtbfoocginkdmcaaGreatDoor

/-
  The server's reader of a line: its next word as bytes.
-/

set_option maxHeartbeats 2000000
namespace Go.Proofs.YtbfoocginkdmcaaGreatDoor
open Go Go.RowKit Go.ArgS Go.Basic Go.Scr
theorem bytesOf_len : ∀ (v : List Nat) (n h : Nat), (bytesOf v n h).1.length ≤ v.length
  | [], n, h => by simp [bytesOf]
  | x :: l, n, h => by
    by_cases hh : 8 ≤ h + 6
    · rw [bytesOf_ge hh]
      have := bytesOf_len l ((n * 64 + x) % 2 ^ (h + 6 - 8)) (h + 6 - 8)
      simp only [List.length_cons]
      omega
    · rw [bytesOf_lt hh]
      have := bytesOf_len l (n * 64 + x) (h + 6)
      simp only [List.length_cons]
      omega
theorem dec64_len {l p : List UInt8} (h : dec64 l = some p) : p.length ≤ l.length ∧ p.length ≤ 65536 := by
  unfold dec64 at h
  split at h
  · cases h
  · split at h
    · cases h
    · rename_i v hv
      split at h
      · cases h
      · split at h
        · cases h
        · injection h with h
          subst h
          have h1 := bytesOf_len v 0 0
          have h2 := (vals_length _ v hv).1
          omega
theorem dec64_nil : dec64 [] = some [] := by
  unfold dec64
  rfl
theorem fb_none (s : ByteArray) (hs : s.size ≤ 2000000) (hd : dec64 s.data.toList = none) (w : World) :
    Calls Tryz.prog 85 #[.string s] w fun e w' => ∃ z1 z2 : Int, e = .returned (.tuple #[.slice none 0 0, .int .i64 z1, .int .i64 z2]) ∧ z1 ≠ 0 ∧ Below w.heap.size w w' := by
  refine (fromBase64_calls s hs w).mono fun e w' ⟨h, hb⟩ => ?_
  rcases h with ⟨_, z1, z2, h1, h2⟩ | ⟨p, val, h, _⟩
  · exact ⟨z1, z2, h1, h2, hb⟩
  · rw [hd] at h; cases h
theorem byteCells_eq (p : List UInt8) : Lib.byteCells p = (p.map fun b => (b.toNat : Int)).map (Value.int .u8) := by
  simp [Lib.byteCells]
def OwnS (w : World) (B : Nat) (k : IntKind) (v : Value) (zs : List Int) : Prop := w.ownsRow B (match k with | .u8 => 5 | _ => 3) 1 v zs.length (zs.map (Value.int k))
theorem OwnS.of_bytes {w : World} {B : Nat} {v : Value} {p : List UInt8} (h : w.ownsRow B 5 1 v p.length (Lib.byteCells p)) : OwnS w B .u8 v (p.map fun b => (b.toNat : Int)) := by
  show w.ownsRow B 5 1 v _ _
  rw [byteCells_eq] at h
  rw [List.length_map]
  exact h
theorem OwnS.nil (w : World) (B : Nat) (k : IntKind) : OwnS w B k (.slice none 0 0) [] := World.ownsRow_nil _ _ _ _
theorem own_keptb' {w w' : World} {B : Nat} {e : TypeId} {v : Value} {n : Nat} {xs : List Value} {row : Option Nat} (h : w.ownsRow B e 1 v n xs) (g : w.grownBy w' row) (hb : ∀ k, row = some k → k < B) : w'.ownsRow B e 1 v n xs :=
  h.kept (row := row) g (by
    cases h9 : v.ownBlock with
    | none => exact .inl rfl
    | some k => exact .inr (by have := (h.lt k h9).1; intro e; have := hb k e.symm; omega))
theorem OwnS.mono {w : World} {B B' : Nat} {k : IntKind} {v : Value} {zs : List Int} (h : OwnS w B k v zs) (hb : B' ≤ B) : OwnS w B' k v zs := own_mono h hb
theorem OwnS.below {w w' : World} {B : Nat} {k : IntKind} {v : Value} {zs : List Int} (h : OwnS w B k v zs) (hb : Below w.heap.size w w') : OwnS w' B k v zs :=
  own_keptb' (row := none) h (grown_of_below none hb) (fun k e => by cases e)
theorem OwnS.is {w : World} {B : Nat} {k : IntKind} {v : Value} {zs : List Int} (h : OwnS w B k v zs) : IsSl w k v zs := IsSl.of_own rfl h
theorem OwnS.new {w : World} {B : Nat} {k : IntKind} {v : Value} {zs : List Int} (h : OwnS w B k v zs) : OwnSl w B k v zs := OwnSl.of_own rfl h
theorem fb_some (s : ByteArray) (p : List UInt8) (hs : s.size ≤ 2000000) (hd : dec64 s.data.toList = some p) (w : World) :
    Calls Tryz.prog 85 #[.string s] w fun e w' => ∃ a c, e = .returned (.tuple #[.slice a p.length c, .int .i64 0, .int .i64 0]) ∧ OwnS w' w.heap.size .u8 (.slice a p.length c) (p.map fun b => (b.toNat : Int)) ∧ Below w.heap.size w w' := by
  refine (fromBase64_calls s hs w).mono fun e w' ⟨h, hb⟩ => ?_
  rcases h with ⟨h, _⟩ | ⟨p', val, h, h1, h2⟩
  · rw [hd] at h; cases h
  · rw [hd] at h
    cases h
    obtain ⟨a, c, rfl⟩ := own_slc h2
    exact ⟨a, c, h1, OwnS.of_bytes h2, hb⟩
theorem fb_empty (s : ByteArray) (hs : s.size ≤ 2000000) (hd : dec64 s.data.toList = some []) (w : World) :
    Calls Tryz.prog 85 #[.string s] w fun e w' => ∃ a c, e = .returned (.tuple #[.slice a 0 c, .int .i64 0, .int .i64 0]) ∧ OwnS w' w.heap.size .u8 (.slice a 0 c) [] ∧ Below w.heap.size w w' := fb_some s [] hs hd w
def BytesOut (w : World) (b g : Nat) (ws : List ByteArray) (bad : Bool) (e : Ending) (w' : World) : Prop :=
  ∃ a c, ∃ p : List UInt8, e = .returned (.slice a p.length c) ∧ OwnS w' w.heap.size .u8 (.slice a p.length c) (p.map fun b => (b.toNat : Int)) ∧ p.length ≤ 65536 ∧ w.grownBy w' (some b) ∧
    match ws with
    | [] => Rd w' b g [] true
    | x :: r => match wordOf x.data.toList with
      | none => Rd w' b g r true
      | some q => p = q ∧ Rd w' b g r bad
theorem grown_set' {w w1 : World} {b : Nat} (h : w.grownBy w1 (some b)) (j : Nat) (v : Value) : w.grownBy (w1.setCell ⟨b, j, none⟩ v) (some b) := grown_trans h (grown_set w1 b j v)
theorem own_spoil {w : World} {B b j : Nat} {k : IntKind} {v u : Value} {zs : List Int} (h : OwnS w B k v zs) (hb : b < B) : OwnS (w.setCell ⟨b, j, none⟩ u) B k v zs := own_keptb' h (grown_set w b j u) (fun k e => by cases e; exact hb)
theorem data_dash {x : ByteArray} : x.data.toList = [45] ↔ x = ⟨#[45]⟩ := by
  constructor
  · intro h
    cases x with
    | mk d =>
      congr
      exact Array.toList_inj.1 h
  · intro h
    subst h
    rfl
theorem bytes_nil (b g : Nat) (bad : Bool) (w : World) (h : Rd w b g [] bad) :
    Calls Tryz.prog 49 #[.pointer (some ⟨b, 0, none⟩)] w (BytesOut w b g [] bad) := by
  have hw := word_nil b g bad w h
  have hlt := h.lt
  go_enter Tryz.func49, Tryz.ntmps49
  go_wp2_with (first
    | (go_at_call 48; refine hw.mono ?_; clear hw; rintro e w1 ⟨rfl, hR, hg⟩)
    | (go_at_call 85; refine (fb_empty ⟨#[]⟩ (by decide) dec64_nil w1).mono ?_; rintro e w2 ⟨a, c, rfl, ho, hb⟩; (have hR2 := hR.below hb); (have hS := hR2.spoil); (have g2 := grown_trans hg (grown_of_below (some b) hb)); (have ho2 := own_spoil (j := 1) (u := .bool true) (ho.mono hg.size) hlt.1); (have g3 := grown_set' g2 1 (.bool true)); (obtain ⟨o, hB, _⟩ := hR2); (have c1 := hB.at 1 rfl); (have f1 := hB.2.2 1); clear hB))
  go_ret
  exact ⟨a, c, [], rfl, ho2, by simp, g3, hS⟩
theorem bytes_cons (b g : Nat) (x : ByteArray) (r : List ByteArray) (bad : Bool) (w : World) (h : Rd w b g (x :: r) bad) (hl : r.length ≤ 100000000) (hx : x.size ≤ 2000000) :
    Calls Tryz.prog 49 #[.pointer (some ⟨b, 0, none⟩)] w (BytesOut w b g (x :: r) bad) := by
  have hw := word_cons b g x r bad w h hl
  have hlt := h.lt
  by_cases hd : x = ⟨#[45]⟩
  · subst hd
    go_enter Tryz.func49, Tryz.ntmps49
    go_wp2_with (go_at_call 48; refine hw.mono ?_; clear hw; rintro e w1 ⟨rfl, hR, hg⟩)
    go_ret
    refine ⟨none, 0, [], rfl, OwnS.nil _ _ _, by simp, hg, ?_⟩
    have e1 : wordOf (⟨#[45]⟩ : ByteArray).data.toList = some [] := rfl
    simp only [e1]
    exact ⟨trivial, hR⟩
  · have hwd : wordOf x.data.toList = match dec64 x.data.toList with | some b => if b = [] then none else some b | none => none := by
      unfold wordOf
      rw [if_neg (fun e => hd (data_dash.1 e))]
      all_goals (cases dec64 x.data.toList <;> rfl)
    have hd1 : (x.toList == [45]) = false := by
      rw [ByteArray.toList_eq, beq_eq_false_iff_ne]
      exact fun e => hd (data_dash.1 e)
    cases hq : dec64 x.data.toList with
    | none =>
      rw [hq] at hwd
      have hwn : wordOf x.data.toList = none := hwd
      have hf := fun W => fb_none x hx hq W
      clear hwd hq h
      go_enter Tryz.func49, Tryz.ntmps49
      go_wp2_with (first
        | (go_at_call 48; refine hw.mono ?_; clear hw; rintro e w1 ⟨rfl, hR, hg⟩)
        | (go_at_call 85; refine (hf _).mono ?_; clear hf; rintro e w2 ⟨z1, z2, rfl, hz, hb⟩; (have hz' : (z1 != 0) = true := by simpa using hz); (have hR2 := hR.below hb); (have hS := hR2.spoil); (have g2 := grown_trans hg (grown_of_below (some b) hb)); (have g3 := grown_set' g2 1 (.bool true)); (obtain ⟨o, hB, _⟩ := hR2); (have c1 := hB.at 1 rfl); (have f1 := hB.2.2 1); clear hB))
      go_ret
      refine ⟨none, 0, [], rfl, OwnS.nil _ _ _, by simp, g3, ?_⟩
      simp only [hwn]
      exact hS
    | some p =>
      rw [hq] at hwd
      have hp6 := (dec64_len hq).2
      by_cases hp : p = []
      · subst hp
        have hwn : wordOf x.data.toList = none := hwd
        have hf := fun W => fb_empty x hx hq W
        clear hwd hq h
        go_enter Tryz.func49, Tryz.ntmps49
        go_wp2_with (first
          | (go_at_call 48; refine hw.mono ?_; clear hw; rintro e w1 ⟨rfl, hR, hg⟩)
          | (go_at_call 85; refine (hf _).mono ?_; clear hf; rintro e w2 ⟨a, c, rfl, ho, hb⟩; (have hR2 := hR.below hb); (have hS := hR2.spoil); (have g2 := grown_trans hg (grown_of_below (some b) hb)); (have ho2 := own_spoil (j := 1) (u := .bool true) (ho.mono hg.size) hlt.1); (have g3 := grown_set' g2 1 (.bool true)); (obtain ⟨o, hB, _⟩ := hR2); (have c1 := hB.at 1 rfl); (have f1 := hB.2.2 1); clear hB))
        go_ret
        refine ⟨a, c, [], rfl, ho2, by simp, g3, ?_⟩
        simp only [hwn]
        exact hS
      · have hwn : wordOf x.data.toList = some p := by
          rw [hwd]
          simp only
          rw [if_neg hp]
        have hf := fun W => fb_some x p hx hq W
        have hp0 : p.length ≠ 0 := fun e => hp (List.length_eq_zero_iff.1 e)
        obtain ⟨n, hn⟩ : ∃ n, n = p.length := ⟨_, rfl⟩
        rw [← hn] at hf hp0 hp6
        have hn0 : ¬ (n : Int) = 0 := by omega
        have hnh : Hid (n = p.length) := hn
        have hph : Hid (wordOf x.data.toList = some p) := hwn
        clear hwd hq h hn hwn hp
        go_enter Tryz.func49, Tryz.ntmps49
        go_wp2_with (first
          | (go_at_call 48; refine hw.mono ?_; clear hw; rintro e w1 ⟨rfl, hR, hg⟩)
          | (go_at_call 85; refine (hf _).mono ?_; clear hf; rintro e w2 ⟨a, c, rfl, ho, hb⟩; (have hR2 := hR.below hb); (have g2 := grown_trans hg (grown_of_below (some b) hb)); (have ho2 := ho.mono hg.size); clear hR hg hb))
        go_ret
        have hn' := show n = p.length from hnh
        subst hn'
        refine ⟨a, c, p, rfl, ho2, hp6, g2, ?_⟩
        simp only [show wordOf x.data.toList = some p from hph]
        exact ⟨trivial, hR2⟩
end Go.Proofs.YtbfoocginkdmcaaGreatDoor
