/-
  The place of a text in a text, as numbers: what the shelf's contract for the search gives.
-/
import Derived.Test.YtdjaccnocaffjaaGreatDoorEvY
import Derived.Below
import Derived.Lib.IndexLaws
import Derived.Lib.Join
import Derived.Test.YtdjaccnocaffjaaGreatDoorEvA
import GoSem.ClaimFn
import GoSem.Claims
import Derived.Lay
set_option linter.unusedVariables false
set_option linter.unusedSimpArgs false
namespace Go.Ev
open Go.RowKit
noncomputable section

def isTrue : Option (Bool × AV × Mem) → Bool
  | some (true, .bool true, _) => true
  | _ => false

theorem isTrue_iff {x : Option (Bool × AV × Mem)} (h : isTrue x = true) : ∃ m, x = some (true, .bool true, m) := by
  unfold isTrue at h
  split at h
  · exact ⟨_, rfl⟩
  · cases h

theorem RelH.start {G : Nat → Nat} {w : World} : RelH G w (fun _ => none) .leaf .h w where
  obj p o h := by simp [T.get_leaf] at h
  inj p q o o' b κ κ' h := by simp [T.get_leaf] at h
  fresh _ _ := rfl
  low _ _ := rfl
  os := rfl
  tape := rfl
  output := rfl
  size := Nat.le_refl _

/-- A closed run that answers true. -/
theorem closed_run {C : Cx} {G : Nat → Nat} {w : World} (ok : C.Fine G w) {kn : Kn} (hs : KnOK G w C.P kn) {tab : List Ent} (ht : TabOK G w C.P tab) {rounds d f : Nat} (h : isTrue ((evCall C kn tab rounds d).fn f [] ⟨.leaf, .h⟩) = true) :
    Calls C.P f #[] w fun e w' => e = .returned (.bool true) ∧ Below w.heap.size w w' := by
  obtain ⟨m, hm⟩ := isTrue_iff h
  refine ((evCall_ok ok hs ht d).ret f [] ⟨.leaf, .h⟩ _ m hm _ w [] rfl RelH.start).mono fun e w' ⟨ρ', x, he, hx, hr, hf⟩ => ?_
  simp only [den, Option.some.injEq] at hx
  subst hx
  exact ⟨he, ⟨hr.os, hr.tape, hr.output, hr.size, hr.low⟩⟩
end
end Go.Ev

set_option linter.unusedVariables false
namespace Go.Ev
open Go Go.RowKit
noncomputable section

/-- Where does the text of m bytes c (below 256 ^ m) begin in the text of n bytes b? -/
def idxN (m q c : Nat) : Nat → Nat → Nat → Option Nat
  | 0, _, i => bif Nat.beq m 0 then some i else none
  | n + 1, b, i => bif Nat.beq (Nat.mod b q) c then (bif Nat.ble m (Nat.succ n) then some i else none) else idxN m q c n (Nat.div b 256) (Nat.succ i)

def idxI : Option Nat → Int
  | some i => .ofNat i
  | none => .negSucc 0

theorem pre_bytes (m c n b : Nat) : (bytesL m c).isPrefixOf (bytesL n b) = decide (m ≤ n ∧ b % 256 ^ m = c % 256 ^ m) := by
  rw [Bool.eq_iff_iff, List.isPrefixOf_iff_prefix, decide_eq_true_iff, List.prefix_iff_eq_take, length_bytesL]
  constructor
  · intro h
    have hl : m ≤ n := by
      have := congrArg List.length h
      simp at this
      omega
    rw [bytesL_take _ _ _ hl] at h
    exact ⟨hl, ((bytesL_inj _ _ _).1 h).symm⟩
  · intro ⟨hl, h⟩
    rw [bytesL_take _ _ _ hl]
    exact (bytesL_inj _ _ _).2 h.symm

theorem idxN_ok (m c : Nat) : ∀ (n b i : Nat), idxN m (256 ^ m) (c % 256 ^ m) n b i = (match Lib.index (bytesL n b) (bytesL m c) with | .ofNat j => some (i + j) | .negSucc _ => none)
  | 0, b, i => by
    cases m with
    | zero => rfl
    | succ m => rfl
  | n + 1, b, i => by
    have hp := pre_bytes m c (n + 1) b
    have hr := idxN_ok m c n (b / 256) (i + 1)
    have hge := Lib.index_ge (bytesL n (b / 256)) (bytesL m c)
    simp only [idxN, nbeq, nble]
    simp only [bytesL] at hp ⊢
    unfold Lib.index
    rw [hp]
    by_cases h : b % 256 ^ m = c % 256 ^ m
    · have h' : b.mod (256 ^ m) = c % 256 ^ m := h
      simp only [h', decide_true, cond_true]
      by_cases hm : m ≤ n + 1
      · simp [hm, h]
      · have hn : Lib.index (bytesL n (b / 256)) (bytesL m c) = -1 := by
          refine Lib.index_long (by simp; omega) fun e => ?_
          have := congrArg List.length e
          simp at this
          omega
        simp only [hm, false_and, decide_false, cond_false, Bool.false_eq_true, if_false, hn]
        rfl
    · have h' : ¬ b.mod (256 ^ m) = c % 256 ^ m := h
      simp only [h', h, and_false, decide_false, cond_false, Bool.false_eq_true, if_false]
      show idxN m (256 ^ m) (c % 256 ^ m) n (b / 256) (i + 1) = _
      rw [hr]
      cases hi : Lib.index (bytesL n (b / 256)) (bytesL m c) with
      | ofNat j =>
        have : ((Int.ofNat j == -1) : Bool) = false := rfl
        simp only [this, Bool.false_eq_true, if_false]
        show some (i + 1 + j) = some (i + (j + 1))
        congr 1
        omega
      | negSucc j =>
        rw [hi] at hge
        have : j = 0 := by omega
        subst this
        rfl

def idxK (args : List AV) : Option AV :=
  match args with
  | [.str n b, .str m c] => bif Nat.ble n 1000000000 then (match idxN m (Nat.pow 256 m) (Nat.mod c (Nat.pow 256 m)) n b 0 with
    | some i => fN i fun i => some (.int .i64 (.ofNat i))
    | none => some (.int .i64 (.negSucc 0))) else none
  | _ => none

/-- What a call of the search answers. -/
theorem idxK_ok {P : Program} {f : FuncId} {G : Nat → Nat} {ρ : Env} {args : List AV} {v : AV} {xs : List Value} {w : World} (hk : idxK args = some v) (d : denL G ρ args = some xs)
    (H : ∀ s sub : ByteArray, s.size < 4294967281 → Calls P f #[.string s, .string sub] w fun e w' => e = .returned (.int .i64 (Lib.index s.data.toList sub.data.toList)) ∧ w' = w) :
    Calls P f xs.toArray w fun e w' => ∃ x, e = .returned x ∧ den G ρ v = some x ∧ Below w.heap.size w w' := by
  unfold idxK at hk
  split at hk
  · rename_i n b m c
    obtain ⟨hn, hk⟩ := cond_some hk
    have hn := Nat.le_of_ble_eq_true hn
    obtain ⟨x, ys, d1, d2, rfl⟩ := denL_cons.1 d
    obtain ⟨y, zs, d3, d4, rfl⟩ := denL_cons.1 d2
    simp [denL] at d4; subst d4
    simp only [den, Option.some.injEq] at d1 d3; subst d1 d3
    refine (H (mkB n b) (mkB m c) (by rw [size_mkB]; omega)).mono fun e w' ⟨he, hw⟩ => ?_
    subst hw
    refine ⟨_, he, ?_, Below.refl _ _⟩
    have h := idxN_ok m c n b 0
    have hge := Lib.index_ge (bytesL n b) (bytesL m c)
    rw [show Nat.pow 256 m = 256 ^ m from rfl, show Nat.mod c (256 ^ m) = c % 256 ^ m from rfl, h] at hk
    simp only [mkB]
    cases hi : Lib.index (bytesL n b) (bytesL m c) with
    | ofNat j =>
      simp only [hi, Nat.zero_add, fN_eq, Option.some.injEq] at hk
      subst hk
      rfl
    | negSucc j =>
      rw [hi] at hge
      have : j = 0 := by omega
      subst this
      simp only [hi, Option.some.injEq] at hk
      subst hk
      rfl
  · cases hk
end
end Go.Ev

/-
  Texts joined, as numbers: what the shelf's contract for strings.Join gives.
-/

set_option linter.unusedVariables false
namespace Go.Ev
open Go Go.RowKit
noncomputable section

/-- Texts, joined by the text of m bytes c. -/
def joinN (m c : Nat) : List AV → Option (Nat × Nat)
  | [] => some (0, 0)
  | .str n b :: l => match l with
    | [] => some (n, b)
    | x :: l => match joinN m c (x :: l) with
      | some (k, d) => fN (Nat.add m k) fun mk => fN (Nat.add n mk) fun nm => fN (Nat.add (Nat.mod c (Nat.pow 256 m)) (Nat.mul d (Nat.pow 256 m))) fun e => fN (Nat.add (Nat.mod b (Nat.pow 256 n)) (Nat.mul e (Nat.pow 256 n))) fun f => some (nm, f)
      | none => none
  | _ :: _ => none

def txt (v : AV) : List UInt8 :=
  match v with
  | .str n b => bytesL n b
  | _ => []

theorem joinN_ok (m c : Nat) : ∀ {l : List AV} {n b : Nat}, joinN m c l = some (n, b) → Lib.join (l.map txt) (bytesL m c) = bytesL n b ∧ ∀ v ∈ l, ∃ n b, v = .str n b
  | [], n, b, h => by
    simp only [joinN, Option.some.injEq, Prod.mk.injEq] at h
    obtain ⟨rfl, rfl⟩ := h
    exact ⟨rfl, fun v h => by cases h⟩
  | v :: l, n, b, h => by
    obtain ⟨k, d, rfl⟩ : ∃ k d, v = .str k d := by
      cases v with
      | str k d => exact ⟨k, d, rfl⟩
      | _ => simp [joinN] at h
    cases l with
    | nil =>
      simp only [joinN, Option.some.injEq, Prod.mk.injEq] at h
      obtain ⟨rfl, rfl⟩ := h
      exact ⟨Lib.join_one _ _, fun v h => ⟨k, d, by simpa using h⟩⟩
    | cons x l =>
      simp only [joinN] at h
      cases hj : joinN m c (x :: l) with
      | none => simp [hj] at h
      | some q =>
        obtain ⟨k', d'⟩ := q
        simp only [hj, fN_eq, Option.some.injEq, Prod.mk.injEq] at h
        obtain ⟨rfl, rfl⟩ := h
        obtain ⟨h1, h2⟩ := joinN_ok m c hj
        refine ⟨?_, fun v hv => ?_⟩
        · have e : Lib.join ((.str k d :: x :: l).map txt) (bytesL m c) = bytesL k d ++ (bytesL m c ++ Lib.join ((x :: l).map txt) (bytesL m c)) := by
            simp [Lib.join, List.intercalate, txt]
          rw [e, h1, bytesL_append, bytesL_append]
          rfl
        · rcases List.mem_cons.1 hv with rfl | hv
          · exact ⟨k, d, rfl⟩
          · exact h2 v hv

/-- The elements of a slice of texts: its block, its first cell, how many. -/
def partJ (v : AV) : Option (Key × Nat × Nat) :=
  match v with
  | .sl p off len cap => bif Nat.ble len cap then some (p, off, len) else none
  | .slu p d len size => fN (Nat.mul d size) fun o => some (p, o, len)
  | _ => none

def joinK (args : List AV) (m : Mem) : Option (AV × Mem) :=
  match args with
  | [s, .str sm sc] => match partJ s with
    | some (p, off, len) => match T.get p m.h with
      | some (.cells u e fz l) => bif Nat.ble (Nat.add off len) l.length then (match joinN sm sc ((l.drop off).take len) with
        | some (n, b) => bif Nat.ble n 1000000000 then (bif Nat.ble len 1000000000 then some (.str n b, m) else none) else none
        | none => none) else none
      | _ => none
    | none => none
  | _ => none

theorem denL_getAll {G : Nat → Nat} {ρ : Env} : ∀ {l : List AV} {xs : List Value}, denL G ρ l = some xs → ∀ (i : Nat) v, l[i]? = some v → ∃ x, xs[i]? = some x ∧ den G ρ v = some x
  | [], xs, h, i, v, hv => by simp at hv
  | a :: l, xs, h, i, v, hv => by
    obtain ⟨x, ys, d1, d2, rfl⟩ := denL_cons.1 h
    cases i with
    | zero => simp at hv; subst hv; exact ⟨x, rfl, d1⟩
    | succ i => simpa using denL_getAll d2 i v (by simpa using hv)

/-- What a call of strings.Join answers. -/
theorem joinK_ok {P : Program} {f : FuncId} {G : Nat → Nat} {w0 : World} {args : List AV} {m m' : Mem} {v : AV} (hk : joinK args m = some (v, m'))
    (H : ∀ (bk o c : Nat) (xs : List ByteArray) (sep : ByteArray) (w : World), (∀ (j : Nat) x, xs[j]? = some x → w.cell? ⟨bk, o + j, none⟩ = some (.string x)) → bk < w.heap.size → xs.length ≤ 140737488355328 → xs.length ≤ c →
      (Lib.join (xs.map (·.data.toList)) sep.data.toList).length ≤ 140737488355328 →
      Calls P f #[.slice (some ⟨bk, o, none⟩) xs.length c, .string sep] w fun e w' => e = .returned (.string ⟨(Lib.join (xs.map (·.data.toList)) sep.data.toList).toArray⟩) ∧ Below w.heap.size w w') :
    AnyOK G w0 P f args m true v m' := by
  intro ρ w xs d r
  unfold joinK at hk
  split at hk
  · rename_i s sm sc
    cases hp : partJ s with
    | none => simp [hp] at hk
    | some q =>
      obtain ⟨p, off, len⟩ := q
      simp only [hp] at hk
      split at hk
      · rename_i u e fz l hg
        obtain ⟨hb, hk⟩ := cond_some hk
        have hb : off + len ≤ l.length := Nat.le_of_ble_eq_true hb
        cases hj : joinN sm sc ((l.drop off).take len) with
        | none => simp [hj] at hk
        | some q =>
          obtain ⟨n, b⟩ := q
          simp only [hj] at hk
          obtain ⟨hn, hk⟩ := cond_some hk
          have hn := Nat.le_of_ble_eq_true hn
          obtain ⟨hl, hk⟩ := cond_some hk
          have hl := Nat.le_of_ble_eq_true hl
          simp only [Option.some.injEq, Prod.mk.injEq] at hk
          obtain ⟨rfl, rfl⟩ := hk
          obtain ⟨x, ys, d1, d2, rfl⟩ := denL_cons.1 d
          obtain ⟨y, zs, d3, d4, rfl⟩ := denL_cons.1 d2
          simp [denL] at d4; subst d4
          simp only [den, Option.some.injEq] at d3; subst d3
          obtain ⟨bk, κ, ob, e1, e2, e3, c, fr, vs, rfl, _, hvs, hpre, _⟩ := r.obj p _ hg
          obtain ⟨h1, h2⟩ := joinN_ok sm sc hj
          have hlen : ((l.drop off).take len).length = len := by simp; omega
          obtain ⟨cap, hc, rfl⟩ : ∃ cap, len ≤ cap ∧ x = .slice (some ⟨bk, off, none⟩) len cap := by
            unfold partJ at hp
            split at hp
            · rename_i p' off' len' cap
              obtain ⟨hc, hp⟩ := cond_some hp
              simp only [Option.some.injEq, Prod.mk.injEq] at hp
              obtain ⟨rfl, rfl, rfl⟩ := hp
              simp only [den, e1, Option.some.injEq] at d1
              exact ⟨cap, Nat.le_of_ble_eq_true hc, d1.symm⟩
            · rename_i p' dd len' size
              simp only [fN_eq, Option.some.injEq, Prod.mk.injEq] at hp
              obtain ⟨rfl, rfl, rfl⟩ := hp
              simp only [den, e1] at d1
              split at d1
              · simp only [Option.some.injEq] at d1
                exact ⟨κ - dd, by omega, d1.symm⟩
              · cases d1
            · cases hp
          let bs : List ByteArray := ((l.drop off).take len).map fun v => ⟨(txt v).toArray⟩
          have hbs : bs.length = len := by simp only [bs, List.length_map, hlen]
          have hmap : bs.map (·.data.toList) = ((l.drop off).take len).map txt := by simp [bs, List.map_map, Function.comp_def]
          have hcell : ∀ (j : Nat) x, bs[j]? = some x → w.cell? ⟨bk, off + j, none⟩ = some (.string x) := by
            intro j x hx
            simp only [bs, List.getElem?_map, Option.map_eq_some_iff] at hx
            obtain ⟨v, hv, rfl⟩ := hx
            obtain ⟨vn, vb, rfl⟩ := h2 v (List.mem_of_getElem? hv)
            have hj : j < len := by have := (List.getElem?_eq_some_iff.1 hv).1; omega
            rw [List.getElem?_take, if_pos hj, List.getElem?_drop] at hv
            obtain ⟨x, hx, dx⟩ := denL_getAll hvs _ _ hv
            simp only [den, Option.some.injEq] at dx; subst dx
            rw [cell_of_row e2]
            obtain ⟨t, ht⟩ := hpre
            rw [← Array.getElem?_toList, ← ht, List.getElem?_append_left (by exact (List.getElem?_eq_some_iff.1 hx).1), hx]
            rfl
          have hbk : bk < w.heap.size := (Array.getElem?_eq_some_iff.1 e2).1
          have := H bk off cap bs (mkB sm sc) w hcell hbk (by omega) (by omega) (by rw [hmap]; show (Lib.join _ (bytesL sm sc)).length ≤ _; rw [h1, length_bytesL]; omega)
          rw [hbs] at this
          refine this.mono fun e w' ⟨he, hw⟩ => ?_
          obtain ⟨r1, r2⟩ := r.below hw
          refine ⟨ρ, .string (mkB n b), ?_, rfl, r1, r2⟩
          rw [he, hmap]
          show Ending.returned (.string ⟨(Lib.join _ (bytesL sm sc)).toArray⟩) = _
          rw [h1]
          rfl
      · cases hk
  · cases hk
end
end Go.Ev

/-
  Turning a word of 32 bits, as numbers.
-/

set_option linter.unusedVariables false
namespace Go.Ev
open Go Go.RowKit
noncomputable section

def rotN (x n : Nat) : Nat := Nat.add (Nat.div x (Nat.pow 2 n)) (Nat.mul (Nat.mod x (Nat.pow 2 n)) (Nat.pow 2 (Nat.sub 32 n)))

/-- A word's turn to the right, by 1 to 31 places. -/
def rotK (args : List AV) : Option AV :=
  match args with
  | [.int .u32 (.ofNat x), .int .u64 (.ofNat n)] =>
    bif Nat.blt x 4294967296 then (bif Nat.ble 1 n then (bif Nat.ble n 31 then fN (rotN x n) fun r => some (.int .u32 (.ofNat r)) else none) else none) else none
  | _ => none

theorem rot_or (x n : Nat) (hx : x < 4294967296) (h1 : 1 ≤ n) (h2 : n ≤ 31) : (x >>> n) ||| ((x <<< (32 - n)) % 4294967296) = rotN x n := by
  have e : (x <<< (32 - n)) % 4294967296 = (x % 2 ^ n) <<< (32 - n) := by
    rw [Nat.shiftLeft_eq, Nat.shiftLeft_eq, show (4294967296 : Nat) = 2 ^ n * 2 ^ (32 - n) from by rw [← Nat.pow_add, show n + (32 - n) = 32 from by omega], Nat.mul_mod_mul_right]
  have hb : x >>> n < 2 ^ (32 - n) := by
    rw [Nat.shiftRight_eq_div_pow]
    apply Nat.div_lt_of_lt_mul
    rw [← Nat.pow_add, show n + (32 - n) = 32 from by omega]
    exact hx
  rw [e, Nat.or_comm, ← Nat.shiftLeft_add_eq_or_of_lt hb, Nat.shiftLeft_eq, Nat.shiftRight_eq_div_pow, Nat.add_comm]
  rfl

/-- What a call of the round answers. -/
theorem rotK_ok {P : Program} {f : FuncId} {G : Nat → Nat} {ρ : Env} {args : List AV} {v : AV} {xs : List Value} {w : World} (hk : rotK args = some v) (d : denL G ρ args = some xs)
    (H : ∀ x n : Nat, x < 4294967296 → 1 ≤ n → n ≤ 31 → Calls P f #[.int .u32 x, .int .u64 n] w fun e w' => e = .returned (.int .u32 (rotN x n : Nat)) ∧ w' = w) :
    Calls P f xs.toArray w fun e w' => ∃ x, e = .returned x ∧ den G ρ v = some x ∧ Below w.heap.size w w' := by
  unfold rotK at hk
  split at hk
  · rename_i x n
    obtain ⟨h1, hk⟩ := cond_some hk
    obtain ⟨h2, hk⟩ := cond_some hk
    obtain ⟨h3, hk⟩ := cond_some hk
    rw [nblt, decide_eq_true_iff] at h1
    have h2 := Nat.le_of_ble_eq_true h2
    have h3 := Nat.le_of_ble_eq_true h3
    rw [fN_eq, Option.some.injEq] at hk
    subst hk
    obtain ⟨a, ys, d1, d2, rfl⟩ := denL_cons.1 d
    obtain ⟨b, zs, d3, d4, rfl⟩ := denL_cons.1 d2
    simp [denL] at d4; subst d4
    simp only [den, Option.some.injEq] at d1 d3; subst d1 d3
    refine (H x n h1 h2 h3).mono fun e w' ⟨he, hw⟩ => ?_
    subst hw
    exact ⟨_, he, rfl, Below.refl _ _⟩
  · cases hk
end
end Go.Ev

/-
  What a function leads to, counted quickly: the functions that are seen already stand in a number's bits.
-/

set_option linter.unusedVariables false
namespace Go.Ev
open Go
noncomputable section

def viaF (P : Program) : Nat → List FuncId → Nat → List FuncId → List FuncId
  | 0, _, _, acc => acc.reverse
  | _ + 1, [], _, acc => acc.reverse
  | n + 1, f :: todo, m, acc => bif Nat.testBit m f then viaF P n todo m acc else fN (m ||| (1 <<< f)) fun m => viaF P n ((P.funcs[f]?).elim [] P.leadsTo ++ todo) m (f :: acc)

theorem viaF_eq (P : Program) : ∀ (n : Nat) (todo : List FuncId) (m : Nat) (acc : List FuncId), (∀ g, m.testBit g = acc.contains g) → viaF P n todo m acc = P.closureVia n todo acc
  | 0, _, _, acc, _ => by cases acc <;> rfl
  | n + 1, [], _, acc, _ => rfl
  | n + 1, f :: todo, m, acc, h => by
    unfold viaF Program.closureVia
    rw [h f]
    cases hc : acc.contains f with
    | true => simp only [cond_true, if_true]; exact viaF_eq P n todo m acc h
    | false =>
      simp only [cond_false, Bool.false_eq_true, if_false, fN_eq]
      refine viaF_eq P n _ _ _ fun g => ?_
      rw [Nat.testBit_or, h g, List.contains_cons]
      have : (1 <<< f).testBit g = (g == f) := by
        rw [Nat.one_shiftLeft, Nat.testBit_two_pow]
        by_cases e : f = g
        · subst e; simp
        · simp [e, Ne.symm e]
      rw [this]
      exact Bool.or_comm _ _

theorem closure_fast {P : Program} {f n : Nat} {l : List FuncId} (hn : 1 + (P.funcs.toList.map fun g => (P.leadsTo g).length + 1).sum = n) (h : viaF P n [f] 0 [] = l) : P.closure f = l := by
  unfold Program.closure
  rw [hn, ← h, viaF_eq P n [f] 0 [] fun g => by simp]
end
end Go.Ev

/-
  Functions and variables by their names: each name told as its signs' numbers, so that no text is reckoned by the kernel.
-/

set_option linter.unusedVariables false
namespace Go.Ev
open Go

def nm (l : List Nat) : String := String.ofList (l.map Char.ofNat)

def eqN : List Nat → List Nat → Bool
  | [], [] => true
  | a :: l, b :: m => bif Nat.beq a b then eqN l m else false
  | _, _ => false

def smallN : List Nat → Bool
  | [] => true
  | a :: l => bif Nat.blt a 55296 then smallN l else false

def allSmall : List (List Nat) → Bool
  | [] => true
  | a :: l => bif smallN a then allSmall l else false

def idxsN (t : List Nat) : List (List Nat) → Nat → List Nat
  | [], _ => []
  | l :: r, i => bif eqN l t then i :: idxsN t r (Nat.succ i) else idxsN t r (Nat.succ i)

theorem eqN_iff : ∀ (a b : List Nat), eqN a b = true ↔ a = b
  | [], [] => by simp [eqN]
  | [], b :: m => by simp [eqN]
  | a :: l, [] => by simp [eqN]
  | a :: l, b :: m => by
    simp only [eqN]
    cases h : Nat.beq a b with
    | true =>
      have := Nat.eq_of_beq_eq_true h
      subst this
      simp [eqN_iff l m]
    | false =>
      have : ¬ a = b := fun e => by subst e; simp at h
      simp [this]

theorem char_inj {a b : Nat} (ha : a < 55296) (hb : b < 55296) (h : Char.ofNat a = Char.ofNat b) : a = b := by
  have e : ∀ n, n < 55296 → (Char.ofNat n).toNat = n := fun n hn => by
    unfold Char.ofNat
    rw [dif_pos (Or.inl hn)]
    rfl
  rw [← e a ha, ← e b hb, h]

theorem nm_inj : ∀ {a b : List Nat}, smallN a = true → smallN b = true → nm a = nm b → a = b := by
  intro a b ha hb h
  replace h := String.ofList_inj.1 h
  induction a generalizing b with
  | nil => cases b with
    | nil => rfl
    | cons x l => simp at h
  | cons x l ih => cases b with
    | nil => simp at h
    | cons y m =>
      simp only [smallN] at ha hb
      have hx : x < 55296 := by
        cases hc : Nat.blt x 55296 with
        | true => have h' := Nat.le_of_ble_eq_true hc; omega
        | false => rw [hc] at ha; cases ha
      have hy : y < 55296 := by
        cases hc : Nat.blt y 55296 with
        | true => have h' := Nat.le_of_ble_eq_true hc; omega
        | false => rw [hc] at hb; cases hb
      have ha' : smallN l = true := by
        cases hc : Nat.blt x 55296 with
        | true => rw [hc] at ha; exact ha
        | false => rw [hc] at ha; cases ha
      have hb' : smallN m = true := by
        cases hc : Nat.blt y 55296 with
        | true => rw [hc] at hb; exact hb
        | false => rw [hc] at hb; cases hb
      simp only [List.map_cons, List.cons.injEq] at h
      rw [char_inj hx hy h.1, ih ha' hb' h.2]

theorem filter_idx {α : Type} (q : α → Bool) : ∀ (L : List α) (s : Nat), (List.range' s L.length).filter (fun i => (L[i - s]?).any q) = (match L with
    | [] => []
    | x :: l => if q x then s :: (List.range' (s + 1) l.length).filter (fun i => (l[i - (s + 1)]?).any q) else (List.range' (s + 1) l.length).filter (fun i => (l[i - (s + 1)]?).any q))
  | [], s => rfl
  | x :: l, s => by
    have e : (List.range' (s + 1) l.length).filter (fun i => ((x :: l)[i - s]?).any q) = (List.range' (s + 1) l.length).filter (fun i => (l[i - (s + 1)]?).any q) := by
      apply List.filter_congr
      intro i hi
      have := (List.mem_range'_1.1 hi).1
      rw [show i - s = (i - (s + 1)) + 1 by omega, List.getElem?_cons_succ]
    simp only [List.length_cons, List.range'_succ, List.filter_cons, Nat.sub_self, List.getElem?_cons_zero, Option.any_some, e]

theorem named_idx {α : Type} (g : α → String) {t : List Nat} (ht : smallN t = true) : ∀ (L : List α) (names : List (List Nat)) (s : Nat), L.map g = names.map nm → allSmall names = true →
    (List.range' s L.length).filter (fun i => (L[i - s]?).any fun x => g x == nm t) = idxsN t names s
  | [], [], s, h, hs => rfl
  | [], _ :: _, s, h, hs => by simp at h
  | _ :: _, [], s, h, hs => by simp at h
  | x :: l, n :: names, s, h, hs => by
    simp only [List.map_cons, List.cons.injEq] at h
    have hn : smallN n = true ∧ allSmall names = true := by
      simp only [allSmall] at hs
      cases hc : smallN n with
      | true => rw [hc] at hs; exact ⟨rfl, hs⟩
      | false => rw [hc] at hs; cases hs
    have ih := named_idx g ht l names (s + 1) h.2 hn.2
    rw [filter_idx]
    simp only [idxsN]
    rw [ih]
    by_cases e : n = t
    · have : (g x == nm t) = true := by rw [h.1, e]; simp
      rw [this, (eqN_iff n t).2 e]
      rfl
    · have h1 : (g x == nm t) = false := by
        rw [h.1]
        exact beq_eq_false_iff_ne.2 fun h' => e (nm_inj hn.1 ht h')
      have h2 : eqN n t = false := by
        cases hc : eqN n t with
        | false => rfl
        | true => exact absurd ((eqN_iff n t).1 hc) e
      rw [h1, h2]
      rfl

theorem funcNamed_of {P : Program} {names : List (List Nat)} (hN : P.funcs.toList.map (·.name) = names.map nm) (hs : allSmall names = true) {t : List Nat} (ht : smallN t = true) {k : Nat} (h : idxsN t names 0 = [k]) : P.funcNamed (nm t) = some k := by
  have := named_idx (fun f : Func => f.name) ht P.funcs.toList names 0 hN hs
  rw [h] at this
  unfold Program.funcNamed
  rw [List.range_eq_range']
  simp only [Nat.sub_zero, Array.getElem?_toList, Array.length_toList] at this
  rw [this]

theorem globalNamed_of {P : Program} {names : List (List Nat)} (hN : P.globals.toList.map (·.name) = names.map nm) (hs : allSmall names = true) {t : List Nat} (ht : smallN t = true) {k : Nat} (h : idxsN t names 0 = [k]) : P.globalNamed (nm t) = some k := by
  have := named_idx (fun f => f.name) ht P.globals.toList names 0 hN hs
  rw [h] at this
  unfold Program.globalNamed
  rw [List.range_eq_range']
  simp only [Nat.sub_zero, Array.getElem?_toList, Array.length_toList] at this
  rw [this]

/-- No function has this name. -/
theorem none_named {P : Program} {names : List (List Nat)} (hN : P.funcs.toList.map (·.name) = names.map nm) (hs : allSmall names = true) {t : List Nat} (ht : smallN t = true) (h : idxsN t names 0 = []) {f : FuncId} {fn : Func} (hf : P.funcs[f]? = some fn) : fn.name ≠ nm t := by
  have := named_idx (fun f : Func => f.name) ht P.funcs.toList names 0 hN hs
  rw [h] at this
  intro e
  have hlt : f < P.funcs.size := (Array.getElem?_eq_some_iff.1 hf).1
  have hm : f ∈ (List.range' 0 P.funcs.toList.length).filter (fun i => (P.funcs.toList[i - 0]?).any fun x => x.name == nm t) := by
    rw [List.mem_filter]
    refine ⟨by simp [List.mem_range'_1]; exact hlt, ?_⟩
    simp only [Nat.sub_zero, Array.getElem?_toList, hf, Option.any_some, e, beq_self_eq_true]
  rw [this] at hm
  cases hm
end Go.Ev

/-
  The listed variables laid, each by its number.
-/

set_option linter.unusedVariables false
namespace Go.Ev
open Go

def layIds (P : Program) (n : Nat) : List (Nat × DataW Unit) → Option (List (Nat × List Value) × List Obj)
  | [] => some ([], [])
  | x :: r => match P.globals[x.1]? with
    | some gl => match x.2.lay P gl.type n with
      | some y => match layIds P (n + y.2.length) r with
        | some z => some ((x.1, y.1) :: z.1, y.2 ++ z.2)
        | none => none
      | none => none
    | none => none

def Named (P : Program) : List (String × DataW Unit) → List Nat → Prop
  | [], [] => True
  | x :: l, g :: gs => P.globalNamed x.1 = some g ∧ Named P l gs
  | _, _ => False

theorem layList_ids {P : Program} : ∀ (l : List (String × DataW Unit)) (gs : List Nat) (n : Nat), Named P l gs → Lay.layList P n l = layIds P n (gs.zip (l.map (·.2)))
  | [], [], n, h => rfl
  | x :: l, g :: gs, n, h => by
    obtain ⟨h1, h2⟩ := h
    unfold Lay.layList
    rw [h1]
    simp only [List.map_cons, List.zip_cons_cons, layIds]
    cases P.globals[g]? with
    | none => rfl
    | some gl =>
      simp only
      cases x.2.lay P gl.type n with
      | none => rfl
      | some y => simp only [layList_ids l gs _ h2]; rfl

theorem layFits_ids {P : Program} {w : World} {l : List (String × DataW Unit)} {gs : List Nat} (h : Named P l gs) (B : List Nat)
    (k : (match layIds P w.heap.size (gs.zip (l.map (·.2))) with
      | some y => decide (y.1.map (·.1)).Nodup && (y.1.all fun r => Lay.isRow w.heap.toList[r.1]? && !B.contains r.1) && B.all (· < w.heap.size)
      | none => false) = true) : w.layFits P l B = true := by
  unfold World.layFits
  rw [layList_ids l gs _ h]
  exact k

/-- The world with the variables laid, by their numbers. -/
noncomputable def layW (P : Program) (w : World) (l : List (Nat × DataW Unit)) : World :=
  match layIds P w.heap.size l with
  | some y => { w with heap := ⟨Lay.setRows w.heap.toList y.1 ++ y.2⟩ }
  | none => w

theorem laidAll_ids {P : Program} {os : Os} {l : List (String × DataW Unit)} {gs : List Nat} (h : Named P l gs) : World.laidAll P os l = layW P (World.holding P os ⟨#[], #[], []⟩) (gs.zip (l.map (·.2))) := by
  unfold World.laidAll World.layVars layW
  rw [layList_ids l gs _ h]
  rfl

theorem layIfaces_ids {P : Program} {w w' : World} {l : List (String × DataW Unit)} {gs : List Nat} (h : Named P l gs)
    (k : (match layIds P w.heap.size (gs.zip (l.map (·.2))) with
      | some y => (y.1.all fun r => r.2.all (Lay.okV P w')) && y.2.all (Lay.okO P w')
      | none => false) = true) : w.layIfaces P l w' = true := by
  unfold World.layIfaces
  rw [layList_ids l gs _ h]
  exact k
end Go.Ev
