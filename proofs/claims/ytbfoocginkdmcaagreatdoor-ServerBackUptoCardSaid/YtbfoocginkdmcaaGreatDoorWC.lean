/-
  The header that shows a client, in plain words: the form's escape, base64, both ways. No program in sight.
-/
import Derived.Lib.ItoaNum
import Derived.Test.YtbfoocginkdmcaaGreatDoorWA
import Derived.Test.YtbfoocginkdmcaaGreatDoorProg
import Derived.WalkKit
import Derived.Laws.IdiomStrings
import Derived.Lib.UnsafeStr
import Derived.Deep.RegionLaw
import Derived.ArgAppend
import Derived.Laws.BitsLemmas
import Derived.Deep.RegionWith
import Derived.Shelf.LaysM
import Derived.Shelf.Strings.BuilderK
import Derived.Shelf.Strconv.Itoa3
import Derived.Shelf.Strconv.Itoa1
import Derived.Shelf.Strconv.Itoa2
import Derived.Lib.Walk
import Derived.Lib.ItoaMem
import Derived.BigCall
import Derived.BigGuard
import Derived.Handy

set_option linter.unusedVariables false
set_option maxRecDepth 100000
namespace Go.Basic
def bytesOf : List Nat → Nat → Nat → List UInt8 × Nat
  | [], n, _ => ([], n)
  | x :: l, n, have' =>
    let m := n * 64 + x
    let h := have' + 6
    if 8 ≤ h then let r := bytesOf l (m % 2 ^ (h - 8)) (h - 8); (UInt8.ofNat (m / 2 ^ (h - 8)) :: r.1, r.2) else bytesOf l m h
theorem bytesOf_lt {x n h : Nat} {l : List Nat} (hh : ¬ 8 ≤ h + 6) : bytesOf (x :: l) n h = bytesOf l (n * 64 + x) (h + 6) := by
  conv => lhs; unfold bytesOf
  simp only [if_neg hh]
theorem bytesOf_ge {x n h : Nat} {l : List Nat} (hh : 8 ≤ h + 6) : bytesOf (x :: l) n h = (UInt8.ofNat ((n * 64 + x) / 2 ^ (h + 6 - 8)) :: (bytesOf l ((n * 64 + x) % 2 ^ (h + 6 - 8)) (h + 6 - 8)).1, (bytesOf l ((n * 64 + x) % 2 ^ (h + 6 - 8)) (h + 6 - 8)).2) := by
  conv => lhs; unfold bytesOf
  simp only [if_pos hh]
def six : List UInt8 → List Nat
  | [] => []
  | [a] => [a.toNat / 4, a.toNat % 4 * 16]
  | [a, b] => [a.toNat / 4, a.toNat % 4 * 16 + b.toNat / 16, b.toNat % 16 * 4]
  | a :: b :: c :: t => a.toNat / 4 :: (a.toNat % 4 * 16 + b.toNat / 16) :: (b.toNat % 16 * 4 + c.toNat / 64) :: (c.toNat % 64) :: six t
theorem ofNat_eq' {n : Nat} {a : UInt8} (h : n = a.toNat) : UInt8.ofNat n = a := by subst h; exact UInt8.ofNat_toNat
theorem bytesOf_six : ∀ p : List UInt8, bytesOf (six p) 0 0 = (p, 0)
  | [] => rfl
  | [a] => by
    have ha := UInt8.toNat_lt a
    show bytesOf [a.toNat / 4, a.toNat % 4 * 16] 0 0 = _
    rw [bytesOf_lt (by omega), bytesOf_ge (by omega)]
    simp only [bytesOf, Nat.reduceAdd, Nat.reduceSub, Nat.reducePow]
    rw [ofNat_eq' (a := a) (by omega), show ((0 * 64 + a.toNat / 4) * 64 + a.toNat % 4 * 16) % 16 = 0 from by omega]
  | [a, b] => by
    have ha := UInt8.toNat_lt a
    have hb := UInt8.toNat_lt b
    show bytesOf [a.toNat / 4, a.toNat % 4 * 16 + b.toNat / 16, b.toNat % 16 * 4] 0 0 = _
    rw [bytesOf_lt (by omega), bytesOf_ge (by omega), bytesOf_ge (by omega)]
    simp only [bytesOf, Nat.reduceAdd, Nat.reduceSub, Nat.reducePow]
    rw [ofNat_eq' (a := a) (by omega), ofNat_eq' (a := b) (by omega), show (((0 * 64 + a.toNat / 4) * 64 + (a.toNat % 4 * 16 + b.toNat / 16)) % 16 * 64 + b.toNat % 16 * 4) % 4 = 0 from by omega]
  | a :: b :: c :: t => by
    have ha := UInt8.toNat_lt a
    have hb := UInt8.toNat_lt b
    have hc := UInt8.toNat_lt c
    show bytesOf (a.toNat / 4 :: (a.toNat % 4 * 16 + b.toNat / 16) :: (b.toNat % 16 * 4 + c.toNat / 64) :: (c.toNat % 64) :: six t) 0 0 = _
    rw [bytesOf_lt (by omega), bytesOf_ge (by omega), bytesOf_ge (by omega), bytesOf_ge (by omega)]
    simp only [Nat.reduceAdd, Nat.reduceSub, Nat.reducePow, Nat.div_one, Nat.mod_one]
    rw [bytesOf_six t, ofNat_eq' (a := a) (by omega), ofNat_eq' (a := b) (by omega), ofNat_eq' (a := c) (by omega)]
theorem six_lt : ∀ (p : List UInt8), ∀ x ∈ six p, x < 64
  | [] => by simp [six]
  | [a] => by
    have ha := UInt8.toNat_lt a
    simp only [six, List.mem_cons, List.mem_nil_iff, or_false]
    omega
  | [a, b] => by
    have ha := UInt8.toNat_lt a
    have hb := UInt8.toNat_lt b
    simp only [six, List.mem_cons, List.mem_nil_iff, or_false]
    omega
  | a :: b :: c :: t => by
    have ha := UInt8.toNat_lt a
    have hb := UInt8.toNat_lt b
    have hc := UInt8.toNat_lt c
    intro x hx
    simp only [six, List.mem_cons] at hx
    rcases hx with h | h | h | h | h
    · omega
    · omega
    · omega
    · omega
    · exact six_lt t x h
theorem six_length : ∀ p : List UInt8, (six p).length = (4 * p.length + 2) / 3
  | [] => rfl
  | [a] => by simp [six]
  | [a, b] => by simp [six]
  | a :: b :: c :: t => by
    simp only [six, List.length_cons, six_length t]
    omega
end Go.Basic

/-
  The reference's base64, bit by bit, is the base64 of three bytes at a time.
-/

namespace Go.Basic
def bitAt (p : List UInt8) (i : Nat) : Nat :=
  match p[i / 8]? with
  | some x => x.toNat / 2 ^ (7 - i % 8) % 2
  | none => 0
def grp (p : List UInt8) (i : Nat) : Nat := 2 * (2 * (2 * (2 * (2 * (2 * 0 + bitAt p i) + bitAt p (i + 1)) + bitAt p (i + 2)) + bitAt p (i + 3)) + bitAt p (i + 4)) + bitAt p (i + 5)
def letU (n : Nat) : UInt8 := if n < 26 then UInt8.ofNat (65 + n) else if n < 52 then UInt8.ofNat (97 + n - 26) else if n < 62 then UInt8.ofNat (48 + n - 52) else if n = 62 then 45 else 95
end Go.Basic

/-
  Scripts in plain words: an act's line, what it tells, a script, a tale. No program in sight.
-/

namespace Go.Scr
open Go Go.Basic Go.Lib
structure PAct where
  kind : Int
  raw : ByteArray
  draws : List UInt8
  now : Nat
  outcome : Int
  n : Int
  dir : Int
  tails : List Int
def word (l : List UInt8) : List UInt8 := if l = [] then [45] else (six l).map letU
def rest (ts : List Int) : List UInt8 := ts.flatMap fun t => 32 :: itoa t
def lineS (a : PAct) : List UInt8 :=
  if a.kind = 1 then [114, 101, 113, 117, 101, 115, 116, 32] ++ word a.draws ++ [32] ++ word a.raw.data.toList
  else if a.kind = 2 then [116, 105, 99, 107, 32] ++ decDigits a.now
  else if a.kind = 3 then [112, 105, 110, 103, 32] ++ itoa a.outcome
  else if a.kind = 4 then [97, 114, 109, 32] ++ itoa a.n
  else if a.kind = 5 then [114, 101, 115, 116, 97, 114, 116, 32] ++ itoa a.n ++ [32] ++ itoa a.dir ++ rest a.tails
  else if a.kind = 6 then [99, 111, 109, 112, 97, 99, 116]
  else []
def told (a : PAct) : PAct :=
  if a.kind = 1 then { kind := 1, raw := a.raw, draws := a.draws, now := 0, outcome := 0, n := 0, dir := 0, tails := [] }
  else if a.kind = 2 then { kind := 2, raw := ⟨#[]⟩, draws := [], now := a.now, outcome := 0, n := 0, dir := 0, tails := [] }
  else if a.kind = 3 then { kind := 3, raw := ⟨#[]⟩, draws := [], now := 0, outcome := a.outcome, n := 0, dir := 0, tails := [] }
  else if a.kind = 4 then { kind := 4, raw := ⟨#[]⟩, draws := [], now := 0, outcome := 0, n := a.n, dir := 0, tails := [] }
  else if a.kind = 5 then { kind := 5, raw := ⟨#[]⟩, draws := [], now := 0, outcome := 0, n := a.n, dir := a.dir, tails := a.tails }
  else if a.kind = 6 then { kind := 6, raw := ⟨#[]⟩, draws := [], now := 0, outcome := 0, n := 0, dir := 0, tails := [] }
  else { kind := 0, raw := ⟨#[]⟩, draws := [], now := 0, outcome := 0, n := 0, dir := 0, tails := [] }
def wholeB (a b : PAct) : Bool :=
  decide (a.kind = b.kind) && decide (a.raw = b.raw) && decide (a.now = b.now) && decide (a.outcome = b.outcome) && decide (a.n = b.n) && decide (a.kind ≠ 0) &&
    decide (a.draws.length = b.draws.length) && decide (a.dir = b.dir) && decide (a.tails.length = b.tails.length)
def okA (a : PAct) : Bool :=
  decide (1 ≤ a.kind ∧ a.kind ≤ 6) && (decide (a.kind = 1) || decide (a.raw = ⟨#[]⟩)) && (decide (a.kind = 2) || decide (a.now = 0)) && (decide (a.kind = 3) || decide (a.outcome = 0)) &&
    (decide (a.kind = 4 ∨ a.kind = 5) || decide (a.n = 0)) && (decide (a.kind = 5) || decide (a.dir = 0)) && (decide (a.kind = 5) || decide (a.tails.length = 0)) && (decide (a.kind = 1) || decide (a.draws.length = 0))
theorem kinds (k : Int) : k = 1 ∨ k = 2 ∨ k = 3 ∨ k = 4 ∨ k = 5 ∨ k = 6 ∨ (k ≠ 1 ∧ k ≠ 2 ∧ k ≠ 3 ∧ k ≠ 4 ∧ k ≠ 5 ∧ k ≠ 6) := by omega
theorem whole_told (a : PAct) : wholeB a (told a) = okA a := by
  obtain ⟨k, r, d, w, o, n, q, t⟩ := a
  rcases kinds k with rfl | rfl | rfl | rfl | rfl | rfl | ⟨h1, h2, h3, h4, h5, h6⟩
  · simp [wholeB, told, okA, Bool.and_comm, Bool.and_left_comm]
  · simp [wholeB, told, okA, Bool.and_assoc, Bool.and_comm, Bool.and_left_comm]
  · simp [wholeB, told, okA, Bool.and_comm, Bool.and_left_comm]
  · simp [wholeB, told, okA, Bool.and_comm, Bool.and_left_comm]
  · simp [wholeB, told, okA, Bool.and_comm, Bool.and_left_comm]
  · simp [wholeB, told, okA, Bool.and_comm, Bool.and_left_comm]
  · have e1 : ¬ (1 ≤ k ∧ k ≤ 6) := by omega
    have e2 : okA ⟨k, r, d, w, o, n, q, t⟩ = false := by simp [okA, e1]
    rw [e2]
    by_cases h0 : k = 0
    · simp [wholeB, told, h0]
    · simp [wholeB, told, h1, h2, h3, h4, h5, h6, h0]
def script (l : List PAct) : List UInt8 := l.flatMap fun a => lineS a ++ [10]
def wideA (a : PAct) : Bool := decide (65536 < (word a.draws).length) || decide (65536 < (word a.raw.data.toList).length)
def printS (l : List PAct) : List UInt8 × Int :=
  if 4096 < l.length then ([], 32)
  else if l.all okA = false then ([], 2)
  else if l.any wideA = true ∨ 1048576 < (script l).length then ([], 1)
  else (script l, 0)
theorem word_len (l : List UInt8) (h : l ≠ []) : (word l).length = (4 * l.length + 2) / 3 := by
  rw [word, if_neg h, List.length_map, six_length]
theorem word_le (l : List UInt8) : (word l).length ≤ 2 * l.length + 1 := by
  by_cases h : l = []
  · subst h
    simp [word]
  · rw [word_len l h]
    omega
end Go.Scr

/-
  Small laws for the walks: a row of bytes of the call's own, pushed and made a text.
-/

namespace Go.Proofs.YtbfoocginkdmcaaGreatDoor
open Go Go.RowKit
theorem bc_app (a b : List UInt8) : Lib.byteCells (a ++ b) = Lib.byteCells a ++ Lib.byteCells b := by simp [Lib.byteCells]
theorem bc_one (l : List UInt8) : ∀ v ∈ Lib.byteCells l, v.oneCell' = true := by
  intro v hv
  simp only [Lib.byteCells, List.mem_map] at hv
  obtain ⟨b, _, rfl⟩ := hv
  rfl
theorem bc_get (l : List UInt8) (j : Nat) (hj : j < l.length) : (Lib.byteCells l)[j]? = some (.int .u8 l[j].toNat) := by simp [Lib.byteCells, hj]
theorem own_push {B : Nat} {w wr w1 : World} {v v' : Value} {l m : List UInt8} {o : Obj} {k k' : Nat} (hB : B ≤ wr.heap.size)
    (hown : wr.ownsRow B 5 1 v k (Lib.byteCells l)) (hb : Below B w wr) (hown' : w1.ownsRow B 5 1 v' k' (Lib.byteCells l ++ Lib.byteCells m)) (hg : (wr.alloc o).grownBy w1 v.ownBlock) :
    w1.ownsRow B 5 1 v' k' (Lib.byteCells (l ++ m)) ∧ Below B w w1 := by
  refine ⟨?_, (hb.alloc hB o).grown hg (by simp; omega) fun j hj => (hown.lt j hj).1⟩
  rw [bc_app]
  exact hown'
theorem own_push_d {B : Nat} {w wr w1 : World} {v v' : Value} {l m : List UInt8} {o : Obj} {k k' : Nat} (hB : B ≤ wr.heap.size)
    (hown : wr.ownsRow B 5 1 v k (Lib.byteCells l)) (hb : Below B w wr) (hown' : w1.ownsRow B 5 1 v' k' (Lib.byteCells l ++ Lib.byteCells m)) (hg : (wr.alloc o).drew.grownBy w1 v.ownBlock) :
    w1.ownsRow B 5 1 v' k' (Lib.byteCells (l ++ m)) ∧ Below B w w1 :=
  own_push (o := o) hB hown hb hown' ⟨hg.os, hg.tape, hg.output, hg.size, hg.block⟩
theorem new_cells (w : World) (C : List Value) (t : TypeId) : ∀ (j : Nat) u, C[j]? = some u → ((w.alloc (.cells C.toArray t)).drew).cell? ((⟨w.heap.size, 0, none⟩ : Addr).add j) = some u := by
  intro j u hj
  have h := World.cell?_alloc_mark w C.toArray t (0, 0) j
  have hadd : (⟨w.heap.size, 0, none⟩ : Addr).add j = ⟨w.heap.size, j, none⟩ := by unfold Addr.add; split <;> simp_all
  rw [hadd]
  show (w.alloc (.cells C.toArray t)).cell? _ = _
  rw [h]
  simpa using hj
theorem own_mono {w : World} {B B' : Nat} {e : TypeId} {v : Value} {n : Nat} {xs : List Value} (h : w.ownsRow B e 1 v n xs) (hB : B' ≤ B) : w.ownsRow B' e 1 v n xs := by
  refine ⟨h.1, ?_⟩
  rcases h.2 with hn | ⟨g, cap, cur, rfl, hb, rest⟩
  · exact .inl hn
  · exact .inr ⟨g, cap, cur, rfl, Nat.le_trans hB hb, rest⟩
theorem one_cell (w : World) (u : Value) (t : TypeId) : ∀ (j : Nat) x, [u][j]? = some x → (w.alloc (.cells #[u] t)).cell? ((⟨w.heap.size, 0, none⟩ : Addr).add j) = some x := by
  intro j x hj
  exact new_cells w [u] t j x hj
theorem own_cells {w : World} {B : Nat} {e : TypeId} {v : Value} {n : Nat} {xs : List Value} (h : w.ownsRow B e 1 v n xs) (hn : 0 < n) :
    ∃ g cap, v = .slice (some ⟨g, 0, none⟩) n cap ∧ B ≤ g ∧ g < w.heap.size ∧ ∀ (j : Nat) u, xs[j]? = some u → w.cell? ⟨g, j, none⟩ = some u := by
  rcases h.2 with ⟨rfl, h0⟩ | ⟨g, cap, cur, rfl, hb, hg, _, hm, hs, htake⟩
  · omega
  · refine ⟨g, cap, rfl, hb, (Array.getElem?_eq_some_iff.1 hg).1, fun j u hj => ?_⟩
    have := h.cells rfl j u hj
    have hadd : (⟨g, 0, none⟩ : Addr).add j = ⟨g, j, none⟩ := by unfold Addr.add; split <;> simp_all
    rwa [hadd] at this
theorem step_append_own {P : Program} {ops : Array Oper} {o : Oper} {a : Act} {w : World} {K : Act → World → Prop} {Q : Exit → Act → World → Prop} {E : Prop}
    (hg : o.guard = none) (s x : Operand) (t : TypeId) (hop : o.op = Op.call { callee := Callee.builtin Builtin.append, args := #[s, x], argTypes := #[t, t] })
    (base : Nat) (e : TypeId) (i : TypeInfo) (z : Value) (size bytes : Nat) (ht : P.underlying t = some (.slice e)) (hi : P.info? e = some i) (hz : i.zero = some z)
    (hsize : i.size = size) (hby : i.bytes = bytes) (hzs : z.cells.size = size) (hsz : 0 < size)
    (v : Value) (n : Nat) (xs : List Value) (hs : a.eval s = v) (hown : w.ownsRow base e size v n xs)
    (ad : Addr) (m c : Nat) (news : List Value) (hx : a.eval x = .slice (some ad) m c) (hl : news.length = m * size) (hnews : ∀ j u, news[j]? = some u → w.cell? (ad.add j) = some u) (h1 : ∀ u ∈ news, u.oneCell' = true)
    (h63 : n + m ≤ maxLen) (hbytes : (n + m) * bytes ≤ 140737488355328) (hbase : base ≤ w.heap.size)
    (h : ∀ v' w', w'.ownsRow base e size v' (n + m) (xs ++ news) → w.grownBy w' v.ownBlock → K (a.put o.dst v') w') :
    if Region.wanted o (yielded ops a.tmps) = true then Oper.wp P o a w K Q else E := by
  have hw : Region.wanted o (yielded ops a.tmps) = true := by simp [Region.wanted, hg]
  rw [if_pos hw]
  obtain ⟨v', w', hr, h2, h3, _⟩ := run_append_own (P := P) w base t o.type e i z size bytes ht hi hz hsize hby hzs hsz v n xs hown ad m c news hl hnews h1 h63 hbytes hbase
  unfold Oper.wp
  simp only [execOp, hop, resolve, invoke, builtin, Sem.run_bind, Sem.run_pure, Result.andThen_ok, List.map_toArray, List.map_cons, List.map_nil, hs, hx, hr]
  exact h v' w' h2 h3
theorem string_of_own {w : World} {B : Nat} {v : Value} {l : List UInt8} {n : Nat} (hn : n = l.length) (h : w.ownsRow B 5 1 v n (Lib.byteCells l)) : (convert 30 9 v).run Tryz.prog w = .ok (.string ⟨l.toArray⟩) w := by
  subst hn
  rcases h.2 with ⟨rfl, h0⟩ | ⟨g, cap, cur, rfl, hb, hg, hn, hm, hs, htake⟩
  · obtain rfl : l = [] := List.length_eq_zero_iff.1 h0
    rw [run_convert_bytes_string w 30 9 5 none 0 0 Tryz.underlying30 Tryz.underlying5 Tryz.underlying9]
    rfl
  · exact run_convert_bytes_back w 30 9 5 ⟨g, 0, none⟩ cap l Tryz.underlying30 Tryz.underlying5 Tryz.underlying9 fun j hj => h.cells rfl j _ (bc_get l j hj)
end Go.Proofs.YtbfoocginkdmcaaGreatDoor

/-
  A row of bytes of the call's own that was made by []byte(s): written in place, pushed, made a text.
-/

namespace Go.Proofs.YtbfoocginkdmcaaGreatDoor
open Go Go.RowKit Go.Basic
structure RowAt (B b cap : Nat) (w : World) (Y : List UInt8) : Prop where
  low : B ≤ b
  lt : b < w.heap.size
  fits : Y.length ≤ cap
  cells : ∀ (j : Nat) x, Y[j]? = some x → w.cell? ⟨b, j, none⟩ = some (.int .u8 x.toNat)
  open' : ∀ j, j < cap → (w.cell? ⟨b, j, none⟩).isSome = true ∧ w.frozen? ⟨b, j, none⟩ = false
theorem RowAt.of_bytes (w : World) (s : ByteArray) :
    RowAt w.heap.size w.heap.size (grownCap w s.size 0 5) (w.drew.alloc (.cells (bytesRow s (grownCap w s.size 0 5)) 5 ((bytesRow s (grownCap w s.size 0 5)).size, (bytesRow s (grownCap w s.size 0 5)).size + 1))) s.data.toList where
  low := Nat.le_refl _
  lt := by simp
  fits := by
    have := grownCap_ge w s.size 0 5
    simpa using this
  cells j x hj := by
    have hj' : j < s.data.size := by
      have := (List.getElem?_eq_some_iff.1 hj).1
      simpa using this
    have h := World.cell?_alloc_mark w.drew (bytesRow s (grownCap w s.size 0 5)) 5 ((bytesRow s (grownCap w s.size 0 5)).size, (bytesRow s (grownCap w s.size 0 5)).size + 1) j
    refine h.trans ?_
    rw [bytesRow_at s _ j hj']
    have := (List.getElem?_eq_some_iff.1 hj).2
    rw [← this]
    rfl
  open' j hj := by
    have hsz : (bytesRow s (grownCap w s.size 0 5)).size = grownCap w s.size 0 5 := by
      have := grownCap_ge w s.size 0 5
      unfold bytesRow
      have e : s.data.size = s.size := rfl
      simp
      omega
    constructor
    · have h := World.cell?_alloc_mark w.drew (bytesRow s (grownCap w s.size 0 5)) 5 ((bytesRow s (grownCap w s.size 0 5)).size, (bytesRow s (grownCap w s.size 0 5)).size + 1) j
      rw [show (w.drew.alloc (.cells (bytesRow s (grownCap w s.size 0 5)) 5 ((bytesRow s (grownCap w s.size 0 5)).size, (bytesRow s (grownCap w s.size 0 5)).size + 1))).cell? ⟨w.heap.size, j, none⟩ = _ from h]
      rw [Array.getElem?_eq_getElem (by rw [hsz]; exact hj)]
      rfl
    · have h := World.frozen?_alloc_mark w.drew (bytesRow s (grownCap w s.size 0 5)) 5 (bytesRow s (grownCap w s.size 0 5)).size ((bytesRow s (grownCap w s.size 0 5)).size + 1) j
      refine (show _ = _ from h).trans ?_
      rw [hsz]
      simp
      omega
theorem RowAt.alloc {B b cap : Nat} {w : World} {Y : List UInt8} (h : RowAt B b cap w Y) (o : Obj) : RowAt B b cap (w.alloc o) Y where
  low := h.low
  lt := by have := h.lt; simp; omega
  fits := h.fits
  cells j x hj := (World.cell?_alloc_past _ _ _ h.lt).trans (h.cells j x hj)
  open' j hj := by
    rw [World.cell?_alloc_past _ _ _ h.lt, World.frozen?_alloc_past _ _ _ h.lt]
    exact h.open' j hj
theorem RowAt.set {B b cap : Nat} {w : World} {Y : List UInt8} (h : RowAt B b cap w Y) (k : Nat) (hk : k < Y.length) (v : UInt8) : RowAt B b cap (w.setCell ⟨b, k, none⟩ (.int .u8 v.toNat)) (Y.set k v) where
  low := h.low
  lt := by have := h.lt; simpa using this
  fits := by rw [List.length_set]; exact h.fits
  cells j x hj := by
    obtain ⟨y, hy⟩ : ∃ y, Y[k]? = some y := ⟨Y[k], by simp [hk]⟩
    by_cases e : j = k
    · subst e
      rw [List.getElem?_set_self hk] at hj
      cases hj
      exact World.cell?_setCell_same _ _ _ (h.cells _ _ hy)
    · rw [List.getElem?_set_ne (fun h => e h.symm)] at hj
      refine (World.cell?_setCell_other _ _ _ _ (by simp only [ne_eq, Addr.mk.injEq, true_and, and_true]; exact fun h => e h.symm)).trans (h.cells j x hj)
  open' j hj := by
    rw [World.frozen?_setCell]
    refine ⟨?_, (h.open' j hj).2⟩
    by_cases e : j = k
    · subst e
      obtain ⟨y, hy⟩ : ∃ y, Y[j]? = some y := ⟨Y[j], by simp [hk]⟩
      rw [World.cell?_setCell_same _ _ _ (h.cells _ _ hy)]
      rfl
    · rw [World.cell?_setCell_other _ _ _ _ (by simp only [ne_eq, Addr.mk.injEq, true_and, and_true]; exact fun h => e h.symm)]
      exact (h.open' j hj).1
theorem RowAt.same {B b cap : Nat} {w : World} {Y : List UInt8} (h : RowAt B b cap w Y) (k : Nat) (hk : k < Y.length) {v : UInt8} (hv : w.cell? ⟨b, k, none⟩ = some (.int .u8 v.toNat)) : RowAt B b cap w (Y.set k v) := by
  have h1 := h.cells k Y[k] (by simp [hk])
  rw [hv] at h1
  have h2 : v = Y[k] := by
    have : (v.toNat : Int) = (Y[k].toNat : Int) := by injection h1 with h1; injection h1
    exact UInt8.toNat_inj.1 (by omega)
  have h3 : Y.set k v = Y := by rw [h2]; exact List.set_getElem_self hk
  rw [h3]
  exact h
theorem RowAt.push {B b cap : Nat} {w : World} {Y : List UInt8} (h : RowAt B b cap w Y) (v : UInt8) (hr : Y.length + 1 ≤ cap) : RowAt B b cap (w.setCells b Y.length [.int .u8 v.toNat]) (Y ++ [v]) where
  low := h.low
  lt := by have := h.lt; simpa [World.setCells] using this
  fits := by rw [List.length_append]; exact hr
  cells j x hj := by
    obtain ⟨z, hz⟩ := Option.isSome_iff_exists.1 (h.open' Y.length (by omega)).1
    show (w.setCell ⟨b, Y.length, none⟩ _).cell? _ = _
    by_cases e : j = Y.length
    · subst e
      rw [List.getElem?_append_right (Nat.le_refl _)] at hj
      simp at hj
      subst hj
      exact World.cell?_setCell_same _ _ _ hz
    · have hl : j < Y.length := by
        have := (List.getElem?_eq_some_iff.1 hj).1
        simp at this
        omega
      rw [List.getElem?_append_left hl] at hj
      exact (World.cell?_setCell_other _ _ _ _ (by simp only [ne_eq, Addr.mk.injEq, true_and, and_true]; exact fun h => e h.symm)).trans (h.cells j x hj)
  open' j hj := by
    obtain ⟨z, hz⟩ := Option.isSome_iff_exists.1 (h.open' Y.length (by omega)).1
    show ((w.setCell ⟨b, Y.length, none⟩ _).cell? _).isSome = true ∧ (w.setCell ⟨b, Y.length, none⟩ _).frozen? _ = false
    rw [World.frozen?_setCell]
    refine ⟨?_, (h.open' j hj).2⟩
    by_cases e : j = Y.length
    · subst e
      rw [World.cell?_setCell_same _ _ _ hz]
      rfl
    · rw [World.cell?_setCell_other _ _ _ _ (by simp only [ne_eq, Addr.mk.injEq, true_and, and_true]; exact fun h => e h.symm)]
      exact (h.open' j hj).1
theorem RowAt.of_own {B : Nat} {w : World} {v : Value} {n : Nat} {Y : List UInt8} (hn : n = Y.length) (hY : Y ≠ []) (h : w.ownsRow B 5 1 v n (Lib.byteCells Y)) : ∃ b cap, v = .slice (some ⟨b, 0, none⟩) n cap ∧ RowAt B b cap w Y := by
  subst hn
  rcases h.2 with ⟨rfl, h0⟩ | ⟨g, cap, cur, rfl, hb, hg, hn, hm, hs, htake⟩
  · exact absurd (List.length_eq_zero_iff.1 h0) hY
  · refine ⟨g, cap, rfl, hb, (Array.getElem?_eq_some_iff.1 hg).1, hn, fun j x hj => ?_, fun j hj => ?_⟩
    · have := h.cells rfl j (.int .u8 x.toNat) (by simp [Lib.byteCells, hj])
      have hadd : (⟨g, 0, none⟩ : Addr).add j = ⟨g, j, none⟩ := by unfold Addr.add; split <;> simp_all
      rwa [hadd] at this
    · constructor
      · rw [cell_of_row w g j cur 5 (0, 0) hg, Array.getElem?_eq_getElem (by omega)]
        rfl
      · unfold World.frozen?
        rw [hg]
        simp
theorem RowAt.text {B b cap : Nat} {w : World} {Y : List UInt8} {n : Nat} (hn : n = Y.length) (h : RowAt B b cap w Y) : (convert 30 9 (.slice (some ⟨b, 0, none⟩) n cap)).run Tryz.prog w = .ok (.string ⟨Y.toArray⟩) w := by
  subst hn
  refine run_convert_bytes_back w 30 9 5 ⟨b, 0, none⟩ cap Y Tryz.underlying30 Tryz.underlying5 Tryz.underlying9 fun j hj => ?_
  have hadd : (⟨b, 0, none⟩ : Addr).add j = ⟨b, j, none⟩ := by unfold Addr.add; split <;> simp_all
  rw [hadd]
  exact h.cells j _ (by simp [hj])
theorem RowAt.byteCells {B b cap : Nat} {w : World} {Y : List UInt8} (h : RowAt B b cap w Y) : ∀ (j : Nat) u, (Lib.byteCells Y)[j]? = some u → w.cell? ⟨b, j, none⟩ = some u := by
  intro j u hj
  simp only [Lib.byteCells, List.getElem?_map, Option.map_eq_some_iff] at hj
  obtain ⟨x, hx, rfl⟩ := hj
  exact h.cells j x hx
theorem below_bytes (w : World) (s : ByteArray) (C : Array Value) (fr : Nat × Nat) : Below w.heap.size w (w.drew.alloc (.cells C 5 fr)) :=
  (Below.refl _ w).drew.alloc (Nat.le_refl _) _
end Go.Proofs.YtbfoocginkdmcaaGreatDoor

/-
  A bit of bytes, the highest of each first.
-/

namespace Go.Proofs.YtbfoocginkdmcaaGreatDoor
open Go Go.RowKit Go.Basic
end Go.Proofs.YtbfoocginkdmcaaGreatDoor

/-
  The reference's Base64: letters of six bits each.
-/

namespace Go.Proofs.YtbfoocginkdmcaaGreatDoor
open Go Go.RowKit Go.Basic
def g6 (p : List UInt8) (i : Nat) : Nat → Nat
  | 0 => 0
  | k + 1 => 2 * g6 p i k + bitAt p (i + k)
def pre (l : List UInt8) (k : Nat) : List UInt8 := (List.range k).map fun j => letU (grp l (6 * j))
end Go.Proofs.YtbfoocginkdmcaaGreatDoor

/-
  Bits: or of a multiple and what is less, and with a mask.
-/

namespace Go.Basic
open Go Go.RowKit
theorem wraps_i64 (n : Int) (h0 : 0 ≤ n) (h1 : n < 2 ^ 62) : IntKind.i64.wrap n = n := by
  rw [IntKind.wrap_i64]
  omega
theorem or_low (a b k : Nat) (hb : b < 2 ^ k) : (a * 2 ^ k) ||| b = a * 2 ^ k + b := by
  rw [← Nat.shiftLeft_eq, Nat.shiftLeft_add_eq_or_of_lt hb]
theorem or_64 (n x : Nat) (hn : n ≤ 16777216) (hx : x < 64) : bits .or .i64 ((n : Int) * 64) (x : Int) = ((n * 64 + x : Nat) : Int) := by
  have h := (bits_nat .i64 62 (by decide) wraps_i64 (n * 64) x (by omega) (by omega)).2
  rw [or_low n x 6 hx] at h
  rw [← h, Int.natCast_mul]
  rfl
theorem and_pow (n i : Nat) (hi : i ≤ 60) (hn : n ≤ 16777216) : bits .and .i64 (n : Int) (2 ^ i - 1) = ((n % 2 ^ i : Nat) : Int) := by
  have h := bits_mask .i64 62 (by decide) wraps_i64 i (by omega) (n : Int) (by omega) (by omega)
  rw [h]
  simp only [Int.natCast_emod, Int.natCast_pow]
  rfl
end Go.Basic

/-
  Bits and letters for the program's Base64.
-/

namespace Go.Basic
open Go Go.RowKit
theorem wraps_u64 (n : Int) (h0 : 0 ≤ n) (h1 : n < 2 ^ 62) : IntKind.u64.wrap n = n := by
  rw [IntKind.wrap_u64]
  omega
theorem or_u16 (a b : Nat) (ha : a < 256) (hb : b < 256) : bits .or .u64 ((a : Int) * 65536) ((b : Int) * 256) = ((a * 65536 + b * 256 : Nat) : Int) := by
  have h := (bits_nat .u64 62 (by decide) wraps_u64 (a * 65536) (b * 256) (by omega) (by omega)).2
  rw [show a * 65536 = a * 2 ^ 16 from rfl, or_low a (b * 256) 16 (by omega)] at h
  rw [← show ((a * 2 ^ 16 + b * 256 : Nat) : Int) = ((a * 65536 + b * 256 : Nat) : Int) from rfl, ← h, Int.natCast_mul, Int.natCast_mul]
  rfl
theorem or_u8 (n b : Nat) (hn : n * 256 < 16777216) (hb : b < 256) : bits .or .u64 ((n * 256 : Nat) : Int) (b : Int) = ((n * 256 + b : Nat) : Int) := by
  have h := (bits_nat .u64 62 (by decide) wraps_u64 (n * 256) b (by omega) (by omega)).2
  rw [show n * 256 = n * 2 ^ 8 from rfl, or_low n b 8 (by omega)] at h
  exact h
theorem and_u63 (n : Nat) (hn : n ≤ 16777216) : bits .and .u64 (n : Int) 63 = ((n % 64 : Nat) : Int) := by
  have h := bits_mask .u64 62 (by decide) wraps_u64 6 (by decide) (n : Int) (by omega) (by omega)
  have e : ((2 : Int) ^ 6 - 1) = 63 := by decide
  rw [e] at h
  rw [h]
  simp only [Int.natCast_emod]
  rfl
theorem and_uq (N d Q : Nat) (hN : N < 16777216) (hQ : Q = N / d % 64) : bits .and .u64 ((N : Int) / (d : Int)) 63 = (Q : Int) := by
  have h := and_u63 (N / d) (Nat.le_trans (Nat.div_le_self _ _) (by omega))
  rw [← hQ] at h
  rw [← h]
  rfl
theorem letU_const : ∀ (n : Nat) (h : n < 64), ((⟨#[65, 66, 67, 68, 69, 70, 71, 72, 73, 74, 75, 76, 77, 78, 79, 80, 81, 82, 83, 84, 85, 86, 87, 88, 89, 90, 97, 98, 99, 100, 101, 102, 103, 104, 105, 106, 107, 108, 109, 110, 111, 112, 113, 114, 115, 116, 117, 118, 119, 120, 121, 122, 48, 49, 50, 51, 52, 53, 54, 55, 56, 57, 45, 95]⟩ : ByteArray)[n]'h) = letU n := by decide
theorem six_append : ∀ (a b : List UInt8), a.length % 3 = 0 → six (a ++ b) = six a ++ six b
  | [], b, _ => rfl
  | [x], b, h => by simp at h
  | [x, y], b, h => by simp at h
  | x :: y :: z :: t, b, h => by
    have ih := six_append t b (by simp only [List.length_cons] at h; omega)
    simp only [List.cons_append, six, ih]
theorem six_three (l : List UInt8) (k : Nat) {x y z : UInt8} (hx : l[3 * k]? = some x) (hy : l[3 * k + 1]? = some y) (hz : l[3 * k + 2]? = some z) :
    six (l.take (3 * (k + 1))) = six (l.take (3 * k)) ++ [x.toNat / 4, x.toNat % 4 * 16 + y.toNat / 16, y.toNat % 16 * 4 + z.toNat / 64, z.toNat % 64] := by
  have hl := (List.getElem?_eq_some_iff.1 hz).1
  have e : l.take (3 * (k + 1)) = l.take (3 * k) ++ [x, y, z] := by
    rw [show 3 * (k + 1) = 3 * k + 1 + 1 + 1 from by omega, List.take_add_one, List.take_add_one, List.take_add_one, hx, hy, hz]
    simp
  rw [e, six_append _ _ (by rw [List.length_take, Nat.min_eq_left (by omega)]; omega)]
  rfl
theorem six_two (l : List UInt8) (k : Nat) {x y : UInt8} (hx : l[3 * k]? = some x) (hy : l[3 * k + 1]? = some y) (hl : l.length = 3 * k + 2) :
    six (l.take (3 * (k + 1))) = six (l.take (3 * k)) ++ [x.toNat / 4, x.toNat % 4 * 16 + y.toNat / 16, y.toNat % 16 * 4] := by
  have e : l.take (3 * (k + 1)) = l.take (3 * k) ++ [x, y] := by
    rw [show 3 * (k + 1) = 3 * k + 1 + 1 + 1 from by omega, List.take_add_one, List.take_add_one, List.take_add_one, hx, hy, List.getElem?_eq_none (by omega)]
    simp
  rw [e, six_append _ _ (by rw [List.length_take, Nat.min_eq_left (by omega)]; omega)]
  rfl
theorem six_one (l : List UInt8) (k : Nat) {x : UInt8} (hx : l[3 * k]? = some x) (hl : l.length = 3 * k + 1) :
    six (l.take (3 * (k + 1))) = six (l.take (3 * k)) ++ [x.toNat / 4, x.toNat % 4 * 16] := by
  have e : l.take (3 * (k + 1)) = l.take (3 * k) ++ [x] := by
    rw [show 3 * (k + 1) = 3 * k + 1 + 1 + 1 from by omega, List.take_add_one, List.take_add_one, List.take_add_one, hx, List.getElem?_eq_none (by omega), List.getElem?_eq_none (by omega)]
    simp
  rw [e, six_append _ _ (by rw [List.length_take, Nat.min_eq_left (by omega)]; omega)]
  rfl
end Go.Basic

/-
  The program's Base64: three bytes to four letters.
-/

set_option maxHeartbeats 4000000
namespace Go.Proofs.YtbfoocginkdmcaaGreatDoor
open Go Go.RowKit Go.Basic
theorem digest64_calls (l : List UInt8) (b off cap : Nat) (hl : l.length ≤ 10000000) (w : World) (hb : b < w.heap.size) (hc : ∀ (j : Nat) x, l[j]? = some x → w.cell? ⟨b, off + j, none⟩ = some (.int .u8 x.toNat)) :
    Calls Tryz.prog 77 #[.slice (some ⟨b, off, none⟩) l.length cap] w fun e w' => e = .returned (.string ⟨((six l).map letU).toArray⟩) ∧ Below w.heap.size w w' := by
  obtain ⟨i0, hi, hz0, hz1, hz2⟩ := info_parts inf5
  go_enter Tryz.func77, Tryz.ntmps77
  go_wp2
  go_loopw [3, 4] (fun v i wr => ∃ k m : Nat, k ≤ (l.length + 2) / 3 ∧ i = .int .i64 (3 * (k : Int)) ∧ m ≤ 4 * k ∧ wr.ownsRow w.heap.size 5 1 v m (Lib.byteCells ((six (l.take (3 * k))).map letU)) ∧ Hid (m = ((six (l.take (3 * k))).map letU).length) ∧ Below w.heap.size w wr) (fun _ i _ => 3 * ((l.length + 2) / 3) - (intOf i).toNat)
  case atStart => exact ⟨0, 0, Nat.zero_le _, rfl, by omega, World.ownsRow_nil _ _ _ _, rfl, Below.refl _ _⟩
  case round =>
    obtain ⟨k, m, hk, rfl, hm4, hown, hm, hbw⟩ := hrel
    by_cases hlt : 3 * k < l.length
    · have hlt' : 3 * (k : Int) < (l.length : Int) := by omega
      have hcr : ∀ (j : Nat) x, l[j]? = some x → wr.cell? ⟨b, off + j, none⟩ = some (.int .u8 x.toNat) := fun j x hj => (hbw.cell hb).trans (hc j x hj)
      obtain ⟨x0, hx0⟩ : ∃ x, l[3 * k]? = some x := ⟨l[3 * k], List.getElem?_eq_getElem hlt⟩
      have hc0 := hcr _ _ hx0
      have hx0b := x0.toNat_lt
      by_cases h1 : 3 * k + 1 < l.length
      · have h1' : 3 * (k : Int) + 1 < (l.length : Int) := by omega
        obtain ⟨x1, hx1⟩ : ∃ x, l[3 * k + 1]? = some x := ⟨l[3 * k + 1], List.getElem?_eq_getElem h1⟩
        have hc1 := hcr _ _ hx1
        have hx1b := x1.toNat_lt
        by_cases h2 : 3 * k + 2 < l.length
        · have h2' : 3 * (k : Int) + 2 < (l.length : Int) := by omega
          obtain ⟨x2, hx2⟩ : ∃ x, l[3 * k + 2]? = some x := ⟨l[3 * k + 2], List.getElem?_eq_getElem h2⟩
          have hc2 := hcr _ _ hx2
          have hx2b := x2.toNat_lt
          have hsix := six_three l k hx0 hx1 hx2
          obtain ⟨N, hN⟩ : ∃ N : Nat, N = (x0.toNat * 256 + x1.toNat) * 256 + x2.toNat := ⟨_, rfl⟩
          obtain ⟨A, hA⟩ : ∃ A : Nat, A = x0.toNat / 4 := ⟨_, rfl⟩
          obtain ⟨B, hB⟩ : ∃ B : Nat, B = x0.toNat % 4 * 16 + x1.toNat / 16 := ⟨_, rfl⟩
          obtain ⟨C, hC⟩ : ∃ C : Nat, C = x1.toNat % 16 * 4 + x2.toNat / 64 := ⟨_, rfl⟩
          obtain ⟨D, hD⟩ : ∃ D : Nat, D = x2.toNat % 64 := ⟨_, rfl⟩
          have hNl : N < 16777216 := by omega
          have e1 := or_u16 x0.toNat x1.toNat hx0b hx1b
          have e2 := or_u8 (x0.toNat * 256 + x1.toNat) x2.toNat (by omega) hx2b
          rw [show x0.toNat * 65536 + x1.toNat * 256 = (x0.toNat * 256 + x1.toNat) * 256 from by omega] at e1
          rw [← hN] at e2
          generalize ((x0.toNat * 256 + x1.toNat) * 256 : Nat) = M at e1 e2
          have qA : (N : Int) / 262144 = (A : Int) := by omega
          have qA' : IntKind.u64.wrap ((N : Int) / 262144) = (A : Int) := by rw [IntKind.wrap_u64]; omega
          have qB : bits .and .u64 ((N : Int) / 4096) 63 = (B : Int) := and_uq N 4096 B hNl (by omega)
          have qC : bits .and .u64 ((N : Int) / 64) 63 = (C : Int) := and_uq N 64 C hNl (by omega)
          have qD : bits .and .u64 (N : Int) 63 = (D : Int) := by have := and_uq N 1 D hNl (by omega); rw [show ((1 : Nat) : Int) = 1 from rfl, Int.ediv_one] at this; exact this
          have w2 : IntKind.u64.wrap ((N : Int) / 4096) = (N : Int) / 4096 := by rw [IntKind.wrap_u64]; omega
          have lA : A < 64 := by omega
          have lB : B < 64 := by omega
          have lC : C < 64 := by omega
          have lD : D < 64 := by omega
          have lA' : (A : Int) < 64 := by omega
          have lB' : (B : Int) < 64 := by omega
          have lC' : (C : Int) < 64 := by omega
          have lD' : (D : Int) < 64 := by omega
          have kA := letU_const A lA
          have kB := letU_const B lB
          have kC := letU_const C lC
          have kD := letU_const D lD
          rw [← hA] at hsix
          rw [← hB] at hsix
          rw [← hC] at hsix
          rw [← hD] at hsix
          clear hA hB hC hD hN hcr hNl
          go_wp2
          go_region_law (refine step_append_own rfl (.tmp 45) (.tmp 53) 30 rfl w.heap.size 5 i0 (.int .u8 0) 1 1 Tryz.underlying30 hi hz0 hz1 hz2 rfl (by decide) _ _ _ rfl (hown.alloc _) ⟨_, 0, none⟩ 2 2 (Lib.byteCells [letU A, letU B]) rfl rfl (new_cells _ _ _) (bc_one _) (by unfold maxLen; omega) (by omega) (by have := hbw.size; simp; omega) ?_; intro v' w2 hown' hgrow)
          all_goals
            have R := own_push_d (m := [letU A, letU B]) hbw.size hown hbw hown' hgrow
            clear hown' hgrow hown
            go_wp2_with (at_builtin; refine wpList_append_own _ rfl _ _ 30 rfl w.heap.size 5 i0 (.int .u8 0) 1 1 Tryz.underlying30 hi hz0 hz1 hz2 rfl (by decide) _ _ _ rfl (R.1.alloc _) ⟨_, 0, none⟩ 1 1 [.int .u8 (letU C).toNat] rfl rfl (one_cell _ _ _) (bc_one [letU C]) (by unfold maxLen; omega) (by omega) (by have := R.2.size; simp; omega) ?_)
            intro v0' w0' hown0 hgrow0 _
            have R0 := own_push (m := [letU C]) R.2.size R.1 R.2 hown0 hgrow0
            clear hown0 hgrow0
            simp only [List.append_assoc, List.cons_append, List.nil_append] at R0
            go_wp2_with (at_builtin; refine wpList_append_own _ rfl _ _ 30 rfl w.heap.size 5 i0 (.int .u8 0) 1 1 Tryz.underlying30 hi hz0 hz1 hz2 rfl (by decide) _ _ _ rfl (R0.1.alloc _) ⟨_, 0, none⟩ 1 1 [.int .u8 (letU D).toNat] rfl rfl (one_cell _ _ _) (bc_one [letU D]) (by unfold maxLen; omega) (by omega) (by have := R0.2.size; simp; omega) ?_)
            intro v1' w1' hown1 hgrow1 _
            have R1 := own_push (m := [letU D]) R0.2.size R0.1 R0.2 hown1 hgrow1
            clear hown1 hgrow1
            simp only [List.append_assoc, List.cons_append, List.nil_append] at R1
            have hfin : (six (l.take (3 * (k + 1)))).map letU = (six (l.take (3 * k))).map letU ++ [letU A, letU B, letU C, letU D] := by rw [hsix]; simp
            rw [← hfin] at R1
            go_wp2
            go_roundw
            case rel => exact ⟨k + 1, m + 2 + 1 + 1, by omega, by go_num, by omega, R1.1, (by show m + 2 + 1 + 1 = _; rw [hfin]; simp only [List.length_append, ← show m = _ from hm, List.length_cons, List.length_nil]), R1.2⟩
            case measure => simp only [intOf]; omega
        · have h2' : ¬ 3 * (k : Int) + 2 < (l.length : Int) := by omega
          have hsix := six_two l k hx0 hx1 (by omega)
          obtain ⟨N, hN⟩ : ∃ N : Nat, N = x0.toNat * 65536 + x1.toNat * 256 := ⟨_, rfl⟩
          obtain ⟨A, hA⟩ : ∃ A : Nat, A = x0.toNat / 4 := ⟨_, rfl⟩
          obtain ⟨B, hB⟩ : ∃ B : Nat, B = x0.toNat % 4 * 16 + x1.toNat / 16 := ⟨_, rfl⟩
          obtain ⟨C, hC⟩ : ∃ C : Nat, C = x1.toNat % 16 * 4 := ⟨_, rfl⟩
          have hNl : N < 16777216 := by omega
          have e1 := or_u16 x0.toNat x1.toNat hx0b hx1b
          rw [← hN] at e1
          have qA : (N : Int) / 262144 = (A : Int) := by omega
          have qA' : IntKind.u64.wrap ((N : Int) / 262144) = (A : Int) := by rw [IntKind.wrap_u64]; omega
          have qB : bits .and .u64 ((N : Int) / 4096) 63 = (B : Int) := and_uq N 4096 B hNl (by omega)
          have qC : bits .and .u64 ((N : Int) / 64) 63 = (C : Int) := and_uq N 64 C hNl (by omega)
          have w2 : IntKind.u64.wrap ((N : Int) / 4096) = (N : Int) / 4096 := by rw [IntKind.wrap_u64]; omega
          have lA : A < 64 := by omega
          have lB : B < 64 := by omega
          have lC : C < 64 := by omega
          have lA' : (A : Int) < 64 := by omega
          have lB' : (B : Int) < 64 := by omega
          have lC' : (C : Int) < 64 := by omega
          have kA := letU_const A lA
          have kB := letU_const B lB
          have kC := letU_const C lC
          rw [← hA] at hsix
          rw [← hB] at hsix
          rw [← hC] at hsix
          clear hA hB hC hN hcr hNl
          go_wp2
          go_region_law (refine step_append_own rfl (.tmp 45) (.tmp 53) 30 rfl w.heap.size 5 i0 (.int .u8 0) 1 1 Tryz.underlying30 hi hz0 hz1 hz2 rfl (by decide) _ _ _ rfl (hown.alloc _) ⟨_, 0, none⟩ 2 2 (Lib.byteCells [letU A, letU B]) rfl rfl (new_cells _ _ _) (bc_one _) (by unfold maxLen; omega) (by omega) (by have := hbw.size; simp; omega) ?_; intro v' w2 hown' hgrow)
          all_goals
            have R := own_push_d (m := [letU A, letU B]) hbw.size hown hbw hown' hgrow
            clear hown' hgrow hown
            go_wp2_with (at_builtin; refine wpList_append_own _ rfl _ _ 30 rfl w.heap.size 5 i0 (.int .u8 0) 1 1 Tryz.underlying30 hi hz0 hz1 hz2 rfl (by decide) _ _ _ rfl (R.1.alloc _) ⟨_, 0, none⟩ 1 1 [.int .u8 (letU C).toNat] rfl rfl (one_cell _ _ _) (bc_one [letU C]) (by unfold maxLen; omega) (by omega) (by have := R.2.size; simp; omega) ?_)
            intro v0' w0' hown0 hgrow0 _
            have R0 := own_push (m := [letU C]) R.2.size R.1 R.2 hown0 hgrow0
            clear hown0 hgrow0
            simp only [List.append_assoc, List.cons_append, List.nil_append] at R0
            have hfin : (six (l.take (3 * (k + 1)))).map letU = (six (l.take (3 * k))).map letU ++ [letU A, letU B, letU C] := by rw [hsix]; simp
            rw [← hfin] at R0
            go_wp2
            go_roundw
            case rel => exact ⟨k + 1, m + 2 + 1, by omega, by go_num, by omega, R0.1, (by show m + 2 + 1 = _; rw [hfin]; simp only [List.length_append, ← show m = _ from hm, List.length_cons, List.length_nil]), R0.2⟩
            case measure => simp only [intOf]; omega
      · have h1' : ¬ 3 * (k : Int) + 1 < (l.length : Int) := by omega
        have h2' : ¬ 3 * (k : Int) + 2 < (l.length : Int) := by omega
        have hsix := six_one l k hx0 (by omega)
        obtain ⟨N, hN⟩ : ∃ N : Nat, N = x0.toNat * 65536 := ⟨_, rfl⟩
        obtain ⟨A, hA⟩ : ∃ A : Nat, A = x0.toNat / 4 := ⟨_, rfl⟩
        obtain ⟨B, hB⟩ : ∃ B : Nat, B = x0.toNat % 4 * 16 := ⟨_, rfl⟩
        have hNl : N < 16777216 := by omega
        have e1 : (x0.toNat : Int) * 65536 = (N : Int) := by omega
        have qA : (N : Int) / 262144 = (A : Int) := by omega
        have qA' : IntKind.u64.wrap ((N : Int) / 262144) = (A : Int) := by rw [IntKind.wrap_u64]; omega
        have qB : bits .and .u64 ((N : Int) / 4096) 63 = (B : Int) := and_uq N 4096 B hNl (by omega)
        have w2 : IntKind.u64.wrap ((N : Int) / 4096) = (N : Int) / 4096 := by rw [IntKind.wrap_u64]; omega
        have lA : A < 64 := by omega
        have lB : B < 64 := by omega
        have lA' : (A : Int) < 64 := by omega
        have lB' : (B : Int) < 64 := by omega
        have kA := letU_const A lA
        have kB := letU_const B lB
        rw [← hA] at hsix
        rw [← hB] at hsix
        clear hA hB hN hcr hNl
        go_wp2
        go_region_law (refine step_append_own rfl (.tmp 45) (.tmp 53) 30 rfl w.heap.size 5 i0 (.int .u8 0) 1 1 Tryz.underlying30 hi hz0 hz1 hz2 rfl (by decide) _ _ _ rfl (hown.alloc _) ⟨_, 0, none⟩ 2 2 (Lib.byteCells [letU A, letU B]) rfl rfl (new_cells _ _ _) (bc_one _) (by unfold maxLen; omega) (by omega) (by have := hbw.size; simp; omega) ?_; intro v' w2 hown' hgrow)
        all_goals
          have R := own_push_d (m := [letU A, letU B]) hbw.size hown hbw hown' hgrow
          clear hown' hgrow hown
          have hfin : (six (l.take (3 * (k + 1)))).map letU = (six (l.take (3 * k))).map letU ++ [letU A, letU B] := by rw [hsix]; simp
          rw [← hfin] at R
          go_wp2
          go_roundw
          case rel => exact ⟨k + 1, m + 2, by omega, by go_num, by omega, R.1, (by show m + 2 = _; rw [hfin]; simp only [List.length_append, ← show m = _ from hm, List.length_cons, List.length_nil]), R.2⟩
          case measure => simp only [intOf]; omega
    · have hge : ¬ 3 * (k : Int) < (l.length : Int) := by omega
      have htk : l.take (3 * k) = l := List.take_of_length_le (by omega)
      rw [htk] at hown hm
      have hst := string_of_own hm hown
      go_wp2
      go_ret
      exact ⟨rfl, hbw⟩
end Go.Proofs.YtbfoocginkdmcaaGreatDoor

/-
  DERIVED: THE SHELF's CONTRACTS AT THIS DUMP, IN PLAIN WORDS (tools/lay-plain.mjs out of 'YtbfoocginkdmcaaGreatDoorJt.lean', which tools/lay-shelf.mjs wrote): THE SAME DECLARATIONS UNDER THE SAME NAMES: 'import', 'namespace', 'open', 'def', 'theorem' AND NOTHING ELSE: no command of the shelf's: FOR A HAND-IN. Each laying: the table of numbers ('.._ren') and one theorem, a field a fact of the dump's own or the kernel's comparison; each contract: ONE APPLICATION.
-/

namespace Go.Proofs
open Go.Shelf
def Tryz.lays169_ren : Go.Shelf.Ren := ⟨fun | 169 => 40 | n => n, fun | 70 => 81 | 9 => 9 | 0 => 0 | 72 => 83 | 37 => 30 | 127 => 142 | 3 => 3 | 5 => 5 | n => n, fun | n => n⟩
theorem Tryz.lays169 : Go.Proofs.Lays.n169 Tryz.prog Tryz.lays169_ren := {
  mixed := by kernel_rfl
  f169 := Tryz.func40.trans (congrArg some (by kernel_rfl))
  t0 := Tryz.underlying0
  a0 := Tryz.isAgg0
  z0 := Tryz.sizeOf0
  v0 := Tryz.zeroValue0
  t3 := Tryz.underlying3
  a3 := Tryz.isAgg3
  z3 := Tryz.sizeOf3
  v3 := Tryz.zeroValue3
  t9 := Tryz.underlying9
  a9 := Tryz.isAgg9
  z9 := Tryz.sizeOf9
  v9 := Tryz.zeroValue9
  t37 := Tryz.underlying30
  a37 := Tryz.isAgg30
  z37 := Tryz.sizeOf30
  v37 := Tryz.zeroValue30
  t70 := Tryz.underlying81
  a70 := Tryz.isAgg81
  z70 := Tryz.sizeOf81
  v70 := Tryz.zeroValue81
  t72 := Tryz.underlying83
  a72 := Tryz.isAgg83
  z72 := Tryz.sizeOf83
  v72 := Tryz.zeroValue83
  t127 := Tryz.underlying142
  a127 := Tryz.isAgg142
  z127 := Tryz.sizeOf142
  v127 := Tryz.zeroValue142 }
def Tryz.lays170_ren : Go.Shelf.Ren := ⟨fun | 170 => 39 | n => n, fun | 70 => 81 | 3 => 3 | 0 => 0 | 72 => 83 | 37 => 30 | 5 => 5 | n => n, fun | n => n⟩
theorem Tryz.lays170 : Go.Proofs.Lays.n170 Tryz.prog Tryz.lays170_ren := {
  mixed := by kernel_rfl
  f170 := Tryz.func39.trans (congrArg some (by kernel_rfl))
  t0 := Tryz.underlying0
  a0 := Tryz.isAgg0
  z0 := Tryz.sizeOf0
  v0 := Tryz.zeroValue0
  t3 := Tryz.underlying3
  a3 := Tryz.isAgg3
  z3 := Tryz.sizeOf3
  v3 := Tryz.zeroValue3
  t37 := Tryz.underlying30
  a37 := Tryz.isAgg30
  z37 := Tryz.sizeOf30
  v37 := Tryz.zeroValue30
  t70 := Tryz.underlying81
  a70 := Tryz.isAgg81
  z70 := Tryz.sizeOf81
  v70 := Tryz.zeroValue81
  t72 := Tryz.underlying83
  a72 := Tryz.isAgg83
  z72 := Tryz.sizeOf83
  v72 := Tryz.zeroValue83 }
def Tryz.laysM171_ren : Go.Shelf.Ren := ⟨fun | 171 => 43 | 243 => 79 | 246 => 111 | 283 => 172 | 284 => 173 | 285 => 174 | 286 => 175 | 129 => 273 | 317 => 272 | 318 => 274 | 319 => 275 | 320 => 276 | 337 => 377 | 338 => 378 | n => n, fun | 3 => 3 | 9 => 9 | 2 => 2 | 4 => 4 | 171 => 308 | 0 => 0 | 53 => 31 | 37 => 30 | 5 => 5 | 173 => 311 | 212 => 416 | 51 => 417 | 20 => 20 | 213 => 418 | 46 => 194 | 232 => 446 | 233 => 548 | n => n, fun | 17 => 2 | 18 => 9 | 19 => 10 | n => n⟩
theorem Tryz.laysM171 : Go.Proofs.LaysM.n171 Tryz.prog Tryz.laysM171_ren := {
  mixed := by kernel_rfl
  f129 := Tryz.func273.trans (congrArg some (by kernel_rfl))
  f171 := Tryz.func43.trans (congrArg some (by kernel_rfl))
  f243 := Tryz.func79.trans (congrArg some (by kernel_rfl))
  f246 := Tryz.func111.trans (congrArg some (by kernel_rfl))
  f283 := Tryz.func172.trans (congrArg some (by kernel_rfl))
  f284 := Tryz.func173.trans (congrArg some (by kernel_rfl))
  f285 := Tryz.func174.trans (congrArg some (by kernel_rfl))
  f286 := Tryz.func175.trans (congrArg some (by kernel_rfl))
  f317 := Tryz.func272.trans (congrArg some (by kernel_rfl))
  f318 := Tryz.func274.trans (congrArg some (by kernel_rfl))
  f319 := Tryz.func275.trans (congrArg some (by kernel_rfl))
  f320 := Tryz.func276.trans (congrArg some (by kernel_rfl))
  f337 := Tryz.func377.trans (congrArg some (by kernel_rfl))
  f338 := Tryz.func378.trans (congrArg some (by kernel_rfl))
  t0 := Tryz.underlying0
  a0 := Tryz.isAgg0
  z0 := Tryz.sizeOf0
  v0 := Tryz.zeroValue0
  t2 := Tryz.underlying2
  a2 := Tryz.isAgg2
  z2 := Tryz.sizeOf2
  v2 := Tryz.zeroValue2
  t3 := Tryz.underlying3
  a3 := Tryz.isAgg3
  z3 := Tryz.sizeOf3
  v3 := Tryz.zeroValue3
  t4 := Tryz.underlying4
  a4 := Tryz.isAgg4
  z4 := Tryz.sizeOf4
  v4 := Tryz.zeroValue4
  t5 := Tryz.underlying5
  a5 := Tryz.isAgg5
  z5 := Tryz.sizeOf5
  v5 := Tryz.zeroValue5
  t9 := Tryz.underlying9
  a9 := Tryz.isAgg9
  z9 := Tryz.sizeOf9
  v9 := Tryz.zeroValue9
  t20 := Tryz.underlying20
  a20 := Tryz.isAgg20
  z20 := Tryz.sizeOf20
  v20 := Tryz.zeroValue20
  t37 := Tryz.underlying30
  a37 := Tryz.isAgg30
  z37 := Tryz.sizeOf30
  v37 := Tryz.zeroValue30
  t46 := Tryz.underlying194
  a46 := Tryz.isAgg194
  z46 := Tryz.sizeOf194
  v46 := Tryz.zeroValue194
  t51 := Tryz.underlying417
  a51 := Tryz.isAgg417
  z51 := Tryz.sizeOf417
  v51 := Tryz.zeroValue417
  t53 := Tryz.underlying31
  a53 := Tryz.isAgg31
  z53 := Tryz.sizeOf31
  v53 := Tryz.zeroValue31
  t171 := Tryz.underlying308
  a171 := Tryz.isAgg308
  z171 := Tryz.sizeOf308
  v171 := Tryz.zeroValue308
  t173 := Tryz.underlying311
  a173 := Tryz.isAgg311
  z173 := Tryz.sizeOf311
  v173 := Tryz.zeroValue311
  t212 := Tryz.underlying416
  a212 := Tryz.isAgg416
  z212 := Tryz.sizeOf416
  v212 := Tryz.zeroValue416
  t213 := Tryz.underlying418
  a213 := Tryz.isAgg418
  z213 := Tryz.sizeOf418
  t232 := Tryz.underlying446
  a232 := Tryz.isAgg446
  z232 := Tryz.sizeOf446
  v232 := Tryz.zeroValue446
  t233 := Tryz.underlying548
  a233 := Tryz.isAgg548
  z233 := Tryz.sizeOf548
  v233 := Tryz.zeroValue548
  g17 := by kernel_rfl
  g18 := by kernel_rfl
  g19 := by kernel_rfl
  i0 := by kernel_rfl
  i2 := by kernel_rfl
  i3 := by kernel_rfl
  i4 := by kernel_rfl
  i5 := by kernel_rfl
  i9 := by kernel_rfl
  i20 := by kernel_rfl
  i37 := by kernel_rfl
  i46 := by kernel_rfl
  i51 := by kernel_rfl
  i53 := by kernel_rfl
  i171 := by kernel_rfl
  i173 := by kernel_rfl
  i212 := by kernel_rfl
  i232 := by kernel_rfl
  i233 := by kernel_rfl
  m17 := by kernel_rfl
  m18 := by kernel_rfl
  m19 := by kernel_rfl }
end Go.Proofs

/-
  strconv.FormatUint at base 10: the number's decimal numeral.
-/

namespace Go.Proofs.YtbfoocginkdmcaaGreatDoor
open Go Go.RowKit Go.Proofs Go.Shelf Go.Sort Go.Lib
theorem holds_zero0 (w : World) (T : TypeId) (nd : Nat) (hs : nd ≤ 24) : Holds (fun (b : UInt8) => Value.int .u8 (b.toNat : Int)) (w.alloc (.cells zeros24 T)) w.heap.size 0 (Array.replicate nd (0 : UInt8)) := fun j hj => by
  have hj' : j < nd := by simpa using hj
  refine ⟨?_, World.frozen?_alloc_new _ _ _ _⟩
  rw [World.cell?_alloc_new, zeros24_at _ (by omega), getElem!_pos _ j hj]
  simp
theorem fin_zero (w : World) (o : Obj) (dk : Array UInt8) (k : Nat) : ∃ os, (putRow (fun (b : UInt8) => Value.int .u8 (b.toNat : Int)) (w.alloc o) w.heap.size 0 dk).drewN k = grow (w.drewN k) os := by
  rw [alloc_eq_grow]
  obtain ⟨os', _, e⟩ := putRow_grow_new (fun (b : UInt8) => Value.int .u8 (b.toNat : Int)) w #[o] w.heap.size 0 dk (Nat.le_refl _)
  exact ⟨os', by rw [e]; rfl⟩
theorem small_calls (i : Nat) (hi : i < 100) (w : World) : Calls Tryz.prog 172 #[.int .i64 i] w fun e w' => e = .returned (.string ⟨(decDigits i).toArray⟩) ∧ w' = w :=
  Any.internal_strconv_small { Tryz.laysM171 with } i hi w
theorem digits_calls (u : Nat) (h1 : 1 ≤ u) (h2 : u < 18446744073709551616) (w : World) (htab : TabIs Tryz.prog w "internal/strconv.uint64pow10" .u64 pow10Tab) :
    Calls Tryz.prog 173 #[.int .u64 u] w fun e w' => e = .returned (.int .i64 (nDigits u)) ∧ w' = w :=
  Any.internal_strconv_numDigits { Tryz.laysM171 with } u h1 h2 w htab
theorem base10_calls (blk off cap : Nat) (u : Nat) (d : Array UInt8) (w : World) (hH : Holds (fun (b : UInt8) => Value.int .u8 (b.toNat : Int)) w blk off d) (hu : u < 10 ^ d.size) (hu64 : u < 18446744073709551616) (hsz : d.size < 4611686018427387904) :
    Calls Tryz.prog 174 #[.slice (some ⟨blk, off, none⟩) d.size cap, .int .u64 u] w fun e w' =>
      e = .returned (.tuple #[]) ∧ ∃ (n v' : Nat) (dk : Array UInt8), w' = (putRow (fun (b : UInt8) => Value.int .u8 (b.toNat : Int)) w blk off dk).drewN n ∧ FmtInv d.size u 0 v' dk :=
  Any.internal_strconv_formatBase10 { Tryz.laysM171 with } blk off cap u d w hH hu hu64 hsz
theorem len308 : Tryz.prog.arrayLen 308 = 24 := by kernel_rfl
theorem format_inner (u : Nat) (hu64 : u < 18446744073709551616) (w : World) (htab : TabIs Tryz.prog w "internal/strconv.uint64pow10" .u64 pow10Tab) :
    Calls Tryz.prog 108 #[.int .u64 u, .int .i64 10] w fun e w' => e = .returned (.string ⟨(decDigits u).toArray⟩) ∧ ∃ k os, w' = grow (w.drewN k) os := by
  by_cases hs : u < 100
  · have hs' : (u : Int) < 100 := by omega
    go_enter Tryz.func108, Tryz.ntmps108
    go_wp2_with (go_at_call 172; refine (small_calls u hs _).mono ?_; rintro e w' ⟨rfl, rfl⟩)
    go_ret
    exact ⟨rfl, 0, #[], by simp [World.drewN_zero]⟩
  · have hs' : ¬ (u : Int) < 100 := by omega
    have hu1 : 1 ≤ u := by omega
    have hnd20 : nDigits u ≤ 20 := by have := numDigits_eq u hu1 hu64; split at this <;> omega
    have hsl : ∀ W, (Instr.sliceAt 308 (.pointer (some ⟨w.heap.size, 0, none⟩)) none (some (.int .i64 (nDigits u : Int))) none).run Tryz.prog W = .ok (.slice (some ⟨w.heap.size, 0, none⟩) (nDigits u) 24) W := fun W => by
      rw [run_sliceAt_array_h W 308 ⟨w.heap.size, 0, none⟩ (by simp [Program.arrayLen, Program.elem, Tryz.underlying308]) .i64 (nDigits u : Int) (by omega) (by rw [len308]; omega)]
      go_simp
    have hH0 := holds_zero0 w 308 (nDigits u) (by omega)
    have hfmt := base10_calls w.heap.size 0 24 u (Array.replicate (nDigits u) 0) (w.alloc (.cells zeros24 308)) hH0 (by rw [Array.size_replicate]; exact lt_pow_nDigits u) hu64 (by rw [Array.size_replicate]; omega)
    rw [Array.size_replicate] at hfmt
    have HH0 := hid hH0
    clear hH0
    go_enter Tryz.func108, Tryz.ntmps108
    go_wp2_with (first
      | (go_at_call 173; refine (digits_calls u hu1 hu64 _ (tabIs_alloc htab _)).mono ?_; rintro e w' ⟨rfl, rfl⟩))
    go_at_call 174
    refine hfmt.mono ?_
    rintro e w' ⟨rfl, k, v', dk, rfl, hF⟩
    have hcv : (convert 30 9 (.slice (some ⟨w.heap.size, 0, none⟩) (nDigits u) 24)).run Tryz.prog ((putRow (fun (b : UInt8) => Value.int .u8 (b.toNat : Int)) (w.alloc (.cells zeros24 308)) w.heap.size 0 dk).drewN k) = .ok (.string ⟨(decDigits u).toArray⟩) ((putRow (fun (b : UInt8) => Value.int .u8 (b.toNat : Int)) (w.alloc (.cells zeros24 308)) w.heap.size 0 dk).drewN k) := by
      have h := run_convert_bytes_back (P := Tryz.prog) ((putRow (fun (b : UInt8) => Value.int .u8 (b.toNat : Int)) (w.alloc (.cells zeros24 308)) w.heap.size 0 dk).drewN k) 30 9 5 ⟨w.heap.size, 0, none⟩ 24 (decDigits u) Tryz.underlying30 Tryz.underlying5 Tryz.underlying9 (fun j hj => by
        rw [row_is_numeral hF j hj, add_plain, World.cell?_drewN]
        exact cell?_putRow (fun (b : UInt8) => Value.int .u8 (b.toNat : Int)) _ w.heap.size 0 _ dk HH0.out (by rw [hF.size, Array.size_replicate]) j (by rw [hF.size]; rw [decDigits_length] at hj; exact hj))
      rw [decDigits_length] at h
      exact h
    go_wp2
    go_ret
    obtain ⟨os, eo⟩ := fin_zero w (.cells zeros24 308) dk k
    exact ⟨rfl, k, os, eo⟩
theorem format_calls (u : Nat) (hu64 : u < 18446744073709551616) (w : World) (htab : TabIs Tryz.prog w "internal/strconv.uint64pow10" .u64 pow10Tab) :
    Calls Tryz.prog 74 #[.int .u64 u, .int .i64 10] w fun e w' => e = .returned (.string ⟨(decDigits u).toArray⟩) ∧ ∃ k os, w' = grow (w.drewN k) os := by
  go_enter Tryz.func74, Tryz.ntmps74
  go_wp2_with (go_at_call 108; refine (format_inner u hu64 _ htab).mono ?_; rintro e w' ⟨rfl, k, os, rfl⟩)
  go_ret
  exact ⟨rfl, k, os, rfl⟩
theorem itoa_calls (n : Int) (h0 : -9223372036854775808 ≤ n) (h1 : n ≤ 9223372036854775807) (w : World) (htab : TabIs Tryz.prog w "internal/strconv.uint64pow10" .u64 pow10Tab) :
    Calls Tryz.prog 43 #[.int .i64 n] w fun e w' => e = .returned (.string ⟨(itoa n).toArray⟩) ∧ ∃ k os, w' = grow (w.drewN k) os :=
  Any.strconv_Itoa Tryz.laysM171 n h0 h1 w htab
end Go.Proofs.YtbfoocginkdmcaaGreatDoor

/-
  The reference's decimals.
-/

set_option maxHeartbeats 2000000
namespace Go.Proofs.YtbfoocginkdmcaaGreatDoor
open Go Go.RowKit Go.Lib
theorem nDigits_le (u : Nat) (hu : u < 18446744073709551616) : nDigits u ≤ 20 := by
  by_cases h : u = 0
  · subst h
    rw [nDigits, dif_pos (by omega)]
    omega
  · have := numDigits_eq u (by omega) hu
    split at this <;> omega
theorem size_of_list {S : ByteArray} {l : List UInt8} (h : S.data.toList = l) : S.size = l.length := by
  rw [← h]
  simp
end Go.Proofs.YtbfoocginkdmcaaGreatDoor

/-
  The reference's whole numbers; how long a text is.
-/

namespace Go.Proofs.YtbfoocginkdmcaaGreatDoor
open Go Go.RowKit Go.Lib
end Go.Proofs.YtbfoocginkdmcaaGreatDoor

/-
  whole: does a line tell all that an act says?
-/

set_option maxHeartbeats 4000000
namespace Go.Proofs.YtbfoocginkdmcaaGreatDoor
open Go Go.RowKit
theorem whole_calls (k k' t t' o o' n n' q q' : Int) (s s' : ByteArray) (a a' b b' : Option Addr) (d d' c1 c1' l l' c2 c2' : Nat) (w : World) :
    Calls Tryz.prog 36 #[.agg #[.int .i64 k, .string s, .slice a d c1, .int .u64 t, .int .i64 o, .int .i64 n, .int .i64 q, .slice b l c2], .agg #[.int .i64 k', .string s', .slice a' d' c1', .int .u64 t', .int .i64 o', .int .i64 n', .int .i64 q', .slice b' l' c2']] w fun e w' =>
      e = .returned (.bool (decide (k = k') && decide (s.toList = s'.toList) && decide (t = t') && decide (o = o') && decide (n = n') && decide (k ≠ 0) && decide ((d : Int) = d') && decide (q = q') && decide ((l : Int) = l'))) ∧ Below w.heap.size w w' := by
  go_enter Tryz.func36, Tryz.ntmps36
  go_wp2
  all_goals go_ret
  all_goals refine ⟨congrArg (fun z => Ending.returned (Value.bool z)) ?_, ((Below.refl _ _).alloc (Nat.le_refl _) _).alloc (by simp) _⟩
  all_goals simp_all [bne, Bool.beq_eq_decide_eq]
  all_goals trace_state
end Go.Proofs.YtbfoocginkdmcaaGreatDoor

/-
  Slices of bytes that came in, as texts: coded, word.
-/

set_option maxHeartbeats 2000000
namespace Go.Proofs.YtbfoocginkdmcaaGreatDoor
open Go Go.RowKit Go.Basic Go.ArgS Go.Scr
def IsB (w : World) (x : Value) (l : List UInt8) : Prop := IsSl w .u8 x (l.map fun b => (b.toNat : Int))
theorem add_none {a : Addr} (h : a.spot = none) (j : Nat) : a.add j = ⟨a.block, a.off + j, none⟩ := by
  obtain ⟨b, o, s⟩ := a
  simp only at h
  subst h
  exact Go.Lib.add_plain b o j
theorem IsB.opens {w : World} {x : Value} {l : List UInt8} (h : IsB w x l) (hl : l ≠ []) :
    ∃ b off cap, x = .slice (some ⟨b, off, none⟩) l.length cap ∧ b < w.heap.size ∧ ∀ (j : Nat) y, l[j]? = some y → w.cell? ⟨b, off + j, none⟩ = some (.int .u8 y.toNat) := by
  rcases h with ⟨_, h0⟩ | ⟨a, cap, rfl, hc⟩
  · exact absurd (List.map_eq_nil_iff.1 h0) hl
  · obtain ⟨y, t, rfl⟩ := List.exists_cons_of_ne_nil hl
    have h0 := hc 0 (y.toNat : Int) rfl
    have hs : a.spot = none := by
      have := World.cell?_spot h0
      simpa [Addr.add] using this
    refine ⟨a.block, a.off, cap, ?_, ?_, fun j z hj => ?_⟩
    · obtain ⟨b, o, s⟩ := a
      simp only at hs
      subst hs
      simp
    · have := World.block_lt_of_cell? w _ h0
      rwa [add_block] at this
    · have := hc j (z.toNat : Int) (by rw [List.getElem?_map, hj]; rfl)
      rwa [add_none hs] at this
theorem IsB.slice {w : World} {x : Value} {l : List UInt8} (h : IsB w x l) : ∃ a c, x = .slice a l.length c := by
  obtain ⟨a, c, e⟩ := IsSl.slice h
  rw [List.length_map] at e
  exact ⟨a, c, e⟩
theorem IsB.of_row {B b cap : Nat} {w : World} {Y : List UInt8} (h : RowAt B b cap w Y) (n : Nat) (hn : n = Y.length) : IsB w (.slice (some ⟨b, 0, none⟩) n cap) Y := by
  subst hn
  refine .inr ⟨⟨b, 0, none⟩, cap, by rw [List.length_map], fun j x hj => ?_⟩
  rw [List.getElem?_map, Option.map_eq_some_iff] at hj
  obtain ⟨y, hy, rfl⟩ := hj
  have e : (⟨b, 0, none⟩ : Addr).add j = ⟨b, j, none⟩ := by rw [Go.Lib.add_plain, Nat.zero_add]
  rw [e]
  exact h.cells j y hy
theorem coded_calls (x : Value) (l : List UInt8) (w : World) (h : IsB w x l) (hl : l.length ≤ 10000000) :
    Calls Tryz.prog 38 #[x] w fun e w' => ∃ S : ByteArray, e = .returned (.string S) ∧ S.data.toList = word l ∧ Below w.heap.size w w' := by
  obtain ⟨a, c, rfl⟩ := h.slice
  by_cases h0 : l = []
  · subst h0
    go_enter Tryz.func38, Tryz.ntmps38
    go_wp2
    go_ret
    exact ⟨_, rfl, rfl, Below.refl _ _⟩
  · obtain ⟨b, off, cap, ex, hb, hc⟩ := h.opens h0
    cases ex
    have hlen : l.length ≠ 0 := fun e => h0 (List.length_eq_zero_iff.1 e)
    have hlen' : ¬ (l.length : Int) = 0 := by omega
    have f := digest64_calls l b off c hl w hb hc
    clear h hc
    go_enter Tryz.func38, Tryz.ntmps38
    go_wp2_with (go_at_call 77; refine f.mono ?_; rintro e w1 ⟨rfl, bel⟩)
    go_ret
    exact ⟨_, rfl, by rw [word, if_neg h0], bel⟩
end Go.Proofs.YtbfoocginkdmcaaGreatDoor

/-
  The making of bytes from a text, under a name of its own: so that the walk of a drawn region does not try it ahead of its turn.
-/

namespace Go.Proofs.YtbfoocginkdmcaaGreatDoor
open Go
@[go_sem] def cvt (x : Operand) : Op := .convert 9 30 x
theorem cvt_eq (x : Operand) : Op.convert 9 30 x = cvt x := rfl
end Go.Proofs.YtbfoocginkdmcaaGreatDoor

/-
  Eight cells set one by one; three rows of eight cells made.
-/

namespace Go.Proofs.YtbfoocginkdmcaaGreatDoor
open Go Go.RowKit Go.Basic Go.ArgS Go.Scr Go.Lib
theorem box_set8 {w : World} {b : Nat} {cs : List Value} (h : Box w b cs) (hl : cs.length = 8) (v0 v1 v2 v3 v4 v5 v6 v7 : Value) : Box (set8 w b 0 v0 v1 v2 v3 v4 v5 v6 v7) b [v0, v1, v2, v3, v4, v5, v6, v7] := by
  match cs, hl with
  | [c0, c1, c2, c3, c4, c5, c6, c7], _ =>
    have R16 := (((((((h.set 0 v0 (by simp)).set 1 v1 (by simp)).set 2 v2 (by simp)).set 3 v3 (by simp)).set 4 v4 (by simp)).set 5 v5 (by simp)).set 6 v6 (by simp)).set 7 v7 (by simp)
    simp only [List.set] at R16
    exact R16
theorem below_set8 {w0 w : World} {B b : Nat} (h : Below B w0 w) (hb : B ≤ b) (v0 v1 v2 v3 v4 v5 v6 v7 : Value) : Below B w0 (set8 w b 0 v0 v1 v2 v3 v4 v5 v6 v7) :=
  (((((((h.setCell (p := ⟨b, 0, none⟩) hb v0).setCell (p := ⟨b, 0 + 1, none⟩) hb v1).setCell (p := ⟨b, 0 + 2, none⟩) hb v2).setCell (p := ⟨b, 0 + 3, none⟩) hb v3).setCell (p := ⟨b, 0 + 4, none⟩) hb v4).setCell (p := ⟨b, 0 + 5, none⟩) hb v5).setCell (p := ⟨b, 0 + 6, none⟩) hb v6).setCell (p := ⟨b, 0 + 7, none⟩) hb v7
theorem fin8 {w0 W : World} {B R : Nat} {cs : List Value} (h : Box W R cs) (hl : cs.length = 8) (hb : Below B w0 W) (hR : B ≤ R) (v0 v1 v2 v3 v4 v5 v6 v7 : Value) {X : World} (hX : X = (((((((W.setCell ⟨R, 0, none⟩ v0).setCell ⟨R, 1, none⟩ v1).setCell ⟨R, 2, none⟩ v2).setCell ⟨R, 3, none⟩ v3).setCell ⟨R, 4, none⟩ v4).setCell ⟨R, 5, none⟩ v5).setCell ⟨R, 6, none⟩ v6).setCell ⟨R, 7, none⟩ v7) : Below B w0 X ∧ X.cell? ⟨R, 0, none⟩ = some v0 ∧ X.cell? ⟨R, 1, none⟩ = some v1 ∧ X.cell? ⟨R, 2, none⟩ = some v2 ∧ X.cell? ⟨R, 3, none⟩ = some v3 ∧ X.cell? ⟨R, 4, none⟩ = some v4 ∧ X.cell? ⟨R, 5, none⟩ = some v5 ∧ X.cell? ⟨R, 6, none⟩ = some v6 ∧ X.cell? ⟨R, 7, none⟩ = some v7 := by
  subst hX
  have R16 := box_set8 h hl v0 v1 v2 v3 v4 v5 v6 v7
  exact ⟨below_set8 hb hR v0 v1 v2 v3 v4 v5 v6 v7, R16.at 0 rfl, R16.at 1 rfl, R16.at 2 rfl, R16.at 3 rfl, R16.at 4 rfl, R16.at 5 rfl, R16.at 6 rfl, R16.at 7 rfl⟩
theorem all8 {W : World} {b : Nat} {c0 c1 c2 c3 c4 c5 c6 c7 : Value} (h : Box W b [c0, c1, c2, c3, c4, c5, c6, c7]) : W.cell? ⟨b, 0, none⟩ = some c0 ∧ W.cell? ⟨b, 1, none⟩ = some c1 ∧ W.cell? ⟨b, 2, none⟩ = some c2 ∧ W.cell? ⟨b, 3, none⟩ = some c3 ∧ W.cell? ⟨b, 4, none⟩ = some c4 ∧ W.cell? ⟨b, 5, none⟩ = some c5 ∧ W.cell? ⟨b, 6, none⟩ = some c6 ∧ W.cell? ⟨b, 7, none⟩ = some c7 := ⟨h.at 0 rfl, h.at 1 rfl, h.at 2 rfl, h.at 3 rfl, h.at 4 rfl, h.at 5 rfl, h.at 6 rfl, h.at 7 rfl⟩
theorem three_new (w : World) (A Z T : Array Value) : ∃ W, ((w.alloc (.cells A 36)).alloc (.cells Z 36)).alloc (.cells T 36) = W ∧ Box W w.heap.size A.toList ∧ Box W (w.heap.size + 1) Z.toList ∧ Box W (w.heap.size + 1 + 1) T.toList ∧ Below w.heap.size w W := by
  refine ⟨_, rfl, ((Box.new w A 36).alloc _).alloc _, ?_, ?_, (((Below.refl _ _).alloc (Nat.le_refl _) _).alloc (by simp) _).alloc (by simp; omega) _⟩
  · have h := (Box.new (w.alloc (.cells A 36)) Z 36).alloc (.cells T 36)
    simp only [World.size_alloc] at h
    exact h
  · have h := Box.new ((w.alloc (.cells A 36)).alloc (.cells Z 36)) T 36
    simp only [World.size_alloc] at h
    exact h
theorem three_newD (w : World) (A Z T : Array Value) : ∃ W, (((w.alloc (.cells A 36)).alloc (.cells Z 36)).alloc (.cells T 36)).drew = W ∧ Box W w.heap.size A.toList ∧ Box W (w.heap.size + 1) Z.toList ∧ Box W (w.heap.size + 1 + 1) T.toList ∧ Below w.heap.size w W := by
  obtain ⟨W, rfl, h1, h2, h3, h4⟩ := three_new w A Z T
  exact ⟨_, rfl, h1, h2, h3, h4.drew⟩
theorem nine_hold {W : World} {a b : Nat} {cs : List Value} {v0 v1 v2 v3 v4 v5 v6 v7 : Value} (f : Nat) (x : Value) (BA : Box W a cs) (BT : Box W b [v0, v1, v2, v3, v4, v5, v6, v7]) (hx : cs[f]? = some x) (w' : World) (h : Below W.heap.size W w') :
    w'.cell? ⟨a, f, none⟩ = some x ∧ w'.cell? ⟨b, 0, none⟩ = some v0 ∧ w'.cell? ⟨b, 1, none⟩ = some v1 ∧ w'.cell? ⟨b, 2, none⟩ = some v2 ∧ w'.cell? ⟨b, 3, none⟩ = some v3 ∧ w'.cell? ⟨b, 4, none⟩ = some v4 ∧ w'.cell? ⟨b, 5, none⟩ = some v5 ∧ w'.cell? ⟨b, 6, none⟩ = some v6 ∧ w'.cell? ⟨b, 7, none⟩ = some v7 :=
  ⟨(BA.below h BA.1).at f hx, all8 (BT.below h BT.1)⟩
theorem nine_set {w' : World} {a b c f j : Nat} {v x v0 v1 v2 v3 v4 v5 v6 v7 : Value} (h1 : a ≠ c) (h2 : b ≠ c)
    (h : w'.cell? ⟨a, f, none⟩ = some x ∧ w'.cell? ⟨b, 0, none⟩ = some v0 ∧ w'.cell? ⟨b, 1, none⟩ = some v1 ∧ w'.cell? ⟨b, 2, none⟩ = some v2 ∧ w'.cell? ⟨b, 3, none⟩ = some v3 ∧ w'.cell? ⟨b, 4, none⟩ = some v4 ∧ w'.cell? ⟨b, 5, none⟩ = some v5 ∧ w'.cell? ⟨b, 6, none⟩ = some v6 ∧ w'.cell? ⟨b, 7, none⟩ = some v7) :
    (w'.setCell ⟨c, j, none⟩ v).cell? ⟨a, f, none⟩ = some x ∧ (w'.setCell ⟨c, j, none⟩ v).cell? ⟨b, 0, none⟩ = some v0 ∧ (w'.setCell ⟨c, j, none⟩ v).cell? ⟨b, 1, none⟩ = some v1 ∧ (w'.setCell ⟨c, j, none⟩ v).cell? ⟨b, 2, none⟩ = some v2 ∧ (w'.setCell ⟨c, j, none⟩ v).cell? ⟨b, 3, none⟩ = some v3 ∧ (w'.setCell ⟨c, j, none⟩ v).cell? ⟨b, 4, none⟩ = some v4 ∧ (w'.setCell ⟨c, j, none⟩ v).cell? ⟨b, 5, none⟩ = some v5 ∧ (w'.setCell ⟨c, j, none⟩ v).cell? ⟨b, 6, none⟩ = some v6 ∧ (w'.setCell ⟨c, j, none⟩ v).cell? ⟨b, 7, none⟩ = some v7 := by
  have k : ∀ (g i : Nat), g ≠ c → (w'.setCell ⟨c, j, none⟩ v).cell? ⟨g, i, none⟩ = w'.cell? ⟨g, i, none⟩ := fun g i e => World.cell?_setCell_other _ _ _ _ (by simp)
  rw [k _ _ h1, k _ _ h2, k _ _ h2, k _ _ h2, k _ _ h2, k _ _ h2, k _ _ h2, k _ _ h2, k _ _ h2]
  exact h
end Go.Proofs.YtbfoocginkdmcaaGreatDoor
