/-
  The header that shows a client, in plain words: the form's escape, base64, both ways. No program in sight.
-/
import Derived.Lib.ItoaNum
import Derived.Test.YtbfoocginkdmcaaGreatDoorProg
import Derived.WalkKit
import Derived.Laws.IdiomStrings
import Derived.Lib.UnsafeStr
import Derived.Deep.RegionLaw
import Derived.Laws.BitsLemmas
import Derived.Shelf.LaysM
import Derived.Shelf.Strings.BuilderK
import Derived.Shelf.Strconv.Itoa3
import Derived.Shelf.Strconv.Itoa1
import Derived.Shelf.Strconv.Itoa2
import Derived.Lib.Walk
import Derived.Lib.ItoaMem
import Derived.BigCall
import Derived.BigGuard
import Derived.Test.YtbfoocginkdmcaaGreatDoorWA
import Derived.Handy
import Derived.Deep.RegionWith
import Derived.Deep.AppendLies

set_option linter.unusedVariables false
set_option maxRecDepth 100000
namespace Go.Basic
def bytesOf : List Nat → Nat → Nat → List UInt8 × Nat
  | [], n, _ => ([], n)
  | x :: l, n, have' =>
    let m := n * 64 + x
    let h := have' + 6
    if 8 ≤ h then let r := bytesOf l (m % 2 ^ (h - 8)) (h - 8); (UInt8.ofNat (m / 2 ^ (h - 8)) :: r.1, r.2) else bytesOf l m h
theorem bytesOf_lt {x n h : Nat} {l : List Nat} (hh : ¬ 8 ≤ h + 6) : bytesOf (x :: l) n h = bytesOf l (n * 64 + x) (h + 6) := by
  conv => lhs; unfold bytesOf
  simp only [if_neg hh]
theorem bytesOf_ge {x n h : Nat} {l : List Nat} (hh : 8 ≤ h + 6) : bytesOf (x :: l) n h = (UInt8.ofNat ((n * 64 + x) / 2 ^ (h + 6 - 8)) :: (bytesOf l ((n * 64 + x) % 2 ^ (h + 6 - 8)) (h + 6 - 8)).1, (bytesOf l ((n * 64 + x) % 2 ^ (h + 6 - 8)) (h + 6 - 8)).2) := by
  conv => lhs; unfold bytesOf
  simp only [if_pos hh]
end Go.Basic

/-
  The reference's base64, bit by bit, is the base64 of three bytes at a time.
-/

set_option linter.unusedVariables false
set_option maxRecDepth 100000
namespace Go.Basic
def letU (n : Nat) : UInt8 := if n < 26 then UInt8.ofNat (65 + n) else if n < 52 then UInt8.ofNat (97 + n - 26) else if n < 62 then UInt8.ofNat (48 + n - 52) else if n = 62 then 45 else 95
end Go.Basic

/-
  Scripts in plain words: an act's line, what it tells, a script, a tale. No program in sight.
-/

set_option linter.unusedVariables false
set_option maxRecDepth 100000
namespace Go.Scr
open Go Go.Basic Go.Lib
structure PAct where
  kind : Int
  raw : ByteArray
  draws : List UInt8
  now : Nat
  outcome : Int
  n : Int
  dir : Int
  tails : List Int
def rest (ts : List Int) : List UInt8 := ts.flatMap fun t => 32 :: itoa t
theorem kinds (k : Int) : k = 1 ∨ k = 2 ∨ k = 3 ∨ k = 4 ∨ k = 5 ∨ k = 6 ∨ (k ≠ 1 ∧ k ≠ 2 ∧ k ≠ 3 ∧ k ≠ 4 ∧ k ≠ 5 ∧ k ≠ 6) := by omega
end Go.Scr

/-
  Small laws for the walks: a row of bytes of the call's own, pushed and made a text.
-/

set_option linter.unusedVariables false
set_option maxRecDepth 100000
namespace Go.Proofs.YtbfoocginkdmcaaGreatDoor
open Go Go.RowKit
theorem inf5 : (Tryz.prog.info? 5).map (fun i => (i.zero, i.size, i.bytes)) = some (some (.int .u8 0), 1, 1) := by kernel_rfl
theorem inf3 : (Tryz.prog.info? 3).map (fun i => (i.zero, i.size, i.bytes)) = some (some (.int .i64 0), 1, 8) := by kernel_rfl
theorem bc_app (a b : List UInt8) : Lib.byteCells (a ++ b) = Lib.byteCells a ++ Lib.byteCells b := by simp [Lib.byteCells]
theorem own_push {B : Nat} {w wr w1 : World} {v v' : Value} {l m : List UInt8} {o : Obj} {k k' : Nat} (hB : B ≤ wr.heap.size)
    (hown : wr.ownsRow B 5 1 v k (Lib.byteCells l)) (hb : Below B w wr) (hown' : w1.ownsRow B 5 1 v' k' (Lib.byteCells l ++ Lib.byteCells m)) (hg : (wr.alloc o).grownBy w1 v.ownBlock) :
    w1.ownsRow B 5 1 v' k' (Lib.byteCells (l ++ m)) ∧ Below B w w1 := by
  refine ⟨?_, (hb.alloc hB o).grown hg (by simp; omega) fun j hj => (hown.lt j hj).1⟩
  rw [bc_app]
  exact hown'
theorem new_cells (w : World) (C : List Value) (t : TypeId) : ∀ (j : Nat) u, C[j]? = some u → ((w.alloc (.cells C.toArray t)).drew).cell? ((⟨w.heap.size, 0, none⟩ : Addr).add j) = some u := by
  intro j u hj
  have h := World.cell?_alloc_mark w C.toArray t (0, 0) j
  have hadd : (⟨w.heap.size, 0, none⟩ : Addr).add j = ⟨w.heap.size, j, none⟩ := by unfold Addr.add; split <;> simp_all
  rw [hadd]
  show (w.alloc (.cells C.toArray t)).cell? _ = _
  rw [h]
  simpa using hj
theorem own_mono {w : World} {B B' : Nat} {e : TypeId} {v : Value} {n : Nat} {xs : List Value} (h : w.ownsRow B e 1 v n xs) (hB : B' ≤ B) : w.ownsRow B' e 1 v n xs := by
  refine ⟨h.1, ?_⟩
  rcases h.2 with hn | ⟨g, cap, cur, rfl, hb, rest⟩
  · exact .inl hn
  · exact .inr ⟨g, cap, cur, rfl, Nat.le_trans hB hb, rest⟩
theorem one_cell (w : World) (u : Value) (t : TypeId) : ∀ (j : Nat) x, [u][j]? = some x → (w.alloc (.cells #[u] t)).cell? ((⟨w.heap.size, 0, none⟩ : Addr).add j) = some x := by
  intro j x hj
  exact new_cells w [u] t j x hj
theorem own_cells {w : World} {B : Nat} {e : TypeId} {v : Value} {n : Nat} {xs : List Value} (h : w.ownsRow B e 1 v n xs) (hn : 0 < n) :
    ∃ g cap, v = .slice (some ⟨g, 0, none⟩) n cap ∧ B ≤ g ∧ g < w.heap.size ∧ ∀ (j : Nat) u, xs[j]? = some u → w.cell? ⟨g, j, none⟩ = some u := by
  rcases h.2 with ⟨rfl, h0⟩ | ⟨g, cap, cur, rfl, hb, hg, _, hm, hs, htake⟩
  · omega
  · refine ⟨g, cap, rfl, hb, (Array.getElem?_eq_some_iff.1 hg).1, fun j u hj => ?_⟩
    have := h.cells rfl j u hj
    have hadd : (⟨g, 0, none⟩ : Addr).add j = ⟨g, j, none⟩ := by unfold Addr.add; split <;> simp_all
    rwa [hadd] at this
theorem step_append_own {P : Program} {ops : Array Oper} {o : Oper} {a : Act} {w : World} {K : Act → World → Prop} {Q : Exit → Act → World → Prop} {E : Prop}
    (hg : o.guard = none) (s x : Operand) (t : TypeId) (hop : o.op = Op.call { callee := Callee.builtin Builtin.append, args := #[s, x], argTypes := #[t, t] })
    (base : Nat) (e : TypeId) (i : TypeInfo) (z : Value) (size bytes : Nat) (ht : P.underlying t = some (.slice e)) (hi : P.info? e = some i) (hz : i.zero = some z)
    (hsize : i.size = size) (hby : i.bytes = bytes) (hzs : z.cells.size = size) (hsz : 0 < size)
    (v : Value) (n : Nat) (xs : List Value) (hs : a.eval s = v) (hown : w.ownsRow base e size v n xs)
    (ad : Addr) (m c : Nat) (news : List Value) (hx : a.eval x = .slice (some ad) m c) (hl : news.length = m * size) (hnews : ∀ j u, news[j]? = some u → w.cell? (ad.add j) = some u) (h1 : ∀ u ∈ news, u.oneCell' = true)
    (h63 : n + m ≤ maxLen) (hbytes : (n + m) * bytes ≤ 140737488355328) (hbase : base ≤ w.heap.size)
    (h : ∀ v' w', w'.ownsRow base e size v' (n + m) (xs ++ news) → w.grownBy w' v.ownBlock → K (a.put o.dst v') w') :
    if Region.wanted o (yielded ops a.tmps) = true then Oper.wp P o a w K Q else E := by
  have hw : Region.wanted o (yielded ops a.tmps) = true := by simp [Region.wanted, hg]
  rw [if_pos hw]
  obtain ⟨v', w', hr, h2, h3, _⟩ := run_append_own (P := P) w base t o.type e i z size bytes ht hi hz hsize hby hzs hsz v n xs hown ad m c news hl hnews h1 h63 hbytes hbase
  unfold Oper.wp
  simp only [execOp, hop, resolve, invoke, builtin, Sem.run_bind, Sem.run_pure, Result.andThen_ok, List.map_toArray, List.map_cons, List.map_nil, hs, hx, hr]
  exact h v' w' h2 h3
end Go.Proofs.YtbfoocginkdmcaaGreatDoor
set_option linter.unusedVariables false
set_option maxRecDepth 100000
namespace Go.Proofs.YtbfoocginkdmcaaGreatDoor
open Go Go.RowKit Go.Basic
theorem letter_calls (n : Nat) (hn : n < 64) (w : World) : Calls Tryz.prog 113 #[.int .i64 n] w fun e w' => e = .returned (.int .u8 (letU n).toNat) ∧ w' = w := by
  go_enter Tryz.func113, Tryz.ntmps113
  go_wp2
  all_goals go_ret
  all_goals (refine ⟨congrArg (fun b => Ending.returned (Value.int .u8 b)) ?_, rfl⟩; unfold letU)
  all_goals ((repeat' split) <;> first | omega | (simp; omega) | rfl | (exfalso; simp at *; omega))
end Go.Proofs.YtbfoocginkdmcaaGreatDoor

/-
  Bits: or of a multiple and what is less, and with a mask.
-/

set_option linter.unusedVariables false
namespace Go.Basic
open Go Go.RowKit
theorem wraps_i64 (n : Int) (h0 : 0 ≤ n) (h1 : n < 2 ^ 62) : IntKind.i64.wrap n = n := by
  rw [IntKind.wrap_i64]
  omega
theorem or_low (a b k : Nat) (hb : b < 2 ^ k) : (a * 2 ^ k) ||| b = a * 2 ^ k + b := by
  rw [← Nat.shiftLeft_eq, Nat.shiftLeft_add_eq_or_of_lt hb]
theorem or_64 (n x : Nat) (hn : n ≤ 16777216) (hx : x < 64) : bits .or .i64 ((n : Int) * 64) (x : Int) = ((n * 64 + x : Nat) : Int) := by
  have h := (bits_nat .i64 62 (by decide) wraps_i64 (n * 64) x (by omega) (by omega)).2
  rw [or_low n x 6 hx] at h
  rw [← h, Int.natCast_mul]
  rfl
theorem and_pow (n i : Nat) (hi : i ≤ 60) (hn : n ≤ 16777216) : bits .and .i64 (n : Int) (2 ^ i - 1) = ((n % 2 ^ i : Nat) : Int) := by
  have h := bits_mask .i64 62 (by decide) wraps_i64 i (by omega) (n : Int) (by omega) (by omega)
  rw [h]
  simp only [Int.natCast_emod, Int.natCast_pow]
  rfl
end Go.Basic

/-
  DERIVED: THE SHELF's CONTRACTS AT THIS DUMP, IN PLAIN WORDS (tools/lay-plain.mjs out of 'YtbfoocginkdmcaaGreatDoorJt.lean', which tools/lay-shelf.mjs wrote): THE SAME DECLARATIONS UNDER THE SAME NAMES: 'import', 'namespace', 'open', 'def', 'theorem' AND NOTHING ELSE: no command of the shelf's: FOR A HAND-IN. Each laying: the table of numbers ('.._ren') and one theorem, a field a fact of the dump's own or the kernel's comparison; each contract: ONE APPLICATION.
-/

namespace Go.Proofs
open Go.Shelf
def Tryz.laysM171_ren : Go.Shelf.Ren := ⟨fun | 171 => 43 | 243 => 79 | 246 => 111 | 283 => 172 | 284 => 173 | 285 => 174 | 286 => 175 | 129 => 273 | 317 => 272 | 318 => 274 | 319 => 275 | 320 => 276 | 337 => 377 | 338 => 378 | n => n, fun | 3 => 3 | 9 => 9 | 2 => 2 | 4 => 4 | 171 => 308 | 0 => 0 | 53 => 31 | 37 => 30 | 5 => 5 | 173 => 311 | 212 => 416 | 51 => 417 | 20 => 20 | 213 => 418 | 46 => 194 | 232 => 446 | 233 => 548 | n => n, fun | 17 => 2 | 18 => 9 | 19 => 10 | n => n⟩
theorem Tryz.laysM171 : Go.Proofs.LaysM.n171 Tryz.prog Tryz.laysM171_ren := {
  mixed := by kernel_rfl
  f129 := Tryz.func273.trans (congrArg some (by kernel_rfl))
  f171 := Tryz.func43.trans (congrArg some (by kernel_rfl))
  f243 := Tryz.func79.trans (congrArg some (by kernel_rfl))
  f246 := Tryz.func111.trans (congrArg some (by kernel_rfl))
  f283 := Tryz.func172.trans (congrArg some (by kernel_rfl))
  f284 := Tryz.func173.trans (congrArg some (by kernel_rfl))
  f285 := Tryz.func174.trans (congrArg some (by kernel_rfl))
  f286 := Tryz.func175.trans (congrArg some (by kernel_rfl))
  f317 := Tryz.func272.trans (congrArg some (by kernel_rfl))
  f318 := Tryz.func274.trans (congrArg some (by kernel_rfl))
  f319 := Tryz.func275.trans (congrArg some (by kernel_rfl))
  f320 := Tryz.func276.trans (congrArg some (by kernel_rfl))
  f337 := Tryz.func377.trans (congrArg some (by kernel_rfl))
  f338 := Tryz.func378.trans (congrArg some (by kernel_rfl))
  t0 := Tryz.underlying0
  a0 := Tryz.isAgg0
  z0 := Tryz.sizeOf0
  v0 := Tryz.zeroValue0
  t2 := Tryz.underlying2
  a2 := Tryz.isAgg2
  z2 := Tryz.sizeOf2
  v2 := Tryz.zeroValue2
  t3 := Tryz.underlying3
  a3 := Tryz.isAgg3
  z3 := Tryz.sizeOf3
  v3 := Tryz.zeroValue3
  t4 := Tryz.underlying4
  a4 := Tryz.isAgg4
  z4 := Tryz.sizeOf4
  v4 := Tryz.zeroValue4
  t5 := Tryz.underlying5
  a5 := Tryz.isAgg5
  z5 := Tryz.sizeOf5
  v5 := Tryz.zeroValue5
  t9 := Tryz.underlying9
  a9 := Tryz.isAgg9
  z9 := Tryz.sizeOf9
  v9 := Tryz.zeroValue9
  t20 := Tryz.underlying20
  a20 := Tryz.isAgg20
  z20 := Tryz.sizeOf20
  v20 := Tryz.zeroValue20
  t37 := Tryz.underlying30
  a37 := Tryz.isAgg30
  z37 := Tryz.sizeOf30
  v37 := Tryz.zeroValue30
  t46 := Tryz.underlying194
  a46 := Tryz.isAgg194
  z46 := Tryz.sizeOf194
  v46 := Tryz.zeroValue194
  t51 := Tryz.underlying417
  a51 := Tryz.isAgg417
  z51 := Tryz.sizeOf417
  v51 := Tryz.zeroValue417
  t53 := Tryz.underlying31
  a53 := Tryz.isAgg31
  z53 := Tryz.sizeOf31
  v53 := Tryz.zeroValue31
  t171 := Tryz.underlying308
  a171 := Tryz.isAgg308
  z171 := Tryz.sizeOf308
  v171 := Tryz.zeroValue308
  t173 := Tryz.underlying311
  a173 := Tryz.isAgg311
  z173 := Tryz.sizeOf311
  v173 := Tryz.zeroValue311
  t212 := Tryz.underlying416
  a212 := Tryz.isAgg416
  z212 := Tryz.sizeOf416
  v212 := Tryz.zeroValue416
  t213 := Tryz.underlying418
  a213 := Tryz.isAgg418
  z213 := Tryz.sizeOf418
  t232 := Tryz.underlying446
  a232 := Tryz.isAgg446
  z232 := Tryz.sizeOf446
  v232 := Tryz.zeroValue446
  t233 := Tryz.underlying548
  a233 := Tryz.isAgg548
  z233 := Tryz.sizeOf548
  v233 := Tryz.zeroValue548
  g17 := by kernel_rfl
  g18 := by kernel_rfl
  g19 := by kernel_rfl
  i0 := by kernel_rfl
  i2 := by kernel_rfl
  i3 := by kernel_rfl
  i4 := by kernel_rfl
  i5 := by kernel_rfl
  i9 := by kernel_rfl
  i20 := by kernel_rfl
  i37 := by kernel_rfl
  i46 := by kernel_rfl
  i51 := by kernel_rfl
  i53 := by kernel_rfl
  i171 := by kernel_rfl
  i173 := by kernel_rfl
  i212 := by kernel_rfl
  i232 := by kernel_rfl
  i233 := by kernel_rfl
  m17 := by kernel_rfl
  m18 := by kernel_rfl
  m19 := by kernel_rfl }
end Go.Proofs

/-
  strconv.FormatUint at base 10: the number's decimal numeral.
-/

set_option linter.unusedVariables false
set_option maxRecDepth 100000
set_option maxHeartbeats 4000000
namespace Go.Proofs.YtbfoocginkdmcaaGreatDoor
open Go Go.RowKit Go.Proofs Go.Shelf Go.Sort Go.Lib
theorem holds_zero0 (w : World) (T : TypeId) (nd : Nat) (hs : nd ≤ 24) : Holds (fun (b : UInt8) => Value.int .u8 (b.toNat : Int)) (w.alloc (.cells zeros24 T)) w.heap.size 0 (Array.replicate nd (0 : UInt8)) := fun j hj => by
  have hj' : j < nd := by simpa using hj
  refine ⟨?_, World.frozen?_alloc_new _ _ _ _⟩
  rw [World.cell?_alloc_new, zeros24_at _ (by omega), getElem!_pos _ j hj]
  simp
theorem fin_zero (w : World) (o : Obj) (dk : Array UInt8) (k : Nat) : ∃ os, (putRow (fun (b : UInt8) => Value.int .u8 (b.toNat : Int)) (w.alloc o) w.heap.size 0 dk).drewN k = grow (w.drewN k) os := by
  rw [alloc_eq_grow]
  obtain ⟨os', _, e⟩ := putRow_grow_new (fun (b : UInt8) => Value.int .u8 (b.toNat : Int)) w #[o] w.heap.size 0 dk (Nat.le_refl _)
  exact ⟨os', by rw [e]; rfl⟩
theorem small_calls (i : Nat) (hi : i < 100) (w : World) : Calls Tryz.prog 172 #[.int .i64 i] w fun e w' => e = .returned (.string ⟨(decDigits i).toArray⟩) ∧ w' = w :=
  Any.internal_strconv_small { Tryz.laysM171 with } i hi w
theorem digits_calls (u : Nat) (h1 : 1 ≤ u) (h2 : u < 18446744073709551616) (w : World) (htab : TabIs Tryz.prog w "internal/strconv.uint64pow10" .u64 pow10Tab) :
    Calls Tryz.prog 173 #[.int .u64 u] w fun e w' => e = .returned (.int .i64 (nDigits u)) ∧ w' = w :=
  Any.internal_strconv_numDigits { Tryz.laysM171 with } u h1 h2 w htab
theorem base10_calls (blk off cap : Nat) (u : Nat) (d : Array UInt8) (w : World) (hH : Holds (fun (b : UInt8) => Value.int .u8 (b.toNat : Int)) w blk off d) (hu : u < 10 ^ d.size) (hu64 : u < 18446744073709551616) (hsz : d.size < 4611686018427387904) :
    Calls Tryz.prog 174 #[.slice (some ⟨blk, off, none⟩) d.size cap, .int .u64 u] w fun e w' =>
      e = .returned (.tuple #[]) ∧ ∃ (n v' : Nat) (dk : Array UInt8), w' = (putRow (fun (b : UInt8) => Value.int .u8 (b.toNat : Int)) w blk off dk).drewN n ∧ FmtInv d.size u 0 v' dk :=
  Any.internal_strconv_formatBase10 { Tryz.laysM171 with } blk off cap u d w hH hu hu64 hsz
theorem len308 : Tryz.prog.arrayLen 308 = 24 := by kernel_rfl
theorem format_inner (u : Nat) (hu64 : u < 18446744073709551616) (w : World) (htab : TabIs Tryz.prog w "internal/strconv.uint64pow10" .u64 pow10Tab) :
    Calls Tryz.prog 108 #[.int .u64 u, .int .i64 10] w fun e w' => e = .returned (.string ⟨(decDigits u).toArray⟩) ∧ ∃ k os, w' = grow (w.drewN k) os := by
  by_cases hs : u < 100
  · have hs' : (u : Int) < 100 := by omega
    go_enter Tryz.func108, Tryz.ntmps108
    go_wp2_with (go_at_call 172; refine (small_calls u hs _).mono ?_; rintro e w' ⟨rfl, rfl⟩)
    go_ret
    exact ⟨rfl, 0, #[], by simp [World.drewN_zero]⟩
  · have hs' : ¬ (u : Int) < 100 := by omega
    have hu1 : 1 ≤ u := by omega
    have hnd20 : nDigits u ≤ 20 := by have := numDigits_eq u hu1 hu64; split at this <;> omega
    have hsl : ∀ W, (Instr.sliceAt 308 (.pointer (some ⟨w.heap.size, 0, none⟩)) none (some (.int .i64 (nDigits u : Int))) none).run Tryz.prog W = .ok (.slice (some ⟨w.heap.size, 0, none⟩) (nDigits u) 24) W := fun W => by
      rw [run_sliceAt_array_h W 308 ⟨w.heap.size, 0, none⟩ (by simp [Program.arrayLen, Program.elem, Tryz.underlying308]) .i64 (nDigits u : Int) (by omega) (by rw [len308]; omega)]
      go_simp
    have hH0 := holds_zero0 w 308 (nDigits u) (by omega)
    have hfmt := base10_calls w.heap.size 0 24 u (Array.replicate (nDigits u) 0) (w.alloc (.cells zeros24 308)) hH0 (by rw [Array.size_replicate]; exact lt_pow_nDigits u) hu64 (by rw [Array.size_replicate]; omega)
    rw [Array.size_replicate] at hfmt
    have HH0 := hid hH0
    clear hH0
    go_enter Tryz.func108, Tryz.ntmps108
    go_wp2_with (first
      | (go_at_call 173; refine (digits_calls u hu1 hu64 _ (tabIs_alloc htab _)).mono ?_; rintro e w' ⟨rfl, rfl⟩))
    go_at_call 174
    refine hfmt.mono ?_
    rintro e w' ⟨rfl, k, v', dk, rfl, hF⟩
    have hcv : (convert 30 9 (.slice (some ⟨w.heap.size, 0, none⟩) (nDigits u) 24)).run Tryz.prog ((putRow (fun (b : UInt8) => Value.int .u8 (b.toNat : Int)) (w.alloc (.cells zeros24 308)) w.heap.size 0 dk).drewN k) = .ok (.string ⟨(decDigits u).toArray⟩) ((putRow (fun (b : UInt8) => Value.int .u8 (b.toNat : Int)) (w.alloc (.cells zeros24 308)) w.heap.size 0 dk).drewN k) := by
      have h := run_convert_bytes_back (P := Tryz.prog) ((putRow (fun (b : UInt8) => Value.int .u8 (b.toNat : Int)) (w.alloc (.cells zeros24 308)) w.heap.size 0 dk).drewN k) 30 9 5 ⟨w.heap.size, 0, none⟩ 24 (decDigits u) Tryz.underlying30 Tryz.underlying5 Tryz.underlying9 (fun j hj => by
        rw [row_is_numeral hF j hj, add_plain, World.cell?_drewN]
        exact cell?_putRow (fun (b : UInt8) => Value.int .u8 (b.toNat : Int)) _ w.heap.size 0 _ dk HH0.out (by rw [hF.size, Array.size_replicate]) j (by rw [hF.size]; rw [decDigits_length] at hj; exact hj))
      rw [decDigits_length] at h
      exact h
    go_wp2
    go_ret
    obtain ⟨os, eo⟩ := fin_zero w (.cells zeros24 308) dk k
    exact ⟨rfl, k, os, eo⟩
theorem format_calls (u : Nat) (hu64 : u < 18446744073709551616) (w : World) (htab : TabIs Tryz.prog w "internal/strconv.uint64pow10" .u64 pow10Tab) :
    Calls Tryz.prog 74 #[.int .u64 u, .int .i64 10] w fun e w' => e = .returned (.string ⟨(decDigits u).toArray⟩) ∧ ∃ k os, w' = grow (w.drewN k) os := by
  go_enter Tryz.func74, Tryz.ntmps74
  go_wp2_with (go_at_call 108; refine (format_inner u hu64 _ htab).mono ?_; rintro e w' ⟨rfl, k, os, rfl⟩)
  go_ret
  exact ⟨rfl, k, os, rfl⟩
theorem itoa_calls (n : Int) (h0 : -9223372036854775808 ≤ n) (h1 : n ≤ 9223372036854775807) (w : World) (htab : TabIs Tryz.prog w "internal/strconv.uint64pow10" .u64 pow10Tab) :
    Calls Tryz.prog 43 #[.int .i64 n] w fun e w' => e = .returned (.string ⟨(itoa n).toArray⟩) ∧ ∃ k os, w' = grow (w.drewN k) os :=
  Any.strconv_Itoa Tryz.laysM171 n h0 h1 w htab
end Go.Proofs.YtbfoocginkdmcaaGreatDoor

/-
  The reference's decimals.
-/

set_option linter.unusedVariables false
set_option maxRecDepth 100000
set_option maxHeartbeats 2000000
namespace Go.Proofs.YtbfoocginkdmcaaGreatDoor
open Go Go.RowKit Go.Lib
theorem one_byte (c : Nat) (hc : c < 256) (W : World) (b : Nat) (h : W.cell? ⟨b, 0, none⟩ = some (.int .u8 c)) : (convert 30 9 (.slice (some ⟨b, 0, none⟩) 1 1)).run Tryz.prog W = .ok (.string ⟨#[UInt8.ofNat c]⟩) W := by
  have h1 := run_convert_bytes_back (P := Tryz.prog) W 30 9 5 ⟨b, 0, none⟩ 1 [UInt8.ofNat c] Tryz.underlying30 Tryz.underlying5 Tryz.underlying9 (fun j hj => by
    have hj0 : j = 0 := by simpa using hj
    subst hj0
    have e : ((UInt8.ofNat c).toNat : Int) = c := by
      rw [UInt8.toNat_ofNat']
      omega
    show W.cell? ((⟨b, 0, none⟩ : Addr).add 0) = some (.int .u8 ((UInt8.ofNat c).toNat : Int))
    rw [e, show ((⟨b, 0, none⟩ : Addr).add 0) = ⟨b, 0, none⟩ from rfl]
    exact h)
  exact h1
theorem kept_new {w w1 : World} {C : Array Value} {t : TypeId} {v : Value} (hv : C[0]? = some v) (bel : Below (w.alloc (.cells C t)).drew.heap.size (w.alloc (.cells C t)).drew w1) : w1.cell? ⟨w.heap.size, 0, none⟩ = some v := by
  rw [bel.cell (p := ⟨w.heap.size, 0, none⟩) (by show w.heap.size < (w.alloc (.cells C t)).heap.size; simp)]
  show (w.alloc (.cells C t)).cell? ⟨w.heap.size, 0, none⟩ = _
  rw [World.cell?_alloc_new]
  exact hv
theorem below_drew0 {w w1 : World} (h : Below w.drew.heap.size w.drew w1) : Below w.heap.size w w1 := ⟨h.os, h.tape, h.output, h.size, h.block⟩
theorem below_alloc0 {w w1 : World} {o : Obj} (h : Below (w.alloc o).drew.heap.size (w.alloc o).drew w1) : Below w.heap.size w w1 :=
  ((Below.refl w.heap.size w).alloc (Nat.le_refl _) o).trans ((below_drew0 h).mono (by simp))
theorem nDigits_le (u : Nat) (hu : u < 18446744073709551616) : nDigits u ≤ 20 := by
  by_cases h : u = 0
  · subst h
    rw [nDigits, dif_pos (by omega)]
    omega
  · have := numDigits_eq u (by omega) hu
    split at this <;> omega
theorem size_of_list {S : ByteArray} {l : List UInt8} (h : S.data.toList = l) : S.size = l.length := by
  rw [← h]
  simp
theorem decimal_calls : ∀ (u : Nat), u < 18446744073709551616 → ∀ (x : Int), x = (u : Int) → ∀ (w : World), Calls Tryz.prog 78 #[.int .u64 x] w fun e w' => ∃ S : ByteArray, e = .returned (.string S) ∧ S.data.toList = decDigits u ∧ Below w.heap.size w w' := by
  intro u
  induction u using Nat.strongRecOn with
  | _ u ih =>
    intro hu x hx w
    subst hx
    by_cases h : u < 10
    · have h1 : (u : Int) < 10 := by omega
      have ho := fun W b => one_byte (48 + u) (by omega) W b
      have e1 : ((48 + u : Nat) : Int) = 48 + (u : Int) := by omega
      rw [e1] at ho
      go_enter Tryz.func78, Tryz.ntmps78
      go_wp2
      go_ret
      refine ⟨_, rfl, ?_, (Below.refl _ _).alloc (Nat.le_refl _) _⟩
      rw [decDigits_one h]
      simp
    · have h1 : ¬ (u : Int) < 10 := by omega
      have hr := ih (u / 10) (by omega) (by omega) (IntKind.u64.wrap ((u : Int) / 10)) (by rw [IntKind.wrap_u64]; omega)
      have ho := fun W b => one_byte (48 + u % 10) (by omega) W b
      have e1 : ((48 + u % 10 : Nat) : Int) = IntKind.u8.wrap (IntKind.u64.wrap (48 + (u : Int).tmod 10)) := by
        rw [Int.tmod_eq_emod_of_nonneg (by omega), IntKind.wrap_u64, IntKind.wrap_u8]
        omega
      rw [e1] at ho
      go_enter Tryz.func78, Tryz.ntmps78
      go_wp2_with fail
      go_region_with (go_at_call 78; refine (hr _).mono ?_; rintro e w1 ⟨S, rfl, hS, bel⟩; (have hz : S.size ≤ 20 := by (rw [size_of_list hS, decDigits_length]; exact nDigits_le _ (by omega))); first | (have hc0 := kept_new rfl bel) | skip)
      all_goals (go_wp2; go_ret; refine ⟨_, rfl, ?_, ?_⟩)
      all_goals first | (rw [decDigits, dif_neg h]; simp [hS]; done) | exact (below_drew0 bel).alloc (below_drew0 bel).size _ | exact below_alloc0 bel
end Go.Proofs.YtbfoocginkdmcaaGreatDoor

/-
  What the walks of Parse want of the walks of Print.
-/

set_option linter.unusedVariables false
set_option maxRecDepth 100000
set_option maxHeartbeats 4000000
namespace Go.Proofs.YtbfoocginkdmcaaGreatDoor
open Go Go.RowKit Go.Basic Go.ArgS Go.Scr Go.Lib Go.Sort
abbrev Tab (w : World) : Prop := TabIs Tryz.prog w "internal/strconv.uint64pow10" .u64 pow10Tab
theorem tab_below {w w' : World} (h : Tab w) (hb : Below w.heap.size w w') : Tab w' := by
  unfold Tab TabIs World.var? at *
  cases hg : Tryz.prog.globalNamed "internal/strconv.uint64pow10" with
  | none => simp [hg] at h
  | some g =>
    simp only [hg, Option.bind_some] at h ⊢
    have hlt : g < w.heap.size := by
      rcases Nat.lt_or_ge g w.heap.size with h' | h'
      · exact h'
      · rw [Array.getElem?_eq_none h'] at h; simp at h
    rw [hb.block g hlt]
    exact h
theorem below_grow (w : World) (k : Nat) (os : Array Obj) : Below w.heap.size w (grow (w.drewN k) os) := by
  have h : ∀ k, (w.drewN k).heap = w.heap ∧ (w.drewN k).os = w.os ∧ (w.drewN k).tape = w.tape ∧ (w.drewN k).output = w.output := by
    intro k
    induction k with
    | zero => rw [World.drewN_zero]; exact ⟨rfl, rfl, rfl, rfl⟩
    | succ k ih => exact ih
  obtain ⟨h1, h2, h3, h4⟩ := h k
  exact ⟨h2, h3, h4, by simp [grow], fun j hj => by simp [grow, Array.getElem?_append, hj]⟩
theorem itoaB_calls (n : Int) (h0 : -9223372036854775808 ≤ n) (h1 : n ≤ 9223372036854775807) (w : World) (htab : Tab w) :
    Calls Tryz.prog 43 #[.int .i64 n] w fun e w' => ∃ S : ByteArray, e = .returned (.string S) ∧ S.data.toList = itoa n ∧ Below w.heap.size w w' := by
  refine (itoa_calls n h0 h1 w htab).mono ?_
  rintro e w' ⟨rfl, k, os, rfl⟩
  exact ⟨_, rfl, rfl, below_grow w k os⟩
theorem formatB_calls (u : Nat) (hu : u < 18446744073709551616) (w : World) (htab : Tab w) :
    Calls Tryz.prog 74 #[.int .u64 u, .int .i64 10] w fun e w' => ∃ S : ByteArray, e = .returned (.string S) ∧ S.data.toList = decDigits u ∧ Below w.heap.size w w' := by
  refine (format_calls u hu w htab).mono ?_
  rintro e w' ⟨rfl, k, os, rfl⟩
  exact ⟨_, rfl, rfl, below_grow w k os⟩
def IsB (w : World) (x : Value) (l : List UInt8) : Prop := IsSl w .u8 x (l.map fun b => (b.toNat : Int))
theorem IsB.below {w w' : World} {x : Value} {l : List UInt8} (h : IsB w x l) (hb : Below w.heap.size w w') : IsB w' x l := IsSl.below h hb
def actCells (a : PAct) (ax : Option Addr) (cx : Nat) (ay : Option Addr) (cy : Nat) : List Value :=
  [.int .i64 a.kind, .string a.raw, .slice ax a.draws.length cx, .int .u64 (a.now : Int), .int .i64 a.outcome, .int .i64 a.n, .int .i64 a.dir, .slice ay a.tails.length cy]
def IsActs (w : World) (v : Value) (aa : List PAct) : Prop :=
  (∃ oa cap, v = .slice oa 0 cap ∧ aa = []) ∨ ∃ b off cap, v = .slice (some ⟨b, off, none⟩) aa.length cap ∧ ∀ (i : Nat) a, aa[i]? = some a → ∃ ax cx ay cy,
    (∀ (j : Nat) c, (actCells a ax cx ay cy)[j]? = some c → w.cell? ⟨b, off + i * 8 + j, none⟩ = some c) ∧ IsB w (.slice ax a.draws.length cx) a.draws ∧ IsSl w .i64 (.slice ay a.tails.length cy) a.tails
theorem IsActs.below {w w' : World} {v : Value} {aa : List PAct} (h : IsActs w v aa) (hb : Below w.heap.size w w') : IsActs w' v aa := by
  rcases h with h | ⟨b, off, cap, e, hc⟩
  · exact .inl h
  · refine .inr ⟨b, off, cap, e, fun i a hi => ?_⟩
    obtain ⟨ax, cx, ay, cy, h1, h2, h3⟩ := hc i a hi
    refine ⟨ax, cx, ay, cy, fun j c hj => ?_, h2.below hb, h3.below hb⟩
    have h4 := h1 j c hj
    exact (World.cell?_of_block (hb.block _ (World.block_lt_of_cell? w _ h4))).trans h4
theorem IsActs.slice {w : World} {v : Value} {aa : List PAct} (h : IsActs w v aa) : ∃ oa cap, v = .slice oa aa.length cap := by
  rcases h with ⟨oa, cap, rfl, rfl⟩ | ⟨b, off, cap, rfl, _⟩
  · exact ⟨_, _, rfl⟩
  · exact ⟨_, _, rfl⟩
theorem IsActs.at {w : World} {v : Value} {aa : List PAct} (h : IsActs w v aa) {k : Nat} {a : PAct} (hk : aa[k]? = some a) :
    ∃ b off cap ax cx ay cy, v = .slice (some ⟨b, off, none⟩) aa.length cap ∧ w.cell? ⟨b, off + k * 8, none⟩ = some (.int .i64 a.kind) ∧ w.cell? ⟨b, off + k * 8 + 1, none⟩ = some (.string a.raw) ∧ w.cell? ⟨b, off + k * 8 + 2, none⟩ = some (.slice ax a.draws.length cx) ∧
      w.cell? ⟨b, off + k * 8 + 3, none⟩ = some (.int .u64 (a.now : Int)) ∧ w.cell? ⟨b, off + k * 8 + 4, none⟩ = some (.int .i64 a.outcome) ∧ w.cell? ⟨b, off + k * 8 + 5, none⟩ = some (.int .i64 a.n) ∧ w.cell? ⟨b, off + k * 8 + 6, none⟩ = some (.int .i64 a.dir) ∧
      w.cell? ⟨b, off + k * 8 + 7, none⟩ = some (.slice ay a.tails.length cy) ∧ IsB w (.slice ax a.draws.length cx) a.draws ∧ IsSl w .i64 (.slice ay a.tails.length cy) a.tails := by
  rcases h with ⟨_, _, _, rfl⟩ | ⟨b, off, cap, rfl, hc⟩
  · simp at hk
  · obtain ⟨ax, cx, ay, cy, h1, h2, h3⟩ := hc k a hk
    exact ⟨b, off, cap, ax, cx, ay, cy, rfl, h1 0 _ rfl, h1 1 _ rfl, h1 2 _ rfl, h1 3 _ rfl, h1 4 _ rfl, h1 5 _ rfl, h1 6 _ rfl, h1 7 _ rfl, h2, h3⟩
theorem inf36 : (Tryz.prog.info? 36).map (fun i => (i.zero, i.size, i.bytes)) = some (some (.agg #[.int .i64 0, .string ⟨#[]⟩, .slice none 0 0, .int .u64 0, .int .i64 0, .int .i64 0, .int .i64 0, .slice none 0 0]), 8, 104) := by kernel_rfl
theorem own_belowS {w w' : World} {B : Nat} {e : TypeId} {size : Nat} {v : Value} {n : Nat} {xs : List Value} (h : w.ownsRow B e size v n xs) (hb : Below w.heap.size w w') : w'.ownsRow B e size v n xs :=
  h.kept (row := none) ⟨hb.os, hb.tape, hb.output, hb.size, fun k hk _ => hb.block k hk⟩ (by cases h9 : v.ownBlock with | none => exact .inl rfl | some g => exact .inr (by simp))
theorem own_slice8 {w : World} {B : Nat} {e : TypeId} {v : Value} {n : Nat} {xs : List Value} (h : w.ownsRow B e 8 v n xs) : ∃ a c, v = .slice a n c := by
  rcases h.2 with ⟨h0, rfl⟩ | ⟨g, cap, cur, h0, _⟩
  · exact ⟨_, _, h0⟩
  · exact ⟨_, _, h0⟩
theorem act_one (a : PAct) (ax ay : Option Addr) (cx cy : Nat) : ∀ u ∈ actCells a ax cx ay cy, u.oneCell' = true := by
  intro u hu
  simp only [actCells, List.mem_cons, List.not_mem_nil, or_false] at hu
  rcases hu with h | h | h | h | h | h | h | h <;> (subst h; rfl)
end Go.Proofs.YtbfoocginkdmcaaGreatDoor
