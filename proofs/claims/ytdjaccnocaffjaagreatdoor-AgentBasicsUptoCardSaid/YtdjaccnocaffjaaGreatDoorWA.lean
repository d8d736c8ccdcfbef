/-
  Small laws for the walks: a row of bytes of the call's own, pushed and made a text.
-/
import Derived.Test.YtdjaccnocaffjaaGreatDoorProg
import Derived.WalkKit
import Derived.Laws.IdiomStrings
import Derived.Lib.UnsafeStr
import Derived.Deep.RegionLaw
import Derived.Laws.BitsLemmas
import Derived.Test.YtdjaccnocaffjaaGreatDoorSH
import Derived.LoopTactic

set_option linter.unusedVariables false
set_option maxRecDepth 100000
namespace Go.Proofs.YtdjaccnocaffjaaGreatDoor
open Go Go.RowKit

theorem inf5 : (Tryz.prog.info? 5).map (fun i => (i.zero, i.size, i.bytes)) = some (some (.int .u8 0), 1, 1) := by kernel_rfl
theorem inf3 : (Tryz.prog.info? 3).map (fun i => (i.zero, i.size, i.bytes)) = some (some (.int .i64 0), 1, 8) := by kernel_rfl

theorem bc_app (a b : List UInt8) : Lib.byteCells (a ++ b) = Lib.byteCells a ++ Lib.byteCells b := by simp [Lib.byteCells]

theorem bc_one (l : List UInt8) : ∀ v ∈ Lib.byteCells l, v.oneCell' = true := by
  intro v hv
  simp only [Lib.byteCells, List.mem_map] at hv
  obtain ⟨b, _, rfl⟩ := hv
  rfl

theorem bc_get (l : List UInt8) (j : Nat) (hj : j < l.length) : (Lib.byteCells l)[j]? = some (.int .u8 l[j].toNat) := by simp [Lib.byteCells, hj]

/-- A row of bytes of the call's own, grown by some. -/
theorem own_push {B : Nat} {w wr w1 : World} {v v' : Value} {l m : List UInt8} {o : Obj} {k k' : Nat} (hB : B ≤ wr.heap.size)
    (hown : wr.ownsRow B 5 1 v k (Lib.byteCells l)) (hb : Below B w wr) (hown' : w1.ownsRow B 5 1 v' k' (Lib.byteCells l ++ Lib.byteCells m)) (hg : (wr.alloc o).grownBy w1 v.ownBlock) :
    w1.ownsRow B 5 1 v' k' (Lib.byteCells (l ++ m)) ∧ Below B w w1 := by
  refine ⟨?_, (hb.alloc hB o).grown hg (by simp; omega) fun j hj => (hown.lt j hj).1⟩
  rw [bc_app]
  exact hown'

theorem own_push_d {B : Nat} {w wr w1 : World} {v v' : Value} {l m : List UInt8} {o : Obj} {k k' : Nat} (hB : B ≤ wr.heap.size)
    (hown : wr.ownsRow B 5 1 v k (Lib.byteCells l)) (hb : Below B w wr) (hown' : w1.ownsRow B 5 1 v' k' (Lib.byteCells l ++ Lib.byteCells m)) (hg : (wr.alloc o).drew.grownBy w1 v.ownBlock) :
    w1.ownsRow B 5 1 v' k' (Lib.byteCells (l ++ m)) ∧ Below B w w1 :=
  own_push (o := o) hB hown hb hown' ⟨hg.os, hg.tape, hg.output, hg.size, hg.block⟩

/-- The cells of a new block, an order drawn behind it. -/
theorem new_cells (w : World) (C : List Value) (t : TypeId) : ∀ (j : Nat) u, C[j]? = some u → ((w.alloc (.cells C.toArray t)).drew).cell? ((⟨w.heap.size, 0, none⟩ : Addr).add j) = some u := by
  intro j u hj
  have h := World.cell?_alloc_mark w C.toArray t (0, 0) j
  have hadd : (⟨w.heap.size, 0, none⟩ : Addr).add j = ⟨w.heap.size, j, none⟩ := by unfold Addr.add; split <;> simp_all
  rw [hadd]
  show (w.alloc (.cells C.toArray t)).cell? _ = _
  rw [h]
  simpa using hj

theorem own_mono {w : World} {B B' : Nat} {e : TypeId} {v : Value} {n : Nat} {xs : List Value} (h : w.ownsRow B e 1 v n xs) (hB : B' ≤ B) : w.ownsRow B' e 1 v n xs := by
  refine ⟨h.1, ?_⟩
  rcases h.2 with hn | ⟨g, cap, cur, rfl, hb, rest⟩
  · exact .inl hn
  · exact .inr ⟨g, cap, cur, rfl, Nat.le_trans hB hb, rest⟩

theorem one_cell (w : World) (u : Value) (t : TypeId) : ∀ (j : Nat) x, [u][j]? = some x → (w.alloc (.cells #[u] t)).cell? ((⟨w.heap.size, 0, none⟩ : Addr).add j) = some x := by
  intro j x hj
  exact new_cells w [u] t j x hj

theorem own_cells {w : World} {B : Nat} {e : TypeId} {v : Value} {n : Nat} {xs : List Value} (h : w.ownsRow B e 1 v n xs) (hn : 0 < n) :
    ∃ g cap, v = .slice (some ⟨g, 0, none⟩) n cap ∧ B ≤ g ∧ g < w.heap.size ∧ ∀ (j : Nat) u, xs[j]? = some u → w.cell? ⟨g, j, none⟩ = some u := by
  rcases h.2 with ⟨rfl, h0⟩ | ⟨g, cap, cur, rfl, hb, hg, _, hm, hs, htake⟩
  · omega
  · refine ⟨g, cap, rfl, hb, (Array.getElem?_eq_some_iff.1 hg).1, fun j u hj => ?_⟩
    have := h.cells rfl j u hj
    have hadd : (⟨g, 0, none⟩ : Addr).add j = ⟨g, j, none⟩ := by unfold Addr.add; split <;> simp_all
    rwa [hadd] at this

/-- append to a row of the call's own, as one step of a region that draws. -/
theorem step_append_own {P : Program} {ops : Array Oper} {o : Oper} {a : Act} {w : World} {K : Act → World → Prop} {Q : Exit → Act → World → Prop} {E : Prop}
    (hg : o.guard = none) (s x : Operand) (t : TypeId) (hop : o.op = Op.call { callee := Callee.builtin Builtin.append, args := #[s, x], argTypes := #[t, t] })
    (base : Nat) (e : TypeId) (i : TypeInfo) (z : Value) (size bytes : Nat) (ht : P.underlying t = some (.slice e)) (hi : P.info? e = some i) (hz : i.zero = some z)
    (hsize : i.size = size) (hby : i.bytes = bytes) (hzs : z.cells.size = size) (hsz : 0 < size)
    (v : Value) (n : Nat) (xs : List Value) (hs : a.eval s = v) (hown : w.ownsRow base e size v n xs)
    (ad : Addr) (m c : Nat) (news : List Value) (hx : a.eval x = .slice (some ad) m c) (hl : news.length = m * size) (hnews : ∀ j u, news[j]? = some u → w.cell? (ad.add j) = some u) (h1 : ∀ u ∈ news, u.oneCell' = true)
    (h63 : n + m ≤ maxLen) (hbytes : (n + m) * bytes ≤ 140737488355328) (hbase : base ≤ w.heap.size)
    (h : ∀ v' w', w'.ownsRow base e size v' (n + m) (xs ++ news) → w.grownBy w' v.ownBlock → K (a.put o.dst v') w') :
    if Region.wanted o (yielded ops a.tmps) = true then Oper.wp P o a w K Q else E := by
  have hw : Region.wanted o (yielded ops a.tmps) = true := by simp [Region.wanted, hg]
  rw [if_pos hw]
  obtain ⟨v', w', hr, h2, h3, _⟩ := run_append_own (P := P) w base t o.type e i z size bytes ht hi hz hsize hby hzs hsz v n xs hown ad m c news hl hnews h1 h63 hbytes hbase
  unfold Oper.wp
  simp only [execOp, hop, resolve, invoke, builtin, Sem.run_bind, Sem.run_pure, Result.andThen_ok, List.map_toArray, List.map_cons, List.map_nil, hs, hx, hr]
  exact h v' w' h2 h3

theorem string_of_own {w : World} {B : Nat} {v : Value} {l : List UInt8} {n : Nat} (hn : n = l.length) (h : w.ownsRow B 5 1 v n (Lib.byteCells l)) : (convert 50 9 v).run Tryz.prog w = .ok (.string ⟨l.toArray⟩) w := by
  subst hn
  rcases h.2 with ⟨rfl, h0⟩ | ⟨g, cap, cur, rfl, hb, hg, hn, hm, hs, htake⟩
  · obtain rfl : l = [] := List.length_eq_zero_iff.1 h0
    rw [run_convert_bytes_string w 50 9 5 none 0 0 Tryz.underlying50 Tryz.underlying5 Tryz.underlying9]
    rfl
  · exact run_convert_bytes_back w 50 9 5 ⟨g, 0, none⟩ cap l Tryz.underlying50 Tryz.underlying5 Tryz.underlying9 fun j hj => h.cells rfl j _ (bc_get l j hj)
end Go.Proofs.YtdjaccnocaffjaaGreatDoor

/-
  Bits: or of a multiple and what is less, and with a mask.
-/

set_option linter.unusedVariables false
namespace Go.Basic
open Go Go.RowKit

theorem wraps_i64 (n : Int) (h0 : 0 ≤ n) (h1 : n < 2 ^ 62) : IntKind.i64.wrap n = n := by
  rw [IntKind.wrap_i64]
  omega

theorem or_low (a b k : Nat) (hb : b < 2 ^ k) : (a * 2 ^ k) ||| b = a * 2 ^ k + b := by
  rw [← Nat.shiftLeft_eq, Nat.shiftLeft_add_eq_or_of_lt hb]

theorem or_256 (n x : Nat) (hn : n ≤ 16777216) (hx : x < 256) : bits .or .i64 ((n : Int) * 256) (wrap64 (x : Int)) = ((n * 256 + x : Nat) : Int) := by
  have e : wrap64 (x : Int) = (x : Int) := by unfold wrap64; omega
  rw [e]
  have h := (bits_nat .i64 62 (by decide) wraps_i64 (n * 256) x (by omega) (by omega)).2
  rw [or_low n x 8 hx] at h
  rw [← h, Int.natCast_mul]
  rfl

theorem or_256' (n x : Nat) (hn : n ≤ 16777216) (hx : x < 256) : bits .or .i64 ((n : Int) * 256) (x : Int) = ((n * 256 + x : Nat) : Int) := by
  have h := or_256 n x hn hx
  have e : wrap64 (x : Int) = (x : Int) := by unfold wrap64; omega
  rw [e] at h
  exact h

theorem or_64 (n x : Nat) (hn : n ≤ 16777216) (hx : x < 64) : bits .or .i64 ((n : Int) * 64) (x : Int) = ((n * 64 + x : Nat) : Int) := by
  have h := (bits_nat .i64 62 (by decide) wraps_i64 (n * 64) x (by omega) (by omega)).2
  rw [or_low n x 6 hx] at h
  rw [← h, Int.natCast_mul]
  rfl

theorem and_63 (n : Nat) (hn : n ≤ 16777216) : bits .and .i64 (n : Int) 63 = ((n % 64 : Nat) : Int) := by
  have h := bits_mask .i64 62 (by decide) wraps_i64 6 (by decide) (n : Int) (by omega) (by omega)
  have e : ((2 : Int) ^ 6 - 1) = 63 := by decide
  rw [e] at h
  rw [h]
  simp only [Int.natCast_emod]
  rfl

theorem and_pow (n i : Nat) (hi : i ≤ 60) (hn : n ≤ 16777216) : bits .and .i64 (n : Int) (2 ^ i - 1) = ((n % 2 ^ i : Nat) : Int) := by
  have h := bits_mask .i64 62 (by decide) wraps_i64 i (by omega) (n : Int) (by omega) (by omega)
  rw [h]
  simp only [Int.natCast_emod, Int.natCast_pow]
  rfl
end Go.Basic
set_option linter.unusedVariables false
set_option maxRecDepth 100000
namespace Go.Proofs.YtdjaccnocaffjaaGreatDoor
open Go Go.RowKit Go.Basic

def isAlnum (c : Nat) : Bool := (decide (65 ≤ c) && decide (c ≤ 90)) || (decide (97 ≤ c) && decide (c ≤ 122)) || (decide (48 ≤ c) && decide (c ≤ 57))

theorem alnum_calls (c : Nat) (hc : c < 256) (w : World) : Calls Tryz.prog 58 #[.int .u8 c] w fun e w' => e = .returned (.bool (isAlnum c)) ∧ w' = w := by
  go_enter Tryz.func58, Tryz.ntmps58
  go_wp2
  all_goals go_ret
  all_goals (refine ⟨congrArg (fun b => Ending.returned (Value.bool b)) ?_, rfl⟩; unfold isAlnum; rw [Bool.eq_iff_iff]; simp; omega)

theorem plain_calls (c : Nat) (hc : c < 256) (w : World) : Calls Tryz.prog 62 #[.int .u8 c] w fun e w' => e = .returned (.bool (isPlain c)) ∧ w' = w := by
  go_enter Tryz.func62, Tryz.ntmps62
  go_wp2
  all_goals go_ret
  all_goals (refine ⟨congrArg (fun b => Ending.returned (Value.bool b)) ?_, rfl⟩; unfold isPlain; rw [Bool.eq_iff_iff]; simp; omega)

/-- A hex digit's number, or -1. -/
def hexI (c : Nat) : Int := if 48 ≤ c ∧ c ≤ 57 then c - 48 else if 97 ≤ c ∧ c ≤ 102 then c - 87 else if 65 ≤ c ∧ c ≤ 70 then c - 55 else -1

theorem hex_calls (c : Nat) (hc : c < 256) (w : World) : Calls Tryz.prog 85 #[.int .u8 c] w fun e w' => e = .returned (.int .i64 (hexI c)) ∧ w' = w := by
  go_enter Tryz.func85, Tryz.ntmps85
  go_wp2
  all_goals go_ret
  all_goals (refine ⟨congrArg (fun b => Ending.returned (Value.int .i64 b)) ?_, rfl⟩; unfold hexI; (repeat' split) <;> omega)

theorem letter_calls (n : Nat) (hn : n < 64) (w : World) : Calls Tryz.prog 61 #[.int .i64 n] w fun e w' => e = .returned (.int .u8 (letU n).toNat) ∧ w' = w := by
  go_enter Tryz.func61, Tryz.ntmps61
  go_wp2
  all_goals go_ret
  all_goals (refine ⟨congrArg (fun b => Ending.returned (Value.int .u8 b)) ?_, rfl⟩; unfold letU)
  all_goals ((repeat' split) <;> first | omega | (simp; omega) | rfl | (exfalso; simp at *; omega))
end Go.Proofs.YtdjaccnocaffjaaGreatDoor

/-
  The place of a byte in a text.
-/

set_option linter.unusedVariables false
set_option maxRecDepth 100000
namespace Go.Proofs.YtdjaccnocaffjaaGreatDoor
open Go Go.RowKit

/-- The first place of a byte in a text that begins at k, or -1. -/
def placeF (c : Nat) : List UInt8 → Nat → Int
  | [], _ => -1
  | x :: l, k => if x.toNat = c then k else placeF c l (k + 1)

theorem drop_at (s : ByteArray) (k : Nat) (h : k < s.size) : s.data.toList.drop k = s[k] :: s.data.toList.drop (k + 1) := by
  rw [List.drop_eq_getElem_cons (by simpa using h)]
  rfl

theorem place_calls (all : ByteArray) (hs : all.size ≤ 1000000) (c : Nat) (w : World) : Calls Tryz.prog 183 #[.string all, .int .u8 c] w fun e w' => e = .returned (.int .i64 (placeF c all.data.toList 0)) ∧ w' = w := by
  go_enter Tryz.func183, Tryz.ntmps183
  go_wp2
  go_loop [8] (fun n => ∃ k : Nat, k ≤ all.size ∧ n = .int .i64 k ∧ Hid (placeF c all.data.toList 0 = placeF c (all.data.toList.drop k) k)) (fun n => all.size - (intOf n).toNat)
  case atStart => exact ⟨0, by omega, rfl, rfl⟩
  case round =>
    obtain ⟨k, hk, rfl, hI⟩ := hrel
    by_cases hp : k < all.size
    · have hd := drop_at all k hp
      have hI' : placeF c all.data.toList 0 = placeF c (all.data.toList.drop k) k := hI
      rw [hd] at hI'
      simp only [placeF] at hI'
      by_cases he : all[k].toNat = c
      · have hb : (((all[k].toNat : Nat) : Int) == (c : Int)) = true := by rw [he]; simp
        rw [if_pos he] at hI'
        go_wp2
        go_ret
        first | exact ⟨rfl, rfl⟩ | (rw [hI']; exact ⟨rfl, rfl⟩)
      · have hb : (((all[k].toNat : Nat) : Int) == (c : Int)) = false := by
          rw [beq_eq_false_iff_ne]
          omega
        rw [if_neg he] at hI'
        go_wp2
        go_round
        case rel => exact ⟨k + 1, by omega, by go_num, hI'⟩
        case measure => simp only [intOf]; omega
    · have he : all.data.toList.drop k = [] := List.drop_eq_nil_of_le (by simpa using Nat.le_of_not_lt hp)
      have hI' : placeF c all.data.toList 0 = placeF c (all.data.toList.drop k) k := hI
      rw [he] at hI'
      simp only [placeF] at hI'
      go_wp2
      go_ret
      first | exact ⟨rfl, rfl⟩ | (rw [hI']; exact ⟨rfl, rfl⟩)
end Go.Proofs.YtdjaccnocaffjaaGreatDoor

/-
  A bit of bytes, the highest of each first.
-/

set_option linter.unusedVariables false
set_option maxRecDepth 100000
namespace Go.Proofs.YtdjaccnocaffjaaGreatDoor
open Go Go.RowKit Go.Basic

theorem bit_calls (l : List UInt8) (i b off cap : Nat) (hi : i ≤ 100000000) (hl : l.length ≤ 10000000) (w : World) (hc : ∀ (j : Nat) x, l[j]? = some x → w.cell? ⟨b, off + j, none⟩ = some (.int .u8 x.toNat)) :
    Calls Tryz.prog 60 #[.slice (some ⟨b, off, none⟩) l.length cap, .int .i64 i] w fun e w' => e = .returned (.int .i64 (bitAt l i)) ∧ w' = w := by
  by_cases h : l.length ≤ i / 8
  · have h1 : (l.length : Int) ≤ (i : Int) / 8 := by omega
    go_enter Tryz.func60, Tryz.ntmps60
    go_wp2
    go_ret
    have e : bitAt l i = 0 := by
      unfold bitAt
      rw [List.getElem?_eq_none h]
    rw [e]
    exact ⟨rfl, rfl⟩
  · have h1 : ¬ (l.length : Int) ≤ (i : Int) / 8 := by omega
    have h2 : (i : Int) / 8 < l.length := by omega
    have h3 : (0 : Int) ≤ (i : Int) / 8 := by omega
    obtain ⟨x, hx⟩ : ∃ x, l[i / 8]? = some x := ⟨l[i / 8]'(by omega), by simp⟩
    have hcell := hc _ _ hx
    have h4 : ((i : Int) / 8).toNat = i / 8 := by omega
    go_enter Tryz.func60, Tryz.ntmps60
    go_wp2
    go_ret
    have hb : bitAt l i = x.toNat / 2 ^ (7 - i % 8) % 2 := by
      unfold bitAt
      rw [hx]
    have q : ((x.toNat : Int) / 2 ^ (7 - i % 8)) = ((x.toNat / 2 ^ (7 - i % 8) : Nat) : Int) := by push_cast; rfl
    have hx8 : x.toNat / 2 ^ (7 - i % 8) ≤ 255 := Nat.le_trans (Nat.div_le_self _ _) (by have := x.toNat_lt; omega)
    have hw : wrap64 ((x.toNat / 2 ^ (7 - i % 8) : Nat) : Int) = ((x.toNat / 2 ^ (7 - i % 8) : Nat) : Int) := by
      generalize x.toNat / 2 ^ (7 - i % 8) = m at hx8
      unfold wrap64
      omega
    refine ⟨congrArg (fun z => Ending.returned (Value.int .i64 z)) ?_, rfl⟩
    show (wrap64 ((x.toNat : Int) / 2 ^ (7 - i % 8))).tmod 2 = _
    rw [q, hw, hb]
    rfl
end Go.Proofs.YtdjaccnocaffjaaGreatDoor

/-
  The reference's Base64: letters of six bits each.
-/

set_option linter.unusedVariables false
set_option maxRecDepth 100000
namespace Go.Proofs.YtdjaccnocaffjaaGreatDoor
open Go Go.RowKit Go.Basic

def g6 (p : List UInt8) (i : Nat) : Nat → Nat
  | 0 => 0
  | k + 1 => 2 * g6 p i k + bitAt p (i + k)

theorem bitAt_le (p : List UInt8) (i : Nat) : bitAt p i ≤ 1 := by
  unfold bitAt
  split <;> omega

theorem g6_lt (p : List UInt8) (i : Nat) : ∀ k, g6 p i k < 2 ^ k
  | 0 => by simp [g6]
  | k + 1 => by
    have := g6_lt p i k
    have := bitAt_le p (i + k)
    simp only [g6, Nat.pow_succ]
    omega

theorem g6_grp (p : List UInt8) (i : Nat) : g6 p i 6 = grp p i := rfl

def pre (l : List UInt8) (k : Nat) : List UInt8 := (List.range k).map fun j => letU (grp l (6 * j))

theorem pre_succ (l : List UInt8) (k : Nat) : pre l (k + 1) = pre l k ++ [letU (grp l (6 * k))] := by
  simp [pre, List.range_succ]

theorem pre_len (l : List UInt8) (k : Nat) : (pre l k).length = k := by simp [pre]

theorem pre_all (l : List UInt8) : pre l ((4 * l.length + 2) / 3) = (six l).map letU := by
  rw [← grps_six l, List.map_map]
  rfl

theorem bit_calls' (x : Int) (l : List UInt8) (i b off cap : Nat) (hx : x = i) (hi : i ≤ 100000000) (hl : l.length ≤ 10000000) (w : World) (hc : ∀ (j : Nat) x, l[j]? = some x → w.cell? ⟨b, off + j, none⟩ = some (.int .u8 x.toNat)) :
    Calls Tryz.prog 60 #[.slice (some ⟨b, off, none⟩) l.length cap, .int .i64 x] w fun e w' => e = .returned (.int .i64 (bitAt l i)) ∧ w' = w := by
  subst hx
  exact bit_calls l i b off cap hi hl w hc

theorem base64_calls (l : List UInt8) (b off cap : Nat) (hl : l.length ≤ 10000000) (w : World) (hb : b < w.heap.size) (hc : ∀ (j : Nat) x, l[j]? = some x → w.cell? ⟨b, off + j, none⟩ = some (.int .u8 x.toNat)) :
    Calls Tryz.prog 25 #[.slice (some ⟨b, off, none⟩) l.length cap] w fun e w' => e = .returned (.string ⟨((six l).map letU).toArray⟩) ∧ Below w.heap.size w w' := by
  obtain ⟨i0, hi, hz0, hz1, hz2⟩ := info_parts inf5
  go_enter Tryz.func25, Tryz.ntmps25
  go_wp2
  go_loopw [3, 4] (fun v i wr => ∃ k : Nat, k ≤ (4 * l.length + 2) / 3 ∧ i = .int .i64 (6 * (k : Int)) ∧ wr.ownsRow w.heap.size 5 1 v k (Lib.byteCells (pre l k)) ∧ Below w.heap.size w wr) (fun _ i _ => 6 * ((4 * l.length + 2) / 3) - (intOf i).toNat)
  case atStart => exact ⟨0, Nat.zero_le _, rfl, World.ownsRow_nil _ _ _ _, Below.refl _ _⟩
  case round =>
    obtain ⟨k, hk, rfl, hown, hbw⟩ := hrel
    have hpl := pre_len l k
    by_cases hlt : k < (4 * l.length + 2) / 3
    · have hlt' : 6 * (k : Int) < 8 * (l.length : Int) := by omega
      have hcr : ∀ (j : Nat) x, l[j]? = some x → wr.cell? ⟨b, off + j, none⟩ = some (.int .u8 x.toNat) := fun j x hj => (hbw.cell hb).trans (hc j x hj)
      go_wp2
      go_loopw [5, 6] (fun n q wx => ∃ m : Nat, m ≤ 6 ∧ q = .int .i64 m ∧ n = .int .i64 (g6 l (6 * k) m) ∧ wx = wr) (fun _ q _ => 6 - (intOf q).toNat)
      case atStart => exact ⟨0, by omega, rfl, rfl, rfl⟩
      case round =>
        obtain ⟨m, hm, rfl, rfl, rfl⟩ := hrel
        by_cases hm6 : m < 6
        · have hg : g6 l (6 * k) m ≤ 64 := Nat.le_trans (Nat.le_of_lt (g6_lt l (6 * k) m)) (Nat.pow_le_pow_right (n := 2) (by omega) (show m ≤ 6 by omega))
          have hb1 := bitAt_le l (6 * k + m)
          go_wp2_with (go_at_call 60; refine (bit_calls' _ l (6 * k + m) b off cap (by omega) (by omega) hl _ hcr).mono ?_)
          rintro e w1 ⟨rfl, rfl⟩
          go_wp2
          go_roundw
          case rel => exact ⟨m + 1, by omega, by go_num, congrArg (Value.int .i64) (by simp only [g6]; push_cast; rfl), (by first | trivial | rfl)⟩
          case measure => simp only [intOf]; omega
        · obtain rfl : m = 6 := by omega
          have hg : g6 l (6 * k) 6 < 64 := g6_lt l (6 * k) 6
          go_wp2_with (go_at_call 61; refine (letter_calls _ hg _).mono ?_)
          rintro e w1 ⟨rfl, rfl⟩
          go_wp2_with (at_builtin; refine wpList_append_own _ rfl _ _ 50 rfl w.heap.size 5 i0 (.int .u8 0) 1 1 Tryz.underlying50 hi hz0 hz1 hz2 rfl (by decide) _ _ _ rfl (hown.alloc _) ⟨_, 0, none⟩ 1 1 [.int .u8 (letU (g6 l (6 * k) 6)).toNat] rfl rfl ?c1 ?c2 ?c3 ?c4 ?c5 ?_)
          case c1 =>
            intro j u hj
            match j, hj with
            | 0, hj => simp at hj; subst hj; simp [Addr.add]
          case c2 => intro u hu; simp at hu; subst hu; rfl
          case c3 => unfold maxLen; omega
          case c4 => omega
          case c5 => have := hbw.size; simp; omega
          intro v' w2 hown' hgrow _
          have R := own_push (m := [letU (g6 l (6 * k) 6)]) hbw.size hown hbw hown' hgrow
          rw [g6_grp, ← pre_succ] at R
          clear hown' hgrow hown hcr
          go_wp2
          go_roundw
          case rel => exact ⟨k + 1, by omega, by go_num, R.1, R.2⟩
          case measure => simp only [intOf]; omega
    · have hge : ¬ 6 * (k : Int) < 8 * (l.length : Int) := by omega
      have hkl : k = (4 * l.length + 2) / 3 := by omega
      have hst := string_of_own hpl.symm hown
      go_wp2
      go_ret
      rw [pre_all]
      exact ⟨rfl, hbw⟩
end Go.Proofs.YtdjaccnocaffjaaGreatDoor

/-
  The reference's Escape.
-/

set_option linter.unusedVariables false
set_option maxRecDepth 100000
set_option maxHeartbeats 800000
namespace Go.Proofs.YtdjaccnocaffjaaGreatDoor
open Go Go.RowKit Go.Basic

theorem esc1_le (c : UInt8) : (esc1 c).length ≤ 3 := by
  unfold esc1
  split
  · simp
  · split <;> simp

theorem esc_take (l : List UInt8) (k : Nat) (hk : k < l.length) : esc (l.take (k + 1)) = esc (l.take k) ++ esc1 l[k] := by
  rw [List.take_add_one, List.getElem?_eq_getElem hk]
  unfold esc
  rw [List.flatMap_append]
  simp

theorem esc_len (l : List UInt8) : (esc l).length ≤ 3 * l.length := by
  induction l with
  | nil => simp [esc]
  | cons c l ih =>
    have := esc1_le c
    show (esc1 c ++ esc l).length ≤ _
    simp only [List.length_append, List.length_cons]
    omega

theorem hex_const : ∀ (n : Nat) (h : n < 16), ((⟨#[48, 49, 50, 51, 52, 53, 54, 55, 56, 57, 65, 66, 67, 68, 69, 70]⟩ : ByteArray)[n]'h) = hexd n := by decide

theorem refEscape_calls (s : ByteArray) (hs : s.size ≤ 2000000) (w : World) :
    Calls Tryz.prog 26 #[.string s] w fun e w' => e = .returned (.string ⟨(esc s.data.toList).toArray⟩) ∧ Below w.heap.size w w' := by
  obtain ⟨i0, hi, hz0, hz1, hz2⟩ := info_parts inf5
  go_enter Tryz.func26, Tryz.ntmps26
  go_wp2
  go_loopw [3, 5] (fun v i wr => ∃ k n : Nat, k ≤ s.size ∧ i = .int .i64 k ∧ Hid (n = (esc (s.data.toList.take k)).length) ∧ n ≤ 3 * k ∧ wr.ownsRow w.heap.size 5 1 v n (Lib.byteCells (esc (s.data.toList.take k))) ∧ Below w.heap.size w wr) (fun _ i _ => s.size - (intOf i).toNat)
  case atStart => exact ⟨0, 0, Nat.zero_le _, rfl, rfl, by omega, World.ownsRow_nil _ _ _ _, Below.refl _ _⟩
  case round =>
    obtain ⟨k, n, hk, rfl, hn, hnk, hown, hbw⟩ := hrel
    by_cases hlt : k < s.size
    · have hlt' : (k : Int) < (s.size : Int) := by omega
      have hl : k < s.data.toList.length := by simpa using hlt
      have het := esc_take s.data.toList k hl
      have hgk : s.data.toList[k] = s[k] := rfl
      rw [hgk] at het
      have hc := UInt8.toNat_lt s[k]
      by_cases hp : isPlain s[k].toNat = true
      · have hne : ¬ s[k] = 32 := by
          intro e
          rw [e] at hp
          exact absurd hp (by decide)
        have he1 : esc1 s[k] = [s[k]] := by unfold esc1; rw [if_neg hne, if_pos hp]
        go_wp2_with (go_at_call 62; refine (plain_calls _ hc _).mono ?_)
        rintro e w1 ⟨rfl, rfl⟩
        go_wp2_with (at_builtin; refine wpList_append_own _ rfl _ _ 50 rfl w.heap.size 5 i0 (.int .u8 0) 1 1 Tryz.underlying50 hi hz0 hz1 hz2 rfl (by decide) _ _ _ rfl (hown.alloc _) ⟨_, 0, none⟩ 1 1 [.int .u8 s[k].toNat] rfl rfl ?c1 ?c2 ?c3 ?c4 ?c5 ?_)
        case c1 =>
          intro j u hj
          match j, hj with
          | 0, hj => simp at hj; subst hj; simp [Addr.add]
        case c2 => intro u hu; simp at hu; subst hu; rfl
        case c3 => unfold maxLen; omega
        case c4 => omega
        case c5 => have := hbw.size; simp; omega
        intro v' w2 hown' hgrow _
        have R := own_push (m := [s[k]]) hbw.size hown hbw hown' hgrow
        rw [← he1, ← het] at R
        clear hown' hgrow hown
        go_wp2
        go_roundw
        case rel => exact ⟨k + 1, n + 1, by omega, by go_num, (by show n + 1 = _; rw [het, he1, List.length_append, ← show n = _ from hn]; rfl), by omega, R.1, R.2⟩
        case measure => simp only [intOf]; omega
      · by_cases h32 : s[k] = 32
        · have he1 : esc1 s[k] = [43] := by unfold esc1; rw [if_pos h32]
          have hp' : isPlain s[k].toNat = false := by rw [show s[k].toNat = 32 from by rw [h32]; decide]; decide
          have h32' : ((s[k].toNat : Int) == 32) = true := by rw [show s[k].toNat = 32 from by rw [h32]; decide]; decide
          clear h32
          go_wp2_with (go_at_call 62; refine (plain_calls _ hc _).mono ?_)
          rintro e w1 ⟨rfl, rfl⟩
          go_wp2_with (at_builtin; refine wpList_append_own _ rfl _ _ 50 rfl w.heap.size 5 i0 (.int .u8 0) 1 1 Tryz.underlying50 hi hz0 hz1 hz2 rfl (by decide) _ _ _ rfl (hown.alloc _) ⟨_, 0, none⟩ 1 1 [.int .u8 43] rfl rfl ?c1 ?c2 ?c3 ?c4 ?c5 ?_)
          case c1 =>
            intro j u hj
            match j, hj with
            | 0, hj => simp at hj; subst hj; simp [Addr.add]
          case c2 => intro u hu; simp at hu; subst hu; rfl
          case c3 => unfold maxLen; omega
          case c4 => omega
          case c5 => have := hbw.size; simp; omega
          intro v' w2 hown' hgrow _
          have R := own_push (m := [43]) hbw.size hown hbw hown' hgrow
          rw [← he1, ← het] at R
          clear hown' hgrow hown
          go_wp2
          go_roundw
          case rel => exact ⟨k + 1, n + 1, by omega, by go_num, (by show n + 1 = _; rw [het, he1, List.length_append, ← show n = _ from hn]; rfl), by omega, R.1, R.2⟩
          case measure => simp only [intOf]; omega
        · have he1 : esc1 s[k] = [37, hexd (s[k].toNat / 16), hexd (s[k].toNat % 16)] := by unfold esc1; rw [if_neg h32, if_neg hp]
          have hp' : isPlain s[k].toNat = false := by simpa using hp
          have h32' : ((s[k].toNat : Int) == 32) = false := by
            rw [beq_eq_false_iff_ne]
            intro e
            exact h32 (UInt8.toNat_inj.1 (by show s[k].toNat = 32; omega))
          go_wp2_with (go_at_call 62; refine (plain_calls _ hc _).mono ?_)
          rintro e w1 ⟨rfl, rfl⟩
          obtain ⟨p, hp1⟩ : ∃ p, p = s[k].toNat / 16 := ⟨_, rfl⟩
          obtain ⟨q, hq1⟩ : ∃ q, q = s[k].toNat % 16 := ⟨_, rfl⟩
          have hw1 : IntKind.u8.wrap ((s[k].toNat : Int) / 16) = (p : Int) := by
            have e : ∀ x : Int, IntKind.u8.wrap x = x % 256 := fun x => rfl
            rw [e]
            omega
          have hw2 : (s[k].toNat : Int).tmod 16 = (q : Int) := by
            rw [Int.tmod_eq_emod_of_nonneg (by omega)]
            omega
          have hp16 : p < 16 := by omega
          have hp16' : (p : Int) < 16 := by omega
          have hq16' : (q : Int) < 16 := by omega
          have hq16 : q < 16 := by omega
          rw [← hp1, ← hq1] at he1
          have hx1 := hex_const p hp16
          have hx2 := hex_const q hq16
          clear hp1 hq1
          go_wp2
          go_region_law (refine step_append_own rfl (.tmp 16) (.tmp 25) 50 rfl w.heap.size 5 i0 (.int .u8 0) 1 1 Tryz.underlying50 hi hz0 hz1 hz2 rfl (by decide) _ _ _ rfl (hown.alloc _) ⟨_, 0, none⟩ 3 3 (Lib.byteCells [37, hexd p, hexd q]) rfl rfl (new_cells _ _ _) (bc_one _) (by unfold maxLen; omega) (by omega) (by have := hbw.size; simp; omega) ?_; intro v' w2 hown' hgrow)
          all_goals
            have R := own_push_d (m := [37, hexd p, hexd q]) hbw.size hown hbw hown' hgrow
            rw [← he1, ← het] at R
            clear hown' hgrow hown
            go_wp2
            go_roundw
            case rel => exact ⟨k + 1, n + 3, by omega, by go_num, (by show n + 3 = _; rw [het, he1, List.length_append, ← show n = _ from hn]; rfl), by omega, R.1, R.2⟩
            case measure => simp only [intOf]; omega
    · have hge : ¬ (k : Int) < (s.size : Int) := by omega
      obtain rfl : k = s.size := by omega
      have htk : s.data.toList.take s.size = s.data.toList := List.take_of_length_le (by simp)
      rw [htk] at hown hn
      have hst := string_of_own hn hown
      go_wp2
      go_ret
      exact ⟨rfl, hbw⟩
end Go.Proofs.YtdjaccnocaffjaaGreatDoor
