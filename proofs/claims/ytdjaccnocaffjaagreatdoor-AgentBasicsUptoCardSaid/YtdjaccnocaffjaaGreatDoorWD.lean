/-
  A row of bytes of the call's own that was made by []byte(s): written in place, pushed, made a text.
-/
import Derived.Test.YtdjaccnocaffjaaGreatDoorWA
import Derived.Test.YtdjaccnocaffjaaGreatDoorSH
import Derived.ArgAppend

set_option linter.unusedVariables false
set_option maxRecDepth 100000
namespace Go.Proofs.YtdjaccnocaffjaaGreatDoor
open Go Go.RowKit Go.Basic

structure RowAt (B b cap : Nat) (w : World) (Y : List UInt8) : Prop where
  low : B ≤ b
  lt : b < w.heap.size
  fits : Y.length ≤ cap
  cells : ∀ (j : Nat) x, Y[j]? = some x → w.cell? ⟨b, j, none⟩ = some (.int .u8 x.toNat)
  open' : ∀ j, j < cap → (w.cell? ⟨b, j, none⟩).isSome = true ∧ w.frozen? ⟨b, j, none⟩ = false

theorem RowAt.of_bytes (w : World) (s : ByteArray) :
    RowAt w.heap.size w.heap.size (grownCap w s.size 0 5) (w.drew.alloc (.cells (bytesRow s (grownCap w s.size 0 5)) 5 ((bytesRow s (grownCap w s.size 0 5)).size, (bytesRow s (grownCap w s.size 0 5)).size + 1))) s.data.toList where
  low := Nat.le_refl _
  lt := by simp
  fits := by
    have := grownCap_ge w s.size 0 5
    simpa using this
  cells j x hj := by
    have hj' : j < s.data.size := by
      have := (List.getElem?_eq_some_iff.1 hj).1
      simpa using this
    have h := World.cell?_alloc_mark w.drew (bytesRow s (grownCap w s.size 0 5)) 5 ((bytesRow s (grownCap w s.size 0 5)).size, (bytesRow s (grownCap w s.size 0 5)).size + 1) j
    refine h.trans ?_
    rw [bytesRow_at s _ j hj']
    have := (List.getElem?_eq_some_iff.1 hj).2
    rw [← this]
    rfl
  open' j hj := by
    have hsz : (bytesRow s (grownCap w s.size 0 5)).size = grownCap w s.size 0 5 := by
      have := grownCap_ge w s.size 0 5
      unfold bytesRow
      have e : s.data.size = s.size := rfl
      simp
      omega
    constructor
    · have h := World.cell?_alloc_mark w.drew (bytesRow s (grownCap w s.size 0 5)) 5 ((bytesRow s (grownCap w s.size 0 5)).size, (bytesRow s (grownCap w s.size 0 5)).size + 1) j
      rw [show (w.drew.alloc (.cells (bytesRow s (grownCap w s.size 0 5)) 5 ((bytesRow s (grownCap w s.size 0 5)).size, (bytesRow s (grownCap w s.size 0 5)).size + 1))).cell? ⟨w.heap.size, j, none⟩ = _ from h]
      rw [Array.getElem?_eq_getElem (by rw [hsz]; exact hj)]
      rfl
    · have h := World.frozen?_alloc_mark w.drew (bytesRow s (grownCap w s.size 0 5)) 5 (bytesRow s (grownCap w s.size 0 5)).size ((bytesRow s (grownCap w s.size 0 5)).size + 1) j
      refine (show _ = _ from h).trans ?_
      rw [hsz]
      simp
      omega

theorem RowAt.alloc {B b cap : Nat} {w : World} {Y : List UInt8} (h : RowAt B b cap w Y) (o : Obj) : RowAt B b cap (w.alloc o) Y where
  low := h.low
  lt := by have := h.lt; simp; omega
  fits := h.fits
  cells j x hj := (World.cell?_alloc_past _ _ _ h.lt).trans (h.cells j x hj)
  open' j hj := by
    rw [World.cell?_alloc_past _ _ _ h.lt, World.frozen?_alloc_past _ _ _ h.lt]
    exact h.open' j hj

theorem RowAt.set {B b cap : Nat} {w : World} {Y : List UInt8} (h : RowAt B b cap w Y) (k : Nat) (hk : k < Y.length) (v : UInt8) : RowAt B b cap (w.setCell ⟨b, k, none⟩ (.int .u8 v.toNat)) (Y.set k v) where
  low := h.low
  lt := by have := h.lt; simpa using this
  fits := by rw [List.length_set]; exact h.fits
  cells j x hj := by
    obtain ⟨y, hy⟩ : ∃ y, Y[k]? = some y := ⟨Y[k], by simp [hk]⟩
    by_cases e : j = k
    · subst e
      rw [List.getElem?_set_self hk] at hj
      cases hj
      exact World.cell?_setCell_same _ _ _ (h.cells _ _ hy)
    · rw [List.getElem?_set_ne (fun h => e h.symm)] at hj
      refine (World.cell?_setCell_other _ _ _ _ (by simp only [ne_eq, Addr.mk.injEq, true_and, and_true]; exact fun h => e h.symm)).trans (h.cells j x hj)
  open' j hj := by
    rw [World.frozen?_setCell]
    refine ⟨?_, (h.open' j hj).2⟩
    by_cases e : j = k
    · subst e
      obtain ⟨y, hy⟩ : ∃ y, Y[j]? = some y := ⟨Y[j], by simp [hk]⟩
      rw [World.cell?_setCell_same _ _ _ (h.cells _ _ hy)]
      rfl
    · rw [World.cell?_setCell_other _ _ _ _ (by simp only [ne_eq, Addr.mk.injEq, true_and, and_true]; exact fun h => e h.symm)]
      exact (h.open' j hj).1

/-- A letter set again as it is. -/
theorem RowAt.same {B b cap : Nat} {w : World} {Y : List UInt8} (h : RowAt B b cap w Y) (k : Nat) (hk : k < Y.length) {v : UInt8} (hv : w.cell? ⟨b, k, none⟩ = some (.int .u8 v.toNat)) : RowAt B b cap w (Y.set k v) := by
  have h1 := h.cells k Y[k] (by simp [hk])
  rw [hv] at h1
  have h2 : v = Y[k] := by
    have : (v.toNat : Int) = (Y[k].toNat : Int) := by injection h1 with h1; injection h1
    exact UInt8.toNat_inj.1 (by omega)
  have h3 : Y.set k v = Y := by rw [h2]; exact List.set_getElem_self hk
  rw [h3]
  exact h

theorem RowAt.push {B b cap : Nat} {w : World} {Y : List UInt8} (h : RowAt B b cap w Y) (v : UInt8) (hr : Y.length + 1 ≤ cap) : RowAt B b cap (w.setCells b Y.length [.int .u8 v.toNat]) (Y ++ [v]) where
  low := h.low
  lt := by have := h.lt; simpa [World.setCells] using this
  fits := by rw [List.length_append]; exact hr
  cells j x hj := by
    obtain ⟨z, hz⟩ := Option.isSome_iff_exists.1 (h.open' Y.length (by omega)).1
    show (w.setCell ⟨b, Y.length, none⟩ _).cell? _ = _
    by_cases e : j = Y.length
    · subst e
      rw [List.getElem?_append_right (Nat.le_refl _)] at hj
      simp at hj
      subst hj
      exact World.cell?_setCell_same _ _ _ hz
    · have hl : j < Y.length := by
        have := (List.getElem?_eq_some_iff.1 hj).1
        simp at this
        omega
      rw [List.getElem?_append_left hl] at hj
      exact (World.cell?_setCell_other _ _ _ _ (by simp only [ne_eq, Addr.mk.injEq, true_and, and_true]; exact fun h => e h.symm)).trans (h.cells j x hj)
  open' j hj := by
    obtain ⟨z, hz⟩ := Option.isSome_iff_exists.1 (h.open' Y.length (by omega)).1
    show ((w.setCell ⟨b, Y.length, none⟩ _).cell? _).isSome = true ∧ (w.setCell ⟨b, Y.length, none⟩ _).frozen? _ = false
    rw [World.frozen?_setCell]
    refine ⟨?_, (h.open' j hj).2⟩
    by_cases e : j = Y.length
    · subst e
      rw [World.cell?_setCell_same _ _ _ hz]
      rfl
    · rw [World.cell?_setCell_other _ _ _ _ (by simp only [ne_eq, Addr.mk.injEq, true_and, and_true]; exact fun h => e h.symm)]
      exact (h.open' j hj).1

theorem RowAt.of_own {B : Nat} {w : World} {v : Value} {n : Nat} {Y : List UInt8} (hn : n = Y.length) (hY : Y ≠ []) (h : w.ownsRow B 5 1 v n (Lib.byteCells Y)) : ∃ b cap, v = .slice (some ⟨b, 0, none⟩) n cap ∧ RowAt B b cap w Y := by
  subst hn
  rcases h.2 with ⟨rfl, h0⟩ | ⟨g, cap, cur, rfl, hb, hg, hn, hm, hs, htake⟩
  · exact absurd (List.length_eq_zero_iff.1 h0) hY
  · refine ⟨g, cap, rfl, hb, (Array.getElem?_eq_some_iff.1 hg).1, hn, fun j x hj => ?_, fun j hj => ?_⟩
    · have := h.cells rfl j (.int .u8 x.toNat) (by simp [Lib.byteCells, hj])
      have hadd : (⟨g, 0, none⟩ : Addr).add j = ⟨g, j, none⟩ := by unfold Addr.add; split <;> simp_all
      rwa [hadd] at this
    · constructor
      · rw [cell_of_row w g j cur 5 (0, 0) hg, Array.getElem?_eq_getElem (by omega)]
        rfl
      · unfold World.frozen?
        rw [hg]
        simp

theorem RowAt.text {B b cap : Nat} {w : World} {Y : List UInt8} {n : Nat} (hn : n = Y.length) (h : RowAt B b cap w Y) : (convert 50 9 (.slice (some ⟨b, 0, none⟩) n cap)).run Tryz.prog w = .ok (.string ⟨Y.toArray⟩) w := by
  subst hn
  refine run_convert_bytes_back w 50 9 5 ⟨b, 0, none⟩ cap Y Tryz.underlying50 Tryz.underlying5 Tryz.underlying9 fun j hj => ?_
  have hadd : (⟨b, 0, none⟩ : Addr).add j = ⟨b, j, none⟩ := by unfold Addr.add; split <;> simp_all
  rw [hadd]
  exact h.cells j _ (by simp [hj])

theorem RowAt.byteCells {B b cap : Nat} {w : World} {Y : List UInt8} (h : RowAt B b cap w Y) : ∀ (j : Nat) u, (Lib.byteCells Y)[j]? = some u → w.cell? ⟨b, j, none⟩ = some u := by
  intro j u hj
  simp only [Lib.byteCells, List.getElem?_map, Option.map_eq_some_iff] at hj
  obtain ⟨x, hx, rfl⟩ := hj
  exact h.cells j x hx

theorem bc_61 : Lib.byteCells [61] = [.int .u8 61] := rfl

theorem below_bytes (w : World) (s : ByteArray) (C : Array Value) (fr : Nat × Nat) : Below w.heap.size w (w.drew.alloc (.cells C 5 fr)) :=
  (Below.refl _ w).drew.alloc (Nat.le_refl _) _

theorem below_set {B : Nat} {a w : World} {b n : Nat} (h : Below B a w) (hb : B ≤ b) (v : Value) : Below B a (w.setCells b n [v]) := h.setCell (p := ⟨b, n, none⟩) hb v
end Go.Proofs.YtdjaccnocaffjaaGreatDoor

/-
  The reference's Basic.
-/

set_option linter.unusedVariables false
set_option maxRecDepth 100000
set_option maxHeartbeats 1000000
namespace Go.Proofs.YtdjaccnocaffjaaGreatDoor
open Go Go.RowKit Go.Basic

def f45 (x : UInt8) : UInt8 := if x = 45 then 43 else x
def f95 (x : UInt8) : UInt8 := if x = 95 then 47 else x
def turn (l : List UInt8) (k : Nat) : List UInt8 := (l.take k).map (fun x => f95 (f45 x)) ++ l.drop k

theorem turn_len (l : List UInt8) (k : Nat) : (turn l k).length = l.length := by
  simp only [turn, List.length_append, List.length_map, List.length_take, List.length_drop]
  omega

theorem turn_get (l : List UInt8) (k : Nat) (h : k < l.length) : (turn l k)[k]? = some l[k] := by
  unfold turn
  rw [List.getElem?_append_right (by simp; omega)]
  simp only [List.length_map, List.length_take, List.getElem?_drop]
  rw [show k + (k - min k l.length) = k from by omega, List.getElem?_eq_getElem h]

theorem turn_succ (l : List UInt8) (k : Nat) (h : k < l.length) : (turn l k).set k (f95 (f45 l[k])) = turn l (k + 1) := by
  have h1 : l.drop k = l[k] :: l.drop (k + 1) := List.drop_eq_getElem_cons h
  have h2 : l.take (k + 1) = l.take k ++ [l[k]] := by rw [List.take_add_one, List.getElem?_eq_getElem h]; rfl
  unfold turn
  rw [h2, h1, List.map_append]
  have h3 : ((l.take k).map fun x => f95 (f45 x)).length = k := by simp; omega
  rw [List.set_append_right _ _ (by omega), h3, Nat.sub_self, List.append_assoc]
  rfl

theorem turn_all (l : List UInt8) : turn l l.length = l.map fun x => f95 (f45 x) := by
  unfold turn
  rw [List.take_length, List.drop_length, List.append_nil]

theorem turn_letters (l : List Nat) (h : ∀ x ∈ l, x < 64) : (l.map letU).map (fun x => f95 (f45 x)) = l.map let64 := by
  rw [List.map_map]
  exact List.map_congr_left fun x hx => let_turn x (h x hx)

theorem base64_calls' (n : Nat) (l : List UInt8) (hn : n = l.length) (b off cap : Nat) (hl : l.length ≤ 10000000) (w : World) (hb : b < w.heap.size) (hc : ∀ (j : Nat) x, l[j]? = some x → w.cell? ⟨b, off + j, none⟩ = some (.int .u8 x.toNat)) :
    Calls Tryz.prog 25 #[.slice (some ⟨b, off, none⟩) n cap] w fun e w' => e = .returned (.string ⟨((six l).map letU).toArray⟩) ∧ Below w.heap.size w w' := by
  subst hn
  exact base64_calls l b off cap hl w hb hc

theorem fill_eq (p : List UInt8) (m : Nat) (hm : m ≤ (4 - (six p).length % 4) % 4) (h : ((six p).length + m) % 4 = 0) : fill p = List.replicate m 61 := by
  have hs := six_length p
  unfold fill
  split
  · obtain rfl : m = 2 := by omega
    rfl
  · split
    · obtain rfl : m = 1 := by omega
      rfl
    · obtain rfl : m = 0 := by omega
      rfl

def slen : Value → Nat
  | .slice _ n _ => n
  | _ => 0

theorem refBasic_calls (a b : ByteArray) (ha : a.size ≤ 1100000) (hb : b.size ≤ 1100000) (w : World) :
    Calls Tryz.prog 6 #[.string a, .string b] w fun e w' => e = .returned (.string ⟨([66, 97, 115, 105, 99, 32] ++ b64 (esc a.data.toList ++ [58] ++ esc b.data.toList)).toArray⟩) ∧ Below w.heap.size w w' := by
  obtain ⟨i0, hi, hz0, hz1, hz2⟩ := info_parts inf5
  have hla := esc_len a.data.toList
  have hlb := esc_len b.data.toList
  have hsa : a.data.toList.length = a.size := by simp
  have hsb : b.data.toList.length = b.size := by simp
  rw [hsa] at hla
  rw [hsb] at hlb
  go_enter Tryz.func6, Tryz.ntmps6
  go_wp2_with (go_at_call 26; refine (refEscape_calls a (by omega) _).mono ?_)
  rintro e w1 ⟨rfl, hb1⟩
  go_wp2_with (go_at_call 26; refine (refEscape_calls b (by omega) _).mono ?_)
  rintro e w2 ⟨rfl, hb2⟩
  obtain ⟨P, hP⟩ : ∃ P : ByteArray, { data := (esc a.data.toList).toArray } ++ { data := #[58] } ++ { data := (esc b.data.toList).toArray } = P := ⟨_, rfl⟩
  have hPl : P.data.toList = esc a.data.toList ++ [58] ++ esc b.data.toList := by
    rw [← hP]
    simp
  have hPlen : P.data.toList.length = P.size := by simp
  have hPs : P.size ≤ 7000000 := by
    rw [← hPlen, hPl]
    simp only [List.length_append, List.length_cons, List.length_nil]
    omega
  have hconv := run_bytes_of_string (P := Tryz.prog) w2 9 50 5 P Tryz.underlying9 Tryz.underlying50 Tryz.underlying5
  have hrow := RowAt.of_bytes w2 P
  have hbA := below_bytes w2 P (bytesRow P (grownCap w2 P.size 0 5)) ((bytesRow P (grownCap w2 P.size 0 5)).size, (bytesRow P (grownCap w2 P.size 0 5)).size + 1)
  generalize (w2.drew.alloc (.cells (bytesRow P (grownCap w2 P.size 0 5)) 5 ((bytesRow P (grownCap w2 P.size 0 5)).size, (bytesRow P (grownCap w2 P.size 0 5)).size + 1))) = wA at hconv hrow hbA
  generalize grownCap w2 P.size 0 5 = cap at hconv hrow
  have hPh : Hid (P.data.toList = esc a.data.toList ++ [58] ++ esc b.data.toList) := hPl
  clear hPl
  go_wp2_with (go_at_call 25; refine (base64_calls' _ P.data.toList hPlen.symm w2.heap.size 0 cap (by omega) wA hrow.lt (fun j x hj => by rw [Nat.zero_add]; exact hrow.cells j x hj)).mono ?_)
  rintro e w3 ⟨rfl, hb3⟩
  clear hP hconv
  have hbb : Below w.heap.size w w3 := ((hb1.trans (hb2.mono hb1.size)).trans (hbA.mono (Nat.le_trans hb1.size hb2.size))).trans (hb3.mono (Nat.le_trans hb1.size (Nat.le_trans hb2.size hbA.size)))
  obtain ⟨S, hS⟩ : ∃ S : ByteArray, S = ⟨((six P.data.toList).map letU).toArray⟩ := ⟨_, rfl⟩
  rw [← hS]
  have hSl : S.data.toList = (six P.data.toList).map letU := by rw [hS]
  have hSlen : S.data.toList.length = S.size := by simp
  have hsix := six_length P.data.toList
  have hSs : S.size = (six P.data.toList).length := by rw [← hSlen, hSl, List.length_map]
  have hS3 : S.size ≤ 10000000 := by omega
  have hSp : Hid (S.size = (six P.data.toList).length ∧ 1 ≤ P.size) := by
    refine ⟨hSs, ?_⟩
    rw [← hPlen, show P.data.toList = _ from hPh]
    simp
    omega
  have hSh : Hid (S.data.toList = (six P.data.toList).map letU) := hSl
  clear hS hSl hsix hSs
  have hconv := run_bytes_of_string (P := Tryz.prog) w3 9 50 5 S Tryz.underlying9 Tryz.underlying50 Tryz.underlying5
  have hrow := RowAt.of_bytes w3 S
  have hbA := below_bytes w3 S (bytesRow S (grownCap w3 S.size 0 5)) ((bytesRow S (grownCap w3 S.size 0 5)).size, (bytesRow S (grownCap w3 S.size 0 5)).size + 1)
  generalize (w3.drew.alloc (.cells (bytesRow S (grownCap w3 S.size 0 5)) 5 ((bytesRow S (grownCap w3 S.size 0 5)).size, (bytesRow S (grownCap w3 S.size 0 5)).size + 1))) = wB at hconv hrow hbA
  generalize grownCap w3 S.size 0 5 = cap at hconv hrow
  have hbB := hbb.trans (hbA.mono hbb.size)
  obtain ⟨B, hB⟩ : ∃ B, B = w3.heap.size := ⟨_, rfl⟩
  have hwB : w.heap.size ≤ B := by rw [hB]; exact hbb.size
  rw [← hB] at hrow hconv
  clear hbA hb3 hB
  go_wp2
  go_loopw [7] (fun i wr => ∃ k : Nat, k ≤ S.size ∧ i = .int .i64 k ∧ RowAt B B cap wr (turn S.data.toList k) ∧ Below w.heap.size w wr) (fun i _ => S.size - (intOf i).toNat)
  case atStart => exact ⟨0, Nat.zero_le _, rfl, by simpa [turn] using hrow, hbB⟩
  case round =>
    obtain ⟨k, hk, rfl, hr, hbw⟩ := hrel
    have htl := turn_len S.data.toList k
    by_cases hlt : k < S.size
    · have hlt' : (k : Int) < (S.size : Int) := by omega
      have hkl : k < S.data.toList.length := by omega
      have hc := hr.cells k _ (turn_get S.data.toList k hkl)
      obtain ⟨c, hcd⟩ : ∃ c, c = S.data.toList[k] := ⟨_, rfl⟩
      rw [← hcd] at hc
      have hfr := (hr.open' k (by have := hr.fits; omega)).2
      have hts := turn_succ S.data.toList k hkl
      rw [← hcd] at hts
      have hkt : k < (turn S.data.toList k).length := by omega
      clear hcd
      by_cases h45 : c = 45
      · have e45 : ((c.toNat : Int) == 45) = true := by rw [show c.toNat = 45 from by rw [h45]; decide]; decide
        have hc2 : (wr.setCell ⟨B, k, none⟩ (.int .u8 43)).cell? ⟨B, k, none⟩ = some (.int .u8 43) := World.cell?_setCell_same _ _ _ hc
        have hR := hr.set k hkt 43
        rw [show f95 (f45 c) = 43 from by rw [h45]; decide] at hts
        rw [hts] at hR
        have hbS : Below w.heap.size w (wr.setCell ⟨B, k, none⟩ (.int .u8 43)) := hbw.setCell (p := ⟨B, k, none⟩) hwB _
        clear h45
        go_wp2
        go_roundw
        case rel => exact ⟨k + 1, by omega, by go_num, hR, hbS⟩
        case measure => simp only [intOf]; omega
      · have n45 : c.toNat ≠ 45 := fun e => h45 (UInt8.toNat_inj.1 e)
        have e45 : ((c.toNat : Int) == 45) = false := by rw [beq_eq_false_iff_ne]; omega
        by_cases h95 : c = 95
        · have e95 : ((c.toNat : Int) == 95) = true := by rw [show c.toNat = 95 from by rw [h95]; decide]; decide
          have hR := hr.set k hkt 47
          rw [show f95 (f45 c) = 47 from by rw [h95]; decide] at hts
          rw [hts] at hR
          have hbS : Below w.heap.size w (wr.setCell ⟨B, k, none⟩ (.int .u8 47)) := hbw.setCell (p := ⟨B, k, none⟩) hwB _
          clear h95 h45 n45
          go_wp2
          go_roundw
          case rel => exact ⟨k + 1, by omega, by go_num, hR, hbS⟩
          case measure => simp only [intOf]; omega
        · have n95 : c.toNat ≠ 95 := fun e => h95 (UInt8.toNat_inj.1 e)
          have e95 : ((c.toNat : Int) == 95) = false := by rw [beq_eq_false_iff_ne]; omega
          have hR : RowAt B B cap wr (turn S.data.toList (k + 1)) := by
            have e : f95 (f45 c) = c := by unfold f45 f95; rw [if_neg h45, if_neg h95]
            rw [e] at hts
            rw [← hts]
            exact hr.same k hkt hc
          clear h95 h45 n45 n95
          go_wp2
          go_roundw
          case rel => exact ⟨k + 1, by omega, by go_num, hR, hbw⟩
          case measure => simp only [intOf]; omega
    · have hge : ¬ (k : Int) < (S.size : Int) := by omega
      obtain rfl : k = S.size := by omega
      rw [← hSlen, turn_all, show S.data.toList = _ from hSh, turn_letters _ (six_lt _)] at hr
      have hn6 : (six P.data.toList).length = S.size := (show _ ∧ _ from hSp).1.symm
      have hp1 : 1 ≤ P.size := (show _ ∧ _ from hSp).2
      have hs6 := six_length P.data.toList
      obtain ⟨Y, hY⟩ : ∃ Y, Y = (six P.data.toList).map let64 := ⟨_, rfl⟩
      rw [← hY] at hr
      have hYl : Y.length = S.size := by rw [hY, List.length_map, hn6]
      have hn2 : 2 ≤ S.size := by omega
      clear hs6 hn6 hp1
      have hYh : Hid (Y = (six P.data.toList).map let64) := hY
      clear hY htl
      go_wp2
      go_loopw [6] (fun v wr => ∃ (N b cap : Nat), v = .slice (some ⟨b, 0, none⟩) N cap ∧ S.size ≤ N ∧ N ≤ S.size + (4 - S.size % 4) % 4 ∧ RowAt w.heap.size b cap wr (Y ++ List.replicate (N - S.size) 61) ∧ Below w.heap.size w wr) (fun v _ => S.size + 4 - slen v)
      case atStart => exact ⟨S.size, B, cap, rfl, by omega, by omega, { hr with low := hwB, fits := by simpa using hr.fits, cells := by simpa using hr.cells }, hbw⟩
      case round =>
        obtain ⟨N, b, cap, rfl, hN1, hN2, hr, hbw⟩ := hrel
        have hNl : (Y ++ List.replicate (N - S.size) 61).length = N := by rw [List.length_append, List.length_replicate, hYl]; omega
        by_cases hq : N % 4 = 0
        · have hq1 : (N : Int).tmod 4 = 0 := by rw [Int.tmod_eq_emod_of_nonneg (by omega)]; omega
          have hst := RowAt.text hNl.symm hr
          go_wp2
          go_ret
          have hf := fill_eq P.data.toList (N - S.size) (by have := (show _ ∧ _ from hSp).1; omega) (by have := (show _ ∧ _ from hSp).1; omega)
          have h2 : Y ++ List.replicate (N - S.size) 61 = b64 P.data.toList := by rw [b64_six, hf, show Y = _ from hYh]
          rw [h2, show P.data.toList = _ from hPh]
          refine ⟨congrArg (fun x => Ending.returned (Value.string x)) ?_, hbw⟩
          apply ByteArray.ext
          simp
        · have hq1 : (N : Int).tmod 4 ≠ 0 := by rw [Int.tmod_eq_emod_of_nonneg (by omega)]; omega
          have hra := hr.alloc (.cells #[.int .u8 61] 5)
          have hrr := fun h => hra.push 61 (by rw [hNl]; exact h)
          rw [hNl] at hrr
          have hrep : Y ++ List.replicate (N - S.size) 61 ++ [61] = Y ++ List.replicate (N + 1 - S.size) 61 := by
            rw [show N + 1 - S.size = (N - S.size) + 1 from by omega, List.replicate_succ', List.append_assoc]
          have hbA : Below w.heap.size w (wr.alloc (.cells #[.int .u8 61] 5)) := hbw.alloc hbw.size _
          have hNc : N ≤ cap := by rw [← hNl]; exact hr.fits
          go_wp2_with (at_builtin; refine wpList_append_arg _ rfl _ _ 50 rfl 5 i0 (.int .u8 0) 1 1 Tryz.underlying50 hi hz0 hz1 hz2 rfl (by decide) b 0 N cap (Lib.byteCells (Y ++ List.replicate (N - S.size) 61)) rfl (by rw [Lib.byteCells_length, hNl, Nat.mul_one]) (fun j u hj => by rw [Nat.zero_add]; exact hra.byteCells j u hj) ⟨_, 0, none⟩ 1 1 [.int .u8 61] rfl rfl ?c1 ?c2 ?c3 ?c4 ?c5 ?_ ?_)
          case c1 =>
            intro j u hj
            match j, hj with
            | 0, hj => simp at hj; subst hj; simp [Addr.add]
          case c2 => intro u hu; simp at hu; subst hu; rfl
          case c3 =>
            intro hfit j hj
            simp at hj
            subst hj
            simpa using hra.open' N (by omega)
          case c4 => unfold maxLen; omega
          case c5 => omega
          · intro hfit
            have hR := hrr hfit
            rw [hrep] at hR
            have hbS := below_set (n := N) hbA hr.low (.int .u8 61)
            go_wp2
            go_roundw
            case rel => exact ⟨N + 1, b, cap, rfl, by omega, by omega, by simpa using hR, by simpa using hbS⟩
            case measure => show S.size + 4 - (N + 1) < S.size + 4 - N; omega
          · intro hfull v' w' hown hgrow
            rw [← bc_61, ← bc_app, hrep] at hown
            obtain ⟨b', cap', rfl, hR⟩ := RowAt.of_own (by rw [List.length_append, List.length_replicate, hYl]; omega) (by intro h; have := congrArg List.length h; rw [List.length_append, hYl] at this; simp at this; omega) hown
            have hbS : Below w.heap.size w w' := hbA.grown hgrow (by simp; have := hbw.size; omega) (fun k hk => by cases hk)
            go_wp2
            go_roundw
            case rel => exact ⟨N + 1, b', cap', rfl, by omega, by omega, { hR with low := by have := hR.low; have := hbw.size; simp at *; omega }, hbS⟩
            case measure => show S.size + 4 - (N + 1) < S.size + 4 - N; omega
end Go.Proofs.YtdjaccnocaffjaaGreatDoor
