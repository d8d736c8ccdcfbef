/-
  The reference's decimals.
-/
import Derived.Test.YtbfoocginkdmcaaGreatDoorWC
import Derived.Test.YtbfoocginkdmcaaGreatDoorWA
import Derived.Handy
import Derived.Deep.RegionWith
import Derived.Deep.RegionHeld3

set_option linter.unusedVariables false
set_option maxRecDepth 100000
set_option maxHeartbeats 2000000
namespace Go.Proofs.YtbfoocginkdmcaaGreatDoor
open Go Go.RowKit Go.Lib

theorem one_byte (c : Nat) (hc : c < 256) (W : World) (b : Nat) (h : W.cell? ⟨b, 0, none⟩ = some (.int .u8 c)) : (convert 30 9 (.slice (some ⟨b, 0, none⟩) 1 1)).run Tryz.prog W = .ok (.string ⟨#[UInt8.ofNat c]⟩) W := by
  have h1 := run_convert_bytes_back (P := Tryz.prog) W 30 9 5 ⟨b, 0, none⟩ 1 [UInt8.ofNat c] Tryz.underlying30 Tryz.underlying5 Tryz.underlying9 (fun j hj => by
    have hj0 : j = 0 := by simpa using hj
    subst hj0
    have e : ((UInt8.ofNat c).toNat : Int) = c := by
      rw [UInt8.toNat_ofNat']
      omega
    show W.cell? ((⟨b, 0, none⟩ : Addr).add 0) = some (.int .u8 ((UInt8.ofNat c).toNat : Int))
    rw [e, show ((⟨b, 0, none⟩ : Addr).add 0) = ⟨b, 0, none⟩ from rfl]
    exact h)
  exact h1

theorem kept_new {w w1 : World} {C : Array Value} {t : TypeId} {v : Value} (hv : C[0]? = some v) (bel : Below (w.alloc (.cells C t)).drew.heap.size (w.alloc (.cells C t)).drew w1) : w1.cell? ⟨w.heap.size, 0, none⟩ = some v := by
  rw [bel.cell (p := ⟨w.heap.size, 0, none⟩) (by show w.heap.size < (w.alloc (.cells C t)).heap.size; simp)]
  show (w.alloc (.cells C t)).cell? ⟨w.heap.size, 0, none⟩ = _
  rw [World.cell?_alloc_new]
  exact hv

theorem below_drew0 {w w1 : World} (h : Below w.drew.heap.size w.drew w1) : Below w.heap.size w w1 := ⟨h.os, h.tape, h.output, h.size, h.block⟩

theorem below_alloc0 {w w1 : World} {o : Obj} (h : Below (w.alloc o).drew.heap.size (w.alloc o).drew w1) : Below w.heap.size w w1 :=
  ((Below.refl w.heap.size w).alloc (Nat.le_refl _) o).trans ((below_drew0 h).mono (by simp))

theorem nDigits_le (u : Nat) (hu : u < 18446744073709551616) : nDigits u ≤ 20 := by
  by_cases h : u = 0
  · subst h
    rw [nDigits, dif_pos (by omega)]
    omega
  · have := numDigits_eq u (by omega) hu
    split at this <;> omega

theorem size_of_list {S : ByteArray} {l : List UInt8} (h : S.data.toList = l) : S.size = l.length := by
  rw [← h]
  simp

theorem decimal_calls : ∀ (u : Nat), u < 18446744073709551616 → ∀ (x : Int), x = (u : Int) → ∀ (w : World), Calls Tryz.prog 78 #[.int .u64 x] w fun e w' => ∃ S : ByteArray, e = .returned (.string S) ∧ S.data.toList = decDigits u ∧ Below w.heap.size w w' := by
  intro u
  induction u using Nat.strongRecOn with
  | _ u ih =>
    intro hu x hx w
    subst hx
    by_cases h : u < 10
    · have h1 : (u : Int) < 10 := by omega
      have ho := fun W b => one_byte (48 + u) (by omega) W b
      have e1 : ((48 + u : Nat) : Int) = 48 + (u : Int) := by omega
      rw [e1] at ho
      go_enter Tryz.func78, Tryz.ntmps78
      go_wp2
      go_ret
      refine ⟨_, rfl, ?_, (Below.refl _ _).alloc (Nat.le_refl _) _⟩
      rw [decDigits_one h]
      simp
    · have h1 : ¬ (u : Int) < 10 := by omega
      have hr := ih (u / 10) (by omega) (by omega) (IntKind.u64.wrap ((u : Int) / 10)) (by rw [IntKind.wrap_u64]; omega)
      have ho := fun W b => one_byte (48 + u % 10) (by omega) W b
      have e1 : ((48 + u % 10 : Nat) : Int) = IntKind.u8.wrap (IntKind.u64.wrap (48 + (u : Int).tmod 10)) := by
        rw [Int.tmod_eq_emod_of_nonneg (by omega), IntKind.wrap_u64, IntKind.wrap_u8]
        omega
      rw [e1] at ho
      go_enter Tryz.func78, Tryz.ntmps78
      go_wp2_with fail
      go_region_with (go_at_call 78; refine (hr _).mono ?_; rintro e w1 ⟨S, rfl, hS, bel⟩; (have hz : S.size ≤ 20 := by (rw [size_of_list hS, decDigits_length]; exact nDigits_le _ (by omega))); first | (have hc0 := kept_new rfl bel) | skip)
      all_goals (go_wp2; go_ret; refine ⟨_, rfl, ?_, ?_⟩)
      all_goals first | (rw [decDigits, dif_neg h]; simp [hS]; done) | exact (below_drew0 bel).alloc (below_drew0 bel).size _ | exact below_alloc0 bel
end Go.Proofs.YtbfoocginkdmcaaGreatDoor

/-
  The reference's whole numbers; how long a text is.
-/

set_option linter.unusedVariables false
set_option maxRecDepth 100000
set_option maxHeartbeats 2000000
namespace Go.Proofs.YtbfoocginkdmcaaGreatDoor
open Go Go.RowKit Go.Lib

theorem refWhole_calls (n : Int) (h0 : -9223372036854775808 ≤ n) (h1 : n ≤ 9223372036854775807) (w : World) :
    Calls Tryz.prog 44 #[.int .i64 n] w fun e w' => ∃ S : ByteArray, e = .returned (.string S) ∧ S.data.toList = itoa n ∧ Below w.heap.size w w' := by
  by_cases hn : n < 0
  · have hu : n.natAbs < 18446744073709551616 := by omega
    go_enter Tryz.func44, Tryz.ntmps44
    go_wp2_with (go_at_call 78; refine (decimal_calls n.natAbs hu _ (by first | omega | (simp only [IntKind.wrap_u64, IntKind.wrap_i64]; omega)) _).mono ?_; rintro e w1 ⟨S, rfl, hS, bel⟩; (have hz : S.size ≤ 20 := by (rw [size_of_list hS, decDigits_length]; exact nDigits_le _ hu)))
    go_ret
    refine ⟨_, rfl, ?_, bel⟩
    rw [itoa, if_pos hn]
    simp [hS]
  · have hu : n.toNat < 18446744073709551616 := by omega
    have hn' : 0 ≤ n := by omega
    go_enter Tryz.func44, Tryz.ntmps44
    go_wp2_with (go_at_call 78; refine (decimal_calls n.toNat hu _ (by first | omega | (simp only [IntKind.wrap_u64, IntKind.wrap_i64]; omega)) _).mono ?_; rintro e w1 ⟨S, rfl, hS, bel⟩)
    go_ret
    refine ⟨_, rfl, ?_, bel⟩
    rw [itoa, if_neg (by omega)]
    exact hS

theorem refCoded_calls (n : Nat) (hn : n ≤ 100000000) (w : World) : Calls Tryz.prog 42 #[.int .i64 n] w fun e w' => e = .returned (.int .i64 (((8 * n + 5) / 6 : Nat) : Int)) ∧ w' = w := by
  have h1 : (n : Int) ≤ 100000000 := by omega
  go_enter Tryz.func42, Tryz.ntmps42
  go_wp2
  go_ret
  refine ⟨congrArg (fun z => Ending.returned (Value.int .i64 z)) ?_, rfl⟩
  first | omega | (rw [Int.tdiv_eq_ediv_of_nonneg (by omega)]; omega)
end Go.Proofs.YtbfoocginkdmcaaGreatDoor

/-
  whole: does a line tell all that an act says?
-/

set_option linter.unusedVariables false
set_option maxRecDepth 100000
set_option maxHeartbeats 4000000
namespace Go.Proofs.YtbfoocginkdmcaaGreatDoor
open Go Go.RowKit

theorem whole_calls (k k' t t' o o' n n' q q' : Int) (s s' : ByteArray) (a a' b b' : Option Addr) (d d' c1 c1' l l' c2 c2' : Nat) (w : World) :
    Calls Tryz.prog 36 #[.agg #[.int .i64 k, .string s, .slice a d c1, .int .u64 t, .int .i64 o, .int .i64 n, .int .i64 q, .slice b l c2], .agg #[.int .i64 k', .string s', .slice a' d' c1', .int .u64 t', .int .i64 o', .int .i64 n', .int .i64 q', .slice b' l' c2']] w fun e w' =>
      e = .returned (.bool (decide (k = k') && decide (s.toList = s'.toList) && decide (t = t') && decide (o = o') && decide (n = n') && decide (k ≠ 0) && decide ((d : Int) = d') && decide (q = q') && decide ((l : Int) = l'))) ∧ Below w.heap.size w w' := by
  go_enter Tryz.func36, Tryz.ntmps36
  go_wp2
  all_goals go_ret
  all_goals refine ⟨congrArg (fun z => Ending.returned (Value.bool z)) ?_, ((Below.refl _ _).alloc (Nat.le_refl _) _).alloc (by simp) _⟩
  all_goals simp_all [bne, Bool.beq_eq_decide_eq]
  all_goals trace_state
end Go.Proofs.YtbfoocginkdmcaaGreatDoor

/-
  Slices of bytes that came in, as texts: coded, word.
-/

set_option linter.unusedVariables false
set_option maxRecDepth 100000
set_option maxHeartbeats 2000000
namespace Go.Proofs.YtbfoocginkdmcaaGreatDoor
open Go Go.RowKit Go.Basic Go.ArgS Go.Scr

/-- A slice of bytes. -/
def IsB (w : World) (x : Value) (l : List UInt8) : Prop := IsSl w .u8 x (l.map fun b => (b.toNat : Int))

theorem add_none {a : Addr} (h : a.spot = none) (j : Nat) : a.add j = ⟨a.block, a.off + j, none⟩ := by
  obtain ⟨b, o, s⟩ := a
  simp only at h
  subst h
  exact Go.Lib.add_plain b o j

theorem IsB.opens {w : World} {x : Value} {l : List UInt8} (h : IsB w x l) (hl : l ≠ []) :
    ∃ b off cap, x = .slice (some ⟨b, off, none⟩) l.length cap ∧ b < w.heap.size ∧ ∀ (j : Nat) y, l[j]? = some y → w.cell? ⟨b, off + j, none⟩ = some (.int .u8 y.toNat) := by
  rcases h with ⟨_, h0⟩ | ⟨a, cap, rfl, hc⟩
  · exact absurd (List.map_eq_nil_iff.1 h0) hl
  · obtain ⟨y, t, rfl⟩ := List.exists_cons_of_ne_nil hl
    have h0 := hc 0 (y.toNat : Int) rfl
    have hs : a.spot = none := by
      have := World.cell?_spot h0
      simpa [Addr.add] using this
    refine ⟨a.block, a.off, cap, ?_, ?_, fun j z hj => ?_⟩
    · obtain ⟨b, o, s⟩ := a
      simp only at hs
      subst hs
      simp
    · have := World.block_lt_of_cell? w _ h0
      rwa [add_block] at this
    · have := hc j (z.toNat : Int) (by rw [List.getElem?_map, hj]; rfl)
      rwa [add_none hs] at this

theorem IsB.slice {w : World} {x : Value} {l : List UInt8} (h : IsB w x l) : ∃ a c, x = .slice a l.length c := by
  obtain ⟨a, c, e⟩ := IsSl.slice h
  rw [List.length_map] at e
  exact ⟨a, c, e⟩

theorem IsB.of_row {B b cap : Nat} {w : World} {Y : List UInt8} (h : RowAt B b cap w Y) (n : Nat) (hn : n = Y.length) : IsB w (.slice (some ⟨b, 0, none⟩) n cap) Y := by
  subst hn
  refine .inr ⟨⟨b, 0, none⟩, cap, by rw [List.length_map], fun j x hj => ?_⟩
  rw [List.getElem?_map, Option.map_eq_some_iff] at hj
  obtain ⟨y, hy, rfl⟩ := hj
  have e : (⟨b, 0, none⟩ : Addr).add j = ⟨b, j, none⟩ := by rw [Go.Lib.add_plain, Nat.zero_add]
  rw [e]
  exact h.cells j y hy

theorem coded_calls (x : Value) (l : List UInt8) (w : World) (h : IsB w x l) (hl : l.length ≤ 10000000) :
    Calls Tryz.prog 38 #[x] w fun e w' => ∃ S : ByteArray, e = .returned (.string S) ∧ S.data.toList = word l ∧ Below w.heap.size w w' := by
  obtain ⟨a, c, rfl⟩ := h.slice
  by_cases h0 : l = []
  · subst h0
    go_enter Tryz.func38, Tryz.ntmps38
    go_wp2
    go_ret
    exact ⟨_, rfl, rfl, Below.refl _ _⟩
  · obtain ⟨b, off, cap, ex, hb, hc⟩ := h.opens h0
    cases ex
    have hlen : l.length ≠ 0 := fun e => h0 (List.length_eq_zero_iff.1 e)
    have hlen' : ¬ (l.length : Int) = 0 := by omega
    have f := digest64_calls l b off c hl w hb hc
    clear h hc
    go_enter Tryz.func38, Tryz.ntmps38
    go_wp2_with (go_at_call 77; refine f.mono ?_; rintro e w1 ⟨rfl, bel⟩)
    go_ret
    exact ⟨_, rfl, by rw [word, if_neg h0], bel⟩

theorem word_calls (x : Value) (l : List UInt8) (w : World) (h : IsB w x l) (hl : l.length ≤ 10000000) :
    Calls Tryz.prog 45 #[x] w fun e w' => ∃ S : ByteArray, e = .returned (.string S) ∧ S.data.toList = word l ∧ Below w.heap.size w w' := by
  obtain ⟨a, c, rfl⟩ := h.slice
  by_cases h0 : l = []
  · subst h0
    go_enter Tryz.func45, Tryz.ntmps45
    go_wp2
    go_ret
    exact ⟨_, rfl, rfl, Below.refl _ _⟩
  · obtain ⟨b, off, cap, ex, hb, hc⟩ := h.opens h0
    cases ex
    have hlen : l.length ≠ 0 := fun e => h0 (List.length_eq_zero_iff.1 e)
    have hlen' : ¬ (l.length : Int) = 0 := by omega
    have f := base64_calls l b off c hl w hb hc
    clear h hc
    go_enter Tryz.func45, Tryz.ntmps45
    go_wp2_with (go_at_call 80; refine f.mono ?_; rintro e w1 ⟨rfl, bel⟩)
    go_ret
    exact ⟨_, rfl, by rw [word, if_neg h0], bel⟩
end Go.Proofs.YtbfoocginkdmcaaGreatDoor

/-
  The making of bytes from a text, under a name of its own: so that the walk of a drawn region does not try it ahead of its turn.
-/

namespace Go.Proofs.YtbfoocginkdmcaaGreatDoor
open Go
@[go_sem] def cvt (x : Operand) : Op := .convert 9 30 x
theorem cvt_eq (x : Operand) : Op.convert 9 30 x = cvt x := rfl
end Go.Proofs.YtbfoocginkdmcaaGreatDoor

/-
  line: an act's line, and what it tells.
-/

set_option linter.unusedVariables false
set_option maxRecDepth 100000
set_option maxHeartbeats 4000000
namespace Go.Proofs.YtbfoocginkdmcaaGreatDoor
open Go Go.RowKit Go.Basic Go.ArgS Go.Scr

theorem IsB.below {w w' : World} {x : Value} {l : List UInt8} (h : IsB w x l) (hb : Below w.heap.size w w') : IsB w' x l := IsSl.below h hb

theorem Box.lt {w : World} {b : Nat} {cs : List Value} (h : Box w b cs) : b < w.heap.size := h.1

/-- []byte(s): a new row that reads as the text. -/
theorem bytes_of (s : ByteArray) : ∃ (gc : World → Nat) (bw : World → World), ∀ w0 : World, (convert 9 30 (.string s)).run Tryz.prog w0 = .ok (.slice (some ⟨w0.heap.size, 0, none⟩) s.size (gc w0)) (bw w0) ∧
    IsB (bw w0) (.slice (some ⟨w0.heap.size, 0, none⟩) s.size (gc w0)) s.data.toList ∧ Below w0.heap.size w0 (bw w0) :=
  ⟨_, _, fun w0 => ⟨run_bytes_of_string (P := Tryz.prog) w0 9 30 5 s Tryz.underlying9 Tryz.underlying30 Tryz.underlying5, IsB.of_row (RowAt.of_bytes w0 s) s.size (by simp), below_bytes w0 s _ _⟩⟩

theorem word_le' (l : List UInt8) (h : l.length ≤ 1100000) : (word l).length ≤ 3000000 := Nat.le_trans (word_le l) (by omega)

theorem line1_calls (t o n q : Int) (s : ByteArray) (ax ay : Option Addr) (lx cx ly cy : Nat) (ds : List UInt8) (w : World) (hx : IsB w (.slice ax lx cx) ds) (hd : ds.length ≤ 1100000) (hs : s.size ≤ 1100000) :
    Calls Tryz.prog 35 #[.agg #[.int .i64 1, .string s, .slice ax lx cx, .int .u64 t, .int .i64 o, .int .i64 n, .int .i64 q, .slice ay ly cy]] w fun e w' =>
      ∃ S : ByteArray, e = .returned (.tuple #[.string S, .agg #[.int .i64 1, .string s, .slice ax lx cx, .int .u64 0, .int .i64 0, .int .i64 0, .int .i64 0, .slice none 0 0]]) ∧
        S.data.toList = [114, 101, 113, 117, 101, 115, 116, 32] ++ word ds ++ [32] ++ word s.data.toList ∧ Below w.heap.size w w' := by
  have hsl : s.data.toList.length = s.size := by simp
  obtain ⟨gc, bw, hbw⟩ := bytes_of s
  have hconv := fun w0 => (hbw w0).1
  have hB := fun w0 => (hbw w0).2.1
  have hBel := fun w0 => (hbw w0).2.2
  clear hbw
  go_enter Tryz.func35, Tryz.ntmps35
  go_wp2_with fail
  go_region
  go_wp2_with fail
  have BA : Box ((((w.alloc (.cells #[.int .i64 1, .string s, .slice ax lx cx, .int .u64 t, .int .i64 o, .int .i64 n, .int .i64 q, .slice ay ly cy] 36)).alloc (.cells #[.int .i64 0, .string ⟨#[]⟩, .slice none 0 0, .int .u64 0, .int .i64 0, .int .i64 0, .int .i64 0, .slice none 0 0] 36)).alloc (.cells #[.int .i64 1, .string s, .slice ax lx cx, .int .u64 0, .int .i64 0, .int .i64 0, .int .i64 0, .slice none 0 0] 36)).drew) w.heap.size [.int .i64 1, .string s, .slice ax lx cx, .int .u64 t, .int .i64 o, .int .i64 n, .int .i64 q, .slice ay ly cy] := ((Box.new w #[.int .i64 1, .string s, .slice ax lx cx, .int .u64 t, .int .i64 o, .int .i64 n, .int .i64 q, .slice ay ly cy] 36).alloc _).alloc _
  have BR : Box ((((w.alloc (.cells #[.int .i64 1, .string s, .slice ax lx cx, .int .u64 t, .int .i64 o, .int .i64 n, .int .i64 q, .slice ay ly cy] 36)).alloc (.cells #[.int .i64 0, .string ⟨#[]⟩, .slice none 0 0, .int .u64 0, .int .i64 0, .int .i64 0, .int .i64 0, .slice none 0 0] 36)).alloc (.cells #[.int .i64 1, .string s, .slice ax lx cx, .int .u64 0, .int .i64 0, .int .i64 0, .int .i64 0, .slice none 0 0] 36)).drew) (w.heap.size + 1) [.int .i64 0, .string ⟨#[]⟩, .slice none 0 0, .int .u64 0, .int .i64 0, .int .i64 0, .int .i64 0, .slice none 0 0] := by
    have h := (Box.new (w.alloc (.cells #[.int .i64 1, .string s, .slice ax lx cx, .int .u64 t, .int .i64 o, .int .i64 n, .int .i64 q, .slice ay ly cy] 36)) #[.int .i64 0, .string ⟨#[]⟩, .slice none 0 0, .int .u64 0, .int .i64 0, .int .i64 0, .int .i64 0, .slice none 0 0] 36).alloc (.cells #[.int .i64 1, .string s, .slice ax lx cx, .int .u64 0, .int .i64 0, .int .i64 0, .int .i64 0, .slice none 0 0] 36)
    simp only [World.size_alloc] at h
    exact h
  have BT : Box ((((w.alloc (.cells #[.int .i64 1, .string s, .slice ax lx cx, .int .u64 t, .int .i64 o, .int .i64 n, .int .i64 q, .slice ay ly cy] 36)).alloc (.cells #[.int .i64 0, .string ⟨#[]⟩, .slice none 0 0, .int .u64 0, .int .i64 0, .int .i64 0, .int .i64 0, .slice none 0 0] 36)).alloc (.cells #[.int .i64 1, .string s, .slice ax lx cx, .int .u64 0, .int .i64 0, .int .i64 0, .int .i64 0, .slice none 0 0] 36)).drew) (w.heap.size + 1 + 1) [.int .i64 1, .string s, .slice ax lx cx, .int .u64 0, .int .i64 0, .int .i64 0, .int .i64 0, .slice none 0 0] := by
    have h := Box.new ((w.alloc (.cells #[.int .i64 1, .string s, .slice ax lx cx, .int .u64 t, .int .i64 o, .int .i64 n, .int .i64 q, .slice ay ly cy] 36)).alloc (.cells #[.int .i64 0, .string ⟨#[]⟩, .slice none 0 0, .int .u64 0, .int .i64 0, .int .i64 0, .int .i64 0, .slice none 0 0] 36)) #[.int .i64 1, .string s, .slice ax lx cx, .int .u64 0, .int .i64 0, .int .i64 0, .int .i64 0, .slice none 0 0] 36
    simp only [World.size_alloc] at h
    exact h
  have b0 : Below w.heap.size w ((((w.alloc (.cells #[.int .i64 1, .string s, .slice ax lx cx, .int .u64 t, .int .i64 o, .int .i64 n, .int .i64 q, .slice ay ly cy] 36)).alloc (.cells #[.int .i64 0, .string ⟨#[]⟩, .slice none 0 0, .int .u64 0, .int .i64 0, .int .i64 0, .int .i64 0, .slice none 0 0] 36)).alloc (.cells #[.int .i64 1, .string s, .slice ax lx cx, .int .u64 0, .int .i64 0, .int .i64 0, .int .i64 0, .slice none 0 0] 36)).drew) := ((((Below.refl _ _).alloc (Nat.le_refl _) _).alloc (by simp) _).alloc (by simp; omega) _).drew
  have hxW := hx.below b0
  clear hx
  generalize (((w.alloc (.cells #[.int .i64 1, .string s, .slice ax lx cx, .int .u64 t, .int .i64 o, .int .i64 n, .int .i64 q, .slice ay ly cy] 36)).alloc (.cells #[.int .i64 0, .string ⟨#[]⟩, .slice none 0 0, .int .u64 0, .int .i64 0, .int .i64 0, .int .i64 0, .slice none 0 0] 36)).alloc (.cells #[.int .i64 1, .string s, .slice ax lx cx, .int .u64 0, .int .i64 0, .int .i64 0, .int .i64 0, .slice none 0 0] 36)).drew = W at *
  have hS : ∀ w' : World, Below W.heap.size W w' → w'.cell? ⟨w.heap.size, 1, none⟩ = some (.string s) ∧ w'.cell? ⟨w.heap.size, 2, none⟩ = some (.slice ax lx cx) ∧ w'.cell? ⟨w.heap.size + 1 + 1, 0, none⟩ = some (.int .i64 1) ∧ w'.cell? ⟨w.heap.size + 1 + 1, 1, none⟩ = some (.string s) ∧ w'.cell? ⟨w.heap.size + 1 + 1, 2, none⟩ = some (.slice ax lx cx) ∧ w'.cell? ⟨w.heap.size + 1 + 1, 3, none⟩ = some (.int .u64 0) ∧ w'.cell? ⟨w.heap.size + 1 + 1, 4, none⟩ = some (.int .i64 0) ∧ w'.cell? ⟨w.heap.size + 1 + 1, 5, none⟩ = some (.int .i64 0) ∧ w'.cell? ⟨w.heap.size + 1 + 1, 6, none⟩ = some (.int .i64 0) ∧ w'.cell? ⟨w.heap.size + 1 + 1, 7, none⟩ = some (.slice none 0 0) := fun w' h => ⟨(BA.below h (Box.lt BA)).at 1 rfl, (BA.below h (Box.lt BA)).at 2 rfl, (BT.below h (Box.lt BT)).at 0 rfl, (BT.below h (Box.lt BT)).at 1 rfl, (BT.below h (Box.lt BT)).at 2 rfl, (BT.below h (Box.lt BT)).at 3 rfl, (BT.below h (Box.lt BT)).at 4 rfl, (BT.below h (Box.lt BT)).at 5 rfl, (BT.below h (Box.lt BT)).at 6 rfl, (BT.below h (Box.lt BT)).at 7 rfl⟩
  have hset : ∀ (w' : World) (j : Nat) (v : Value), (w'.cell? ⟨w.heap.size, 1, none⟩ = some (.string s) ∧ w'.cell? ⟨w.heap.size, 2, none⟩ = some (.slice ax lx cx) ∧ w'.cell? ⟨w.heap.size + 1 + 1, 0, none⟩ = some (.int .i64 1) ∧ w'.cell? ⟨w.heap.size + 1 + 1, 1, none⟩ = some (.string s) ∧ w'.cell? ⟨w.heap.size + 1 + 1, 2, none⟩ = some (.slice ax lx cx) ∧ w'.cell? ⟨w.heap.size + 1 + 1, 3, none⟩ = some (.int .u64 0) ∧ w'.cell? ⟨w.heap.size + 1 + 1, 4, none⟩ = some (.int .i64 0) ∧ w'.cell? ⟨w.heap.size + 1 + 1, 5, none⟩ = some (.int .i64 0) ∧ w'.cell? ⟨w.heap.size + 1 + 1, 6, none⟩ = some (.int .i64 0) ∧ w'.cell? ⟨w.heap.size + 1 + 1, 7, none⟩ = some (.slice none 0 0)) → ((w'.setCell ⟨w.heap.size + 1, j, none⟩ v).cell? ⟨w.heap.size, 1, none⟩ = some (.string s) ∧ (w'.setCell ⟨w.heap.size + 1, j, none⟩ v).cell? ⟨w.heap.size, 2, none⟩ = some (.slice ax lx cx) ∧ (w'.setCell ⟨w.heap.size + 1, j, none⟩ v).cell? ⟨w.heap.size + 1 + 1, 0, none⟩ = some (.int .i64 1) ∧ (w'.setCell ⟨w.heap.size + 1, j, none⟩ v).cell? ⟨w.heap.size + 1 + 1, 1, none⟩ = some (.string s) ∧ (w'.setCell ⟨w.heap.size + 1, j, none⟩ v).cell? ⟨w.heap.size + 1 + 1, 2, none⟩ = some (.slice ax lx cx) ∧ (w'.setCell ⟨w.heap.size + 1, j, none⟩ v).cell? ⟨w.heap.size + 1 + 1, 3, none⟩ = some (.int .u64 0) ∧ (w'.setCell ⟨w.heap.size + 1, j, none⟩ v).cell? ⟨w.heap.size + 1 + 1, 4, none⟩ = some (.int .i64 0) ∧ (w'.setCell ⟨w.heap.size + 1, j, none⟩ v).cell? ⟨w.heap.size + 1 + 1, 5, none⟩ = some (.int .i64 0) ∧ (w'.setCell ⟨w.heap.size + 1, j, none⟩ v).cell? ⟨w.heap.size + 1 + 1, 6, none⟩ = some (.int .i64 0) ∧ (w'.setCell ⟨w.heap.size + 1, j, none⟩ v).cell? ⟨w.heap.size + 1 + 1, 7, none⟩ = some (.slice none 0 0)) := fun w' j v h => by
    obtain ⟨h0, h1, h2, h3, h4, h5, h6, h7, h8, h9⟩ := h
    exact ⟨(World.cell?_setCell_other _ _ _ _ (by simp)).trans h0, (World.cell?_setCell_other _ _ _ _ (by simp)).trans h1, (World.cell?_setCell_other _ _ _ _ (by simp)).trans h2, (World.cell?_setCell_other _ _ _ _ (by simp)).trans h3, (World.cell?_setCell_other _ _ _ _ (by simp)).trans h4, (World.cell?_setCell_other _ _ _ _ (by simp)).trans h5, (World.cell?_setCell_other _ _ _ _ (by simp)).trans h6, (World.cell?_setCell_other _ _ _ _ (by simp)).trans h7, (World.cell?_setCell_other _ _ _ _ (by simp)).trans h8, (World.cell?_setCell_other _ _ _ _ (by simp)).trans h9⟩
  have hxD : IsB W.drew (.slice ax lx cx) ds := hxW
  have bD : Below W.heap.size W W.drew := (Below.refl _ _).drew
  have hBD : IsB (bw W.drew) (.slice (some ⟨W.heap.size, 0, none⟩) s.size (gc W.drew)) s.data.toList := hB W.drew
  have hxE : IsB (bw W.drew) (.slice ax lx cx) ds := hxD.below (hBel _)
  have bE : Below W.heap.size W (bw W.drew) := bD.trans (hBel W.drew)
  rw [cvt_eq]
  go_region_held3 (fun w' => w'.cell? ⟨w.heap.size, 1, none⟩ = some (.string s) ∧ w'.cell? ⟨w.heap.size, 2, none⟩ = some (.slice ax lx cx) ∧ w'.cell? ⟨w.heap.size + 1 + 1, 0, none⟩ = some (.int .i64 1) ∧ w'.cell? ⟨w.heap.size + 1 + 1, 1, none⟩ = some (.string s) ∧ w'.cell? ⟨w.heap.size + 1 + 1, 2, none⟩ = some (.slice ax lx cx) ∧ w'.cell? ⟨w.heap.size + 1 + 1, 3, none⟩ = some (.int .u64 0) ∧ w'.cell? ⟨w.heap.size + 1 + 1, 4, none⟩ = some (.int .i64 0) ∧ w'.cell? ⟨w.heap.size + 1 + 1, 5, none⟩ = some (.int .i64 0) ∧ w'.cell? ⟨w.heap.size + 1 + 1, 6, none⟩ = some (.int .i64 0) ∧ w'.cell? ⟨w.heap.size + 1 + 1, 7, none⟩ = some (.slice none 0 0)) (first | (with_reducible exact hS _ bD) | (with_reducible exact hS _ b1) | (with_reducible exact hS _ b1w) | (with_reducible exact hS _ bE) | (with_reducible exact hS _ b2) | (with_reducible exact hset _ _ _ (hset _ _ _ (hset _ _ _ (hset _ _ _ (hset _ _ _ (hset _ _ _ (hset _ _ _ (hset _ _ _ (hS _ b2)))))))))) (first
    | (go_at_call 38; (with_reducible refine (coded_calls _ ds W.drew hxD (by omega)).mono ?_); rintro e w1 ⟨S1, rfl, hS1, bel1⟩; (have hz1 : S1.size ≤ 3000000 := by (rw [size_of_list hS1]; exact word_le' ds hd)); (have y1 : ¬ 9223372036854775807 < 8 + S1.size := by omega); (have y2 : ¬ 9223372036854775807 < 8 + S1.size + 1 := by omega); (have b1 : Below W.heap.size W w1 := bD.trans bel1); (have b1w : Below W.heap.size W (bw w1) := b1.trans ((hBel w1).mono b1.size)))
    | (go_at_call 38; (with_reducible refine (coded_calls _ s.data.toList (bw w1) (hB w1) (by omega)).mono ?_); rintro e w2 ⟨S2, rfl, hS2, bel2⟩; (have hz2 : S2.size ≤ 3000000 := by (rw [size_of_list hS2]; exact word_le' _ (by omega))); (have y3 : ¬ 9223372036854775807 < 8 + S1.size + 1 + S2.size := by omega); (have b2 : Below W.heap.size W w2 := b1w.trans (bel2.mono b1w.size)); (have R2 := BR.below b2 (Box.lt BR)); (have fr := R2.2.2); (have e0 := Box.at R2 0 rfl); (have e1 := Box.at R2 1 rfl); (have e2 := Box.at R2 2 rfl); (have e3 := Box.at R2 3 rfl); (have e4 := Box.at R2 4 rfl); (have e5 := Box.at R2 5 rfl); (have e6 := Box.at R2 6 rfl); (have e7 := Box.at R2 7 rfl))
    | (go_at_call 38; (with_reducible refine (coded_calls _ ds (bw W.drew) hxE (by omega)).mono ?_); rintro e w1 ⟨S1, rfl, hS1, bel1⟩; (have hz1 : S1.size ≤ 3000000 := by (rw [size_of_list hS1]; exact word_le' ds hd)); (have y1 : ¬ 9223372036854775807 < 8 + S1.size := by omega); (have y2 : ¬ 9223372036854775807 < 8 + S1.size + 1 := by omega); (have b1 : Below W.heap.size W w1 := bE.trans (bel1.mono bE.size)))
    | (go_at_call 38; (with_reducible refine (coded_calls _ s.data.toList w1 (IsB.below hBD bel1) (by omega)).mono ?_); rintro e w2 ⟨S2, rfl, hS2, bel2⟩; (have hz2 : S2.size ≤ 3000000 := by (rw [size_of_list hS2]; exact word_le' _ (by omega))); (have y3 : ¬ 9223372036854775807 < 8 + S1.size + 1 + S2.size := by omega); (have b2 : Below W.heap.size W w2 := b1.trans (bel2.mono b1.size)); (have R2 := BR.below b2 (Box.lt BR)); (have fr := R2.2.2); (have e0 := Box.at R2 0 rfl); (have e1 := Box.at R2 1 rfl); (have e2 := Box.at R2 2 rfl); (have e3 := Box.at R2 3 rfl); (have e4 := Box.at R2 4 rfl); (have e5 := Box.at R2 5 rfl); (have e6 := Box.at R2 6 rfl); (have e7 := Box.at R2 7 rfl)))
  all_goals go_wp2
  all_goals
    have bw2 : Below w.heap.size w w2 := b0.trans (b2.mono b0.size)
    have R16 := ((((((((R2).set 0 (.int .i64 1) (by simp)).set 1 (.string s) (by simp)).set 2 (.slice ax lx cx) (by simp)).set 3 (.int .u64 0) (by simp)).set 4 (.int .i64 0) (by simp)).set 5 (.int .i64 0) (by simp)).set 6 (.int .i64 0) (by simp)).set 7 (.slice none 0 0) (by simp)
    simp only [List.set] at R16
    have b16 := ((((((((bw2).setCell (p := ⟨w.heap.size + 1, 0, none⟩) (Nat.le_succ _) (.int .i64 1)).setCell (p := ⟨w.heap.size + 1, 1, none⟩) (Nat.le_succ _) (.string s)).setCell (p := ⟨w.heap.size + 1, 2, none⟩) (Nat.le_succ _) (.slice ax lx cx)).setCell (p := ⟨w.heap.size + 1, 3, none⟩) (Nat.le_succ _) (.int .u64 0)).setCell (p := ⟨w.heap.size + 1, 4, none⟩) (Nat.le_succ _) (.int .i64 0)).setCell (p := ⟨w.heap.size + 1, 5, none⟩) (Nat.le_succ _) (.int .i64 0)).setCell (p := ⟨w.heap.size + 1, 6, none⟩) (Nat.le_succ _) (.int .i64 0)).setCell (p := ⟨w.heap.size + 1, 7, none⟩) (Nat.le_succ _) (.slice none 0 0)
    clear e0 e1 e2 e3 e4 e5 e6 e7 fr R2
    generalize (((((((((w2).setCell ⟨w.heap.size + 1, 0, none⟩ (.int .i64 1)).setCell ⟨w.heap.size + 1, 1, none⟩ (.string s)).setCell ⟨w.heap.size + 1, 2, none⟩ (.slice ax lx cx)).setCell ⟨w.heap.size + 1, 3, none⟩ (.int .u64 0)).setCell ⟨w.heap.size + 1, 4, none⟩ (.int .i64 0)).setCell ⟨w.heap.size + 1, 5, none⟩ (.int .i64 0)).setCell ⟨w.heap.size + 1, 6, none⟩ (.int .i64 0)).setCell ⟨w.heap.size + 1, 7, none⟩ (.slice none 0 0)) = Wf at *
    have e0 := Box.at R16 0 rfl
    have e1 := Box.at R16 1 rfl
    have e2 := Box.at R16 2 rfl
    have e3 := Box.at R16 3 rfl
    have e4 := Box.at R16 4 rfl
    have e5 := Box.at R16 5 rfl
    have e6 := Box.at R16 6 rfl
    have e7 := Box.at R16 7 rfl
    try simp only [Exit.inBlock, Exit.then]
    refine bodyPost_ret (by simp [results, Tryz.results35, go_sem, e0, e1, e2, e3, e4, e5, e6, e7]; try rfl) rfl ?_
    exact ⟨_, rfl, by simp [hS1, hS2], b16⟩
end Go.Proofs.YtbfoocginkdmcaaGreatDoor

/-
  Numbers' texts, with what they leave of the world.
-/

set_option linter.unusedVariables false
set_option maxRecDepth 100000
namespace Go.Proofs.YtbfoocginkdmcaaGreatDoor
open Go Go.RowKit Go.Basic Go.ArgS Go.Scr Go.Lib Go.Sort

abbrev Tab (w : World) : Prop := TabIs Tryz.prog w "internal/strconv.uint64pow10" .u64 pow10Tab

theorem tab_below {w w' : World} (h : Tab w) (hb : Below w.heap.size w w') : Tab w' := by
  unfold Tab TabIs World.var? at *
  cases hg : Tryz.prog.globalNamed "internal/strconv.uint64pow10" with
  | none => simp [hg] at h
  | some g =>
    simp only [hg, Option.bind_some] at h ⊢
    have hlt : g < w.heap.size := by
      rcases Nat.lt_or_ge g w.heap.size with h' | h'
      · exact h'
      · rw [Array.getElem?_eq_none h'] at h; simp at h
    rw [hb.block g hlt]
    exact h

theorem below_grow (w : World) (k : Nat) (os : Array Obj) : Below w.heap.size w (grow (w.drewN k) os) := by
  have h : ∀ k, (w.drewN k).heap = w.heap ∧ (w.drewN k).os = w.os ∧ (w.drewN k).tape = w.tape ∧ (w.drewN k).output = w.output := by
    intro k
    induction k with
    | zero => rw [World.drewN_zero]; exact ⟨rfl, rfl, rfl, rfl⟩
    | succ k ih => exact ih
  obtain ⟨h1, h2, h3, h4⟩ := h k
  exact ⟨h2, h3, h4, by simp [grow], fun j hj => by simp [grow, Array.getElem?_append, hj]⟩

theorem itoa_len (n : Int) (h0 : -9223372036854775808 ≤ n) (h1 : n ≤ 9223372036854775807) : (itoa n).length ≤ 21 := by
  unfold itoa
  split
  · have := nDigits_le n.natAbs (by omega)
    rw [List.length_cons, decDigits_length]
    omega
  · have := nDigits_le n.toNat (by omega)
    rw [decDigits_length]
    omega

theorem itoaB_calls (n : Int) (h0 : -9223372036854775808 ≤ n) (h1 : n ≤ 9223372036854775807) (w : World) (htab : Tab w) :
    Calls Tryz.prog 43 #[.int .i64 n] w fun e w' => ∃ S : ByteArray, e = .returned (.string S) ∧ S.data.toList = itoa n ∧ Below w.heap.size w w' := by
  refine (itoa_calls n h0 h1 w htab).mono ?_
  rintro e w' ⟨rfl, k, os, rfl⟩
  exact ⟨_, rfl, rfl, below_grow w k os⟩

theorem formatB_calls (u : Nat) (hu : u < 18446744073709551616) (w : World) (htab : Tab w) :
    Calls Tryz.prog 74 #[.int .u64 u, .int .i64 10] w fun e w' => ∃ S : ByteArray, e = .returned (.string S) ∧ S.data.toList = decDigits u ∧ Below w.heap.size w w' := by
  refine (format_calls u hu w htab).mono ?_
  rintro e w' ⟨rfl, k, os, rfl⟩
  exact ⟨_, rfl, rfl, below_grow w k os⟩
end Go.Proofs.YtbfoocginkdmcaaGreatDoor
