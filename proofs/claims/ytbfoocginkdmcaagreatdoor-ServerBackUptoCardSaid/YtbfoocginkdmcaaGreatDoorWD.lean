/-
  line: an act's line, and what it tells.
-/
import Derived.Test.YtbfoocginkdmcaaGreatDoorWC
import Derived.Deep.RegionHeld3
import Derived.Test.YtbfoocginkdmcaaGreatDoorKJ
import Derived.Lib.Join
import Derived.Shelf.Strings.BuilderK
import Derived.Lib.AppendStr

set_option linter.unusedVariables false
set_option maxRecDepth 100000
set_option maxHeartbeats 4000000
namespace Go.Proofs.YtbfoocginkdmcaaGreatDoor
open Go Go.RowKit Go.Basic Go.ArgS Go.Scr
theorem IsB.below {w w' : World} {x : Value} {l : List UInt8} (h : IsB w x l) (hb : Below w.heap.size w w') : IsB w' x l := IsSl.below h hb
theorem Box.lt {w : World} {b : Nat} {cs : List Value} (h : Box w b cs) : b < w.heap.size := h.1
theorem bytes_of (s : ByteArray) : ∃ (gc : World → Nat) (bw : World → World), ∀ w0 : World, (convert 9 30 (.string s)).run Tryz.prog w0 = .ok (.slice (some ⟨w0.heap.size, 0, none⟩) s.size (gc w0)) (bw w0) ∧
    IsB (bw w0) (.slice (some ⟨w0.heap.size, 0, none⟩) s.size (gc w0)) s.data.toList ∧ Below w0.heap.size w0 (bw w0) :=
  ⟨_, _, fun w0 => ⟨run_bytes_of_string (P := Tryz.prog) w0 9 30 5 s Tryz.underlying9 Tryz.underlying30 Tryz.underlying5, IsB.of_row (RowAt.of_bytes w0 s) s.size (by simp), below_bytes w0 s _ _⟩⟩
theorem word_le' (l : List UInt8) (h : l.length ≤ 1100000) : (word l).length ≤ 3000000 := Nat.le_trans (word_le l) (by omega)
theorem line1_calls (t o n q : Int) (s : ByteArray) (ax ay : Option Addr) (lx cx ly cy : Nat) (ds : List UInt8) (w : World) (hx : IsB w (.slice ax lx cx) ds) (hd : ds.length ≤ 1100000) (hs : s.size ≤ 1100000) :
    Calls Tryz.prog 35 #[.agg #[.int .i64 1, .string s, .slice ax lx cx, .int .u64 t, .int .i64 o, .int .i64 n, .int .i64 q, .slice ay ly cy]] w fun e w' =>
      ∃ S : ByteArray, e = .returned (.tuple #[.string S, .agg #[.int .i64 1, .string s, .slice ax lx cx, .int .u64 0, .int .i64 0, .int .i64 0, .int .i64 0, .slice none 0 0]]) ∧
        S.data.toList = [114, 101, 113, 117, 101, 115, 116, 32] ++ word ds ++ [32] ++ word s.data.toList ∧ Below w.heap.size w w' := by
  have hsl : s.data.toList.length = s.size := by simp
  obtain ⟨gc, bw, hbw⟩ := bytes_of s
  have hconv := fun w0 => (hbw w0).1
  have hB := fun w0 => (hbw w0).2.1
  have hBel := fun w0 => (hbw w0).2.2
  clear hbw
  go_enter Tryz.func35, Tryz.ntmps35
  go_wp2_with fail
  go_region
  go_wp2_with fail
  obtain ⟨W, hW0, BA, BR, BT, b0⟩ := three_newD w #[.int .i64 1, .string s, .slice ax lx cx, .int .u64 t, .int .i64 o, .int .i64 n, .int .i64 q, .slice ay ly cy] #[.int .i64 0, .string ⟨#[]⟩, .slice none 0 0, .int .u64 0, .int .i64 0, .int .i64 0, .int .i64 0, .slice none 0 0] #[.int .i64 1, .string s, .slice ax lx cx, .int .u64 0, .int .i64 0, .int .i64 0, .int .i64 0, .slice none 0 0]
  rw [hW0]
  clear hW0
  have hxW := hx.below b0
  clear hx
  have hS : ∀ w' : World, Below W.heap.size W w' → w'.cell? ⟨w.heap.size, 1, none⟩ = some (.string s) ∧ w'.cell? ⟨w.heap.size, 2, none⟩ = some (.slice ax lx cx) ∧ w'.cell? ⟨w.heap.size + 1 + 1, 0, none⟩ = some (.int .i64 1) ∧ w'.cell? ⟨w.heap.size + 1 + 1, 1, none⟩ = some (.string s) ∧ w'.cell? ⟨w.heap.size + 1 + 1, 2, none⟩ = some (.slice ax lx cx) ∧ w'.cell? ⟨w.heap.size + 1 + 1, 3, none⟩ = some (.int .u64 0) ∧ w'.cell? ⟨w.heap.size + 1 + 1, 4, none⟩ = some (.int .i64 0) ∧ w'.cell? ⟨w.heap.size + 1 + 1, 5, none⟩ = some (.int .i64 0) ∧ w'.cell? ⟨w.heap.size + 1 + 1, 6, none⟩ = some (.int .i64 0) ∧ w'.cell? ⟨w.heap.size + 1 + 1, 7, none⟩ = some (.slice none 0 0) := fun w' h => ⟨(BA.below h (Box.lt BA)).at 1 rfl, (BA.below h (Box.lt BA)).at 2 rfl, (BT.below h (Box.lt BT)).at 0 rfl, (BT.below h (Box.lt BT)).at 1 rfl, (BT.below h (Box.lt BT)).at 2 rfl, (BT.below h (Box.lt BT)).at 3 rfl, (BT.below h (Box.lt BT)).at 4 rfl, (BT.below h (Box.lt BT)).at 5 rfl, (BT.below h (Box.lt BT)).at 6 rfl, (BT.below h (Box.lt BT)).at 7 rfl⟩
  have hset : ∀ (w' : World) (j : Nat) (v : Value), (w'.cell? ⟨w.heap.size, 1, none⟩ = some (.string s) ∧ w'.cell? ⟨w.heap.size, 2, none⟩ = some (.slice ax lx cx) ∧ w'.cell? ⟨w.heap.size + 1 + 1, 0, none⟩ = some (.int .i64 1) ∧ w'.cell? ⟨w.heap.size + 1 + 1, 1, none⟩ = some (.string s) ∧ w'.cell? ⟨w.heap.size + 1 + 1, 2, none⟩ = some (.slice ax lx cx) ∧ w'.cell? ⟨w.heap.size + 1 + 1, 3, none⟩ = some (.int .u64 0) ∧ w'.cell? ⟨w.heap.size + 1 + 1, 4, none⟩ = some (.int .i64 0) ∧ w'.cell? ⟨w.heap.size + 1 + 1, 5, none⟩ = some (.int .i64 0) ∧ w'.cell? ⟨w.heap.size + 1 + 1, 6, none⟩ = some (.int .i64 0) ∧ w'.cell? ⟨w.heap.size + 1 + 1, 7, none⟩ = some (.slice none 0 0)) → ((w'.setCell ⟨w.heap.size + 1, j, none⟩ v).cell? ⟨w.heap.size, 1, none⟩ = some (.string s) ∧ (w'.setCell ⟨w.heap.size + 1, j, none⟩ v).cell? ⟨w.heap.size, 2, none⟩ = some (.slice ax lx cx) ∧ (w'.setCell ⟨w.heap.size + 1, j, none⟩ v).cell? ⟨w.heap.size + 1 + 1, 0, none⟩ = some (.int .i64 1) ∧ (w'.setCell ⟨w.heap.size + 1, j, none⟩ v).cell? ⟨w.heap.size + 1 + 1, 1, none⟩ = some (.string s) ∧ (w'.setCell ⟨w.heap.size + 1, j, none⟩ v).cell? ⟨w.heap.size + 1 + 1, 2, none⟩ = some (.slice ax lx cx) ∧ (w'.setCell ⟨w.heap.size + 1, j, none⟩ v).cell? ⟨w.heap.size + 1 + 1, 3, none⟩ = some (.int .u64 0) ∧ (w'.setCell ⟨w.heap.size + 1, j, none⟩ v).cell? ⟨w.heap.size + 1 + 1, 4, none⟩ = some (.int .i64 0) ∧ (w'.setCell ⟨w.heap.size + 1, j, none⟩ v).cell? ⟨w.heap.size + 1 + 1, 5, none⟩ = some (.int .i64 0) ∧ (w'.setCell ⟨w.heap.size + 1, j, none⟩ v).cell? ⟨w.heap.size + 1 + 1, 6, none⟩ = some (.int .i64 0) ∧ (w'.setCell ⟨w.heap.size + 1, j, none⟩ v).cell? ⟨w.heap.size + 1 + 1, 7, none⟩ = some (.slice none 0 0)) := fun w' j v h => by
    obtain ⟨h0, h1, h2, h3, h4, h5, h6, h7, h8, h9⟩ := h
    exact ⟨(World.cell?_setCell_other _ _ _ _ (by simp)).trans h0, (World.cell?_setCell_other _ _ _ _ (by simp)).trans h1, (World.cell?_setCell_other _ _ _ _ (by simp)).trans h2, (World.cell?_setCell_other _ _ _ _ (by simp)).trans h3, (World.cell?_setCell_other _ _ _ _ (by simp)).trans h4, (World.cell?_setCell_other _ _ _ _ (by simp)).trans h5, (World.cell?_setCell_other _ _ _ _ (by simp)).trans h6, (World.cell?_setCell_other _ _ _ _ (by simp)).trans h7, (World.cell?_setCell_other _ _ _ _ (by simp)).trans h8, (World.cell?_setCell_other _ _ _ _ (by simp)).trans h9⟩
  have hxD : IsB W.drew (.slice ax lx cx) ds := hxW
  have bD : Below W.heap.size W W.drew := (Below.refl _ _).drew
  have hBD : IsB (bw W.drew) (.slice (some ⟨W.heap.size, 0, none⟩) s.size (gc W.drew)) s.data.toList := hB W.drew
  have hxE : IsB (bw W.drew) (.slice ax lx cx) ds := hxD.below (hBel _)
  have bE : Below W.heap.size W (bw W.drew) := bD.trans (hBel W.drew)
  rw [cvt_eq]
  go_region_held3 (fun w' => w'.cell? ⟨w.heap.size, 1, none⟩ = some (.string s) ∧ w'.cell? ⟨w.heap.size, 2, none⟩ = some (.slice ax lx cx) ∧ w'.cell? ⟨w.heap.size + 1 + 1, 0, none⟩ = some (.int .i64 1) ∧ w'.cell? ⟨w.heap.size + 1 + 1, 1, none⟩ = some (.string s) ∧ w'.cell? ⟨w.heap.size + 1 + 1, 2, none⟩ = some (.slice ax lx cx) ∧ w'.cell? ⟨w.heap.size + 1 + 1, 3, none⟩ = some (.int .u64 0) ∧ w'.cell? ⟨w.heap.size + 1 + 1, 4, none⟩ = some (.int .i64 0) ∧ w'.cell? ⟨w.heap.size + 1 + 1, 5, none⟩ = some (.int .i64 0) ∧ w'.cell? ⟨w.heap.size + 1 + 1, 6, none⟩ = some (.int .i64 0) ∧ w'.cell? ⟨w.heap.size + 1 + 1, 7, none⟩ = some (.slice none 0 0)) (first | (with_reducible exact hS _ bD) | (with_reducible exact hS _ b1) | (with_reducible exact hS _ b1w) | (with_reducible exact hS _ bE) | (with_reducible exact hS _ b2) | (with_reducible exact hset _ _ _ (hset _ _ _ (hset _ _ _ (hset _ _ _ (hset _ _ _ (hset _ _ _ (hset _ _ _ (hset _ _ _ (hS _ b2)))))))))) (first
    | (go_at_call 38; (with_reducible refine (coded_calls _ ds W.drew hxD (by omega)).mono ?_); rintro e w1 ⟨S1, rfl, hS1, bel1⟩; (have hz1 : S1.size ≤ 3000000 := by (rw [size_of_list hS1]; exact word_le' ds hd)); (have y1 : ¬ 9223372036854775807 < 8 + S1.size := by omega); (have y2 : ¬ 9223372036854775807 < 8 + S1.size + 1 := by omega); (have b1 : Below W.heap.size W w1 := bD.trans bel1); (have b1w : Below W.heap.size W (bw w1) := b1.trans ((hBel w1).mono b1.size)))
    | (go_at_call 38; (with_reducible refine (coded_calls _ s.data.toList (bw w1) (hB w1) (by omega)).mono ?_); rintro e w2 ⟨S2, rfl, hS2, bel2⟩; (have hz2 : S2.size ≤ 3000000 := by (rw [size_of_list hS2]; exact word_le' _ (by omega))); (have y3 : ¬ 9223372036854775807 < 8 + S1.size + 1 + S2.size := by omega); (have b2 : Below W.heap.size W w2 := b1w.trans (bel2.mono b1w.size)); (have R2 := BR.below b2 (Box.lt BR)); (have fr := R2.2.2); (obtain ⟨e0, e1, e2, e3, e4, e5, e6, e7⟩ := all8 R2))
    | (go_at_call 38; (with_reducible refine (coded_calls _ ds (bw W.drew) hxE (by omega)).mono ?_); rintro e w1 ⟨S1, rfl, hS1, bel1⟩; (have hz1 : S1.size ≤ 3000000 := by (rw [size_of_list hS1]; exact word_le' ds hd)); (have y1 : ¬ 9223372036854775807 < 8 + S1.size := by omega); (have y2 : ¬ 9223372036854775807 < 8 + S1.size + 1 := by omega); (have b1 : Below W.heap.size W w1 := bE.trans (bel1.mono bE.size)))
    | (go_at_call 38; (with_reducible refine (coded_calls _ s.data.toList w1 (IsB.below hBD bel1) (by omega)).mono ?_); rintro e w2 ⟨S2, rfl, hS2, bel2⟩; (have hz2 : S2.size ≤ 3000000 := by (rw [size_of_list hS2]; exact word_le' _ (by omega))); (have y3 : ¬ 9223372036854775807 < 8 + S1.size + 1 + S2.size := by omega); (have b2 : Below W.heap.size W w2 := b1.trans (bel2.mono b1.size)); (have R2 := BR.below b2 (Box.lt BR)); (have fr := R2.2.2); (obtain ⟨e0, e1, e2, e3, e4, e5, e6, e7⟩ := all8 R2)))
  all_goals go_wp2
  all_goals
    have bw2 : Below w.heap.size w w2 := b0.trans (b2.mono b0.size)
    obtain ⟨b16, e0, e1, e2, e3, e4, e5, e6, e7⟩ := fin8 R2 rfl bw2 (Nat.le_succ _) (.int .i64 1) (.string s) (.slice ax lx cx) (.int .u64 0) (.int .i64 0) (.int .i64 0) (.int .i64 0) (.slice none 0 0) rfl
    try simp only [Exit.inBlock, Exit.then]
    refine bodyPost_ret (by simp [results, Tryz.results35, go_sem, e0, e1, e2, e3, e4, e5, e6, e7]; try rfl) rfl ?_
    exact ⟨_, rfl, by simp [hS1, hS2], b16⟩
end Go.Proofs.YtbfoocginkdmcaaGreatDoor

/-
  Numbers' texts, with what they leave of the world.
-/

namespace Go.Proofs.YtbfoocginkdmcaaGreatDoor
open Go Go.RowKit Go.Basic Go.ArgS Go.Scr Go.Lib Go.Sort
abbrev Tab (w : World) : Prop := TabIs Tryz.prog w "internal/strconv.uint64pow10" .u64 pow10Tab
theorem tab_below {w w' : World} (h : Tab w) (hb : Below w.heap.size w w') : Tab w' := by
  unfold Tab TabIs World.var? at *
  cases hg : Tryz.prog.globalNamed "internal/strconv.uint64pow10" with
  | none => simp [hg] at h
  | some g =>
    simp only [hg, Option.bind_some] at h ⊢
    have hlt : g < w.heap.size := by
      rcases Nat.lt_or_ge g w.heap.size with h' | h'
      · exact h'
      · rw [Array.getElem?_eq_none h'] at h; simp at h
    rw [hb.block g hlt]
    exact h
theorem below_grow (w : World) (k : Nat) (os : Array Obj) : Below w.heap.size w (grow (w.drewN k) os) := by
  have h : ∀ k, (w.drewN k).heap = w.heap ∧ (w.drewN k).os = w.os ∧ (w.drewN k).tape = w.tape ∧ (w.drewN k).output = w.output := by
    intro k
    induction k with
    | zero => rw [World.drewN_zero]; exact ⟨rfl, rfl, rfl, rfl⟩
    | succ k ih => exact ih
  obtain ⟨h1, h2, h3, h4⟩ := h k
  exact ⟨h2, h3, h4, by simp [grow], fun j hj => by simp [grow, Array.getElem?_append, hj]⟩
theorem itoa_len (n : Int) (h0 : -9223372036854775808 ≤ n) (h1 : n ≤ 9223372036854775807) : (itoa n).length ≤ 21 := by
  unfold itoa
  split
  · have := nDigits_le n.natAbs (by omega)
    rw [List.length_cons, decDigits_length]
    omega
  · have := nDigits_le n.toNat (by omega)
    rw [decDigits_length]
    omega
theorem itoaB_calls (n : Int) (h0 : -9223372036854775808 ≤ n) (h1 : n ≤ 9223372036854775807) (w : World) (htab : Tab w) :
    Calls Tryz.prog 43 #[.int .i64 n] w fun e w' => ∃ S : ByteArray, e = .returned (.string S) ∧ S.data.toList = itoa n ∧ Below w.heap.size w w' := by
  refine (itoa_calls n h0 h1 w htab).mono ?_
  rintro e w' ⟨rfl, k, os, rfl⟩
  exact ⟨_, rfl, rfl, below_grow w k os⟩
theorem formatB_calls (u : Nat) (hu : u < 18446744073709551616) (w : World) (htab : Tab w) :
    Calls Tryz.prog 74 #[.int .u64 u, .int .i64 10] w fun e w' => ∃ S : ByteArray, e = .returned (.string S) ∧ S.data.toList = decDigits u ∧ Below w.heap.size w w' := by
  refine (format_calls u hu w htab).mono ?_
  rintro e w' ⟨rfl, k, os, rfl⟩
  exact ⟨_, rfl, rfl, below_grow w k os⟩
end Go.Proofs.YtbfoocginkdmcaaGreatDoor

/-
  line: the acts of one number, and those without any.
-/

namespace Go.Proofs.YtbfoocginkdmcaaGreatDoor
open Go Go.RowKit Go.Basic Go.ArgS Go.Scr Go.Lib
theorem line2_calls (u : Nat) (hu : u < 18446744073709551616) (o n q : Int) (s : ByteArray) (ax ay : Option Addr) (lx cx ly cy : Nat) (w : World) (htab : Tab w) :
    Calls Tryz.prog 35 #[.agg #[.int .i64 2, .string s, .slice ax lx cx, .int .u64 (u : Int), .int .i64 o, .int .i64 n, .int .i64 q, .slice ay ly cy]] w fun e w' => ∃ S : ByteArray, e = .returned (.tuple #[.string S, .agg #[.int .i64 2, .string ⟨#[]⟩, .slice none 0 0, .int .u64 (u : Int), .int .i64 0, .int .i64 0, .int .i64 0, .slice none 0 0]]) ∧ S.data.toList = [116, 105, 99, 107, 32] ++ decDigits u ∧ Below w.heap.size w w' := by
  go_enter Tryz.func35, Tryz.ntmps35
  go_wp2_with fail
  obtain ⟨W, hW0, BA, BR, BT, b0⟩ := three_new w #[.int .i64 2, .string s, .slice ax lx cx, .int .u64 (u : Int), .int .i64 o, .int .i64 n, .int .i64 q, .slice ay ly cy] #[.int .i64 0, .string ⟨#[]⟩, .slice none 0 0, .int .u64 0, .int .i64 0, .int .i64 0, .int .i64 0, .slice none 0 0] #[.int .i64 2, .string ⟨#[]⟩, .slice none 0 0, .int .u64 (u : Int), .int .i64 0, .int .i64 0, .int .i64 0, .slice none 0 0]
  rw [hW0]
  clear hW0
  have htW := tab_below htab b0
  have bD : Below W.heap.size W W.drew := (Below.refl _ _).drew
  have hTab : Tab W.drew := tab_below htW bD
  have hS := nine_hold 3 (.int .u64 (u : Int)) BA BT rfl
  have n1 : w.heap.size ≠ w.heap.size + 1 := by omega
  have n2 : w.heap.size + 1 + 1 ≠ w.heap.size + 1 := by omega
  go_region_held3 (fun w' => w'.cell? ⟨w.heap.size, 3, none⟩ = some (.int .u64 (u : Int)) ∧ w'.cell? ⟨w.heap.size + 1 + 1, 0, none⟩ = some (.int .i64 2) ∧ w'.cell? ⟨w.heap.size + 1 + 1, 1, none⟩ = some (.string ⟨#[]⟩) ∧ w'.cell? ⟨w.heap.size + 1 + 1, 2, none⟩ = some (.slice none 0 0) ∧ w'.cell? ⟨w.heap.size + 1 + 1, 3, none⟩ = some (.int .u64 (u : Int)) ∧ w'.cell? ⟨w.heap.size + 1 + 1, 4, none⟩ = some (.int .i64 0) ∧ w'.cell? ⟨w.heap.size + 1 + 1, 5, none⟩ = some (.int .i64 0) ∧ w'.cell? ⟨w.heap.size + 1 + 1, 6, none⟩ = some (.int .i64 0) ∧ w'.cell? ⟨w.heap.size + 1 + 1, 7, none⟩ = some (.slice none 0 0)) (first | (with_reducible exact hS _ bD) | (with_reducible exact hS _ b2) | (with_reducible exact nine_set n1 n2 (nine_set n1 n2 (nine_set n1 n2 (nine_set n1 n2 (nine_set n1 n2 (nine_set n1 n2 (nine_set n1 n2 (nine_set n1 n2 (hS _ b2)))))))))) (first
    | (go_at_call 74; (with_reducible refine (formatB_calls u hu W.drew hTab).mono ?_); rintro e w2 ⟨S2, rfl, hS2, bel2⟩; (have hz2 : S2.size ≤ 21 := by (rw [size_of_list hS2]; rw [decDigits_length]; have := nDigits_le u hu; omega)); (have y3 : ¬ 9223372036854775807 < 5 + S2.size := by omega); (have b2 : Below W.heap.size W w2 := bD.trans bel2); (have R2 := BR.below b2 (Box.lt BR)); (have fr := R2.2.2); (obtain ⟨e0, e1, e2, e3, e4, e5, e6, e7⟩ := all8 R2)))
  all_goals go_wp2
  all_goals
    have bw2 : Below w.heap.size w w2 := b0.trans (b2.mono b0.size)
    obtain ⟨b16, e0, e1, e2, e3, e4, e5, e6, e7⟩ := fin8 R2 rfl bw2 (Nat.le_succ _) (.int .i64 2) (.string ⟨#[]⟩) (.slice none 0 0) (.int .u64 (u : Int)) (.int .i64 0) (.int .i64 0) (.int .i64 0) (.slice none 0 0) rfl
    try simp only [Exit.inBlock, Exit.then]
    refine bodyPost_ret (by simp [results, Tryz.results35, go_sem, e0, e1, e2, e3, e4, e5, e6, e7]; try rfl) rfl ?_
    exact ⟨_, rfl, by simp [hS2], b16⟩
theorem line3_calls (t o n q : Int) (s : ByteArray) (ax ay : Option Addr) (lx cx ly cy : Nat) (w : World) (h0 : -9223372036854775808 ≤ o) (h1 : o ≤ 9223372036854775807) (htab : Tab w) :
    Calls Tryz.prog 35 #[.agg #[.int .i64 3, .string s, .slice ax lx cx, .int .u64 t, .int .i64 o, .int .i64 n, .int .i64 q, .slice ay ly cy]] w fun e w' => ∃ S : ByteArray, e = .returned (.tuple #[.string S, .agg #[.int .i64 3, .string ⟨#[]⟩, .slice none 0 0, .int .u64 0, .int .i64 o, .int .i64 0, .int .i64 0, .slice none 0 0]]) ∧ S.data.toList = [112, 105, 110, 103, 32] ++ itoa o ∧ Below w.heap.size w w' := by
  go_enter Tryz.func35, Tryz.ntmps35
  go_wp2_with fail
  obtain ⟨W, hW0, BA, BR, BT, b0⟩ := three_new w #[.int .i64 3, .string s, .slice ax lx cx, .int .u64 t, .int .i64 o, .int .i64 n, .int .i64 q, .slice ay ly cy] #[.int .i64 0, .string ⟨#[]⟩, .slice none 0 0, .int .u64 0, .int .i64 0, .int .i64 0, .int .i64 0, .slice none 0 0] #[.int .i64 3, .string ⟨#[]⟩, .slice none 0 0, .int .u64 0, .int .i64 o, .int .i64 0, .int .i64 0, .slice none 0 0]
  rw [hW0]
  clear hW0
  have htW := tab_below htab b0
  have bD : Below W.heap.size W W.drew := (Below.refl _ _).drew
  have hTab : Tab W.drew := tab_below htW bD
  have hS := nine_hold 4 (.int .i64 o) BA BT rfl
  have n1 : w.heap.size ≠ w.heap.size + 1 := by omega
  have n2 : w.heap.size + 1 + 1 ≠ w.heap.size + 1 := by omega
  go_region_held3 (fun w' => w'.cell? ⟨w.heap.size, 4, none⟩ = some (.int .i64 o) ∧ w'.cell? ⟨w.heap.size + 1 + 1, 0, none⟩ = some (.int .i64 3) ∧ w'.cell? ⟨w.heap.size + 1 + 1, 1, none⟩ = some (.string ⟨#[]⟩) ∧ w'.cell? ⟨w.heap.size + 1 + 1, 2, none⟩ = some (.slice none 0 0) ∧ w'.cell? ⟨w.heap.size + 1 + 1, 3, none⟩ = some (.int .u64 0) ∧ w'.cell? ⟨w.heap.size + 1 + 1, 4, none⟩ = some (.int .i64 o) ∧ w'.cell? ⟨w.heap.size + 1 + 1, 5, none⟩ = some (.int .i64 0) ∧ w'.cell? ⟨w.heap.size + 1 + 1, 6, none⟩ = some (.int .i64 0) ∧ w'.cell? ⟨w.heap.size + 1 + 1, 7, none⟩ = some (.slice none 0 0)) (first | (with_reducible exact hS _ bD) | (with_reducible exact hS _ b2) | (with_reducible exact nine_set n1 n2 (nine_set n1 n2 (nine_set n1 n2 (nine_set n1 n2 (nine_set n1 n2 (nine_set n1 n2 (nine_set n1 n2 (nine_set n1 n2 (hS _ b2)))))))))) (first
    | (go_at_call 43; (with_reducible refine (itoaB_calls o h0 h1 W.drew hTab).mono ?_); rintro e w2 ⟨S2, rfl, hS2, bel2⟩; (have hz2 : S2.size ≤ 21 := by (rw [size_of_list hS2]; exact itoa_len o h0 h1)); (have y3 : ¬ 9223372036854775807 < 5 + S2.size := by omega); (have b2 : Below W.heap.size W w2 := bD.trans bel2); (have R2 := BR.below b2 (Box.lt BR)); (have fr := R2.2.2); (obtain ⟨e0, e1, e2, e3, e4, e5, e6, e7⟩ := all8 R2)))
  all_goals go_wp2
  all_goals
    have bw2 : Below w.heap.size w w2 := b0.trans (b2.mono b0.size)
    obtain ⟨b16, e0, e1, e2, e3, e4, e5, e6, e7⟩ := fin8 R2 rfl bw2 (Nat.le_succ _) (.int .i64 3) (.string ⟨#[]⟩) (.slice none 0 0) (.int .u64 0) (.int .i64 o) (.int .i64 0) (.int .i64 0) (.slice none 0 0) rfl
    try simp only [Exit.inBlock, Exit.then]
    refine bodyPost_ret (by simp [results, Tryz.results35, go_sem, e0, e1, e2, e3, e4, e5, e6, e7]; try rfl) rfl ?_
    exact ⟨_, rfl, by simp [hS2], b16⟩
theorem line4_calls (t o n q : Int) (s : ByteArray) (ax ay : Option Addr) (lx cx ly cy : Nat) (w : World) (h0 : -9223372036854775808 ≤ n) (h1 : n ≤ 9223372036854775807) (htab : Tab w) :
    Calls Tryz.prog 35 #[.agg #[.int .i64 4, .string s, .slice ax lx cx, .int .u64 t, .int .i64 o, .int .i64 n, .int .i64 q, .slice ay ly cy]] w fun e w' => ∃ S : ByteArray, e = .returned (.tuple #[.string S, .agg #[.int .i64 4, .string ⟨#[]⟩, .slice none 0 0, .int .u64 0, .int .i64 0, .int .i64 n, .int .i64 0, .slice none 0 0]]) ∧ S.data.toList = [97, 114, 109, 32] ++ itoa n ∧ Below w.heap.size w w' := by
  go_enter Tryz.func35, Tryz.ntmps35
  go_wp2_with fail
  obtain ⟨W, hW0, BA, BR, BT, b0⟩ := three_new w #[.int .i64 4, .string s, .slice ax lx cx, .int .u64 t, .int .i64 o, .int .i64 n, .int .i64 q, .slice ay ly cy] #[.int .i64 0, .string ⟨#[]⟩, .slice none 0 0, .int .u64 0, .int .i64 0, .int .i64 0, .int .i64 0, .slice none 0 0] #[.int .i64 4, .string ⟨#[]⟩, .slice none 0 0, .int .u64 0, .int .i64 0, .int .i64 n, .int .i64 0, .slice none 0 0]
  rw [hW0]
  clear hW0
  have htW := tab_below htab b0
  have bD : Below W.heap.size W W.drew := (Below.refl _ _).drew
  have hTab : Tab W.drew := tab_below htW bD
  have hS := nine_hold 5 (.int .i64 n) BA BT rfl
  have n1 : w.heap.size ≠ w.heap.size + 1 := by omega
  have n2 : w.heap.size + 1 + 1 ≠ w.heap.size + 1 := by omega
  go_region_held3 (fun w' => w'.cell? ⟨w.heap.size, 5, none⟩ = some (.int .i64 n) ∧ w'.cell? ⟨w.heap.size + 1 + 1, 0, none⟩ = some (.int .i64 4) ∧ w'.cell? ⟨w.heap.size + 1 + 1, 1, none⟩ = some (.string ⟨#[]⟩) ∧ w'.cell? ⟨w.heap.size + 1 + 1, 2, none⟩ = some (.slice none 0 0) ∧ w'.cell? ⟨w.heap.size + 1 + 1, 3, none⟩ = some (.int .u64 0) ∧ w'.cell? ⟨w.heap.size + 1 + 1, 4, none⟩ = some (.int .i64 0) ∧ w'.cell? ⟨w.heap.size + 1 + 1, 5, none⟩ = some (.int .i64 n) ∧ w'.cell? ⟨w.heap.size + 1 + 1, 6, none⟩ = some (.int .i64 0) ∧ w'.cell? ⟨w.heap.size + 1 + 1, 7, none⟩ = some (.slice none 0 0)) (first | (with_reducible exact hS _ bD) | (with_reducible exact hS _ b2) | (with_reducible exact nine_set n1 n2 (nine_set n1 n2 (nine_set n1 n2 (nine_set n1 n2 (nine_set n1 n2 (nine_set n1 n2 (nine_set n1 n2 (nine_set n1 n2 (hS _ b2)))))))))) (first
    | (go_at_call 43; (with_reducible refine (itoaB_calls n h0 h1 W.drew hTab).mono ?_); rintro e w2 ⟨S2, rfl, hS2, bel2⟩; (have hz2 : S2.size ≤ 21 := by (rw [size_of_list hS2]; exact itoa_len n h0 h1)); (have y3 : ¬ 9223372036854775807 < 4 + S2.size := by omega); (have b2 : Below W.heap.size W w2 := bD.trans bel2); (have R2 := BR.below b2 (Box.lt BR)); (have fr := R2.2.2); (obtain ⟨e0, e1, e2, e3, e4, e5, e6, e7⟩ := all8 R2)))
  all_goals go_wp2
  all_goals
    have bw2 : Below w.heap.size w w2 := b0.trans (b2.mono b0.size)
    obtain ⟨b16, e0, e1, e2, e3, e4, e5, e6, e7⟩ := fin8 R2 rfl bw2 (Nat.le_succ _) (.int .i64 4) (.string ⟨#[]⟩) (.slice none 0 0) (.int .u64 0) (.int .i64 0) (.int .i64 n) (.int .i64 0) (.slice none 0 0) rfl
    try simp only [Exit.inBlock, Exit.then]
    refine bodyPost_ret (by simp [results, Tryz.results35, go_sem, e0, e1, e2, e3, e4, e5, e6, e7]; try rfl) rfl ?_
    exact ⟨_, rfl, by simp [hS2], b16⟩
theorem line6_calls (t o n q : Int) (s : ByteArray) (ax ay : Option Addr) (lx cx ly cy : Nat) (w : World) :
    Calls Tryz.prog 35 #[.agg #[.int .i64 6, .string s, .slice ax lx cx, .int .u64 t, .int .i64 o, .int .i64 n, .int .i64 q, .slice ay ly cy]] w fun e w' => ∃ S : ByteArray, e = .returned (.tuple #[.string S, .agg #[.int .i64 6, .string ⟨#[]⟩, .slice none 0 0, .int .u64 0, .int .i64 0, .int .i64 0, .int .i64 0, .slice none 0 0]]) ∧ S.data.toList = [99, 111, 109, 112, 97, 99, 116] ∧ Below w.heap.size w w' := by
  go_enter Tryz.func35, Tryz.ntmps35
  go_wp2_with fail
  obtain ⟨W, hW0, BA, BR, BT, b0⟩ := three_new w #[.int .i64 6, .string s, .slice ax lx cx, .int .u64 t, .int .i64 o, .int .i64 n, .int .i64 q, .slice ay ly cy] #[.int .i64 0, .string ⟨#[]⟩, .slice none 0 0, .int .u64 0, .int .i64 0, .int .i64 0, .int .i64 0, .slice none 0 0] #[.int .i64 6, .string ⟨#[]⟩, .slice none 0 0, .int .u64 0, .int .i64 0, .int .i64 0, .int .i64 0, .slice none 0 0]
  rw [hW0]
  clear hW0
  have fr := BR.2.2
  obtain ⟨e0, e1, e2, e3, e4, e5, e6, e7⟩ := all8 BR
  obtain ⟨d0, d1, d2, d3, d4, d5, d6, d7⟩ := all8 BT
  go_region
  all_goals go_wp2
  all_goals
    have R2 := BR
    have bw2 := b0
    obtain ⟨b16, e0, e1, e2, e3, e4, e5, e6, e7⟩ := fin8 R2 rfl bw2 (Nat.le_succ _) (.int .i64 6) (.string ⟨#[]⟩) (.slice none 0 0) (.int .u64 0) (.int .i64 0) (.int .i64 0) (.int .i64 0) (.slice none 0 0) rfl
    try simp only [Exit.inBlock, Exit.then]
    refine bodyPost_ret (by simp [results, Tryz.results35, go_sem, e0, e1, e2, e3, e4, e5, e6, e7]; try rfl) rfl ?_
    exact ⟨_, rfl, by rfl, b16.drew⟩
theorem line0_calls (k t o n q : Int) (h1 : k ≠ 1) (h2 : k ≠ 2) (h3 : k ≠ 3) (h4 : k ≠ 4) (h5 : k ≠ 5) (h6 : k ≠ 6) (s : ByteArray) (ax ay : Option Addr) (lx cx ly cy : Nat) (w : World) :
    Calls Tryz.prog 35 #[.agg #[.int .i64 k, .string s, .slice ax lx cx, .int .u64 t, .int .i64 o, .int .i64 n, .int .i64 q, .slice ay ly cy]] w fun e w' => ∃ S : ByteArray, e = .returned (.tuple #[.string S, .agg #[.int .i64 0, .string ⟨#[]⟩, .slice none 0 0, .int .u64 0, .int .i64 0, .int .i64 0, .int .i64 0, .slice none 0 0]]) ∧ S.data.toList = [] ∧ Below w.heap.size w w' := by
  go_enter Tryz.func35, Tryz.ntmps35
  go_wp2
  obtain ⟨W, hW0, BA, BR, BT, b0⟩ := three_new w #[.int .i64 k, .string s, .slice ax lx cx, .int .u64 t, .int .i64 o, .int .i64 n, .int .i64 q, .slice ay ly cy] #[.int .i64 0, .string ⟨#[]⟩, .slice none 0 0, .int .u64 0, .int .i64 0, .int .i64 0, .int .i64 0, .slice none 0 0] #[.int .i64 k, .string ⟨#[]⟩, .slice none 0 0, .int .u64 0, .int .i64 0, .int .i64 0, .int .i64 0, .slice none 0 0]
  rw [hW0]
  clear hW0
  obtain ⟨e0, e1, e2, e3, e4, e5, e6, e7⟩ := all8 BR
  try simp only [Exit.inBlock, Exit.then]
  refine bodyPost_ret (by simp [results, Tryz.results35, go_sem, e0, e1, e2, e3, e4, e5, e6, e7]; try rfl) rfl ?_
  exact ⟨_, rfl, rfl, b0⟩
end Go.Proofs.YtbfoocginkdmcaaGreatDoor

/-
  line: a restart.
-/

namespace Go.Proofs.YtbfoocginkdmcaaGreatDoor
open Go Go.RowKit Go.Basic Go.ArgS Go.Scr Go.Lib Go.Proofs Go.Shelf
theorem inf9 : (Tryz.prog.info? 9).map (fun i => (i.zero, i.size, i.bytes)) = some (some (.string ⟨#[]⟩), 1, 16) := by kernel_rfl
abbrev sc (l : List ByteArray) : List Value := l.map Value.string
def TX (ts : List Int) (xs : List ByteArray) : Prop := xs.map (fun x => x.data.toList) = ts.map itoa
theorem own_texts {w : World} {B : Nat} {v : Value} {n : Nat} {xs : List ByteArray} (h : w.ownsRow B 9 1 v n (sc xs)) (hn : 0 < n) (hl : n = xs.length) :
    ∃ g cap, v = .slice (some ⟨g, 0, none⟩) n cap ∧ g < w.heap.size ∧ xs.length ≤ cap ∧ ∀ (j : Nat) x, xs[j]? = some x → w.cell? ⟨g, 0 + j, none⟩ = some (.string x) := by
  have h' := h
  rcases h.2 with ⟨_, h0⟩ | ⟨g, cap, cur, rfl, e2, e3, e4, _⟩
  · omega
  · refine ⟨g, cap, rfl, (h'.lt g rfl).2, by omega, fun j x hj => ?_⟩
    have := h'.cells rfl j (.string x) (by rw [List.getElem?_map, hj]; rfl)
    rwa [add_plain] at this
theorem lens_le (r : List (List UInt8)) (h : ∀ x ∈ r, x.length ≤ 21) : lens r ≤ 21 * r.length := by
  induction r with
  | nil => simp [lens]
  | cons x r ih =>
    have h1 := h x List.mem_cons_self
    have h2 := ih fun y hy => h y (List.mem_cons_of_mem _ hy)
    simp only [lens, List.map_cons, List.sum_cons, List.length_cons] at h2 ⊢
    omega
theorem join_le (n q : Int) (ts : List Int) (hn0 : -9223372036854775808 ≤ n) (hn1 : n ≤ 9223372036854775807) (hq0 : -9223372036854775808 ≤ q) (hq1 : q ≤ 9223372036854775807)
    (hts : ∀ x ∈ ts, -9223372036854775808 ≤ x ∧ x ≤ 9223372036854775807) (hl : ts.length ≤ 1100000) :
    (join ([114, 101, 115, 116, 97, 114, 116] :: itoa n :: itoa q :: ts.map itoa) [32]).length ≤ 140737488355328 := by
  rw [join_cons, List.length_append, joinTail_length]
  have h1 := lens_le (itoa n :: itoa q :: ts.map itoa) (fun x hx => by
    rcases List.mem_cons.1 hx with rfl | hx
    · exact itoa_len n hn0 hn1
    rcases List.mem_cons.1 hx with rfl | hx
    · exact itoa_len q hq0 hq1
    obtain ⟨t, ht, rfl⟩ := List.mem_map.1 hx
    exact itoa_len t (hts t ht).1 (hts t ht).2)
  simp only [List.length_cons, List.length_map, List.length_nil] at h1 ⊢
  omega
theorem join_line (n q : Int) (ts : List Int) : join ([114, 101, 115, 116, 97, 114, 116] :: itoa n :: itoa q :: ts.map itoa) [32] = [114, 101, 115, 116, 97, 114, 116, 32] ++ itoa n ++ [32] ++ itoa q ++ rest ts := by
  rw [join_cons]
  simp [joinTail, rest, List.flatMap, Function.comp_def]
theorem extra156 : Builder.Extra Tryz.prog Tryz.lays156_ren where
  sizeBuilder := by kernel_rfl
  liesBuilder := by kernel_rfl
  t5 := Tryz.underlying5
  a5 := Tryz.isAgg5
  z5 := Tryz.sizeOf5
  v5 := Tryz.zeroValue5
  infoByte := by kernel_rfl
  cellsByte := by kernel_rfl
  sizeByte := by kernel_rfl
  neB5 := by decide
theorem joinB_calls (n : Nat) (xs : List ByteArray) (hn : n = xs.length) (g c : Nat) (w : World) (hcells : ∀ (j : Nat) x, xs[j]? = some x → w.cell? ⟨g, 0 + j, none⟩ = some (.string x)) (hg : g < w.heap.size) (hc : xs.length ≤ c) (hx : xs.length ≤ 140737488355328)
    (hlen : (join (xs.map (fun x => x.data.toList)) [32]).length ≤ 140737488355328) :
    Calls Tryz.prog 75 #[.slice (some ⟨g, 0, none⟩) n c, .string ⟨#[32]⟩] w fun e w' => ∃ S : ByteArray, e = .returned (.string S) ∧ S.data.toList = join (xs.map (fun x => x.data.toList)) [32] ∧ Below w.heap.size w w' := by
  subst hn
  refine (Any.strings_Join Tryz.lays156 extra156 g 0 c xs ⟨#[32]⟩ w hcells hg hx hc hlen).mono ?_
  rintro e w' ⟨rfl, hb⟩
  exact ⟨_, rfl, rfl, hb⟩
theorem own_below {w w' : World} {B : Nat} {e : TypeId} {v : Value} {n : Nat} {xs : List Value} (h : w.ownsRow B e 1 v n xs) (hb : Below w.heap.size w w') : w'.ownsRow B e 1 v n xs := by
  refine ⟨h.1, ?_⟩
  rcases h.2 with h0 | ⟨g, cap, cur, e1, e2, e3, e4⟩
  · exact .inl h0
  · have hlt : g < w.heap.size := by
      rcases Nat.lt_or_ge g w.heap.size with h' | h'
      · exact h'
      · rw [Array.getElem?_eq_none h'] at e3; cases e3
    exact .inr ⟨g, cap, cur, e1, e2, (hb.block g hlt).trans e3, e4⟩
theorem line5_calls (t o n q : Int) (s : ByteArray) (ax ay : Option Addr) (lx cx cy : Nat) (ts : List Int) (w : World) (htab : Tab w) (hn0 : -9223372036854775808 ≤ n) (hn1 : n ≤ 9223372036854775807) (hq0 : -9223372036854775808 ≤ q) (hq1 : q ≤ 9223372036854775807)
    (hy : IsSl w .i64 (.slice ay ts.length cy) ts) (hts : ∀ x ∈ ts, -9223372036854775808 ≤ x ∧ x ≤ 9223372036854775807) (hl : ts.length ≤ 1100000) :
    Calls Tryz.prog 35 #[.agg #[.int .i64 5, .string s, .slice ax lx cx, .int .u64 t, .int .i64 o, .int .i64 n, .int .i64 q, .slice ay ts.length cy]] w fun e w' => ∃ S : ByteArray, e = .returned (.tuple #[.string S, .agg #[.int .i64 5, .string ⟨#[]⟩, .slice none 0 0, .int .u64 0, .int .i64 0, .int .i64 n, .int .i64 q, .slice ay ts.length cy]]) ∧ S.data.toList = [114, 101, 115, 116, 97, 114, 116, 32] ++ itoa n ++ [32] ++ itoa q ++ rest ts ∧ Below w.heap.size w w' := by
  obtain ⟨i9, hi9, hz9, hs9, hb9⟩ := info_parts inf9
  go_enter Tryz.func35, Tryz.ntmps35
  go_wp2_with fail
  go_region
  go_wp2_with fail
  obtain ⟨W, hW0, BA, BR, BT, b0⟩ := three_newD w #[.int .i64 5, .string s, .slice ax lx cx, .int .u64 t, .int .i64 o, .int .i64 n, .int .i64 q, .slice ay ts.length cy] #[.int .i64 0, .string ⟨#[]⟩, .slice none 0 0, .int .u64 0, .int .i64 0, .int .i64 0, .int .i64 0, .slice none 0 0] #[.int .i64 5, .string ⟨#[]⟩, .slice none 0 0, .int .u64 0, .int .i64 0, .int .i64 n, .int .i64 q, .slice ay ts.length cy]
  rw [hW0]
  clear hW0
  have htW := tab_below htab b0
  have bD : Below W.heap.size W W.drew := (Below.refl _ _).drew
  have hTab : Tab W.drew := tab_below htW bD
  have hS : ∀ w' : World, Below W.heap.size W w' → w'.cell? ⟨w.heap.size, 5, none⟩ = some (.int .i64 n) ∧ w'.cell? ⟨w.heap.size, 6, none⟩ = some (.int .i64 q) := fun w' h => ⟨(BA.below h (Box.lt BA)).at 5 rfl, (BA.below h (Box.lt BA)).at 6 rfl⟩
  go_region_held3 (fun w' => w'.cell? ⟨w.heap.size, 5, none⟩ = some (.int .i64 n) ∧ w'.cell? ⟨w.heap.size, 6, none⟩ = some (.int .i64 q)) (first | (with_reducible exact hS _ bD) | (with_reducible exact hS _ b1) | (with_reducible exact hS _ b2) | (with_reducible exact hS _ b3)) (first
    | (go_at_call 43; (with_reducible refine (itoaB_calls n hn0 hn1 W.drew hTab).mono ?_); rintro e w1 ⟨S1, rfl, hS1, bel1⟩; (have b1 : Below W.heap.size W w1 := bD.trans bel1); (have hTab1 : Tab w1 := tab_below hTab bel1))
    | (go_at_call 43; (with_reducible refine (itoaB_calls q hq0 hq1 w1 hTab1).mono ?_); rintro e w2 ⟨S2, rfl, hS2, bel2⟩; (have b2 : Below W.heap.size W w2 := b1.trans (bel2.mono b1.size)); (have b3 := b2.alloc b2.size (.cells #[.string ⟨#[114, 101, 115, 116, 97, 114, 116]⟩, .string S1, .string S2] 9))))
  have c7 := (BA.below b3 (Box.lt BA)).at 7 rfl
  have hyW : IsSl (w2.alloc (.cells #[.string ⟨#[114, 101, 115, 116, 97, 114, 116]⟩, .string S1, .string S2] 9)) .i64 (.slice ay ts.length cy) ts := hy.below (b0.trans (b3.mono b0.size))
  have own0 : (w2.alloc (.cells #[.string ⟨#[114, 101, 115, 116, 97, 114, 116]⟩, .string S1, .string S2] 9)).ownsRow W.heap.size 9 1 (.slice (some ⟨w2.heap.size, 0, none⟩) 3 3) 3 (sc [⟨#[114, 101, 115, 116, 97, 114, 116]⟩, S1, S2]) :=
    ⟨rfl, .inr ⟨w2.heap.size, 3, #[.string ⟨#[114, 101, 115, 116, 97, 114, 116]⟩, .string S1, .string S2], rfl, b2.size, heap_alloc_new _ _, Nat.le_refl _, by decide, rfl, rfl⟩⟩
  have hTab3 : Tab (w2.alloc (.cells #[.string ⟨#[114, 101, 115, 116, 97, 114, 116]⟩, .string S1, .string S2] 9)) := tab_below htW b3
  go_wp2
  have hlen : (ts.length : Int) ≤ 9223372036854775807 := by omega
  go_loopw [5, 82] (fun v i wr => ∃ (j : Nat) (xs : List ByteArray), j ≤ ts.length ∧ i = .int .i64 j ∧ Hid (TX (ts.take j) xs) ∧ xs.length = j ∧ wr.ownsRow W.heap.size 9 1 v (3 + j) (sc (⟨#[114, 101, 115, 116, 97, 114, 116]⟩ :: S1 :: S2 :: xs)) ∧ Below W.heap.size W wr) (fun _ i _ => ts.length - (intOf i).toNat)
  case atStart => exact ⟨0, [], Nat.zero_le _, rfl, rfl, rfl, own0, b3⟩
  case round =>
    clear own0 hyW hTab3 c7
    obtain ⟨j, xs, hj, rfl, hTX, hxl, hown, hbw⟩ := hrel
    have hbw0 : Below w.heap.size w wr := b0.trans (hbw.mono b0.size)
    have hTr : Tab wr := tab_below htW hbw
    by_cases hlt : j < ts.length
    · have hlt' : (j : Int) < (ts.length : Int) := by omega
      have hyr := hy.below hbw0
      rcases hyr with ⟨h1, h2⟩ | ⟨a, cap, ea, hc⟩
      · rw [h2] at hlt
        cases hlt
      have hcj := hc j ts[j] (List.getElem?_eq_getElem hlt)
      cases ea
      clear hc
      obtain ⟨x, hx⟩ : ∃ x, x = ts[j] := ⟨_, rfl⟩
      obtain ⟨hx0, hx1⟩ := hts ts[j] (List.getElem_mem hlt)
      rw [← hx] at hcj hx0 hx1
      have htk : ts.take (j + 1) = ts.take j ++ [x] := by rw [List.take_add_one, List.getElem?_eq_getElem hlt, hx]; rfl
      clear hx
      have ownb : ∀ wa, Below wr.heap.size wr wa → ∀ o, (wa.alloc o).ownsRow W.heap.size 9 1 u5 (3 + j) (sc (⟨#[114, 101, 115, 116, 97, 114, 116]⟩ :: S1 :: S2 :: xs)) := fun wa h o => (own_below hown h).alloc o
      go_wp2_with (first
        | (go_at_call 43; refine (itoaB_calls x hx0 hx1 _ hTr).mono ?_; rintro e wa ⟨S3, rfl, hS3, bela⟩)
        | (at_builtin; refine wpList_append_own _ rfl _ _ 58 rfl W.heap.size 9 i9 (.string ⟨#[]⟩) 1 16 Tryz.underlying58 hi9 hz9 hs9 hb9 rfl (by decide) _ (3 + j) _ rfl (ownb _ bela _) ⟨_, 0, none⟩ 1 1 [.string S3] rfl rfl (one_cell _ _ _) (by intro u hu; simp at hu; subst hu; rfl) (by unfold maxLen; omega) (by omega) (by have h1 := hbw.size; have h2 := bela.size; simp; omega) ?_; intro v2 w4 hown2 hgrow2 _))
      have hb4 : Below W.heap.size W w4 := ((hbw.trans (bela.mono hbw.size)).alloc (Nat.le_trans hbw.size bela.size) _).grown hgrow2 (by have h1 := hbw.size; have h2 := bela.size; simp; omega) fun g hg => ((ownb _ bela (.cells #[.string S3] 9)).lt g hg).1
      go_roundw
      case rel => exact ⟨j + 1, xs ++ [S3], hlt, by go_num, (by show TX _ _; unfold TX; rw [htk, List.map_append, List.map_append, show xs.map (fun x => x.data.toList) = _ from hTX]; simp [hS3]), by simp [hxl], by simpa [sc, Nat.add_assoc] using hown2, hb4⟩
      case measure => simp only [intOf]; omega
    · have hge : ¬ (j : Int) < (ts.length : Int) := by omega
      obtain rfl : j = ts.length := by omega
      have hTX' : xs.map (fun x => x.data.toList) = ts.map itoa := by rw [show xs.map (fun x => x.data.toList) = _ from hTX, List.take_length]
      obtain ⟨YS, hYS⟩ : ∃ YS : List ByteArray, YS = ⟨#[114, 101, 115, 116, 97, 114, 116]⟩ :: S1 :: S2 :: xs := ⟨_, rfl⟩
      have hYl : 3 + ts.length = YS.length := by rw [hYS]; simp only [List.length_cons]; omega
      have hYt : YS.map (fun x => x.data.toList) = [114, 101, 115, 116, 97, 114, 116] :: itoa n :: itoa q :: ts.map itoa := by rw [hYS]; simp only [List.map_cons, hTX', hS1, hS2]
      rw [← hYS] at hown
      clear hYS hTX hTX'
      obtain ⟨g, cap, e1, hgl, hgc, hgcells⟩ := own_texts hown (by omega) hYl
      subst e1
      have hgD : g < wr.drew.heap.size := hgl
      have hgcD : ∀ (k : Nat) x, YS[k]? = some x → wr.drew.cell? ⟨g, 0 + k, none⟩ = some (.string x) := hgcells
      have hjl : (join (YS.map (fun x => x.data.toList)) [32]).length ≤ 140737488355328 := by rw [hYt]; exact join_le n q ts hn0 hn1 hq0 hq1 hts hl
      have bDr : Below W.heap.size W wr.drew := hbw.drew
      have hS' : ∀ w' : World, Below W.heap.size W w' → w'.cell? ⟨w.heap.size + 1 + 1, 0, none⟩ = some (.int .i64 5) ∧ w'.cell? ⟨w.heap.size + 1 + 1, 1, none⟩ = some (.string ⟨#[]⟩) ∧ w'.cell? ⟨w.heap.size + 1 + 1, 2, none⟩ = some (.slice none 0 0) ∧ w'.cell? ⟨w.heap.size + 1 + 1, 3, none⟩ = some (.int .u64 0) ∧ w'.cell? ⟨w.heap.size + 1 + 1, 4, none⟩ = some (.int .i64 0) ∧ w'.cell? ⟨w.heap.size + 1 + 1, 5, none⟩ = some (.int .i64 n) ∧ w'.cell? ⟨w.heap.size + 1 + 1, 6, none⟩ = some (.int .i64 q) ∧ w'.cell? ⟨w.heap.size + 1 + 1, 7, none⟩ = some (.slice ay ts.length cy) := fun w' h => ⟨(BT.below h (Box.lt BT)).at 0 rfl, (BT.below h (Box.lt BT)).at 1 rfl, (BT.below h (Box.lt BT)).at 2 rfl, (BT.below h (Box.lt BT)).at 3 rfl, (BT.below h (Box.lt BT)).at 4 rfl, (BT.below h (Box.lt BT)).at 5 rfl, (BT.below h (Box.lt BT)).at 6 rfl, (BT.below h (Box.lt BT)).at 7 rfl⟩
      have hset : ∀ (w' : World) (j : Nat) (v : Value), (w'.cell? ⟨w.heap.size + 1 + 1, 0, none⟩ = some (.int .i64 5) ∧ w'.cell? ⟨w.heap.size + 1 + 1, 1, none⟩ = some (.string ⟨#[]⟩) ∧ w'.cell? ⟨w.heap.size + 1 + 1, 2, none⟩ = some (.slice none 0 0) ∧ w'.cell? ⟨w.heap.size + 1 + 1, 3, none⟩ = some (.int .u64 0) ∧ w'.cell? ⟨w.heap.size + 1 + 1, 4, none⟩ = some (.int .i64 0) ∧ w'.cell? ⟨w.heap.size + 1 + 1, 5, none⟩ = some (.int .i64 n) ∧ w'.cell? ⟨w.heap.size + 1 + 1, 6, none⟩ = some (.int .i64 q) ∧ w'.cell? ⟨w.heap.size + 1 + 1, 7, none⟩ = some (.slice ay ts.length cy)) → ((w'.setCell ⟨w.heap.size + 1, j, none⟩ v).cell? ⟨w.heap.size + 1 + 1, 0, none⟩ = some (.int .i64 5) ∧ (w'.setCell ⟨w.heap.size + 1, j, none⟩ v).cell? ⟨w.heap.size + 1 + 1, 1, none⟩ = some (.string ⟨#[]⟩) ∧ (w'.setCell ⟨w.heap.size + 1, j, none⟩ v).cell? ⟨w.heap.size + 1 + 1, 2, none⟩ = some (.slice none 0 0) ∧ (w'.setCell ⟨w.heap.size + 1, j, none⟩ v).cell? ⟨w.heap.size + 1 + 1, 3, none⟩ = some (.int .u64 0) ∧ (w'.setCell ⟨w.heap.size + 1, j, none⟩ v).cell? ⟨w.heap.size + 1 + 1, 4, none⟩ = some (.int .i64 0) ∧ (w'.setCell ⟨w.heap.size + 1, j, none⟩ v).cell? ⟨w.heap.size + 1 + 1, 5, none⟩ = some (.int .i64 n) ∧ (w'.setCell ⟨w.heap.size + 1, j, none⟩ v).cell? ⟨w.heap.size + 1 + 1, 6, none⟩ = some (.int .i64 q) ∧ (w'.setCell ⟨w.heap.size + 1, j, none⟩ v).cell? ⟨w.heap.size + 1 + 1, 7, none⟩ = some (.slice ay ts.length cy)) := fun w' j v h => by
        obtain ⟨h0, h1, h2, h3, h4, h5, h6, h7⟩ := h
        exact ⟨(World.cell?_setCell_other _ _ _ _ (by simp)).trans h0, (World.cell?_setCell_other _ _ _ _ (by simp)).trans h1, (World.cell?_setCell_other _ _ _ _ (by simp)).trans h2, (World.cell?_setCell_other _ _ _ _ (by simp)).trans h3, (World.cell?_setCell_other _ _ _ _ (by simp)).trans h4, (World.cell?_setCell_other _ _ _ _ (by simp)).trans h5, (World.cell?_setCell_other _ _ _ _ (by simp)).trans h6, (World.cell?_setCell_other _ _ _ _ (by simp)).trans h7⟩
      clear hown
      go_wp2_with fail
      go_region_held3 (fun w' => w'.cell? ⟨w.heap.size + 1 + 1, 0, none⟩ = some (.int .i64 5) ∧ w'.cell? ⟨w.heap.size + 1 + 1, 1, none⟩ = some (.string ⟨#[]⟩) ∧ w'.cell? ⟨w.heap.size + 1 + 1, 2, none⟩ = some (.slice none 0 0) ∧ w'.cell? ⟨w.heap.size + 1 + 1, 3, none⟩ = some (.int .u64 0) ∧ w'.cell? ⟨w.heap.size + 1 + 1, 4, none⟩ = some (.int .i64 0) ∧ w'.cell? ⟨w.heap.size + 1 + 1, 5, none⟩ = some (.int .i64 n) ∧ w'.cell? ⟨w.heap.size + 1 + 1, 6, none⟩ = some (.int .i64 q) ∧ w'.cell? ⟨w.heap.size + 1 + 1, 7, none⟩ = some (.slice ay ts.length cy)) (first | (with_reducible exact hS' _ bDr) | (with_reducible exact hS' _ b5) | (with_reducible exact hset _ _ _ (hset _ _ _ (hset _ _ _ (hset _ _ _ (hset _ _ _ (hset _ _ _ (hset _ _ _ (hset _ _ _ (hS' _ b5)))))))))) (first
        | (go_at_call 75; (with_reducible refine (joinB_calls YS.length YS rfl g cap wr.drew hgcD hgD hgc (by omega) hjl).mono ?_); rintro e w5 ⟨SJ, rfl, hSJ, bel5⟩; (have b5 : Below W.heap.size W w5 := bDr.trans (bel5.mono bDr.size)); (have R2 := BR.below b5 (Box.lt BR)); (have fr := R2.2.2); (obtain ⟨e0, e1, e2, e3, e4, e5, e6, e7⟩ := all8 R2)))
      all_goals go_wp2
      all_goals
        have bw2 : Below w.heap.size w w5 := b0.trans (b5.mono b0.size)
        obtain ⟨b16, e0, e1, e2, e3, e4, e5, e6, e7⟩ := fin8 R2 rfl bw2 (Nat.le_succ _) (.int .i64 5) (.string ⟨#[]⟩) (.slice none 0 0) (.int .u64 0) (.int .i64 0) (.int .i64 n) (.int .i64 q) (.slice ay ts.length cy) rfl
        try simp only [Exit.inBlock, Exit.then]
        refine bodyPost_ret (by simp [results, Tryz.results35, go_sem, e0, e1, e2, e3, e4, e5, e6, e7]; try rfl) rfl ?_
        refine ⟨_, rfl, ?_, b16⟩
        rw [hSJ, hYt, join_line]
        simp
end Go.Proofs.YtbfoocginkdmcaaGreatDoor

/-
  line, of whatever kind; the builder's contracts.
-/

set_option maxHeartbeats 1000000
namespace Go.Proofs.YtbfoocginkdmcaaGreatDoor
open Go Go.RowKit Go.Basic Go.ArgS Go.Scr Go.Lib Go.Proofs Go.Shelf
def ActV (w : World) (v : Value) (a : PAct) : Prop := ∃ ax cx ay cy, v = .agg #[.int .i64 a.kind, .string a.raw, .slice ax a.draws.length cx, .int .u64 (a.now : Int), .int .i64 a.outcome, .int .i64 a.n, .int .i64 a.dir, .slice ay a.tails.length cy] ∧
  IsB w (.slice ax a.draws.length cx) a.draws ∧ IsSl w .i64 (.slice ay a.tails.length cy) a.tails
structure Fits (a : PAct) : Prop where
  now : a.now < 18446744073709551616
  outcome : -9223372036854775808 ≤ a.outcome ∧ a.outcome ≤ 9223372036854775807
  n : -9223372036854775808 ≤ a.n ∧ a.n ≤ 9223372036854775807
  dir : -9223372036854775808 ≤ a.dir ∧ a.dir ≤ 9223372036854775807
  tails : ∀ x ∈ a.tails, -9223372036854775808 ≤ x ∧ x ≤ 9223372036854775807
  raw : a.raw.size ≤ 1100000
  draws : a.draws.length ≤ 1100000
  long : a.tails.length ≤ 1100000
theorem ActV.below {w w' : World} {v : Value} {a : PAct} (h : ActV w v a) (hb : Below w.heap.size w w') : ActV w' v a := by
  obtain ⟨ax, cx, ay, cy, e, h1, h2⟩ := h
  exact ⟨ax, cx, ay, cy, e, h1.below hb, h2.below hb⟩
theorem ba_eq (a b : ByteArray) : a.toList = b.toList ↔ a = b := by
  rw [ByteArray.toList_eq, ByteArray.toList_eq]
  exact ⟨fun h => ByteArray.ext (Array.toList_inj.mp h), fun h => by rw [h]⟩
def Told (tv : Value) (a : PAct) : Prop := ∃ (k' t' o' n' q' : Int) (s' : ByteArray) (x' y' : Option Addr) (d' c1 l' c2 : Nat), tv = .agg #[.int .i64 k', .string s', .slice x' d' c1, .int .u64 t', .int .i64 o', .int .i64 n', .int .i64 q', .slice y' l' c2] ∧
  (decide (a.kind = k') && decide (a.raw.toList = s'.toList) && decide ((a.now : Int) = t') && decide (a.outcome = o') && decide (a.n = n') && decide (a.kind ≠ 0) && decide ((a.draws.length : Int) = (d' : Int)) && decide (a.dir = q') && decide ((a.tails.length : Int) = (l' : Int))) = okA a
theorem told_of {a : PAct} {tv : Value} {k' t' o' n' q' : Int} {s' : ByteArray} {x' y' : Option Addr} {d' c1 l' c2 : Nat} (htv : tv = .agg #[.int .i64 k', .string s', .slice x' d' c1, .int .u64 t', .int .i64 o', .int .i64 n', .int .i64 q', .slice y' l' c2])
    (h1 : (told a).kind = k') (h2 : (told a).raw = s') (h3 : ((told a).now : Int) = t') (h4 : (told a).outcome = o') (h5 : (told a).n = n') (h6 : (told a).dir = q') (h7 : (told a).draws.length = d') (h8 : (told a).tails.length = l') : Told tv a := by
  refine ⟨k', t', o', n', q', s', x', y', d', c1, l', c2, htv, ?_⟩
  rw [← whole_told, ← h1, ← h2, ← h3, ← h4, ← h5, ← h6, ← h7, ← h8]
  unfold wholeB
  simp only [ba_eq, Int.natCast_inj]
theorem line_calls (v : Value) (a : PAct) (w : World) (h : ActV w v a) (f : Fits a) (htab : Tab w) :
    Calls Tryz.prog 35 #[v] w fun e w' => ∃ (S : ByteArray) (tv : Value), e = .returned (.tuple #[.string S, tv]) ∧ S.data.toList = lineS a ∧ Told tv a ∧ Below w.heap.size w w' := by
  obtain ⟨ax, cx, ay, cy, rfl, hx, hy⟩ := h
  obtain ⟨k, r, d, u, o, n, q, t⟩ := a
  rcases kinds k with rfl | rfl | rfl | rfl | rfl | rfl | ⟨h1, h2, h3, h4, h5, h6⟩
  · refine (line1_calls _ o n q r ax ay d.length cx t.length cy d w hx f.draws f.raw).mono ?_
    rintro e w' ⟨S, rfl, hS, hb⟩
    exact ⟨S, _, rfl, by rw [hS]; simp [lineS], told_of rfl rfl rfl rfl rfl rfl rfl rfl rfl, hb⟩
  · refine (line2_calls u f.now o n q r ax ay d.length cx t.length cy w htab).mono ?_
    rintro e w' ⟨S, rfl, hS, hb⟩
    exact ⟨S, _, rfl, by rw [hS]; simp [lineS], told_of rfl rfl rfl rfl rfl rfl rfl rfl rfl, hb⟩
  · refine (line3_calls _ o n q r ax ay d.length cx t.length cy w f.outcome.1 f.outcome.2 htab).mono ?_
    rintro e w' ⟨S, rfl, hS, hb⟩
    exact ⟨S, _, rfl, by rw [hS]; simp [lineS], told_of rfl rfl rfl rfl rfl rfl rfl rfl rfl, hb⟩
  · refine (line4_calls _ o n q r ax ay d.length cx t.length cy w f.n.1 f.n.2 htab).mono ?_
    rintro e w' ⟨S, rfl, hS, hb⟩
    exact ⟨S, _, rfl, by rw [hS]; simp [lineS], told_of rfl rfl rfl rfl rfl rfl rfl rfl rfl, hb⟩
  · refine (line5_calls _ o n q r ax ay d.length cx cy t w htab f.n.1 f.n.2 f.dir.1 f.dir.2 hy f.tails f.long).mono ?_
    rintro e w' ⟨S, rfl, hS, hb⟩
    exact ⟨S, _, rfl, by rw [hS]; simp [lineS], told_of rfl rfl rfl rfl rfl rfl rfl rfl rfl, hb⟩
  · refine (line6_calls _ o n q r ax ay d.length cx t.length cy w).mono ?_
    rintro e w' ⟨S, rfl, hS, hb⟩
    exact ⟨S, _, rfl, by rw [hS]; simp [lineS], told_of rfl rfl rfl rfl rfl rfl rfl rfl rfl, hb⟩
  · refine (line0_calls k _ o n q h1 h2 h3 h4 h5 h6 r ax ay d.length cx t.length cy w).mono ?_
    rintro e w' ⟨S, rfl, hS, hb⟩
    have et : told ⟨k, r, d, u, o, n, q, t⟩ = { kind := 0, raw := ⟨#[]⟩, draws := [], now := 0, outcome := 0, n := 0, dir := 0, tails := [] } := by simp [told, h1, h2, h3, h4, h5, h6]
    exact ⟨S, _, rfl, by rw [hS]; simp [lineS, h1, h2, h3, h4, h5, h6], told_of rfl (by rw [et]) (by rw [et]) (by rw [et]; rfl) (by rw [et]) (by rw [et]) (by rw [et]) (by rw [et]; rfl) (by rw [et]; rfl), hb⟩
theorem extra169 : Builder.Extra Tryz.prog Tryz.lays169_ren where
  sizeBuilder := by kernel_rfl
  liesBuilder := by kernel_rfl
  t5 := Tryz.underlying5
  a5 := Tryz.isAgg5
  z5 := Tryz.sizeOf5
  v5 := Tryz.zeroValue5
  infoByte := by kernel_rfl
  cellsByte := by kernel_rfl
  sizeByte := by kernel_rfl
  neB5 := by decide
theorem builderAt_below {B b : Nat} {p : Value} {bs : List Value} {w w' : World} (h : BuilderAtF 83 5 B b p bs w) (hb : Below w.heap.size w w') : BuilderAtF 83 5 B b p bs w' := by
  have hlt := h.lt
  obtain ⟨hB, v, hv, hown, hne⟩ := h
  exact ⟨hB, v, (hb.block b hlt).trans hv, hown.kept (row := none) ⟨hb.os, hb.tape, hb.output, hb.size, fun k hk _ => hb.block k hk⟩ (Classical.em _), hne⟩
theorem builder_below {B b : Nat} {bs : List Value} {w w' : World} (h : IsBuilderF 83 5 B b bs w) (hb : Below w.heap.size w w') : IsBuilderF 83 5 B b bs w' :=
  h.elim (fun x => .inl (builderAt_below x hb)) (fun x => .inr (builderAt_below x hb))
theorem builderLen_calls (B b : Nat) (bs : List Value) (w : World) (h : IsBuilderF 83 5 B b bs w) :
    Calls Tryz.prog 39 #[.pointer (some ⟨b, 0, none⟩)] w fun e w' => e = .returned (.int .i64 bs.length) ∧ w' = w :=
  Any.Builder_Len_f Tryz.lays170 B b bs w h
theorem writeString_calls (B b : Nat) (bs : List Value) (s : ByteArray) (w : World) (h : IsBuilderF 83 5 B b bs w) (hlen : bs.length + s.size ≤ 140737488355328) (hBw : B ≤ w.heap.size) :
    Calls Tryz.prog 37 #[.pointer (some ⟨b, 0, none⟩), .string s] w fun e w' => e = .returned (.tuple #[.int .i64 s.size, .nilIface]) ∧ (BuilderAtF 83 5 B b (.pointer (some ⟨b, 0, none⟩)) (bs ++ strCells s) w' ∧ Below B w w' ∧ OthersKept 5 (some b) w w') :=
  Any.Builder_WriteString_k { Tryz.lays156 with } extra156 B b bs s w h hlen hBw
theorem builderString_calls (B b : Nat) (l : List UInt8) (w : World) (h : IsBuilderF 83 5 B b (byteCells l) w) (hBw : B ≤ w.heap.size) :
    Calls Tryz.prog 40 #[.pointer (some ⟨b, 0, none⟩)] w fun e w' => e = .returned (.string ⟨l.toArray⟩) ∧ (IsBuilderF 83 5 B b (byteCells l) w' ∧ Below B w w' ∧ OthersKept 5 (some b) w w') :=
  Any.Builder_String_any_k Tryz.lays169 extra169 B b l w h hBw
end Go.Proofs.YtbfoocginkdmcaaGreatDoor

/-
  The reference's line: numbers, and none.
-/

set_option maxHeartbeats 4000000
namespace Go.Proofs.YtbfoocginkdmcaaGreatDoor
open Go Go.RowKit Go.Basic Go.ArgS Go.Scr Go.Lib
end Go.Proofs.YtbfoocginkdmcaaGreatDoor

/-
  The reference's line: a request.
-/

namespace Go.Proofs.YtbfoocginkdmcaaGreatDoor
open Go Go.RowKit Go.Basic Go.ArgS Go.Scr Go.Lib
end Go.Proofs.YtbfoocginkdmcaaGreatDoor

/-
  The reference's line: a restart.
-/

namespace Go.Proofs.YtbfoocginkdmcaaGreatDoor
open Go Go.RowKit Go.Basic Go.ArgS Go.Scr Go.Lib
end Go.Proofs.YtbfoocginkdmcaaGreatDoor

/-
  The reference's line, of whatever kind.
-/

set_option maxHeartbeats 1000000
namespace Go.Proofs.YtbfoocginkdmcaaGreatDoor
open Go Go.RowKit Go.Basic Go.ArgS Go.Scr Go.Lib
end Go.Proofs.YtbfoocginkdmcaaGreatDoor

/-
  Slices of acts that came in.
-/

namespace Go.Proofs.YtbfoocginkdmcaaGreatDoor
open Go Go.RowKit Go.Basic Go.ArgS Go.Scr Go.Lib
def actCells (a : PAct) (ax : Option Addr) (cx : Nat) (ay : Option Addr) (cy : Nat) : List Value :=
  [.int .i64 a.kind, .string a.raw, .slice ax a.draws.length cx, .int .u64 (a.now : Int), .int .i64 a.outcome, .int .i64 a.n, .int .i64 a.dir, .slice ay a.tails.length cy]
def IsActs (w : World) (v : Value) (aa : List PAct) : Prop :=
  (∃ oa cap, v = .slice oa 0 cap ∧ aa = []) ∨ ∃ b off cap, v = .slice (some ⟨b, off, none⟩) aa.length cap ∧ ∀ (i : Nat) a, aa[i]? = some a → ∃ ax cx ay cy,
    (∀ (j : Nat) c, (actCells a ax cx ay cy)[j]? = some c → w.cell? ⟨b, off + i * 8 + j, none⟩ = some c) ∧ IsB w (.slice ax a.draws.length cx) a.draws ∧ IsSl w .i64 (.slice ay a.tails.length cy) a.tails
theorem IsActs.below {w w' : World} {v : Value} {aa : List PAct} (h : IsActs w v aa) (hb : Below w.heap.size w w') : IsActs w' v aa := by
  rcases h with h | ⟨b, off, cap, e, hc⟩
  · exact .inl h
  · refine .inr ⟨b, off, cap, e, fun i a hi => ?_⟩
    obtain ⟨ax, cx, ay, cy, h1, h2, h3⟩ := hc i a hi
    refine ⟨ax, cx, ay, cy, fun j c hj => ?_, h2.below hb, h3.below hb⟩
    have h4 := h1 j c hj
    exact (World.cell?_of_block (hb.block _ (World.block_lt_of_cell? w _ h4))).trans h4
theorem IsActs.slice {w : World} {v : Value} {aa : List PAct} (h : IsActs w v aa) : ∃ oa cap, v = .slice oa aa.length cap := by
  rcases h with ⟨oa, cap, rfl, rfl⟩ | ⟨b, off, cap, rfl, _⟩
  · exact ⟨_, _, rfl⟩
  · exact ⟨_, _, rfl⟩
theorem IsActs.at {w : World} {v : Value} {aa : List PAct} (h : IsActs w v aa) {k : Nat} {a : PAct} (hk : aa[k]? = some a) :
    ∃ b off cap ax cx ay cy, v = .slice (some ⟨b, off, none⟩) aa.length cap ∧ w.cell? ⟨b, off + k * 8, none⟩ = some (.int .i64 a.kind) ∧ w.cell? ⟨b, off + k * 8 + 1, none⟩ = some (.string a.raw) ∧ w.cell? ⟨b, off + k * 8 + 2, none⟩ = some (.slice ax a.draws.length cx) ∧
      w.cell? ⟨b, off + k * 8 + 3, none⟩ = some (.int .u64 (a.now : Int)) ∧ w.cell? ⟨b, off + k * 8 + 4, none⟩ = some (.int .i64 a.outcome) ∧ w.cell? ⟨b, off + k * 8 + 5, none⟩ = some (.int .i64 a.n) ∧ w.cell? ⟨b, off + k * 8 + 6, none⟩ = some (.int .i64 a.dir) ∧
      w.cell? ⟨b, off + k * 8 + 7, none⟩ = some (.slice ay a.tails.length cy) ∧ IsB w (.slice ax a.draws.length cx) a.draws ∧ IsSl w .i64 (.slice ay a.tails.length cy) a.tails := by
  rcases h with ⟨_, _, _, rfl⟩ | ⟨b, off, cap, rfl, hc⟩
  · simp at hk
  · obtain ⟨ax, cx, ay, cy, h1, h2, h3⟩ := hc k a hk
    exact ⟨b, off, cap, ax, cx, ay, cy, rfl, h1 0 _ rfl, h1 1 _ rfl, h1 2 _ rfl, h1 3 _ rfl, h1 4 _ rfl, h1 5 _ rfl, h1 6 _ rfl, h1 7 _ rfl, h2, h3⟩
end Go.Proofs.YtbfoocginkdmcaaGreatDoor

/-
  The reference's Print.
-/

set_option maxHeartbeats 4000000
namespace Go.Proofs.YtbfoocginkdmcaaGreatDoor
open Go Go.RowKit Go.Basic Go.ArgS Go.Scr Go.Lib
def PrintOut (w : World) (aa : List PAct) (e : Ending) (w' : World) : Prop := ∃ S : ByteArray, e = .returned (.tuple #[.string S, .int .i64 (printS aa).2]) ∧ S.data.toList = (printS aa).1 ∧ Below w.heap.size w w'
theorem script_take (aa : List PAct) (k : Nat) {a : PAct} (h : aa[k]? = some a) : script (aa.take (k + 1)) = script (aa.take k) ++ lineS a ++ [10] := by
  rw [List.take_add_one, h]
  simp [script]
theorem script_len_take (aa : List PAct) (k : Nat) : (script (aa.take k)).length ≤ (script aa).length := by
  have : aa = aa.take k ++ aa.drop k := (List.take_append_drop k aa).symm
  conv => rhs; rw [this]
  simp only [script, List.flatMap_append, List.length_append]
  omega
theorem mem_take_succ {aa : List PAct} {k : Nat} {a x : PAct} (h : aa[k]? = some a) (hx : x ∈ aa.take (k + 1)) : x ∈ aa.take k ∨ x = a := by
  rw [List.take_add_one, h] at hx
  simpa using hx
end Go.Proofs.YtbfoocginkdmcaaGreatDoor
