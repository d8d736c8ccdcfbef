/-
  parseLine of any line.
-/
import Derived.Test.YtbfoocginkdmcaaGreatDoorWH
import Derived.Test.YtbfoocginkdmcaaGreatDoorWI
import Derived.Test.YtbfoocginkdmcaaGreatDoorWE

set_option linter.unusedVariables false
set_option maxRecDepth 100000
namespace Go.Proofs.YtbfoocginkdmcaaGreatDoor
open Go Go.RowKit Go.ArgS Go.Basic Go.Scr Go.Lib
theorem cutAt_len (c : UInt8) : ∀ (l : List UInt8), ∀ p ∈ cutAt c l, p.length ≤ l.length
  | [], p, h => by
    simp [cutAt] at h
    subst h
    simp
  | x :: l, p, h => by
    have ih := cutAt_len c l
    unfold cutAt at h
    split at h
    · rcases List.mem_cons.1 h with rfl | h
      · simp
      · have := ih p h
        simp only [List.length_cons]
        omega
    · obtain ⟨q, r, hq⟩ := cutAt_cons c l
      rw [hq] at h ih
      rcases List.mem_cons.1 h with rfl | h
      · have := ih q (by simp)
        simp only [List.headD_cons, List.length_cons]
        omega
      · have := ih p (by simp at h ⊢; exact .inr h)
        simp only [List.length_cons]
        omega
theorem pieces_size (c : UInt8) (s : ByteArray) : ∀ x ∈ piecesB c s, x.size ≤ s.size := by
  intro x hx
  have h := cutAt_len c s.data.toList x.data.toList (by rw [← pieces_data]; exact List.mem_map.2 ⟨x, hx, rfl⟩)
  simpa using h
theorem pieces_count (c : UInt8) (s : ByteArray) : (piecesB c s).length ≤ s.size + 1 := by
  rw [pieces_length]
  have := countB_le ⟨#[c]⟩ (Nat.le_refl 1) s.size s (Nat.le_refl _)
  omega
theorem parseLine_calls (s : ByteArray) (hs : s.size ≤ 1048577) (w : World) (ht : Tab w) (he : Errs w) (hmx : ∀ W', Below w.heap.size w W' → ∃ m, W'.cell? ⟨1, 0, none⟩ = some (.int .i64 m)) :
    Calls Tryz.prog 25 #[.string s] w (LineOut w s.data.toList) := by
  have h1 := pieces_count 32 s
  have h2 := pieces_size 32 s
  have h3 := pieces_length 32 s
  cases hp : piecesB 32 s with
  | nil => rw [hp] at h3; simp at h3
  | cons k r =>
    rw [hp] at h1 h2
    have hs' : s.size ≤ 2000000 := by omega
    have hl : r.length ≤ 2000001 := by simp only [List.length_cons] at h1; omega
    have hl' : r.length ≤ 100000000 := by omega
    have hx : ∀ q ∈ r, q.size ≤ 2000000 := fun q hq => by have := h2 q (by simp [hq]); omega
    clear h1 h2 h3
    by_cases k0 : k.data.toList = [114, 101, 113, 117, 101, 115, 116]
    · match r, hp, hl', hx with
      | [], hp, hl', hx => exact line_request_nil s k hp k0 hs' hl' hx w ⟨ht, he, hmx⟩
      | x :: t, hp, hl', hx =>
        cases z1 : wordOf x.data.toList with
        | none => exact line_request_bad1 s k x t z1 hp k0 hs' hl' hx w ⟨ht, he, hmx⟩
        | some p1 =>
          match t, hp, hl', hx with
          | [], hp, hl', hx => exact line_request_one s k x p1 z1 hp k0 hs' hl' hx w ⟨ht, he, hmx⟩
          | y :: u, hp, hl', hx =>
            cases z2 : wordOf y.data.toList with
            | none => exact line_request_bad2 s k x y u p1 z1 z2 hp k0 hs' hl' hx w ⟨ht, he, hmx⟩
            | some p2 =>
              match u, hp, hl', hx with
              | [], hp, hl', hx => exact line_request_ok s k x y p1 z1 p2 z2 hp k0 hs' hl' hx w ⟨ht, he, hmx⟩
              | z :: v, hp, hl', hx => exact line_request_more s k x y z v p1 z1 p2 z2 hp k0 hs' hl' hx w ⟨ht, he, hmx⟩
    by_cases k1 : k.data.toList = [116, 105, 99, 107]
    · match r, hp, hl', hx with
      | [], hp, hl', hx => exact line_tick_nil s k hp k1 hs' hl' hx w ⟨ht, he, hmx⟩
      | x :: t, hp, hl', hx =>
        cases z1 : numOf x.data.toList with
        | none => exact line_tick_bad s k x t z1 hp k1 hs' hl' hx w ⟨ht, he, hmx⟩
        | some n =>
          match t, hp, hl', hx with
          | [], hp, hl', hx => exact line_tick_ok s k x n z1 hp k1 hs' hl' hx w ⟨ht, he, hmx⟩
          | y :: u, hp, hl', hx => exact line_tick_more s k x y u n z1 hp k1 hs' hl' hx w ⟨ht, he, hmx⟩
    by_cases k2 : k.data.toList = [112, 105, 110, 103]
    · match r, hp, hl', hx with
      | [], hp, hl', hx => exact line_ping_nil s k hp k2 hs' hl' hx w ⟨ht, he, hmx⟩
      | x :: t, hp, hl', hx =>
        cases z1 : zOf x.data.toList with
        | none => exact line_ping_bad s k x t z1 hp k2 hs' hl' hx w ⟨ht, he, hmx⟩
        | some n =>
          match t, hp, hl', hx with
          | [], hp, hl', hx => exact line_ping_ok s k x n z1 hp k2 hs' hl' hx w ⟨ht, he, hmx⟩
          | y :: u, hp, hl', hx => exact line_ping_more s k x y u n z1 hp k2 hs' hl' hx w ⟨ht, he, hmx⟩
    by_cases k3 : k.data.toList = [97, 114, 109]
    · match r, hp, hl', hx with
      | [], hp, hl', hx => exact line_arm_nil s k hp k3 hs' hl' hx w ⟨ht, he, hmx⟩
      | x :: t, hp, hl', hx =>
        cases z1 : zOf x.data.toList with
        | none => exact line_arm_bad s k x t z1 hp k3 hs' hl' hx w ⟨ht, he, hmx⟩
        | some n =>
          match t, hp, hl', hx with
          | [], hp, hl', hx => exact line_arm_ok s k x n z1 hp k3 hs' hl' hx w ⟨ht, he, hmx⟩
          | y :: u, hp, hl', hx => exact line_arm_more s k x y u n z1 hp k3 hs' hl' hx w ⟨ht, he, hmx⟩
    by_cases k4 : k.data.toList = [114, 101, 115, 116, 97, 114, 116]
    · match r, hp, hl, hl', hx with
      | [], hp, hl, hl', hx => exact line_restart_nil s k hp k4 hs' hl' hx w ⟨ht, he, hmx⟩
      | x :: t, hp, hl, hl', hx =>
        cases z1 : zOf x.data.toList with
        | none => exact line_restart_bad1 s k x t z1 hp k4 hs' hl' hx w ⟨ht, he, hmx⟩
        | some n =>
          match t, hp, hl, hl', hx with
          | [], hp, hl, hl', hx => exact line_restart_one s k x n z1 hp k4 hs' hl' hx w ⟨ht, he, hmx⟩
          | y :: u, hp, hl, hl', hx =>
            cases z2 : zOf y.data.toList with
            | none => exact line_restart_bad2 s k x y u n z1 z2 hp k4 hs' hl' hx w ⟨ht, he, hmx⟩
            | some q => exact line_restart s k x y u n q z1 z2 hp k4 hs' (by omega) hx w ⟨ht, he, hmx⟩
    by_cases k5 : k.data.toList = [99, 111, 109, 112, 97, 99, 116]
    · match r, hp, hl', hx with
      | [], hp, hl', hx => exact line_compact_ok s k hp k5 hs' hl' hx w ⟨ht, he, hmx⟩
      | y :: t, hp, hl', hx => exact line_compact_more s k y t hp k5 hs' hl' hx w ⟨ht, he, hmx⟩
    exact line_none s k r hp k0 k1 k2 k3 k4 k5 hs' hl' hx w ⟨ht, he, hmx⟩
end Go.Proofs.YtbfoocginkdmcaaGreatDoor

/-
  The server's Parse: what its loop carries.
-/

set_option maxHeartbeats 2000000
namespace Go.Proofs.YtbfoocginkdmcaaGreatDoor
open Go Go.RowKit Go.ArgS Go.Basic Go.Scr Go.Lib
theorem trim_strip (l : List UInt8) : trimSuffix l [10] = strip l := by
  unfold trimSuffix strip hasSuffix
  by_cases h : l.getLast? = some 10
  · obtain ⟨a, rfl⟩ := List.getLast?_eq_some_iff.1 h
    rw [if_pos h, if_pos (by simp [List.isSuffixOf_iff_suffix])]
    simp
  · rw [if_neg h, if_neg]
    intro e
    rw [List.isSuffixOf_iff_suffix] at e
    obtain ⟨a, ha⟩ := e
    apply h
    rw [← ha]
    simp
theorem OwnS.row {w w' : World} {B : Nat} {k : IntKind} {v : Value} {zs : List Int} {row : Option Nat} (h : OwnS w B k v zs) (g : w.grownBy w' row) (hne : ∀ j, v.ownBlock = some j → some j ≠ row) : OwnS w' B k v zs :=
  World.ownsRow.kept (row := row) h g (by
    cases h9 : v.ownBlock with
    | none => exact .inl rfl
    | some k => exact .inr (hne k h9))
theorem OwnS.lt {w : World} {B : Nat} {k : IntKind} {v : Value} {zs : List Int} (h : OwnS w B k v zs) : ∀ j, v.ownBlock = some j → B ≤ j ∧ j < w.heap.size := fun j hj => World.ownsRow.lt h j hj
structure Part (w : World) (lo hi : Nat) (row : Option Nat) (k : IntKind) (v : Value) (zs : List Int) : Prop where
  own : OwnS w lo k v zs
  hi : ∀ j, v.ownBlock = some j → j < hi ∧ some j ≠ row
theorem Part.row {w w' : World} {lo hi : Nat} {row r : Option Nat} {k : IntKind} {v : Value} {zs : List Int} (h : Part w lo hi row k v zs) (g : w.grownBy w' r) (hne : ∀ j, lo ≤ j → j < hi → some j ≠ row → some j ≠ r) : Part w' lo hi row k v zs :=
  ⟨h.own.row g fun j hj => hne j (h.own.lt j hj).1 (h.hi j hj).1 (h.hi j hj).2, h.hi⟩
theorem Part.re {w : World} {lo hi : Nat} {row row' : Option Nat} {k : IntKind} {v : Value} {zs : List Int} (h : Part w lo hi row k v zs) (hne : ∀ j, lo ≤ j → j < hi → some j ≠ row → some j ≠ row') : Part w lo hi row' k v zs :=
  ⟨h.own, fun j hj => ⟨(h.hi j hj).1, hne j (h.own.lt j hj).1 (h.hi j hj).1 (h.hi j hj).2⟩⟩
def ActAt (w : World) (lo hi : Nat) (row : Option Nat) (a : PAct) (cs : List Value) : Prop :=
  ∃ ax cx ay cy, cs = actCells a ax cx ay cy ∧ Part w lo hi row .u8 (.slice ax a.draws.length cx) (a.draws.map fun b => (b.toNat : Int)) ∧ Part w lo hi row .i64 (.slice ay a.tails.length cy) a.tails ∧ (ax = none ∨ ay = none)
def RowsA (w : World) (lo : Nat → Nat) (row : Option Nat) (aa : List PAct) (xs : List Value) : Prop :=
  xs.length = 8 * aa.length ∧ ∀ (i : Nat) a, aa[i]? = some a → ∃ cs, ActAt w (lo i) (lo (i + 1)) row a cs ∧ ∀ (j : Nat) c, cs[j]? = some c → xs[i * 8 + j]? = some c
theorem RowsA.nil (w : World) (lo : Nat → Nat) (row : Option Nat) : RowsA w lo row [] [] := ⟨rfl, fun i a h => by simp at h⟩
theorem RowsA.row {w w' : World} {lo : Nat → Nat} {row r : Option Nat} {aa : List PAct} {xs : List Value} (h : RowsA w lo row aa xs) (g : w.grownBy w' r) (hne : ∀ i j, i < aa.length → lo i ≤ j → j < lo (i + 1) → some j ≠ row → some j ≠ r) : RowsA w' lo row aa xs := by
  refine ⟨h.1, fun i a hi => ?_⟩
  obtain ⟨cs, ⟨ax, cx, ay, cy, h1, h2, h3, h4⟩, h5⟩ := h.2 i a hi
  have hil := (List.getElem?_eq_some_iff.1 hi).1
  exact ⟨cs, ⟨ax, cx, ay, cy, h1, h2.row g fun j => hne i j hil, h3.row g fun j => hne i j hil, h4⟩, h5⟩
theorem RowsA.re {w : World} {lo : Nat → Nat} {row row' : Option Nat} {aa : List PAct} {xs : List Value} (h : RowsA w lo row aa xs) (hne : ∀ i j, i < aa.length → lo i ≤ j → j < lo (i + 1) → some j ≠ row → some j ≠ row') : RowsA w lo row' aa xs := by
  refine ⟨h.1, fun i a hi => ?_⟩
  obtain ⟨cs, ⟨ax, cx, ay, cy, h1, h2, h3, h4⟩, h5⟩ := h.2 i a hi
  have hil := (List.getElem?_eq_some_iff.1 hi).1
  exact ⟨cs, ⟨ax, cx, ay, cy, h1, h2.re fun j => hne i j hil, h3.re fun j => hne i j hil, h4⟩, h5⟩
theorem RowsA.below {w w' : World} {lo : Nat → Nat} {row : Option Nat} {aa : List PAct} {xs : List Value} (h : RowsA w lo row aa xs) (hb : Below w.heap.size w w') : RowsA w' lo row aa xs :=
  h.row (grown_of_below none hb) (fun _ _ _ _ _ _ e => by cases e)
theorem RowsA.lo {w : World} {lo lo' : Nat → Nat} {row : Option Nat} {aa : List PAct} {xs : List Value} (h : RowsA w lo row aa xs) (he : ∀ i, i ≤ aa.length → lo' i = lo i) : RowsA w lo' row aa xs := by
  refine ⟨h.1, fun i a hi => ?_⟩
  have hil := (List.getElem?_eq_some_iff.1 hi).1
  rw [he i (by omega), he (i + 1) (by omega)]
  exact h.2 i a hi
theorem RowsA.push {w : World} {lo : Nat → Nat} {row : Option Nat} {aa : List PAct} {xs : List Value} (h : RowsA w lo row aa xs) (a : PAct) (cs : List Value) (ha : ActAt w (lo aa.length) (lo (aa.length + 1)) row a cs) : RowsA w lo row (aa ++ [a]) (xs ++ cs) := by
  have hcs : cs.length = 8 := by
    obtain ⟨ax, cx, ay, cy, rfl, _⟩ := ha
    rfl
  refine ⟨by rw [List.length_append, h.1, hcs, List.length_append]; show 8 * aa.length + 8 = 8 * (aa.length + 1); omega, fun i b hi => ?_⟩
  rcases Nat.lt_or_ge i aa.length with hlt | hge
  · rw [List.getElem?_append_left hlt] at hi
    obtain ⟨cs', h1, h2⟩ := h.2 i b hi
    refine ⟨cs', h1, fun j c hj => ?_⟩
    have h4 := h2 j c hj
    rw [List.getElem?_append_left (List.getElem?_eq_some_iff.1 h4).1]
    exact h4
  · rw [List.getElem?_append_right hge] at hi
    have h0 : i - aa.length = 0 := by
      rcases Nat.eq_zero_or_pos (i - aa.length) with h5 | h5
      · exact h5
      · rw [List.getElem?_eq_none (by simp; omega)] at hi; cases hi
    rw [h0] at hi
    cases hi
    obtain rfl : i = aa.length := by omega
    refine ⟨cs, ha, fun j c hj => ?_⟩
    rw [List.getElem?_append_right (by rw [h.1]; omega), show aa.length * 8 + j - xs.length = j by rw [h.1]; omega]
    exact hj
def NewActs (w : World) (B : Nat) (v : Value) (aa : List PAct) : Prop :=
  ∃ (lo : Nat → Nat) (xs : List Value), B ≤ lo 0 ∧ (∀ i, i < aa.length → lo i ≤ lo (i + 1)) ∧ lo aa.length ≤ w.heap.size ∧ w.ownsRow B 36 8 v aa.length xs ∧ RowsA w lo v.ownBlock aa xs
theorem rows_acts {w : World} {lo : Nat → Nat} {B : Nat} {v : Value} {aa : List PAct} {xs : List Value} (hown : w.ownsRow B 36 8 v aa.length xs) (h : RowsA w lo v.ownBlock aa xs) : IsActs w v aa := by
  rcases hown.2 with ⟨h0, h1⟩ | ⟨g, cap, cur, h0, _⟩
  · refine .inl ⟨none, 0, by rw [h0], ?_⟩
    exact List.eq_nil_of_length_eq_zero h1
  · refine .inr ⟨g, 0, cap, h0, fun i a hi => ?_⟩
    obtain ⟨cs, ⟨ax, cx, ay, cy, rfl, h2, h3, _⟩, h5⟩ := h.2 i a hi
    refine ⟨ax, cx, ay, cy, fun j c hj => ?_, h2.own.is, h3.own.is⟩
    have h4 := hown.cells (by rw [h0]; rfl) _ _ (h5 j c hj)
    have h6 : ((⟨g, 0, none⟩ : Addr).add (i * 8 + j)) = ⟨g, 0 + i * 8 + j, none⟩ := by
      have h9 : (⟨g, 0, none⟩ : Addr).add (i * 8 + j) = ⟨g, 0 + (i * 8 + j), none⟩ := by simp [Addr.add]; omega
      rw [h9, Nat.add_assoc]
    rw [h6] at h4
    exact h4
theorem NewActs.acts {w : World} {B : Nat} {v : Value} {aa : List PAct} (h : NewActs w B v aa) : IsActs w v aa := by
  obtain ⟨lo, xs, _, _, _, h1, h2⟩ := h
  exact rows_acts h1 h2
def ParseOut (w : World) (l : List UInt8) (e : Ending) (w' : World) : Prop :=
  ∃ v, e = .returned (.tuple #[v, .int .i64 (parseS l).2.1, .int .i64 (parseS l).2.2]) ∧ NewActs w' w.heap.size v (parseS l).1 ∧ Below w.heap.size w w'
theorem NewActs.nil (w : World) (B : Nat) (hB : B ≤ w.heap.size) : NewActs w B (.slice none 0 0) [] := ⟨fun _ => B, [], Nat.le_refl _, fun _ _ => Nat.le_refl _, hB, World.ownsRow_nil _ _ _ _, RowsA.nil _ _ _⟩
end Go.Proofs.YtbfoocginkdmcaaGreatDoor

/-
  The server's Parse.
-/

set_option maxHeartbeats 4000000
namespace Go.Proofs.YtbfoocginkdmcaaGreatDoor
open Go Go.RowKit Go.ArgS Go.Basic Go.Scr Go.Lib
theorem own_monoG {w : World} {B B' : Nat} {e : TypeId} {size : Nat} {v : Value} {n : Nat} {xs : List Value} (h : w.ownsRow B e size v n xs) (hB : B' ≤ B) : w.ownsRow B' e size v n xs := by
  refine ⟨h.1, ?_⟩
  rcases h.2 with hn | ⟨g, cap, cur, rfl, hb, rest⟩
  · exact .inl hn
  · exact .inr ⟨g, cap, cur, rfl, Nat.le_trans hB hb, rest⟩
theorem line_bad (s : ByteArray) (hs : s.size ≤ 1048577) (w : World) (ht : Tab w) (he : Errs w) (hmx : ∀ W', Below w.heap.size w W' → ∃ m, W'.cell? ⟨1, 0, none⟩ = some (.int .i64 m)) (hl : ofLine s.data.toList = none) :
    Calls Tryz.prog 25 #[.string s] w fun e w' => ∃ (k t o n q : Int) (s : ByteArray) (ax : Option Addr) (lx cx : Nat) (ay : Option Addr) (ly cy : Nat),
      e = .returned (.tuple #[.agg #[.int .i64 k, .string s, .slice ax lx cx, .int .u64 t, .int .i64 o, .int .i64 n, .int .i64 q, .slice ay ly cy], .bool false]) ∧ Below w.heap.size w w' := by
  refine (parseLine_calls s hs w ht he hmx).mono fun e w' h => ?_
  obtain ⟨k, t, o, n, q, s', ax, lx, cx, ay, ly, cy, h1, h2, _⟩ := h
  rw [hl] at h1
  exact ⟨k, t, o, n, q, s', ax, lx, cx, ay, ly, cy, h1, h2⟩
theorem line_good (s : ByteArray) (hs : s.size ≤ 1048577) (w : World) (ht : Tab w) (he : Errs w) (hmx : ∀ W', Below w.heap.size w W' → ∃ m, W'.cell? ⟨1, 0, none⟩ = some (.int .i64 m)) (A : PAct) (hl : ofLine s.data.toList = some A) :
    Calls Tryz.prog 25 #[.string s] w fun e w' => ∃ ax cx ay cy, e = .returned (.tuple #[.agg #[.int .i64 A.kind, .string A.raw, .slice ax A.draws.length cx, .int .u64 (A.now : Int), .int .i64 A.outcome, .int .i64 A.n, .int .i64 A.dir, .slice ay A.tails.length cy], .bool true]) ∧ ActAt w' w.heap.size w'.heap.size none A (actCells A ax cx ay cy) ∧ Below w.heap.size w w' := by
  refine (parseLine_calls s hs w ht he hmx).mono fun e w' h => ?_
  obtain ⟨k, t, o, n, q, s', ax, lx, cx, ay, ly, cy, h1, h2, h3⟩ := h
  obtain ⟨rfl, rfl, rfl, rfl, rfl, rfl, rfl, rfl, h4, h5, h6⟩ := h3 A hl
  rw [hl] at h1
  exact ⟨ax, cx, ay, cy, h1, ⟨ax, cx, ay, cy, rfl, ⟨h4, fun j hj => ⟨(h4.lt j hj).2, by simp⟩⟩, ⟨h5, fun j hj => ⟨(h5.lt j hj).2, by simp⟩⟩, h6⟩, h2⟩
theorem goL_none {p : List UInt8} {t : List (List UInt8)} {n : Nat} {acc : List PAct} (h : ofLine p = none) : goL (p :: t) n acc = ([], 170, (n : Int) + 1) := by
  unfold goL
  rw [h]
theorem goL_many {p : List UInt8} {t : List (List UInt8)} {n : Nat} {acc : List PAct} {A : PAct} (h : ofLine p = some A) (h4 : acc.length = 4096) : goL (p :: t) n acc = ([], 32, (n : Int) + 1) := by
  unfold goL
  rw [h]
  simp only
  rw [if_pos h4]
theorem goL_some {p : List UInt8} {t : List (List UInt8)} {n : Nat} {acc : List PAct} {A : PAct} (h : ofLine p = some A) (h4 : acc.length ≠ 4096) : goL (p :: t) n acc = goL t (n + 1) (acc ++ [A]) := by
  conv => lhs; unfold goL
  rw [h]
  simp only
  rw [if_neg h4]
theorem act_oneG (a : PAct) (ax : Option Addr) (cx : Nat) (ay : Option Addr) (cy : Nat) : ∀ u ∈ actCells a ax cx ay cy, u.oneCell' = true := act_one a ax ay cx cy
theorem ActAt.row {w w' : World} {lo hi : Nat} {row r r' : Option Nat} {a : PAct} {cs : List Value} (h : ActAt w lo hi row a cs) (g : w.grownBy w' r) (hne : ∀ j, lo ≤ j → j < hi → some j ≠ r ∧ some j ≠ r') : ActAt w' lo hi r' a cs := by
  obtain ⟨ax, cx, ay, cy, h1, h2, h3, h4⟩ := h
  exact ⟨ax, cx, ay, cy, h1, (h2.row g fun j a b _ => (hne j a b).1).re fun j a b _ => (hne j a b).2, (h3.row g fun j a b _ => (hne j a b).1).re fun j a b _ => (hne j a b).2, h4⟩
theorem mono_chain {lo : Nat → Nat} {n : Nat} (hm : ∀ i, i < n → lo i ≤ lo (i + 1)) : ∀ i, i ≤ n → lo i ≤ lo n ∧ lo 0 ≤ lo i := by
  intro i hi
  constructor
  · induction n with
    | zero =>
      obtain rfl : i = 0 := by omega
      exact Nat.le_refl _
    | succ n ih =>
      rcases Nat.lt_or_ge i (n + 1) with h | h
      · exact Nat.le_trans (ih (fun j hj => hm j (by omega)) (by omega)) (hm n (by omega))
      · obtain rfl : i = n + 1 := by omega
        exact Nat.le_refl _
  · induction i with
    | zero => exact Nat.le_refl _
    | succ i ih => exact Nat.le_trans (ih (by omega)) (hm i (by omega))
theorem Part.mono {w : World} {lo lo' hi : Nat} {row : Option Nat} {k : IntKind} {v : Value} {zs : List Int} (h : Part w lo hi row k v zs) (hl : lo' ≤ lo) : Part w lo' hi row k v zs := ⟨h.own.mono hl, h.hi⟩
theorem rows_next {B : Nat} {wr w2 w4 w5 : World} {lo : Nat → Nat} {acc : List PAct} {xs : List Value} {j : Nat} {va : Option Addr} {vc : Nat} {A : PAct} {ax : Option Addr} {cx : Nat} {ay : Option Addr} {cy : Nat} {g : Nat}
    (hown : wr.ownsRow B 36 8 (.slice va j vc) j xs) (hrows : RowsA wr lo (Value.slice va j vc).ownBlock acc xs) (hal : acc.length = j) (hlo : B ≤ lo 0 ∧ (∀ i, i < acc.length → lo i ≤ lo (i + 1)) ∧ lo acc.length ≤ wr.heap.size)
    (hat : ActAt w2 wr.heap.size w2.heap.size none A (actCells A ax cx ay cy)) (bel2 : Below wr.heap.size wr w2) (b4 : Below w2.heap.size w2 w4) (hg : w4.grownBy w5 (Value.slice va j vc).ownBlock) (h5 : (Value.slice va j vc).ownBlock = some g ∨ g = w4.heap.size) :
    ∃ lo', (B ≤ lo' 0 ∧ (∀ i, i < (acc ++ [A]).length → lo' i ≤ lo' (i + 1)) ∧ lo' (acc ++ [A]).length ≤ w5.heap.size) ∧ RowsA w5 lo' (some g) (acc ++ [A]) (xs ++ actCells A ax cx ay cy) := by
  subst hal
  obtain ⟨l0, lm, ll⟩ := hlo
  have s2 := bel2.size
  have s4 := b4.size
  have s5 := hg.size
  have ch := mono_chain lm
  refine ⟨fun i => if i ≤ acc.length then lo i else w2.heap.size, ⟨by simpa using l0, fun i hi => ?_, ?_⟩, ?_⟩
  · rw [List.length_append] at hi
    simp only [List.length_cons, List.length_nil] at hi
    by_cases h : i < acc.length
    · simp only [show i ≤ acc.length by omega, show i + 1 ≤ acc.length by omega, if_true]
      exact lm i h
    · obtain rfl : i = acc.length := by omega
      simp only [Nat.le_refl, if_true, show ¬ acc.length + 1 ≤ acc.length by omega, if_false]
      omega
  · rw [List.length_append]
    simp only [List.length_cons, List.length_nil, show ¬ acc.length + (0 + 1) ≤ acc.length by omega, if_false]
    omega
  · have r1 := ((hrows.below bel2).below b4).row hg (fun _ _ _ _ _ h => h)
    have r2 : RowsA w5 lo (some g) acc xs := r1.re fun i k hi h1 h2 h3 => by
      rcases h5 with h5 | h5
      · rw [← h5]; exact h3
      · have := (ch (i + 1) (by omega)).1
        intro e
        cases e
        omega
    refine RowsA.push (r2.lo fun i hi => by simp only [hi, if_true]) A _ ?_
    simp only [Nat.le_refl, if_true, show ¬ acc.length + 1 ≤ acc.length by omega, if_false]
    have a4 : ActAt w4 wr.heap.size w2.heap.size none A (actCells A ax cx ay cy) := hat.row (grown_of_below none b4) fun k _ _ => ⟨by simp, by simp⟩
    have a5 : ActAt w5 wr.heap.size w2.heap.size (some g) A (actCells A ax cx ay cy) := a4.row hg fun k h1 h2 => by
      have hk : some k ≠ (Value.slice va acc.length vc).ownBlock := by
        intro e
        have := (hown.lt k e.symm).2
        omega
      refine ⟨hk, ?_⟩
      rcases h5 with h5 | h5
      · rw [← h5]; exact hk
      · intro e
        cases e
        omega
    obtain ⟨ax', cx', ay', cy', h1, h2, h3, h4⟩ := a5
    exact ⟨ax', cx', ay', cy', h1, h2.mono ll, h3.mono ll, h4⟩
theorem split_facts {w w1 : World} {ls : List ByteArray} (hw1 : w1 = w.alloc (.cells (ls.map Value.string).toArray 9)) :
    Below w.heap.size w w1 ∧ (∀ (j : Nat) x, ls[j]? = some x → w1.cell? ⟨w.heap.size, j, none⟩ = some (.string x)) ∧ w.heap.size < w1.heap.size := by
  subst hw1
  refine ⟨(Below.refl _ _).alloc (Nat.le_refl _) _, fun j x hj => ?_, by simp⟩
  exact (Box.new w (ls.map Value.string).toArray 9).at j (v := .string x) (by simp [hj])
theorem parse_calls (s : ByteArray) (w : World) (ht : Tab w) (he : Errs w) (hmx : ∀ W', Below w.heap.size w W' → ∃ m, W'.cell? ⟨1, 0, none⟩ = some (.int .i64 m)) :
    Calls Tryz.prog 7 #[.string s] w (ParseOut w s.data.toList) := by
  obtain ⟨i0, hi, hz0, hz1, hz2⟩ := info_parts inf36
  have hsl : s.data.toList.length = s.size := by simp
  by_cases hlen : 1048576 < s.size
  · have hlen' : (1048576 : Int) < (s.size : Int) := by omega
    have hP : parseS s.data.toList = ([], 1, 0) := by unfold parseS; rw [if_pos (by omega)]
    go_enter Tryz.func7, Tryz.ntmps7
    go_wp2
    go_ret3
    unfold ParseOut
    rw [hP]
    exact ⟨_, rfl, NewActs.nil _ _ (Nat.le_refl _), Below.refl _ _⟩
  · have hlen' : ¬ (1048576 : Int) < (s.size : Int) := by omega
    by_cases h0 : s = ⟨#[]⟩
    · have hl0 : s.data.toList = [] := by rw [h0]
      have ht0 : (s.toList == []) = true := by rw [ByteArray.toList_eq, hl0]; rfl
      have ht1 : s.toList.isEmpty = true := by rw [ByteArray.toList_eq, hl0]; rfl
      have hP : Hid (parseS s.data.toList = ([], 0, 0)) := by
        show _ = _
        rw [hl0]
        rfl
      clear h0 hl0
      go_enter Tryz.func7, Tryz.ntmps7
      go_wp2
      go_ret3
      unfold ParseOut
      rw [show parseS s.data.toList = _ from hP]
      exact ⟨_, rfl, NewActs.nil _ _ (Nat.le_refl _), Below.refl _ _⟩
    · have hl0 : s.data.toList ≠ [] := by
        intro e
        apply h0
        cases s with
        | mk d => congr; exact Array.toList_inj.1 e
      have ht0 : (s.toList == []) = false := by
        rw [ByteArray.toList_eq, beq_eq_false_iff_ne]
        exact hl0
      have ht1 : s.toList.isEmpty = false := by
        rw [ByteArray.toList_eq]
        simpa using hl0
      have ht2 : ¬ s.toList = [] := by
        rw [ByteArray.toList_eq]
        exact hl0
      obtain ⟨S1, hS1⟩ : ∃ S1 : ByteArray, S1 = ⟨(trimSuffix s.data.toList [10]).toArray⟩ := ⟨_, rfl⟩
      have hS1l : S1.data.toList = strip s.data.toList := by rw [hS1, ← trim_strip]
      have hS1s : S1.size ≤ 1048576 := by
        have h1 := trimSuffix_le s.data.toList [10]
        have h2 : S1.data.toList.length = S1.size := by simp
        rw [← h2, hS1l, ← trim_strip]
        omega
      have htrim := fun W => trim_calls s (by omega) W
      rw [← hS1] at htrim
      obtain ⟨ls, hls⟩ : ∃ ls, ls = piecesB 10 S1 := ⟨_, rfl⟩
      have hsp := split_calls 10 S1 (by omega) w (hmx _ (Below.refl _ _))
      rw [← hls] at hsp
      have hlc : ls.length ≤ 1048577 := by rw [hls]; have := pieces_count 10 S1; omega
      have hlx : ∀ x ∈ ls, x.size ≤ 1048577 := by rw [hls]; intro x hx; have := pieces_size 10 S1 x hx; omega
      have hlm : ls.map (·.data.toList) = cutAt 10 (strip s.data.toList) := by rw [hls, pieces_data, hS1l]
      have hP : Hid (parseS s.data.toList = goL (ls.map (·.data.toList)) 0 []) := by
        show _ = _
        unfold parseS goRest
        rw [if_neg (by omega), if_neg hl0, hlm]
      have hlcI : (ls.length : Int) ≤ 1048577 := by omega
      clear hls hlm hS1 hS1l hS1s hl0 h0
      go_enter Tryz.func7, Tryz.ntmps7
      go_wp2_with (first
        | (go_at_call 24; refine (htrim _).mono ?_; clear htrim; rintro e w0 ⟨rfl, hw0⟩; rw [hw0])
        | (go_at_call 23; refine hsp.mono ?_; clear hsp; rintro e w1 ⟨rfl, hw1⟩; (obtain ⟨b1, hcl, hl1⟩ := split_facts hw1); clear hw1))
      go_loopw [5, 19] (fun vo i wr => ∃ (j : Nat) (acc : List PAct) (xs : List Value) (lo : Nat → Nat), j ≤ ls.length ∧ i = .int .i64 j ∧ Hid (acc.length = j) ∧ j ≤ 4096 ∧ Hid (w1.heap.size ≤ lo 0 ∧ (∀ i, i < acc.length → lo i ≤ lo (i + 1)) ∧ lo acc.length ≤ wr.heap.size) ∧ wr.ownsRow w1.heap.size 36 8 vo j xs ∧ RowsA wr lo vo.ownBlock acc xs ∧ Below w1.heap.size w1 wr ∧ Hid (goL (ls.map (·.data.toList)) 0 [] = goL ((ls.drop j).map (·.data.toList)) j acc)) (fun _ i _ => ls.length - (RowKit.intOf i).toNat)
      case atStart => exact ⟨0, [], [], fun _ => w1.heap.size, Nat.zero_le _, rfl, rfl, by omega, ⟨Nat.le_refl _, fun _ _ => Nat.le_refl _, Nat.le_refl _⟩, World.ownsRow_nil _ _ _ _, RowsA.nil _ _ _, Below.refl _ _, rfl⟩
      case round =>
        obtain ⟨j, acc, xs, lo, hj, rfl, hal, hj4, hlo, hown, hrows, hbw, hgo⟩ := hrel
        have bwr : Below w.heap.size w wr := b1.trans (hbw.mono b1.size)
        have hgo' : goL (ls.map (·.data.toList)) 0 [] = goL ((ls.drop j).map (·.data.toList)) j acc := hgo
        have hal' : acc.length = j := hal
        obtain ⟨va, vc, rfl⟩ := own_slice8 hown
        by_cases hlt : j < ls.length
        · have hlt' : (j : Int) < (ls.length : Int) := by omega
          obtain ⟨x, hx⟩ : ∃ x, x = ls[j] := ⟨_, rfl⟩
          have hxj : ls[j]? = some x := by rw [List.getElem?_eq_getElem hlt, hx]
          have hxs := hlx x (List.mem_of_getElem? hxj)
          have hcx : wr.cell? ⟨w.heap.size, j, none⟩ = some (.string x) := (hbw.cell (p := ⟨w.heap.size, j, none⟩) hl1).trans (hcl j x hxj)
          have hdr : ls.drop j = x :: ls.drop (j + 1) := by rw [hx]; exact List.drop_eq_getElem_cons hlt
          rw [hdr, List.map_cons] at hgo'
          have htW := tab_below ht bwr
          have heW := errs_below he bwr
          have hmW : ∀ W', Below wr.heap.size wr W' → ∃ m, W'.cell? ⟨1, 0, none⟩ = some (.int .i64 m) := fun W' h => hmx W' (bwr.trans (h.mono bwr.size))
          clear hx hxj hdr hcl hgo
          cases hA : ofLine x.data.toList with
          | none =>
            rw [goL_none hA] at hgo'
            have hPP : Hid (parseS s.data.toList = ([], 170, (j : Int) + 1)) := (show parseS s.data.toList = _ from hP).trans hgo'
            have hf := line_bad x hxs wr htW heW hmW hA
            clear hA hgo' hP hal hal'
            go_wp2_with (go_at_call 25; refine hf.mono ?_; clear hf; rintro e w2 ⟨k, t, o, n, q, s', ax, lx, cx, ay, ly, cy, rfl, bel2⟩)
            go_ret3
            unfold ParseOut
            have b9 : Below w.heap.size w w2 := bwr.trans (bel2.mono bwr.size)
            rw [show parseS s.data.toList = _ from hPP]
            exact ⟨_, rfl, NewActs.nil _ _ (by have := b9.size; simp; omega), b9.alloc b9.size _⟩
          | some A =>
            have hf := line_good x hxs wr htW heW hmW A hA
            by_cases h4 : j = 4096
            · subst h4
              rw [goL_many hA hal'] at hgo'
              have hPP : Hid (parseS s.data.toList = ([], 32, ((4096 : Nat) : Int) + 1)) := (show parseS s.data.toList = _ from hP).trans hgo'
              clear hA hgo' hP hal hal'
              go_wp2_with (go_at_call 25; refine hf.mono ?_; clear hf; rintro e w2 ⟨ax, cx, ay, cy, rfl, hat, bel2⟩)
              go_ret3
              unfold ParseOut
              have b9 : Below w.heap.size w w2 := bwr.trans (bel2.mono bwr.size)
              rw [show parseS s.data.toList = _ from hPP]
              exact ⟨_, rfl, NewActs.nil _ _ (by have := b9.size; simp; omega), b9.alloc b9.size _⟩
            · rw [goL_some hA (by omega)] at hgo'
              have h4I : ¬ (j : Int) = 4096 := by omega
              have h4b : ((j : Int) == 4096) = false := by simpa using h4I
              have hgo2 : Hid (goL (ls.map (·.data.toList)) 0 [] = goL ((ls.drop (j + 1)).map (·.data.toList)) (j + 1) (acc ++ [A])) := hgo'
              have hal2 : Hid ((acc ++ [A]).length = j + 1) := by
                show _ = _
                rw [List.length_append, hal']
                rfl
              clear hA hgo'
              go_wp2_with (first
                | (go_at_call 25; refine hf.mono ?_; clear hf; rintro e w2 ⟨ax, cx, ay, cy, rfl, hat, bel2⟩)
                | (at_builtin; generalize hX : wpList _ _ _ _ _ _ = X))
              rw [← hX]
              clear hX
              have bA : Below w2.heap.size w2 ((w2.alloc (.cells (actCells A ax cx ay cy).toArray 36)).alloc (.cells (actCells A ax cx ay cy).toArray 36)) := ((Below.refl _ _).alloc (Nat.le_refl _) _).alloc (by simp) _
              have sz1 := hbw.size
              have sz2 := bel2.size
              refine wpList_append_lies _ rfl _ _ 22 rfl w1.heap.size 36 i0 _ 8 104 Tryz.underlying22 hi hz0 hz1 hz2 rfl (by decide) (.slice va j vc) j xs rfl (((own_belowS hown bel2).alloc _).alloc _) ⟨w2.heap.size + 1, 0, none⟩ 1 1 (actCells A ax cx ay cy) rfl rfl ?_ (act_oneG _ _ _ _ _) (by decide) (by unfold maxLen; omega) (by omega) (by simp; omega) _ rfl ?_
              · intro j' u hj'
                have hc := (Box.new (w2.alloc (.cells (actCells A ax cx ay cy).toArray 36)) (actCells A ax cx ay cy).toArray 36).2.1 j'
                simp only [World.size_alloc] at hc
                rw [show (⟨w2.heap.size + 1, 0, none⟩ : Addr).add j' = ⟨w2.heap.size + 1, j', none⟩ by (simp [Addr.add]; try omega)]
                exact hc.trans hj'
              · intro g cap2 w5 hown5 hg5 hat5 hlt5
                obtain ⟨lo', hlo2, hrows2⟩ := rows_next hown hrows hal' (show _ ∧ _ ∧ _ from hlo) hat bel2 bA hg5 hat5
                have hb5 : Below w1.heap.size w1 w5 := (((hbw.trans (bel2.mono hbw.size)).alloc (Nat.le_trans hbw.size bel2.size) _).alloc (by simp; omega) _).grown hg5 (by simp; omega) fun g hg => (hown.lt g hg).1
                have hlo3 : Hid (w1.heap.size ≤ lo' 0 ∧ (∀ i, i < (acc ++ [A]).length → lo' i ≤ lo' (i + 1)) ∧ lo' (acc ++ [A]).length ≤ w5.heap.size) := hlo2
                clear hg5 hat5 hown hrows hlo hlo2 hat bA hal' hal
                go_wp2
                refine ⟨⟨j + 1, acc ++ [A], _, lo', hlt, (by first | rfl | simp), hal2, by omega, hlo3, hown5, hrows2, hb5, hgo2⟩, ?_⟩
                simp only [RowKit.intOf]
                omega
        · have hge : ¬ (j : Int) < (ls.length : Int) := by omega
          obtain rfl : j = ls.length := by omega
          rw [List.drop_length] at hgo'
          have hPP : Hid (parseS s.data.toList = (acc, 0, 0)) := (show parseS s.data.toList = _ from hP).trans hgo'
          have hlo' := show w1.heap.size ≤ lo 0 ∧ (∀ i, i < acc.length → lo i ≤ lo (i + 1)) ∧ lo acc.length ≤ wr.heap.size from hlo
          have hN : NewActs wr w.heap.size (.slice va ls.length vc) acc := ⟨lo, xs, Nat.le_trans b1.size hlo'.1, hlo'.2.1, hlo'.2.2, by rw [hal']; exact own_monoG hown b1.size, hrows⟩
          clear hgo' hgo hP hal' hal
          go_wp2
          go_ret3
          unfold ParseOut
          rw [show parseS s.data.toList = _ from hPP]
          exact ⟨_, rfl, hN, bwr⟩
end Go.Proofs.YtbfoocginkdmcaaGreatDoor
