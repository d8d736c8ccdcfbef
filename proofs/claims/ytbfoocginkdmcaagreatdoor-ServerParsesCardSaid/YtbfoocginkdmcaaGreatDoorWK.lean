/-
  ServerParses under its live(): the law's function answers true.
-/
import Derived.Deep.RegionHeld3
import Derived.Test.YtbfoocginkdmcaaGreatDoorWJ
import Derived.Test.YtbfoocginkdmcaaGreatDoorWH
import Derived.Test.YtbfoocginkdmcaaGreatDoorWA

set_option linter.unusedVariables false
set_option maxRecDepth 100000
set_option maxHeartbeats 8000000
namespace Go.Proofs.YtbfoocginkdmcaaGreatDoor
open Go Go.RowKit Go.Basic Go.ArgS Go.Scr Go.Lib
theorem zsU_len : ∀ (l : List (List UInt8)) (v : List Int), zsU l = some v → v.length = l.length
  | [], v, h => by cases h; rfl
  | c :: t, v, h => by
    cases hc : zOf c with
    | none => rw [zs_none hc] at h; cases h
    | some n =>
      rw [zs_some hc] at h
      cases ht : zsU t with
      | none => rw [ht] at h; cases h
      | some u =>
        rw [ht] at h
        cases h
        simp [zsU_len t u ht]
theorem cutAt_count (c : UInt8) : ∀ (l : List UInt8), (cutAt c l).length ≤ l.length + 1
  | [] => by simp [cutAt]
  | x :: l => by
    have ih := cutAt_count c l
    unfold cutAt
    split
    · simp only [List.length_cons]
      omega
    · obtain ⟨p, r, hp⟩ := cutAt_cons c l
      rw [hp] at ih ⊢
      simp only [List.length_cons, List.tail_cons] at ih ⊢
      omega
theorem wordOf_len {l d : List UInt8} (h : wordOf l = some d) : d.length ≤ 65536 := by
  unfold wordOf at h
  split at h
  · cases h; simp
  · split at h
    · rename_i b hb
      split at h
      · cases h
      · cases h
        exact (dec64_len hb).2
    · cases h
def SmallA (m : Nat) (a : PAct) : Prop := a.draws.length ≤ 65536 ∧ a.tails.length ≤ m
theorem ofLine_small {l : List UInt8} {a : PAct} (h : ofLine l = some a) : SmallA (l.length + 1) a := by
  unfold ofLine at h
  obtain ⟨kb, rb, hc⟩ := cutAt_cons 32 l
  have hl := cutAt_count 32 l
  rw [hc] at h hl
  simp only [List.length_cons] at hl
  change (if kb = wRequest then ofRequest rb else if kb = wTick then ofTick rb else if kb = wPing then ofPing rb else if kb = wArm then ofArm rb else if kb = wRestart then ofRestart rb else if kb = wCompact then (if rb = [] then some act6 else none) else none) = some a at h
  unfold SmallA
  split at h
  · unfold ofRequest at h
    split at h
    · split at h
      · rename_i d r h1 h2
        cases h
        exact ⟨wordOf_len h1, by simp [act1]⟩
      · cases h
    · cases h
  · split at h
    · unfold ofTick at h
      split at h
      · rename_i x
        cases hn : numOf x with
        | none => rw [hn] at h; cases h
        | some n => rw [hn] at h; cases h; simp [act2]
      · cases h
    · split at h
      · unfold ofPing at h
        split at h
        · rename_i x
          cases hn : zOf x with
          | none => rw [hn] at h; cases h
          | some n => rw [hn] at h; cases h; simp [act3]
        · cases h
      · split at h
        · unfold ofArm at h
          split at h
          · rename_i x
            cases hn : zOf x with
            | none => rw [hn] at h; cases h
            | some n => rw [hn] at h; cases h; simp [act4]
          · cases h
        · split at h
          · unfold ofRestart at h
            rw [zs_mapM] at h
            split at h
            · rename_i n q ts hz
              cases h
              have := zsU_len _ _ hz
              simp only [List.length_cons] at this
              exact ⟨by simp [act5], by show ts.length ≤ _; omega⟩
            · cases h
          · split at h
            · split at h
              · cases h; simp [act6]
              · cases h
            · cases h
theorem goL_small {m : Nat} : ∀ (ls : List (List UInt8)) (n : Nat) (acc : List PAct), (∀ p ∈ ls, p.length + 1 ≤ m) → (∀ a ∈ acc, SmallA m a) → ∀ a ∈ (goL ls n acc).1, SmallA m a
  | [], n, acc, _, ha => ha
  | s :: t, n, acc, hl, ha => by
    unfold goL
    cases h : ofLine s with
    | none => intro a h; cases h
    | some A =>
      simp only
      split
      · intro a h; cases h
      · refine goL_small t (n + 1) (acc ++ [A]) (fun p hp => hl p (by simp [hp])) fun a h' => ?_
        rcases List.mem_append.1 h' with h' | h'
        · exact ha a h'
        · simp at h'
          subst h'
          have h1 := ofLine_small h
          have h2 := hl s (by simp)
          exact ⟨h1.1, by have := h1.2; omega⟩
theorem goL_len : ∀ (ls : List (List UInt8)) (n : Nat) (acc : List PAct), (goL ls n acc).1.length ≤ acc.length + ls.length
  | [], n, acc => by simp [goL]
  | s :: t, n, acc => by
    unfold goL
    cases h : ofLine s with
    | none => simp
    | some A =>
      simp only
      split
      · simp
      · have := goL_len t (n + 1) (acc ++ [A])
        rw [List.length_append] at this
        simp only [List.length_cons, List.length_nil] at this ⊢
        omega
theorem parseS_len (l : List UInt8) : (parseS l).1.length ≤ 2000000 := by
  unfold parseS
  split
  · simp
  · unfold goRest
    split
    · simp
    · have h1 := goL_len (cutAt 10 (strip l)) 0 []
      have h2 := cutAt_count 10 (strip l)
      have h3 : (strip l).length ≤ l.length := by
        unfold strip
        split
        · rw [List.length_dropLast]; omega
        · exact Nat.le_refl _
      simp only [List.length_nil] at h1
      omega
theorem OwnS.bytes {w : World} {B : Nat} {v : Value} {l : List UInt8} (h : OwnS w B .u8 v (l.map fun b => (b.toNat : Int))) : w.ownsRow B 5 1 v l.length ((l.map fun b => (b.toNat : Int)).map (Value.int .u8)) := by
  have h' : w.ownsRow B 5 1 v (l.map fun b => (b.toNat : Int)).length ((l.map fun b => (b.toNat : Int)).map (Value.int .u8)) := h
  rw [List.length_map] at h'
  exact h'
theorem parseS_small (l : List UInt8) : ∀ a ∈ (parseS l).1, SmallA 1048577 a := by
  unfold parseS
  split
  · intro a h; cases h
  · rename_i hl
    unfold goRest
    split
    · intro a h; cases h
    · refine goL_small _ _ _ (fun p hp => ?_) (fun a h => by cases h)
      have h1 := cutAt_len 10 (strip l) p hp
      have h2 : (strip l).length ≤ l.length := by
        unfold strip
        split
        · rw [List.length_dropLast]; omega
        · exact Nat.le_refl _
      omega
theorem own_of_block {w w' : World} {B : Nat} {e : TypeId} {size : Nat} {v : Value} {n : Nat} {xs : List Value} (h : w.ownsRow B e size v n xs) (hk : ∀ k, v.ownBlock = some k → w'.heap[k]? = w.heap[k]?) : w'.ownsRow B e size v n xs := by
  refine ⟨h.1, ?_⟩
  rcases h.2 with h0 | ⟨g, cap, cur, rfl, hb, hh, r⟩
  · exact .inl h0
  · exact .inr ⟨g, cap, cur, rfl, hb, (hk g rfl).trans hh, r⟩
theorem newacts_keep {w w' : World} {B : Nat} {v : Value} {aa : List PAct} (h : NewActs w B v aa) (hs : w.heap.size ≤ w'.heap.size) (hk : ∀ k, B ≤ k → k < w.heap.size → w'.heap[k]? = w.heap[k]?) : NewActs w' B v aa := by
  obtain ⟨lo, xs, h1, h2, h3, h4, h5⟩ := h
  have ch := mono_chain h2
  refine ⟨lo, xs, h1, h2, Nat.le_trans h3 hs, own_of_block h4 fun k e => hk k (h4.lt k e).1 (h4.lt k e).2, h5.1, fun i a hi => ?_⟩
  obtain ⟨cs, ⟨ax, cx, ay, cy, e1, e2, e3, e4⟩, e5⟩ := h5.2 i a hi
  have hil := (List.getElem?_eq_some_iff.1 hi).1
  have hlo := (ch i (by omega)).2
  exact ⟨cs, ⟨ax, cx, ay, cy, e1, ⟨own_of_block e2.own fun k e => hk k (by have := (e2.own.lt k e).1; omega) (e2.own.lt k e).2, e2.hi⟩, ⟨own_of_block e3.own fun k e => hk k (by have := (e3.own.lt k e).1; omega) (e3.own.lt k e).2, e3.hi⟩, e4⟩, e5⟩
structure LL (wr : World) (g : Nat) (lo : Nat → Nat) (aa : List PAct) (i : Nat) : Prop where
  fz : ∀ j : Nat, wr.frozen? ⟨g, j, none⟩ = false
  at' : ∀ (j : Nat) a, i ≤ j → aa[j]? = some a → ∃ ax cx ay cy, (∀ (c : Nat) x, (actCells a ax cx ay cy)[c]? = some x → wr.cell? ⟨g, j * 8 + c, none⟩ = some x) ∧ (∃ xs, wr.ownsRow 0 5 1 (.slice ax a.draws.length cx) a.draws.length xs) ∧ (∃ ys, wr.ownsRow 0 3 1 (.slice ay a.tails.length cy) a.tails.length ys) ∧ (ax = none ∨ ay = none) ∧
    (∀ k, (Value.slice ax a.draws.length cx).ownBlock = some k → lo j ≤ k ∧ k < lo (j + 1) ∧ k ≠ g) ∧ (∀ k, (Value.slice ay a.tails.length cy).ownBlock = some k → lo j ≤ k ∧ k < lo (j + 1) ∧ k ≠ g)
theorem ll_of {w w' : World} {B : Nat} {v : Value} {aa : List PAct} (h : NewActs w B v aa) (hb : Below w.heap.size w w') (hpos : 0 < aa.length) : ∃ g cap lo, v = .slice (some ⟨g, 0, none⟩) aa.length cap ∧ B ≤ g ∧ g < w.heap.size ∧ LL w' g lo aa 0 ∧ B ≤ lo 0 ∧ (∀ i, i < aa.length → lo i ≤ lo (i + 1)) ∧ lo aa.length ≤ w.heap.size := by
  obtain ⟨lo, xs, h1, h2, h3, h4, h5⟩ := h
  rcases h4.2 with ⟨_, h0⟩ | ⟨g, cap, cur, e, hB, hh, hn, hm, hs, ht⟩
  · omega
  · subst e
    have hg := (h4.lt g rfl).2
    have hblk := (hb.block g hg).trans hh
    refine ⟨g, cap, lo, rfl, hB, hg, ⟨fun j => by simp [World.frozen?, hblk], fun j a _ hj => ?_⟩, h1, h2, h3⟩
    obtain ⟨cs, ⟨ax, cx, ay, cy, rfl, e2, e3, e4⟩, e5⟩ := h5.2 j a hj
    refine ⟨ax, cx, ay, cy, fun c x hx => ?_, ⟨_, own_below3 (own_mono e2.own.bytes (Nat.zero_le _)) hb⟩, ⟨_, own_below3 (own_mono (show w.ownsRow _ 3 1 _ _ _ from e3.own) (Nat.zero_le _)) hb⟩, e4, fun k hk => ⟨(e2.own.lt k hk).1, (e2.hi k hk).1, fun e => (e2.hi k hk).2 (by rw [e]; rfl)⟩, fun k hk => ⟨(e3.own.lt k hk).1, (e3.hi k hk).1, fun e => (e3.hi k hk).2 (by rw [e]; rfl)⟩⟩
    have h6 := h4.cells rfl _ _ (e5 c x hx)
    have h7 : ((⟨g, 0, none⟩ : Addr).add (j * 8 + c)) = ⟨g, j * 8 + c, none⟩ := by (simp [Addr.add]; try omega)
    rw [h7] at h6
    exact (hb.cell (p := ⟨g, j * 8 + c, none⟩) hg).trans h6
theorem ll_step {wr w2 : World} {g i : Nat} {lo : Nat → Nat} {aa : List PAct} {X Y : Option Nat} {u : Value} (h : LL wr g lo aa i) (hsp : Spared wr w2 X Y) (hg : g < wr.heap.size) (hX : ∀ k, X = some k → k < lo (i + 1) ∧ k ≠ g) (hY : ∀ k, Y = some k → k < lo (i + 1) ∧ k ≠ g)
    (hm : ∀ i, i < aa.length → lo i ≤ lo (i + 1)) (hl : lo aa.length ≤ wr.heap.size) : LL (w2.setCell ⟨g, i * 8, none⟩ u) g lo aa (i + 1) := by
  have ch := mono_chain hm
  obtain ⟨_, _, _, s4, s5⟩ := hsp
  have hgb : w2.heap[g]? = wr.heap[g]? := s5 g hg (fun e => (hX g e.symm).2 rfl) (fun e => (hY g e.symm).2 rfl)
  refine ⟨fun j => ?_, fun j a hij ha => ?_⟩
  · rw [World.frozen?_setCell]
    exact (World.frozen?_of_block (a := ⟨g, j, none⟩) hgb).trans (h.fz j)
  · have hjl := (List.getElem?_eq_some_iff.1 ha).1
    obtain ⟨ax, cx, ay, cy, h1, ⟨xs, h2⟩, ⟨ys, h3⟩, h4, h5, h6⟩ := h.at' j a (by omega) ha
    have hlj : lo (i + 1) ≤ lo j := by
      have aux : ∀ d, i + 1 + d ≤ aa.length → lo (i + 1) ≤ lo (i + 1 + d) := by
        intro d
        induction d with
        | zero => intro _; exact Nat.le_refl _
        | succ d ih => intro hd; exact Nat.le_trans (ih (by omega)) (hm (i + 1 + d) (by omega))
      have := aux (j - (i + 1)) (by omega)
      rwa [show i + 1 + (j - (i + 1)) = j by omega] at this
    have keep : ∀ k, lo j ≤ k → k < lo (j + 1) → k ≠ g → (w2.setCell ⟨g, i * 8, none⟩ u).heap[k]? = wr.heap[k]? := by
      intro k k1 k2 k3
      rw [Below.heap_setCell w2 _ u k k3]
      have := (ch (j + 1) (by omega)).1
      exact s5 k (by omega) (fun e => by have := (hX k e.symm).1; omega) (fun e => by have := (hY k e.symm).1; omega)
    refine ⟨ax, cx, ay, cy, fun c x hx => ?_, ⟨xs, own_of_block h2 fun k hk => keep k (h5 k hk).1 (h5 k hk).2.1 (h5 k hk).2.2⟩, ⟨ys, own_of_block h3 fun k hk => keep k (h6 k hk).1 (h6 k hk).2.1 (h6 k hk).2.2⟩, h4, h5, h6⟩
    have hc8 : c < 8 := (List.getElem?_eq_some_iff.1 hx).1
    rw [World.cell?_setCell_other _ _ _ _ (by first | (simp; done) | (simp; omega))]
    exact (World.cell?_of_block (a := ⟨g, j * 8 + c, none⟩) hgb).trans (h1 c x hx)
def Held (w W wr : World) (B : Nat) : Prop := Below w.heap.size w wr ∧ W.heap.size ≤ wr.heap.size ∧ ∀ k, B ≤ k → k < W.heap.size → wr.heap[k]? = W.heap[k]?
theorem held_step {w W wr w2 : World} {B g i : Nat} {X Y : Option Nat} {u : Value} (h : Held w W wr B) (hsp : Spared wr w2 X Y) (hwB : w.heap.size ≤ B) (hX : ∀ k, X = some k → w.heap.size ≤ k ∧ k < B) (hY : ∀ k, Y = some k → w.heap.size ≤ k ∧ k < B) (hg : w.heap.size ≤ g ∧ g < B) : Held w W (w2.setCell ⟨g, i, none⟩ u) B := by
  obtain ⟨h1, h2, h3⟩ := h
  obtain ⟨s1, s2, s3, s4, s5⟩ := hsp
  refine ⟨?_, by rw [size_set]; omega, fun k k1 k2 => ?_⟩
  · refine Below.setCell (p := ⟨g, i, none⟩) ?_ hg.1 u
    refine ⟨s1.trans h1.os, s2.trans h1.tape, s3.trans h1.output, Nat.le_trans h1.size s4, fun k hk => ?_⟩
    rw [s5 k (by have := h1.size; omega) (fun e => by have := (hX k e.symm).1; omega) (fun e => by have := (hY k e.symm).1; omega)]
    exact h1.block k hk
  · rw [Below.heap_setCell w2 _ u k (by intro e; have e' : k = g := e; omega), s5 k (by omega) (fun e => by have := (hX k e.symm).2; omega) (fun e => by have := (hY k e.symm).2; omega)]
    exact h3 k k1 k2
theorem parses_walk (s : ByteArray) (w : World) (ht : Tab w) (he : Errs w) (hmx : ∀ W', Below w.heap.size w W' → ∃ m, W'.cell? ⟨1, 0, none⟩ = some (.int .i64 m))
    (c12 : ∀ W', Below w.heap.size w W' → Calls Tryz.prog 12 #[] W' fun e w'' => e = .returned (.bool true) ∧ Below W'.heap.size W' w'') :
    Calls Tryz.prog 3 #[.string s] w fun e w' => e = .returned (.bool true) ∧ Below w.heap.size w w' := by
  obtain ⟨aa, haa⟩ : ∃ aa, aa = (parseS s.data.toList).1 := ⟨_, rfl⟩
  obtain ⟨E, hE⟩ : ∃ E, E = (parseS s.data.toList).2.1 := ⟨_, rfl⟩
  obtain ⟨T, hT⟩ : ∃ T, T = (parseS s.data.toList).2.2 := ⟨_, rfl⟩
  have hsm : ∀ a ∈ aa, SmallA 1048577 a := by rw [haa]; exact parseS_small _
  have hlenI : (aa.length : Int) ≤ 9223372036854775807 := by have := parseS_len s.data.toList; rw [← haa] at this; omega
  have f7 : ∀ W, Below w.heap.size w W → Calls Tryz.prog 7 #[.string s] W fun e w' => ∃ va vc, e = .returned (.tuple #[.slice va aa.length vc, .int .i64 E, .int .i64 T]) ∧ NewActs w' W.heap.size (.slice va aa.length vc) aa ∧ Below W.heap.size W w' := by
    intro W hb
    refine (parse_calls s W (tab_below ht hb) (errs_below he hb) (fun W' h => hmx W' (hb.trans (h.mono hb.size)))).mono fun e w' ⟨v, h1, h2, h3⟩ => ?_
    rw [← haa] at h2
    rw [← hE, ← hT] at h1
    obtain ⟨va, vc, rfl⟩ := own_slice8 h2.choose_spec.choose_spec.2.2.2.1
    exact ⟨va, vc, h1, h2, h3⟩
  have f8 : ∀ W, Calls Tryz.prog 8 #[.string s] W fun e w' => ∃ va vc, e = .returned (.tuple #[.slice va aa.length vc, .int .i64 E, .int .i64 T]) ∧ NewActs w' W.heap.size (.slice va aa.length vc) aa ∧ Below W.heap.size W w' := by
    intro W
    refine (refParse_calls s W).mono fun e w' ⟨v, h1, h2, h3⟩ => ?_
    rw [← haa] at h2
    rw [← hE, ← hT] at h1
    obtain ⟨va, vc, rfl⟩ := own_slice8 h2.choose_spec.choose_spec.2.2.2.1
    exact ⟨va, vc, h1, h2, h3⟩
  clear haa hE hT
  go_enter Tryz.func3, Tryz.ntmps3
  go_wp2_with (first
    | (go_at_call 7; refine (f7 _ b1).mono ?_; rintro e w2 ⟨ma, mc, rfl, hM, bel2⟩; (have b2 := b1.trans (bel2.mono b1.size)); (have hL2 := newacts_keep hL bel2.size (fun k _ hk => bel2.block k hk)); clear b1)
    | (go_at_call 7; refine (f7 _ (Below.refl _ _)).mono ?_; rintro e w1 ⟨la, lc, rfl, hL, b1⟩)
    | (go_at_call 8; refine (f8 _).mono ?_; rintro e w3 ⟨ra, rc, rfl, hR, bel3⟩; (have b3 := b2.trans (bel3.mono b2.size)); clear b2)
    | (go_at_call 9; refine (c9 _ _).mono ?_; rintro e w4 ⟨rfl, bel4⟩; (have b4 := b3.trans (bel4.mono b3.size)); clear b3)
    | (go_at_call 9; refine (c9 _ _).mono ?_; rintro e w5 ⟨rfl, bel5⟩; (have b5 := b4.trans (bel5.mono b4.size)); clear b4))
  have bel34 := bel3.trans ((bel4.mono bel3.size).trans (bel5.mono (Nat.le_trans bel3.size bel4.size)))
  have bel45 := bel4.trans (bel5.mono bel4.size)
  have hl5 := hL2.acts.below bel34
  have hm5 : NewActs w5 w1.heap.size (.slice ma aa.length mc) aa := newacts_keep hM bel34.size (fun k _ hk => bel34.block k hk)
  have hr5 : NewActs w5 w2.heap.size (.slice ra aa.length rc) aa := newacts_keep hR bel45.size (fun k _ hk => bel45.block k hk)
  have s21 := bel2.size
  have hL1 := hL
  have bel15 : Below w1.heap.size w1 w5 := bel2.trans (bel34.mono bel2.size)
  clear hL hL2 hM hR bel34 bel45 f7 f8
  go_loopw [12] (fun i wr => ∃ k : Nat, k ≤ aa.length ∧ i = .int .i64 k ∧ Below w5.heap.size w5 wr) (fun i _ => aa.length - (RowKit.intOf i).toNat)
  case atStart => exact ⟨0, Nat.zero_le _, rfl, Below.refl _ _⟩
  case round =>
    obtain ⟨k, hk, rfl, hbw⟩ := hrel
    by_cases hlt : k < aa.length
    · have hlt' : (k : Int) < (aa.length : Int) := by omega
      obtain ⟨a, ha⟩ : ∃ a, aa[k]? = some a := ⟨aa[k], List.getElem?_eq_getElem hlt⟩
      obtain ⟨b, off, cap', ax, cx, ay, cy, ev, c0, c1, c2, c3, c4, c5, c6, c7, hx, hy⟩ := (hl5.below hbw).at ha
      cases ev
      obtain ⟨b', off', cap'', ax', cx', ay', cy', ev, d0, d1, d2, d3, d4, d5, d6, d7, hx', hy'⟩ := (hr5.acts.below hbw).at ha
      cases ev
      have hyl : a.tails.length * 8 ≤ reachBytes := by have := (hsm a (List.mem_of_getElem? ha)).2; unfold reachBytes; omega
      have hcall := alike_calls a.kind a.now a.outcome a.n a.dir a.raw _ _ _ _ _ _ wr.drew hx hy hx' hy' hyl
      have lb := World.block_lt_of_cell? wr _ c0
      have lb' := World.block_lt_of_cell? wr _ d0
      have hS : ∀ w' : World, Below wr.heap.size wr w' → w'.cell? ⟨b, off + k * 8, none⟩ = some (.int .i64 a.kind) ∧ w'.cell? ⟨b, off + k * 8 + 1, none⟩ = some (.string a.raw) ∧ w'.cell? ⟨b, off + k * 8 + 2, none⟩ = some (.slice ax a.draws.length cx) ∧ w'.cell? ⟨b, off + k * 8 + 3, none⟩ = some (.int .u64 (a.now : Int)) ∧ w'.cell? ⟨b, off + k * 8 + 4, none⟩ = some (.int .i64 a.outcome) ∧ w'.cell? ⟨b, off + k * 8 + 5, none⟩ = some (.int .i64 a.n) ∧ w'.cell? ⟨b, off + k * 8 + 6, none⟩ = some (.int .i64 a.dir) ∧ w'.cell? ⟨b, off + k * 8 + 7, none⟩ = some (.slice ay a.tails.length cy) ∧ w'.cell? ⟨b', off' + k * 8, none⟩ = some (.int .i64 a.kind) ∧ w'.cell? ⟨b', off' + k * 8 + 1, none⟩ = some (.string a.raw) ∧ w'.cell? ⟨b', off' + k * 8 + 2, none⟩ = some (.slice ax' a.draws.length cx') ∧ w'.cell? ⟨b', off' + k * 8 + 3, none⟩ = some (.int .u64 (a.now : Int)) ∧ w'.cell? ⟨b', off' + k * 8 + 4, none⟩ = some (.int .i64 a.outcome) ∧ w'.cell? ⟨b', off' + k * 8 + 5, none⟩ = some (.int .i64 a.n) ∧ w'.cell? ⟨b', off' + k * 8 + 6, none⟩ = some (.int .i64 a.dir) ∧ w'.cell? ⟨b', off' + k * 8 + 7, none⟩ = some (.slice ay' a.tails.length cy') := fun w' h => ⟨(h.cell (p := ⟨b, off + k * 8, none⟩) lb).trans c0, (h.cell (p := ⟨b, off + k * 8 + 1, none⟩) lb).trans c1, (h.cell (p := ⟨b, off + k * 8 + 2, none⟩) lb).trans c2, (h.cell (p := ⟨b, off + k * 8 + 3, none⟩) lb).trans c3, (h.cell (p := ⟨b, off + k * 8 + 4, none⟩) lb).trans c4, (h.cell (p := ⟨b, off + k * 8 + 5, none⟩) lb).trans c5, (h.cell (p := ⟨b, off + k * 8 + 6, none⟩) lb).trans c6, (h.cell (p := ⟨b, off + k * 8 + 7, none⟩) lb).trans c7, (h.cell (p := ⟨b', off' + k * 8, none⟩) lb').trans d0, (h.cell (p := ⟨b', off' + k * 8 + 1, none⟩) lb').trans d1, (h.cell (p := ⟨b', off' + k * 8 + 2, none⟩) lb').trans d2, (h.cell (p := ⟨b', off' + k * 8 + 3, none⟩) lb').trans d3, (h.cell (p := ⟨b', off' + k * 8 + 4, none⟩) lb').trans d4, (h.cell (p := ⟨b', off' + k * 8 + 5, none⟩) lb').trans d5, (h.cell (p := ⟨b', off' + k * 8 + 6, none⟩) lb').trans d6, (h.cell (p := ⟨b', off' + k * 8 + 7, none⟩) lb').trans d7⟩
      have bD : Below wr.heap.size wr wr.drew := (Below.refl _ _).drew
      clear hx hy hx' hy' hyl ha
      go_wp2_with fail
      go_region_held3 (fun w' => w'.cell? ⟨b, off + k * 8, none⟩ = some (.int .i64 a.kind) ∧ w'.cell? ⟨b, off + k * 8 + 1, none⟩ = some (.string a.raw) ∧ w'.cell? ⟨b, off + k * 8 + 2, none⟩ = some (.slice ax a.draws.length cx) ∧ w'.cell? ⟨b, off + k * 8 + 3, none⟩ = some (.int .u64 (a.now : Int)) ∧ w'.cell? ⟨b, off + k * 8 + 4, none⟩ = some (.int .i64 a.outcome) ∧ w'.cell? ⟨b, off + k * 8 + 5, none⟩ = some (.int .i64 a.n) ∧ w'.cell? ⟨b, off + k * 8 + 6, none⟩ = some (.int .i64 a.dir) ∧ w'.cell? ⟨b, off + k * 8 + 7, none⟩ = some (.slice ay a.tails.length cy) ∧ w'.cell? ⟨b', off' + k * 8, none⟩ = some (.int .i64 a.kind) ∧ w'.cell? ⟨b', off' + k * 8 + 1, none⟩ = some (.string a.raw) ∧ w'.cell? ⟨b', off' + k * 8 + 2, none⟩ = some (.slice ax' a.draws.length cx') ∧ w'.cell? ⟨b', off' + k * 8 + 3, none⟩ = some (.int .u64 (a.now : Int)) ∧ w'.cell? ⟨b', off' + k * 8 + 4, none⟩ = some (.int .i64 a.outcome) ∧ w'.cell? ⟨b', off' + k * 8 + 5, none⟩ = some (.int .i64 a.n) ∧ w'.cell? ⟨b', off' + k * 8 + 6, none⟩ = some (.int .i64 a.dir) ∧ w'.cell? ⟨b', off' + k * 8 + 7, none⟩ = some (.slice ay' a.tails.length cy')) (first | (with_reducible exact hS _ bD) | (with_reducible exact hS _ b1)) (first
        | (go_at_call 10; (with_reducible refine hcall.mono ?_); rintro e w1 ⟨rfl, bel1⟩; (have b1 : Below wr.heap.size wr w1 := bD.trans bel1)))
      go_wp2
      refine ⟨⟨k + 1, hlt, (by first | rfl | simp), hbw.trans (b1.mono hbw.size)⟩, ?_⟩
      simp only [RowKit.intOf]
      omega
    · have hge : ¬ (k : Int) < (aa.length : Int) := by omega
      obtain rfl : k = aa.length := by omega
      clear hl5
      have hN1 := newacts_keep hm5 hbw.size (fun k _ hk => hbw.block k hk)
      have hN2 := newacts_keep hr5 hbw.size (fun k _ hk => hbw.block k hk)
      have bwr : Below w.heap.size w wr := b5.trans (hbw.mono b5.size)
      have bel1r : Below w1.heap.size w1 wr := bel15.trans (hbw.mono bel15.size)
      clear hbw hm5 hr5 b5 bel15
      obtain ⟨W, hW⟩ : ∃ W, W = wr := ⟨_, rfl⟩
      subst hW
      go_wp2
      go_loopw [13] (fun i wr => ∃ k : Nat, k ≤ aa.length ∧ i = .int .i64 k ∧ Held w W wr w1.heap.size ∧ Hid (0 < aa.length → ∃ g cap lo, la = some ⟨g, 0, none⟩ ∧ cap = lc ∧ w.heap.size ≤ g ∧ g < w1.heap.size ∧ LL wr g lo aa k ∧ w.heap.size ≤ lo 0 ∧ (∀ i, i < aa.length → lo i ≤ lo (i + 1)) ∧ lo aa.length ≤ w1.heap.size)) (fun i _ => aa.length - (RowKit.intOf i).toNat)
      case atStart =>
        refine ⟨0, Nat.zero_le _, rfl, ⟨bwr, Nat.le_refl _, fun _ _ _ => rfl⟩, fun hpos => ?_⟩
        obtain ⟨g, cap, lo, e, q1, q2, q3, q4, q5, q6⟩ := ll_of hL1 bel1r hpos
        injection e with e1 _ e3
        exact ⟨g, cap, lo, e1, e3.symm, q1, q2, q3, q4, q5, q6⟩
      case round =>
        obtain ⟨k, hk, rfl, hH, hLL⟩ := hrel
        by_cases hlt : k < aa.length
        · have hlt' : (k : Int) < (aa.length : Int) := by omega
          obtain ⟨g, cap, lo, e1, e2, q1, q2, q3, q4, q5, q6⟩ := (show _ → _ from hLL) (by omega)
          subst e1 e2
          obtain ⟨a, ha⟩ : ∃ a, aa[k]? = some a := ⟨aa[k], List.getElem?_eq_getElem hlt⟩
          obtain ⟨ax, cx, ay, cy, hc, hx, hy, hd, px, py⟩ := q3.at' k a (Nat.le_refl _) ha
          have ch := mono_chain q5
          have hlk := (ch k (by omega)).2
          have hlk1 := (ch (k + 1) (by omega)).1
          obtain ⟨sm1, sm2⟩ := hsm a (List.mem_of_getElem? ha)
          have hf := spoil_calls a.kind a.now a.outcome a.n a.dir a.raw ax ay a.draws.length a.tails.length cx cy wr hx hy hd (by omega) (by omega)
          have c0 := hc 0 _ rfl
          have c1 := hc 1 _ rfl
          have c2 := hc 2 _ rfl
          have c3 := hc 3 _ rfl
          have c4 := hc 4 _ rfl
          have c5 := hc 5 _ rfl
          have c6 := hc 6 _ rfl
          have c7 := hc 7 _ rfl
          rw [Nat.add_zero] at c0
          have hgw : g < wr.heap.size := World.block_lt_of_cell? wr _ c0
          clear hLL hx hy hc ha
          go_wp2_with (go_at_call 11; refine hf.mono ?_; clear hf; rintro e w7 ⟨rfl, hsp⟩; (have hgb : w7.heap[g]? = wr.heap[g]? := hsp.2.2.2.2 g hgw (fun e => (px g e.symm).2.2 rfl) (fun e => (py g e.symm).2.2 rfl)); (have e0 := (World.cell?_of_block (a := ⟨g, k * 8, none⟩) hgb).trans c0); (have e1 := (World.frozen?_of_block (a := ⟨g, k * 8, none⟩) hgb).trans (q3.fz (k * 8))); (have hL2 := ll_step (u := .int .i64 77) q3 hsp hgw (fun j hj => ⟨(px j hj).2.1, (px j hj).2.2⟩) (fun j hj => ⟨(py j hj).2.1, (py j hj).2.2⟩) q5 (by have := hH.2.1; have := bel1r.size; omega)); (have hH2 := held_step (g := g) (i := k * 8) (u := .int .i64 77) hH hsp (by omega) (fun j hj => by have := px j hj; omega) (fun j hj => by have := py j hj; omega) ⟨q1, q2⟩); clear hsp hgb c0)
          refine ⟨⟨k + 1, hlt, (by first | rfl | simp), hH2, fun _ => ⟨g, cap, lo, rfl, rfl, q1, q2, hL2, q4, q5, q6⟩⟩, ?_⟩
          simp only [RowKit.intOf]
          omega
        · have hge : ¬ (k : Int) < (aa.length : Int) := by omega
          obtain ⟨hH1, hH2, hH3⟩ := hH
          have hm9 := (newacts_keep hN1 hH2 hH3).acts
          have hr9 := (newacts_keep hN2 hH2 (fun k k1 k2 => hH3 k (by omega) k2)).acts
          obtain ⟨W9, hW9⟩ : ∃ W9, W9 = wr := ⟨_, rfl⟩
          subst hW9
          clear hN1 hN2 hH3 hlt hk hLL
          go_wp2
          go_loopw [14] (fun i wr => ∃ k : Nat, k ≤ aa.length ∧ i = .int .i64 k ∧ Below W9.heap.size W9 wr) (fun i _ => aa.length - (RowKit.intOf i).toNat)
          case atStart => exact ⟨0, Nat.zero_le _, rfl, Below.refl _ _⟩
          case round =>
            obtain ⟨k, hk, rfl, hbw⟩ := hrel
            by_cases hlt : k < aa.length
            · have hlt' : (k : Int) < (aa.length : Int) := by omega
              obtain ⟨a, ha⟩ : ∃ a, aa[k]? = some a := ⟨aa[k], List.getElem?_eq_getElem hlt⟩
              obtain ⟨b, off, cap', ax, cx, ay, cy, ev, c0, c1, c2, c3, c4, c5, c6, c7, hx, hy⟩ := (hm9.below hbw).at ha
              cases ev
              obtain ⟨b', off', cap'', ax', cx', ay', cy', ev, d0, d1, d2, d3, d4, d5, d6, d7, hx', hy'⟩ := (hr9.below hbw).at ha
              cases ev
              have hyl : a.tails.length * 8 ≤ reachBytes := by have := (hsm a (List.mem_of_getElem? ha)).2; unfold reachBytes; omega
              have hcall := alike_calls a.kind a.now a.outcome a.n a.dir a.raw _ _ _ _ _ _ wr.drew hx hy hx' hy' hyl
              have lb := World.block_lt_of_cell? wr _ c0
              have lb' := World.block_lt_of_cell? wr _ d0
              have hS : ∀ w' : World, Below wr.heap.size wr w' → w'.cell? ⟨b, off + k * 8, none⟩ = some (.int .i64 a.kind) ∧ w'.cell? ⟨b, off + k * 8 + 1, none⟩ = some (.string a.raw) ∧ w'.cell? ⟨b, off + k * 8 + 2, none⟩ = some (.slice ax a.draws.length cx) ∧ w'.cell? ⟨b, off + k * 8 + 3, none⟩ = some (.int .u64 (a.now : Int)) ∧ w'.cell? ⟨b, off + k * 8 + 4, none⟩ = some (.int .i64 a.outcome) ∧ w'.cell? ⟨b, off + k * 8 + 5, none⟩ = some (.int .i64 a.n) ∧ w'.cell? ⟨b, off + k * 8 + 6, none⟩ = some (.int .i64 a.dir) ∧ w'.cell? ⟨b, off + k * 8 + 7, none⟩ = some (.slice ay a.tails.length cy) ∧ w'.cell? ⟨b', off' + k * 8, none⟩ = some (.int .i64 a.kind) ∧ w'.cell? ⟨b', off' + k * 8 + 1, none⟩ = some (.string a.raw) ∧ w'.cell? ⟨b', off' + k * 8 + 2, none⟩ = some (.slice ax' a.draws.length cx') ∧ w'.cell? ⟨b', off' + k * 8 + 3, none⟩ = some (.int .u64 (a.now : Int)) ∧ w'.cell? ⟨b', off' + k * 8 + 4, none⟩ = some (.int .i64 a.outcome) ∧ w'.cell? ⟨b', off' + k * 8 + 5, none⟩ = some (.int .i64 a.n) ∧ w'.cell? ⟨b', off' + k * 8 + 6, none⟩ = some (.int .i64 a.dir) ∧ w'.cell? ⟨b', off' + k * 8 + 7, none⟩ = some (.slice ay' a.tails.length cy') := fun w' h => ⟨(h.cell (p := ⟨b, off + k * 8, none⟩) lb).trans c0, (h.cell (p := ⟨b, off + k * 8 + 1, none⟩) lb).trans c1, (h.cell (p := ⟨b, off + k * 8 + 2, none⟩) lb).trans c2, (h.cell (p := ⟨b, off + k * 8 + 3, none⟩) lb).trans c3, (h.cell (p := ⟨b, off + k * 8 + 4, none⟩) lb).trans c4, (h.cell (p := ⟨b, off + k * 8 + 5, none⟩) lb).trans c5, (h.cell (p := ⟨b, off + k * 8 + 6, none⟩) lb).trans c6, (h.cell (p := ⟨b, off + k * 8 + 7, none⟩) lb).trans c7, (h.cell (p := ⟨b', off' + k * 8, none⟩) lb').trans d0, (h.cell (p := ⟨b', off' + k * 8 + 1, none⟩) lb').trans d1, (h.cell (p := ⟨b', off' + k * 8 + 2, none⟩) lb').trans d2, (h.cell (p := ⟨b', off' + k * 8 + 3, none⟩) lb').trans d3, (h.cell (p := ⟨b', off' + k * 8 + 4, none⟩) lb').trans d4, (h.cell (p := ⟨b', off' + k * 8 + 5, none⟩) lb').trans d5, (h.cell (p := ⟨b', off' + k * 8 + 6, none⟩) lb').trans d6, (h.cell (p := ⟨b', off' + k * 8 + 7, none⟩) lb').trans d7⟩
              have bD : Below wr.heap.size wr wr.drew := (Below.refl _ _).drew
              clear hx hy hx' hy' hyl ha
              go_wp2_with fail
              go_region_held3 (fun w' => w'.cell? ⟨b, off + k * 8, none⟩ = some (.int .i64 a.kind) ∧ w'.cell? ⟨b, off + k * 8 + 1, none⟩ = some (.string a.raw) ∧ w'.cell? ⟨b, off + k * 8 + 2, none⟩ = some (.slice ax a.draws.length cx) ∧ w'.cell? ⟨b, off + k * 8 + 3, none⟩ = some (.int .u64 (a.now : Int)) ∧ w'.cell? ⟨b, off + k * 8 + 4, none⟩ = some (.int .i64 a.outcome) ∧ w'.cell? ⟨b, off + k * 8 + 5, none⟩ = some (.int .i64 a.n) ∧ w'.cell? ⟨b, off + k * 8 + 6, none⟩ = some (.int .i64 a.dir) ∧ w'.cell? ⟨b, off + k * 8 + 7, none⟩ = some (.slice ay a.tails.length cy) ∧ w'.cell? ⟨b', off' + k * 8, none⟩ = some (.int .i64 a.kind) ∧ w'.cell? ⟨b', off' + k * 8 + 1, none⟩ = some (.string a.raw) ∧ w'.cell? ⟨b', off' + k * 8 + 2, none⟩ = some (.slice ax' a.draws.length cx') ∧ w'.cell? ⟨b', off' + k * 8 + 3, none⟩ = some (.int .u64 (a.now : Int)) ∧ w'.cell? ⟨b', off' + k * 8 + 4, none⟩ = some (.int .i64 a.outcome) ∧ w'.cell? ⟨b', off' + k * 8 + 5, none⟩ = some (.int .i64 a.n) ∧ w'.cell? ⟨b', off' + k * 8 + 6, none⟩ = some (.int .i64 a.dir) ∧ w'.cell? ⟨b', off' + k * 8 + 7, none⟩ = some (.slice ay' a.tails.length cy')) (first | (with_reducible exact hS _ bD) | (with_reducible exact hS _ b1)) (first
                | (go_at_call 10; (with_reducible refine hcall.mono ?_); rintro e w1 ⟨rfl, bel1⟩; (have b1 : Below wr.heap.size wr w1 := bD.trans bel1)))
              go_wp2
              refine ⟨⟨k + 1, hlt, (by first | rfl | simp), hbw.trans (b1.mono hbw.size)⟩, ?_⟩
              simp only [RowKit.intOf]
              omega
            · have hge : ¬ (k : Int) < (aa.length : Int) := by omega
              obtain rfl : k = aa.length := by omega
              have b9 : Below w.heap.size w wr := hH1.trans (hbw.mono hH1.size)
              clear hm9 hr9 hbw
              go_wp2_with (go_at_call 12; refine (c12 _ b9).mono ?_; rintro e w12 ⟨rfl, bel12⟩; (have b12 := b9.trans (bel12.mono b9.size)))
              go_ret
              exact ⟨rfl, b12⟩
end Go.Proofs.YtbfoocginkdmcaaGreatDoor
