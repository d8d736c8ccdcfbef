/-
  acts: a copy of a list of acts.
-/
import Derived.Test.YtbfoocginkdmcaaGreatDoorWG
import Derived.Test.YtbfoocginkdmcaaGreatDoorWA
import Derived.Deep.AppendLies

set_option linter.unusedVariables false
set_option maxRecDepth 100000
set_option maxHeartbeats 4000000
namespace Go.Proofs.YtbfoocginkdmcaaGreatDoor
open Go Go.RowKit Go.Basic Go.ArgS Go.Scr Go.Lib

theorem inf36 : (Tryz.prog.info? 36).map (fun i => (i.zero, i.size, i.bytes)) = some (some (.agg #[.int .i64 0, .string ⟨#[]⟩, .slice none 0 0, .int .u64 0, .int .i64 0, .int .i64 0, .int .i64 0, .slice none 0 0]), 8, 104) := by kernel_rfl

/-- A slice that lies apart from a row. -/
def Apart (w : World) (row : Option Nat) (k : IntKind) (v : Value) (zs : List Int) : Prop := IsSl w k v zs ∧ ∀ p l c, v = .slice (some p) l c → p.block < w.heap.size ∧ some p.block ≠ row

theorem Apart.grown {w w' : World} {row : Option Nat} {k : IntKind} {v : Value} {zs : List Int} (h : Apart w row k v zs) (hg : w.grownBy w' row) : IsSl w' k v zs := by
  rcases h.1 with h1 | ⟨p, cap, rfl, hc⟩
  · exact .inl h1
  · obtain ⟨hl1, hl2⟩ := h.2 p _ _ rfl
    refine .inr ⟨p, cap, rfl, fun j x hj => ?_⟩
    exact (World.cell?_of_block (by rw [add_block]; exact hg.block _ hl1 hl2)).trans (hc j x hj)

theorem Apart.moved {w w' : World} {row : Option Nat} {g H : Nat} {k : IntKind} {v : Value} {zs : List Int} (h : Apart w row k v zs) (hg : w.grownBy w' row) (hH : w.heap.size = H) (hat : row = some g ∨ g = H) : Apart w' (some g) k v zs := by
  refine ⟨h.grown hg, fun p l c e => ?_⟩
  obtain ⟨h1, h2⟩ := h.2 p l c e
  refine ⟨Nat.lt_of_lt_of_le h1 hg.size, ?_⟩
  rcases hat with h3 | h3
  · rw [← h3]; exact h2
  · intro e2
    cases e2
    omega

theorem Apart.below {w w' : World} {row : Option Nat} {k : IntKind} {v : Value} {zs : List Int} (h : Apart w row k v zs) (hb : Below w.heap.size w w') : Apart w' row k v zs :=
  ⟨h.1.below hb, fun p l c e => ⟨Nat.lt_of_lt_of_le (h.2 p l c e).1 hb.size, (h.2 p l c e).2⟩⟩

theorem Apart.of_new {w w0 : World} {row : Option Nat} {B : Nat} {k : IntKind} {v : Value} {zs : List Int} (h : OwnSl w B k v zs) (hr : ∀ g, row = some g → g < B) : Apart w row k v zs :=
  ⟨h.1, fun p l c e => ⟨(h.2 p l c e).2, fun e2 => by have h1 := hr _ e2.symm; have h2 := (h.2 p l c e).1; omega⟩⟩

/-- A row of acts under way. -/
def Built (w : World) (row : Option Nat) (aa : List PAct) (xs : List Value) : Prop := xs.length = 8 * aa.length ∧ ∀ (i : Nat) a, aa[i]? = some a → ∃ ax cx ay cy, (∀ (j : Nat) c, (actCells a ax cx ay cy)[j]? = some c → xs[i * 8 + j]? = some c) ∧
  Apart w row .u8 (.slice ax a.draws.length cx) (a.draws.map fun b => (b.toNat : Int)) ∧ Apart w row .i64 (.slice ay a.tails.length cy) a.tails

theorem Built.below {w w' : World} {row : Option Nat} {aa : List PAct} {xs : List Value} (h : Built w row aa xs) (hb : Below w.heap.size w w') : Built w' row aa xs := by
  refine ⟨h.1, fun i a hi => ?_⟩
  obtain ⟨ax, cx, ay, cy, h1, h2, h3⟩ := h.2 i a hi
  exact ⟨ax, cx, ay, cy, h1, h2.below hb, h3.below hb⟩

theorem Built.moved {w w' : World} {row : Option Nat} {g H : Nat} {aa : List PAct} {xs : List Value} (h : Built w row aa xs) (hg : w.grownBy w' row) (hH : w.heap.size = H) (hat : row = some g ∨ g = H) : Built w' (some g) aa xs := by
  refine ⟨h.1, fun i a hi => ?_⟩
  obtain ⟨ax, cx, ay, cy, h1, h2, h3⟩ := h.2 i a hi
  exact ⟨ax, cx, ay, cy, h1, h2.moved hg hH hat, h3.moved hg hH hat⟩

theorem Built.push {w : World} {row : Option Nat} {aa : List PAct} {xs : List Value} (h : Built w row aa xs) (a : PAct) {ax ay : Option Addr} {cx cy : Nat}
    (hx : Apart w row .u8 (.slice ax a.draws.length cx) (a.draws.map fun b => (b.toNat : Int))) (hy : Apart w row .i64 (.slice ay a.tails.length cy) a.tails) : Built w row (aa ++ [a]) (xs ++ actCells a ax cx ay cy) := by
  refine ⟨by rw [List.length_append, h.1, List.length_append]; show 8 * aa.length + 8 = 8 * (aa.length + 1); omega, fun i b hi => ?_⟩
  rcases Nat.lt_or_ge i aa.length with hlt | hge
  · rw [List.getElem?_append_left hlt] at hi
    obtain ⟨ax', cx', ay', cy', h1, h2, h3⟩ := h.2 i b hi
    refine ⟨ax', cx', ay', cy', fun j c hj => ?_, h2, h3⟩
    have h4 := h1 j c hj
    rw [List.getElem?_append_left (List.getElem?_eq_some_iff.1 h4).1]
    exact h4
  · rw [List.getElem?_append_right hge] at hi
    have h0 : i - aa.length = 0 := by
      rcases Nat.eq_zero_or_pos (i - aa.length) with h5 | h5
      · exact h5
      · rw [List.getElem?_eq_none (by simp; omega)] at hi; cases hi
    rw [h0] at hi
    cases hi
    refine ⟨ax, cx, ay, cy, fun j c hj => ?_, hx, hy⟩
    rw [List.getElem?_append_right (by rw [h.1]; omega), show i * 8 + j - xs.length = j by rw [h.1]; omega]
    exact hj

theorem Built.nil (w : World) (row : Option Nat) : Built w row [] [] := ⟨rfl, fun i a hi => by simp at hi⟩

theorem Built.acts {w : World} {B n : Nat} {v : Value} {aa : List PAct} {xs : List Value} (h : Built w v.ownBlock aa xs) (hn : n = aa.length) (hown : w.ownsRow B 36 8 v n xs) : IsActs w v aa := by
  rcases hown.2 with ⟨h0, h1⟩ | ⟨g, cap, cur, h0, _⟩
  · refine .inl ⟨none, 0, by rw [h0], ?_⟩
    rw [h1] at hn
    exact List.eq_nil_of_length_eq_zero hn.symm
  · refine .inr ⟨g, 0, cap, by rw [h0, hn], fun i a hi => ?_⟩
    obtain ⟨ax, cx, ay, cy, h1, h2, h3⟩ := h.2 i a hi
    refine ⟨ax, cx, ay, cy, fun j c hj => ?_, h2.1, h3.1⟩
    have h4 := hown.cells (by rw [h0]; rfl) _ _ (h1 j c hj)
    have h5 : ((⟨g, 0, none⟩ : Addr).add (i * 8 + j)) = ⟨g, 0 + i * 8 + j, none⟩ := by
      have h9 : (⟨g, 0, none⟩ : Addr).add (i * 8 + j) = ⟨g, 0 + (i * 8 + j), none⟩ := by simp [Addr.add]; omega
      rw [h9, Nat.add_assoc]
    rw [h5] at h4
    exact h4

theorem own_belowS {w w' : World} {B : Nat} {e : TypeId} {size : Nat} {v : Value} {n : Nat} {xs : List Value} (h : w.ownsRow B e size v n xs) (hb : Below w.heap.size w w') : w'.ownsRow B e size v n xs :=
  h.kept (row := none) ⟨hb.os, hb.tape, hb.output, hb.size, fun k hk _ => hb.block k hk⟩ (by cases h9 : v.ownBlock with | none => exact .inl rfl | some g => exact .inr (by simp))

theorem own_slice8 {w : World} {B : Nat} {e : TypeId} {v : Value} {n : Nat} {xs : List Value} (h : w.ownsRow B e 8 v n xs) : ∃ a c, v = .slice a n c := by
  rcases h.2 with ⟨h0, rfl⟩ | ⟨g, cap, cur, h0, _⟩
  · exact ⟨_, _, h0⟩
  · exact ⟨_, _, h0⟩

theorem act_one (a : PAct) (ax ay : Option Addr) (cx cy : Nat) : ∀ u ∈ actCells a ax cx ay cy, u.oneCell' = true := by
  intro u hu
  simp only [actCells, List.mem_cons, List.not_mem_nil, or_false] at hu
  rcases hu with h | h | h | h | h | h | h | h <;> (subst h; rfl)

def ActsOut (w : World) (aa : List PAct) (e : Ending) (w' : World) : Prop := ∃ v', e = .returned v' ∧ IsActs w' v' aa ∧ Below w.heap.size w w'

theorem acts_calls (v : Value) (aa : List PAct) (w : World) (h : IsActs w v aa) (hf : ∀ a ∈ aa, Fits a) (hl : aa.length ≤ 1100000) :
    Calls Tryz.prog 18 #[v] w (ActsOut w aa) := by
  obtain ⟨i0, hi, hz0, hz1, hz2⟩ := info_parts inf36
  obtain ⟨oa, cap, rfl⟩ := h.slice
  go_enter Tryz.func18, Tryz.ntmps18
  go_wp2
  go_loopw [3, 4] (fun vo i wr => ∃ (k : Nat) (xs : List Value), k ≤ aa.length ∧ i = .int .i64 k ∧ wr.ownsRow w.heap.size 36 8 vo k xs ∧ Built wr vo.ownBlock (aa.take k) xs ∧ Below w.heap.size w wr) (fun _ i _ => aa.length - (intOf i).toNat)
  case atStart => exact ⟨0, [], Nat.zero_le _, rfl, World.ownsRow_nil _ _ _ _, Built.nil _ _, Below.refl _ _⟩
  case round =>
    obtain ⟨k, xs, hk, rfl, hown, hbl, hbw⟩ := hrel
    by_cases hlt : k < aa.length
    · have hlt' : (k : Int) < (aa.length : Int) := by omega
      obtain ⟨a, ha⟩ : ∃ a, aa[k]? = some a := ⟨aa[k], List.getElem?_eq_getElem hlt⟩
      obtain ⟨b, off, cap', ax, cx, ay, cy, ev, c0, c1, c2, c3, c4, c5, c6, c7, hx, hy⟩ := (h.below hbw).at ha
      cases ev
      have hfa := hf a (List.mem_of_getElem? ha)
      have hxl : (a.draws.map fun b => (b.toNat : Int)).length ≤ reachBytes := by rw [List.length_map]; have := hfa.draws; unfold reachBytes; omega
      have hyl : a.tails.length * 8 ≤ reachBytes := by have := hfa.long; unfold reachBytes; omega
      have hcall := act_calls a.kind a.now a.outcome a.n a.dir a.raw _ _ _ _ wr hx hy hxl hyl
      have htk : aa.take (k + 1) = aa.take k ++ [a] := by rw [List.take_add_one, ha]; rfl
      clear hx hy hxl hyl ha hfa
      obtain ⟨vg, vc, rfl⟩ := own_slice8 hown
      have hrow : ∀ g, (Value.slice vg k vc).ownBlock = some g → g < wr.heap.size := fun g hg => (hown.lt g hg).2
      go_wp2_with (first
        | (go_at_call 14; refine hcall.mono ?_; clear hcall; rintro e w1 ⟨x', y', rfl, hx1, hy1, bel1⟩; (obtain ⟨ax1, cx1, rfl⟩ := hx1.1.slice); (obtain ⟨ay1, cy1, rfl⟩ := hy1.1.slice); rw [List.length_map] at hx1)
        | (at_builtin; generalize hX : wpList _ _ _ _ _ _ = X))
      rw [← hX]
      clear hX
      refine wpList_append_lies _ rfl _ _ 22 rfl w.heap.size 36 i0 _ 8 104 Tryz.underlying22 hi hz0 hz1 hz2 rfl (by decide) (.slice vg k vc) k xs rfl ((own_belowS hown bel1).alloc _) ⟨w1.heap.size, 0, none⟩ 1 1 (actCells a ax1 cx1 ay1 cy1) rfl rfl ?_ (act_one _ _ _ _ _) (by decide) (by unfold maxLen; omega) (by omega) (by have h1 := hbw.size; have h2 := bel1.size; simp; omega) _ rfl ?_
      · intro j u hj
        have hc := (Box.new w1 (actCells a ax1 cx1 ay1 cy1).toArray 36).2.1 j
        rw [show (⟨w1.heap.size, 0, none⟩ : Addr).add j = ⟨w1.heap.size, j, none⟩ by (simp [Addr.add]; try omega)]
        exact hc.trans hj
      · intro g cap2 w3 hown3 hg3 hat hlt3
        have B1 : Built (w1.alloc (.cells (actCells a ax1 cx1 ay1 cy1).toArray 36)) (Value.slice vg k vc).ownBlock (aa.take (k + 1)) (xs ++ actCells a ax1 cx1 ay1 cy1) := by
          rw [htk]
          have ba : Below w1.heap.size w1 (w1.alloc (.cells (actCells a ax1 cx1 ay1 cy1).toArray 36)) := (Below.refl _ _).alloc (Nat.le_refl _) _
          exact ((hbl.below bel1).below ba).push a ((Apart.of_new (w0 := w) hx1 hrow).below ba) ((Apart.of_new (w0 := w) hy1 hrow).below ba)
        have B3 := B1.moved hg3 rfl hat
        have hb3 : Below w.heap.size w w3 := ((hbw.trans (bel1.mono hbw.size)).alloc (Nat.le_trans hbw.size bel1.size) _).grown hg3 (by have h1 := hbw.size; have h2 := bel1.size; simp; omega) fun g hg => (hown.lt g hg).1
        clear hrow hg3 hat B1 hown hbl hx1 hy1 htk
        go_wp2
        refine ⟨⟨k + 1, _, hlt, (by first | rfl | simp), hown3, B3, hb3⟩, ?_⟩
        simp only [intOf]
        omega
    · have hge : ¬ (k : Int) < (aa.length : Int) := by omega
      obtain rfl : k = aa.length := by omega
      rw [List.take_length] at hbl
      have hA := Built.acts hbl rfl hown
      obtain ⟨vg, vc, rfl⟩ := own_slice8 hown
      go_wp2
      go_ret
      unfold ActsOut
      exact ⟨_, rfl, hA, hbw⟩
end Go.Proofs.YtbfoocginkdmcaaGreatDoor

/-
  Slices of turns that came in; the reference's Tell.
-/

set_option linter.unusedVariables false
set_option maxRecDepth 100000
set_option maxHeartbeats 4000000
namespace Go.Proofs.YtbfoocginkdmcaaGreatDoor
open Go Go.RowKit Go.Basic Go.ArgS Go.Scr Go.Lib

/-- The cells of a turn. -/
def turnCells (t : PTurn) (ax : Option Addr) (cx : Nat) (ay : Option Addr) (cy : Nat) : List Value := actCells t.act ax cx ay cy ++ [.bool t.done, .string t.raw, .int .i64 t.why]

def IsTurns (w : World) (v : Value) (tt : List PTurn) : Prop :=
  (∃ oa cap, v = .slice oa 0 cap ∧ tt = [] ∧ (oa = none → cap = 0)) ∨ ∃ b off cap, v = .slice (some ⟨b, off, none⟩) tt.length cap ∧ ∀ (i : Nat) t, tt[i]? = some t → ∃ ax cx ay cy,
    ∀ (j : Nat) c, (turnCells t ax cx ay cy)[j]? = some c → w.cell? ⟨b, off + i * 11 + j, none⟩ = some c

theorem IsTurns.below {w w' : World} {v : Value} {tt : List PTurn} (h : IsTurns w v tt) (hb : Below w.heap.size w w') : IsTurns w' v tt := by
  rcases h with h | ⟨b, off, cap, e, hc⟩
  · exact .inl h
  · refine .inr ⟨b, off, cap, e, fun i t hi => ?_⟩
    obtain ⟨ax, cx, ay, cy, h1⟩ := hc i t hi
    refine ⟨ax, cx, ay, cy, fun j c hj => ?_⟩
    have h4 := h1 j c hj
    exact (World.cell?_of_block (hb.block _ (World.block_lt_of_cell? w _ h4))).trans h4

theorem IsTurns.slice {w : World} {v : Value} {tt : List PTurn} (h : IsTurns w v tt) : ∃ oa cap, v = .slice oa tt.length cap := by
  rcases h with ⟨oa, cap, rfl, rfl, _⟩ | ⟨b, off, cap, rfl, _⟩
  · exact ⟨_, _, rfl⟩
  · exact ⟨_, _, rfl⟩

theorem IsTurns.at {w : World} {v : Value} {tt : List PTurn} (h : IsTurns w v tt) {k : Nat} {t : PTurn} (hk : tt[k]? = some t) :
    ∃ b off cap ax cx ay cy, v = .slice (some ⟨b, off, none⟩) tt.length cap ∧ w.cell? ⟨b, off + k * 11, none⟩ = some (.int .i64 t.act.kind) ∧ w.cell? ⟨b, off + k * 11 + 1, none⟩ = some (.string t.act.raw) ∧ w.cell? ⟨b, off + k * 11 + 2, none⟩ = some (.slice ax t.act.draws.length cx) ∧ w.cell? ⟨b, off + k * 11 + 3, none⟩ = some (.int .u64 (t.act.now : Int)) ∧ w.cell? ⟨b, off + k * 11 + 4, none⟩ = some (.int .i64 t.act.outcome) ∧ w.cell? ⟨b, off + k * 11 + 5, none⟩ = some (.int .i64 t.act.n) ∧ w.cell? ⟨b, off + k * 11 + 6, none⟩ = some (.int .i64 t.act.dir) ∧ w.cell? ⟨b, off + k * 11 + 7, none⟩ = some (.slice ay t.act.tails.length cy) ∧ w.cell? ⟨b, off + k * 11 + 8, none⟩ = some (.bool t.done) ∧ w.cell? ⟨b, off + k * 11 + 9, none⟩ = some (.string t.raw) ∧ w.cell? ⟨b, off + k * 11 + 10, none⟩ = some (.int .i64 t.why) := by
  rcases h with ⟨_, _, _, rfl, _⟩ | ⟨b, off, cap, rfl, hc⟩
  · simp at hk
  · obtain ⟨ax, cx, ay, cy, h1⟩ := hc k t hk
    exact ⟨b, off, cap, ax, cx, ay, cy, rfl, h1 0 _ rfl, h1 1 _ rfl, h1 2 _ rfl, h1 3 _ rfl, h1 4 _ rfl, h1 5 _ rfl, h1 6 _ rfl, h1 7 _ rfl, h1 8 _ rfl, h1 9 _ rfl, h1 10 _ rfl⟩

structure TFits (t : PTurn) : Prop where
  why : -9223372036854775808 ≤ t.why ∧ t.why ≤ 9223372036854775807
  raw : t.raw.size ≤ 1100000

theorem tale_take (tt : List PTurn) (k : Nat) {t : PTurn} (h : tt[k]? = some t) : tale (tt.take (k + 1)) = tale (tt.take k) ++ tellOne t := by
  rw [List.take_add_one, h]
  simp [tale]

theorem tale_len_take (tt : List PTurn) (k : Nat) : (tale (tt.take k)).length ≤ (tale tt).length := by
  have : tt = tt.take k ++ tt.drop k := (List.take_append_drop k tt).symm
  conv => rhs; rw [this]
  simp only [tale, List.flatMap_append, List.length_append]
  omega

def TellOut (w : World) (tt : List PTurn) (e : Ending) (w' : World) : Prop := ∃ S : ByteArray, e = .returned (.string S) ∧ S.data.toList = tale tt ∧ Below w.heap.size w w'

set_option maxHeartbeats 8000000 in
theorem refTell_calls (v : Value) (tt : List PTurn) (w : World) (h : IsTurns w v tt) (hf : ∀ t ∈ tt, TFits t) (hl : tt.length ≤ 1100000) (hT : (tale tt).length ≤ 100000000) :
    Calls Tryz.prog 22 #[v] w (TellOut w tt) := by
  obtain ⟨oa, cap, rfl⟩ := h.slice
  obtain ⟨i0, hi, hz0, hz1, hz2⟩ := info_parts inf5
  go_enter Tryz.func22, Tryz.ntmps22
  go_wp2
  go_loopw [3, 4] (fun vo i wr => ∃ k m : Nat, k ≤ tt.length ∧ i = .int .i64 k ∧ m ≤ 100000000 ∧ Hid (m = (tale (tt.take k)).length) ∧ wr.ownsRow w.heap.size 5 1 vo m (byteCells (tale (tt.take k))) ∧ Below w.heap.size w wr) (fun _ i _ => tt.length - (intOf i).toNat)
  case atStart => exact ⟨0, 0, Nat.zero_le _, rfl, by omega, rfl, World.ownsRow_nil _ _ _ _, Below.refl _ _⟩
  case round =>
    obtain ⟨k, m, hk, rfl, hm1, hm, hown, hbw⟩ := hrel
    by_cases hlt : k < tt.length
    · have hlt' : (k : Int) < (tt.length : Int) := by omega
      obtain ⟨t, ht⟩ : ∃ t, tt[k]? = some t := ⟨tt[k], List.getElem?_eq_getElem hlt⟩
      obtain ⟨b, off, cap', ax, cx, ay, cy, ev, c0, c1, c2, c3, c4, c5, c6, c7, c8, c9, c10⟩ := (h.below hbw).at ht
      cases ev
      have hft := hf t (List.mem_of_getElem? ht)
      have hy0 := hft.why.1
      have hy1 := hft.why.2
      have hraw := hft.raw
      have hsl : t.raw.data.toList.length = t.raw.size := by simp
      obtain ⟨gc, bw, hbb⟩ := bytes_of t.raw
      have hconv := fun w0 => (hbb w0).1
      have hB := fun w0 => (hbb w0).2.1
      have hBel := fun w0 => (hbb w0).2.2
      clear hbb
      have hst := tale_take tt k ht
      have hll := tale_len_take tt (k + 1)
      rw [hst, List.length_append] at hll
      have hmm : m + (tellOne t).length ≤ 100000000 := by rw [show m = _ from hm]; omega
      clear hst hll
      cases hdn : t.done with
      | true =>
        rw [hdn] at c8
        go_wp2_with fail
        have BX : Box (wr.alloc (.cells #[.int .i64 t.act.kind, .string t.act.raw, .slice ax t.act.draws.length cx, .int .u64 (t.act.now : Int), .int .i64 t.act.outcome, .int .i64 t.act.n, .int .i64 t.act.dir, .slice ay t.act.tails.length cy, .bool true, .string t.raw, .int .i64 t.why] 42)) wr.heap.size [.int .i64 t.act.kind, .string t.act.raw, .slice ax t.act.draws.length cx, .int .u64 (t.act.now : Int), .int .i64 t.act.outcome, .int .i64 t.act.n, .int .i64 t.act.dir, .slice ay t.act.tails.length cy, .bool true, .string t.raw, .int .i64 t.why] := Box.new wr #[.int .i64 t.act.kind, .string t.act.raw, .slice ax t.act.draws.length cx, .int .u64 (t.act.now : Int), .int .i64 t.act.outcome, .int .i64 t.act.n, .int .i64 t.act.dir, .slice ay t.act.tails.length cy, .bool true, .string t.raw, .int .i64 t.why] 42
        have b0 : Below wr.heap.size wr (wr.alloc (.cells #[.int .i64 t.act.kind, .string t.act.raw, .slice ax t.act.draws.length cx, .int .u64 (t.act.now : Int), .int .i64 t.act.outcome, .int .i64 t.act.n, .int .i64 t.act.dir, .slice ay t.act.tails.length cy, .bool true, .string t.raw, .int .i64 t.why] 42)) := (Below.refl _ _).alloc (Nat.le_refl _) _
        have hownW := hown.alloc (.cells #[.int .i64 t.act.kind, .string t.act.raw, .slice ax t.act.draws.length cx, .int .u64 (t.act.now : Int), .int .i64 t.act.outcome, .int .i64 t.act.n, .int .i64 t.act.dir, .slice ay t.act.tails.length cy, .bool true, .string t.raw, .int .i64 t.why] 42)
        generalize wr.alloc (.cells #[.int .i64 t.act.kind, .string t.act.raw, .slice ax t.act.draws.length cx, .int .u64 (t.act.now : Int), .int .i64 t.act.outcome, .int .i64 t.act.n, .int .i64 t.act.dir, .slice ay t.act.tails.length cy, .bool true, .string t.raw, .int .i64 t.why] 42) = W at *
        have hS : ∀ w' : World, Below W.heap.size W w' → w'.cell? ⟨wr.heap.size, 9, none⟩ = some (.string t.raw) ∧ w'.cell? ⟨wr.heap.size, 10, none⟩ = some (.int .i64 t.why) := fun w' h => ⟨(BX.below h (Box.lt BX)).at 9 rfl, (BX.below h (Box.lt BX)).at 10 rfl⟩
        have bD : Below W.heap.size W W.drew := (Below.refl _ _).drew
        have hBD : IsB (bw W.drew) (.slice (some ⟨W.heap.size, 0, none⟩) t.raw.size (gc W.drew)) t.raw.data.toList := hB W.drew
        have bE : Below W.heap.size W (bw W.drew) := bD.trans (hBel W.drew)
        rw [cvt_eq]
        go_region_held3 (fun w' => w'.cell? ⟨wr.heap.size, 9, none⟩ = some (.string t.raw) ∧ w'.cell? ⟨wr.heap.size, 10, none⟩ = some (.int .i64 t.why)) (first | (with_reducible exact hS _ bD) | (with_reducible exact hS _ b1) | (with_reducible exact hS _ b1w) | (with_reducible exact hS _ bE) | (with_reducible exact hS _ b2)) (first
          | (go_at_call 44; (with_reducible refine (refWhole_calls t.why hy0 hy1 W.drew).mono ?_); rintro e w1 ⟨S1, rfl, hS1, bel1⟩; (have hz1 : S1.size ≤ 21 := by (rw [size_of_list hS1]; exact itoa_len t.why hy0 hy1)); (have y1 : ¬ 9223372036854775807 < 5 + S1.size := by omega); (have y2 : ¬ 9223372036854775807 < 5 + S1.size + 1 := by omega); (have b1 : Below W.heap.size W w1 := bD.trans bel1); (have b1w : Below W.heap.size W (bw w1) := b1.trans ((hBel w1).mono b1.size)))
          | (go_at_call 45; (with_reducible refine (word_calls _ t.raw.data.toList (bw w1) (hB w1) (by omega)).mono ?_); rintro e w2 ⟨S2, rfl, hS2, bel2⟩; (have hz2 : S2.size ≤ 3000000 := by (rw [size_of_list hS2]; exact word_le' _ (by omega))); (have y3 : ¬ 9223372036854775807 < 5 + S1.size + 1 + S2.size := by omega); (have b2 : Below W.heap.size W w2 := b1w.trans (bel2.mono b1w.size)))
          | (go_at_call 44; (with_reducible refine (refWhole_calls t.why hy0 hy1 (bw W.drew)).mono ?_); rintro e w1 ⟨S1, rfl, hS1, bel1⟩; (have hz1 : S1.size ≤ 21 := by (rw [size_of_list hS1]; exact itoa_len t.why hy0 hy1)); (have y1 : ¬ 9223372036854775807 < 5 + S1.size := by omega); (have y2 : ¬ 9223372036854775807 < 5 + S1.size + 1 := by omega); (have b1 : Below W.heap.size W w1 := bE.trans (bel1.mono bE.size)))
          | (go_at_call 45; (with_reducible refine (word_calls _ t.raw.data.toList w1 (IsB.below hBD bel1) (by omega)).mono ?_); rintro e w2 ⟨S2, rfl, hS2, bel2⟩; (have hz2 : S2.size ≤ 3000000 := by (rw [size_of_list hS2]; exact word_le' _ (by omega))); (have y3 : ¬ 9223372036854775807 < 5 + S1.size + 1 + S2.size := by omega); (have b2 : Below W.heap.size W w2 := b1.trans (bel2.mono b1.size))))
        all_goals
          obtain ⟨S0, hS0⟩ : ∃ S0 : ByteArray, S0 = ((⟨#[100, 111, 110, 101, 32]⟩ : ByteArray) ++ S1 ++ ⟨#[32]⟩ ++ S2) := ⟨_, rfl⟩
          have hT : S0.data.toList ++ [10] = tellOne t := by rw [hS0]; simp [tellOne, hdn, hS1, hS2]
          have hS0z : S0.size + 1 = (tellOne t).length := by rw [← hT, List.length_append]; simp
          rw [← hS0]
          have hTh : Hid (S0.data.toList ++ [10] = tellOne t) := hT
          have hb2 : Below wr.heap.size wr w2 := b0.trans (b2.mono b0.size)
          have hown2 := own_below hownW b2
          clear y1 y2 y3 hz1 hz2 hS1 hS2 hS0 hT BX hS hBD
          go_wp2_with (first
            | (at_builtin; refine wpList_append_own_string _ rfl _ _ 30 9 rfl w.heap.size 5 i0 Tryz.underlying30 Tryz.underlying9 hi hz0 hz1 hz2 _ m _ rfl hown2 S0 rfl (by unfold maxLen; omega) (by omega) (by have h1 := hbw.size; have h2 := hb2.size; omega) ?_; intro v2 wA hownA hgA _)
            | (at_builtin; refine wpList_append_own _ rfl _ _ 30 rfl w.heap.size 5 i0 (.int .u8 0) 1 1 Tryz.underlying30 hi hz0 hz1 hz2 rfl (by decide) _ (m + S0.size) _ rfl (hownA.alloc _) ⟨_, 0, none⟩ 1 1 [.int .u8 10] rfl rfl (one_cell _ _ _) (bc_one [10]) (by unfold maxLen; omega) (by omega) (by have h1 := hbw.size; have h2 := hb2.size; have h3 := hgA.size; simp; omega) ?_; intro v3 wB hownB hgB _))
          have hbA : Below w.heap.size w wA := (hbw.trans (hb2.mono hbw.size)).grown hgA (Nat.le_trans hbw.size hb2.size) fun g hg => (hown.lt g hg).1
          have hbB : Below w.heap.size w wB := (hbA.alloc hbA.size _).grown hgB (by have := hbA.size; simp; omega) fun g hg => (hownA.lt g hg).1
          have hst2 := tale_take tt k ht
          have hrow : byteCells (tale (tt.take k)) ++ strCells S0 ++ [Value.int .u8 10] = byteCells (tale (tt.take (k + 1))) := by
            rw [hst2, ← show S0.data.toList ++ [10] = tellOne t from hTh, strCells_eq]
            simp [byteCells]
          have hmeq : m + S0.size + 1 = (tale (tt.take (k + 1))).length := by
            rw [hst2, List.length_append, ← show m = _ from hm, Nat.add_assoc, hS0z]
          rw [hrow] at hownB
          clear hst2 hrow hownA hgA hgB hown
          refine ⟨⟨k + 1, m + S0.size + 1, hlt, (by first | rfl | simp), by omega, hmeq, hownB, hbB⟩, ?_⟩
          simp only [intOf]
          omega
      | false =>
        rw [hdn] at c8
        go_wp2_with fail
        have BX : Box (wr.alloc (.cells #[.int .i64 t.act.kind, .string t.act.raw, .slice ax t.act.draws.length cx, .int .u64 (t.act.now : Int), .int .i64 t.act.outcome, .int .i64 t.act.n, .int .i64 t.act.dir, .slice ay t.act.tails.length cy, .bool false, .string t.raw, .int .i64 t.why] 42)) wr.heap.size [.int .i64 t.act.kind, .string t.act.raw, .slice ax t.act.draws.length cx, .int .u64 (t.act.now : Int), .int .i64 t.act.outcome, .int .i64 t.act.n, .int .i64 t.act.dir, .slice ay t.act.tails.length cy, .bool false, .string t.raw, .int .i64 t.why] := Box.new wr #[.int .i64 t.act.kind, .string t.act.raw, .slice ax t.act.draws.length cx, .int .u64 (t.act.now : Int), .int .i64 t.act.outcome, .int .i64 t.act.n, .int .i64 t.act.dir, .slice ay t.act.tails.length cy, .bool false, .string t.raw, .int .i64 t.why] 42
        have b0 : Below wr.heap.size wr (wr.alloc (.cells #[.int .i64 t.act.kind, .string t.act.raw, .slice ax t.act.draws.length cx, .int .u64 (t.act.now : Int), .int .i64 t.act.outcome, .int .i64 t.act.n, .int .i64 t.act.dir, .slice ay t.act.tails.length cy, .bool false, .string t.raw, .int .i64 t.why] 42)) := (Below.refl _ _).alloc (Nat.le_refl _) _
        have hownW := hown.alloc (.cells #[.int .i64 t.act.kind, .string t.act.raw, .slice ax t.act.draws.length cx, .int .u64 (t.act.now : Int), .int .i64 t.act.outcome, .int .i64 t.act.n, .int .i64 t.act.dir, .slice ay t.act.tails.length cy, .bool false, .string t.raw, .int .i64 t.why] 42)
        generalize wr.alloc (.cells #[.int .i64 t.act.kind, .string t.act.raw, .slice ax t.act.draws.length cx, .int .u64 (t.act.now : Int), .int .i64 t.act.outcome, .int .i64 t.act.n, .int .i64 t.act.dir, .slice ay t.act.tails.length cy, .bool false, .string t.raw, .int .i64 t.why] 42) = W at *
        have hS : ∀ w' : World, Below W.heap.size W w' → w'.cell? ⟨wr.heap.size, 9, none⟩ = some (.string t.raw) ∧ w'.cell? ⟨wr.heap.size, 10, none⟩ = some (.int .i64 t.why) := fun w' h => ⟨(BX.below h (Box.lt BX)).at 9 rfl, (BX.below h (Box.lt BX)).at 10 rfl⟩
        have bD : Below W.heap.size W W.drew := (Below.refl _ _).drew
        have hBD : IsB (bw W.drew) (.slice (some ⟨W.heap.size, 0, none⟩) t.raw.size (gc W.drew)) t.raw.data.toList := hB W.drew
        have bE : Below W.heap.size W (bw W.drew) := bD.trans (hBel W.drew)
        rw [cvt_eq]
        go_region_held3 (fun w' => w'.cell? ⟨wr.heap.size, 9, none⟩ = some (.string t.raw) ∧ w'.cell? ⟨wr.heap.size, 10, none⟩ = some (.int .i64 t.why)) (first | (with_reducible exact hS _ bD) | (with_reducible exact hS _ b1) | (with_reducible exact hS _ b1w) | (with_reducible exact hS _ bE) | (with_reducible exact hS _ b2)) (first
          | (go_at_call 44; (with_reducible refine (refWhole_calls t.why hy0 hy1 W.drew).mono ?_); rintro e w1 ⟨S1, rfl, hS1, bel1⟩; (have hz1 : S1.size ≤ 21 := by (rw [size_of_list hS1]; exact itoa_len t.why hy0 hy1)); (have y1 : ¬ 9223372036854775807 < 5 + S1.size := by omega); (have y2 : ¬ 9223372036854775807 < 5 + S1.size + 1 := by omega); (have b1 : Below W.heap.size W w1 := bD.trans bel1); (have b1w : Below W.heap.size W (bw w1) := b1.trans ((hBel w1).mono b1.size)))
          | (go_at_call 45; (with_reducible refine (word_calls _ t.raw.data.toList (bw w1) (hB w1) (by omega)).mono ?_); rintro e w2 ⟨S2, rfl, hS2, bel2⟩; (have hz2 : S2.size ≤ 3000000 := by (rw [size_of_list hS2]; exact word_le' _ (by omega))); (have y3 : ¬ 9223372036854775807 < 5 + S1.size + 1 + S2.size := by omega); (have b2 : Below W.heap.size W w2 := b1w.trans (bel2.mono b1w.size)))
          | (go_at_call 44; (with_reducible refine (refWhole_calls t.why hy0 hy1 (bw W.drew)).mono ?_); rintro e w1 ⟨S1, rfl, hS1, bel1⟩; (have hz1 : S1.size ≤ 21 := by (rw [size_of_list hS1]; exact itoa_len t.why hy0 hy1)); (have y1 : ¬ 9223372036854775807 < 5 + S1.size := by omega); (have y2 : ¬ 9223372036854775807 < 5 + S1.size + 1 := by omega); (have b1 : Below W.heap.size W w1 := bE.trans (bel1.mono bE.size)))
          | (go_at_call 45; (with_reducible refine (word_calls _ t.raw.data.toList w1 (IsB.below hBD bel1) (by omega)).mono ?_); rintro e w2 ⟨S2, rfl, hS2, bel2⟩; (have hz2 : S2.size ≤ 3000000 := by (rw [size_of_list hS2]; exact word_le' _ (by omega))); (have y3 : ¬ 9223372036854775807 < 5 + S1.size + 1 + S2.size := by omega); (have b2 : Below W.heap.size W w2 := b1.trans (bel2.mono b1.size))))
        all_goals
          obtain ⟨S0, hS0⟩ : ∃ S0 : ByteArray, S0 = ((⟨#[108, 111, 115, 116, 32]⟩ : ByteArray) ++ S1 ++ ⟨#[32]⟩ ++ S2) := ⟨_, rfl⟩
          have hT : S0.data.toList ++ [10] = tellOne t := by rw [hS0]; simp [tellOne, hdn, hS1, hS2]
          have hS0z : S0.size + 1 = (tellOne t).length := by rw [← hT, List.length_append]; simp
          rw [← hS0]
          have hTh : Hid (S0.data.toList ++ [10] = tellOne t) := hT
          have hb2 : Below wr.heap.size wr w2 := b0.trans (b2.mono b0.size)
          have hown2 := own_below hownW b2
          clear y1 y2 y3 hz1 hz2 hS1 hS2 hS0 hT BX hS hBD
          go_wp2_with (first
            | (at_builtin; refine wpList_append_own_string _ rfl _ _ 30 9 rfl w.heap.size 5 i0 Tryz.underlying30 Tryz.underlying9 hi hz0 hz1 hz2 _ m _ rfl hown2 S0 rfl (by unfold maxLen; omega) (by omega) (by have h1 := hbw.size; have h2 := hb2.size; omega) ?_; intro v2 wA hownA hgA _)
            | (at_builtin; refine wpList_append_own _ rfl _ _ 30 rfl w.heap.size 5 i0 (.int .u8 0) 1 1 Tryz.underlying30 hi hz0 hz1 hz2 rfl (by decide) _ (m + S0.size) _ rfl (hownA.alloc _) ⟨_, 0, none⟩ 1 1 [.int .u8 10] rfl rfl (one_cell _ _ _) (bc_one [10]) (by unfold maxLen; omega) (by omega) (by have h1 := hbw.size; have h2 := hb2.size; have h3 := hgA.size; simp; omega) ?_; intro v3 wB hownB hgB _))
          have hbA : Below w.heap.size w wA := (hbw.trans (hb2.mono hbw.size)).grown hgA (Nat.le_trans hbw.size hb2.size) fun g hg => (hown.lt g hg).1
          have hbB : Below w.heap.size w wB := (hbA.alloc hbA.size _).grown hgB (by have := hbA.size; simp; omega) fun g hg => (hownA.lt g hg).1
          have hst2 := tale_take tt k ht
          have hrow : byteCells (tale (tt.take k)) ++ strCells S0 ++ [Value.int .u8 10] = byteCells (tale (tt.take (k + 1))) := by
            rw [hst2, ← show S0.data.toList ++ [10] = tellOne t from hTh, strCells_eq]
            simp [byteCells]
          have hmeq : m + S0.size + 1 = (tale (tt.take (k + 1))).length := by
            rw [hst2, List.length_append, ← show m = _ from hm, Nat.add_assoc, hS0z]
          rw [hrow] at hownB
          clear hst2 hrow hownA hgA hgB hown
          refine ⟨⟨k + 1, m + S0.size + 1, hlt, (by first | rfl | simp), by omega, hmeq, hownB, hbB⟩, ?_⟩
          simp only [intOf]
          omega
    · have hge : ¬ (k : Int) < (tt.length : Int) := by omega
      obtain rfl : k = tt.length := by omega
      rw [List.take_length] at hown
      have hm' : m = (tale tt).length := by rw [show m = _ from hm, List.take_length]
      have hst := string_of_own hm' hown
      obtain ⟨ao, co, eo⟩ := own_sl hown
      subst eo
      clear hm hm' hown
      go_wp2
      go_ret
      unfold TellOut
      exact ⟨⟨(tale tt).toArray⟩, rfl, rfl, hbw⟩
end Go.Proofs.YtbfoocginkdmcaaGreatDoor

/-
  The server's Tell.
-/

set_option linter.unusedVariables false
set_option maxRecDepth 100000
set_option maxHeartbeats 4000000
namespace Go.Proofs.YtbfoocginkdmcaaGreatDoor
open Go Go.RowKit Go.Basic Go.ArgS Go.Scr Go.Lib

theorem others_block42 {w w' : World} {bk k : Nat} {c : Array Value} (h : OthersKept 5 (some bk) w w') (hk : w.heap[k]? = some (.cells c 42 (0, 0))) (hne : k ≠ bk) : w'.heap[k]? = some (.cells c 42 (0, 0)) :=
  h k _ hk (by simpa using hne) (fun c' fz e => by simp at e)

theorem tell_row_t (tt : List PTurn) (k : Nat) {t : PTurn} (ht : tt[k]? = some t) (hdn : t.done = true) (S1 S2 : ByteArray) (hS1 : S1.data.toList = itoa t.why) (hS2 : S2.data.toList = word t.raw.data.toList) :
    byteCells (tale (tt.take k)) ++ strCells ((⟨#[100, 111, 110, 101]⟩ : ByteArray) ++ ⟨#[32]⟩ ++ S1 ++ ⟨#[32]⟩ ++ S2 ++ ⟨#[10]⟩) = byteCells (tale (tt.take (k + 1))) := by
  rw [tale_take tt k ht, strCells_eq]
  simp [byteCells, tellOne, hdn, hS1, hS2]

theorem tell_row_f (tt : List PTurn) (k : Nat) {t : PTurn} (ht : tt[k]? = some t) (hdn : t.done = false) (S1 S2 : ByteArray) (hS1 : S1.data.toList = itoa t.why) (hS2 : S2.data.toList = word t.raw.data.toList) :
    byteCells (tale (tt.take k)) ++ strCells ((⟨#[108, 111, 115, 116]⟩ : ByteArray) ++ ⟨#[32]⟩ ++ S1 ++ ⟨#[32]⟩ ++ S2 ++ ⟨#[10]⟩) = byteCells (tale (tt.take (k + 1))) := by
  rw [tale_take tt k ht, strCells_eq]
  simp [byteCells, tellOne, hdn, hS1, hS2]

set_option maxHeartbeats 8000000 in
theorem tell_calls (v : Value) (tt : List PTurn) (w : World) (h : IsTurns w v tt) (hf : ∀ t ∈ tt, TFits t) (hl : tt.length ≤ 1100000) (hT : (tale tt).length ≤ 100000000) (htab : Tab w) :
    Calls Tryz.prog 21 #[v] w (TellOut w tt) := by
  obtain ⟨oa, cap, rfl⟩ := h.slice
  have hlenI : (tt.length : Int) ≤ 9223372036854775807 := by omega
  have hsz1 : (⟨#[100, 111, 110, 101]⟩ : ByteArray).size = 4 := rfl
  have hsz1' : (⟨#[108, 111, 115, 116]⟩ : ByteArray).size = 4 := rfl
  have hsz2 : (⟨#[32]⟩ : ByteArray).size = 1 := rfl
  have hsz3 : (⟨#[10]⟩ : ByteArray).size = 1 := rfl
  go_enter Tryz.func21, Tryz.ntmps21
  go_wp2
  have hI0 : IsBuilderF 83 5 w.heap.size w.heap.size (byteCells (tale (tt.take 0))) (w.alloc (.cells #[.pointer none, .slice none 0 0] 83)) := IsBuilderF.of (fresh_isBuilder 83 5 w)
  go_loopw [9] (fun i wr => ∃ k : Nat, k ≤ tt.length ∧ i = .int .i64 k ∧ IsBuilderF 83 5 w.heap.size w.heap.size (byteCells (tale (tt.take k))) wr ∧ Below w.heap.size w wr) (fun i _ => tt.length - (intOf i).toNat)
  case atStart => exact ⟨0, Nat.zero_le _, rfl, hI0, (Below.refl _ _).alloc (Nat.le_refl _) _⟩
  case round =>
    clear hI0
    obtain ⟨k, hk, rfl, hI, hbw⟩ := hrel
    by_cases hlt : k < tt.length
    · have hlt' : (k : Int) < (tt.length : Int) := by omega
      obtain ⟨t, ht⟩ : ∃ t, tt[k]? = some t := ⟨tt[k], List.getElem?_eq_getElem hlt⟩
      obtain ⟨b, off, cap', ax, cx, ay, cy, ev, c0, c1, c2, c3, c4, c5, c6, c7, c8, c9, c10⟩ := (h.below hbw).at ht
      cases ev
      have hft := hf t (List.mem_of_getElem? ht)
      have hy0 := hft.why.1
      have hy1 := hft.why.2
      have hraw := hft.raw
      have hsl : t.raw.data.toList.length = t.raw.size := by simp
      have hbk := builder_lt hI
      obtain ⟨gc, bw, hbb⟩ := bytes_of t.raw
      have hconv := fun w0 => (hbb w0).1
      have hB := fun w0 => (hbb w0).2.1
      have hBel := fun w0 => (hbb w0).2.2
      clear hbb
      have hst := tale_take tt k ht
      have hll := tale_len_take tt k
      have hsz : ∀ s : ByteArray, s.size ≤ 4000000 → (byteCells (tale (tt.take k))).length + s.size ≤ 140737488355328 := fun s hs => by rw [byteCells_length]; omega
      clear hst hll
      cases hdn : t.done with
      | true =>
        rw [hdn] at c8
        go_wp2_with fail
        have BX : Box (wr.alloc (.cells #[.int .i64 t.act.kind, .string t.act.raw, .slice ax t.act.draws.length cx, .int .u64 (t.act.now : Int), .int .i64 t.act.outcome, .int .i64 t.act.n, .int .i64 t.act.dir, .slice ay t.act.tails.length cy, .bool true, .string t.raw, .int .i64 t.why] 42)) wr.heap.size [.int .i64 t.act.kind, .string t.act.raw, .slice ax t.act.draws.length cx, .int .u64 (t.act.now : Int), .int .i64 t.act.outcome, .int .i64 t.act.n, .int .i64 t.act.dir, .slice ay t.act.tails.length cy, .bool true, .string t.raw, .int .i64 t.why] := Box.new wr #[.int .i64 t.act.kind, .string t.act.raw, .slice ax t.act.draws.length cx, .int .u64 (t.act.now : Int), .int .i64 t.act.outcome, .int .i64 t.act.n, .int .i64 t.act.dir, .slice ay t.act.tails.length cy, .bool true, .string t.raw, .int .i64 t.why] 42
        have b0 : Below wr.heap.size wr (wr.alloc (.cells #[.int .i64 t.act.kind, .string t.act.raw, .slice ax t.act.draws.length cx, .int .u64 (t.act.now : Int), .int .i64 t.act.outcome, .int .i64 t.act.n, .int .i64 t.act.dir, .slice ay t.act.tails.length cy, .bool true, .string t.raw, .int .i64 t.why] 42)) := (Below.refl _ _).alloc (Nat.le_refl _) _
        have hblk : (wr.alloc (.cells #[.int .i64 t.act.kind, .string t.act.raw, .slice ax t.act.draws.length cx, .int .u64 (t.act.now : Int), .int .i64 t.act.outcome, .int .i64 t.act.n, .int .i64 t.act.dir, .slice ay t.act.tails.length cy, .bool true, .string t.raw, .int .i64 t.why] 42)).heap[wr.heap.size]? = some (.cells #[.int .i64 t.act.kind, .string t.act.raw, .slice ax t.act.draws.length cx, .int .u64 (t.act.now : Int), .int .i64 t.act.outcome, .int .i64 t.act.n, .int .i64 t.act.dir, .slice ay t.act.tails.length cy, .bool true, .string t.raw, .int .i64 t.why] 42 (0, 0)) := heap_alloc_new _ _
        have hltW : wr.heap.size < (wr.alloc (.cells #[.int .i64 t.act.kind, .string t.act.raw, .slice ax t.act.draws.length cx, .int .u64 (t.act.now : Int), .int .i64 t.act.outcome, .int .i64 t.act.n, .int .i64 t.act.dir, .slice ay t.act.tails.length cy, .bool true, .string t.raw, .int .i64 t.why] 42)).heap.size := by simp
        have htabW : Tab (wr.alloc (.cells #[.int .i64 t.act.kind, .string t.act.raw, .slice ax t.act.draws.length cx, .int .u64 (t.act.now : Int), .int .i64 t.act.outcome, .int .i64 t.act.n, .int .i64 t.act.dir, .slice ay t.act.tails.length cy, .bool true, .string t.raw, .int .i64 t.why] 42)) := tab_below htab (hbw.alloc hbw.size _)
        generalize wr.alloc (.cells #[.int .i64 t.act.kind, .string t.act.raw, .slice ax t.act.draws.length cx, .int .u64 (t.act.now : Int), .int .i64 t.act.outcome, .int .i64 t.act.n, .int .i64 t.act.dir, .slice ay t.act.tails.length cy, .bool true, .string t.raw, .int .i64 t.why] 42) = W at *
        have hS : ∀ w' : World, Below W.heap.size W w' → w'.cell? ⟨wr.heap.size, 9, none⟩ = some (.string t.raw) ∧ w'.cell? ⟨wr.heap.size, 10, none⟩ = some (.int .i64 t.why) := fun w' h => ⟨(BX.below h (Box.lt BX)).at 9 rfl, (BX.below h (Box.lt BX)).at 10 rfl⟩
        have hS5 : ∀ w' w5 : World, Below W.heap.size W w' → OthersKept 5 (some w.heap.size) w' w5 → w5.cell? ⟨wr.heap.size, 9, none⟩ = some (.string t.raw) ∧ w5.cell? ⟨wr.heap.size, 10, none⟩ = some (.int .i64 t.why) := fun w' w5 h hk => by
          have hb5 := (others_block42 hk ((h.block _ hltW).trans hblk) (Nat.ne_of_gt hbk))
          exact ⟨cell_of_row w5 _ 9 _ 42 _ hb5, cell_of_row w5 _ 10 _ 42 _ hb5⟩
        have hI2 : ∀ w' : World, Below W.heap.size W w' → IsBuilderF 83 5 w.heap.size w.heap.size (byteCells (tale (tt.take k))) w' := fun w' h => builder_below hI (b0.trans (h.mono b0.size))
        have bD : Below W.heap.size W W.drew := (Below.refl _ _).drew
        have hBD : IsB (bw W.drew) (.slice (some ⟨W.heap.size, 0, none⟩) t.raw.size (gc W.drew)) t.raw.data.toList := hB W.drew
        have bE : Below W.heap.size W (bw W.drew) := bD.trans (hBel W.drew)
        have htabD : Tab W.drew := tab_below htabW bD
        have htabE : Tab (bw W.drew) := tab_below htabW bE
        clear hI hblk
        rw [cvt_eq]
        go_region_held3 (fun w' => w'.cell? ⟨wr.heap.size, 9, none⟩ = some (.string t.raw) ∧ w'.cell? ⟨wr.heap.size, 10, none⟩ = some (.int .i64 t.why)) (first | (with_reducible exact hS _ bD) | (with_reducible exact hS _ b1) | (with_reducible exact hS _ b1w) | (with_reducible exact hS _ bE) | (with_reducible exact hS _ b2) | (with_reducible exact hS4)) (first
          | (go_at_call 43; (with_reducible refine (itoaB_calls t.why hy0 hy1 W.drew htabD).mono ?_); rintro e w1 ⟨S1, rfl, hS1, bel1⟩; (have hz1 : S1.size ≤ 21 := by (rw [size_of_list hS1]; exact itoa_len t.why hy0 hy1)); (have y1 : ¬ 9223372036854775807 < 5 + S1.size := by omega); (have y2 : ¬ 9223372036854775807 < 5 + S1.size + 1 := by omega); (have b1 : Below W.heap.size W w1 := bD.trans bel1); (have b1w : Below W.heap.size W (bw w1) := b1.trans ((hBel w1).mono b1.size)))
          | (go_at_call 38; (with_reducible refine (coded_calls _ t.raw.data.toList (bw w1) (hB w1) (by omega)).mono ?_); rintro e w2 ⟨S2, rfl, hS2, bel2⟩; (have hz2 : S2.size ≤ 3000000 := by (rw [size_of_list hS2]; exact word_le' _ (by omega))); (have y3 : ¬ 9223372036854775807 < 5 + S1.size + 1 + S2.size := by omega); (have y4 : ¬ 9223372036854775807 < 5 + S1.size + 1 + S2.size + 1 := by omega); (have b2 : Below W.heap.size W w2 := b1w.trans (bel2.mono b1w.size)))
          | (go_at_call 43; (with_reducible refine (itoaB_calls t.why hy0 hy1 (bw W.drew) htabE).mono ?_); rintro e w1 ⟨S1, rfl, hS1, bel1⟩; (have hz1 : S1.size ≤ 21 := by (rw [size_of_list hS1]; exact itoa_len t.why hy0 hy1)); (have y1 : ¬ 9223372036854775807 < 5 + S1.size := by omega); (have y2 : ¬ 9223372036854775807 < 5 + S1.size + 1 := by omega); (have b1 : Below W.heap.size W w1 := bE.trans (bel1.mono bE.size)))
          | (go_at_call 38; (with_reducible refine (coded_calls _ t.raw.data.toList w1 (IsB.below hBD bel1) (by omega)).mono ?_); rintro e w2 ⟨S2, rfl, hS2, bel2⟩; (have hz2 : S2.size ≤ 3000000 := by (rw [size_of_list hS2]; exact word_le' _ (by omega))); (have y3 : ¬ 9223372036854775807 < 5 + S1.size + 1 + S2.size := by omega); (have y4 : ¬ 9223372036854775807 < 5 + S1.size + 1 + S2.size + 1 := by omega); (have b2 : Below W.heap.size W w2 := b1.trans (bel2.mono b1.size)))
          | (go_at_call 37; (with_reducible refine (writeString_calls w.heap.size w.heap.size (byteCells (tale (tt.take k))) _ w2 (hI2 w2 b2) (hsz _ (by (simp only [ByteArray.size_append]; simp only [hsz1, hsz2, hsz3]; omega))) (Nat.le_trans hbw.size (Nat.le_trans b0.size b2.size))).mono ?_); rintro e w4 ⟨rfl, hB4, bel4, ok4⟩; (have hS4 := hS5 w2 w4 b2 ok4)))
        all_goals
          have hrow := tell_row_t tt k ht hdn S1 S2 hS1 hS2
          have hI4 : IsBuilderF 83 5 w.heap.size w.heap.size (byteCells (tale (tt.take (k + 1)))) w4 := .inr (by rw [← hrow]; exact hB4)
          have hb4 : Below w.heap.size w w4 := (hbw.trans ((b0.trans (b2.mono b0.size)).mono hbw.size)).trans bel4
          clear hB4 ok4 bel4 hrow hS hS4 hS5 hS1 hS2 y1 y2 y3 y4 hz1 hz2 BX hI2
          go_wp2
          refine ⟨⟨k + 1, hlt, (by first | rfl | simp), hI4, hb4⟩, ?_⟩
          simp only [intOf]
          omega
      | false =>
        rw [hdn] at c8
        go_wp2_with fail
        have BX : Box (wr.alloc (.cells #[.int .i64 t.act.kind, .string t.act.raw, .slice ax t.act.draws.length cx, .int .u64 (t.act.now : Int), .int .i64 t.act.outcome, .int .i64 t.act.n, .int .i64 t.act.dir, .slice ay t.act.tails.length cy, .bool false, .string t.raw, .int .i64 t.why] 42)) wr.heap.size [.int .i64 t.act.kind, .string t.act.raw, .slice ax t.act.draws.length cx, .int .u64 (t.act.now : Int), .int .i64 t.act.outcome, .int .i64 t.act.n, .int .i64 t.act.dir, .slice ay t.act.tails.length cy, .bool false, .string t.raw, .int .i64 t.why] := Box.new wr #[.int .i64 t.act.kind, .string t.act.raw, .slice ax t.act.draws.length cx, .int .u64 (t.act.now : Int), .int .i64 t.act.outcome, .int .i64 t.act.n, .int .i64 t.act.dir, .slice ay t.act.tails.length cy, .bool false, .string t.raw, .int .i64 t.why] 42
        have b0 : Below wr.heap.size wr (wr.alloc (.cells #[.int .i64 t.act.kind, .string t.act.raw, .slice ax t.act.draws.length cx, .int .u64 (t.act.now : Int), .int .i64 t.act.outcome, .int .i64 t.act.n, .int .i64 t.act.dir, .slice ay t.act.tails.length cy, .bool false, .string t.raw, .int .i64 t.why] 42)) := (Below.refl _ _).alloc (Nat.le_refl _) _
        have hblk : (wr.alloc (.cells #[.int .i64 t.act.kind, .string t.act.raw, .slice ax t.act.draws.length cx, .int .u64 (t.act.now : Int), .int .i64 t.act.outcome, .int .i64 t.act.n, .int .i64 t.act.dir, .slice ay t.act.tails.length cy, .bool false, .string t.raw, .int .i64 t.why] 42)).heap[wr.heap.size]? = some (.cells #[.int .i64 t.act.kind, .string t.act.raw, .slice ax t.act.draws.length cx, .int .u64 (t.act.now : Int), .int .i64 t.act.outcome, .int .i64 t.act.n, .int .i64 t.act.dir, .slice ay t.act.tails.length cy, .bool false, .string t.raw, .int .i64 t.why] 42 (0, 0)) := heap_alloc_new _ _
        have hltW : wr.heap.size < (wr.alloc (.cells #[.int .i64 t.act.kind, .string t.act.raw, .slice ax t.act.draws.length cx, .int .u64 (t.act.now : Int), .int .i64 t.act.outcome, .int .i64 t.act.n, .int .i64 t.act.dir, .slice ay t.act.tails.length cy, .bool false, .string t.raw, .int .i64 t.why] 42)).heap.size := by simp
        have htabW : Tab (wr.alloc (.cells #[.int .i64 t.act.kind, .string t.act.raw, .slice ax t.act.draws.length cx, .int .u64 (t.act.now : Int), .int .i64 t.act.outcome, .int .i64 t.act.n, .int .i64 t.act.dir, .slice ay t.act.tails.length cy, .bool false, .string t.raw, .int .i64 t.why] 42)) := tab_below htab (hbw.alloc hbw.size _)
        generalize wr.alloc (.cells #[.int .i64 t.act.kind, .string t.act.raw, .slice ax t.act.draws.length cx, .int .u64 (t.act.now : Int), .int .i64 t.act.outcome, .int .i64 t.act.n, .int .i64 t.act.dir, .slice ay t.act.tails.length cy, .bool false, .string t.raw, .int .i64 t.why] 42) = W at *
        have hS : ∀ w' : World, Below W.heap.size W w' → w'.cell? ⟨wr.heap.size, 9, none⟩ = some (.string t.raw) ∧ w'.cell? ⟨wr.heap.size, 10, none⟩ = some (.int .i64 t.why) := fun w' h => ⟨(BX.below h (Box.lt BX)).at 9 rfl, (BX.below h (Box.lt BX)).at 10 rfl⟩
        have hS5 : ∀ w' w5 : World, Below W.heap.size W w' → OthersKept 5 (some w.heap.size) w' w5 → w5.cell? ⟨wr.heap.size, 9, none⟩ = some (.string t.raw) ∧ w5.cell? ⟨wr.heap.size, 10, none⟩ = some (.int .i64 t.why) := fun w' w5 h hk => by
          have hb5 := (others_block42 hk ((h.block _ hltW).trans hblk) (Nat.ne_of_gt hbk))
          exact ⟨cell_of_row w5 _ 9 _ 42 _ hb5, cell_of_row w5 _ 10 _ 42 _ hb5⟩
        have hI2 : ∀ w' : World, Below W.heap.size W w' → IsBuilderF 83 5 w.heap.size w.heap.size (byteCells (tale (tt.take k))) w' := fun w' h => builder_below hI (b0.trans (h.mono b0.size))
        have bD : Below W.heap.size W W.drew := (Below.refl _ _).drew
        have hBD : IsB (bw W.drew) (.slice (some ⟨W.heap.size, 0, none⟩) t.raw.size (gc W.drew)) t.raw.data.toList := hB W.drew
        have bE : Below W.heap.size W (bw W.drew) := bD.trans (hBel W.drew)
        have htabD : Tab W.drew := tab_below htabW bD
        have htabE : Tab (bw W.drew) := tab_below htabW bE
        clear hI hblk
        rw [cvt_eq]
        go_region_held3 (fun w' => w'.cell? ⟨wr.heap.size, 9, none⟩ = some (.string t.raw) ∧ w'.cell? ⟨wr.heap.size, 10, none⟩ = some (.int .i64 t.why)) (first | (with_reducible exact hS _ bD) | (with_reducible exact hS _ b1) | (with_reducible exact hS _ b1w) | (with_reducible exact hS _ bE) | (with_reducible exact hS _ b2) | (with_reducible exact hS4)) (first
          | (go_at_call 43; (with_reducible refine (itoaB_calls t.why hy0 hy1 W.drew htabD).mono ?_); rintro e w1 ⟨S1, rfl, hS1, bel1⟩; (have hz1 : S1.size ≤ 21 := by (rw [size_of_list hS1]; exact itoa_len t.why hy0 hy1)); (have y1 : ¬ 9223372036854775807 < 5 + S1.size := by omega); (have y2 : ¬ 9223372036854775807 < 5 + S1.size + 1 := by omega); (have b1 : Below W.heap.size W w1 := bD.trans bel1); (have b1w : Below W.heap.size W (bw w1) := b1.trans ((hBel w1).mono b1.size)))
          | (go_at_call 38; (with_reducible refine (coded_calls _ t.raw.data.toList (bw w1) (hB w1) (by omega)).mono ?_); rintro e w2 ⟨S2, rfl, hS2, bel2⟩; (have hz2 : S2.size ≤ 3000000 := by (rw [size_of_list hS2]; exact word_le' _ (by omega))); (have y3 : ¬ 9223372036854775807 < 5 + S1.size + 1 + S2.size := by omega); (have y4 : ¬ 9223372036854775807 < 5 + S1.size + 1 + S2.size + 1 := by omega); (have b2 : Below W.heap.size W w2 := b1w.trans (bel2.mono b1w.size)))
          | (go_at_call 43; (with_reducible refine (itoaB_calls t.why hy0 hy1 (bw W.drew) htabE).mono ?_); rintro e w1 ⟨S1, rfl, hS1, bel1⟩; (have hz1 : S1.size ≤ 21 := by (rw [size_of_list hS1]; exact itoa_len t.why hy0 hy1)); (have y1 : ¬ 9223372036854775807 < 5 + S1.size := by omega); (have y2 : ¬ 9223372036854775807 < 5 + S1.size + 1 := by omega); (have b1 : Below W.heap.size W w1 := bE.trans (bel1.mono bE.size)))
          | (go_at_call 38; (with_reducible refine (coded_calls _ t.raw.data.toList w1 (IsB.below hBD bel1) (by omega)).mono ?_); rintro e w2 ⟨S2, rfl, hS2, bel2⟩; (have hz2 : S2.size ≤ 3000000 := by (rw [size_of_list hS2]; exact word_le' _ (by omega))); (have y3 : ¬ 9223372036854775807 < 5 + S1.size + 1 + S2.size := by omega); (have y4 : ¬ 9223372036854775807 < 5 + S1.size + 1 + S2.size + 1 := by omega); (have b2 : Below W.heap.size W w2 := b1.trans (bel2.mono b1.size)))
          | (go_at_call 37; (with_reducible refine (writeString_calls w.heap.size w.heap.size (byteCells (tale (tt.take k))) _ w2 (hI2 w2 b2) (hsz _ (by (simp only [ByteArray.size_append]; simp only [hsz1', hsz2, hsz3]; omega))) (Nat.le_trans hbw.size (Nat.le_trans b0.size b2.size))).mono ?_); rintro e w4 ⟨rfl, hB4, bel4, ok4⟩; (have hS4 := hS5 w2 w4 b2 ok4)))
        all_goals
          have hrow := tell_row_f tt k ht hdn S1 S2 hS1 hS2
          have hI4 : IsBuilderF 83 5 w.heap.size w.heap.size (byteCells (tale (tt.take (k + 1)))) w4 := .inr (by rw [← hrow]; exact hB4)
          have hb4 : Below w.heap.size w w4 := (hbw.trans ((b0.trans (b2.mono b0.size)).mono hbw.size)).trans bel4
          clear hB4 ok4 bel4 hrow hS hS4 hS5 hS1 hS2 y1 y2 y3 y4 hz1 hz2 BX hI2
          go_wp2
          refine ⟨⟨k + 1, hlt, (by first | rfl | simp), hI4, hb4⟩, ?_⟩
          simp only [intOf]
          omega
    · have hge : ¬ (k : Int) < (tt.length : Int) := by omega
      obtain rfl : k = tt.length := by omega
      rw [List.take_length] at hI
      have hstr := builderString_calls w.heap.size w.heap.size (tale tt) wr hI hbw.size
      go_wp2_with (go_at_call 40; refine hstr.mono ?_; clear hstr; rintro e w9 ⟨rfl, _, bel9, _⟩)
      go_ret
      unfold TellOut
      exact ⟨⟨(tale tt).toArray⟩, rfl, rfl, hbw.trans bel9⟩
end Go.Proofs.YtbfoocginkdmcaaGreatDoor
