/-
  ServerPrints under its live(): the law's function answers true.
-/
import Derived.Test.YtbfoocginkdmcaaGreatDoorWH
import Derived.Test.YtbfoocginkdmcaaGreatDoorWA
import Derived.Test.YtbfoocginkdmcaaGreatDoorRows

set_option linter.unusedVariables false
set_option maxRecDepth 100000
set_option maxHeartbeats 4000000
namespace Go.Proofs.YtbfoocginkdmcaaGreatDoor
open Go Go.RowKit Go.Basic Go.ArgS Go.Scr Go.Lib

theorem inf42 : (Tryz.prog.info? 42).map (fun i => (i.zero, i.size, i.bytes)) = some (some (.agg #[.int .i64 0, .string ⟨#[]⟩, .slice none 0 0, .int .u64 0, .int .i64 0, .int .i64 0, .int .i64 0, .slice none 0 0, .bool false, .string ⟨#[]⟩, .int .i64 0]), 11, 136) := by kernel_rfl

theorem turn_one (t : PTurn) (ax ay : Option Addr) (cx cy : Nat) : ∀ u ∈ turnCells t ax cx ay cy, u.oneCell' = true := by
  intro u hu
  simp only [turnCells, List.mem_append] at hu
  rcases hu with h | h
  · exact act_one _ _ _ _ _ _ h
  · simp only [List.mem_cons, List.not_mem_nil, or_false] at h
    rcases h with h | h | h <;> (subst h; rfl)

/-- The cells of a slice of turns, in a row. -/
theorem turn_news (w : World) (b off : Nat) (tt : List PTurn) (hc : ∀ (i : Nat) t, tt[i]? = some t → ∃ ax cx ay cy, ∀ (j : Nat) c, (turnCells t ax cx ay cy)[j]? = some c → w.cell? ⟨b, off + i * 11 + j, none⟩ = some c) :
    ∃ news : List Value, news.length = tt.length * 11 ∧ (∀ (j : Nat) u, news[j]? = some u → w.cell? ((⟨b, off, none⟩ : Addr).add j) = some u) ∧ (∀ u ∈ news, u.oneCell' = true) ∧
      ∀ (i : Nat) t, tt[i]? = some t → ∃ ax cx ay cy, ∀ (j : Nat) c, (turnCells t ax cx ay cy)[j]? = some c → news[i * 11 + j]? = some c := by
  have key : ∀ j, j < tt.length * 11 → ∃ t ax cx ay cy c, tt[j / 11]? = some t ∧ (turnCells t ax cx ay cy)[j % 11]? = some c ∧ w.cell? ⟨b, off + j, none⟩ = some c := by
    intro j hj
    have h1 : j / 11 < tt.length := by omega
    obtain ⟨ax, cx, ay, cy, h2⟩ := hc (j / 11) tt[j / 11] (List.getElem?_eq_getElem h1)
    have h3 : j % 11 < (turnCells tt[j / 11] ax cx ay cy).length := Nat.mod_lt _ (by decide)
    have h4 := h2 (j % 11) _ (List.getElem?_eq_getElem h3)
    rw [show off + j / 11 * 11 + j % 11 = off + j by omega] at h4
    exact ⟨_, ax, cx, ay, cy, _, List.getElem?_eq_getElem h1, List.getElem?_eq_getElem h3, h4⟩
  have hget : ∀ (j : Nat), j < tt.length * 11 → ((List.range (tt.length * 11)).map fun j => (w.cell? ⟨b, off + j, none⟩).getD (.bool false))[j]? = w.cell? ⟨b, off + j, none⟩ := by
    intro j hj
    obtain ⟨t, ax, cx, ay, cy, c, _, _, h5⟩ := key j hj
    rw [List.getElem?_map, List.getElem?_range hj, h5]
    simp [h5]
  refine ⟨(List.range (tt.length * 11)).map fun j => (w.cell? ⟨b, off + j, none⟩).getD (.bool false), by rw [List.length_map, List.length_range], fun j u hj => ?_, fun u hu => ?_, fun i t hi => ?_⟩
  · have hlt : j < tt.length * 11 := by
      have := (List.getElem?_eq_some_iff.1 hj).1
      rw [List.length_map, List.length_range] at this
      exact this
    have h := hget j hlt
    rw [hj] at h
    rw [show (⟨b, off, none⟩ : Addr).add j = ⟨b, off + j, none⟩ by (simp [Addr.add]; try omega)]
    exact h.symm
  · obtain ⟨j, hj⟩ := List.getElem?_of_mem hu
    have hlt : j < tt.length * 11 := by
      have := (List.getElem?_eq_some_iff.1 hj).1
      rw [List.length_map, List.length_range] at this
      exact this
    obtain ⟨t, ax, cx, ay, cy, c, h3, h4, h5⟩ := key j hlt
    have h := hget j hlt
    rw [hj, h5] at h
    cases h
    exact turn_one t ax ay cx cy _ (List.mem_of_getElem? h4)
  · obtain ⟨ax, cx, ay, cy, h2⟩ := hc i t hi
    refine ⟨ax, cx, ay, cy, fun j c hj => ?_⟩
    have hj2 : j < 11 := (List.getElem?_eq_some_iff.1 hj).1
    have hi2 := (List.getElem?_eq_some_iff.1 hi).1
    rw [hget (i * 11 + j) (by omega), ← h2 j c hj, Nat.add_assoc]

theorem IsTurns.of_own {w : World} {B n : Nat} {v : Value} {tt : List PTurn} {news : List Value} (hn : n = tt.length) (h : w.ownsRow B 42 11 v n news)
    (hx : ∀ (i : Nat) t, tt[i]? = some t → ∃ ax cx ay cy, ∀ (j : Nat) c, (turnCells t ax cx ay cy)[j]? = some c → news[i * 11 + j]? = some c) : IsTurns w v tt := by
  rcases h.2 with ⟨h0, h1⟩ | ⟨g, cap, cur, h0, _⟩
  · refine .inl ⟨none, 0, by rw [h0], ?_, fun _ => rfl⟩
    rw [h1] at hn
    exact List.eq_nil_of_length_eq_zero hn.symm
  · refine .inr ⟨g, 0, cap, by rw [h0, hn], fun i t hi => ?_⟩
    obtain ⟨ax, cx, ay, cy, h1⟩ := hx i t hi
    refine ⟨ax, cx, ay, cy, fun j c hj => ?_⟩
    have h4 := h.cells (by rw [h0]; rfl) _ _ (h1 j c hj)
    have h5 : ((⟨g, 0, none⟩ : Addr).add (i * 11 + j)) = ⟨g, 0 + i * 11 + j, none⟩ := by
      have h9 : (⟨g, 0, none⟩ : Addr).add (i * 11 + j) = ⟨g, 0 + (i * 11 + j), none⟩ := by simp [Addr.add]; omega
      rw [h9, Nat.add_assoc]
    rw [h5] at h4
    exact h4

theorem wpList_append_turns {w : World} {ops : Array Oper} {rest : List Oper} {o : Oper} {a : Act} {Q : Exit → Act → World → Prop} (hgd : o.guard = none) (s x : Operand)
    (ho : o.op = .call { callee := .builtin .append, args := #[s, x], argTypes := #[49, 49] }) (base : Nat)
    (v : Value) (hs : a.eval s = v) (hown : w.ownsRow base 42 11 v 0 [])
    (y : Value) (tt : List PTurn) (hx : a.eval x = y) (ht : IsTurns w y tt) (hl : tt.length ≤ 1100000) (hbase : base ≤ w.heap.size)
    (h : ∀ v' w', IsTurns w' v' tt → w.grownBy w' v.ownBlock → wpList Tryz.prog ops Q rest (a.put o.dst v') w') : wpList Tryz.prog ops Q (o :: rest) a w := by
  obtain ⟨i0, hi, hz0, hz1, hz2⟩ := info_parts inf42
  rcases ht with ⟨oa, cap, rfl, rfl, hn⟩ | ⟨b, off, cap, rfl, hc⟩
  · cases oa with
    | none =>
      rw [hn rfl] at hx
      refine wpList_append_own_none hgd s x 49 ho base 42 i0 11 Tryz.underlying49 hi v 0 [] hs hown hx ?_
      exact h v w (IsTurns.of_own rfl hown (fun i t hi => by simp at hi)) ⟨rfl, rfl, rfl, Nat.le_refl _, fun _ _ _ => rfl⟩
    | some ad =>
      refine wpList_append_own _ hgd s x 49 ho base 42 i0 _ 11 136 Tryz.underlying49 hi hz0 hz1 hz2 rfl (by decide) v 0 [] hs hown ad 0 cap [] hx rfl (fun j u hj => by simp at hj) (fun u hu => by simp at hu) (by unfold maxLen; omega) (by omega) hbase fun v' w' h1 h2 _ => ?_
      exact h v' w' (IsTurns.of_own (by simp) h1 (fun i t hi => by simp at hi)) h2
  · obtain ⟨news, n1, n2, n3, n4⟩ := turn_news w b off tt hc
    refine wpList_append_own _ hgd s x 49 ho base 42 i0 _ 11 136 Tryz.underlying49 hi hz0 hz1 hz2 rfl (by decide) v 0 [] hs hown ⟨b, off, none⟩ tt.length cap news hx n1 n2 n3 (by unfold maxLen; omega) (by omega) hbase fun v' w' h1 h2 _ => ?_
    exact h v' w' (IsTurns.of_own (by simp) h1 (by simpa using n4)) h2

theorem ba_of {a b : ByteArray} (h : a.data.toList = b.data.toList) : a = b := by
  cases a
  cases b
  congr
  exact Array.toList_inj.1 h

set_option maxHeartbeats 8000000 in
theorem prints_walk (vl vt : Value) (aa : List PAct) (tt : List PTurn) (w : World) (h : IsActs w vl aa) (hf : ∀ a ∈ aa, Fits a) (hl : aa.length ≤ 1100000) (hT : (script aa).length ≤ 100000000)
    (h' : IsTurns w vt tt) (hf' : ∀ t ∈ tt, TFits t) (hl' : tt.length ≤ 1100000) (hT' : (tale tt).length ≤ 100000000) (htab : Tab w)
    (c12 : ∀ W', Below w.heap.size w W' → Calls Tryz.prog 12 #[] W' fun e w'' => e = .returned (.bool true) ∧ Below W'.heap.size W' w'') :
    Calls Tryz.prog 5 #[vl, vt] w fun e w' => e = .returned (.bool true) ∧ Below w.heap.size w w' := by
  obtain ⟨oa, cap, rfl⟩ := h.slice
  obtain ⟨ot, capt, rfl⟩ := h'.slice
  have hlenI : (aa.length : Int) ≤ 9223372036854775807 := by omega
  go_enter Tryz.func5, Tryz.ntmps5
  go_wp2_with (first
    | (go_at_call 18; refine (acts_calls _ aa _ h hf hl).mono ?_; rintro e w1 ⟨v1, rfl, hI1, bel1⟩; (obtain ⟨o1, cp1, rfl⟩ := hI1.slice))
    | (go_at_call 19; refine (print_calls _ aa w1 hI1 hf hl hT (tab_below htab bel1)).mono ?_; rintro e w2 ⟨S2, rfl, hS2, bel2⟩; (have b2 : Below w.heap.size w w2 := bel1.trans (bel2.mono bel1.size)))
    | (go_at_call 20; refine (refPrint_calls _ aa w2 (h.below b2) hf hl hT).mono ?_; rintro e w3 ⟨S3, rfl, hS3, bel3⟩; (have b3 : Below w.heap.size w w3 := b2.trans (bel3.mono b2.size)); (have hI3 := (hI1.below bel2).below bel3); (obtain rfl : S3 = S2 := ba_of (hS3.trans hS2.symm)); clear hS3 hS2 bel1 bel2 bel3 b2 hI1)
    | (go_at_call 9; refine (c9 _ _).mono ?_; rintro e w4 ⟨rfl, bel4⟩; (have b4 : Below w.heap.size w w4 := b3.trans (bel4.mono b3.size)); (have hI4 := hI3.below bel4); clear hI3 b3 bel4))
  go_loopw [10] (fun i wr => ∃ k : Nat, k ≤ aa.length ∧ i = .int .i64 k ∧ Below w4.heap.size w4 wr) (fun i _ => aa.length - (intOf i).toNat)
  case atStart => exact ⟨0, Nat.zero_le _, rfl, Below.refl _ _⟩
  case round =>
    obtain ⟨k, hk, rfl, hbw⟩ := hrel
    by_cases hlt : k < aa.length
    · have hlt' : (k : Int) < (aa.length : Int) := by omega
      obtain ⟨a, ha⟩ : ∃ a, aa[k]? = some a := ⟨aa[k], List.getElem?_eq_getElem hlt⟩
      have bwr : Below w.heap.size w wr := b4.trans (hbw.mono b4.size)
      obtain ⟨b, off, cap', ax, cx, ay, cy, ev, c0, c1, c2, c3, c4, c5, c6, c7, hx, hy⟩ := (hI4.below hbw).at ha
      cases ev
      obtain ⟨b', off', cap'', ax', cx', ay', cy', ev, d0, d1, d2, d3, d4, d5, d6, d7, hx', hy'⟩ := (h.below bwr).at ha
      cases ev
      have hfa := hf a (List.mem_of_getElem? ha)
      have hyl : a.tails.length * 8 ≤ reachBytes := by have := hfa.long; unfold reachBytes; omega
      have hcall := alike_calls a.kind a.now a.outcome a.n a.dir a.raw _ _ _ _ _ _ wr.drew hx hy hx' hy' hyl
      have lb := World.block_lt_of_cell? wr _ c0
      have lb' := World.block_lt_of_cell? wr _ d0
      have hS : ∀ w' : World, Below wr.heap.size wr w' → w'.cell? ⟨b, off + k * 8, none⟩ = some (.int .i64 a.kind) ∧ w'.cell? ⟨b, off + k * 8 + 1, none⟩ = some (.string a.raw) ∧ w'.cell? ⟨b, off + k * 8 + 2, none⟩ = some (.slice ax a.draws.length cx) ∧ w'.cell? ⟨b, off + k * 8 + 3, none⟩ = some (.int .u64 (a.now : Int)) ∧ w'.cell? ⟨b, off + k * 8 + 4, none⟩ = some (.int .i64 a.outcome) ∧ w'.cell? ⟨b, off + k * 8 + 5, none⟩ = some (.int .i64 a.n) ∧ w'.cell? ⟨b, off + k * 8 + 6, none⟩ = some (.int .i64 a.dir) ∧ w'.cell? ⟨b, off + k * 8 + 7, none⟩ = some (.slice ay a.tails.length cy) ∧ w'.cell? ⟨b', off' + k * 8, none⟩ = some (.int .i64 a.kind) ∧ w'.cell? ⟨b', off' + k * 8 + 1, none⟩ = some (.string a.raw) ∧ w'.cell? ⟨b', off' + k * 8 + 2, none⟩ = some (.slice ax' a.draws.length cx') ∧ w'.cell? ⟨b', off' + k * 8 + 3, none⟩ = some (.int .u64 (a.now : Int)) ∧ w'.cell? ⟨b', off' + k * 8 + 4, none⟩ = some (.int .i64 a.outcome) ∧ w'.cell? ⟨b', off' + k * 8 + 5, none⟩ = some (.int .i64 a.n) ∧ w'.cell? ⟨b', off' + k * 8 + 6, none⟩ = some (.int .i64 a.dir) ∧ w'.cell? ⟨b', off' + k * 8 + 7, none⟩ = some (.slice ay' a.tails.length cy') := fun w' h => ⟨(h.cell (p := ⟨b, off + k * 8, none⟩) lb).trans c0, (h.cell (p := ⟨b, off + k * 8 + 1, none⟩) lb).trans c1, (h.cell (p := ⟨b, off + k * 8 + 2, none⟩) lb).trans c2, (h.cell (p := ⟨b, off + k * 8 + 3, none⟩) lb).trans c3, (h.cell (p := ⟨b, off + k * 8 + 4, none⟩) lb).trans c4, (h.cell (p := ⟨b, off + k * 8 + 5, none⟩) lb).trans c5, (h.cell (p := ⟨b, off + k * 8 + 6, none⟩) lb).trans c6, (h.cell (p := ⟨b, off + k * 8 + 7, none⟩) lb).trans c7, (h.cell (p := ⟨b', off' + k * 8, none⟩) lb').trans d0, (h.cell (p := ⟨b', off' + k * 8 + 1, none⟩) lb').trans d1, (h.cell (p := ⟨b', off' + k * 8 + 2, none⟩) lb').trans d2, (h.cell (p := ⟨b', off' + k * 8 + 3, none⟩) lb').trans d3, (h.cell (p := ⟨b', off' + k * 8 + 4, none⟩) lb').trans d4, (h.cell (p := ⟨b', off' + k * 8 + 5, none⟩) lb').trans d5, (h.cell (p := ⟨b', off' + k * 8 + 6, none⟩) lb').trans d6, (h.cell (p := ⟨b', off' + k * 8 + 7, none⟩) lb').trans d7⟩
      have bD : Below wr.heap.size wr wr.drew := (Below.refl _ _).drew
      clear hx hy hx' hy' hyl ha hfa
      go_wp2_with fail
      go_region_held3 (fun w' => w'.cell? ⟨b, off + k * 8, none⟩ = some (.int .i64 a.kind) ∧ w'.cell? ⟨b, off + k * 8 + 1, none⟩ = some (.string a.raw) ∧ w'.cell? ⟨b, off + k * 8 + 2, none⟩ = some (.slice ax a.draws.length cx) ∧ w'.cell? ⟨b, off + k * 8 + 3, none⟩ = some (.int .u64 (a.now : Int)) ∧ w'.cell? ⟨b, off + k * 8 + 4, none⟩ = some (.int .i64 a.outcome) ∧ w'.cell? ⟨b, off + k * 8 + 5, none⟩ = some (.int .i64 a.n) ∧ w'.cell? ⟨b, off + k * 8 + 6, none⟩ = some (.int .i64 a.dir) ∧ w'.cell? ⟨b, off + k * 8 + 7, none⟩ = some (.slice ay a.tails.length cy) ∧ w'.cell? ⟨b', off' + k * 8, none⟩ = some (.int .i64 a.kind) ∧ w'.cell? ⟨b', off' + k * 8 + 1, none⟩ = some (.string a.raw) ∧ w'.cell? ⟨b', off' + k * 8 + 2, none⟩ = some (.slice ax' a.draws.length cx') ∧ w'.cell? ⟨b', off' + k * 8 + 3, none⟩ = some (.int .u64 (a.now : Int)) ∧ w'.cell? ⟨b', off' + k * 8 + 4, none⟩ = some (.int .i64 a.outcome) ∧ w'.cell? ⟨b', off' + k * 8 + 5, none⟩ = some (.int .i64 a.n) ∧ w'.cell? ⟨b', off' + k * 8 + 6, none⟩ = some (.int .i64 a.dir) ∧ w'.cell? ⟨b', off' + k * 8 + 7, none⟩ = some (.slice ay' a.tails.length cy')) (first | (with_reducible exact hS _ bD) | (with_reducible exact hS _ b1)) (first
        | (go_at_call 10; (with_reducible refine hcall.mono ?_); rintro e w1 ⟨rfl, bel1⟩; (have b1 : Below wr.heap.size wr w1 := bD.trans bel1)))
      go_wp2
      refine ⟨⟨k + 1, hlt, (by first | rfl | simp), hbw.trans (b1.mono hbw.size)⟩, ?_⟩
      simp only [intOf]
      omega
    · have hge : ¬ (k : Int) < (aa.length : Int) := by omega
      obtain rfl : k = aa.length := by omega
      have bwr : Below w.heap.size w wr := b4.trans (hbw.mono b4.size)
      clear hI4 hbw b4
      go_wp2_with (first
        | (at_builtin; generalize hX : wpList _ _ _ _ _ _ = X))
      rw [← hX]
      clear hX
      have bA : Below w.heap.size w (wr.alloc (.cells #[] 42)) := bwr.alloc bwr.size _
      refine wpList_append_turns rfl _ _ rfl wr.heap.size (.slice (some ⟨wr.heap.size, 0, none⟩) 0 0) rfl (World.ownsRow_made wr #[] 0 (Nat.le_refl _) (by decide) rfl) _ tt rfl (h'.below bA) hl' (by simp) ?_
      intro v9 w9 h9 hg9
      have b9 : Below w.heap.size w w9 := bA.grown hg9 (by have := bwr.size; simp; omega) fun g hg => by simp [Value.ownBlock] at hg; have := bwr.size; omega
      obtain ⟨o9, cp9, rfl⟩ := h9.slice
      clear hg9 bA bwr
      go_wp2_with (first
        | (go_at_call 21; refine (tell_calls _ tt w9 h9 hf' hl' hT' (tab_below htab b9)).mono ?_; rintro e w10 ⟨S10, rfl, hS10, bel10⟩; (have b10 : Below w.heap.size w w10 := b9.trans (bel10.mono b9.size)))
        | (go_at_call 22; refine (refTell_calls _ tt w10 (h'.below b10) hf' hl' hT').mono ?_; rintro e w11 ⟨S11, rfl, hS11, bel11⟩; (have b11 : Below w.heap.size w w11 := b10.trans (bel11.mono b10.size)); (obtain rfl : S11 = S10 := ba_of (hS11.trans hS10.symm)); clear hS11 hS10 b9 bel10 bel11)
        | (go_at_call 12; refine (c12 _ b11).mono ?_; rintro e w12 ⟨rfl, bel12⟩; (have b12 := b11.trans (bel12.mono b11.size))))
      go_ret
      exact ⟨rfl, b12⟩
end Go.Proofs.YtbfoocginkdmcaaGreatDoor

/-
  What slices of acts and of turns that came in are, cell for cell; how long their words are.
-/

set_option linter.unusedVariables false
set_option maxRecDepth 100000
set_option maxHeartbeats 1000000
namespace Go.Proofs.YtbfoocginkdmcaaGreatDoor
open Go Go.ChangeShapes Go.WideShapes Go.ChangeAt Go.RowKit Go.Joins Go.ArgS Go.Scr Go.Lib

theorem cells4 : Tryz.prog.cellsOf 4 = 1 := by kernel_rfl
theorem cells23 : Tryz.prog.cellsOf 23 = 1 := by kernel_rfl
theorem cells42 : Tryz.prog.cellsOf 42 = 11 := by kernel_rfl

theorem bulk_pos {H : Type} (d : DataW H) : 1 ≤ Rows.uptoBulk d := by
  cases d with
  | lit l => cases l <;> simp [Rows.uptoBulk]
  | nil => simp [Rows.uptoBulk]
  | ptr d => simp [Rows.uptoBulk]
  | slice a b => simp [Rows.uptoBulk]
  | agg a => simp [Rows.uptoBulk]
  | iface a b => simp [Rows.uptoBulk]
  | map e => simp [Rows.uptoBulk]
  | held h => simp [Rows.uptoBulk]

theorem bulk_len {H : Type} (l : List (DataW H)) : l.length ≤ Rows.uptoBulkAll l := by
  induction l with
  | nil => simp [Rows.uptoBulkAll]
  | cons d r ih =>
    have h1 := bulk_pos d
    simp only [Rows.uptoBulkAll, List.length_cons]
    omega

theorem wf_i64 {n : Int} (h : (Lit.int .i64 n).wf = true) : -9223372036854775808 ≤ n ∧ n ≤ 9223372036854775807 := by
  simp [Lit.wf, IntKind.min, IntKind.max, IntKind.signed, IntKind.bits] at h
  omega

theorem wf_u64 {n : Int} (h : (Lit.int .u64 n).wf = true) : ∃ k : Nat, n = k ∧ k < 18446744073709551616 := by
  simp [Lit.wf, IntKind.min, IntKind.max, IntKind.signed, IntKind.bits] at h
  exact ⟨n.toNat, by omega, by omega⟩

theorem wf_u8 {n : Int} (h : (Lit.int .u8 n).wf = true) : 0 ≤ n ∧ n < 256 := by
  simp [Lit.wf, IntKind.min, IntKind.max, IntKind.signed, IntKind.bits] at h
  omega

theorem bytes_of_nums (zs : List Int) (h : ∀ n ∈ zs, (Lit.int .u8 n).wf = true) : ∃ bs : List UInt8, zs = bs.map fun b => (b.toNat : Int) := by
  refine ⟨zs.map fun n => UInt8.ofNat n.toNat, ?_⟩
  rw [List.map_map]
  conv => lhs; rw [← List.map_id zs]
  refine List.map_congr_left fun n hn => ?_
  have h1 := wf_u8 (h n hn)
  simp only [Function.comp, UInt8.toNat_ofNat', id]
  omega

theorem open_slb {H : Type} {enc : TypeId × Value → H} {P : Program} {w : World} {base : Nat} {t e : TypeId} {k : IntKind} {fuel : Nat} {c : Value} {x : DataW H × List MemPlace}
    (ht : P.underlying t = some (.slice e)) (he : P.underlying e = some (.int k)) (hc : P.cellsOf e = 1) (h : DataW.trod enc P w base (fun _ => true) true fuel t [c] = some x) :
    ∃ zs, IsSl w k c zs ∧ (∀ n ∈ zs, (Lit.int k n).wf = true) ∧ zs.length + 1 ≤ Rows.uptoBulk x.1 := by
  rcases ChangeShapes.open_ints ht he hc h with ⟨h0, h1⟩ | ⟨a, len, cap, zs, h0, _, hl, _, hz, hx, hcell, hwf⟩
  · exact ⟨[], .inl ⟨by simpa using h0, rfl⟩, fun _ h => (by cases h), bulk_pos _⟩
  · have e0 : c = .slice (some a) len cap := by simpa using h0
    subst e0
    rw [if_pos rfl] at hz
    have hlz : (zs.take len).length = len := by rw [List.length_take]; omega
    refine ⟨zs.take len, .inr ⟨a, cap, by rw [hlz], fun j y hj => ?_⟩, fun n hn => hwf n (List.mem_of_mem_take hn), ?_⟩
    · have hj2 : zs[j]? = some y := by
        rw [List.getElem?_take] at hj
        split at hj
        · exact hj
        · cases hj
      have hlt : j < zs.length := (List.getElem?_eq_some_iff.1 hj2).1
      rw [hcell j hlt, List.getD, hj2]
      rfl
    · subst hx
      have h1 := bulk_len (H := H) (ChangeShapes.lits k (zs.take len))
      have h2 : (ChangeShapes.lits (H := H) k (zs.take len)).length = (zs.take len).length := by simp [ChangeShapes.lits]
      simp only [Rows.uptoBulk]
      omega

/-- How much of the bulk an act takes. -/
def actB (a : PAct) : Nat := a.raw.size + a.draws.length + a.tails.length + 10

theorem act_of_cells {H : Type} {enc : TypeId × Value → H} {W : World} {base fuel : Nat} {cs : List Value} {x : DataW H × List MemPlace} (h : DataW.trod enc Tryz.prog W base (fun _ => true) true fuel 36 cs = some x) (hb : Rows.uptoBulk x.1 ≤ 1048576) :
    ∃ (a : PAct) (ax ay : Option Addr) (cx cy : Nat), cs = actCells a ax cx ay cy ∧ IsB W (.slice ax a.draws.length cx) a.draws ∧ IsSl W .i64 (.slice ay a.tails.length cy) a.tails ∧ Fits a ∧ actB a ≤ Rows.uptoBulk x.1 := by
  obtain ⟨xs, n, _, hx, hl, hlen, hf⟩ := DataW.trod_struct Tryz.underlying36 h
  rw [cells36] at hl
  match cs, hl with
  | [c0, c1, c2, c3, c4, c5, c6, c7], _ =>
  match xs, hlen with
  | [y0, y1, y2, y3, y4, y5, y6], _ =>
    have h0 : DataW.trod enc Tryz.prog W base (fun _ => true) true n 3 [c0] = some y0 := by simpa [cells3] using hf 0 _ rfl
    have h1 : DataW.trod enc Tryz.prog W base (fun _ => true) true n 9 [c1] = some y1 := by simpa [cells9] using hf 1 _ rfl
    have h2 : DataW.trod enc Tryz.prog W base (fun _ => true) true n 30 [c2] = some y2 := by simpa [cells30] using hf 2 _ rfl
    have h3 : DataW.trod enc Tryz.prog W base (fun _ => true) true n 31 [c3] = some y3 := by simpa [cells31] using hf 3 _ rfl
    have h4 : DataW.trod enc Tryz.prog W base (fun _ => true) true n 3 [c4] = some y4 := by simpa [cells3] using hf 4 _ rfl
    have h5 : DataW.trod enc Tryz.prog W base (fun _ => true) true n 3 [c5] = some y5 := by simpa [cells3] using hf 5 _ rfl
    have h6 : DataW.trod enc Tryz.prog W base (fun _ => true) true n 34 [c6, c7] = some y6 := by simpa [cells34] using hf 6 _ rfl
    obtain ⟨us, m, _, hu, _, hulen, hg⟩ := DataW.trod_struct Tryz.underlying34 h6
    match us, hulen with
    | [z0, z1], _ =>
      have g0 : DataW.trod enc Tryz.prog W base (fun _ => true) true m 3 [c6] = some z0 := by simpa [cells3] using hg 0 _ rfl
      have g1 : DataW.trod enc Tryz.prog W base (fun _ => true) true m 32 [c7] = some z1 := by simpa [cells32] using hg 1 _ rfl
      obtain ⟨k, e0, d0, _⟩ := DataW.trod_int Tryz.underlying3 h0
      obtain ⟨s, e1, d1, _⟩ := DataW.trod_string Tryz.underlying9 h1
      obtain ⟨t, e3, d3, w3⟩ := DataW.trod_int Tryz.underlying31 h3
      obtain ⟨o, e4, d4, w4⟩ := DataW.trod_int Tryz.underlying3 h4
      obtain ⟨nn, e5, d5, w5⟩ := DataW.trod_int Tryz.underlying3 h5
      obtain ⟨q, e6, d6, w6⟩ := DataW.trod_int Tryz.underlying3 g0
      obtain ⟨ds, i2, v2, l2⟩ := open_slb Tryz.underlying30 Tryz.underlying5 cells5 h2
      obtain ⟨ts, i7, v7, l7⟩ := open_slb Tryz.underlying32 Tryz.underlying3 cells3 g1
      have hd : x.1 = .agg ([y0, y1, y2, y3, y4, y5, y6].map (·.1)) := congrArg Prod.fst hx
      have hd6 : y6.1 = .agg ([z0, z1].map (·.1)) := congrArg Prod.fst hu
      have p0 := bulk_pos y0.1
      have p3 := bulk_pos y3.1
      have p4 := bulk_pos y4.1
      have p5 := bulk_pos y5.1
      have p6 := bulk_pos z0.1
      have p1 : Rows.uptoBulk y1.1 = s.size + 1 := by rw [d1]; simp [Rows.uptoBulk]
      rw [hd] at hb ⊢
      simp only [List.map_cons, List.map_nil, Rows.uptoBulk, Rows.uptoBulkAll, hd6] at hb ⊢
      obtain ⟨bs, rfl⟩ := bytes_of_nums ds v2
      obtain ⟨tn, rfl, ht⟩ := wf_u64 w3
      simp only [List.length_map] at l2
      obtain ⟨ax, cx, ex⟩ := i2.slice
      obtain ⟨ay, cy, ey⟩ := i7.slice
      rw [List.length_map] at ex
      simp only [List.cons.injEq, and_true] at e0 e1 e3 e4 e5 e6
      subst e0 e1 e3 e4 e5 e6 ex ey
      refine ⟨⟨k, s, bs, tn, o, nn, q, ts⟩, ax, ay, cx, cy, rfl, i2, i7, ⟨ht, wf_i64 w4, wf_i64 w5, wf_i64 w6, fun y hy => wf_i64 (v7 y hy), ?_, ?_, ?_⟩, ?_⟩
      all_goals simp only [actB]
      all_goals omega

theorem bulk_get {H : Type} (l : List (DataW H)) (i : Nat) (d : DataW H) (h : l[i]? = some d) : Rows.uptoBulk d ≤ Rows.uptoBulkAll l := by
  induction l generalizing i with
  | nil => simp at h
  | cons y r ih =>
    simp only [Rows.uptoBulkAll]
    cases i with
    | zero =>
      simp only [List.getElem?_cons_zero, Option.some.injEq] at h
      subst h
      omega
    | succ j =>
      have := ih j (by simpa using h)
      omega

theorem block_row {W : World} {base : Nat} {a : Addr} {m : Nat} {cs : List Value} (hm : 0 < m) (i : Nat) (h : W.cells? base (a.add (i * m)) m = some cs) (hs : a.spot = none) : ∀ (j : Nat) c, cs[j]? = some c → W.cell? ⟨a.block, a.off + i * m + j, none⟩ = some c := by
  obtain ⟨_, h1, h2⟩ := World.cells?_some h
  intro j c hj
  have hlt : j < m := by rw [← h1]; exact (List.getElem?_eq_some_iff.1 hj).1
  have h3 := (h2 j hlt).trans hj
  have e : (a.add (i * m)).add j = ⟨a.block, a.off + i * m + j, none⟩ := by
    obtain ⟨ab, ao, sp⟩ := a
    subst hs
    simp only [Addr.add]
    split <;> split <;> simp_all
  rw [← e]
  exact h3

theorem spot_none {W : World} {base : Nat} {a : Addr} {m : Nat} {cs : List Value} (hm : 0 < m) (h : W.cells? base (a.add (0 * m)) m = some cs) : a.spot = none := by
  obtain ⟨_, h1, h2⟩ := World.cells?_some h
  have h3 := h2 0 hm
  rw [Nat.zero_mul] at h3
  have h4 : (a.add 0).add 0 = a := by simp [Addr.add]
  rw [h4] at h3
  obtain ⟨c, hc⟩ : ∃ c, cs[0]? = some c := ⟨cs[0], List.getElem?_eq_getElem (by omega)⟩
  rw [hc] at h3
  unfold World.cell? at h3
  split at h3
  · cases hsp : a.spot with
    | none => rfl
    | some _ => rw [hsp] at h3; simp at h3
  · cases h3

/-- A list read element for element. -/
theorem each_of {α β : Type} (n : Nat) (R : Nat → α → Prop) (sz : α → Nat) (l : List β) (bulk : β → Nat) (all : List β → Nat) (hnil : all [] = 0) (hcons : ∀ d r, all (d :: r) = bulk d + all r) (hl : l.length = n)
    (h : ∀ i d, l[i]? = some d → ∃ a, R i a ∧ sz a ≤ bulk d) : ∃ aa : List α, aa.length = n ∧ (∀ (i : Nat) a, aa[i]? = some a → R i a) ∧ (aa.map sz).sum ≤ all l := by
  induction l generalizing n R with
  | nil => exact ⟨[], by simpa using hl, fun i a hi => (by simp at hi), by simp⟩
  | cons d r ih =>
    obtain ⟨a, ha, hsz⟩ := h 0 d rfl
    obtain ⟨aa, h1, h2, h3⟩ := ih r.length (fun i a => R (i + 1) a) rfl (fun i d hi => h (i + 1) d (by simpa using hi))
    refine ⟨a :: aa, by rw [List.length_cons, h1, ← hl, List.length_cons], fun i b hi => ?_, ?_⟩
    · cases i with
      | zero =>
        simp only [List.getElem?_cons_zero, Option.some.injEq] at hi
        subst hi
        exact ha
      | succ j => exact h2 j b (by simpa using hi)
    · rw [List.map_cons, List.sum_cons, hcons]
      omega

theorem open_acts {H : Type} {enc : TypeId × Value → H} {W : World} {base : Nat} {r : Reach} {b0 : Nat} {v : Value} {d : DataW H} {p : List MemPlace} (hv : Value.okWide Tryz.prog W r b0 22 v)
    (h : DataW.Trod enc Tryz.prog W base (fun _ => true) true 22 v d p) (hb : Rows.uptoBulk d ≤ 1048576) :
    ∃ aa : List PAct, IsActs W v aa ∧ (∀ a ∈ aa, Fits a) ∧ (aa.map actB).sum ≤ Rows.uptoBulk d := by
  obtain ⟨oa, len0, cap0, rfl⟩ := okWide_slice Tryz.underlying22 hv
  obtain ⟨fuel, hf⟩ := h
  rcases DataW.trod_slice Tryz.underlying22 hf with ⟨h0, h1⟩ | ⟨a, len, cap, elems, rest, n, _, h0, hx, _, _, _, hlen, hel, _, _⟩
  · have e0 : Value.slice oa len0 cap0 = .slice none 0 0 := by simpa [Value.cells] using h0
    cases e0
    exact ⟨[], .inl ⟨_, _, rfl, rfl⟩, fun a ha => by simp at ha, by simp⟩
  · have e0 : Value.slice oa len0 cap0 = .slice (some a) len cap := by simpa [Value.cells] using h0
    cases e0
    have hd : d = .slice (elems.map (·.1)) (rest.map (·.1)) := congrArg Prod.fst hx
    have hbd : Rows.uptoBulkAll (elems.map (·.1)) + 1 ≤ Rows.uptoBulk d := by rw [hd]; simp only [Rows.uptoBulk]; omega
    by_cases hz : len0 = 0
    · subst hz
      exact ⟨[], .inl ⟨_, _, rfl, rfl⟩, fun a ha => by simp at ha, by simp⟩
    have hcell : ∀ i, i < len0 → ∃ cs y, W.cells? base (a.add (i * 8)) 8 = some cs ∧ DataW.trod enc Tryz.prog W base (fun _ => true) true n 36 cs = some y ∧ elems[i]? = some y := by
      intro i hi
      have h1 := hel i hi
      rw [cells36] at h1
      have h2 : i < elems.length := by omega
      rw [List.getElem?_eq_getElem h2, Option.bind_eq_some_iff] at h1
      obtain ⟨cs, h3, h4⟩ := h1
      exact ⟨cs, _, h3, h4, List.getElem?_eq_getElem h2⟩
    have hsp : a.spot = none := by
      obtain ⟨cs, y, h3, _⟩ := hcell 0 (by omega)
      exact spot_none (by decide) h3
    obtain ⟨aa, l1, l2, l3⟩ := each_of len0 (fun i (x : PAct) => Fits x ∧ ∃ ax cx ay cy, (∀ (j : Nat) c, (actCells x ax cx ay cy)[j]? = some c → W.cell? ⟨a.block, a.off + i * 8 + j, none⟩ = some c) ∧ IsB W (.slice ax x.draws.length cx) x.draws ∧ IsSl W .i64 (.slice ay x.tails.length cy) x.tails) actB
      (elems.map (·.1)) Rows.uptoBulk Rows.uptoBulkAll (by simp only [Rows.uptoBulkAll]) (fun d r => by simp only [Rows.uptoBulkAll]) (by simpa using hlen) (fun i d' hi => by
        have hbi := bulk_get _ _ _ hi
        rw [List.getElem?_map, Option.map_eq_some_iff] at hi
        obtain ⟨y, hy, rfl⟩ := hi
        have hlt : i < len0 := by rw [← hlen]; exact (List.getElem?_eq_some_iff.1 hy).1
        obtain ⟨cs, y', h3, h4, h5⟩ := hcell i hlt
        obtain rfl : y' = y := Option.some.inj (h5.symm.trans hy)
        obtain ⟨x, ax, ay, cx, cy, rfl, hx1, hx2, hx3, hx4⟩ := act_of_cells h4 (by omega)
        exact ⟨x, ⟨hx3, ax, cx, ay, cy, block_row (by decide) i h3 hsp, hx1, hx2⟩, hx4⟩)
    refine ⟨aa, .inr ⟨a.block, a.off, cap0, ?_, fun i x hi => (l2 i x hi).2⟩, fun x hx => ?_, by omega⟩
    · obtain ⟨ab, ao, sp⟩ := a
      subst hsp
      rw [l1]
    · obtain ⟨i, hi⟩ := List.getElem?_of_mem hx
      exact (l2 i x hi).1

def turnB (t : PTurn) : Nat := t.raw.size + 13

theorem turn_of_cells {H : Type} {enc : TypeId × Value → H} {W : World} {base fuel : Nat} {cs : List Value} {x : DataW H × List MemPlace} (h : DataW.trod enc Tryz.prog W base (fun _ => true) true fuel 42 cs = some x) (hb : Rows.uptoBulk x.1 ≤ 1048576) :
    ∃ (t : PTurn) (ax ay : Option Addr) (cx cy : Nat), cs = turnCells t ax cx ay cy ∧ TFits t ∧ turnB t ≤ Rows.uptoBulk x.1 := by
  obtain ⟨xs, n, _, hx, hl, hlen, hf⟩ := DataW.trod_struct Tryz.underlying42 h
  rw [cells42] at hl
  match cs, hl with
  | [c0, c1, c2, c3, c4, c5, c6, c7, c8, c9, c10], _ =>
  match xs, hlen with
  | [y0, y1, y2, y3], _ =>
    have h0 : DataW.trod enc Tryz.prog W base (fun _ => true) true n 36 [c0, c1, c2, c3, c4, c5, c6, c7] = some y0 := by simpa [cells36] using hf 0 _ rfl
    have h1 : DataW.trod enc Tryz.prog W base (fun _ => true) true n 4 [c8] = some y1 := by simpa [cells4] using hf 1 _ rfl
    have h2 : DataW.trod enc Tryz.prog W base (fun _ => true) true n 9 [c9] = some y2 := by simpa [cells9] using hf 2 _ rfl
    have h3 : DataW.trod enc Tryz.prog W base (fun _ => true) true n 23 [c10] = some y3 := by simpa [cells23] using hf 3 _ rfl
    have hd : x.1 = .agg ([y0, y1, y2, y3].map (·.1)) := congrArg Prod.fst hx
    rw [hd] at hb ⊢
    simp only [List.map_cons, List.map_nil, Rows.uptoBulk, Rows.uptoBulkAll] at hb ⊢
    obtain ⟨a, ax, ay, cx, cy, e0, _, _, _, hab⟩ := act_of_cells h0 (by omega)
    obtain ⟨dn, e1, d1⟩ := DataW.trod_bool Tryz.underlying4 h1
    obtain ⟨s, e2, d2, _⟩ := DataW.trod_string Tryz.underlying9 h2
    obtain ⟨wy, e3, d3, w3⟩ := DataW.trod_int Tryz.underlying23 h3
    have p1 := bulk_pos y1.1
    have p3 := bulk_pos y3.1
    have p2 : Rows.uptoBulk y2.1 = s.size + 1 := by rw [d2]; simp [Rows.uptoBulk]
    simp only [actCells, List.cons.injEq, and_true] at e0 e1 e2 e3
    obtain ⟨e00, e01, e02, e03, e04, e05, e06, e07⟩ := e0
    subst e00 e01 e02 e03 e04 e05 e06 e07 e1 e2 e3
    simp only [actB] at hab
    refine ⟨⟨a, dn, s, wy⟩, ax, ay, cx, cy, rfl, ⟨wf_i64 w3, ?_⟩, ?_⟩
    all_goals simp only [turnB]
    all_goals omega

theorem open_turns {H : Type} {enc : TypeId × Value → H} {W : World} {base : Nat} {r : Reach} {b0 : Nat} {v : Value} {d : DataW H} {p : List MemPlace} (hv : Value.okWide Tryz.prog W r b0 49 v)
    (h : DataW.Trod enc Tryz.prog W base (fun _ => true) true 49 v d p) (hb : Rows.uptoBulk d ≤ 1048576) :
    ∃ tt : List PTurn, IsTurns W v tt ∧ (∀ t ∈ tt, TFits t) ∧ (tt.map turnB).sum ≤ Rows.uptoBulk d := by
  obtain ⟨oa, len0, cap0, rfl⟩ := okWide_slice Tryz.underlying49 hv
  obtain ⟨fuel, hf⟩ := h
  rcases DataW.trod_slice Tryz.underlying49 hf with ⟨h0, h1⟩ | ⟨a, len, cap, elems, rest, n, _, h0, hx, _, _, _, hlen, hel, _, _⟩
  · have e0 : Value.slice oa len0 cap0 = .slice none 0 0 := by simpa [Value.cells] using h0
    cases e0
    exact ⟨[], .inl ⟨_, _, rfl, rfl, fun _ => rfl⟩, fun a ha => by simp at ha, by simp⟩
  · have e0 : Value.slice oa len0 cap0 = .slice (some a) len cap := by simpa [Value.cells] using h0
    cases e0
    have hd : d = .slice (elems.map (·.1)) (rest.map (·.1)) := congrArg Prod.fst hx
    have hbd : Rows.uptoBulkAll (elems.map (·.1)) + 1 ≤ Rows.uptoBulk d := by rw [hd]; simp only [Rows.uptoBulk]; omega
    by_cases hz : len0 = 0
    · subst hz
      exact ⟨[], .inl ⟨_, _, rfl, rfl, fun h => by cases h⟩, fun a ha => by simp at ha, by simp⟩
    have hcell : ∀ i, i < len0 → ∃ cs y, W.cells? base (a.add (i * 11)) 11 = some cs ∧ DataW.trod enc Tryz.prog W base (fun _ => true) true n 42 cs = some y ∧ elems[i]? = some y := by
      intro i hi
      have h1 := hel i hi
      rw [cells42] at h1
      have h2 : i < elems.length := by omega
      rw [List.getElem?_eq_getElem h2, Option.bind_eq_some_iff] at h1
      obtain ⟨cs, h3, h4⟩ := h1
      exact ⟨cs, _, h3, h4, List.getElem?_eq_getElem h2⟩
    have hsp : a.spot = none := by
      obtain ⟨cs, y, h3, _⟩ := hcell 0 (by omega)
      exact spot_none (by decide) h3
    obtain ⟨tt, l1, l2, l3⟩ := each_of len0 (fun i (x : PTurn) => TFits x ∧ ∃ ax cx ay cy, (∀ (j : Nat) c, (turnCells x ax cx ay cy)[j]? = some c → W.cell? ⟨a.block, a.off + i * 11 + j, none⟩ = some c)) turnB
      (elems.map (·.1)) Rows.uptoBulk Rows.uptoBulkAll (by simp only [Rows.uptoBulkAll]) (fun d r => by simp only [Rows.uptoBulkAll]) (by simpa using hlen) (fun i d' hi => by
        have hbi := bulk_get _ _ _ hi
        rw [List.getElem?_map, Option.map_eq_some_iff] at hi
        obtain ⟨y, hy, rfl⟩ := hi
        have hlt : i < len0 := by rw [← hlen]; exact (List.getElem?_eq_some_iff.1 hy).1
        obtain ⟨cs, y', h3, h4, h5⟩ := hcell i hlt
        obtain rfl : y' = y := Option.some.inj (h5.symm.trans hy)
        obtain ⟨x, ax, ay, cx, cy, rfl, hx3, hx4⟩ := turn_of_cells h4 (by omega)
        exact ⟨x, ⟨hx3, ax, cx, ay, cy, block_row (by decide) i h3 hsp⟩, hx4⟩)
    refine ⟨tt, .inr ⟨a.block, a.off, cap0, ?_, fun i x hi => (l2 i x hi).2⟩, fun x hx => ?_, by omega⟩
    · obtain ⟨ab, ao, sp⟩ := a
      subst hsp
      rw [l1]
    · obtain ⟨i, hi⟩ := List.getElem?_of_mem hx
      exact (l2 i x hi).1

theorem rest_len (ts : List Int) (h : ∀ x ∈ ts, -9223372036854775808 ≤ x ∧ x ≤ 9223372036854775807) : (rest ts).length ≤ 22 * ts.length := by
  induction ts with
  | nil => simp [rest]
  | cons t r ih =>
    have h1 := ih fun x hx => h x (List.mem_cons_of_mem _ hx)
    have h2 := itoa_len t (h t List.mem_cons_self).1 (h t List.mem_cons_self).2
    simp only [rest, List.flatMap_cons, List.length_append, List.length_cons] at h1 ⊢
    omega

theorem dec_len (u : Nat) (h : u < 18446744073709551616) : (decDigits u).length ≤ 21 := by
  have := nDigits_le u h
  rw [decDigits_length]
  omega

theorem line_len (a : PAct) (h : Fits a) : (lineS a).length + 1 ≤ 22 * actB a := by
  have h1 := word_le a.draws
  have h2 := word_le a.raw.data.toList
  have h3 := itoa_len a.n h.n.1 h.n.2
  have h4 := itoa_len a.dir h.dir.1 h.dir.2
  have h5 := itoa_len a.outcome h.outcome.1 h.outcome.2
  have h6 := dec_len a.now h.now
  have h7 := rest_len a.tails h.tails
  have h8 : a.raw.data.toList.length = a.raw.size := by simp
  unfold lineS actB
  split
  · simp only [List.length_append, List.length_cons, List.length_nil]; omega
  split
  · simp only [List.length_append, List.length_cons, List.length_nil]; omega
  split
  · simp only [List.length_append, List.length_cons, List.length_nil]; omega
  split
  · simp only [List.length_append, List.length_cons, List.length_nil]; omega
  split
  · simp only [List.length_append, List.length_cons, List.length_nil]; omega
  split
  · simp only [List.length_cons, List.length_nil]; omega
  · simp only [List.length_nil]; omega

theorem script_len (aa : List PAct) (h : ∀ a ∈ aa, Fits a) : (script aa).length ≤ 22 * (aa.map actB).sum := by
  induction aa with
  | nil => simp [script]
  | cons a r ih =>
    have h1 := ih fun x hx => h x (List.mem_cons_of_mem _ hx)
    have h2 := line_len a (h a List.mem_cons_self)
    simp only [script, List.flatMap_cons, List.length_append, List.map_cons, List.sum_cons, List.length_cons, List.length_nil] at h1 ⊢
    omega

theorem acts_len (aa : List PAct) : aa.length ≤ (aa.map actB).sum := by
  induction aa with
  | nil => simp
  | cons a r ih =>
    simp only [List.length_cons, List.map_cons, List.sum_cons, actB] at ih ⊢
    omega

theorem turns_len (tt : List PTurn) : tt.length ≤ (tt.map turnB).sum := by
  induction tt with
  | nil => simp
  | cons a r ih =>
    simp only [List.length_cons, List.map_cons, List.sum_cons, turnB] at ih ⊢
    omega

theorem tale_len (tt : List PTurn) (h : ∀ t ∈ tt, TFits t) : (tale tt).length ≤ 22 * (tt.map turnB).sum := by
  induction tt with
  | nil => simp [tale]
  | cons t r ih =>
    have h1 := ih fun x hx => h x (List.mem_cons_of_mem _ hx)
    have h2 := word_le t.raw.data.toList
    have h3 := itoa_len t.why (h t List.mem_cons_self).why.1 (h t List.mem_cons_self).why.2
    have h8 : t.raw.data.toList.length = t.raw.size := by simp
    have h9 : (if t.done = true then [100, 111, 110, 101] else [108, 111, 115, 116] : List UInt8).length = 4 := by split <;> rfl
    simp only [tale, List.flatMap_cons, List.length_append, List.map_cons, List.sum_cons, turnB, tellOne, List.length_cons, List.length_nil] at h1 ⊢
    omega
end Go.Proofs.YtbfoocginkdmcaaGreatDoor
