/-
  ServerBack under its live(): the law's function answers true.
-/
import Derived.Test.YtbfoocginkdmcaaGreatDoorWJ
import Derived.Test.YtbfoocginkdmcaaGreatDoorWA
import Derived.Test.YtbfoocginkdmcaaGreatDoorWF
import Derived.Deep.RegionHeld3

set_option linter.unusedVariables false
set_option maxRecDepth 100000
set_option maxHeartbeats 8000000
namespace Go.Proofs.YtbfoocginkdmcaaGreatDoor
open Go Go.RowKit Go.Basic Go.ArgS Go.Scr Go.Lib
theorem ba_ofL {a b : ByteArray} (h : a.data.toList = b.data.toList) : a = b := by
  cases a
  cases b
  congr
  exact Array.toList_inj.1 h
theorem good_fits {a : PAct} (h : GoodA 1048577 a) : Fits a where
  now := h.1.1
  outcome := h.1.2.1
  n := h.1.2.2.1
  dir := h.1.2.2.2.1
  tails := h.1.2.2.2.2
  raw := by have := h.2.1; omega
  draws := by have := h.2.2.1; omega
  long := by have := h.2.2.2; omega
theorem fits_n {a : PAct} (h : Fits a) : FitsN a := ⟨h.now, h.outcome, h.n, h.dir, h.tails⟩
theorem parse_size (s : ByteArray) (h : (parseS s.data.toList).2.1 = 0) : s.size ≤ 1048576 := by
  unfold parseS at h
  split at h
  · cases h
  · rename_i h1
    have : s.data.toList.length = s.size := by simp
    omega
theorem back_walk (vl : Value) (aa : List PAct) (s : ByteArray) (w : World) (h : IsActs w vl aa) (hf : ∀ a ∈ aa, Fits a) (hl : aa.length ≤ 1100000) (hT : (script aa).length ≤ 100000000)
    (ht : Tab w) (he : Errs w) (hmx : ∀ W', Below w.heap.size w W' → ∃ m, W'.cell? ⟨1, 0, none⟩ = some (.int .i64 m))
    (c12 : ∀ W', Below w.heap.size w W' → Calls Tryz.prog 12 #[] W' fun e w'' => e = .returned (.bool true) ∧ Below W'.heap.size W' w'') :
    Calls Tryz.prog 6 #[vl, .string s] w fun e w' => e = .returned (.bool true) ∧ Below w.heap.size w w' := by
  obtain ⟨oa, cap, rfl⟩ := h.slice
  have hlenI : (aa.length : Int) ≤ 9223372036854775807 := by omega
  obtain ⟨E, hE⟩ : ∃ E, E = (printS aa).2 := ⟨_, rfl⟩
  have fP : ∀ v W, IsActs W v aa → Tab W → Calls Tryz.prog 19 #[v] W fun e w' => ∃ S : ByteArray, e = .returned (.tuple #[.string S, .int .i64 E]) ∧ Hid (E = 0 → parseS S.data.toList = (aa, 0, 0)) ∧ Below W.heap.size W w' := by
    intro v W hv hW
    refine (print_calls v aa W hv hf hl hT hW).mono fun e w' ⟨S, h1, h2, h3⟩ => ⟨S, by rw [hE]; exact h1, fun e0 => ?_, h3⟩
    exact parse_print (Prod.ext h2.symm (hE.symm.trans e0)) fun a ha => fits_n (hf a ha)
  have f7S : ∀ (S : ByteArray) W, Below w.heap.size w W → parseS S.data.toList = (aa, 0, 0) → Calls Tryz.prog 7 #[.string S] W fun e w' => ∃ va vc, e = .returned (.tuple #[.slice va aa.length vc, .int .i64 0, .int .i64 0]) ∧ NewActs w' W.heap.size (.slice va aa.length vc) aa ∧ Below W.heap.size W w' := by
    intro S W hb hp
    refine (parse_calls S W (tab_below ht hb) (errs_below he hb) (fun W' h => hmx W' (hb.trans (h.mono hb.size)))).mono fun e w' ⟨v, h1, h2, h3⟩ => ?_
    rw [hp] at h1 h2
    obtain ⟨va, vc, rfl⟩ := own_slice8 h2.choose_spec.choose_spec.2.2.2.1
    exact ⟨va, vc, h1, h2, h3⟩
  obtain ⟨kk, hkk⟩ : ∃ kk, kk = (parseS s.data.toList).1 := ⟨_, rfl⟩
  obtain ⟨G, hG⟩ : ∃ G, G = (parseS s.data.toList).2.1 := ⟨_, rfl⟩
  obtain ⟨H, hH⟩ : ∃ H, H = (parseS s.data.toList).2.2 := ⟨_, rfl⟩
  obtain ⟨PE, hPE⟩ : ∃ PE, PE = (printS kk).2 := ⟨_, rfl⟩
  obtain ⟨T, hT'⟩ : ∃ T : ByteArray, T.data.toList = (printS kk).1 := ⟨⟨(printS kk).1.toArray⟩, rfl⟩
  have f7s : ∀ W, Below w.heap.size w W → Calls Tryz.prog 7 #[.string s] W fun e w' => ∃ va vc, e = .returned (.tuple #[.slice va kk.length vc, .int .i64 G, .int .i64 H]) ∧ NewActs w' W.heap.size (.slice va kk.length vc) kk ∧ Below W.heap.size W w' := by
    intro W hb
    refine (parse_calls s W (tab_below ht hb) (errs_below he hb) (fun W' h => hmx W' (hb.trans (h.mono hb.size)))).mono fun e w' ⟨v, h1, h2, h3⟩ => ?_
    rw [← hkk] at h2
    rw [← hG, ← hH] at h1
    obtain ⟨va, vc, rfl⟩ := own_slice8 h2.choose_spec.choose_spec.2.2.2.1
    exact ⟨va, vc, h1, h2, h3⟩
  have hfk : ∀ a ∈ kk, Fits a := fun a ha => good_fits (parse_good s.data.toList a (by rw [← hkk]; exact ha))
  have hcs := parse_cases s
  rw [← hkk, ← hG, ← hPE, ← hT'] at hcs
  have hlk : kk.length ≤ 1100000 := by
    rcases hcs with ⟨_, h0⟩ | ⟨_, _, h1, _⟩
    · rw [h0]; simp
    · omega
  have hsk : (script kk).length ≤ 100000000 := by
    rcases hcs with ⟨_, h0⟩ | ⟨_, h1, _⟩
    · rw [h0]; simp [script]
    · omega
  have hlkI : (kk.length : Int) ≤ 9223372036854775807 := by omega
  have hways : (G ≠ 0 ∧ kk = []) ∨ (G = 0 ∧ ((PE = 1 ∧ s.size = 1048576) ∨ (PE = 0 ∧ (T = s ∨ T = s ++ ⟨#[10]⟩)))) := by
    rcases hcs with h0 | ⟨h0, _, _, h1 | ⟨h1, h2 | h2⟩⟩
    · exact .inl h0
    · exact .inr ⟨h0, .inl h1⟩
    · exact .inr ⟨h0, .inr ⟨h1, .inl (ba_ofL h2)⟩⟩
    · exact .inr ⟨h0, .inr ⟨h1, .inr (ba_ofL (by rw [h2]; simp))⟩⟩
  have fA : ∀ v W, IsActs W v kk → Calls Tryz.prog 18 #[v] W (ActsOut W kk) := fun v W hv => acts_calls v kk W hv hfk hlk
  have fK : ∀ v W, IsActs W v kk → Tab W → Calls Tryz.prog 19 #[v] W fun e w' => e = .returned (.tuple #[.string T, .int .i64 PE]) ∧ Below W.heap.size W w' := by
    intro v W hv hW
    refine (print_calls v kk W hv hfk hlk hsk hW).mono fun e w' ⟨S, h1, h2, h3⟩ => ?_
    obtain rfl : S = T := ba_ofL (h2.trans hT'.symm)
    rw [← hPE] at h1
    exact ⟨h1, h3⟩
  have hG0 : G = 0 → s.size ≤ 1048576 := fun e => parse_size s (hG.symm.trans e)
  have hways2 : (G ≠ 0 ∧ kk = []) ∨ (G = 0 ∧ ((PE = 1 ∧ s.size = 1048576) ∨ (PE = 0 ∧ (T = s ∨ (T = s ++ ⟨#[10]⟩ ∧ ¬ 9223372036854775807 < s.size + 1))))) := by
    rcases hways with h0 | ⟨h0, h1 | ⟨h1, h2 | h2⟩⟩
    · exact .inl h0
    · exact .inr ⟨h0, .inl h1⟩
    · exact .inr ⟨h0, .inr ⟨h1, .inl h2⟩⟩
    · exact .inr ⟨h0, .inr ⟨h1, .inr ⟨h2, by have := hG0 h0; omega⟩⟩⟩
  clear hE hkk hG hH hPE hT' hcs hways hG0
  by_cases hE0 : E = 0
  · subst hE0
    go_enter Tryz.func6, Tryz.ntmps6
    go_wp2_with (first
      | (go_at_call 18; refine (acts_calls _ aa _ h hf hl).mono ?_; rintro e w1 ⟨v1, rfl, hI1, bel1⟩; (obtain ⟨o1, cp1, rfl⟩ := hI1.slice); (have hP1 := fP _ w1 hI1 (tab_below ht bel1)))
      | (go_at_call 19; refine hP1.mono ?_; clear hP1; rintro e w2 ⟨S2, rfl, hS2, bel2⟩; (have b2 := bel1.trans (bel2.mono bel1.size)); (have q9 := c9 0 w2))
      | (go_at_call 9; refine q9.mono ?_; clear q9; rintro e w3 ⟨rfl, bel3⟩; (have b3 := b2.trans (bel3.mono b2.size)); (have q7 := f7S S2 w3 b3 ((show _ → _ from hS2) (by simp))))
      | (go_at_call 7; refine q7.mono ?_; clear q7; rintro e w4 ⟨ma, mc, rfl, hM, bel4⟩; (have b4 := b3.trans (bel4.mono b3.size)); (have q9b := c9 0 w4))
      | (go_at_call 9; refine q9b.mono ?_; clear q9b; rintro e w5 ⟨rfl, bel5⟩; (have b5 := b4.trans (bel5.mono b4.size)); (have hm5 := hM.acts.below bel5)))
    clear fP f7S hI1 hS2 bel1 bel2 bel3 b2 b3 b4 hM bel4 bel5
    go_loopw [10] (fun i wr => ∃ k : Nat, k ≤ aa.length ∧ i = .int .i64 k ∧ Below w5.heap.size w5 wr) (fun i _ => aa.length - (RowKit.intOf i).toNat)
    case atStart => exact ⟨0, Nat.zero_le _, rfl, Below.refl _ _⟩
    case round =>
      obtain ⟨k, hk, rfl, hbw⟩ := hrel
      by_cases hlt : k < aa.length
      · have hlt' : (k : Int) < (aa.length : Int) := by omega
        obtain ⟨a, ha⟩ : ∃ a, aa[k]? = some a := ⟨aa[k], List.getElem?_eq_getElem hlt⟩
        have bwr : Below w.heap.size w wr := b5.trans (hbw.mono b5.size)
        obtain ⟨b, off, cap', ax, cx, ay, cy, ev, c0, c1, c2, c3, c4, c5, c6, c7, hx, hy⟩ := (hm5.below hbw).at ha
        cases ev
        obtain ⟨b', off', cap'', ax', cx', ay', cy', ev, d0, d1, d2, d3, d4, d5, d6, d7, hx', hy'⟩ := (h.below bwr).at ha
        cases ev
        have hfa := hf a (List.mem_of_getElem? ha)
        have hyl : a.tails.length * 8 ≤ reachBytes := by have := hfa.long; unfold reachBytes; omega
        have hcall := alike_calls a.kind a.now a.outcome a.n a.dir a.raw _ _ _ _ _ _ wr.drew hx hy hx' hy' hyl
        have lb := World.block_lt_of_cell? wr _ c0
        have lb' := World.block_lt_of_cell? wr _ d0
        have hS : ∀ w' : World, Below wr.heap.size wr w' → w'.cell? ⟨b, off + k * 8, none⟩ = some (.int .i64 a.kind) ∧ w'.cell? ⟨b, off + k * 8 + 1, none⟩ = some (.string a.raw) ∧ w'.cell? ⟨b, off + k * 8 + 2, none⟩ = some (.slice ax a.draws.length cx) ∧ w'.cell? ⟨b, off + k * 8 + 3, none⟩ = some (.int .u64 (a.now : Int)) ∧ w'.cell? ⟨b, off + k * 8 + 4, none⟩ = some (.int .i64 a.outcome) ∧ w'.cell? ⟨b, off + k * 8 + 5, none⟩ = some (.int .i64 a.n) ∧ w'.cell? ⟨b, off + k * 8 + 6, none⟩ = some (.int .i64 a.dir) ∧ w'.cell? ⟨b, off + k * 8 + 7, none⟩ = some (.slice ay a.tails.length cy) ∧ w'.cell? ⟨b', off' + k * 8, none⟩ = some (.int .i64 a.kind) ∧ w'.cell? ⟨b', off' + k * 8 + 1, none⟩ = some (.string a.raw) ∧ w'.cell? ⟨b', off' + k * 8 + 2, none⟩ = some (.slice ax' a.draws.length cx') ∧ w'.cell? ⟨b', off' + k * 8 + 3, none⟩ = some (.int .u64 (a.now : Int)) ∧ w'.cell? ⟨b', off' + k * 8 + 4, none⟩ = some (.int .i64 a.outcome) ∧ w'.cell? ⟨b', off' + k * 8 + 5, none⟩ = some (.int .i64 a.n) ∧ w'.cell? ⟨b', off' + k * 8 + 6, none⟩ = some (.int .i64 a.dir) ∧ w'.cell? ⟨b', off' + k * 8 + 7, none⟩ = some (.slice ay' a.tails.length cy') := fun w' h => ⟨(h.cell (p := ⟨b, off + k * 8, none⟩) lb).trans c0, (h.cell (p := ⟨b, off + k * 8 + 1, none⟩) lb).trans c1, (h.cell (p := ⟨b, off + k * 8 + 2, none⟩) lb).trans c2, (h.cell (p := ⟨b, off + k * 8 + 3, none⟩) lb).trans c3, (h.cell (p := ⟨b, off + k * 8 + 4, none⟩) lb).trans c4, (h.cell (p := ⟨b, off + k * 8 + 5, none⟩) lb).trans c5, (h.cell (p := ⟨b, off + k * 8 + 6, none⟩) lb).trans c6, (h.cell (p := ⟨b, off + k * 8 + 7, none⟩) lb).trans c7, (h.cell (p := ⟨b', off' + k * 8, none⟩) lb').trans d0, (h.cell (p := ⟨b', off' + k * 8 + 1, none⟩) lb').trans d1, (h.cell (p := ⟨b', off' + k * 8 + 2, none⟩) lb').trans d2, (h.cell (p := ⟨b', off' + k * 8 + 3, none⟩) lb').trans d3, (h.cell (p := ⟨b', off' + k * 8 + 4, none⟩) lb').trans d4, (h.cell (p := ⟨b', off' + k * 8 + 5, none⟩) lb').trans d5, (h.cell (p := ⟨b', off' + k * 8 + 6, none⟩) lb').trans d6, (h.cell (p := ⟨b', off' + k * 8 + 7, none⟩) lb').trans d7⟩
        have bD : Below wr.heap.size wr wr.drew := (Below.refl _ _).drew
        clear hx hy hx' hy' hyl ha hfa
        go_wp2_with fail
        go_region_held3 (fun w' => w'.cell? ⟨b, off + k * 8, none⟩ = some (.int .i64 a.kind) ∧ w'.cell? ⟨b, off + k * 8 + 1, none⟩ = some (.string a.raw) ∧ w'.cell? ⟨b, off + k * 8 + 2, none⟩ = some (.slice ax a.draws.length cx) ∧ w'.cell? ⟨b, off + k * 8 + 3, none⟩ = some (.int .u64 (a.now : Int)) ∧ w'.cell? ⟨b, off + k * 8 + 4, none⟩ = some (.int .i64 a.outcome) ∧ w'.cell? ⟨b, off + k * 8 + 5, none⟩ = some (.int .i64 a.n) ∧ w'.cell? ⟨b, off + k * 8 + 6, none⟩ = some (.int .i64 a.dir) ∧ w'.cell? ⟨b, off + k * 8 + 7, none⟩ = some (.slice ay a.tails.length cy) ∧ w'.cell? ⟨b', off' + k * 8, none⟩ = some (.int .i64 a.kind) ∧ w'.cell? ⟨b', off' + k * 8 + 1, none⟩ = some (.string a.raw) ∧ w'.cell? ⟨b', off' + k * 8 + 2, none⟩ = some (.slice ax' a.draws.length cx') ∧ w'.cell? ⟨b', off' + k * 8 + 3, none⟩ = some (.int .u64 (a.now : Int)) ∧ w'.cell? ⟨b', off' + k * 8 + 4, none⟩ = some (.int .i64 a.outcome) ∧ w'.cell? ⟨b', off' + k * 8 + 5, none⟩ = some (.int .i64 a.n) ∧ w'.cell? ⟨b', off' + k * 8 + 6, none⟩ = some (.int .i64 a.dir) ∧ w'.cell? ⟨b', off' + k * 8 + 7, none⟩ = some (.slice ay' a.tails.length cy')) (first | (with_reducible exact hS _ bD) | (with_reducible exact hS _ b1)) (first
          | (go_at_call 10; (with_reducible refine hcall.mono ?_); rintro e w1 ⟨rfl, bel1⟩; (have b1 : Below wr.heap.size wr w1 := bD.trans bel1)))
        go_wp2
        refine ⟨⟨k + 1, hlt, (by first | rfl | simp), hbw.trans (b1.mono hbw.size)⟩, ?_⟩
        simp only [RowKit.intOf]
        omega
      · have hge : ¬ (k : Int) < (aa.length : Int) := by omega
        obtain rfl : k = aa.length := by omega
        have bwr : Below w.heap.size w wr := b5.trans (hbw.mono b5.size)
        clear hm5 hbw b5 h hk hlt
        rcases hways2 with ⟨hG, hk0⟩ | ⟨hG, ⟨hPE, hsz⟩ | ⟨hPE, hT | ⟨hT, hs9⟩⟩⟩
        · subst hk0
          have hG2 : (G == 0) = false := by simpa using hG
          go_wp2_with (first
            | (go_at_call 7; refine (f7s _ bwr).mono ?_; clear f7s; rintro e v4 ⟨va, vc, rfl, hN, g4⟩; (have d4 := bwr.trans (g4.mono bwr.size)); (have q9 := c9 G v4); clear g4)
            | (go_at_call 9; refine q9.mono ?_; clear q9; rintro e v5 ⟨rfl, g5⟩; (have d5 := d4.trans (g5.mono d4.size)))
            | (go_at_call 12; refine (c12 _ d5).mono ?_; rintro e v9 ⟨rfl, g9⟩; (have d9 := d5.trans (g9.mono d5.size))))
          go_ret
          exact ⟨rfl, d9⟩
        · subst hG hPE
          have hszI : (s.size : Int) = 1048576 := by omega
          go_wp2_with (first
            | (go_at_call 7; refine (f7s _ bwr).mono ?_; clear f7s; rintro e v4 ⟨va, vc, rfl, hN, g4⟩; (have d4 := bwr.trans (g4.mono bwr.size)); (have q9 := c9 0 v4); clear g4)
            | (go_at_call 9; refine q9.mono ?_; clear q9; rintro e v5 ⟨rfl, g5⟩; (have d5 := d4.trans (g5.mono d4.size)); (have q18 := fA _ v5 (hN.acts.below g5)))
            | (go_at_call 18; refine q18.mono ?_; clear q18; rintro e v6 ⟨u6, rfl, hI6, g6⟩; (obtain ⟨o6, p6, rfl⟩ := hI6.slice); (have d6 := d5.trans (g6.mono d5.size)); (have q19 := fK _ v6 hI6 (tab_below ht d6)))
            | (go_at_call 19; refine q19.mono ?_; clear q19; rintro e v7 ⟨rfl, g7⟩; (have d7 := d6.trans (g7.mono d6.size)); (have q9c := c9 1 v7))
            | (go_at_call 9; refine q9c.mono ?_; clear q9c; rintro e v8 ⟨rfl, g8⟩; (have d8 := d7.trans (g8.mono d7.size)); (have q9d := c9 1 v8))
            | (go_at_call 9; refine q9d.mono ?_; clear q9d; rintro e v9 ⟨rfl, g9⟩; (have d9 := d8.trans (g9.mono d8.size))))
          go_ret
          exact ⟨rfl, d9⟩
        · subst hG hPE hT
          go_wp2_with (first
            | (go_at_call 7; refine (f7s _ bwr).mono ?_; clear f7s; rintro e v4 ⟨va, vc, rfl, hN, g4⟩; (have d4 := bwr.trans (g4.mono bwr.size)); (have q9 := c9 0 v4); clear g4)
            | (go_at_call 9; refine q9.mono ?_; clear q9; rintro e v5 ⟨rfl, g5⟩; (have d5 := d4.trans (g5.mono d4.size)); (have q18 := fA _ v5 (hN.acts.below g5)))
            | (go_at_call 18; refine q18.mono ?_; clear q18; rintro e v6 ⟨u6, rfl, hI6, g6⟩; (obtain ⟨o6, p6, rfl⟩ := hI6.slice); (have d6 := d5.trans (g6.mono d5.size)); (have q19 := fK _ v6 hI6 (tab_below ht d6)))
            | (go_at_call 19; refine q19.mono ?_; clear q19; rintro e v7 ⟨rfl, g7⟩; (have d7 := d6.trans (g7.mono d6.size)); (have q9c := c9 0 v7))
            | (go_at_call 9; refine q9c.mono ?_; clear q9c; rintro e v8 ⟨rfl, g8⟩; (have d8 := d7.trans (g8.mono d7.size)))
            | (go_at_call 12; refine (c12 _ d8).mono ?_; rintro e v9 ⟨rfl, g9⟩; (have d9 := d8.trans (g9.mono d8.size))))
          go_ret
          exact ⟨rfl, d9⟩
        · subst hG hPE hT
          have t1 : ¬ (s ++ (⟨#[10]⟩ : ByteArray)).toList = s.toList := by rw [ByteArray.toList_eq, ByteArray.toList_eq]; intro e; have := congrArg List.length e; simp at this
          go_wp2_with (first
            | (go_at_call 7; refine (f7s _ bwr).mono ?_; clear f7s; rintro e v4 ⟨va, vc, rfl, hN, g4⟩; (have d4 := bwr.trans (g4.mono bwr.size)); (have q9 := c9 0 v4); clear g4)
            | (go_at_call 9; refine q9.mono ?_; clear q9; rintro e v5 ⟨rfl, g5⟩; (have d5 := d4.trans (g5.mono d4.size)); (have q18 := fA _ v5 (hN.acts.below g5)))
            | (go_at_call 18; refine q18.mono ?_; clear q18; rintro e v6 ⟨u6, rfl, hI6, g6⟩; (obtain ⟨o6, p6, rfl⟩ := hI6.slice); (have d6 := d5.trans (g6.mono d5.size)); (have q19 := fK _ v6 hI6 (tab_below ht d6)))
            | (go_at_call 19; refine q19.mono ?_; clear q19; rintro e v7 ⟨rfl, g7⟩; (have d7 := d6.trans (g7.mono d6.size)); (have q9c := c9 0 v7))
            | (go_at_call 9; refine q9c.mono ?_; clear q9c; rintro e v8 ⟨rfl, g8⟩; (have d8 := d7.trans (g8.mono d7.size)))
            | (go_at_call 12; refine (c12 _ d8).mono ?_; rintro e v9 ⟨rfl, g9⟩; (have d9 := d8.trans (g9.mono d8.size))))
          go_ret
          exact ⟨rfl, d9⟩
  · have hE2 : (E == 0) = false := by simpa using hE0
    go_enter Tryz.func6, Tryz.ntmps6
    go_wp2_with (first
      | (go_at_call 18; refine (acts_calls _ aa _ h hf hl).mono ?_; rintro e w1 ⟨v1, rfl, hI1, bel1⟩; (obtain ⟨o1, cp1, rfl⟩ := hI1.slice); (have hP1 := fP _ w1 hI1 (tab_below ht bel1)))
      | (go_at_call 19; refine hP1.mono ?_; clear hP1; rintro e w2 ⟨S2, rfl, hS2, bel2⟩; (have b2 := bel1.trans (bel2.mono bel1.size)); (have q9 := c9 E w2))
      | (go_at_call 9; refine q9.mono ?_; clear q9; rintro e w3 ⟨rfl, bel3⟩; (have b3 := b2.trans (bel3.mono b2.size))))
    clear fP f7S hI1 hS2 bel1 bel2 bel3 b2 h
    rcases hways2 with ⟨hG, hk0⟩ | ⟨hG, ⟨hPE, hsz⟩ | ⟨hPE, hT | ⟨hT, hs9⟩⟩⟩
    · subst hk0
      have hG2 : (G == 0) = false := by simpa using hG
      go_wp2_with (first
        | (go_at_call 7; refine (f7s _ b3).mono ?_; clear f7s; rintro e v4 ⟨va, vc, rfl, hN, g4⟩; (have d4 := b3.trans (g4.mono b3.size)); (have q9 := c9 G v4); clear g4)
        | (go_at_call 9; refine q9.mono ?_; clear q9; rintro e v5 ⟨rfl, g5⟩; (have d5 := d4.trans (g5.mono d4.size)))
        | (go_at_call 12; refine (c12 _ d5).mono ?_; rintro e v9 ⟨rfl, g9⟩; (have d9 := d5.trans (g9.mono d5.size))))
      go_ret
      exact ⟨rfl, d9⟩
    · subst hG hPE
      have hszI : (s.size : Int) = 1048576 := by omega
      go_wp2_with (first
        | (go_at_call 7; refine (f7s _ b3).mono ?_; clear f7s; rintro e v4 ⟨va, vc, rfl, hN, g4⟩; (have d4 := b3.trans (g4.mono b3.size)); (have q9 := c9 0 v4); clear g4)
        | (go_at_call 9; refine q9.mono ?_; clear q9; rintro e v5 ⟨rfl, g5⟩; (have d5 := d4.trans (g5.mono d4.size)); (have q18 := fA _ v5 (hN.acts.below g5)))
        | (go_at_call 18; refine q18.mono ?_; clear q18; rintro e v6 ⟨u6, rfl, hI6, g6⟩; (obtain ⟨o6, p6, rfl⟩ := hI6.slice); (have d6 := d5.trans (g6.mono d5.size)); (have q19 := fK _ v6 hI6 (tab_below ht d6)))
        | (go_at_call 19; refine q19.mono ?_; clear q19; rintro e v7 ⟨rfl, g7⟩; (have d7 := d6.trans (g7.mono d6.size)); (have q9c := c9 1 v7))
        | (go_at_call 9; refine q9c.mono ?_; clear q9c; rintro e v8 ⟨rfl, g8⟩; (have d8 := d7.trans (g8.mono d7.size)); (have q9d := c9 1 v8))
        | (go_at_call 9; refine q9d.mono ?_; clear q9d; rintro e v9 ⟨rfl, g9⟩; (have d9 := d8.trans (g9.mono d8.size))))
      go_ret
      exact ⟨rfl, d9⟩
    · subst hG hPE hT
      go_wp2_with (first
        | (go_at_call 7; refine (f7s _ b3).mono ?_; clear f7s; rintro e v4 ⟨va, vc, rfl, hN, g4⟩; (have d4 := b3.trans (g4.mono b3.size)); (have q9 := c9 0 v4); clear g4)
        | (go_at_call 9; refine q9.mono ?_; clear q9; rintro e v5 ⟨rfl, g5⟩; (have d5 := d4.trans (g5.mono d4.size)); (have q18 := fA _ v5 (hN.acts.below g5)))
        | (go_at_call 18; refine q18.mono ?_; clear q18; rintro e v6 ⟨u6, rfl, hI6, g6⟩; (obtain ⟨o6, p6, rfl⟩ := hI6.slice); (have d6 := d5.trans (g6.mono d5.size)); (have q19 := fK _ v6 hI6 (tab_below ht d6)))
        | (go_at_call 19; refine q19.mono ?_; clear q19; rintro e v7 ⟨rfl, g7⟩; (have d7 := d6.trans (g7.mono d6.size)); (have q9c := c9 0 v7))
        | (go_at_call 9; refine q9c.mono ?_; clear q9c; rintro e v8 ⟨rfl, g8⟩; (have d8 := d7.trans (g8.mono d7.size)))
        | (go_at_call 12; refine (c12 _ d8).mono ?_; rintro e v9 ⟨rfl, g9⟩; (have d9 := d8.trans (g9.mono d8.size))))
      go_ret
      exact ⟨rfl, d9⟩
    · subst hG hPE hT
      have t1 : ¬ (s ++ (⟨#[10]⟩ : ByteArray)).toList = s.toList := by rw [ByteArray.toList_eq, ByteArray.toList_eq]; intro e; have := congrArg List.length e; simp at this
      go_wp2_with (first
        | (go_at_call 7; refine (f7s _ b3).mono ?_; clear f7s; rintro e v4 ⟨va, vc, rfl, hN, g4⟩; (have d4 := b3.trans (g4.mono b3.size)); (have q9 := c9 0 v4); clear g4)
        | (go_at_call 9; refine q9.mono ?_; clear q9; rintro e v5 ⟨rfl, g5⟩; (have d5 := d4.trans (g5.mono d4.size)); (have q18 := fA _ v5 (hN.acts.below g5)))
        | (go_at_call 18; refine q18.mono ?_; clear q18; rintro e v6 ⟨u6, rfl, hI6, g6⟩; (obtain ⟨o6, p6, rfl⟩ := hI6.slice); (have d6 := d5.trans (g6.mono d5.size)); (have q19 := fK _ v6 hI6 (tab_below ht d6)))
        | (go_at_call 19; refine q19.mono ?_; clear q19; rintro e v7 ⟨rfl, g7⟩; (have d7 := d6.trans (g7.mono d6.size)); (have q9c := c9 0 v7))
        | (go_at_call 9; refine q9c.mono ?_; clear q9c; rintro e v8 ⟨rfl, g8⟩; (have d8 := d7.trans (g8.mono d7.size)))
        | (go_at_call 12; refine (c12 _ d8).mono ?_; rintro e v9 ⟨rfl, g9⟩; (have d9 := d8.trans (g9.mono d8.size))))
      go_ret
      exact ⟨rfl, d9⟩
end Go.Proofs.YtbfoocginkdmcaaGreatDoor
