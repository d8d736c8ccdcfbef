/-
  The reference's act of a line.
-/
import Derived.Test.YtbfoocginkdmcaaGreatDoorWI
import Derived.Test.YtbfoocginkdmcaaGreatDoorWH

set_option linter.unusedVariables false
set_option maxRecDepth 100000
set_option maxHeartbeats 4000000
namespace Go.Proofs.YtbfoocginkdmcaaGreatDoor
open Go Go.RowKit Go.Basic Go.Scr Go.Lib Go.ArgS
theorem cutAt_single {c : UInt8} : ∀ {l p : List UInt8}, cutAt c l = [p] → l = p
  | [], p, h => by simp [cutAt] at h; first | exact h | exact h.symm
  | x :: l, p, h => by
    unfold cutAt at h
    split at h
    · injection h with _ h
      exact absurd h (cutAt_ne c l)
    · obtain ⟨q, r, hq⟩ := cutAt_cons c l
      rw [hq] at h
      simp only [List.headD_cons, List.tail_cons] at h
      injection h with h1 h2
      subst h2
      rw [← h1, cutAt_single hq]
theorem refBytes_none (s : ByteArray) (hs : s.size ≤ 2000000) (hz : wordOf s.data.toList = none) (w : World) : Calls Tryz.prog 54 #[.string s] w fun e w' => ∃ a c, ∃ p : List UInt8, e = .returned (.tuple #[.slice a p.length c, .bool false]) ∧ OwnS w' w.heap.size .u8 (.slice a p.length c) (p.map fun b => (b.toNat : Int)) ∧ p.length ≤ 65536 ∧ Below w.heap.size w w' := by
  refine (refBytes_calls s hs w).mono fun e w' ⟨a, c, p, h1, h2, h3, _, h4⟩ => ?_
  rw [hz] at h1
  exact ⟨a, c, p, h1, h2, h3, h4⟩
theorem refBytes_some (s : ByteArray) (hs : s.size ≤ 2000000) (q : List UInt8) (hz : wordOf s.data.toList = some q) (w : World) : Calls Tryz.prog 54 #[.string s] w fun e w' => ∃ a c, e = .returned (.tuple #[.slice a q.length c, .bool true]) ∧ OwnS w' w.heap.size .u8 (.slice a q.length c) (q.map fun b => (b.toNat : Int)) ∧ q.length ≤ 65536 ∧ Below w.heap.size w w' := by
  refine (refBytes_calls s hs w).mono fun e w' ⟨a, c, p, h1, h2, h3, h5, h4⟩ => ?_
  rw [hz] at h1
  obtain rfl := h5 q hz
  exact ⟨a, c, h1, h2, h3, h4⟩
structure Wd (w w1 : World) (R g c n : Nat) (ws : List ByteArray) : Prop where
  res : Box w1 R zeroL
  bel : Below w.heap.size w w1
  lR : w.heap.size ≤ R
  cell : ∀ (j : Nat) x, ws[j]? = some x → w1.cell? ⟨g, j, none⟩ = some (.string x)
  gl : g < w1.heap.size
  nl : n = ws.length
  nc : n ≤ c
theorem Wd.below {w w1 w2 : World} {R g c n : Nat} {ws : List ByteArray} (h : Wd w w1 R g c n ws) (hb : Below w1.heap.size w1 w2) : Wd w w2 R g c n ws where
  res := h.res.below hb h.res.1
  bel := h.bel.trans (hb.mono h.bel.size)
  lR := h.lR
  cell j x hj := (hb.cell (p := ⟨g, j, none⟩) h.gl).trans (h.cell j x hj)
  gl := Nat.lt_of_lt_of_le h.gl hb.size
  nl := h.nl
  nc := h.nc
theorem wd_init (w : World) (s : ByteArray) (hs : s.size ≤ 2000000) :
    Calls Tryz.prog 52 #[.string s] (w.alloc (.cells zeroL.toArray 36)) fun e w1 => ∃ (ws : List ByteArray) (g c n : Nat), e = .returned (.slice (some ⟨g, 0, none⟩) n c) ∧ ws.map (·.data.toList) = cutAt 32 s.data.toList ∧ (∀ x ∈ ws, x.size ≤ s.size) ∧ ws.length ≤ s.size + 1 ∧ Wd w w1 w.heap.size g c n ws := by
  refine (words_calls s hs _).mono fun e w1 ⟨ws, v, h1, h2, h3, h4, h5, h6⟩ => ?_
  have hpos : 0 < ws.length := by
    have : ws.map (·.data.toList) ≠ [] := by rw [h2]; exact cutAt_ne _ _
    rcases Nat.eq_zero_or_pos ws.length with h | h
    · rw [List.eq_nil_of_length_eq_zero h] at this; exact absurd rfl this
    · exact h
  obtain ⟨g, cap, rfl, hg1, hg2, hcells⟩ := own_cells h5 hpos
  have hcap : ws.length ≤ cap := by
    rcases h5.2 with ⟨h, _⟩ | ⟨g', cap', cur, h, _, _, hm, hle, _⟩
    · cases h
    · cases h
      first | exact hm | exact hle | omega
  have hs0 : (w.alloc (.cells zeroL.toArray 36)).heap.size = w.heap.size + 1 := by simp
  refine ⟨ws, g, cap, ws.length, h1, h2, h3, h4, ?_, ?_, Nat.le_refl _, fun j x hj => hcells j _ (by rw [List.getElem?_map, hj]; rfl), hg2, rfl, hcap⟩
  · exact (Box.new w zeroL.toArray 36).below h6 (by rw [hs0]; omega)
  · exact ((Below.refl _ _).alloc (Nat.le_refl _) _).trans (h6.mono (by rw [hs0]; omega))
theorem words_cons {ws : List ByteArray} {kb : List UInt8} {rb : List (List UInt8)} (h : ws.map (·.data.toList) = kb :: rb) : ∃ k r, ws = k :: r ∧ k.data.toList = kb ∧ r.map (·.data.toList) = rb := by
  cases ws with
  | nil => simp at h
  | cons k r =>
    rw [List.map_cons] at h
    injection h with h1 h2
    exact ⟨k, r, rfl, h1, h2⟩
theorem words_nil {ws : List ByteArray} (h : ws.map (·.data.toList) = []) : ws = [] := by simpa using h
theorem t_test {k : ByteArray} {kb l : List UInt8} {b : Bool} (hk : k.data.toList = kb) (hb : decide (kb = l) = b) : (k.toList == l) = b := by
  rw [ByteArray.toList_eq, hk, ← hb]
  by_cases h : kb = l
  · simp [h]
  · simp [h]
theorem len_words {ws : List ByteArray} {rb : List (List UInt8)} (h : ws.map (·.data.toList) = rb) : ws.length = rb.length := by
  rw [← h, List.length_map]
end Go.Proofs.YtbfoocginkdmcaaGreatDoor

/-
  The reference's act of a line, by its kind.
-/

set_option linter.unusedVariables false
set_option maxRecDepth 100000
set_option maxHeartbeats 4000000
namespace Go.Proofs.YtbfoocginkdmcaaGreatDoor
open Go Go.RowKit Go.Basic Go.Scr Go.Lib Go.ArgS
theorem ract_request_other (s : ByteArray) (hs : s.size ≤ 1048577) (rb : List (List UInt8)) (hlen : rb.length ≠ 2) (hs6 : s.data.toList ≠ [99, 111, 109, 112, 97, 99, 116])  (hcut : cutAt 32 s.data.toList = [114, 101, 113, 117, 101, 115, 116] :: rb) (w : World) :
    Calls Tryz.prog 26 #[.string s] w (AOut w (ofLine s.data.toList)) := by
  have hline : Hid (ofLine s.data.toList = none) := by
    show _ = _
    unfold ofLine
    rw [hcut]
    rw [act_request]
    match rb, hlen with
    | [], _ => rfl
    | [_], _ => rfl
    | _ :: _ :: _ :: _, _ => rfl
    | [_, _], h => exact absurd rfl h
  replace hs : s.size ≤ 2000000 := by omega
  have ts : (s.toList == [99, 111, 109, 112, 97, 99, 116]) = false := t_test rfl (decide_eq_false hs6)
  go_enter Tryz.func26, Tryz.ntmps26
  go_wp2_with (first
    | (go_at_call 52; refine (wd_init w s hs).mono ?_; rintro e w1 ⟨ws, g, c, n, rfl, hm, hx, hl, hW⟩; rw [hcut] at hm; (obtain ⟨k, r, rfl, hk, hm⟩ := words_cons hm); (have c0 := hW.cell 0 k rfl); (have t0 : (k.toList == [114, 101, 115, 116, 97, 114, 116]) = false := t_test hk rfl); (have t1 : (k.toList == [114, 101, 113, 117, 101, 115, 116]) = true := t_test hk rfl); (have t2 : (k.toList == [116, 105, 99, 107]) = false := t_test hk rfl); (have t3 : (k.toList == [112, 105, 110, 103]) = false := t_test hk rfl); (have t4 : (k.toList == [97, 114, 109]) = false := t_test hk rfl); (have hn0 := hW.nl); (have hn1 := len_words hm); (have hnl : (k :: r).length = r.length + 1 := rfl); (have hnq : ((n : Int) == 3) = false := by (rw [beq_eq_false_iff_ne]; omega)); (have hnqI : ¬ (n : Int) = 3 := by omega); (obtain ⟨e0, e1, e2, e3, e4, e5, e6, e7⟩ := all8 hW.res); (have fz := hW.res.2.2)))
  obtain ⟨b16, e0, e1, e2, e3, e4, e5, e6, e7⟩ := fin8 hW.res rfl hW.bel hW.lR (.int .i64 6) (.string ⟨#[]⟩) (.slice none 0 0) (.int .u64 0) (.int .i64 0) (.int .i64 0) (.int .i64 0) (.slice none 0 0) rfl
  try simp only [Exit.inBlock, Exit.then]
  refine bodyPost_ret (by simp [results, Tryz.results26, go_sem, e0, e1, e2, e3, e4, e5, e6, e7]; try rfl) rfl ?_
  unfold AOut
  rw [show ofLine _ = _ from hline]
  exact ⟨_, _, _, _, _, _, _, _, _, _, _, _, rfl, b16, fun A hA => by cases hA⟩
theorem ract_tick_other (s : ByteArray) (hs : s.size ≤ 1048577) (rb : List (List UInt8)) (hlen : rb.length ≠ 1) (hs6 : s.data.toList ≠ [99, 111, 109, 112, 97, 99, 116])  (hcut : cutAt 32 s.data.toList = [116, 105, 99, 107] :: rb) (w : World) :
    Calls Tryz.prog 26 #[.string s] w (AOut w (ofLine s.data.toList)) := by
  have hline : Hid (ofLine s.data.toList = none) := by
    show _ = _
    unfold ofLine
    rw [hcut]
    rw [act_tick]
    match rb, hlen with
    | [], _ => rfl
    | _ :: _ :: _, _ => rfl
    | [_], h => exact absurd rfl h
  replace hs : s.size ≤ 2000000 := by omega
  have ts : (s.toList == [99, 111, 109, 112, 97, 99, 116]) = false := t_test rfl (decide_eq_false hs6)
  go_enter Tryz.func26, Tryz.ntmps26
  go_wp2_with (first
    | (go_at_call 52; refine (wd_init w s hs).mono ?_; rintro e w1 ⟨ws, g, c, n, rfl, hm, hx, hl, hW⟩; rw [hcut] at hm; (obtain ⟨k, r, rfl, hk, hm⟩ := words_cons hm); (have c0 := hW.cell 0 k rfl); (have t0 : (k.toList == [114, 101, 115, 116, 97, 114, 116]) = false := t_test hk rfl); (have t1 : (k.toList == [114, 101, 113, 117, 101, 115, 116]) = false := t_test hk rfl); (have t2 : (k.toList == [116, 105, 99, 107]) = true := t_test hk rfl); (have t3 : (k.toList == [112, 105, 110, 103]) = false := t_test hk rfl); (have t4 : (k.toList == [97, 114, 109]) = false := t_test hk rfl); (have hn0 := hW.nl); (have hn1 := len_words hm); (have hnl : (k :: r).length = r.length + 1 := rfl); (have hnq : ((n : Int) == 2) = false := by (rw [beq_eq_false_iff_ne]; omega)); (have hnqI : ¬ (n : Int) = 2 := by omega); (obtain ⟨e0, e1, e2, e3, e4, e5, e6, e7⟩ := all8 hW.res); (have fz := hW.res.2.2)))
  obtain ⟨b16, e0, e1, e2, e3, e4, e5, e6, e7⟩ := fin8 hW.res rfl hW.bel hW.lR (.int .i64 6) (.string ⟨#[]⟩) (.slice none 0 0) (.int .u64 0) (.int .i64 0) (.int .i64 0) (.int .i64 0) (.slice none 0 0) rfl
  try simp only [Exit.inBlock, Exit.then]
  refine bodyPost_ret (by simp [results, Tryz.results26, go_sem, e0, e1, e2, e3, e4, e5, e6, e7]; try rfl) rfl ?_
  unfold AOut
  rw [show ofLine _ = _ from hline]
  exact ⟨_, _, _, _, _, _, _, _, _, _, _, _, rfl, b16, fun A hA => by cases hA⟩
theorem ract_ping_other (s : ByteArray) (hs : s.size ≤ 1048577) (rb : List (List UInt8)) (hlen : rb.length ≠ 1) (hs6 : s.data.toList ≠ [99, 111, 109, 112, 97, 99, 116])  (hcut : cutAt 32 s.data.toList = [112, 105, 110, 103] :: rb) (w : World) :
    Calls Tryz.prog 26 #[.string s] w (AOut w (ofLine s.data.toList)) := by
  have hline : Hid (ofLine s.data.toList = none) := by
    show _ = _
    unfold ofLine
    rw [hcut]
    rw [act_ping]
    match rb, hlen with
    | [], _ => rfl
    | _ :: _ :: _, _ => rfl
    | [_], h => exact absurd rfl h
  replace hs : s.size ≤ 2000000 := by omega
  have ts : (s.toList == [99, 111, 109, 112, 97, 99, 116]) = false := t_test rfl (decide_eq_false hs6)
  go_enter Tryz.func26, Tryz.ntmps26
  go_wp2_with (first
    | (go_at_call 52; refine (wd_init w s hs).mono ?_; rintro e w1 ⟨ws, g, c, n, rfl, hm, hx, hl, hW⟩; rw [hcut] at hm; (obtain ⟨k, r, rfl, hk, hm⟩ := words_cons hm); (have c0 := hW.cell 0 k rfl); (have t0 : (k.toList == [114, 101, 115, 116, 97, 114, 116]) = false := t_test hk rfl); (have t1 : (k.toList == [114, 101, 113, 117, 101, 115, 116]) = false := t_test hk rfl); (have t2 : (k.toList == [116, 105, 99, 107]) = false := t_test hk rfl); (have t3 : (k.toList == [112, 105, 110, 103]) = true := t_test hk rfl); (have t4 : (k.toList == [97, 114, 109]) = false := t_test hk rfl); (have hn0 := hW.nl); (have hn1 := len_words hm); (have hnl : (k :: r).length = r.length + 1 := rfl); (have hnq : ((n : Int) == 2) = false := by (rw [beq_eq_false_iff_ne]; omega)); (have hnqI : ¬ (n : Int) = 2 := by omega); (obtain ⟨e0, e1, e2, e3, e4, e5, e6, e7⟩ := all8 hW.res); (have fz := hW.res.2.2)))
  obtain ⟨b16, e0, e1, e2, e3, e4, e5, e6, e7⟩ := fin8 hW.res rfl hW.bel hW.lR (.int .i64 6) (.string ⟨#[]⟩) (.slice none 0 0) (.int .u64 0) (.int .i64 0) (.int .i64 0) (.int .i64 0) (.slice none 0 0) rfl
  try simp only [Exit.inBlock, Exit.then]
  refine bodyPost_ret (by simp [results, Tryz.results26, go_sem, e0, e1, e2, e3, e4, e5, e6, e7]; try rfl) rfl ?_
  unfold AOut
  rw [show ofLine _ = _ from hline]
  exact ⟨_, _, _, _, _, _, _, _, _, _, _, _, rfl, b16, fun A hA => by cases hA⟩
theorem ract_arm_other (s : ByteArray) (hs : s.size ≤ 1048577) (rb : List (List UInt8)) (hlen : rb.length ≠ 1) (hs6 : s.data.toList ≠ [99, 111, 109, 112, 97, 99, 116])  (hcut : cutAt 32 s.data.toList = [97, 114, 109] :: rb) (w : World) :
    Calls Tryz.prog 26 #[.string s] w (AOut w (ofLine s.data.toList)) := by
  have hline : Hid (ofLine s.data.toList = none) := by
    show _ = _
    unfold ofLine
    rw [hcut]
    rw [act_arm]
    match rb, hlen with
    | [], _ => rfl
    | _ :: _ :: _, _ => rfl
    | [_], h => exact absurd rfl h
  replace hs : s.size ≤ 2000000 := by omega
  have ts : (s.toList == [99, 111, 109, 112, 97, 99, 116]) = false := t_test rfl (decide_eq_false hs6)
  go_enter Tryz.func26, Tryz.ntmps26
  go_wp2_with (first
    | (go_at_call 52; refine (wd_init w s hs).mono ?_; rintro e w1 ⟨ws, g, c, n, rfl, hm, hx, hl, hW⟩; rw [hcut] at hm; (obtain ⟨k, r, rfl, hk, hm⟩ := words_cons hm); (have c0 := hW.cell 0 k rfl); (have t0 : (k.toList == [114, 101, 115, 116, 97, 114, 116]) = false := t_test hk rfl); (have t1 : (k.toList == [114, 101, 113, 117, 101, 115, 116]) = false := t_test hk rfl); (have t2 : (k.toList == [116, 105, 99, 107]) = false := t_test hk rfl); (have t3 : (k.toList == [112, 105, 110, 103]) = false := t_test hk rfl); (have t4 : (k.toList == [97, 114, 109]) = true := t_test hk rfl); (have hn0 := hW.nl); (have hn1 := len_words hm); (have hnl : (k :: r).length = r.length + 1 := rfl); (have hnq : ((n : Int) == 2) = false := by (rw [beq_eq_false_iff_ne]; omega)); (have hnqI : ¬ (n : Int) = 2 := by omega); (obtain ⟨e0, e1, e2, e3, e4, e5, e6, e7⟩ := all8 hW.res); (have fz := hW.res.2.2)))
  obtain ⟨b16, e0, e1, e2, e3, e4, e5, e6, e7⟩ := fin8 hW.res rfl hW.bel hW.lR (.int .i64 6) (.string ⟨#[]⟩) (.slice none 0 0) (.int .u64 0) (.int .i64 0) (.int .i64 0) (.int .i64 0) (.slice none 0 0) rfl
  try simp only [Exit.inBlock, Exit.then]
  refine bodyPost_ret (by simp [results, Tryz.results26, go_sem, e0, e1, e2, e3, e4, e5, e6, e7]; try rfl) rfl ?_
  unfold AOut
  rw [show ofLine _ = _ from hline]
  exact ⟨_, _, _, _, _, _, _, _, _, _, _, _, rfl, b16, fun A hA => by cases hA⟩
end Go.Proofs.YtbfoocginkdmcaaGreatDoor

/-
  The reference's act of a line, by its kind.
-/

set_option linter.unusedVariables false
set_option maxRecDepth 100000
set_option maxHeartbeats 4000000
namespace Go.Proofs.YtbfoocginkdmcaaGreatDoor
open Go Go.RowKit Go.Basic Go.Scr Go.Lib Go.ArgS
theorem ract_none (s : ByteArray) (hs : s.size ≤ 1048577) (kb : List UInt8) (rb : List (List UInt8)) (hs6 : s.data.toList ≠ [99, 111, 109, 112, 97, 99, 116]) (hnone : actOf (kb :: rb) = none) (hk0 : kb ≠ [114, 101, 115, 116, 97, 114, 116]) (hk1 : kb ≠ [114, 101, 113, 117, 101, 115, 116]) (hk2 : kb ≠ [116, 105, 99, 107]) (hk3 : kb ≠ [112, 105, 110, 103]) (hk4 : kb ≠ [97, 114, 109]) (hcut : cutAt 32 s.data.toList = kb :: rb) (w : World) :
    Calls Tryz.prog 26 #[.string s] w (AOut w (ofLine s.data.toList)) := by
  have hline : Hid (ofLine s.data.toList = none) := by
    show _ = _
    unfold ofLine
    rw [hcut]
    exact hnone
  replace hs : s.size ≤ 2000000 := by omega
  have ts : (s.toList == [99, 111, 109, 112, 97, 99, 116]) = false := t_test rfl (decide_eq_false hs6)
  go_enter Tryz.func26, Tryz.ntmps26
  go_wp2_with (first
    | (go_at_call 52; refine (wd_init w s hs).mono ?_; rintro e w1 ⟨ws, g, c, n, rfl, hm, hx, hl, hW⟩; rw [hcut] at hm; (obtain ⟨k, r, rfl, hk, hm⟩ := words_cons hm); (have c0 := hW.cell 0 k rfl); (have t0 : (k.toList == [114, 101, 115, 116, 97, 114, 116]) = false := t_test hk (decide_eq_false hk0)); (have t1 : (k.toList == [114, 101, 113, 117, 101, 115, 116]) = false := t_test hk (decide_eq_false hk1)); (have t2 : (k.toList == [116, 105, 99, 107]) = false := t_test hk (decide_eq_false hk2)); (have t3 : (k.toList == [112, 105, 110, 103]) = false := t_test hk (decide_eq_false hk3)); (have t4 : (k.toList == [97, 114, 109]) = false := t_test hk (decide_eq_false hk4)); (have hn0 := hW.nl); (have hnl : (k :: r).length = r.length + 1 := rfl); (have hnp : (0 : Int) < (n : Int) := by omega); (obtain ⟨e0, e1, e2, e3, e4, e5, e6, e7⟩ := all8 hW.res); (have fz := hW.res.2.2)))
  obtain ⟨b16, e0, e1, e2, e3, e4, e5, e6, e7⟩ := fin8 hW.res rfl hW.bel hW.lR (.int .i64 6) (.string ⟨#[]⟩) (.slice none 0 0) (.int .u64 0) (.int .i64 0) (.int .i64 0) (.int .i64 0) (.slice none 0 0) rfl
  try simp only [Exit.inBlock, Exit.then]
  refine bodyPost_ret (by simp [results, Tryz.results26, go_sem, e0, e1, e2, e3, e4, e5, e6, e7]; try rfl) rfl ?_
  unfold AOut
  rw [show ofLine _ = _ from hline]
  exact ⟨_, _, _, _, _, _, _, _, _, _, _, _, rfl, b16, fun A hA => by cases hA⟩
theorem ract_compact (s : ByteArray) (hs : s.size ≤ 1048577) (kb : List UInt8) (hs6 : s.data.toList = [99, 111, 109, 112, 97, 99, 116]) (hk6 : kb = [99, 111, 109, 112, 97, 99, 116]) (hk0 : kb ≠ [114, 101, 115, 116, 97, 114, 116]) (hk1 : kb ≠ [114, 101, 113, 117, 101, 115, 116]) (hk2 : kb ≠ [116, 105, 99, 107]) (hk3 : kb ≠ [112, 105, 110, 103]) (hk4 : kb ≠ [97, 114, 109]) (hcut : cutAt 32 s.data.toList = kb :: []) (w : World) :
    Calls Tryz.prog 26 #[.string s] w (AOut w (ofLine s.data.toList)) := by
  have hline : Hid (ofLine s.data.toList = some act6) := by
    show _ = _
    unfold ofLine
    rw [hcut]
    rw [hk6, act_compact]
    rfl
  replace hs : s.size ≤ 2000000 := by omega
  have ts : (s.toList == [99, 111, 109, 112, 97, 99, 116]) = true := t_test hs6 rfl
  go_enter Tryz.func26, Tryz.ntmps26
  go_wp2_with (first
    | (go_at_call 52; refine (wd_init w s hs).mono ?_; rintro e w1 ⟨ws, g, c, n, rfl, hm, hx, hl, hW⟩; rw [hcut] at hm; (obtain ⟨k, r, rfl, hk, hm⟩ := words_cons hm); (have c0 := hW.cell 0 k rfl); (have t0 : (k.toList == [114, 101, 115, 116, 97, 114, 116]) = false := t_test hk (decide_eq_false hk0)); (have t1 : (k.toList == [114, 101, 113, 117, 101, 115, 116]) = false := t_test hk (decide_eq_false hk1)); (have t2 : (k.toList == [116, 105, 99, 107]) = false := t_test hk (decide_eq_false hk2)); (have t3 : (k.toList == [112, 105, 110, 103]) = false := t_test hk (decide_eq_false hk3)); (have t4 : (k.toList == [97, 114, 109]) = false := t_test hk (decide_eq_false hk4)); (have hn0 := hW.nl); (have hnl : (k :: r).length = r.length + 1 := rfl); (have hnp : (0 : Int) < (n : Int) := by omega); (obtain ⟨e0, e1, e2, e3, e4, e5, e6, e7⟩ := all8 hW.res); (have fz := hW.res.2.2)))
  obtain ⟨b16, e0, e1, e2, e3, e4, e5, e6, e7⟩ := fin8 hW.res rfl hW.bel hW.lR (.int .i64 6) (.string ⟨#[]⟩) (.slice none 0 0) (.int .u64 0) (.int .i64 0) (.int .i64 0) (.int .i64 0) (.slice none 0 0) rfl
  try simp only [Exit.inBlock, Exit.then]
  refine bodyPost_ret (by simp [results, Tryz.results26, go_sem, e0, e1, e2, e3, e4, e5, e6, e7]; try rfl) rfl ?_
  unfold AOut
  rw [show ofLine _ = _ from hline]
  refine ⟨_, _, _, _, _, _, _, _, _, _, _, _, rfl, b16, fun A hA => ?_⟩
  cases hA
  exact ⟨rfl, rfl, rfl, rfl, rfl, rfl, rfl, rfl, OwnS.nil _ _ _, OwnS.nil _ _ _, .inr rfl⟩
end Go.Proofs.YtbfoocginkdmcaaGreatDoor

/-
  The reference's act of a line, by its kind.
-/

set_option linter.unusedVariables false
set_option maxRecDepth 100000
set_option maxHeartbeats 4000000
namespace Go.Proofs.YtbfoocginkdmcaaGreatDoor
open Go Go.RowKit Go.Basic Go.Scr Go.Lib Go.ArgS
theorem ract_tick_bad (s : ByteArray) (hs : s.size ≤ 1048577) (xb : List UInt8) (hz : numOf xb = none)  (hcut : cutAt 32 s.data.toList = [116, 105, 99, 107] :: [xb]) (w : World) :
    Calls Tryz.prog 26 #[.string s] w (AOut w (ofLine s.data.toList)) := by
  have hline : Hid (ofLine s.data.toList = none) := by
    show _ = _
    unfold ofLine
    rw [hcut]
    rw [act_tick]
    simp [ofTick, hz]
  replace hs : s.size ≤ 2000000 := by omega
  go_enter Tryz.func26, Tryz.ntmps26
  go_wp2_with (first
    | (go_at_call 52; refine (wd_init w s hs).mono ?_; rintro e w1 ⟨ws, g, c, n, rfl, hm, hx, hl, hW⟩; rw [hcut] at hm; (obtain ⟨k, r, rfl, hk, hm⟩ := words_cons hm); (have c0 := hW.cell 0 k rfl); (have t0 : (k.toList == [114, 101, 115, 116, 97, 114, 116]) = false := t_test hk rfl); (have t1 : (k.toList == [114, 101, 113, 117, 101, 115, 116]) = false := t_test hk rfl); (have t2 : (k.toList == [116, 105, 99, 107]) = true := t_test hk rfl); (have t3 : (k.toList == [112, 105, 110, 103]) = false := t_test hk rfl); (have t4 : (k.toList == [97, 114, 109]) = false := t_test hk rfl); (obtain ⟨x, r0, rfl, hx', hm⟩ := words_cons hm); (have c1 := hW.cell 1 x rfl); (have sx : x.size ≤ 2000000 := Nat.le_trans (hx x (by simp)) (by omega)); (obtain rfl := words_nil hm); (obtain rfl : n = 2 := hW.nl); skip)
    | (go_at_call 55; refine (num_none x sx (by rw [hx']; exact hz) w1).mono ?_; rintro e w2 ⟨m, rfl, bel2⟩; (have hW := hW.below bel2); (obtain ⟨e0, e1, e2, e3, e4, e5, e6, e7⟩ := all8 hW.res); (have fz := hW.res.2.2)))
  obtain ⟨b16, e0, e1, e2, e3, e4, e5, e6, e7⟩ := fin8 hW.res rfl hW.bel hW.lR (.int .i64 2) (.string ⟨#[]⟩) (.slice none 0 0) (.int .u64 m) (.int .i64 0) (.int .i64 0) (.int .i64 0) (.slice none 0 0) rfl
  try simp only [Exit.inBlock, Exit.then]
  refine bodyPost_ret (by simp [results, Tryz.results26, go_sem, e0, e1, e2, e3, e4, e5, e6, e7]; try rfl) rfl ?_
  unfold AOut
  rw [show ofLine _ = _ from hline]
  exact ⟨_, _, _, _, _, _, _, _, _, _, _, _, rfl, b16, fun A hA => by cases hA⟩
theorem ract_tick_ok (s : ByteArray) (hs : s.size ≤ 1048577) (xb : List UInt8) (m : Nat) (hz : numOf xb = some m)  (hcut : cutAt 32 s.data.toList = [116, 105, 99, 107] :: [xb]) (w : World) :
    Calls Tryz.prog 26 #[.string s] w (AOut w (ofLine s.data.toList)) := by
  have hline : Hid (ofLine s.data.toList = some (act2 m)) := by
    show _ = _
    unfold ofLine
    rw [hcut]
    rw [act_tick]
    simp [ofTick, hz]
  replace hs : s.size ≤ 2000000 := by omega
  go_enter Tryz.func26, Tryz.ntmps26
  go_wp2_with (first
    | (go_at_call 52; refine (wd_init w s hs).mono ?_; rintro e w1 ⟨ws, g, c, n, rfl, hm, hx, hl, hW⟩; rw [hcut] at hm; (obtain ⟨k, r, rfl, hk, hm⟩ := words_cons hm); (have c0 := hW.cell 0 k rfl); (have t0 : (k.toList == [114, 101, 115, 116, 97, 114, 116]) = false := t_test hk rfl); (have t1 : (k.toList == [114, 101, 113, 117, 101, 115, 116]) = false := t_test hk rfl); (have t2 : (k.toList == [116, 105, 99, 107]) = true := t_test hk rfl); (have t3 : (k.toList == [112, 105, 110, 103]) = false := t_test hk rfl); (have t4 : (k.toList == [97, 114, 109]) = false := t_test hk rfl); (obtain ⟨x, r0, rfl, hx', hm⟩ := words_cons hm); (have c1 := hW.cell 1 x rfl); (have sx : x.size ≤ 2000000 := Nat.le_trans (hx x (by simp)) (by omega)); (obtain rfl := words_nil hm); (obtain rfl : n = 2 := hW.nl); skip)
    | (go_at_call 55; refine (num_some x sx m (by rw [hx']; exact hz) w1).mono ?_; rintro e w2 ⟨rfl, bel2⟩; (have hW := hW.below bel2); (obtain ⟨e0, e1, e2, e3, e4, e5, e6, e7⟩ := all8 hW.res); (have fz := hW.res.2.2)))
  obtain ⟨b16, e0, e1, e2, e3, e4, e5, e6, e7⟩ := fin8 hW.res rfl hW.bel hW.lR (.int .i64 2) (.string ⟨#[]⟩) (.slice none 0 0) (.int .u64 m) (.int .i64 0) (.int .i64 0) (.int .i64 0) (.slice none 0 0) rfl
  try simp only [Exit.inBlock, Exit.then]
  refine bodyPost_ret (by simp [results, Tryz.results26, go_sem, e0, e1, e2, e3, e4, e5, e6, e7]; try rfl) rfl ?_
  unfold AOut
  rw [show ofLine _ = _ from hline]
  refine ⟨_, _, _, _, _, _, _, _, _, _, _, _, rfl, b16, fun A hA => ?_⟩
  cases hA
  exact ⟨rfl, rfl, rfl, rfl, rfl, rfl, rfl, rfl, OwnS.nil _ _ _, OwnS.nil _ _ _, .inr rfl⟩
end Go.Proofs.YtbfoocginkdmcaaGreatDoor

/-
  The reference's act of a line, by its kind.
-/

set_option linter.unusedVariables false
set_option maxRecDepth 100000
set_option maxHeartbeats 4000000
namespace Go.Proofs.YtbfoocginkdmcaaGreatDoor
open Go Go.RowKit Go.Basic Go.Scr Go.Lib Go.ArgS
theorem ract_ping_bad (s : ByteArray) (hs : s.size ≤ 1048577) (xb : List UInt8) (hz : zOf xb = none)  (hcut : cutAt 32 s.data.toList = [112, 105, 110, 103] :: [xb]) (w : World) :
    Calls Tryz.prog 26 #[.string s] w (AOut w (ofLine s.data.toList)) := by
  have hline : Hid (ofLine s.data.toList = none) := by
    show _ = _
    unfold ofLine
    rw [hcut]
    rw [act_ping]
    simp [ofPing, hz]
  replace hs : s.size ≤ 2000000 := by omega
  go_enter Tryz.func26, Tryz.ntmps26
  go_wp2_with (first
    | (go_at_call 52; refine (wd_init w s hs).mono ?_; rintro e w1 ⟨ws, g, c, n, rfl, hm, hx, hl, hW⟩; rw [hcut] at hm; (obtain ⟨k, r, rfl, hk, hm⟩ := words_cons hm); (have c0 := hW.cell 0 k rfl); (have t0 : (k.toList == [114, 101, 115, 116, 97, 114, 116]) = false := t_test hk rfl); (have t1 : (k.toList == [114, 101, 113, 117, 101, 115, 116]) = false := t_test hk rfl); (have t2 : (k.toList == [116, 105, 99, 107]) = false := t_test hk rfl); (have t3 : (k.toList == [112, 105, 110, 103]) = true := t_test hk rfl); (have t4 : (k.toList == [97, 114, 109]) = false := t_test hk rfl); (obtain ⟨x, r0, rfl, hx', hm⟩ := words_cons hm); (have c1 := hW.cell 1 x rfl); (have sx : x.size ≤ 2000000 := Nat.le_trans (hx x (by simp)) (by omega)); (obtain rfl := words_nil hm); (obtain rfl : n = 2 := hW.nl); skip)
    | (go_at_call 56; refine (z_none x sx (by rw [hx']; exact hz) w1).mono ?_; rintro e w2 ⟨m, rfl, bel2⟩; (have hW := hW.below bel2); (obtain ⟨e0, e1, e2, e3, e4, e5, e6, e7⟩ := all8 hW.res); (have fz := hW.res.2.2)))
  obtain ⟨b16, e0, e1, e2, e3, e4, e5, e6, e7⟩ := fin8 hW.res rfl hW.bel hW.lR (.int .i64 3) (.string ⟨#[]⟩) (.slice none 0 0) (.int .u64 0) (.int .i64 m) (.int .i64 0) (.int .i64 0) (.slice none 0 0) rfl
  try simp only [Exit.inBlock, Exit.then]
  refine bodyPost_ret (by simp [results, Tryz.results26, go_sem, e0, e1, e2, e3, e4, e5, e6, e7]; try rfl) rfl ?_
  unfold AOut
  rw [show ofLine _ = _ from hline]
  exact ⟨_, _, _, _, _, _, _, _, _, _, _, _, rfl, b16, fun A hA => by cases hA⟩
theorem ract_ping_ok (s : ByteArray) (hs : s.size ≤ 1048577) (xb : List UInt8) (m : Int) (hz : zOf xb = some m)  (hcut : cutAt 32 s.data.toList = [112, 105, 110, 103] :: [xb]) (w : World) :
    Calls Tryz.prog 26 #[.string s] w (AOut w (ofLine s.data.toList)) := by
  have hline : Hid (ofLine s.data.toList = some (act3 m)) := by
    show _ = _
    unfold ofLine
    rw [hcut]
    rw [act_ping]
    simp [ofPing, hz]
  replace hs : s.size ≤ 2000000 := by omega
  go_enter Tryz.func26, Tryz.ntmps26
  go_wp2_with (first
    | (go_at_call 52; refine (wd_init w s hs).mono ?_; rintro e w1 ⟨ws, g, c, n, rfl, hm, hx, hl, hW⟩; rw [hcut] at hm; (obtain ⟨k, r, rfl, hk, hm⟩ := words_cons hm); (have c0 := hW.cell 0 k rfl); (have t0 : (k.toList == [114, 101, 115, 116, 97, 114, 116]) = false := t_test hk rfl); (have t1 : (k.toList == [114, 101, 113, 117, 101, 115, 116]) = false := t_test hk rfl); (have t2 : (k.toList == [116, 105, 99, 107]) = false := t_test hk rfl); (have t3 : (k.toList == [112, 105, 110, 103]) = true := t_test hk rfl); (have t4 : (k.toList == [97, 114, 109]) = false := t_test hk rfl); (obtain ⟨x, r0, rfl, hx', hm⟩ := words_cons hm); (have c1 := hW.cell 1 x rfl); (have sx : x.size ≤ 2000000 := Nat.le_trans (hx x (by simp)) (by omega)); (obtain rfl := words_nil hm); (obtain rfl : n = 2 := hW.nl); skip)
    | (go_at_call 56; refine (z_some x sx m (by rw [hx']; exact hz) w1).mono ?_; rintro e w2 ⟨rfl, bel2⟩; (have hW := hW.below bel2); (obtain ⟨e0, e1, e2, e3, e4, e5, e6, e7⟩ := all8 hW.res); (have fz := hW.res.2.2)))
  obtain ⟨b16, e0, e1, e2, e3, e4, e5, e6, e7⟩ := fin8 hW.res rfl hW.bel hW.lR (.int .i64 3) (.string ⟨#[]⟩) (.slice none 0 0) (.int .u64 0) (.int .i64 m) (.int .i64 0) (.int .i64 0) (.slice none 0 0) rfl
  try simp only [Exit.inBlock, Exit.then]
  refine bodyPost_ret (by simp [results, Tryz.results26, go_sem, e0, e1, e2, e3, e4, e5, e6, e7]; try rfl) rfl ?_
  unfold AOut
  rw [show ofLine _ = _ from hline]
  refine ⟨_, _, _, _, _, _, _, _, _, _, _, _, rfl, b16, fun A hA => ?_⟩
  cases hA
  exact ⟨rfl, rfl, rfl, rfl, rfl, rfl, rfl, rfl, OwnS.nil _ _ _, OwnS.nil _ _ _, .inr rfl⟩
end Go.Proofs.YtbfoocginkdmcaaGreatDoor

/-
  The reference's act of a line, by its kind.
-/

set_option linter.unusedVariables false
set_option maxRecDepth 100000
set_option maxHeartbeats 4000000
namespace Go.Proofs.YtbfoocginkdmcaaGreatDoor
open Go Go.RowKit Go.Basic Go.Scr Go.Lib Go.ArgS
theorem ract_arm_bad (s : ByteArray) (hs : s.size ≤ 1048577) (xb : List UInt8) (hz : zOf xb = none)  (hcut : cutAt 32 s.data.toList = [97, 114, 109] :: [xb]) (w : World) :
    Calls Tryz.prog 26 #[.string s] w (AOut w (ofLine s.data.toList)) := by
  have hline : Hid (ofLine s.data.toList = none) := by
    show _ = _
    unfold ofLine
    rw [hcut]
    rw [act_arm]
    simp [ofArm, hz]
  replace hs : s.size ≤ 2000000 := by omega
  go_enter Tryz.func26, Tryz.ntmps26
  go_wp2_with (first
    | (go_at_call 52; refine (wd_init w s hs).mono ?_; rintro e w1 ⟨ws, g, c, n, rfl, hm, hx, hl, hW⟩; rw [hcut] at hm; (obtain ⟨k, r, rfl, hk, hm⟩ := words_cons hm); (have c0 := hW.cell 0 k rfl); (have t0 : (k.toList == [114, 101, 115, 116, 97, 114, 116]) = false := t_test hk rfl); (have t1 : (k.toList == [114, 101, 113, 117, 101, 115, 116]) = false := t_test hk rfl); (have t2 : (k.toList == [116, 105, 99, 107]) = false := t_test hk rfl); (have t3 : (k.toList == [112, 105, 110, 103]) = false := t_test hk rfl); (have t4 : (k.toList == [97, 114, 109]) = true := t_test hk rfl); (obtain ⟨x, r0, rfl, hx', hm⟩ := words_cons hm); (have c1 := hW.cell 1 x rfl); (have sx : x.size ≤ 2000000 := Nat.le_trans (hx x (by simp)) (by omega)); (obtain rfl := words_nil hm); (obtain rfl : n = 2 := hW.nl); skip)
    | (go_at_call 56; refine (z_none x sx (by rw [hx']; exact hz) w1).mono ?_; rintro e w2 ⟨m, rfl, bel2⟩; (have hW := hW.below bel2); (obtain ⟨e0, e1, e2, e3, e4, e5, e6, e7⟩ := all8 hW.res); (have fz := hW.res.2.2)))
  obtain ⟨b16, e0, e1, e2, e3, e4, e5, e6, e7⟩ := fin8 hW.res rfl hW.bel hW.lR (.int .i64 4) (.string ⟨#[]⟩) (.slice none 0 0) (.int .u64 0) (.int .i64 0) (.int .i64 m) (.int .i64 0) (.slice none 0 0) rfl
  try simp only [Exit.inBlock, Exit.then]
  refine bodyPost_ret (by simp [results, Tryz.results26, go_sem, e0, e1, e2, e3, e4, e5, e6, e7]; try rfl) rfl ?_
  unfold AOut
  rw [show ofLine _ = _ from hline]
  exact ⟨_, _, _, _, _, _, _, _, _, _, _, _, rfl, b16, fun A hA => by cases hA⟩
theorem ract_arm_ok (s : ByteArray) (hs : s.size ≤ 1048577) (xb : List UInt8) (m : Int) (hz : zOf xb = some m)  (hcut : cutAt 32 s.data.toList = [97, 114, 109] :: [xb]) (w : World) :
    Calls Tryz.prog 26 #[.string s] w (AOut w (ofLine s.data.toList)) := by
  have hline : Hid (ofLine s.data.toList = some (act4 m)) := by
    show _ = _
    unfold ofLine
    rw [hcut]
    rw [act_arm]
    simp [ofArm, hz]
  replace hs : s.size ≤ 2000000 := by omega
  go_enter Tryz.func26, Tryz.ntmps26
  go_wp2_with (first
    | (go_at_call 52; refine (wd_init w s hs).mono ?_; rintro e w1 ⟨ws, g, c, n, rfl, hm, hx, hl, hW⟩; rw [hcut] at hm; (obtain ⟨k, r, rfl, hk, hm⟩ := words_cons hm); (have c0 := hW.cell 0 k rfl); (have t0 : (k.toList == [114, 101, 115, 116, 97, 114, 116]) = false := t_test hk rfl); (have t1 : (k.toList == [114, 101, 113, 117, 101, 115, 116]) = false := t_test hk rfl); (have t2 : (k.toList == [116, 105, 99, 107]) = false := t_test hk rfl); (have t3 : (k.toList == [112, 105, 110, 103]) = false := t_test hk rfl); (have t4 : (k.toList == [97, 114, 109]) = true := t_test hk rfl); (obtain ⟨x, r0, rfl, hx', hm⟩ := words_cons hm); (have c1 := hW.cell 1 x rfl); (have sx : x.size ≤ 2000000 := Nat.le_trans (hx x (by simp)) (by omega)); (obtain rfl := words_nil hm); (obtain rfl : n = 2 := hW.nl); skip)
    | (go_at_call 56; refine (z_some x sx m (by rw [hx']; exact hz) w1).mono ?_; rintro e w2 ⟨rfl, bel2⟩; (have hW := hW.below bel2); (obtain ⟨e0, e1, e2, e3, e4, e5, e6, e7⟩ := all8 hW.res); (have fz := hW.res.2.2)))
  obtain ⟨b16, e0, e1, e2, e3, e4, e5, e6, e7⟩ := fin8 hW.res rfl hW.bel hW.lR (.int .i64 4) (.string ⟨#[]⟩) (.slice none 0 0) (.int .u64 0) (.int .i64 0) (.int .i64 m) (.int .i64 0) (.slice none 0 0) rfl
  try simp only [Exit.inBlock, Exit.then]
  refine bodyPost_ret (by simp [results, Tryz.results26, go_sem, e0, e1, e2, e3, e4, e5, e6, e7]; try rfl) rfl ?_
  unfold AOut
  rw [show ofLine _ = _ from hline]
  refine ⟨_, _, _, _, _, _, _, _, _, _, _, _, rfl, b16, fun A hA => ?_⟩
  cases hA
  exact ⟨rfl, rfl, rfl, rfl, rfl, rfl, rfl, rfl, OwnS.nil _ _ _, OwnS.nil _ _ _, .inr rfl⟩
end Go.Proofs.YtbfoocginkdmcaaGreatDoor

/-
  The reference's act of a line, by its kind.
-/

set_option linter.unusedVariables false
set_option maxRecDepth 100000
set_option maxHeartbeats 4000000
namespace Go.Proofs.YtbfoocginkdmcaaGreatDoor
open Go Go.RowKit Go.Basic Go.Scr Go.Lib Go.ArgS
theorem ract_request_none_none (s : ByteArray) (hs : s.size ≤ 1048577) (xb yb : List UInt8) (hz1 : wordOf xb = none) (hz2 : wordOf yb = none)  (hcut : cutAt 32 s.data.toList = [114, 101, 113, 117, 101, 115, 116] :: [xb, yb]) (w : World) :
    Calls Tryz.prog 26 #[.string s] w (AOut w (ofLine s.data.toList)) := by
  have hline : Hid (ofLine s.data.toList = none) := by
    show _ = _
    unfold ofLine
    rw [hcut]
    rw [act_request]
    simp [ofRequest, hz1, hz2]
  replace hs : s.size ≤ 2000000 := by omega
  go_enter Tryz.func26, Tryz.ntmps26
  go_wp2_with (first
    | (go_at_call 52; refine (wd_init w s hs).mono ?_; rintro e w1 ⟨ws, g, c, n, rfl, hm, hx, hl, hW⟩; rw [hcut] at hm; (obtain ⟨k, r, rfl, hk, hm⟩ := words_cons hm); (have c0 := hW.cell 0 k rfl); (have t0 : (k.toList == [114, 101, 115, 116, 97, 114, 116]) = false := t_test hk rfl); (have t1 : (k.toList == [114, 101, 113, 117, 101, 115, 116]) = true := t_test hk rfl); (have t2 : (k.toList == [116, 105, 99, 107]) = false := t_test hk rfl); (have t3 : (k.toList == [112, 105, 110, 103]) = false := t_test hk rfl); (have t4 : (k.toList == [97, 114, 109]) = false := t_test hk rfl); (obtain ⟨x, r0, rfl, hx', hm⟩ := words_cons hm); (have c1 := hW.cell 1 x rfl); (have sx : x.size ≤ 2000000 := Nat.le_trans (hx x (by simp)) (by omega)); (obtain ⟨y, r1, rfl, hy', hm⟩ := words_cons hm); (have c2 := hW.cell 2 y rfl); (have sy : y.size ≤ 2000000 := Nat.le_trans (hx y (by simp)) (by omega)); (obtain rfl := words_nil hm); (obtain rfl : n = 3 := hW.nl); skip)
    | (go_at_call 54; refine (refBytes_none x sx (by rw [hx']; exact hz1) w1).mono ?_; rintro e w2 ⟨a1, c1', p1, rfl, ho1, hp1, bel2⟩; (have rl1 := hW.res.1); (have hbw1 := hW.bel.size); (have hW := hW.below bel2); (have c2 := hW.cell 2 y rfl); (have hb1 := hW.bel.size); clear c1 sx)
    | (go_at_call 54; refine (refBytes_none y sy (by rw [hy']; exact hz2) w2).mono ?_; rintro e w3 ⟨a2, c2', p2, rfl, ho2, hp2, bel3⟩; (have hW := hW.below bel3); (have ho1 := ho1.below bel3); (have hcv := text_of ho2.is); (obtain ⟨e0, e1, e2, e3, e4, e5, e6, e7⟩ := all8 hW.res); (have fz := hW.res.2.2)))
  obtain ⟨b16, e0, e1, e2, e3, e4, e5, e6, e7⟩ := fin8 hW.res rfl hW.bel hW.lR (.int .i64 1) (.string ⟨p2.toArray⟩) (.slice a1 p1.length c1') (.int .u64 0) (.int .i64 0) (.int .i64 0) (.int .i64 0) (.slice none 0 0) rfl
  try simp only [Exit.inBlock, Exit.then]
  refine bodyPost_ret (by simp [results, Tryz.results26, go_sem, e0, e1, e2, e3, e4, e5, e6, e7]; try rfl) rfl ?_
  unfold AOut
  rw [show ofLine _ = _ from hline]
  exact ⟨_, _, _, _, _, _, _, _, _, _, _, _, rfl, b16, fun A hA => by cases hA⟩
theorem ract_request_none_some (s : ByteArray) (hs : s.size ≤ 1048577) (xb yb : List UInt8) (hz1 : wordOf xb = none) (p2 : List UInt8) (hz2 : wordOf yb = some p2)  (hcut : cutAt 32 s.data.toList = [114, 101, 113, 117, 101, 115, 116] :: [xb, yb]) (w : World) :
    Calls Tryz.prog 26 #[.string s] w (AOut w (ofLine s.data.toList)) := by
  have hline : Hid (ofLine s.data.toList = none) := by
    show _ = _
    unfold ofLine
    rw [hcut]
    rw [act_request]
    simp [ofRequest, hz1, hz2]
  replace hs : s.size ≤ 2000000 := by omega
  go_enter Tryz.func26, Tryz.ntmps26
  go_wp2_with (first
    | (go_at_call 52; refine (wd_init w s hs).mono ?_; rintro e w1 ⟨ws, g, c, n, rfl, hm, hx, hl, hW⟩; rw [hcut] at hm; (obtain ⟨k, r, rfl, hk, hm⟩ := words_cons hm); (have c0 := hW.cell 0 k rfl); (have t0 : (k.toList == [114, 101, 115, 116, 97, 114, 116]) = false := t_test hk rfl); (have t1 : (k.toList == [114, 101, 113, 117, 101, 115, 116]) = true := t_test hk rfl); (have t2 : (k.toList == [116, 105, 99, 107]) = false := t_test hk rfl); (have t3 : (k.toList == [112, 105, 110, 103]) = false := t_test hk rfl); (have t4 : (k.toList == [97, 114, 109]) = false := t_test hk rfl); (obtain ⟨x, r0, rfl, hx', hm⟩ := words_cons hm); (have c1 := hW.cell 1 x rfl); (have sx : x.size ≤ 2000000 := Nat.le_trans (hx x (by simp)) (by omega)); (obtain ⟨y, r1, rfl, hy', hm⟩ := words_cons hm); (have c2 := hW.cell 2 y rfl); (have sy : y.size ≤ 2000000 := Nat.le_trans (hx y (by simp)) (by omega)); (obtain rfl := words_nil hm); (obtain rfl : n = 3 := hW.nl); skip)
    | (go_at_call 54; refine (refBytes_none x sx (by rw [hx']; exact hz1) w1).mono ?_; rintro e w2 ⟨a1, c1', p1, rfl, ho1, hp1, bel2⟩; (have rl1 := hW.res.1); (have hbw1 := hW.bel.size); (have hW := hW.below bel2); (have c2 := hW.cell 2 y rfl); (have hb1 := hW.bel.size); clear c1 sx)
    | (go_at_call 54; refine (refBytes_some y sy p2 (by rw [hy']; exact hz2) w2).mono ?_; rintro e w3 ⟨a2, c2', rfl, ho2, hp2, bel3⟩; (have hW := hW.below bel3); (have ho1 := ho1.below bel3); (have hcv := text_of ho2.is); (obtain ⟨e0, e1, e2, e3, e4, e5, e6, e7⟩ := all8 hW.res); (have fz := hW.res.2.2)))
  obtain ⟨b16, e0, e1, e2, e3, e4, e5, e6, e7⟩ := fin8 hW.res rfl hW.bel hW.lR (.int .i64 1) (.string ⟨p2.toArray⟩) (.slice a1 p1.length c1') (.int .u64 0) (.int .i64 0) (.int .i64 0) (.int .i64 0) (.slice none 0 0) rfl
  try simp only [Exit.inBlock, Exit.then]
  refine bodyPost_ret (by simp [results, Tryz.results26, go_sem, e0, e1, e2, e3, e4, e5, e6, e7]; try rfl) rfl ?_
  unfold AOut
  rw [show ofLine _ = _ from hline]
  exact ⟨_, _, _, _, _, _, _, _, _, _, _, _, rfl, b16, fun A hA => by cases hA⟩
theorem ract_request_some_none (s : ByteArray) (hs : s.size ≤ 1048577) (xb yb : List UInt8) (p1 : List UInt8) (hz1 : wordOf xb = some p1) (hz2 : wordOf yb = none)  (hcut : cutAt 32 s.data.toList = [114, 101, 113, 117, 101, 115, 116] :: [xb, yb]) (w : World) :
    Calls Tryz.prog 26 #[.string s] w (AOut w (ofLine s.data.toList)) := by
  have hline : Hid (ofLine s.data.toList = none) := by
    show _ = _
    unfold ofLine
    rw [hcut]
    rw [act_request]
    simp [ofRequest, hz1, hz2]
  replace hs : s.size ≤ 2000000 := by omega
  go_enter Tryz.func26, Tryz.ntmps26
  go_wp2_with (first
    | (go_at_call 52; refine (wd_init w s hs).mono ?_; rintro e w1 ⟨ws, g, c, n, rfl, hm, hx, hl, hW⟩; rw [hcut] at hm; (obtain ⟨k, r, rfl, hk, hm⟩ := words_cons hm); (have c0 := hW.cell 0 k rfl); (have t0 : (k.toList == [114, 101, 115, 116, 97, 114, 116]) = false := t_test hk rfl); (have t1 : (k.toList == [114, 101, 113, 117, 101, 115, 116]) = true := t_test hk rfl); (have t2 : (k.toList == [116, 105, 99, 107]) = false := t_test hk rfl); (have t3 : (k.toList == [112, 105, 110, 103]) = false := t_test hk rfl); (have t4 : (k.toList == [97, 114, 109]) = false := t_test hk rfl); (obtain ⟨x, r0, rfl, hx', hm⟩ := words_cons hm); (have c1 := hW.cell 1 x rfl); (have sx : x.size ≤ 2000000 := Nat.le_trans (hx x (by simp)) (by omega)); (obtain ⟨y, r1, rfl, hy', hm⟩ := words_cons hm); (have c2 := hW.cell 2 y rfl); (have sy : y.size ≤ 2000000 := Nat.le_trans (hx y (by simp)) (by omega)); (obtain rfl := words_nil hm); (obtain rfl : n = 3 := hW.nl); skip)
    | (go_at_call 54; refine (refBytes_some x sx p1 (by rw [hx']; exact hz1) w1).mono ?_; rintro e w2 ⟨a1, c1', rfl, ho1, hp1, bel2⟩; (have rl1 := hW.res.1); (have hbw1 := hW.bel.size); (have hW := hW.below bel2); (have c2 := hW.cell 2 y rfl); (have hb1 := hW.bel.size); clear c1 sx)
    | (go_at_call 54; refine (refBytes_none y sy (by rw [hy']; exact hz2) w2).mono ?_; rintro e w3 ⟨a2, c2', p2, rfl, ho2, hp2, bel3⟩; (have hW := hW.below bel3); (have ho1 := ho1.below bel3); (have hcv := text_of ho2.is); (obtain ⟨e0, e1, e2, e3, e4, e5, e6, e7⟩ := all8 hW.res); (have fz := hW.res.2.2)))
  obtain ⟨b16, e0, e1, e2, e3, e4, e5, e6, e7⟩ := fin8 hW.res rfl hW.bel hW.lR (.int .i64 1) (.string ⟨p2.toArray⟩) (.slice a1 p1.length c1') (.int .u64 0) (.int .i64 0) (.int .i64 0) (.int .i64 0) (.slice none 0 0) rfl
  try simp only [Exit.inBlock, Exit.then]
  refine bodyPost_ret (by simp [results, Tryz.results26, go_sem, e0, e1, e2, e3, e4, e5, e6, e7]; try rfl) rfl ?_
  unfold AOut
  rw [show ofLine _ = _ from hline]
  exact ⟨_, _, _, _, _, _, _, _, _, _, _, _, rfl, b16, fun A hA => by cases hA⟩
theorem ract_request_some_some (s : ByteArray) (hs : s.size ≤ 1048577) (xb yb : List UInt8) (p1 : List UInt8) (hz1 : wordOf xb = some p1) (p2 : List UInt8) (hz2 : wordOf yb = some p2)  (hcut : cutAt 32 s.data.toList = [114, 101, 113, 117, 101, 115, 116] :: [xb, yb]) (w : World) :
    Calls Tryz.prog 26 #[.string s] w (AOut w (ofLine s.data.toList)) := by
  have hline : Hid (ofLine s.data.toList = some (act1 p1 p2)) := by
    show _ = _
    unfold ofLine
    rw [hcut]
    rw [act_request]
    simp [ofRequest, hz1, hz2]
  replace hs : s.size ≤ 2000000 := by omega
  go_enter Tryz.func26, Tryz.ntmps26
  go_wp2_with (first
    | (go_at_call 52; refine (wd_init w s hs).mono ?_; rintro e w1 ⟨ws, g, c, n, rfl, hm, hx, hl, hW⟩; rw [hcut] at hm; (obtain ⟨k, r, rfl, hk, hm⟩ := words_cons hm); (have c0 := hW.cell 0 k rfl); (have t0 : (k.toList == [114, 101, 115, 116, 97, 114, 116]) = false := t_test hk rfl); (have t1 : (k.toList == [114, 101, 113, 117, 101, 115, 116]) = true := t_test hk rfl); (have t2 : (k.toList == [116, 105, 99, 107]) = false := t_test hk rfl); (have t3 : (k.toList == [112, 105, 110, 103]) = false := t_test hk rfl); (have t4 : (k.toList == [97, 114, 109]) = false := t_test hk rfl); (obtain ⟨x, r0, rfl, hx', hm⟩ := words_cons hm); (have c1 := hW.cell 1 x rfl); (have sx : x.size ≤ 2000000 := Nat.le_trans (hx x (by simp)) (by omega)); (obtain ⟨y, r1, rfl, hy', hm⟩ := words_cons hm); (have c2 := hW.cell 2 y rfl); (have sy : y.size ≤ 2000000 := Nat.le_trans (hx y (by simp)) (by omega)); (obtain rfl := words_nil hm); (obtain rfl : n = 3 := hW.nl); skip)
    | (go_at_call 54; refine (refBytes_some x sx p1 (by rw [hx']; exact hz1) w1).mono ?_; rintro e w2 ⟨a1, c1', rfl, ho1, hp1, bel2⟩; (have rl1 := hW.res.1); (have hbw1 := hW.bel.size); (have hW := hW.below bel2); (have c2 := hW.cell 2 y rfl); (have hb1 := hW.bel.size); clear c1 sx)
    | (go_at_call 54; refine (refBytes_some y sy p2 (by rw [hy']; exact hz2) w2).mono ?_; rintro e w3 ⟨a2, c2', rfl, ho2, hp2, bel3⟩; (have hW := hW.below bel3); (have ho1 := ho1.below bel3); (have hcv := text_of ho2.is); (obtain ⟨e0, e1, e2, e3, e4, e5, e6, e7⟩ := all8 hW.res); (have fz := hW.res.2.2)))
  obtain ⟨b16, e0, e1, e2, e3, e4, e5, e6, e7⟩ := fin8 hW.res rfl hW.bel hW.lR (.int .i64 1) (.string ⟨p2.toArray⟩) (.slice a1 p1.length c1') (.int .u64 0) (.int .i64 0) (.int .i64 0) (.int .i64 0) (.slice none 0 0) rfl
  try simp only [Exit.inBlock, Exit.then]
  refine bodyPost_ret (by simp [results, Tryz.results26, go_sem, e0, e1, e2, e3, e4, e5, e6, e7]; try rfl) rfl ?_
  unfold AOut
  rw [show ofLine _ = _ from hline]
  refine ⟨_, _, _, _, _, _, _, _, _, _, _, _, rfl, b16, fun A hA => ?_⟩
  cases hA
  exact ⟨rfl, rfl, rfl, rfl, rfl, rfl, rfl, rfl, ((own_set8 ho1 (Nat.lt_of_lt_of_le rl1 (Nat.le_refl _)) _ _ _ _ _ _ _ _).mono hbw1), OwnS.nil _ _ _, .inr rfl⟩
end Go.Proofs.YtbfoocginkdmcaaGreatDoor

/-
  The reference's act of a line that begins with restart.
-/

set_option linter.unusedVariables false
set_option maxRecDepth 100000
set_option maxHeartbeats 4000000
namespace Go.Proofs.YtbfoocginkdmcaaGreatDoor
open Go Go.RowKit Go.Basic Go.Scr Go.Lib Go.ArgS
theorem rest_if {w w1 : World} {R g c n : Nat} {k : ByteArray} {r : List ByteArray} {rb : List (List UInt8)} (hW : Wd w w1 R g c n (k :: r)) (hm : r.map (·.data.toList) = rb) (hl : (k :: r).length ≤ 2000001) (hx : ∀ x ∈ (k :: r), x.size ≤ 2000000) :
    Calls Tryz.prog 53 #[.slice (if c = 1 then some ⟨g, 0, none⟩ else some ⟨g, 1, none⟩) r.length (c - 1)] w1 (AOut w1 (ofRestart rb)) := by
  subst hm
  have hnl : (k :: r).length = r.length + 1 := rfl
  have h1 := hW.nl
  have h2 := hW.nc
  by_cases hc : c = 1
  · rw [if_pos hc]
    have hr : r = [] := List.eq_nil_of_length_eq_zero (by omega)
    subst hr
    exact restarts_calls g 0 _ [] w1 hW.gl (fun j x hj => by simp at hj) (by simp) (fun x hx => by cases hx)
  · rw [if_neg hc]
    refine restarts_calls g 1 _ r w1 hW.gl (fun j x hj => ?_) (by omega) (fun x hx' => hx x (by simp [hx']))
    rw [Nat.add_comm]
    exact hW.cell (j + 1) x (by simpa using hj)
theorem ract_restart (s : ByteArray) (hs : s.size ≤ 1048577) (rb : List (List UInt8)) (hcut : cutAt 32 s.data.toList = [114, 101, 115, 116, 97, 114, 116] :: rb) (w : World) :
    Calls Tryz.prog 26 #[.string s] w (AOut w (ofLine s.data.toList)) := by
  have hline : Hid (ofLine s.data.toList = ofRestart rb) := by
    show _ = _
    unfold ofLine
    rw [hcut, act_restart]
  replace hs : s.size ≤ 2000000 := by omega
  go_enter Tryz.func26, Tryz.ntmps26
  go_wp2_with (first
    | (go_at_call 52; refine (wd_init w s hs).mono ?_; rintro e w1 ⟨ws, g, c, n, rfl, hm, hx, hl, hW⟩; rw [hcut] at hm; (obtain ⟨k, r, rfl, hk, hm⟩ := words_cons hm); (have c0 := hW.cell 0 k rfl); (have t0 : (k.toList == [114, 101, 115, 116, 97, 114, 116]) = true := t_test hk rfl); (have hn0 := hW.nl); (have hnl : (k :: r).length = r.length + 1 := rfl); (have hnp : (0 : Int) < (n : Int) := by omega); (have hnp1 : (1 : Int) ≤ (n : Int) := by omega))
    | (go_at_call 53; refine (rest_if hW hm (by omega) (fun x hx' => Nat.le_trans (hx x hx') hs)).mono ?_; rintro e w2 hA; (obtain ⟨k', t', o', n', q', s', ax, lx, cx, ay, ly, cy, rfl, bel2, hA⟩ := hA); (have rl1 := hW.res.1); (have hbw1 := hW.bel.size); (have hW := hW.below bel2); (obtain ⟨e0, e1, e2, e3, e4, e5, e6, e7⟩ := all8 hW.res); (have fz := hW.res.2.2)))
  all_goals
    obtain ⟨b16, e0, e1, e2, e3, e4, e5, e6, e7⟩ := fin8 hW.res rfl hW.bel hW.lR (.int .i64 k') (.string s') (.slice ax lx cx) (.int .u64 t') (.int .i64 o') (.int .i64 n') (.int .i64 q') (.slice ay ly cy) rfl
    try simp only [Exit.inBlock, Exit.then]
    refine bodyPost_ret (by simp [results, Tryz.results26, go_sem, e0, e1, e2, e3, e4, e5, e6, e7]; try rfl) rfl ?_
    unfold AOut
    rw [show ofLine _ = _ from hline]
    refine ⟨_, _, _, _, _, _, _, _, _, _, _, _, rfl, b16, fun A hA' => ?_⟩
    obtain ⟨q1, q2, q3, q4, q5, q6, q7, q8, q9, q10, q11⟩ := hA A hA'
    exact ⟨q1, q2, q3, q4, q5, q6, q7, q8, (own_set8 q9 rl1 _ _ _ _ _ _ _ _).mono hbw1, (own_set8 q10 rl1 _ _ _ _ _ _ _ _).mono hbw1, q11⟩
end Go.Proofs.YtbfoocginkdmcaaGreatDoor

/-
  The reference's act of any line.
-/

set_option linter.unusedVariables false
set_option maxRecDepth 100000
namespace Go.Proofs.YtbfoocginkdmcaaGreatDoor
open Go Go.RowKit Go.Basic Go.Scr Go.Lib Go.ArgS
theorem act_unknown {kb : List UInt8} {rb : List (List UInt8)} (h0 : kb ≠ [114, 101, 115, 116, 97, 114, 116]) (h1 : kb ≠ [114, 101, 113, 117, 101, 115, 116]) (h2 : kb ≠ [116, 105, 99, 107]) (h3 : kb ≠ [112, 105, 110, 103]) (h4 : kb ≠ [97, 114, 109]) (h5 : kb ≠ [99, 111, 109, 112, 97, 99, 116]) : actOf (kb :: rb) = none := by
  unfold actOf wRequest wTick wPing wArm wRestart wCompact
  simp only
  rw [if_neg h1, if_neg h2, if_neg h3, if_neg h4, if_neg h0, if_neg h5]
theorem compact_cut {l kb : List UInt8} {rb : List (List UInt8)} (h : cutAt 32 l = kb :: rb) (e : l = [99, 111, 109, 112, 97, 99, 116]) : kb = [99, 111, 109, 112, 97, 99, 116] ∧ rb = [] := by
  have h1 := cutAt_one 32 l (by rw [e]; decide)
  rw [h] at h1
  injection h1 with h1 h2
  exact ⟨h1.trans e, h2⟩
theorem refAct_calls (s : ByteArray) (hs : s.size ≤ 1048577) (w : World) : Calls Tryz.prog 26 #[.string s] w (AOut w (ofLine s.data.toList)) := by
  obtain ⟨kb, rb, hc⟩ := cutAt_cons 32 s.data.toList
  by_cases k0 : kb = [114, 101, 115, 116, 97, 114, 116]
  · subst k0
    exact ract_restart s hs rb hc w
  by_cases k1 : kb = [114, 101, 113, 117, 101, 115, 116]
  · subst k1
    have h6 : s.data.toList ≠ [99, 111, 109, 112, 97, 99, 116] := fun e => absurd (compact_cut hc e).1 (by decide)
    by_cases hl : rb.length = 2
    · match rb, hl, hc with
      | [x, y], _, hc =>
        cases z1 : wordOf x with
        | none =>
          cases z2 : wordOf y with
          | none => exact ract_request_none_none s hs x y z1 z2 hc w
          | some p2 => exact ract_request_none_some s hs x y z1 p2 z2 hc w
        | some p1 =>
          cases z2 : wordOf y with
          | none => exact ract_request_some_none s hs x y p1 z1 z2 hc w
          | some p2 => exact ract_request_some_some s hs x y p1 z1 p2 z2 hc w
    · exact ract_request_other s hs rb hl h6 hc w
  by_cases k2 : kb = [116, 105, 99, 107]
  · subst k2
    have h6 : s.data.toList ≠ [99, 111, 109, 112, 97, 99, 116] := fun e => absurd (compact_cut hc e).1 (by decide)
    by_cases hl : rb.length = 1
    · match rb, hl, hc with
      | [x], _, hc =>
        cases z1 : numOf x with
        | none => exact ract_tick_bad s hs x z1 hc w
        | some m => exact ract_tick_ok s hs x m z1 hc w
    · exact ract_tick_other s hs rb hl h6 hc w
  by_cases k3 : kb = [112, 105, 110, 103]
  · subst k3
    have h6 : s.data.toList ≠ [99, 111, 109, 112, 97, 99, 116] := fun e => absurd (compact_cut hc e).1 (by decide)
    by_cases hl : rb.length = 1
    · match rb, hl, hc with
      | [x], _, hc =>
        cases z1 : zOf x with
        | none => exact ract_ping_bad s hs x z1 hc w
        | some m => exact ract_ping_ok s hs x m z1 hc w
    · exact ract_ping_other s hs rb hl h6 hc w
  by_cases k4 : kb = [97, 114, 109]
  · subst k4
    have h6 : s.data.toList ≠ [99, 111, 109, 112, 97, 99, 116] := fun e => absurd (compact_cut hc e).1 (by decide)
    by_cases hl : rb.length = 1
    · match rb, hl, hc with
      | [x], _, hc =>
        cases z1 : zOf x with
        | none => exact ract_arm_bad s hs x z1 hc w
        | some m => exact ract_arm_ok s hs x m z1 hc w
    · exact ract_arm_other s hs rb hl h6 hc w
  by_cases h6 : s.data.toList = [99, 111, 109, 112, 97, 99, 116]
  · obtain ⟨h7, rfl⟩ := compact_cut hc h6
    exact ract_compact s hs kb h6 h7 k0 k1 k2 k3 k4 hc w
  · by_cases k5 : kb = [99, 111, 109, 112, 97, 99, 116]
    · refine ract_none s hs kb rb h6 ?_ k0 k1 k2 k3 k4 hc w
      rw [k5, act_compact]
      rw [if_neg]
      intro e
      subst e
      exact h6 ((cutAt_single hc).trans k5)
    · exact ract_none s hs kb rb h6 (act_unknown k0 k1 k2 k3 k4 k5) k0 k1 k2 k3 k4 hc w
end Go.Proofs.YtbfoocginkdmcaaGreatDoor

/-
  The reference's Parse.
-/

set_option linter.unusedVariables false
set_option maxRecDepth 100000
set_option maxHeartbeats 4000000
namespace Go.Proofs.YtbfoocginkdmcaaGreatDoor
open Go Go.RowKit Go.ArgS Go.Basic Go.Scr Go.Lib
theorem ra_bad (s : ByteArray) (hs : s.size ≤ 1048577) (w : World) (hl : ofLine s.data.toList = none) :
    Calls Tryz.prog 26 #[.string s] w fun e w' => ∃ (k t o n q : Int) (s : ByteArray) (ax : Option Addr) (lx cx : Nat) (ay : Option Addr) (ly cy : Nat),
      e = .returned (.tuple #[.agg #[.int .i64 k, .string s, .slice ax lx cx, .int .u64 t, .int .i64 o, .int .i64 n, .int .i64 q, .slice ay ly cy], .bool false]) ∧ Below w.heap.size w w' := by
  refine (refAct_calls s hs w).mono fun e w' h => ?_
  obtain ⟨k, t, o, n, q, s', ax, lx, cx, ay, ly, cy, h1, h2, _⟩ := h
  rw [hl] at h1
  exact ⟨k, t, o, n, q, s', ax, lx, cx, ay, ly, cy, h1, h2⟩
theorem ra_good (s : ByteArray) (hs : s.size ≤ 1048577) (w : World) (A : PAct) (hl : ofLine s.data.toList = some A) :
    Calls Tryz.prog 26 #[.string s] w fun e w' => ∃ ax cx ay cy, e = .returned (.tuple #[.agg #[.int .i64 A.kind, .string A.raw, .slice ax A.draws.length cx, .int .u64 (A.now : Int), .int .i64 A.outcome, .int .i64 A.n, .int .i64 A.dir, .slice ay A.tails.length cy], .bool true]) ∧ ActAt w' w.heap.size w'.heap.size none A (actCells A ax cx ay cy) ∧ Below w.heap.size w w' := by
  refine (refAct_calls s hs w).mono fun e w' h => ?_
  obtain ⟨k, t, o, n, q, s', ax, lx, cx, ay, ly, cy, h1, h2, h3⟩ := h
  obtain ⟨rfl, rfl, rfl, rfl, rfl, rfl, rfl, rfl, h4, h5, h6⟩ := h3 A hl
  rw [hl] at h1
  exact ⟨ax, cx, ay, cy, h1, ⟨ax, cx, ay, cy, rfl, ⟨h4, fun j hj => ⟨(h4.lt j hj).2, by simp⟩⟩, ⟨h5, fun j hj => ⟨(h5.lt j hj).2, by simp⟩⟩, h6⟩, h2⟩
def RestAt (l : List UInt8) (k f j : Nat) (acc : List PAct) : Prop := f ≤ k ∧ acc.length = j ∧ parseS l = goRest (l.drop f) j acc ∧ (10 : UInt8) ∉ (l.drop f).take (k - f)
theorem take_succ_get {l : List UInt8} {f k : Nat} {x : UInt8} (hf : f ≤ k) (hx : l[k]? = some x) : (l.drop f).take (k + 1 - f) = (l.drop f).take (k - f) ++ [x] := by
  rw [show k + 1 - f = (k - f) + 1 from by omega, List.take_add_one]
  have e2 : (l.drop f)[k - f]? = some x := by
    rw [List.getElem?_drop, show f + (k - f) = k from by omega]
    exact hx
  rw [e2]
  rfl
theorem rest_next {l : List UInt8} {k f j : Nat} {acc : List PAct} {x : UInt8} (h : RestAt l k f j acc) (hx : l[k]? = some x) (hne : x ≠ 10) : RestAt l (k + 1) f j acc := by
  obtain ⟨h1, h2, h3, h4⟩ := h
  refine ⟨by omega, h2, h3, ?_⟩
  rw [take_succ_get h1 hx]
  intro e
  rcases List.mem_append.1 e with e | e
  · exact h4 e
  · simp at e
    exact hne e.symm
theorem rest_split {l : List UInt8} {k f j : Nat} {acc : List PAct} (h : RestAt l k f j acc) (hx : l[k]? = some 10) : l.drop f = (l.drop f).take (k - f) ++ 10 :: l.drop (k + 1) := by
  obtain ⟨h1, h2, h3, h4⟩ := h
  conv => lhs; rw [← List.take_append_drop (k - f) (l.drop f)]
  have hl := (List.getElem?_eq_some_iff.1 hx).1
  rw [List.drop_drop, show f + (k - f) = k from by omega, List.drop_eq_getElem_cons hl]
  rw [List.getElem?_eq_getElem hl] at hx
  injection hx with hx
  rw [hx]
theorem rest_none {l p : List UInt8} {k f j : Nat} {acc : List PAct} (h : RestAt l k f j acc) (hp : p = (l.drop f).take (k - f)) (hx : l[k]? = some 10 ∨ (k = l.length ∧ f < k)) (hl : ofLine p = none) : parseS l = ([], 170, (j : Int) + 1) := by
  subst hp
  rcases hx with hx | ⟨hk, hf⟩
  · rw [h.2.2.1, rest_split h hx, goRest_line _ _ _ _ h.2.2.2, hl]
  · have e : (l.drop f).take (k - f) = l.drop f := List.take_of_length_le (by rw [List.length_drop]; omega)
    rw [e] at hl
    have h4 := h.2.2.2
    rw [e] at h4
    rw [h.2.2.1, goRest_last _ _ _ h4 (by intro e; have := congrArg List.length e; rw [List.length_drop] at this; simp at this; omega), hl]
theorem rest_many {l p : List UInt8} {k f j : Nat} {acc : List PAct} {A : PAct} (h : RestAt l k f j acc) (hp : p = (l.drop f).take (k - f)) (hx : l[k]? = some 10 ∨ (k = l.length ∧ f < k)) (hl : ofLine p = some A) (hj : j = 4096) : parseS l = ([], 32, (j : Int) + 1) := by
  subst hp
  have h2 := h.2.1
  rcases hx with hx | ⟨hk, hf⟩
  · rw [h.2.2.1, rest_split h hx, goRest_line _ _ _ _ h.2.2.2, hl]
    simp only
    rw [if_pos (by omega)]
  · have e : (l.drop f).take (k - f) = l.drop f := List.take_of_length_le (by rw [List.length_drop]; omega)
    rw [e] at hl
    have h4 := h.2.2.2
    rw [e] at h4
    rw [h.2.2.1, goRest_last _ _ _ h4 (by intro e; have := congrArg List.length e; rw [List.length_drop] at this; simp at this; omega), hl]
    simp only
    rw [if_pos (by omega)]
theorem rest_some {l p : List UInt8} {k f j : Nat} {acc : List PAct} {A : PAct} (h : RestAt l k f j acc) (hp : p = (l.drop f).take (k - f)) (hx : l[k]? = some 10 ∨ (k = l.length ∧ f < k)) (hl : ofLine p = some A) (hj : j ≠ 4096) : RestAt l (k + 1) (k + 1) (j + 1) (acc ++ [A]) := by
  subst hp
  have h2 := h.2.1
  refine ⟨Nat.le_refl _, by rw [List.length_append, h2]; rfl, ?_, by simp⟩
  rcases hx with hx | ⟨hk, hf⟩
  · rw [h.2.2.1, rest_split h hx, goRest_line _ _ _ _ h.2.2.2, hl]
    simp only
    rw [if_neg (by omega)]
  · have e : (l.drop f).take (k - f) = l.drop f := List.take_of_length_le (by rw [List.length_drop]; omega)
    rw [e] at hl
    have h4 := h.2.2.2
    rw [e] at h4
    rw [h.2.2.1, goRest_last _ _ _ h4 (by intro e; have := congrArg List.length e; rw [List.length_drop] at this; simp at this; omega), hl]
    simp only
    rw [if_neg (by omega), List.drop_eq_nil_of_le (by omega)]
    simp [goRest]
theorem rest_end {l : List UInt8} {k f j : Nat} {acc : List PAct} (h : RestAt l k f j acc) (hf : l.length ≤ f) : parseS l = (acc, 0, 0) := by
  rw [h.2.2.1, List.drop_eq_nil_of_le hf]
  simp [goRest]
theorem refParse_calls (s : ByteArray) (w : World) : Calls Tryz.prog 8 #[.string s] w (ParseOut w s.data.toList) := by
  obtain ⟨i0, hi, hz0, hz1, hz2⟩ := info_parts inf36
  have hsl : s.data.toList.length = s.size := by simp
  by_cases hlen : 1048576 < s.size
  · have hlen' : (1048576 : Int) < (s.size : Int) := by omega
    have hP : parseS s.data.toList = ([], 1, 0) := by unfold parseS; rw [if_pos (by omega)]
    go_enter Tryz.func8, Tryz.ntmps8
    go_wp2
    go_ret3
    unfold ParseOut
    rw [hP]
    exact ⟨_, rfl, NewActs.nil _ _ (Nat.le_refl _), Below.refl _ _⟩
  · have hlen' : ¬ (1048576 : Int) < (s.size : Int) := by omega
    have hI0 : Hid (RestAt s.data.toList 0 0 0 []) := ⟨Nat.le_refl _, rfl, by unfold parseS; rw [if_neg (by omega)]; rfl, by simp⟩
    go_enter Tryz.func8, Tryz.ntmps8
    go_wp2
    go_loopw [5, 6, 7, 8] (fun vo x y i wr => ∃ (k f j : Nat) (acc : List PAct) (xs : List Value) (lo : Nat → Nat), k ≤ s.size + 1 ∧ i = .int .i64 k ∧ x = .int .i64 f ∧ y = .int .i64 j ∧ j ≤ 4096 ∧ (s.size < k → f = k) ∧ Hid (RestAt s.data.toList k f j acc) ∧ Hid (w.heap.size ≤ lo 0 ∧ (∀ i, i < acc.length → lo i ≤ lo (i + 1)) ∧ lo acc.length ≤ wr.heap.size) ∧ wr.ownsRow w.heap.size 36 8 vo j xs ∧ RowsA wr lo vo.ownBlock acc xs ∧ Below w.heap.size w wr) (fun _ _ _ i _ => s.size + 1 - (RowKit.intOf i).toNat)
    case atStart => exact ⟨0, 0, 0, [], [], fun _ => w.heap.size, by omega, rfl, rfl, rfl, by omega, fun _ => rfl, hI0, ⟨Nat.le_refl _, fun _ _ => Nat.le_refl _, Nat.le_refl _⟩, World.ownsRow_nil _ _ _ _, RowsA.nil _ _ _, Below.refl _ _⟩
    case round =>
      clear hI0
      obtain ⟨k, f, j, acc, xs, lo, hk, rfl, rfl, rfl, hj4, hff0, hI, hlo, hown, hrows, hbw⟩ := hrel
      have hfk := (show RestAt _ _ _ _ _ from hI).1
      have hfkI : (f : Int) ≤ (k : Int) := by omega
      have hf0 : f ≤ 1048577 := by omega
      have hk0 : k ≤ 1048577 := by omega
      by_cases hks : k ≤ s.size
      · have hksI : (k : Int) ≤ (s.size : Int) := by omega
        by_cases hkl : k < s.size
        · have hklI : (k : Int) < (s.size : Int) := by omega
          have hkeI : ¬ (k : Int) = (s.size : Int) := by omega
          have hkeb : ((k : Int) == (s.size : Int)) = false := by simpa using hkeI
          have hxk : s.data.toList[k]? = some s[k] := by
            rw [List.getElem?_eq_getElem (by omega)]
            rfl
          by_cases hnl : s[k] = 10
          · have hend : s.data.toList[k]? = some 10 ∨ (k = s.data.toList.length ∧ f < k) := .inl (by rw [hxk, hnl])
            have hkk := hxk
            clear hxk
            clear hkk
            obtain ⟨va, vc, rfl⟩ := own_slice8 hown
            have hxs : (s.extract f k).size ≤ 1048577 := by rw [ByteArray.size_extract]; omega
            have hpx : (s.extract f k).data.toList = (s.data.toList.drop f).take (k - f) := extract_mid s f k
            cases hA : ofLine (s.extract f k).data.toList with
            | none =>
              have hPP : Hid (parseS s.data.toList = ([], 170, (j : Int) + 1)) := rest_none hI hpx hend hA
              have hf := fun W => ra_bad (s.extract f k) hxs W hA
              clear hA hpx hend hI
              go_wp2_with (go_at_call 26; refine (hf _).mono ?_; clear hf; rintro e w2 ⟨k', t', o', n', q', s', ax, lx, cx, ay, ly, cy, rfl, bel2⟩)
              go_ret3
              unfold ParseOut
              have b9 : Below w.heap.size w w2 := hbw.trans (bel2.mono hbw.size)
              rw [show parseS s.data.toList = _ from hPP]
              exact ⟨_, rfl, NewActs.nil _ _ (by have := b9.size; simp; omega), b9.alloc b9.size _⟩
            | some A =>
              have hf := fun W => ra_good (s.extract f k) hxs W A hA
              by_cases h4 : j = 4096
              · have hPP : Hid (parseS s.data.toList = ([], 32, (j : Int) + 1)) := rest_many hI hpx hend hA h4
                subst h4
                clear hA hpx hend hI
                go_wp2_with (go_at_call 26; refine (hf _).mono ?_; clear hf; rintro e w2 ⟨ax, cx, ay, cy, rfl, hat, bel2⟩)
                go_ret3
                unfold ParseOut
                have b9 : Below w.heap.size w w2 := hbw.trans (bel2.mono hbw.size)
                rw [show parseS s.data.toList = _ from hPP]
                exact ⟨_, rfl, NewActs.nil _ _ (by have := b9.size; simp; omega), b9.alloc b9.size _⟩
              · have hI2 : Hid (RestAt s.data.toList (k + 1) (k + 1) (j + 1) (acc ++ [A])) := rest_some hI hpx hend hA h4
                have h4I : ¬ (j : Int) = 4096 := by omega
                have h4b : ((j : Int) == 4096) = false := by simpa using h4I
                have hal' := (show RestAt _ _ _ _ _ from hI).2.1
                clear hA hpx hend hI
                go_wp2_with (first
                  | (go_at_call 26; refine (hf _).mono ?_; clear hf; rintro e w2 ⟨ax, cx, ay, cy, rfl, hat, bel2⟩)
                  | (at_builtin; generalize hX : wpList _ _ _ _ _ _ = X))
                rw [← hX]
                clear hX
                have bA : Below w2.heap.size w2 ((w2.alloc (.cells (actCells A ax cx ay cy).toArray 36)).alloc (.cells (actCells A ax cx ay cy).toArray 36)) := ((Below.refl _ _).alloc (Nat.le_refl _) _).alloc (by simp) _
                have sz1 := hbw.size
                have sz2 := bel2.size
                refine wpList_append_lies _ rfl _ _ 22 rfl w.heap.size 36 i0 _ 8 104 Tryz.underlying22 hi hz0 hz1 hz2 rfl (by decide) (.slice va j vc) j xs rfl (((own_belowS hown bel2).alloc _).alloc _) ⟨w2.heap.size + 1, 0, none⟩ 1 1 (actCells A ax cx ay cy) rfl rfl ?_ (act_oneG _ _ _ _ _) (by decide) (by unfold maxLen; omega) (by omega) (by simp; omega) _ rfl ?_
                · intro j' u hj'
                  have hc := (Box.new (w2.alloc (.cells (actCells A ax cx ay cy).toArray 36)) (actCells A ax cx ay cy).toArray 36).2.1 j'
                  simp only [World.size_alloc] at hc
                  rw [show (⟨w2.heap.size + 1, 0, none⟩ : Addr).add j' = ⟨w2.heap.size + 1, j', none⟩ by (simp [Addr.add]; try omega)]
                  exact hc.trans hj'
                · intro g cap2 w5 hown5 hg5 hat5 hlt5
                  obtain ⟨lo', hlo2, hrows2⟩ := rows_next hown hrows hal' (show _ ∧ _ ∧ _ from hlo) hat bel2 bA hg5 hat5
                  have hb5 : Below w.heap.size w w5 := (((hbw.trans (bel2.mono hbw.size)).alloc (Nat.le_trans hbw.size bel2.size) _).alloc (by simp; omega) _).grown hg5 (by simp; omega) fun g hg => (hown.lt g hg).1
                  have hlo3 : Hid (w.heap.size ≤ lo' 0 ∧ (∀ i, i < (acc ++ [A]).length → lo' i ≤ lo' (i + 1)) ∧ lo' (acc ++ [A]).length ≤ w5.heap.size) := hlo2
                  clear hg5 hat5 hown hrows hlo hlo2 hat bA hal'
                  go_wp2
                  refine ⟨⟨k + 1, k + 1, j + 1, acc ++ [A], _, lo', by omega, (by first | rfl | simp), (by first | rfl | simp), (by first | rfl | simp), by omega, (fun _ => rfl), hI2, hlo3, hown5, hrows2, hb5⟩, ?_⟩
                  simp only [RowKit.intOf]
                  omega
          · have hnb : ((s[k].toNat : Int) == 10) = false := by
              rw [beq_eq_false_iff_ne]
              intro e
              exact hnl (toNat_eq (by show _ = 10; omega))
            have hnb2 : ((s[k].toNat : Int) != 10) = true := by unfold bne; rw [hnb]; rfl
            have hI2 : Hid (RestAt s.data.toList (k + 1) f j acc) := rest_next hI hxk hnl
            clear hI hxk
            go_wp2
            go_roundw
            case rel => exact ⟨k + 1, f, j, acc, xs, lo, by omega, by go_num, rfl, rfl, hj4, (fun h => by omega), hI2, hlo, hown, hrows, hbw⟩
            case measure => simp only [RowKit.intOf]; omega
        · have hke : k = s.size := by omega
          have hklI : ¬ (k : Int) < (s.size : Int) := by omega
          have hkeI : (k : Int) = (s.size : Int) := by omega
          have hkeb : ((k : Int) == (s.size : Int)) = true := by simpa using hkeI
          have hke2 : s.size = k := hke.symm
          by_cases hff : f = k
          · have hPP : Hid (parseS s.data.toList = (acc, 0, 0)) := rest_end hI (by omega)
            have hal' := (show RestAt _ _ _ _ _ from hI).2.1
            have hlo' := show w.heap.size ≤ lo 0 ∧ (∀ i, i < acc.length → lo i ≤ lo (i + 1)) ∧ lo acc.length ≤ wr.heap.size from hlo
            obtain ⟨va, vc, rfl⟩ := own_slice8 hown
            have hfh : Hid (acc.length = j) := hal'
            have hffI : ((f : Int) == (k : Int)) = true := by rw [beq_iff_eq]; omega
            have hloh : Hid (w.heap.size ≤ lo 0 ∧ (∀ i, i < acc.length → lo i ≤ lo (i + 1)) ∧ lo acc.length ≤ wr.heap.size) := hlo
            clear hI hal' hlo' hke hke2 hlo
            subst hff
            go_wp2
            go_ret3
            have hal' := show acc.length = j from hfh
            have hlo' := show w.heap.size ≤ lo 0 ∧ (∀ i, i < acc.length → lo i ≤ lo (i + 1)) ∧ lo acc.length ≤ wr.heap.size from hloh
            unfold ParseOut
            rw [show parseS s.data.toList = _ from hPP]
            exact ⟨_, rfl, ⟨lo, xs, hlo'.1, hlo'.2.1, hlo'.2.2, by rw [hal']; exact hown, hrows⟩, hbw⟩
          · have hffI : ¬ (f : Int) = (k : Int) := by omega
            have hffb : ((f : Int) == (k : Int)) = false := by simpa using hffI
            have hend : s.data.toList[k]? = some 10 ∨ (k = s.data.toList.length ∧ f < k) := .inr ⟨by omega, by omega⟩
            have hkk := hke2
            clear hke2
            subst hke
            clear hkk
            obtain ⟨va, vc, rfl⟩ := own_slice8 hown
            have hxs : (s.extract f s.size).size ≤ 1048577 := by rw [ByteArray.size_extract]; omega
            have hpx : (s.extract f s.size).data.toList = (s.data.toList.drop f).take (s.size - f) := extract_mid s f s.size
            cases hA : ofLine (s.extract f s.size).data.toList with
            | none =>
              have hPP : Hid (parseS s.data.toList = ([], 170, (j : Int) + 1)) := rest_none hI hpx hend hA
              have hf := fun W => ra_bad (s.extract f s.size) hxs W hA
              clear hA hpx hend hI
              go_wp2_with (go_at_call 26; refine (hf _).mono ?_; clear hf; rintro e w2 ⟨k', t', o', n', q', s', ax, lx, cx, ay, ly, cy, rfl, bel2⟩)
              go_ret3
              unfold ParseOut
              have b9 : Below w.heap.size w w2 := hbw.trans (bel2.mono hbw.size)
              rw [show parseS s.data.toList = _ from hPP]
              exact ⟨_, rfl, NewActs.nil _ _ (by have := b9.size; simp; omega), b9.alloc b9.size _⟩
            | some A =>
              have hf := fun W => ra_good (s.extract f s.size) hxs W A hA
              by_cases h4 : j = 4096
              · have hPP : Hid (parseS s.data.toList = ([], 32, (j : Int) + 1)) := rest_many hI hpx hend hA h4
                subst h4
                clear hA hpx hend hI
                go_wp2_with (go_at_call 26; refine (hf _).mono ?_; clear hf; rintro e w2 ⟨ax, cx, ay, cy, rfl, hat, bel2⟩)
                go_ret3
                unfold ParseOut
                have b9 : Below w.heap.size w w2 := hbw.trans (bel2.mono hbw.size)
                rw [show parseS s.data.toList = _ from hPP]
                exact ⟨_, rfl, NewActs.nil _ _ (by have := b9.size; simp; omega), b9.alloc b9.size _⟩
              · have hI2 : Hid (RestAt s.data.toList (s.size + 1) (s.size + 1) (j + 1) (acc ++ [A])) := rest_some hI hpx hend hA h4
                have h4I : ¬ (j : Int) = 4096 := by omega
                have h4b : ((j : Int) == 4096) = false := by simpa using h4I
                have hal' := (show RestAt _ _ _ _ _ from hI).2.1
                clear hA hpx hend hI
                go_wp2_with (first
                  | (go_at_call 26; refine (hf _).mono ?_; clear hf; rintro e w2 ⟨ax, cx, ay, cy, rfl, hat, bel2⟩)
                  | (at_builtin; generalize hX : wpList _ _ _ _ _ _ = X))
                rw [← hX]
                clear hX
                have bA : Below w2.heap.size w2 ((w2.alloc (.cells (actCells A ax cx ay cy).toArray 36)).alloc (.cells (actCells A ax cx ay cy).toArray 36)) := ((Below.refl _ _).alloc (Nat.le_refl _) _).alloc (by simp) _
                have sz1 := hbw.size
                have sz2 := bel2.size
                refine wpList_append_lies _ rfl _ _ 22 rfl w.heap.size 36 i0 _ 8 104 Tryz.underlying22 hi hz0 hz1 hz2 rfl (by decide) (.slice va j vc) j xs rfl (((own_belowS hown bel2).alloc _).alloc _) ⟨w2.heap.size + 1, 0, none⟩ 1 1 (actCells A ax cx ay cy) rfl rfl ?_ (act_oneG _ _ _ _ _) (by decide) (by unfold maxLen; omega) (by omega) (by simp; omega) _ rfl ?_
                · intro j' u hj'
                  have hc := (Box.new (w2.alloc (.cells (actCells A ax cx ay cy).toArray 36)) (actCells A ax cx ay cy).toArray 36).2.1 j'
                  simp only [World.size_alloc] at hc
                  rw [show (⟨w2.heap.size + 1, 0, none⟩ : Addr).add j' = ⟨w2.heap.size + 1, j', none⟩ by (simp [Addr.add]; try omega)]
                  exact hc.trans hj'
                · intro g cap2 w5 hown5 hg5 hat5 hlt5
                  obtain ⟨lo', hlo2, hrows2⟩ := rows_next hown hrows hal' (show _ ∧ _ ∧ _ from hlo) hat bel2 bA hg5 hat5
                  have hb5 : Below w.heap.size w w5 := (((hbw.trans (bel2.mono hbw.size)).alloc (Nat.le_trans hbw.size bel2.size) _).alloc (by simp; omega) _).grown hg5 (by simp; omega) fun g hg => (hown.lt g hg).1
                  have hlo3 : Hid (w.heap.size ≤ lo' 0 ∧ (∀ i, i < (acc ++ [A]).length → lo' i ≤ lo' (i + 1)) ∧ lo' (acc ++ [A]).length ≤ w5.heap.size) := hlo2
                  clear hg5 hat5 hown hrows hlo hlo2 hat bA hal'
                  go_wp2
                  refine ⟨⟨s.size + 1, s.size + 1, j + 1, acc ++ [A], _, lo', by omega, (by first | rfl | simp), (by first | rfl | simp), (by first | rfl | simp), by omega, (fun _ => rfl), hI2, hlo3, hown5, hrows2, hb5⟩, ?_⟩
                  simp only [RowKit.intOf]
                  omega
      · have hge : ¬ (k : Int) ≤ (s.size : Int) := by omega
        have hPP : Hid (parseS s.data.toList = (acc, 0, 0)) := by
          exact rest_end hI (by have := hff0 (by omega); omega)
        have hal' := (show RestAt _ _ _ _ _ from hI).2.1
        have hfh : Hid (acc.length = j) := hal'
        obtain ⟨va, vc, rfl⟩ := own_slice8 hown
        have hloh : Hid (w.heap.size ≤ lo 0 ∧ (∀ i, i < acc.length → lo i ≤ lo (i + 1)) ∧ lo acc.length ≤ wr.heap.size) := hlo
        clear hI hal' hlo
        go_wp2
        go_ret3
        have hal' := show acc.length = j from hfh
        have hlo' := show w.heap.size ≤ lo 0 ∧ (∀ i, i < acc.length → lo i ≤ lo (i + 1)) ∧ lo acc.length ≤ wr.heap.size from hloh
        unfold ParseOut
        rw [show parseS s.data.toList = _ from hPP]
        exact ⟨_, rfl, ⟨lo, xs, hlo'.1, hlo'.2.1, hlo'.2.2, by rw [hal']; exact hown, hrows⟩, hbw⟩
end Go.Proofs.YtbfoocginkdmcaaGreatDoor
