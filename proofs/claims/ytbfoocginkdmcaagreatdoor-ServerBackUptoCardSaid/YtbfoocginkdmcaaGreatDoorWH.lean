/-
  parseLine at a line of no kind, and at compact.
-/
import Derived.Test.YtbfoocginkdmcaaGreatDoorWG

set_option linter.unusedVariables false
set_option maxRecDepth 100000
set_option maxHeartbeats 4000000
namespace Go.Proofs.YtbfoocginkdmcaaGreatDoor
open Go Go.RowKit Go.ArgS Go.Basic Go.Scr Go.Lib
theorem line_none (s : ByteArray) (k : ByteArray) (r : List ByteArray) (hp : piecesB 32 s = k :: r) (hk0 : k.data.toList ≠ [114, 101, 113, 117, 101, 115, 116]) (hk1 : k.data.toList ≠ [116, 105, 99, 107]) (hk2 : k.data.toList ≠ [112, 105, 110, 103]) (hk3 : k.data.toList ≠ [97, 114, 109]) (hk4 : k.data.toList ≠ [114, 101, 115, 116, 97, 114, 116]) (hk5 : k.data.toList ≠ [99, 111, 109, 112, 97, 99, 116]) (hs : s.size ≤ 2000000) (hrl : (r : List ByteArray).length ≤ 100000000) (hrx : ∀ q9 ∈ (r : List ByteArray), q9.size ≤ 2000000) (w : World) (hW : Well w) :
    Calls Tryz.prog 25 #[.string s] w (LineOut w s.data.toList) := by
  have hline : ofLine s.data.toList = none := by
    rw [of_line hp]
    unfold actOf wRequest wTick wPing wArm wRestart wCompact
    simp only
    rw [if_neg hk0, if_neg hk1, if_neg hk2, if_neg hk3, if_neg hk4, if_neg hk5]
  have t0 := tn hk0
  have t1 := tn hk1
  have t2 := tn hk2
  have t3 := tn hk3
  have t4 := tn hk4
  have t5 := tn hk5
  have hS := split_st hp hs hrl hW
  clear hk0 hk1 hk2 hk3 hk4 hk5
  go_enter Tryz.func25, Tryz.ntmps25
  go_wp2_with (first
    | (go_at_call 23; refine hS.mono ?_; clear hS; rintro e w2 ⟨rfl, hwd⟩)
    | (go_at_call 48; refine hwd.mono ?_; clear hwd; rintro e w5 ⟨rfl, h5⟩; (have c50 := h5.act.at 0 rfl); (have f50 := h5.act.2.2 0); (have h6 := h5.spoil); (obtain ⟨o8, hB8, _⟩ := h5.rd); (have q1 := hB8.at 1 rfl); (have fq1 := hB8.2.2 1); clear hB8)
)
  generalize (w5.setCell ⟨w2.heap.size, 1, none⟩ (.bool true)) = W at *
  obtain ⟨o9, r0, r1, d0, d1, d2, d3, d4, d5, d6, d7, e0, e1, e2, e3, e4, e5, e6, e7, fz, n0, n1, n2, n3⟩ := h6.all
  go_region
  all_goals go_wp2
  all_goals
    obtain ⟨b16, e0, e1, e2, e3, e4, e5, e6, e7⟩ := fin8 h6.res rfl h6.bel h6.lR (.int .i64 0) (.string ⟨#[]⟩) (.slice none 0 0) (.int .u64 0) (.int .i64 0) (.int .i64 0) (.int .i64 0) (.slice none 0 0) rfl
    try simp only [Exit.inBlock, Exit.then]
    refine bodyPost_ret (by simp [results, Tryz.results25, go_sem, e0, e1, e2, e3, e4, e5, e6, e7]; try rfl) rfl ?_
    unfold LineOut
    rw [hline]
    exact ⟨_, _, _, _, _, _, _, _, _, _, _, _, rfl, b16.drew, fun A hA => by cases hA⟩
theorem line_compact_ok (s : ByteArray) (k : ByteArray)  (hp : piecesB 32 s = k :: []) (hk : k.data.toList = [99, 111, 109, 112, 97, 99, 116]) (hs : s.size ≤ 2000000) (hrl : ([] : List ByteArray).length ≤ 100000000) (hrx : ∀ q9 ∈ ([] : List ByteArray), q9.size ≤ 2000000) (w : World) (hW : Well w) :
    Calls Tryz.prog 25 #[.string s] w (LineOut w s.data.toList) := by
  have hline : ofLine s.data.toList = some act6 := by
    rw [of_line hp, hk, act_compact]
    rfl
  obtain ⟨t0, t1, t2, t3, t4, t5⟩ := ts_compact hk
  have hS := split_st hp hs hrl hW
  clear hk
  go_enter Tryz.func25, Tryz.ntmps25
  go_wp2_with (first
    | (go_at_call 23; refine hS.mono ?_; clear hS; rintro e w2 ⟨rfl, hwd⟩)
    | (go_at_call 48; refine hwd.mono ?_; clear hwd; rintro e w5 ⟨rfl, h5⟩; (have c50 := h5.act.at 0 rfl); (have f50 := h5.act.2.2 0); (have h6 := h5.set 0 (.int .i64 6) (by simp)); (have hE6 := hW.env h6.bel _ h6.lb))
)
  generalize (w5.setCell ⟨w2.heap.size + 1, 0, none⟩ (.int .i64 6)) = W at *
  obtain ⟨o9, r0, r1, d0, d1, d2, d3, d4, d5, d6, d7, e0, e1, e2, e3, e4, e5, e6, e7, fz, n0, n1, n2, n3⟩ := h6.all
  go_region
  all_goals go_wp2
  all_goals
    obtain ⟨b16, e0, e1, e2, e3, e4, e5, e6, e7⟩ := fin8 h6.res rfl h6.bel h6.lR (.int .i64 6) (.string ⟨#[]⟩) (.slice none 0 0) (.int .u64 0) (.int .i64 0) (.int .i64 0) (.int .i64 0) (.slice none 0 0) rfl
    try simp only [Exit.inBlock, Exit.then]
    refine bodyPost_ret (by simp [results, Tryz.results25, go_sem, e0, e1, e2, e3, e4, e5, e6, e7]; try rfl) rfl ?_
    unfold LineOut
    rw [hline]
    refine ⟨_, _, _, _, _, _, _, _, _, _, _, _, rfl, b16.drew, fun A hA => ?_⟩
    cases hA
    exact ⟨rfl, rfl, rfl, rfl, rfl, rfl, rfl, rfl, OwnS.nil _ _ _, OwnS.nil _ _ _, .inr rfl⟩
theorem line_compact_more (s : ByteArray) (k : ByteArray) (y : ByteArray) (t : List ByteArray) (hp : piecesB 32 s = k :: (y :: t)) (hk : k.data.toList = [99, 111, 109, 112, 97, 99, 116]) (hs : s.size ≤ 2000000) (hrl : ((y :: t) : List ByteArray).length ≤ 100000000) (hrx : ∀ q9 ∈ ((y :: t) : List ByteArray), q9.size ≤ 2000000) (w : World) (hW : Well w) :
    Calls Tryz.prog 25 #[.string s] w (LineOut w s.data.toList) := by
  have hline : ofLine s.data.toList = none := by
    rw [of_line hp, hk, act_compact]
    rfl
  obtain ⟨t0, t1, t2, t3, t4, t5⟩ := ts_compact hk
  have hS := split_st hp hs hrl hW
  have hlt0 : ((t.length : Int) + 1 == 0) = false := by rw [beq_eq_false_iff_ne]; omega
  have hlt1 : ¬ (t.length : Int) + 1 = 0 := by omega
  clear hk
  go_enter Tryz.func25, Tryz.ntmps25
  go_wp2_with (first
    | (go_at_call 23; refine hS.mono ?_; clear hS; rintro e w2 ⟨rfl, hwd⟩)
    | (go_at_call 48; refine hwd.mono ?_; clear hwd; rintro e w5 ⟨rfl, h5⟩; (have c50 := h5.act.at 0 rfl); (have f50 := h5.act.2.2 0); (have h6 := h5.set 0 (.int .i64 6) (by simp)); (have hE6 := hW.env h6.bel _ h6.lb))
)
  generalize (w5.setCell ⟨w2.heap.size + 1, 0, none⟩ (.int .i64 6)) = W at *
  obtain ⟨o9, r0, r1, d0, d1, d2, d3, d4, d5, d6, d7, e0, e1, e2, e3, e4, e5, e6, e7, fz, n0, n1, n2, n3⟩ := h6.all
  go_region
  all_goals go_wp2
  all_goals
    obtain ⟨b16, e0, e1, e2, e3, e4, e5, e6, e7⟩ := fin8 h6.res rfl h6.bel h6.lR (.int .i64 6) (.string ⟨#[]⟩) (.slice none 0 0) (.int .u64 0) (.int .i64 0) (.int .i64 0) (.int .i64 0) (.slice none 0 0) rfl
    try simp only [Exit.inBlock, Exit.then]
    refine bodyPost_ret (by simp [results, Tryz.results25, go_sem, e0, e1, e2, e3, e4, e5, e6, e7]; try rfl) rfl ?_
    unfold LineOut
    rw [hline]
    exact ⟨_, _, _, _, _, _, _, _, _, _, _, _, rfl, b16.drew, fun A hA => by cases hA⟩
end Go.Proofs.YtbfoocginkdmcaaGreatDoor

/-
  parseLine at tick.
-/

namespace Go.Proofs.YtbfoocginkdmcaaGreatDoor
open Go Go.RowKit Go.ArgS Go.Basic Go.Scr Go.Lib
theorem line_tick_nil (s : ByteArray) (k : ByteArray)  (hp : piecesB 32 s = k :: []) (hk : k.data.toList = [116, 105, 99, 107]) (hs : s.size ≤ 2000000) (hrl : ([] : List ByteArray).length ≤ 100000000) (hrx : ∀ q9 ∈ ([] : List ByteArray), q9.size ≤ 2000000) (w : World) (hW : Well w) :
    Calls Tryz.prog 25 #[.string s] w (LineOut w s.data.toList) := by
  have hline : ofLine s.data.toList = none := by
    rw [of_line hp, hk, act_tick]
    rfl
  obtain ⟨t0, t1⟩ := ts_tick hk
  have hS := split_st hp hs hrl hW
  clear hk
  go_enter Tryz.func25, Tryz.ntmps25
  go_wp2_with (first
    | (go_at_call 23; refine hS.mono ?_; clear hS; rintro e w2 ⟨rfl, hwd⟩)
    | (go_at_call 48; refine hwd.mono ?_; clear hwd; rintro e w5 ⟨rfl, h5⟩; (have c50 := h5.act.at 0 rfl); (have f50 := h5.act.2.2 0); (have h6 := h5.set 0 (.int .i64 2) (by simp)); (have hE6 := hW.env h6.bel _ h6.lb))
    | (go_at_call 50; refine (time_nil _ _ _ _ h6.rd hE6).mono ?_; rintro e w7 ⟨n, rfl, hg7, hR7⟩; (have h7 := h6.grown hg7 hR7); (have c7 := h7.act.at 3 rfl); (have f7 := h7.act.2.2 3); (have h8 := h7.set 3 (.int .u64 n) (by simp)); clear hR7 hg7 h6 hE6)
)
  generalize (w7.setCell ⟨w2.heap.size + 1, 3, none⟩ (.int .u64 n)) = W at *
  obtain ⟨o9, r0, r1, d0, d1, d2, d3, d4, d5, d6, d7, e0, e1, e2, e3, e4, e5, e6, e7, fz, n0, n1, n2, n3⟩ := h8.all
  go_region
  all_goals go_wp2
  all_goals
    obtain ⟨b16, e0, e1, e2, e3, e4, e5, e6, e7⟩ := fin8 h8.res rfl h8.bel h8.lR (.int .i64 2) (.string ⟨#[]⟩) (.slice none 0 0) (.int .u64 n) (.int .i64 0) (.int .i64 0) (.int .i64 0) (.slice none 0 0) rfl
    try simp only [Exit.inBlock, Exit.then]
    refine bodyPost_ret (by simp [results, Tryz.results25, go_sem, e0, e1, e2, e3, e4, e5, e6, e7]; try rfl) rfl ?_
    unfold LineOut
    rw [hline]
    exact ⟨_, _, _, _, _, _, _, _, _, _, _, _, rfl, b16.drew, fun A hA => by cases hA⟩
theorem line_tick_bad (s : ByteArray) (k : ByteArray) (x : ByteArray) (t : List ByteArray) (hz : numOf x.data.toList = none) (hp : piecesB 32 s = k :: (x :: t)) (hk : k.data.toList = [116, 105, 99, 107]) (hs : s.size ≤ 2000000) (hrl : ((x :: t) : List ByteArray).length ≤ 100000000) (hrx : ∀ q9 ∈ ((x :: t) : List ByteArray), q9.size ≤ 2000000) (w : World) (hW : Well w) :
    Calls Tryz.prog 25 #[.string s] w (LineOut w s.data.toList) := by
  have hline : ofLine s.data.toList = none := by
    rw [of_line hp, hk, act_tick]
    cases t with
    | nil => simp [ofTick, hz]
    | cons y u => rfl
  obtain ⟨t0, t1⟩ := ts_tick hk
  have hS := split_st hp hs hrl hW
  clear hk
  go_enter Tryz.func25, Tryz.ntmps25
  go_wp2_with (first
    | (go_at_call 23; refine hS.mono ?_; clear hS; rintro e w2 ⟨rfl, hwd⟩)
    | (go_at_call 48; refine hwd.mono ?_; clear hwd; rintro e w5 ⟨rfl, h5⟩; (have c50 := h5.act.at 0 rfl); (have f50 := h5.act.2.2 0); (have h6 := h5.set 0 (.int .i64 2) (by simp)); (have hE6 := hW.env h6.bel _ h6.lb))
    | (go_at_call 50; refine (time_none _ _ _ _ _ _ h6.rd (by simp only [List.length_cons] at hrl; omega) (hrx x (by simp)) hE6 hz).mono ?_; rintro e w7 ⟨n, rfl, hg7, hR7⟩; (have h7 := h6.grown hg7 hR7); (have c7 := h7.act.at 3 rfl); (have f7 := h7.act.2.2 3); (have h8 := h7.set 3 (.int .u64 n) (by simp)); clear hR7 hg7 h6 hE6)
)
  generalize (w7.setCell ⟨w2.heap.size + 1, 3, none⟩ (.int .u64 n)) = W at *
  obtain ⟨o9, r0, r1, d0, d1, d2, d3, d4, d5, d6, d7, e0, e1, e2, e3, e4, e5, e6, e7, fz, n0, n1, n2, n3⟩ := h8.all
  go_region
  all_goals go_wp2
  all_goals
    obtain ⟨b16, e0, e1, e2, e3, e4, e5, e6, e7⟩ := fin8 h8.res rfl h8.bel h8.lR (.int .i64 2) (.string ⟨#[]⟩) (.slice none 0 0) (.int .u64 n) (.int .i64 0) (.int .i64 0) (.int .i64 0) (.slice none 0 0) rfl
    try simp only [Exit.inBlock, Exit.then]
    refine bodyPost_ret (by simp [results, Tryz.results25, go_sem, e0, e1, e2, e3, e4, e5, e6, e7]; try rfl) rfl ?_
    unfold LineOut
    rw [hline]
    exact ⟨_, _, _, _, _, _, _, _, _, _, _, _, rfl, b16.drew, fun A hA => by cases hA⟩
theorem line_tick_ok (s : ByteArray) (k : ByteArray) (x : ByteArray) (n : Nat) (hz : numOf x.data.toList = some n) (hp : piecesB 32 s = k :: [x]) (hk : k.data.toList = [116, 105, 99, 107]) (hs : s.size ≤ 2000000) (hrl : ([x] : List ByteArray).length ≤ 100000000) (hrx : ∀ q9 ∈ ([x] : List ByteArray), q9.size ≤ 2000000) (w : World) (hW : Well w) :
    Calls Tryz.prog 25 #[.string s] w (LineOut w s.data.toList) := by
  have hline : ofLine s.data.toList = some (act2 n) := by
    rw [of_line hp, hk, act_tick]
    simp [ofTick, hz]
  obtain ⟨t0, t1⟩ := ts_tick hk
  have hS := split_st hp hs hrl hW
  clear hk
  go_enter Tryz.func25, Tryz.ntmps25
  go_wp2_with (first
    | (go_at_call 23; refine hS.mono ?_; clear hS; rintro e w2 ⟨rfl, hwd⟩)
    | (go_at_call 48; refine hwd.mono ?_; clear hwd; rintro e w5 ⟨rfl, h5⟩; (have c50 := h5.act.at 0 rfl); (have f50 := h5.act.2.2 0); (have h6 := h5.set 0 (.int .i64 2) (by simp)); (have hE6 := hW.env h6.bel _ h6.lb))
    | (go_at_call 50; refine (time_some _ _ _ _ _ _ h6.rd (by simp) (hrx x (by simp)) hE6 n hz).mono ?_; rintro e w7 ⟨rfl, hg7, hR7⟩; (have h7 := h6.grown hg7 hR7); (have c7 := h7.act.at 3 rfl); (have f7 := h7.act.2.2 3); (have h8 := h7.set 3 (.int .u64 n) (by simp)); clear hR7 hg7 h6 hE6)
)
  generalize (w7.setCell ⟨w2.heap.size + 1, 3, none⟩ (.int .u64 n)) = W at *
  obtain ⟨o9, r0, r1, d0, d1, d2, d3, d4, d5, d6, d7, e0, e1, e2, e3, e4, e5, e6, e7, fz, n0, n1, n2, n3⟩ := h8.all
  go_region
  all_goals go_wp2
  all_goals
    obtain ⟨b16, e0, e1, e2, e3, e4, e5, e6, e7⟩ := fin8 h8.res rfl h8.bel h8.lR (.int .i64 2) (.string ⟨#[]⟩) (.slice none 0 0) (.int .u64 n) (.int .i64 0) (.int .i64 0) (.int .i64 0) (.slice none 0 0) rfl
    try simp only [Exit.inBlock, Exit.then]
    refine bodyPost_ret (by simp [results, Tryz.results25, go_sem, e0, e1, e2, e3, e4, e5, e6, e7]; try rfl) rfl ?_
    unfold LineOut
    rw [hline]
    refine ⟨_, _, _, _, _, _, _, _, _, _, _, _, rfl, b16.drew, fun A hA => ?_⟩
    cases hA
    exact ⟨rfl, rfl, rfl, rfl, rfl, rfl, rfl, rfl, OwnS.nil _ _ _, OwnS.nil _ _ _, .inr rfl⟩
theorem line_tick_more (s : ByteArray) (k : ByteArray) (x y : ByteArray) (t : List ByteArray) (n : Nat) (hz : numOf x.data.toList = some n) (hp : piecesB 32 s = k :: (x :: y :: t)) (hk : k.data.toList = [116, 105, 99, 107]) (hs : s.size ≤ 2000000) (hrl : ((x :: y :: t) : List ByteArray).length ≤ 100000000) (hrx : ∀ q9 ∈ ((x :: y :: t) : List ByteArray), q9.size ≤ 2000000) (w : World) (hW : Well w) :
    Calls Tryz.prog 25 #[.string s] w (LineOut w s.data.toList) := by
  have hline : ofLine s.data.toList = none := by
    rw [of_line hp, hk, act_tick]
    rfl
  obtain ⟨t0, t1⟩ := ts_tick hk
  have hS := split_st hp hs hrl hW
  have hlt0 : ((t.length : Int) + 1 == 0) = false := by rw [beq_eq_false_iff_ne]; omega
  have hlt1 : ¬ (t.length : Int) + 1 = 0 := by omega
  clear hk
  go_enter Tryz.func25, Tryz.ntmps25
  go_wp2_with (first
    | (go_at_call 23; refine hS.mono ?_; clear hS; rintro e w2 ⟨rfl, hwd⟩)
    | (go_at_call 48; refine hwd.mono ?_; clear hwd; rintro e w5 ⟨rfl, h5⟩; (have c50 := h5.act.at 0 rfl); (have f50 := h5.act.2.2 0); (have h6 := h5.set 0 (.int .i64 2) (by simp)); (have hE6 := hW.env h6.bel _ h6.lb))
    | (go_at_call 50; refine (time_some _ _ _ _ _ _ h6.rd (by simp only [List.length_cons] at hrl ⊢; omega) (hrx x (by simp)) hE6 n hz).mono ?_; rintro e w7 ⟨rfl, hg7, hR7⟩; (have h7 := h6.grown hg7 hR7); (have c7 := h7.act.at 3 rfl); (have f7 := h7.act.2.2 3); (have h8 := h7.set 3 (.int .u64 n) (by simp)); clear hR7 hg7 h6 hE6)
)
  generalize (w7.setCell ⟨w2.heap.size + 1, 3, none⟩ (.int .u64 n)) = W at *
  obtain ⟨o9, r0, r1, d0, d1, d2, d3, d4, d5, d6, d7, e0, e1, e2, e3, e4, e5, e6, e7, fz, n0, n1, n2, n3⟩ := h8.all
  go_region
  all_goals go_wp2
  all_goals
    obtain ⟨b16, e0, e1, e2, e3, e4, e5, e6, e7⟩ := fin8 h8.res rfl h8.bel h8.lR (.int .i64 2) (.string ⟨#[]⟩) (.slice none 0 0) (.int .u64 n) (.int .i64 0) (.int .i64 0) (.int .i64 0) (.slice none 0 0) rfl
    try simp only [Exit.inBlock, Exit.then]
    refine bodyPost_ret (by simp [results, Tryz.results25, go_sem, e0, e1, e2, e3, e4, e5, e6, e7]; try rfl) rfl ?_
    unfold LineOut
    rw [hline]
    exact ⟨_, _, _, _, _, _, _, _, _, _, _, _, rfl, b16.drew, fun A hA => by cases hA⟩
end Go.Proofs.YtbfoocginkdmcaaGreatDoor

/-
  parseLine at ping.
-/

namespace Go.Proofs.YtbfoocginkdmcaaGreatDoor
open Go Go.RowKit Go.ArgS Go.Basic Go.Scr Go.Lib
theorem line_ping_nil (s : ByteArray) (k : ByteArray)  (hp : piecesB 32 s = k :: []) (hk : k.data.toList = [112, 105, 110, 103]) (hs : s.size ≤ 2000000) (hrl : ([] : List ByteArray).length ≤ 100000000) (hrx : ∀ q9 ∈ ([] : List ByteArray), q9.size ≤ 2000000) (w : World) (hW : Well w) :
    Calls Tryz.prog 25 #[.string s] w (LineOut w s.data.toList) := by
  have hline : ofLine s.data.toList = none := by
    rw [of_line hp, hk, act_ping]
    rfl
  obtain ⟨t0, t1, t2⟩ := ts_ping hk
  have hS := split_st hp hs hrl hW
  clear hk
  go_enter Tryz.func25, Tryz.ntmps25
  go_wp2_with (first
    | (go_at_call 23; refine hS.mono ?_; clear hS; rintro e w2 ⟨rfl, hwd⟩)
    | (go_at_call 48; refine hwd.mono ?_; clear hwd; rintro e w5 ⟨rfl, h5⟩; (have c50 := h5.act.at 0 rfl); (have f50 := h5.act.2.2 0); (have h6 := h5.set 0 (.int .i64 3) (by simp)); (have hE6 := hW.env h6.bel _ h6.lb))
    | (go_at_call 51; refine (int_nil _ _ _ _ h6.rd hE6).mono ?_; rintro e w7 ⟨n, rfl, hg7, hR7⟩; (have h7 := h6.grown hg7 hR7); (have c7 := h7.act.at 4 rfl); (have f7 := h7.act.2.2 4); (have h8 := h7.set 4 (.int .i64 n) (by simp)); clear hR7 hg7 h6 hE6)
)
  generalize (w7.setCell ⟨w2.heap.size + 1, 4, none⟩ (.int .i64 n)) = W at *
  obtain ⟨o9, r0, r1, d0, d1, d2, d3, d4, d5, d6, d7, e0, e1, e2, e3, e4, e5, e6, e7, fz, n0, n1, n2, n3⟩ := h8.all
  go_region
  all_goals go_wp2
  all_goals
    obtain ⟨b16, e0, e1, e2, e3, e4, e5, e6, e7⟩ := fin8 h8.res rfl h8.bel h8.lR (.int .i64 3) (.string ⟨#[]⟩) (.slice none 0 0) (.int .u64 0) (.int .i64 n) (.int .i64 0) (.int .i64 0) (.slice none 0 0) rfl
    try simp only [Exit.inBlock, Exit.then]
    refine bodyPost_ret (by simp [results, Tryz.results25, go_sem, e0, e1, e2, e3, e4, e5, e6, e7]; try rfl) rfl ?_
    unfold LineOut
    rw [hline]
    exact ⟨_, _, _, _, _, _, _, _, _, _, _, _, rfl, b16.drew, fun A hA => by cases hA⟩
theorem line_ping_bad (s : ByteArray) (k : ByteArray) (x : ByteArray) (t : List ByteArray) (hz : zOf x.data.toList = none) (hp : piecesB 32 s = k :: (x :: t)) (hk : k.data.toList = [112, 105, 110, 103]) (hs : s.size ≤ 2000000) (hrl : ((x :: t) : List ByteArray).length ≤ 100000000) (hrx : ∀ q9 ∈ ((x :: t) : List ByteArray), q9.size ≤ 2000000) (w : World) (hW : Well w) :
    Calls Tryz.prog 25 #[.string s] w (LineOut w s.data.toList) := by
  have hline : ofLine s.data.toList = none := by
    rw [of_line hp, hk, act_ping]
    cases t with
    | nil => simp [ofPing, hz]
    | cons y u => rfl
  obtain ⟨t0, t1, t2⟩ := ts_ping hk
  have hS := split_st hp hs hrl hW
  clear hk
  go_enter Tryz.func25, Tryz.ntmps25
  go_wp2_with (first
    | (go_at_call 23; refine hS.mono ?_; clear hS; rintro e w2 ⟨rfl, hwd⟩)
    | (go_at_call 48; refine hwd.mono ?_; clear hwd; rintro e w5 ⟨rfl, h5⟩; (have c50 := h5.act.at 0 rfl); (have f50 := h5.act.2.2 0); (have h6 := h5.set 0 (.int .i64 3) (by simp)); (have hE6 := hW.env h6.bel _ h6.lb))
    | (go_at_call 51; refine (int_none _ _ _ _ _ _ h6.rd (by simp only [List.length_cons] at hrl; omega) (hrx x (by simp)) hE6 hz).mono ?_; rintro e w7 ⟨n, rfl, hg7, hR7⟩; (have h7 := h6.grown hg7 hR7); (have c7 := h7.act.at 4 rfl); (have f7 := h7.act.2.2 4); (have h8 := h7.set 4 (.int .i64 n) (by simp)); clear hR7 hg7 h6 hE6)
)
  generalize (w7.setCell ⟨w2.heap.size + 1, 4, none⟩ (.int .i64 n)) = W at *
  obtain ⟨o9, r0, r1, d0, d1, d2, d3, d4, d5, d6, d7, e0, e1, e2, e3, e4, e5, e6, e7, fz, n0, n1, n2, n3⟩ := h8.all
  go_region
  all_goals go_wp2
  all_goals
    obtain ⟨b16, e0, e1, e2, e3, e4, e5, e6, e7⟩ := fin8 h8.res rfl h8.bel h8.lR (.int .i64 3) (.string ⟨#[]⟩) (.slice none 0 0) (.int .u64 0) (.int .i64 n) (.int .i64 0) (.int .i64 0) (.slice none 0 0) rfl
    try simp only [Exit.inBlock, Exit.then]
    refine bodyPost_ret (by simp [results, Tryz.results25, go_sem, e0, e1, e2, e3, e4, e5, e6, e7]; try rfl) rfl ?_
    unfold LineOut
    rw [hline]
    exact ⟨_, _, _, _, _, _, _, _, _, _, _, _, rfl, b16.drew, fun A hA => by cases hA⟩
theorem line_ping_ok (s : ByteArray) (k : ByteArray) (x : ByteArray) (n : Int) (hz : zOf x.data.toList = some n) (hp : piecesB 32 s = k :: [x]) (hk : k.data.toList = [112, 105, 110, 103]) (hs : s.size ≤ 2000000) (hrl : ([x] : List ByteArray).length ≤ 100000000) (hrx : ∀ q9 ∈ ([x] : List ByteArray), q9.size ≤ 2000000) (w : World) (hW : Well w) :
    Calls Tryz.prog 25 #[.string s] w (LineOut w s.data.toList) := by
  have hline : ofLine s.data.toList = some (act3 n) := by
    rw [of_line hp, hk, act_ping]
    simp [ofPing, hz]
  obtain ⟨t0, t1, t2⟩ := ts_ping hk
  have hS := split_st hp hs hrl hW
  clear hk
  go_enter Tryz.func25, Tryz.ntmps25
  go_wp2_with (first
    | (go_at_call 23; refine hS.mono ?_; clear hS; rintro e w2 ⟨rfl, hwd⟩)
    | (go_at_call 48; refine hwd.mono ?_; clear hwd; rintro e w5 ⟨rfl, h5⟩; (have c50 := h5.act.at 0 rfl); (have f50 := h5.act.2.2 0); (have h6 := h5.set 0 (.int .i64 3) (by simp)); (have hE6 := hW.env h6.bel _ h6.lb))
    | (go_at_call 51; refine (int_some _ _ _ _ _ _ h6.rd (by simp) (hrx x (by simp)) hE6 n hz).mono ?_; rintro e w7 ⟨rfl, hg7, hR7⟩; (have h7 := h6.grown hg7 hR7); (have c7 := h7.act.at 4 rfl); (have f7 := h7.act.2.2 4); (have h8 := h7.set 4 (.int .i64 n) (by simp)); clear hR7 hg7 h6 hE6)
)
  generalize (w7.setCell ⟨w2.heap.size + 1, 4, none⟩ (.int .i64 n)) = W at *
  obtain ⟨o9, r0, r1, d0, d1, d2, d3, d4, d5, d6, d7, e0, e1, e2, e3, e4, e5, e6, e7, fz, n0, n1, n2, n3⟩ := h8.all
  go_region
  all_goals go_wp2
  all_goals
    obtain ⟨b16, e0, e1, e2, e3, e4, e5, e6, e7⟩ := fin8 h8.res rfl h8.bel h8.lR (.int .i64 3) (.string ⟨#[]⟩) (.slice none 0 0) (.int .u64 0) (.int .i64 n) (.int .i64 0) (.int .i64 0) (.slice none 0 0) rfl
    try simp only [Exit.inBlock, Exit.then]
    refine bodyPost_ret (by simp [results, Tryz.results25, go_sem, e0, e1, e2, e3, e4, e5, e6, e7]; try rfl) rfl ?_
    unfold LineOut
    rw [hline]
    refine ⟨_, _, _, _, _, _, _, _, _, _, _, _, rfl, b16.drew, fun A hA => ?_⟩
    cases hA
    exact ⟨rfl, rfl, rfl, rfl, rfl, rfl, rfl, rfl, OwnS.nil _ _ _, OwnS.nil _ _ _, .inr rfl⟩
theorem line_ping_more (s : ByteArray) (k : ByteArray) (x y : ByteArray) (t : List ByteArray) (n : Int) (hz : zOf x.data.toList = some n) (hp : piecesB 32 s = k :: (x :: y :: t)) (hk : k.data.toList = [112, 105, 110, 103]) (hs : s.size ≤ 2000000) (hrl : ((x :: y :: t) : List ByteArray).length ≤ 100000000) (hrx : ∀ q9 ∈ ((x :: y :: t) : List ByteArray), q9.size ≤ 2000000) (w : World) (hW : Well w) :
    Calls Tryz.prog 25 #[.string s] w (LineOut w s.data.toList) := by
  have hline : ofLine s.data.toList = none := by
    rw [of_line hp, hk, act_ping]
    rfl
  obtain ⟨t0, t1, t2⟩ := ts_ping hk
  have hS := split_st hp hs hrl hW
  have hlt0 : ((t.length : Int) + 1 == 0) = false := by rw [beq_eq_false_iff_ne]; omega
  have hlt1 : ¬ (t.length : Int) + 1 = 0 := by omega
  clear hk
  go_enter Tryz.func25, Tryz.ntmps25
  go_wp2_with (first
    | (go_at_call 23; refine hS.mono ?_; clear hS; rintro e w2 ⟨rfl, hwd⟩)
    | (go_at_call 48; refine hwd.mono ?_; clear hwd; rintro e w5 ⟨rfl, h5⟩; (have c50 := h5.act.at 0 rfl); (have f50 := h5.act.2.2 0); (have h6 := h5.set 0 (.int .i64 3) (by simp)); (have hE6 := hW.env h6.bel _ h6.lb))
    | (go_at_call 51; refine (int_some _ _ _ _ _ _ h6.rd (by simp only [List.length_cons] at hrl ⊢; omega) (hrx x (by simp)) hE6 n hz).mono ?_; rintro e w7 ⟨rfl, hg7, hR7⟩; (have h7 := h6.grown hg7 hR7); (have c7 := h7.act.at 4 rfl); (have f7 := h7.act.2.2 4); (have h8 := h7.set 4 (.int .i64 n) (by simp)); clear hR7 hg7 h6 hE6)
)
  generalize (w7.setCell ⟨w2.heap.size + 1, 4, none⟩ (.int .i64 n)) = W at *
  obtain ⟨o9, r0, r1, d0, d1, d2, d3, d4, d5, d6, d7, e0, e1, e2, e3, e4, e5, e6, e7, fz, n0, n1, n2, n3⟩ := h8.all
  go_region
  all_goals go_wp2
  all_goals
    obtain ⟨b16, e0, e1, e2, e3, e4, e5, e6, e7⟩ := fin8 h8.res rfl h8.bel h8.lR (.int .i64 3) (.string ⟨#[]⟩) (.slice none 0 0) (.int .u64 0) (.int .i64 n) (.int .i64 0) (.int .i64 0) (.slice none 0 0) rfl
    try simp only [Exit.inBlock, Exit.then]
    refine bodyPost_ret (by simp [results, Tryz.results25, go_sem, e0, e1, e2, e3, e4, e5, e6, e7]; try rfl) rfl ?_
    unfold LineOut
    rw [hline]
    exact ⟨_, _, _, _, _, _, _, _, _, _, _, _, rfl, b16.drew, fun A hA => by cases hA⟩
end Go.Proofs.YtbfoocginkdmcaaGreatDoor

/-
  parseLine at arm.
-/

namespace Go.Proofs.YtbfoocginkdmcaaGreatDoor
open Go Go.RowKit Go.ArgS Go.Basic Go.Scr Go.Lib
theorem line_arm_nil (s : ByteArray) (k : ByteArray)  (hp : piecesB 32 s = k :: []) (hk : k.data.toList = [97, 114, 109]) (hs : s.size ≤ 2000000) (hrl : ([] : List ByteArray).length ≤ 100000000) (hrx : ∀ q9 ∈ ([] : List ByteArray), q9.size ≤ 2000000) (w : World) (hW : Well w) :
    Calls Tryz.prog 25 #[.string s] w (LineOut w s.data.toList) := by
  have hline : ofLine s.data.toList = none := by
    rw [of_line hp, hk, act_arm]
    rfl
  obtain ⟨t0, t1, t2, t3⟩ := ts_arm hk
  have hS := split_st hp hs hrl hW
  clear hk
  go_enter Tryz.func25, Tryz.ntmps25
  go_wp2_with (first
    | (go_at_call 23; refine hS.mono ?_; clear hS; rintro e w2 ⟨rfl, hwd⟩)
    | (go_at_call 48; refine hwd.mono ?_; clear hwd; rintro e w5 ⟨rfl, h5⟩; (have c50 := h5.act.at 0 rfl); (have f50 := h5.act.2.2 0); (have h6 := h5.set 0 (.int .i64 4) (by simp)); (have hE6 := hW.env h6.bel _ h6.lb))
    | (go_at_call 51; refine (int_nil _ _ _ _ h6.rd hE6).mono ?_; rintro e w7 ⟨n, rfl, hg7, hR7⟩; (have h7 := h6.grown hg7 hR7); (have c7 := h7.act.at 5 rfl); (have f7 := h7.act.2.2 5); (have h8 := h7.set 5 (.int .i64 n) (by simp)); clear hR7 hg7 h6 hE6)
)
  generalize (w7.setCell ⟨w2.heap.size + 1, 5, none⟩ (.int .i64 n)) = W at *
  obtain ⟨o9, r0, r1, d0, d1, d2, d3, d4, d5, d6, d7, e0, e1, e2, e3, e4, e5, e6, e7, fz, n0, n1, n2, n3⟩ := h8.all
  go_region
  all_goals go_wp2
  all_goals
    obtain ⟨b16, e0, e1, e2, e3, e4, e5, e6, e7⟩ := fin8 h8.res rfl h8.bel h8.lR (.int .i64 4) (.string ⟨#[]⟩) (.slice none 0 0) (.int .u64 0) (.int .i64 0) (.int .i64 n) (.int .i64 0) (.slice none 0 0) rfl
    try simp only [Exit.inBlock, Exit.then]
    refine bodyPost_ret (by simp [results, Tryz.results25, go_sem, e0, e1, e2, e3, e4, e5, e6, e7]; try rfl) rfl ?_
    unfold LineOut
    rw [hline]
    exact ⟨_, _, _, _, _, _, _, _, _, _, _, _, rfl, b16.drew, fun A hA => by cases hA⟩
theorem line_arm_bad (s : ByteArray) (k : ByteArray) (x : ByteArray) (t : List ByteArray) (hz : zOf x.data.toList = none) (hp : piecesB 32 s = k :: (x :: t)) (hk : k.data.toList = [97, 114, 109]) (hs : s.size ≤ 2000000) (hrl : ((x :: t) : List ByteArray).length ≤ 100000000) (hrx : ∀ q9 ∈ ((x :: t) : List ByteArray), q9.size ≤ 2000000) (w : World) (hW : Well w) :
    Calls Tryz.prog 25 #[.string s] w (LineOut w s.data.toList) := by
  have hline : ofLine s.data.toList = none := by
    rw [of_line hp, hk, act_arm]
    cases t with
    | nil => simp [ofArm, hz]
    | cons y u => rfl
  obtain ⟨t0, t1, t2, t3⟩ := ts_arm hk
  have hS := split_st hp hs hrl hW
  clear hk
  go_enter Tryz.func25, Tryz.ntmps25
  go_wp2_with (first
    | (go_at_call 23; refine hS.mono ?_; clear hS; rintro e w2 ⟨rfl, hwd⟩)
    | (go_at_call 48; refine hwd.mono ?_; clear hwd; rintro e w5 ⟨rfl, h5⟩; (have c50 := h5.act.at 0 rfl); (have f50 := h5.act.2.2 0); (have h6 := h5.set 0 (.int .i64 4) (by simp)); (have hE6 := hW.env h6.bel _ h6.lb))
    | (go_at_call 51; refine (int_none _ _ _ _ _ _ h6.rd (by simp only [List.length_cons] at hrl; omega) (hrx x (by simp)) hE6 hz).mono ?_; rintro e w7 ⟨n, rfl, hg7, hR7⟩; (have h7 := h6.grown hg7 hR7); (have c7 := h7.act.at 5 rfl); (have f7 := h7.act.2.2 5); (have h8 := h7.set 5 (.int .i64 n) (by simp)); clear hR7 hg7 h6 hE6)
)
  generalize (w7.setCell ⟨w2.heap.size + 1, 5, none⟩ (.int .i64 n)) = W at *
  obtain ⟨o9, r0, r1, d0, d1, d2, d3, d4, d5, d6, d7, e0, e1, e2, e3, e4, e5, e6, e7, fz, n0, n1, n2, n3⟩ := h8.all
  go_region
  all_goals go_wp2
  all_goals
    obtain ⟨b16, e0, e1, e2, e3, e4, e5, e6, e7⟩ := fin8 h8.res rfl h8.bel h8.lR (.int .i64 4) (.string ⟨#[]⟩) (.slice none 0 0) (.int .u64 0) (.int .i64 0) (.int .i64 n) (.int .i64 0) (.slice none 0 0) rfl
    try simp only [Exit.inBlock, Exit.then]
    refine bodyPost_ret (by simp [results, Tryz.results25, go_sem, e0, e1, e2, e3, e4, e5, e6, e7]; try rfl) rfl ?_
    unfold LineOut
    rw [hline]
    exact ⟨_, _, _, _, _, _, _, _, _, _, _, _, rfl, b16.drew, fun A hA => by cases hA⟩
theorem line_arm_ok (s : ByteArray) (k : ByteArray) (x : ByteArray) (n : Int) (hz : zOf x.data.toList = some n) (hp : piecesB 32 s = k :: [x]) (hk : k.data.toList = [97, 114, 109]) (hs : s.size ≤ 2000000) (hrl : ([x] : List ByteArray).length ≤ 100000000) (hrx : ∀ q9 ∈ ([x] : List ByteArray), q9.size ≤ 2000000) (w : World) (hW : Well w) :
    Calls Tryz.prog 25 #[.string s] w (LineOut w s.data.toList) := by
  have hline : ofLine s.data.toList = some (act4 n) := by
    rw [of_line hp, hk, act_arm]
    simp [ofArm, hz]
  obtain ⟨t0, t1, t2, t3⟩ := ts_arm hk
  have hS := split_st hp hs hrl hW
  clear hk
  go_enter Tryz.func25, Tryz.ntmps25
  go_wp2_with (first
    | (go_at_call 23; refine hS.mono ?_; clear hS; rintro e w2 ⟨rfl, hwd⟩)
    | (go_at_call 48; refine hwd.mono ?_; clear hwd; rintro e w5 ⟨rfl, h5⟩; (have c50 := h5.act.at 0 rfl); (have f50 := h5.act.2.2 0); (have h6 := h5.set 0 (.int .i64 4) (by simp)); (have hE6 := hW.env h6.bel _ h6.lb))
    | (go_at_call 51; refine (int_some _ _ _ _ _ _ h6.rd (by simp) (hrx x (by simp)) hE6 n hz).mono ?_; rintro e w7 ⟨rfl, hg7, hR7⟩; (have h7 := h6.grown hg7 hR7); (have c7 := h7.act.at 5 rfl); (have f7 := h7.act.2.2 5); (have h8 := h7.set 5 (.int .i64 n) (by simp)); clear hR7 hg7 h6 hE6)
)
  generalize (w7.setCell ⟨w2.heap.size + 1, 5, none⟩ (.int .i64 n)) = W at *
  obtain ⟨o9, r0, r1, d0, d1, d2, d3, d4, d5, d6, d7, e0, e1, e2, e3, e4, e5, e6, e7, fz, n0, n1, n2, n3⟩ := h8.all
  go_region
  all_goals go_wp2
  all_goals
    obtain ⟨b16, e0, e1, e2, e3, e4, e5, e6, e7⟩ := fin8 h8.res rfl h8.bel h8.lR (.int .i64 4) (.string ⟨#[]⟩) (.slice none 0 0) (.int .u64 0) (.int .i64 0) (.int .i64 n) (.int .i64 0) (.slice none 0 0) rfl
    try simp only [Exit.inBlock, Exit.then]
    refine bodyPost_ret (by simp [results, Tryz.results25, go_sem, e0, e1, e2, e3, e4, e5, e6, e7]; try rfl) rfl ?_
    unfold LineOut
    rw [hline]
    refine ⟨_, _, _, _, _, _, _, _, _, _, _, _, rfl, b16.drew, fun A hA => ?_⟩
    cases hA
    exact ⟨rfl, rfl, rfl, rfl, rfl, rfl, rfl, rfl, OwnS.nil _ _ _, OwnS.nil _ _ _, .inr rfl⟩
theorem line_arm_more (s : ByteArray) (k : ByteArray) (x y : ByteArray) (t : List ByteArray) (n : Int) (hz : zOf x.data.toList = some n) (hp : piecesB 32 s = k :: (x :: y :: t)) (hk : k.data.toList = [97, 114, 109]) (hs : s.size ≤ 2000000) (hrl : ((x :: y :: t) : List ByteArray).length ≤ 100000000) (hrx : ∀ q9 ∈ ((x :: y :: t) : List ByteArray), q9.size ≤ 2000000) (w : World) (hW : Well w) :
    Calls Tryz.prog 25 #[.string s] w (LineOut w s.data.toList) := by
  have hline : ofLine s.data.toList = none := by
    rw [of_line hp, hk, act_arm]
    rfl
  obtain ⟨t0, t1, t2, t3⟩ := ts_arm hk
  have hS := split_st hp hs hrl hW
  have hlt0 : ((t.length : Int) + 1 == 0) = false := by rw [beq_eq_false_iff_ne]; omega
  have hlt1 : ¬ (t.length : Int) + 1 = 0 := by omega
  clear hk
  go_enter Tryz.func25, Tryz.ntmps25
  go_wp2_with (first
    | (go_at_call 23; refine hS.mono ?_; clear hS; rintro e w2 ⟨rfl, hwd⟩)
    | (go_at_call 48; refine hwd.mono ?_; clear hwd; rintro e w5 ⟨rfl, h5⟩; (have c50 := h5.act.at 0 rfl); (have f50 := h5.act.2.2 0); (have h6 := h5.set 0 (.int .i64 4) (by simp)); (have hE6 := hW.env h6.bel _ h6.lb))
    | (go_at_call 51; refine (int_some _ _ _ _ _ _ h6.rd (by simp only [List.length_cons] at hrl ⊢; omega) (hrx x (by simp)) hE6 n hz).mono ?_; rintro e w7 ⟨rfl, hg7, hR7⟩; (have h7 := h6.grown hg7 hR7); (have c7 := h7.act.at 5 rfl); (have f7 := h7.act.2.2 5); (have h8 := h7.set 5 (.int .i64 n) (by simp)); clear hR7 hg7 h6 hE6)
)
  generalize (w7.setCell ⟨w2.heap.size + 1, 5, none⟩ (.int .i64 n)) = W at *
  obtain ⟨o9, r0, r1, d0, d1, d2, d3, d4, d5, d6, d7, e0, e1, e2, e3, e4, e5, e6, e7, fz, n0, n1, n2, n3⟩ := h8.all
  go_region
  all_goals go_wp2
  all_goals
    obtain ⟨b16, e0, e1, e2, e3, e4, e5, e6, e7⟩ := fin8 h8.res rfl h8.bel h8.lR (.int .i64 4) (.string ⟨#[]⟩) (.slice none 0 0) (.int .u64 0) (.int .i64 0) (.int .i64 n) (.int .i64 0) (.slice none 0 0) rfl
    try simp only [Exit.inBlock, Exit.then]
    refine bodyPost_ret (by simp [results, Tryz.results25, go_sem, e0, e1, e2, e3, e4, e5, e6, e7]; try rfl) rfl ?_
    unfold LineOut
    rw [hline]
    exact ⟨_, _, _, _, _, _, _, _, _, _, _, _, rfl, b16.drew, fun A hA => by cases hA⟩
end Go.Proofs.YtbfoocginkdmcaaGreatDoor

/-
  parseLine at request.
-/

namespace Go.Proofs.YtbfoocginkdmcaaGreatDoor
open Go Go.RowKit Go.ArgS Go.Basic Go.Scr Go.Lib
theorem lt_set {w : World} {b : Nat} (a : Addr) (v : Value) (h0 : b < w.heap.size) : b < (w.setCell a v).heap.size := by
  simp [World.setCell]
  exact h0
theorem line_request_nil (s : ByteArray) (k : ByteArray)  (hp : piecesB 32 s = k :: []) (hk : k.data.toList = [114, 101, 113, 117, 101, 115, 116]) (hs : s.size ≤ 2000000) (hrl : ([] : List ByteArray).length ≤ 100000000) (hrx : ∀ q9 ∈ ([] : List ByteArray), q9.size ≤ 2000000) (w : World) (hW : Well w) :
    Calls Tryz.prog 25 #[.string s] w (LineOut w s.data.toList) := by
  have hline : ofLine s.data.toList = none := by
    rw [of_line hp, hk, act_request]
    rfl
  have t0 := ts_request hk
  have hS := split_st hp hs hrl hW
  clear hk
  go_enter Tryz.func25, Tryz.ntmps25
  go_wp2_with (first
    | (go_at_call 23; refine hS.mono ?_; clear hS; rintro e w2 ⟨rfl, hwd⟩)
    | (go_at_call 48; refine hwd.mono ?_; clear hwd; rintro e w5 ⟨rfl, h5⟩; (have c50 := h5.act.at 0 rfl); (have f50 := h5.act.2.2 0); (have h6 := h5.set 0 (.int .i64 1) (by simp)); (have hE6 := hW.env h6.bel _ h6.lb))
    | (go_at_call 49; refine (bytes_to_bad _ _ _ _ _ h6.rd hrl hrx (.inr (.inl rfl))).mono ?_; rintro e w7 ⟨a1, c1, p1, ws1, rfl, ho1, hp1, hg7, hR7, hl1, hx1⟩; (have h7 := h6.grown hg7 hR7); (have c7 := h7.act.at 2 rfl); (have f7 := h7.act.2.2 2); (have h8 := h7.set 2 (.slice a1 p1.length c1) (by simp)); (have la1 := lt_set ⟨w2.heap.size + 1, 0, none⟩ (.int .i64 1) h5.act.1); (have lb1 := lt_set ⟨w2.heap.size + 1, 0, none⟩ (.int .i64 1) h5.rd.lt.1); (have lR1 := lt_set ⟨w2.heap.size + 1, 0, none⟩ (.int .i64 1) h5.res.1); (have h6w : w.heap.size ≤ (w5.setCell ⟨w2.heap.size + 1, 0, none⟩ (.int .i64 1)).heap.size := h6.bel.size); (have ho1 := own_spoil (j := 2) (u := .slice a1 p1.length c1) ho1 la1); clear hR7 hg7 h6 hE6)
    | (go_at_call 49; refine (bytes_to_bad _ _ _ _ _ h8.rd (Nat.le_trans hl1 hrl) hx1 (.inl rfl)).mono ?_; rintro e w9 ⟨a2, c2, p2, ws2, rfl, ho2, hp2, hg9, hR9, hl2, hx2⟩; (have h9 := h8.grown hg9 hR9); (have c9 := h9.act.at 1 rfl); (have f9 := h9.act.2.2 1); (have hcv := text_of ho2.is); (have h10 := h9.set 1 (.string ⟨p2.toArray⟩) (by simp)); (have ho3 := own_spoil (j := 1) (u := .string ⟨p2.toArray⟩) (own_grown ho1 hg9 lb1) la1); clear hR9 hg9 h8)
)
  generalize (w9.setCell ⟨w2.heap.size + 1, 1, none⟩ (.string ⟨p2.toArray⟩)) = W at *
  obtain ⟨o9, r0, r1, d0, d1, d2, d3, d4, d5, d6, d7, e0, e1, e2, e3, e4, e5, e6, e7, fz, n0, n1, n2, n3⟩ := h10.all
  go_region
  all_goals go_wp2
  all_goals
    obtain ⟨b16, e0, e1, e2, e3, e4, e5, e6, e7⟩ := fin8 h10.res rfl h10.bel h10.lR (.int .i64 1) (.string ⟨p2.toArray⟩) (.slice a1 p1.length c1) (.int .u64 0) (.int .i64 0) (.int .i64 0) (.int .i64 0) (.slice none 0 0) rfl
    try simp only [Exit.inBlock, Exit.then]
    refine bodyPost_ret (by simp [results, Tryz.results25, go_sem, e0, e1, e2, e3, e4, e5, e6, e7]; try rfl) rfl ?_
    unfold LineOut
    rw [hline]
    exact ⟨_, _, _, _, _, _, _, _, _, _, _, _, rfl, b16.drew, fun A hA => by cases hA⟩
theorem line_request_bad1 (s : ByteArray) (k : ByteArray) (x : ByteArray) (t : List ByteArray) (hz1 : wordOf x.data.toList = none) (hp : piecesB 32 s = k :: (x :: t)) (hk : k.data.toList = [114, 101, 113, 117, 101, 115, 116]) (hs : s.size ≤ 2000000) (hrl : ((x :: t) : List ByteArray).length ≤ 100000000) (hrx : ∀ q9 ∈ ((x :: t) : List ByteArray), q9.size ≤ 2000000) (w : World) (hW : Well w) :
    Calls Tryz.prog 25 #[.string s] w (LineOut w s.data.toList) := by
  have hline : ofLine s.data.toList = none := by
    rw [of_line hp, hk, act_request]
    match t with
    | [] => rfl
    | [y] => simp [ofRequest, hz1]
    | y :: z :: u => rfl
  have t0 := ts_request hk
  have hS := split_st hp hs hrl hW
  clear hk
  go_enter Tryz.func25, Tryz.ntmps25
  go_wp2_with (first
    | (go_at_call 23; refine hS.mono ?_; clear hS; rintro e w2 ⟨rfl, hwd⟩)
    | (go_at_call 48; refine hwd.mono ?_; clear hwd; rintro e w5 ⟨rfl, h5⟩; (have c50 := h5.act.at 0 rfl); (have f50 := h5.act.2.2 0); (have h6 := h5.set 0 (.int .i64 1) (by simp)); (have hE6 := hW.env h6.bel _ h6.lb))
    | (go_at_call 49; refine (bytes_to_bad _ _ _ _ _ h6.rd hrl hrx (.inr (.inr ⟨_, _, rfl, hz1⟩))).mono ?_; rintro e w7 ⟨a1, c1, p1, ws1, rfl, ho1, hp1, hg7, hR7, hl1, hx1⟩; (have h7 := h6.grown hg7 hR7); (have c7 := h7.act.at 2 rfl); (have f7 := h7.act.2.2 2); (have h8 := h7.set 2 (.slice a1 p1.length c1) (by simp)); (have la1 := lt_set ⟨w2.heap.size + 1, 0, none⟩ (.int .i64 1) h5.act.1); (have lb1 := lt_set ⟨w2.heap.size + 1, 0, none⟩ (.int .i64 1) h5.rd.lt.1); (have lR1 := lt_set ⟨w2.heap.size + 1, 0, none⟩ (.int .i64 1) h5.res.1); (have h6w : w.heap.size ≤ (w5.setCell ⟨w2.heap.size + 1, 0, none⟩ (.int .i64 1)).heap.size := h6.bel.size); (have ho1 := own_spoil (j := 2) (u := .slice a1 p1.length c1) ho1 la1); clear hR7 hg7 h6 hE6)
    | (go_at_call 49; refine (bytes_to_bad _ _ _ _ _ h8.rd (Nat.le_trans hl1 hrl) hx1 (.inl rfl)).mono ?_; rintro e w9 ⟨a2, c2, p2, ws2, rfl, ho2, hp2, hg9, hR9, hl2, hx2⟩; (have h9 := h8.grown hg9 hR9); (have c9 := h9.act.at 1 rfl); (have f9 := h9.act.2.2 1); (have hcv := text_of ho2.is); (have h10 := h9.set 1 (.string ⟨p2.toArray⟩) (by simp)); (have ho3 := own_spoil (j := 1) (u := .string ⟨p2.toArray⟩) (own_grown ho1 hg9 lb1) la1); clear hR9 hg9 h8)
)
  generalize (w9.setCell ⟨w2.heap.size + 1, 1, none⟩ (.string ⟨p2.toArray⟩)) = W at *
  obtain ⟨o9, r0, r1, d0, d1, d2, d3, d4, d5, d6, d7, e0, e1, e2, e3, e4, e5, e6, e7, fz, n0, n1, n2, n3⟩ := h10.all
  go_region
  all_goals go_wp2
  all_goals
    obtain ⟨b16, e0, e1, e2, e3, e4, e5, e6, e7⟩ := fin8 h10.res rfl h10.bel h10.lR (.int .i64 1) (.string ⟨p2.toArray⟩) (.slice a1 p1.length c1) (.int .u64 0) (.int .i64 0) (.int .i64 0) (.int .i64 0) (.slice none 0 0) rfl
    try simp only [Exit.inBlock, Exit.then]
    refine bodyPost_ret (by simp [results, Tryz.results25, go_sem, e0, e1, e2, e3, e4, e5, e6, e7]; try rfl) rfl ?_
    unfold LineOut
    rw [hline]
    exact ⟨_, _, _, _, _, _, _, _, _, _, _, _, rfl, b16.drew, fun A hA => by cases hA⟩
theorem line_request_one (s : ByteArray) (k : ByteArray) (x : ByteArray) (p1 : List UInt8) (hz1 : wordOf x.data.toList = some p1) (hp : piecesB 32 s = k :: [x]) (hk : k.data.toList = [114, 101, 113, 117, 101, 115, 116]) (hs : s.size ≤ 2000000) (hrl : ([x] : List ByteArray).length ≤ 100000000) (hrx : ∀ q9 ∈ ([x] : List ByteArray), q9.size ≤ 2000000) (w : World) (hW : Well w) :
    Calls Tryz.prog 25 #[.string s] w (LineOut w s.data.toList) := by
  have hline : ofLine s.data.toList = none := by
    rw [of_line hp, hk, act_request]
    rfl
  have t0 := ts_request hk
  have hS := split_st hp hs hrl hW
  clear hk
  go_enter Tryz.func25, Tryz.ntmps25
  go_wp2_with (first
    | (go_at_call 23; refine hS.mono ?_; clear hS; rintro e w2 ⟨rfl, hwd⟩)
    | (go_at_call 48; refine hwd.mono ?_; clear hwd; rintro e w5 ⟨rfl, h5⟩; (have c50 := h5.act.at 0 rfl); (have f50 := h5.act.2.2 0); (have h6 := h5.set 0 (.int .i64 1) (by simp)); (have hE6 := hW.env h6.bel _ h6.lb))
    | (go_at_call 49; refine (bytes_good _ _ x _ p1 _ _ h6.rd (by simp) (hrx x (by simp)) hz1).mono ?_; rintro e w7 ⟨a1, c1, rfl, ho1, hp1, hg7, hR7⟩; (have h7 := h6.grown hg7 hR7); (have c7 := h7.act.at 2 rfl); (have f7 := h7.act.2.2 2); (have h8 := h7.set 2 (.slice a1 p1.length c1) (by simp)); (have la1 := lt_set ⟨w2.heap.size + 1, 0, none⟩ (.int .i64 1) h5.act.1); (have lb1 := lt_set ⟨w2.heap.size + 1, 0, none⟩ (.int .i64 1) h5.rd.lt.1); (have lR1 := lt_set ⟨w2.heap.size + 1, 0, none⟩ (.int .i64 1) h5.res.1); (have h6w : w.heap.size ≤ (w5.setCell ⟨w2.heap.size + 1, 0, none⟩ (.int .i64 1)).heap.size := h6.bel.size); (have ho1 := own_spoil (j := 2) (u := .slice a1 p1.length c1) ho1 la1); clear hR7 hg7 h6 hE6)
    | (go_at_call 49; refine (bytes_to_bad _ _ _ _ _ h8.rd (by simp) (fun _ h => by cases h) (.inr (.inl rfl))).mono ?_; rintro e w9 ⟨a2, c2, p2, ws2, rfl, ho2, hp2, hg9, hR9, hl2, hx2⟩; (have h9 := h8.grown hg9 hR9); (have c9 := h9.act.at 1 rfl); (have f9 := h9.act.2.2 1); (have hcv := text_of ho2.is); (have h10 := h9.set 1 (.string ⟨p2.toArray⟩) (by simp)); (have ho3 := own_spoil (j := 1) (u := .string ⟨p2.toArray⟩) (own_grown ho1 hg9 lb1) la1); clear hR9 hg9 h8)
)
  generalize (w9.setCell ⟨w2.heap.size + 1, 1, none⟩ (.string ⟨p2.toArray⟩)) = W at *
  obtain ⟨o9, r0, r1, d0, d1, d2, d3, d4, d5, d6, d7, e0, e1, e2, e3, e4, e5, e6, e7, fz, n0, n1, n2, n3⟩ := h10.all
  go_region
  all_goals go_wp2
  all_goals
    obtain ⟨b16, e0, e1, e2, e3, e4, e5, e6, e7⟩ := fin8 h10.res rfl h10.bel h10.lR (.int .i64 1) (.string ⟨p2.toArray⟩) (.slice a1 p1.length c1) (.int .u64 0) (.int .i64 0) (.int .i64 0) (.int .i64 0) (.slice none 0 0) rfl
    try simp only [Exit.inBlock, Exit.then]
    refine bodyPost_ret (by simp [results, Tryz.results25, go_sem, e0, e1, e2, e3, e4, e5, e6, e7]; try rfl) rfl ?_
    unfold LineOut
    rw [hline]
    exact ⟨_, _, _, _, _, _, _, _, _, _, _, _, rfl, b16.drew, fun A hA => by cases hA⟩
theorem line_request_bad2 (s : ByteArray) (k : ByteArray) (x y : ByteArray) (t : List ByteArray) (p1 : List UInt8) (hz1 : wordOf x.data.toList = some p1) (hz2 : wordOf y.data.toList = none) (hp : piecesB 32 s = k :: (x :: y :: t)) (hk : k.data.toList = [114, 101, 113, 117, 101, 115, 116]) (hs : s.size ≤ 2000000) (hrl : ((x :: y :: t) : List ByteArray).length ≤ 100000000) (hrx : ∀ q9 ∈ ((x :: y :: t) : List ByteArray), q9.size ≤ 2000000) (w : World) (hW : Well w) :
    Calls Tryz.prog 25 #[.string s] w (LineOut w s.data.toList) := by
  have hline : ofLine s.data.toList = none := by
    rw [of_line hp, hk, act_request]
    cases t with
    | nil => simp [ofRequest, hz1, hz2]
    | cons z u => rfl
  have t0 := ts_request hk
  have hS := split_st hp hs hrl hW
  clear hk
  go_enter Tryz.func25, Tryz.ntmps25
  go_wp2_with (first
    | (go_at_call 23; refine hS.mono ?_; clear hS; rintro e w2 ⟨rfl, hwd⟩)
    | (go_at_call 48; refine hwd.mono ?_; clear hwd; rintro e w5 ⟨rfl, h5⟩; (have c50 := h5.act.at 0 rfl); (have f50 := h5.act.2.2 0); (have h6 := h5.set 0 (.int .i64 1) (by simp)); (have hE6 := hW.env h6.bel _ h6.lb))
    | (go_at_call 49; refine (bytes_good _ _ x _ p1 _ _ h6.rd (by simp only [List.length_cons] at hrl ⊢; omega) (hrx x (by simp)) hz1).mono ?_; rintro e w7 ⟨a1, c1, rfl, ho1, hp1, hg7, hR7⟩; (have h7 := h6.grown hg7 hR7); (have c7 := h7.act.at 2 rfl); (have f7 := h7.act.2.2 2); (have h8 := h7.set 2 (.slice a1 p1.length c1) (by simp)); (have la1 := lt_set ⟨w2.heap.size + 1, 0, none⟩ (.int .i64 1) h5.act.1); (have lb1 := lt_set ⟨w2.heap.size + 1, 0, none⟩ (.int .i64 1) h5.rd.lt.1); (have lR1 := lt_set ⟨w2.heap.size + 1, 0, none⟩ (.int .i64 1) h5.res.1); (have h6w : w.heap.size ≤ (w5.setCell ⟨w2.heap.size + 1, 0, none⟩ (.int .i64 1)).heap.size := h6.bel.size); (have ho1 := own_spoil (j := 2) (u := .slice a1 p1.length c1) ho1 la1); clear hR7 hg7 h6 hE6)
    | (go_at_call 49; refine (bytes_to_bad _ _ _ _ _ h8.rd (by simp only [List.length_cons] at hrl ⊢; omega) (fun z hz => hrx z (by simp at hz ⊢; exact .inr hz)) (.inr (.inr ⟨_, _, rfl, hz2⟩))).mono ?_; rintro e w9 ⟨a2, c2, p2, ws2, rfl, ho2, hp2, hg9, hR9, hl2, hx2⟩; (have h9 := h8.grown hg9 hR9); (have c9 := h9.act.at 1 rfl); (have f9 := h9.act.2.2 1); (have hcv := text_of ho2.is); (have h10 := h9.set 1 (.string ⟨p2.toArray⟩) (by simp)); (have ho3 := own_spoil (j := 1) (u := .string ⟨p2.toArray⟩) (own_grown ho1 hg9 lb1) la1); clear hR9 hg9 h8)
)
  generalize (w9.setCell ⟨w2.heap.size + 1, 1, none⟩ (.string ⟨p2.toArray⟩)) = W at *
  obtain ⟨o9, r0, r1, d0, d1, d2, d3, d4, d5, d6, d7, e0, e1, e2, e3, e4, e5, e6, e7, fz, n0, n1, n2, n3⟩ := h10.all
  go_region
  all_goals go_wp2
  all_goals
    obtain ⟨b16, e0, e1, e2, e3, e4, e5, e6, e7⟩ := fin8 h10.res rfl h10.bel h10.lR (.int .i64 1) (.string ⟨p2.toArray⟩) (.slice a1 p1.length c1) (.int .u64 0) (.int .i64 0) (.int .i64 0) (.int .i64 0) (.slice none 0 0) rfl
    try simp only [Exit.inBlock, Exit.then]
    refine bodyPost_ret (by simp [results, Tryz.results25, go_sem, e0, e1, e2, e3, e4, e5, e6, e7]; try rfl) rfl ?_
    unfold LineOut
    rw [hline]
    exact ⟨_, _, _, _, _, _, _, _, _, _, _, _, rfl, b16.drew, fun A hA => by cases hA⟩
theorem line_request_ok (s : ByteArray) (k : ByteArray) (x y : ByteArray) (p1 : List UInt8) (hz1 : wordOf x.data.toList = some p1) (p2 : List UInt8) (hz2 : wordOf y.data.toList = some p2) (hp : piecesB 32 s = k :: [x, y]) (hk : k.data.toList = [114, 101, 113, 117, 101, 115, 116]) (hs : s.size ≤ 2000000) (hrl : ([x, y] : List ByteArray).length ≤ 100000000) (hrx : ∀ q9 ∈ ([x, y] : List ByteArray), q9.size ≤ 2000000) (w : World) (hW : Well w) :
    Calls Tryz.prog 25 #[.string s] w (LineOut w s.data.toList) := by
  have hline : ofLine s.data.toList = some (act1 p1 p2) := by
    rw [of_line hp, hk, act_request]
    simp [ofRequest, hz1, hz2]
  have t0 := ts_request hk
  have hS := split_st hp hs hrl hW
  clear hk
  go_enter Tryz.func25, Tryz.ntmps25
  go_wp2_with (first
    | (go_at_call 23; refine hS.mono ?_; clear hS; rintro e w2 ⟨rfl, hwd⟩)
    | (go_at_call 48; refine hwd.mono ?_; clear hwd; rintro e w5 ⟨rfl, h5⟩; (have c50 := h5.act.at 0 rfl); (have f50 := h5.act.2.2 0); (have h6 := h5.set 0 (.int .i64 1) (by simp)); (have hE6 := hW.env h6.bel _ h6.lb))
    | (go_at_call 49; refine (bytes_good _ _ x _ p1 _ _ h6.rd (by simp) (hrx x (by simp)) hz1).mono ?_; rintro e w7 ⟨a1, c1, rfl, ho1, hp1, hg7, hR7⟩; (have h7 := h6.grown hg7 hR7); (have c7 := h7.act.at 2 rfl); (have f7 := h7.act.2.2 2); (have h8 := h7.set 2 (.slice a1 p1.length c1) (by simp)); (have la1 := lt_set ⟨w2.heap.size + 1, 0, none⟩ (.int .i64 1) h5.act.1); (have lb1 := lt_set ⟨w2.heap.size + 1, 0, none⟩ (.int .i64 1) h5.rd.lt.1); (have lR1 := lt_set ⟨w2.heap.size + 1, 0, none⟩ (.int .i64 1) h5.res.1); (have h6w : w.heap.size ≤ (w5.setCell ⟨w2.heap.size + 1, 0, none⟩ (.int .i64 1)).heap.size := h6.bel.size); (have ho1 := own_spoil (j := 2) (u := .slice a1 p1.length c1) ho1 la1); clear hR7 hg7 h6 hE6)
    | (go_at_call 49; refine (bytes_good _ _ y _ p2 _ _ h8.rd (by simp) (hrx y (by simp)) hz2).mono ?_; rintro e w9 ⟨a2, c2, rfl, ho2, hp2, hg9, hR9⟩; (have h9 := h8.grown hg9 hR9); (have c9 := h9.act.at 1 rfl); (have f9 := h9.act.2.2 1); (have hcv := text_of ho2.is); (have h10 := h9.set 1 (.string ⟨p2.toArray⟩) (by simp)); (have ho3 := own_spoil (j := 1) (u := .string ⟨p2.toArray⟩) (own_grown ho1 hg9 lb1) la1); clear hR9 hg9 h8)
)
  generalize (w9.setCell ⟨w2.heap.size + 1, 1, none⟩ (.string ⟨p2.toArray⟩)) = W at *
  obtain ⟨o9, r0, r1, d0, d1, d2, d3, d4, d5, d6, d7, e0, e1, e2, e3, e4, e5, e6, e7, fz, n0, n1, n2, n3⟩ := h10.all
  go_region
  all_goals go_wp2
  all_goals
    obtain ⟨b16, e0, e1, e2, e3, e4, e5, e6, e7⟩ := fin8 h10.res rfl h10.bel h10.lR (.int .i64 1) (.string ⟨p2.toArray⟩) (.slice a1 p1.length c1) (.int .u64 0) (.int .i64 0) (.int .i64 0) (.int .i64 0) (.slice none 0 0) rfl
    try simp only [Exit.inBlock, Exit.then]
    refine bodyPost_ret (by simp [results, Tryz.results25, go_sem, e0, e1, e2, e3, e4, e5, e6, e7]; try rfl) rfl ?_
    unfold LineOut
    rw [hline]
    refine ⟨_, _, _, _, _, _, _, _, _, _, _, _, rfl, b16.drew, fun A hA => ?_⟩
    cases hA
    exact ⟨rfl, rfl, rfl, rfl, rfl, rfl, rfl, rfl, ((own_drew (own_set8 ho3 lR1 _ _ _ _ _ _ _ _)).mono h6w), OwnS.nil _ _ _, .inr rfl⟩
theorem line_request_more (s : ByteArray) (k : ByteArray) (x y z : ByteArray) (t : List ByteArray) (p1 : List UInt8) (hz1 : wordOf x.data.toList = some p1) (p2 : List UInt8) (hz2 : wordOf y.data.toList = some p2) (hp : piecesB 32 s = k :: (x :: y :: z :: t)) (hk : k.data.toList = [114, 101, 113, 117, 101, 115, 116]) (hs : s.size ≤ 2000000) (hrl : ((x :: y :: z :: t) : List ByteArray).length ≤ 100000000) (hrx : ∀ q9 ∈ ((x :: y :: z :: t) : List ByteArray), q9.size ≤ 2000000) (w : World) (hW : Well w) :
    Calls Tryz.prog 25 #[.string s] w (LineOut w s.data.toList) := by
  have hline : ofLine s.data.toList = none := by
    rw [of_line hp, hk, act_request]
    rfl
  have t0 := ts_request hk
  have hS := split_st hp hs hrl hW
  have hlt0 : ((t.length : Int) + 1 == 0) = false := by rw [beq_eq_false_iff_ne]; omega
  have hlt1 : ¬ (t.length : Int) + 1 = 0 := by omega
  clear hk
  go_enter Tryz.func25, Tryz.ntmps25
  go_wp2_with (first
    | (go_at_call 23; refine hS.mono ?_; clear hS; rintro e w2 ⟨rfl, hwd⟩)
    | (go_at_call 48; refine hwd.mono ?_; clear hwd; rintro e w5 ⟨rfl, h5⟩; (have c50 := h5.act.at 0 rfl); (have f50 := h5.act.2.2 0); (have h6 := h5.set 0 (.int .i64 1) (by simp)); (have hE6 := hW.env h6.bel _ h6.lb))
    | (go_at_call 49; refine (bytes_good _ _ x _ p1 _ _ h6.rd (by simp only [List.length_cons] at hrl ⊢; omega) (hrx x (by simp)) hz1).mono ?_; rintro e w7 ⟨a1, c1, rfl, ho1, hp1, hg7, hR7⟩; (have h7 := h6.grown hg7 hR7); (have c7 := h7.act.at 2 rfl); (have f7 := h7.act.2.2 2); (have h8 := h7.set 2 (.slice a1 p1.length c1) (by simp)); (have la1 := lt_set ⟨w2.heap.size + 1, 0, none⟩ (.int .i64 1) h5.act.1); (have lb1 := lt_set ⟨w2.heap.size + 1, 0, none⟩ (.int .i64 1) h5.rd.lt.1); (have lR1 := lt_set ⟨w2.heap.size + 1, 0, none⟩ (.int .i64 1) h5.res.1); (have h6w : w.heap.size ≤ (w5.setCell ⟨w2.heap.size + 1, 0, none⟩ (.int .i64 1)).heap.size := h6.bel.size); (have ho1 := own_spoil (j := 2) (u := .slice a1 p1.length c1) ho1 la1); clear hR7 hg7 h6 hE6)
    | (go_at_call 49; refine (bytes_good _ _ y _ p2 _ _ h8.rd (by simp only [List.length_cons] at hrl ⊢; omega) (hrx y (by simp)) hz2).mono ?_; rintro e w9 ⟨a2, c2, rfl, ho2, hp2, hg9, hR9⟩; (have h9 := h8.grown hg9 hR9); (have c9 := h9.act.at 1 rfl); (have f9 := h9.act.2.2 1); (have hcv := text_of ho2.is); (have h10 := h9.set 1 (.string ⟨p2.toArray⟩) (by simp)); (have ho3 := own_spoil (j := 1) (u := .string ⟨p2.toArray⟩) (own_grown ho1 hg9 lb1) la1); clear hR9 hg9 h8)
)
  generalize (w9.setCell ⟨w2.heap.size + 1, 1, none⟩ (.string ⟨p2.toArray⟩)) = W at *
  obtain ⟨o9, r0, r1, d0, d1, d2, d3, d4, d5, d6, d7, e0, e1, e2, e3, e4, e5, e6, e7, fz, n0, n1, n2, n3⟩ := h10.all
  go_region
  all_goals go_wp2
  all_goals
    obtain ⟨b16, e0, e1, e2, e3, e4, e5, e6, e7⟩ := fin8 h10.res rfl h10.bel h10.lR (.int .i64 1) (.string ⟨p2.toArray⟩) (.slice a1 p1.length c1) (.int .u64 0) (.int .i64 0) (.int .i64 0) (.int .i64 0) (.slice none 0 0) rfl
    try simp only [Exit.inBlock, Exit.then]
    refine bodyPost_ret (by simp [results, Tryz.results25, go_sem, e0, e1, e2, e3, e4, e5, e6, e7]; try rfl) rfl ?_
    unfold LineOut
    rw [hline]
    exact ⟨_, _, _, _, _, _, _, _, _, _, _, _, rfl, b16.drew, fun A hA => by cases hA⟩
end Go.Proofs.YtbfoocginkdmcaaGreatDoor
