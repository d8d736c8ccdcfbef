/-
  copied: an act in memory of its own, nil lists nil.
-/
import Derived.Test.YtbfoocginkdmcaaGreatDoorWA
import Derived.Deep.RegionWith

set_option linter.unusedVariables false
set_option maxRecDepth 100000
namespace Go.Proofs.YtbfoocginkdmcaaGreatDoor
open Go Go.RowKit Go.ArgS

theorem copied_calls (k t o n q : Int) (s : ByteArray) (x y : Value) (ds ts : List Int) (w : World) (hx : IsSl w .u8 x ds) (hy : IsSl w .i64 y ts) (hd : ds.length ≤ reachBytes) (ht : ts.length * 8 ≤ reachBytes) :
    Calls Tryz.prog 30 #[.agg #[.int .i64 k, .string s, x, .int .u64 t, .int .i64 o, .int .i64 n, .int .i64 q, y]] w fun e w' =>
      ∃ x' y', e = .returned (.agg #[.int .i64 k, .string s, x', .int .u64 t, .int .i64 o, .int .i64 n, .int .i64 q, y']) ∧ OwnSl w' w.heap.size .u8 x' ds ∧ OwnSl w' w.heap.size .i64 y' ts ∧ Below w.heap.size w w' := by
  go_enter Tryz.func30, Tryz.ntmps30
  have hx2 : IsSl ((w.alloc (.cells #[.int .i64 k, .string s, x, .int .u64 t, .int .i64 o, .int .i64 n, .int .i64 q, y] 36)).alloc (.cells #[.int .i64 0, .string ⟨#[]⟩, .slice none 0 0, .int .u64 0, .int .i64 0, .int .i64 0, .int .i64 0, .slice none 0 0] 36)) .u8 x ds := (hx.alloc _).alloc _
  have f0 := clone_bytes ds x _ hx2 hd
  clear hx2
  go_wp2_with (first
    | (go_at_call 61
       refine f0.mono ?_
       clear f0
       rintro e w4 ⟨x', rfl, hs4, bel4⟩
       obtain ⟨a1, p1, rfl⟩ := hs4.is.slice
       have B1 := ((Box.new w #[.int .i64 k, .string s, x, .int .u64 t, .int .i64 o, .int .i64 n, .int .i64 q, y] 36).alloc (.cells #[.int .i64 0, .string ⟨#[]⟩, .slice none 0 0, .int .u64 0, .int .i64 0, .int .i64 0, .int .i64 0, .slice none 0 0] 36)).below bel4 (by simp; omega)
       have R1 := (Box.new (w.alloc (.cells #[.int .i64 k, .string s, x, .int .u64 t, .int .i64 o, .int .i64 n, .int .i64 q, y] 36)) #[.int .i64 0, .string ⟨#[]⟩, .slice none 0 0, .int .u64 0, .int .i64 0, .int .i64 0, .int .i64 0, .slice none 0 0] 36).below bel4 (by simp)
       simp only [World.size_alloc] at R1 bel4 hs4
       have b4 := (((Below.refl w.heap.size w).alloc (Nat.le_refl _) (.cells #[.int .i64 k, .string s, x, .int .u64 t, .int .i64 o, .int .i64 n, .int .i64 q, y] 36)).alloc (by simp) (.cells #[.int .i64 0, .string ⟨#[]⟩, .slice none 0 0, .int .u64 0, .int .i64 0, .int .i64 0, .int .i64 0, .slice none 0 0] 36)).trans (bel4.mono (by omega))
       have c2 := B1.at 2 rfl
       have f2 := B1.2.2 2
       have B2 := B1.set 2 (.slice a1 ds.length p1) (by simp)
       simp only [List.set] at B2
       have R2 := R1.set_other ⟨w.heap.size, 2, none⟩ (.slice a1 ds.length p1) (by simp)
       have s2 := hs4.set ⟨w.heap.size, 2, none⟩ (.slice a1 ds.length p1) (by simp; omega)
       have b5 := b4.setCell (p := ⟨w.heap.size, 2, none⟩) (Nat.le_refl _) (.slice a1 ds.length p1)
       have c7 := B2.at 7 rfl
       have g0 := clone_ints ts y _ (hy.below b5) ht
       clear bel4)
    | (go_at_call 62
       refine g0.mono ?_
       clear g0
       rintro e w7 ⟨y', rfl, hs7, bel7⟩
       obtain ⟨a2, p2, rfl⟩ := hs7.is.slice
       have B3 := B2.below bel7 B2.1
       have R3 := R2.below bel7 R2.1
       have b7 := b5.trans (bel7.mono b5.size)
       have c7 := B3.at 7 rfl
       have f7 := B3.2.2 7
       have B8 := B3.set 7 (.slice a2 ts.length p2) (by simp)
       simp only [List.set] at B8
       have R8 := R3.set_other ⟨w.heap.size, 7, none⟩ (.slice a2 ts.length p2) (by simp)
       have d0 := B8.at 0 rfl
       have d1 := B8.at 1 rfl
       have d2 := B8.at 2 rfl
       have d3 := B8.at 3 rfl
       have d4 := B8.at 4 rfl
       have d5 := B8.at 5 rfl
       have d6 := B8.at 6 rfl
       have d7 := B8.at 7 rfl
       have fr := R8.2.2
       have e0 := R8.at 0 rfl
       have e1 := R8.at 1 rfl
       have e2 := R8.at 2 rfl
       have e3 := R8.at 3 rfl
       have e4 := R8.at 4 rfl
       have e5 := R8.at 5 rfl
       have e6 := R8.at 6 rfl
       have e7 := R8.at 7 rfl))
  have hB8 : w.heap.size ≤ w.heap.size + 1 := Nat.le_succ _
  have b8 := b7.setCell (p := ⟨w.heap.size, 7, none⟩) (Nat.le_refl _) (.slice a2 ts.length p2)
  have b16 := (((((((b8.setCell (p := ⟨w.heap.size + 1, 0, none⟩) hB8 (.int .i64 k)).setCell (p := ⟨w.heap.size + 1, 1, none⟩) hB8 (.string s)).setCell (p := ⟨w.heap.size + 1, 2, none⟩) hB8 (.slice a1 ds.length p1)).setCell (p := ⟨w.heap.size + 1, 3, none⟩) hB8 (.int .u64 t)).setCell (p := ⟨w.heap.size + 1, 4, none⟩) hB8 (.int .i64 o)).setCell (p := ⟨w.heap.size + 1, 5, none⟩) hB8 (.int .i64 n)).setCell (p := ⟨w.heap.size + 1, 6, none⟩) hB8 (.int .i64 q)).setCell (p := ⟨w.heap.size + 1, 7, none⟩) hB8 (.slice a2 ts.length p2)
  have R16 := (((((((R8.set 0 (.int .i64 k) (by simp)).set 1 (.string s) (by simp)).set 2 (.slice a1 ds.length p1) (by simp)).set 3 (.int .u64 t) (by simp)).set 4 (.int .i64 o) (by simp)).set 5 (.int .i64 n) (by simp)).set 6 (.int .i64 q) (by simp)).set 7 (.slice a2 ts.length p2) (by simp)
  simp only [List.set] at R16
  have h4 := R1.1
  have h7 : w4.heap.size ≤ w7.heap.size := Nat.le_trans (by simp [World.setCell]) bel7.size
  have u7 := s2.below bel7
  have x16 := ((((((((u7.set ⟨w.heap.size, 7, none⟩ (.slice a2 ts.length p2) (by simp; omega)).set ⟨w.heap.size + 1, 0, none⟩ (.int .i64 k) (by simp)).set ⟨w.heap.size + 1, 1, none⟩ (.string s) (by simp)).set ⟨w.heap.size + 1, 2, none⟩ (.slice a1 ds.length p1) (by simp)).set ⟨w.heap.size + 1, 3, none⟩ (.int .u64 t) (by simp)).set ⟨w.heap.size + 1, 4, none⟩ (.int .i64 o) (by simp)).set ⟨w.heap.size + 1, 5, none⟩ (.int .i64 n) (by simp)).set ⟨w.heap.size + 1, 6, none⟩ (.int .i64 q) (by simp)).set ⟨w.heap.size + 1, 7, none⟩ (.slice a2 ts.length p2) (by simp)
  have hw5 : w.heap.size + 1 < (w4.setCell ⟨w.heap.size, 2, none⟩ (.slice a1 ds.length p1)).heap.size := by simp [World.setCell]; omega
  have y16 := ((((((((hs7.set ⟨w.heap.size, 7, none⟩ (.slice a2 ts.length p2) (by simp only; omega)).set ⟨w.heap.size + 1, 0, none⟩ (.int .i64 k) hw5).set ⟨w.heap.size + 1, 1, none⟩ (.string s) hw5).set ⟨w.heap.size + 1, 2, none⟩ (.slice a1 ds.length p1) hw5).set ⟨w.heap.size + 1, 3, none⟩ (.int .u64 t) hw5).set ⟨w.heap.size + 1, 4, none⟩ (.int .i64 o) hw5).set ⟨w.heap.size + 1, 5, none⟩ (.int .i64 n) hw5).set ⟨w.heap.size + 1, 6, none⟩ (.int .i64 q) hw5).set ⟨w.heap.size + 1, 7, none⟩ (.slice a2 ts.length p2) hw5
  have m1 := b5.size
  clear d0 d1 d2 d3 d4 d5 d6 d7 e0 e1 e2 e3 e4 e5 e6 e7 fr hs7 bel7 u7 s2
  generalize (((((((((w7.setCell ⟨w.heap.size, 7, none⟩ (.slice a2 ts.length p2)).setCell ⟨w.heap.size + 1, 0, none⟩ (.int .i64 k)).setCell ⟨w.heap.size + 1, 1, none⟩ (.string s)).setCell ⟨w.heap.size + 1, 2, none⟩ (.slice a1 ds.length p1)).setCell ⟨w.heap.size + 1, 3, none⟩ (.int .u64 t)).setCell ⟨w.heap.size + 1, 4, none⟩ (.int .i64 o)).setCell ⟨w.heap.size + 1, 5, none⟩ (.int .i64 n)).setCell ⟨w.heap.size + 1, 6, none⟩ (.int .i64 q)).setCell ⟨w.heap.size + 1, 7, none⟩ (.slice a2 ts.length p2)) = W at *
  have e0 := R16.at 0 rfl
  have e1 := R16.at 1 rfl
  have e2 := R16.at 2 rfl
  have e3 := R16.at 3 rfl
  have e4 := R16.at 4 rfl
  have e5 := R16.at 5 rfl
  have e6 := R16.at 6 rfl
  have e7 := R16.at 7 rfl
  try simp only [Exit.inBlock, Exit.then]
  refine bodyPost_ret (by simp [results, Tryz.results30, go_sem, e0, e1, e2, e3, e4, e5, e6, e7]; try rfl) rfl ?_
  exact ⟨_, _, rfl, x16.mono (by omega), y16.mono m1, b16⟩
end Go.Proofs.YtbfoocginkdmcaaGreatDoor

/-
  alike: two acts that say the same.
-/

set_option linter.unusedVariables false
set_option maxRecDepth 100000
set_option maxHeartbeats 1000000
namespace Go.Proofs.YtbfoocginkdmcaaGreatDoor
open Go Go.RowKit Go.ArgS

theorem alike_calls (k t o n q : Int) (s : ByteArray) (x y x' y' : Value) (ds ts : List Int) (w : World) (hx : IsSl w .u8 x ds) (hy : IsSl w .i64 y ts) (hx' : IsSl w .u8 x' ds) (hy' : IsSl w .i64 y' ts) (ht : ts.length * 8 ≤ reachBytes) :
    Calls Tryz.prog 10 #[.agg #[.int .i64 k, .string s, x, .int .u64 t, .int .i64 o, .int .i64 n, .int .i64 q, y], .agg #[.int .i64 k, .string s, x', .int .u64 t, .int .i64 o, .int .i64 n, .int .i64 q, y']] w fun e w' =>
      e = .returned (.bool true) ∧ Below w.heap.size w w' := by
  obtain ⟨W, hW⟩ : ∃ W, W = (w.alloc (.cells #[.int .i64 k, .string s, x, .int .u64 t, .int .i64 o, .int .i64 n, .int .i64 q, y] 36)).alloc (.cells #[.int .i64 k, .string s, x', .int .u64 t, .int .i64 o, .int .i64 n, .int .i64 q, y'] 36) := ⟨_, rfl⟩
  have t1 : (convert 30 9 x).run Tryz.prog W = .ok (.string (strOfNums ds)) W := IsSl.text Tryz.underlying30 Tryz.underlying5 Tryz.underlying9 (by rw [hW]; exact (hx.alloc _).alloc _)
  have t2 : (convert 30 9 x').run Tryz.prog W = .ok (.string (strOfNums ds)) W := IsSl.text Tryz.underlying30 Tryz.underlying5 Tryz.underlying9 (by rw [hW]; exact (hx'.alloc _).alloc _)
  have hyW : IsSl W .i64 y ts := by rw [hW]; exact (hy.alloc _).alloc _
  have hyW' : IsSl W .i64 y' ts := by rw [hW]; exact (hy'.alloc _).alloc _
  have bel : Below w.heap.size w W := by rw [hW]; exact ((Below.refl _ _).alloc (Nat.le_refl _) _).alloc (by simp) _
  obtain ⟨ay, cy, ey⟩ := hy.slice
  obtain ⟨ay', cy', ey'⟩ := hy'.slice
  clear hx hy hx' hy'
  subst ey ey'
  have hlen : (ts.length : Int) ≤ 9223372036854775807 := by simp only [reachBytes] at ht; omega
  subst hW
  go_enter Tryz.func10, Tryz.ntmps10
  go_wp2
  have B1 := (Box.new w #[.int .i64 k, .string s, x, .int .u64 t, .int .i64 o, .int .i64 n, .int .i64 q, .slice ay ts.length cy] 36).alloc (.cells #[.int .i64 k, .string s, x', .int .u64 t, .int .i64 o, .int .i64 n, .int .i64 q, .slice ay' ts.length cy'] 36)
  have B2 := Box.new (w.alloc (.cells #[.int .i64 k, .string s, x, .int .u64 t, .int .i64 o, .int .i64 n, .int .i64 q, .slice ay ts.length cy] 36)) #[.int .i64 k, .string s, x', .int .u64 t, .int .i64 o, .int .i64 n, .int .i64 q, .slice ay' ts.length cy'] 36
  simp only [World.size_alloc] at B2
  go_loopw [5] (fun i wr => ∃ j : Nat, j ≤ ts.length ∧ i = .int .i64 j ∧ Box wr w.heap.size [.int .i64 k, .string s, x, .int .u64 t, .int .i64 o, .int .i64 n, .int .i64 q, .slice ay ts.length cy] ∧ Box wr (w.heap.size + 1) [.int .i64 k, .string s, x', .int .u64 t, .int .i64 o, .int .i64 n, .int .i64 q, .slice ay' ts.length cy'] ∧ Below w.heap.size w wr ∧ IsSl wr .i64 (.slice ay ts.length cy) ts ∧ IsSl wr .i64 (.slice ay' ts.length cy') ts) (fun i _ => ts.length - (intOf i).toNat)
  case atStart => exact ⟨0, Nat.zero_le _, rfl, B1, B2, bel, hyW, hyW'⟩
  case round =>
    clear hyW hyW' B1 B2 t1 t2 bel
    obtain ⟨j, hj, rfl, B1, B2, bel, hyW, hyW'⟩ := hrel
    have c7 := B1.at 7 rfl
    have d7 := B2.at 7 rfl
    by_cases hlt : j < ts.length
    · have hlt' : (j : Int) < (ts.length : Int) := by omega
      have hyV := hyW
      have hyV' := hyW'
      rcases hyW with ⟨h1, h2⟩ | ⟨a, cap, ea, hc⟩
      · rw [h2] at hlt
        cases hlt
      rcases hyW' with ⟨h1, h2⟩ | ⟨a', cap', ea', hc'⟩
      · rw [h2] at hlt
        cases hlt
      have hcj := hc j ts[j] (List.getElem?_eq_getElem hlt)
      have hcj' := hc' j ts[j] (List.getElem?_eq_getElem hlt)
      cases ea
      cases ea'
      clear hc hc'
      go_wp2_with fail
      go_region
      go_wp2
      refine ⟨⟨j + 1, hlt, ?_, B1, B2, bel.drew, hyV, hyV'⟩, ?_⟩
      · first | rfl | trivial | simp
      · simp [intOf]; omega
    · have hlt' : ¬ (j : Int) < (ts.length : Int) := by omega
      go_wp2
      go_ret
      exact ⟨rfl, bel⟩
end Go.Proofs.YtbfoocginkdmcaaGreatDoor

/-
  What the server's methods answer without a server.
-/

set_option linter.unusedVariables false
set_option maxRecDepth 100000
set_option maxHeartbeats 1000000
namespace Go.Proofs.YtbfoocginkdmcaaGreatDoor
open Go Go.RowKit Go.ArgS

theorem c9 (n : Int) (w : World) : Calls Tryz.prog 9 #[.int .i64 n] w fun e w' => e = .returned (.int .i64 n) ∧ Below w.heap.size w w' := by
  go_enter Tryz.func9, Tryz.ntmps9
  go_wp2
  first | go_ret2 | go_ret
  first | exact ⟨rfl, Below.refl _ _⟩ | exact ⟨rfl, (Below.refl _ _).alloc (Nat.le_refl _) _⟩
theorem c17 (w : World) : Calls Tryz.prog 17 #[.pointer none] w fun e w' => e = .returned (.bool false) ∧ Below w.heap.size w w' := by
  go_enter Tryz.func17, Tryz.ntmps17
  go_wp2
  first | go_ret2 | go_ret
  first | exact ⟨rfl, Below.refl _ _⟩ | exact ⟨rfl, (Below.refl _ _).alloc (Nat.le_refl _) _⟩
theorem c15 (w : World) : Calls Tryz.prog 15 #[.pointer none] w fun e w' => e = .returned (.int .u64 0) ∧ Below w.heap.size w w' := by
  go_enter Tryz.func15, Tryz.ntmps15
  go_wp2
  first | go_ret2 | go_ret
  first | exact ⟨rfl, Below.refl _ _⟩ | exact ⟨rfl, (Below.refl _ _).alloc (Nat.le_refl _) _⟩
theorem c16 (w : World) : Calls Tryz.prog 16 #[.pointer none] w fun e w' => e = .returned (.slice none 0 0) ∧ Below w.heap.size w w' := by
  go_enter Tryz.func16, Tryz.ntmps16
  go_wp2
  first | go_ret2 | go_ret
  first | exact ⟨rfl, Below.refl _ _⟩ | exact ⟨rfl, (Below.refl _ _).alloc (Nat.le_refl _) _⟩

theorem do_calls (k t o n q : Int) (s : ByteArray) (x y : Value) (ds ts : List Int) (w : World) (hx : IsSl w .u8 x ds) (hy : IsSl w .i64 y ts) (hd : ds.length ≤ reachBytes) (ht : ts.length * 8 ≤ reachBytes) :
    Calls Tryz.prog 13 #[.pointer none, .agg #[.int .i64 k, .string s, x, .int .u64 t, .int .i64 o, .int .i64 n, .int .i64 q, y]] w fun e w' =>
      ∃ x' y', e = .returned (.agg #[.int .i64 k, .string s, x', .int .u64 t, .int .i64 o, .int .i64 n, .int .i64 q, y', .bool false, .string ⟨#[]⟩, .int .i64 0]) ∧ OwnSl w' w.heap.size .u8 x' ds ∧ OwnSl w' w.heap.size .i64 y' ts ∧ Below w.heap.size w w' := by
  obtain ⟨ax, cx, ex⟩ := hx.slice
  obtain ⟨ay, cy, ey⟩ := hy.slice
  subst ex ey
  go_enter Tryz.func13, Tryz.ntmps13
  have hx2 : IsSl ((w.alloc (.cells #[.int .i64 k, .string s, .slice ax ds.length cx, .int .u64 t, .int .i64 o, .int .i64 n, .int .i64 q, .slice ay ts.length cy] 36)).alloc (.cells #[.int .i64 0, .string ⟨#[]⟩, .slice none 0 0, .int .u64 0, .int .i64 0, .int .i64 0, .int .i64 0, .slice none 0 0, .bool false, .string ⟨#[]⟩, .int .i64 0] 42)) .u8 (.slice ax ds.length cx) ds := (hx.alloc _).alloc _
  have hy2 : IsSl ((w.alloc (.cells #[.int .i64 k, .string s, .slice ax ds.length cx, .int .u64 t, .int .i64 o, .int .i64 n, .int .i64 q, .slice ay ts.length cy] 36)).alloc (.cells #[.int .i64 0, .string ⟨#[]⟩, .slice none 0 0, .int .u64 0, .int .i64 0, .int .i64 0, .int .i64 0, .slice none 0 0, .bool false, .string ⟨#[]⟩, .int .i64 0] 42)) .i64 (.slice ay ts.length cy) ts := (hy.alloc _).alloc _
  have f0 := copied_calls k t o n q s _ _ ds ts _ hx2 hy2 hd ht
  clear hx2 hy2
  go_wp2_with (first
    | (go_at_call 30
       refine f0.mono ?_
       clear f0
       rintro e w4 ⟨x', y', rfl, sx, sy, bel4⟩
       obtain ⟨a1, p1, rfl⟩ := sx.is.slice
       obtain ⟨a2, p2, rfl⟩ := sy.is.slice
       have R1 := (Box.new (w.alloc (.cells #[.int .i64 k, .string s, .slice ax ds.length cx, .int .u64 t, .int .i64 o, .int .i64 n, .int .i64 q, .slice ay ts.length cy] 36)) #[.int .i64 0, .string ⟨#[]⟩, .slice none 0 0, .int .u64 0, .int .i64 0, .int .i64 0, .int .i64 0, .slice none 0 0, .bool false, .string ⟨#[]⟩, .int .i64 0] 42).below bel4 (by simp)
       simp only [World.size_alloc] at R1 bel4 sx sy
       have b4 := (((Below.refl w.heap.size w).alloc (Nat.le_refl _) (.cells #[.int .i64 k, .string s, .slice ax ds.length cx, .int .u64 t, .int .i64 o, .int .i64 n, .int .i64 q, .slice ay ts.length cy] 36)).alloc (by simp) (.cells #[.int .i64 0, .string ⟨#[]⟩, .slice none 0 0, .int .u64 0, .int .i64 0, .int .i64 0, .int .i64 0, .slice none 0 0, .bool false, .string ⟨#[]⟩, .int .i64 0] 42)).trans (bel4.mono (by omega))
       have hsz := bel4.size
       simp only [World.size_alloc] at hsz
       clear bel4)
    | (with_reducible refine (?_ : wpList _ _ _ (Oper.mk _ (Op.load 42 (Operand.tmp 5)) _ _ _ _ :: _) _ _); generalize hX : wpList _ _ _ _ _ _ = X))
  all_goals (rw [← hX]; clear hX X)
  have V5 : Box (w4.alloc (.cells #[.int .i64 k, .string s, .slice a1 ds.length p1, .int .u64 t, .int .i64 o, .int .i64 n, .int .i64 q, .slice a2 ts.length p2, .bool false, .string ⟨#[]⟩, .int .i64 0] 42)) w4.heap.size [.int .i64 k, .string s, .slice a1 ds.length p1, .int .u64 t, .int .i64 o, .int .i64 n, .int .i64 q, .slice a2 ts.length p2, .bool false, .string ⟨#[]⟩, .int .i64 0] := Box.new w4 #[.int .i64 k, .string s, .slice a1 ds.length p1, .int .u64 t, .int .i64 o, .int .i64 n, .int .i64 q, .slice a2 ts.length p2, .bool false, .string ⟨#[]⟩, .int .i64 0] 42
  have R5 := R1.alloc (.cells #[.int .i64 k, .string s, .slice a1 ds.length p1, .int .u64 t, .int .i64 o, .int .i64 n, .int .i64 q, .slice a2 ts.length p2, .bool false, .string ⟨#[]⟩, .int .i64 0] 42)
  have b5 := b4.alloc b4.size (.cells #[.int .i64 k, .string s, .slice a1 ds.length p1, .int .u64 t, .int .i64 o, .int .i64 n, .int .i64 q, .slice a2 ts.length p2, .bool false, .string ⟨#[]⟩, .int .i64 0] 42)
  have sx5 := sx.alloc (.cells #[.int .i64 k, .string s, .slice a1 ds.length p1, .int .u64 t, .int .i64 o, .int .i64 n, .int .i64 q, .slice a2 ts.length p2, .bool false, .string ⟨#[]⟩, .int .i64 0] 42)
  have sy5 := sy.alloc (.cells #[.int .i64 k, .string s, .slice a1 ds.length p1, .int .u64 t, .int .i64 o, .int .i64 n, .int .i64 q, .slice a2 ts.length p2, .bool false, .string ⟨#[]⟩, .int .i64 0] 42)
  have z5 := R5.1
  have z4 := b4.size
  clear sx sy R1 hsz b4
  generalize w4.alloc (.cells #[.int .i64 k, .string s, .slice a1 ds.length p1, .int .u64 t, .int .i64 o, .int .i64 n, .int .i64 q, .slice a2 ts.length p2, .bool false, .string ⟨#[]⟩, .int .i64 0] 42) = W5 at *
  have fr := R5.2.2
  have e0 := R5.at 0 rfl
  have e1 := R5.at 1 rfl
  have e2 := R5.at 2 rfl
  have e3 := R5.at 3 rfl
  have e4 := R5.at 4 rfl
  have e5 := R5.at 5 rfl
  have e6 := R5.at 6 rfl
  have e7 := R5.at 7 rfl
  have e8 := R5.at 8 rfl
  have e9 := R5.at 9 rfl
  have e10 := R5.at 10 rfl
  have d0 := V5.at 0 rfl
  have d1 := V5.at 1 rfl
  have d2 := V5.at 2 rfl
  have d3 := V5.at 3 rfl
  have d4 := V5.at 4 rfl
  have d5 := V5.at 5 rfl
  have d6 := V5.at 6 rfl
  have d7 := V5.at 7 rfl
  have d8 := V5.at 8 rfl
  have d9 := V5.at 9 rfl
  have d10 := V5.at 10 rfl
  go_wp2
  have R16 := (((((((((((R5).set 0 (.int .i64 k) (by simp)).set 1 (.string s) (by simp)).set 2 (.slice a1 ds.length p1) (by simp)).set 3 (.int .u64 t) (by simp)).set 4 (.int .i64 o) (by simp)).set 5 (.int .i64 n) (by simp)).set 6 (.int .i64 q) (by simp)).set 7 (.slice a2 ts.length p2) (by simp)).set 8 (.bool false) (by simp)).set 9 (.string ⟨#[]⟩) (by simp)).set 10 (.int .i64 0) (by simp)
  simp only [List.set] at R16
  have b16 := (((((((((((b5).setCell (p := ⟨w.heap.size + 1, 0, none⟩) (Nat.le_succ _) (.int .i64 k)).setCell (p := ⟨w.heap.size + 1, 1, none⟩) (Nat.le_succ _) (.string s)).setCell (p := ⟨w.heap.size + 1, 2, none⟩) (Nat.le_succ _) (.slice a1 ds.length p1)).setCell (p := ⟨w.heap.size + 1, 3, none⟩) (Nat.le_succ _) (.int .u64 t)).setCell (p := ⟨w.heap.size + 1, 4, none⟩) (Nat.le_succ _) (.int .i64 o)).setCell (p := ⟨w.heap.size + 1, 5, none⟩) (Nat.le_succ _) (.int .i64 n)).setCell (p := ⟨w.heap.size + 1, 6, none⟩) (Nat.le_succ _) (.int .i64 q)).setCell (p := ⟨w.heap.size + 1, 7, none⟩) (Nat.le_succ _) (.slice a2 ts.length p2)).setCell (p := ⟨w.heap.size + 1, 8, none⟩) (Nat.le_succ _) (.bool false)).setCell (p := ⟨w.heap.size + 1, 9, none⟩) (Nat.le_succ _) (.string ⟨#[]⟩)).setCell (p := ⟨w.heap.size + 1, 10, none⟩) (Nat.le_succ _) (.int .i64 0)
  have x16 := (((((((((((sx5).set ⟨w.heap.size + 1, 0, none⟩ (.int .i64 k) (by simp)).set ⟨w.heap.size + 1, 1, none⟩ (.string s) (by simp)).set ⟨w.heap.size + 1, 2, none⟩ (.slice a1 ds.length p1) (by simp)).set ⟨w.heap.size + 1, 3, none⟩ (.int .u64 t) (by simp)).set ⟨w.heap.size + 1, 4, none⟩ (.int .i64 o) (by simp)).set ⟨w.heap.size + 1, 5, none⟩ (.int .i64 n) (by simp)).set ⟨w.heap.size + 1, 6, none⟩ (.int .i64 q) (by simp)).set ⟨w.heap.size + 1, 7, none⟩ (.slice a2 ts.length p2) (by simp)).set ⟨w.heap.size + 1, 8, none⟩ (.bool false) (by simp)).set ⟨w.heap.size + 1, 9, none⟩ (.string ⟨#[]⟩) (by simp)).set ⟨w.heap.size + 1, 10, none⟩ (.int .i64 0) (by simp)
  have y16 := (((((((((((sy5).set ⟨w.heap.size + 1, 0, none⟩ (.int .i64 k) (by simp)).set ⟨w.heap.size + 1, 1, none⟩ (.string s) (by simp)).set ⟨w.heap.size + 1, 2, none⟩ (.slice a1 ds.length p1) (by simp)).set ⟨w.heap.size + 1, 3, none⟩ (.int .u64 t) (by simp)).set ⟨w.heap.size + 1, 4, none⟩ (.int .i64 o) (by simp)).set ⟨w.heap.size + 1, 5, none⟩ (.int .i64 n) (by simp)).set ⟨w.heap.size + 1, 6, none⟩ (.int .i64 q) (by simp)).set ⟨w.heap.size + 1, 7, none⟩ (.slice a2 ts.length p2) (by simp)).set ⟨w.heap.size + 1, 8, none⟩ (.bool false) (by simp)).set ⟨w.heap.size + 1, 9, none⟩ (.string ⟨#[]⟩) (by simp)).set ⟨w.heap.size + 1, 10, none⟩ (.int .i64 0) (by simp)
  clear e0 e1 e2 e3 e4 e5 e6 e7 e8 e9 e10 d0 d1 d2 d3 d4 d5 d6 d7 d8 d9 d10 fr V5 R5 b5 sx5 sy5
  generalize ((((((((((((W5).setCell ⟨w.heap.size + 1, 0, none⟩ (.int .i64 k)).setCell ⟨w.heap.size + 1, 1, none⟩ (.string s)).setCell ⟨w.heap.size + 1, 2, none⟩ (.slice a1 ds.length p1)).setCell ⟨w.heap.size + 1, 3, none⟩ (.int .u64 t)).setCell ⟨w.heap.size + 1, 4, none⟩ (.int .i64 o)).setCell ⟨w.heap.size + 1, 5, none⟩ (.int .i64 n)).setCell ⟨w.heap.size + 1, 6, none⟩ (.int .i64 q)).setCell ⟨w.heap.size + 1, 7, none⟩ (.slice a2 ts.length p2)).setCell ⟨w.heap.size + 1, 8, none⟩ (.bool false)).setCell ⟨w.heap.size + 1, 9, none⟩ (.string ⟨#[]⟩)).setCell ⟨w.heap.size + 1, 10, none⟩ (.int .i64 0)) = W at *
  have e0 := R16.at 0 rfl
  have e1 := R16.at 1 rfl
  have e2 := R16.at 2 rfl
  have e3 := R16.at 3 rfl
  have e4 := R16.at 4 rfl
  have e5 := R16.at 5 rfl
  have e6 := R16.at 6 rfl
  have e7 := R16.at 7 rfl
  have e8 := R16.at 8 rfl
  have e9 := R16.at 9 rfl
  have e10 := R16.at 10 rfl
  try simp only [Exit.inBlock, Exit.then]
  refine bodyPost_ret (by simp [results, Tryz.results13, go_sem, e0, e1, e2, e3, e4, e5, e6, e7, e8, e9, e10]; try rfl) rfl ?_
  exact ⟨_, _, rfl, x16.mono (by omega), y16.mono (by omega), b16⟩
end Go.Proofs.YtbfoocginkdmcaaGreatDoor

/-
  ServerNil's function answers true for every act, and writes nothing that was there, wherever the law's live() does so.
-/

set_option linter.unusedVariables false
set_option maxRecDepth 100000
set_option maxHeartbeats 1000000
namespace Go.Proofs.YtbfoocginkdmcaaGreatDoor
open Go Go.RowKit Go.ArgS

theorem nil_walk (k t o n q : Int) (s : ByteArray) (x y : Value) (ds ts : List Int) (w : World) (hx : IsSl w .u8 x ds) (hy : IsSl w .i64 y ts) (hd : ds.length ≤ reachBytes) (ht : ts.length * 8 ≤ reachBytes)
    (c12 : ∀ W', Below w.heap.size w W' → Calls Tryz.prog 12 #[] W' fun e w'' => e = .returned (.bool true) ∧ Below W'.heap.size W' w'') :
    Calls Tryz.prog 4 #[.agg #[.int .i64 k, .string s, x, .int .u64 t, .int .i64 o, .int .i64 n, .int .i64 q, y]] w fun e w' => e = .returned (.bool true) ∧ Below w.heap.size w w' := by
  obtain ⟨ax, cx, ex⟩ := hx.slice
  obtain ⟨ay, cy, ey⟩ := hy.slice
  subst ex ey
  have f14 := act_calls k t o n q s _ _ ds ts _ (hx.alloc (.cells #[.int .i64 k, .string s, .slice ax ds.length cx, .int .u64 t, .int .i64 o, .int .i64 n, .int .i64 q, .slice ay ts.length cy] 36)) (hy.alloc (.cells #[.int .i64 k, .string s, .slice ax ds.length cx, .int .u64 t, .int .i64 o, .int .i64 n, .int .i64 q, .slice ay ts.length cy] 36)) hd ht
  go_enter Tryz.func4, Tryz.ntmps4
  go_wp2_with (first
    | (go_at_call 14
       refine f14.mono ?_
       clear f14
       rintro e w1 ⟨x1, y1, rfl, sx1, sy1, bel1⟩
       obtain ⟨a1, p1, rfl⟩ := sx1.is.slice
       obtain ⟨a2, p2, rfl⟩ := sy1.is.slice
       have B1 := (Box.new w #[.int .i64 k, .string s, .slice ax ds.length cx, .int .u64 t, .int .i64 o, .int .i64 n, .int .i64 q, .slice ay ts.length cy] 36).below bel1 (by simp)
       have b1 := ((Below.refl w.heap.size w).alloc (Nat.le_refl _) (.cells #[.int .i64 k, .string s, .slice ax ds.length cx, .int .u64 t, .int .i64 o, .int .i64 n, .int .i64 q, .slice ay ts.length cy] 36)).trans (bel1.mono (by simp))
       have f13 := do_calls k t o n q s _ _ ds ts w1 sx1.is sy1.is hd ht
       clear bel1)
    | (go_at_call 13
       refine f13.mono ?_
       clear f13
       rintro e w2 ⟨x2, y2, rfl, sx2, sy2, bel2⟩
       obtain ⟨a3, p3, rfl⟩ := sx2.is.slice
       obtain ⟨a4, p4, rfl⟩ := sy2.is.slice)
    | (with_reducible refine (?_ : wpList _ _ _ (Oper.mk (some 9) (Op.fieldAddr 42 (Operand.tmp 4) 0) _ _ _ _ :: _) _ _); generalize hX : wpList _ _ _ _ _ _ = X))
  all_goals (rw [← hX]; clear hX X)
  have TW := Box.new w2 #[.int .i64 k, .string s, .slice a3 ds.length p3, .int .u64 t, .int .i64 o, .int .i64 n, .int .i64 q, .slice a4 ts.length p4, .bool false, .string ⟨#[]⟩, .int .i64 0] 42
  have BW := (B1.below bel2 B1.1).alloc (.cells #[.int .i64 k, .string s, .slice a3 ds.length p3, .int .u64 t, .int .i64 o, .int .i64 n, .int .i64 q, .slice a4 ts.length p4, .bool false, .string ⟨#[]⟩, .int .i64 0] 42)
  have bw2 := b1.trans (bel2.mono b1.size)
  have bW := bw2.alloc bw2.size (.cells #[.int .i64 k, .string s, .slice a3 ds.length p3, .int .u64 t, .int .i64 o, .int .i64 n, .int .i64 q, .slice a4 ts.length p4, .bool false, .string ⟨#[]⟩, .int .i64 0] 42)
  have sx := (sx2.alloc (.cells #[.int .i64 k, .string s, .slice a3 ds.length p3, .int .u64 t, .int .i64 o, .int .i64 n, .int .i64 q, .slice a4 ts.length p4, .bool false, .string ⟨#[]⟩, .int .i64 0] 42)).is
  have sy := (sy2.alloc (.cells #[.int .i64 k, .string s, .slice a3 ds.length p3, .int .u64 t, .int .i64 o, .int .i64 n, .int .i64 q, .slice a4 ts.length p4, .bool false, .string ⟨#[]⟩, .int .i64 0] 42)).is
  have hxW := hx.below bW
  have hyW := hy.below bW
  have zT := TW.1
  clear B1 b1 sx1 sy1 sx2 sy2 bel2 bw2 hx hy
  generalize w2.alloc (.cells #[.int .i64 k, .string s, .slice a3 ds.length p3, .int .u64 t, .int .i64 o, .int .i64 n, .int .i64 q, .slice a4 ts.length p4, .bool false, .string ⟨#[]⟩, .int .i64 0] 42) = W at *
  have f10 := alike_calls k t o n q s _ _ _ _ ds ts W sx sy hxW hyW ht
  have e0 := BW.at 0 rfl
  have e1 := BW.at 1 rfl
  have e2 := BW.at 2 rfl
  have e3 := BW.at 3 rfl
  have e4 := BW.at 4 rfl
  have e5 := BW.at 5 rfl
  have e6 := BW.at 6 rfl
  have e7 := BW.at 7 rfl
  have d0 := TW.at 0 rfl
  have d1 := TW.at 1 rfl
  have d2 := TW.at 2 rfl
  have d3 := TW.at 3 rfl
  have d4 := TW.at 4 rfl
  have d5 := TW.at 5 rfl
  have d6 := TW.at 6 rfl
  have d7 := TW.at 7 rfl
  go_wp2_with (first
    | (go_at_call 10
       refine f10.mono ?_
       clear f10
       rintro e w3 ⟨rfl, bel3⟩
       have b3 := bW.trans (bel3.mono bW.size)
       have T3 := TW.below bel3 zT
       have t8 := T3.at 8 rfl
       have t9 := T3.at 9 rfl
       have t10 := T3.at 10 rfl
       clear bel3 bW TW T3)
    | (go_at_call 9; refine (c9 _ _).mono ?_; rintro e w9 ⟨rfl, bel9⟩; have b9 := b3.trans (bel9.mono b3.size); clear bel9 b3)
    | (go_at_call 15; refine (c15 _).mono ?_; rintro e w15 ⟨rfl, bel15⟩; have b15 := b9.trans (bel15.mono b9.size); clear bel15 b9)
    | (go_at_call 16; refine (c16 _).mono ?_; rintro e w16 ⟨rfl, bel16⟩; have b16 := b15.trans (bel16.mono b15.size); clear bel16 b15)
    | (go_at_call 17; refine (c17 _).mono ?_; rintro e w17 ⟨rfl, bel17⟩; have b17 := b16.trans (bel17.mono b16.size); clear bel17 b16)
    | (go_at_call 12; refine (c12 _ b17).mono ?_; rintro e w12 ⟨rfl, bel12⟩; have b12 := b17.trans (bel12.mono b17.size); clear bel12 b17))
  go_ret
  exact ⟨rfl, b12⟩
end Go.Proofs.YtbfoocginkdmcaaGreatDoor
