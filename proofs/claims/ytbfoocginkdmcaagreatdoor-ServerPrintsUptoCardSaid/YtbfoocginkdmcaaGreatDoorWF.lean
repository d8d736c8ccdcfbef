/-
  The reference's line: numbers, and none.
-/
import Derived.Test.YtbfoocginkdmcaaGreatDoorWE
import Derived.Deep.RegionHeld3
import Derived.Lib.AppendStr

set_option linter.unusedVariables false
set_option maxRecDepth 100000
set_option maxHeartbeats 4000000
namespace Go.Proofs.YtbfoocginkdmcaaGreatDoor
open Go Go.RowKit Go.Basic Go.ArgS Go.Scr Go.Lib

theorem refLine6_calls (t o n q : Int) (s : ByteArray) (ax ay : Option Addr) (lx cx ly cy : Nat) (w : World) :
    Calls Tryz.prog 41 #[.agg #[.int .i64 6, .string s, .slice ax lx cx, .int .u64 t, .int .i64 o, .int .i64 n, .int .i64 q, .slice ay ly cy]] w fun e w' => ∃ (S : ByteArray) (b : Bool), e = .returned (.tuple #[.string S, .bool b]) ∧ (b = true ↔ (s.toList = [] ∧ t = 0 ∧ o = 0 ∧ n = 0 ∧ q = 0 ∧ (ly : Int) = 0 ∧ (lx : Int) = 0)) ∧ S.data.toList = [99, 111, 109, 112, 97, 99, 116] ∧ Below w.heap.size w w' := by
  go_enter Tryz.func41, Tryz.ntmps41
  go_wp2
  all_goals go_ret2
  all_goals refine ⟨_, _, rfl, ?_, rfl, by go_grown⟩
  all_goals simp_all

theorem refLine0_calls (k t o n q : Int) (h1 : k ≠ 1) (h2 : k ≠ 2) (h3 : k ≠ 3) (h4 : k ≠ 4) (h5 : k ≠ 5) (h6 : k ≠ 6) (s : ByteArray) (ax ay : Option Addr) (lx cx ly cy : Nat) (w : World) :
    Calls Tryz.prog 41 #[.agg #[.int .i64 k, .string s, .slice ax lx cx, .int .u64 t, .int .i64 o, .int .i64 n, .int .i64 q, .slice ay ly cy]] w fun e w' => ∃ (S : ByteArray) (b : Bool), e = .returned (.tuple #[.string S, .bool b]) ∧ (b = true ↔ (False)) ∧ S.data.toList = [] ∧ Below w.heap.size w w' := by
  go_enter Tryz.func41, Tryz.ntmps41
  go_wp2
  all_goals go_ret2
  all_goals refine ⟨_, _, rfl, ?_, rfl, by go_grown⟩
  all_goals simp_all

theorem refLine2_calls (u : Nat) (hu : u < 18446744073709551616) (o n q : Int) (s : ByteArray) (ax ay : Option Addr) (lx cx ly cy : Nat) (w : World) :
    Calls Tryz.prog 41 #[.agg #[.int .i64 2, .string s, .slice ax lx cx, .int .u64 (u : Int), .int .i64 o, .int .i64 n, .int .i64 q, .slice ay ly cy]] w fun e w' => ∃ (S : ByteArray) (b : Bool), e = .returned (.tuple #[.string S, .bool b]) ∧ (b = true ↔ (s.toList = [] ∧ o = 0 ∧ n = 0 ∧ q = 0 ∧ (ly : Int) = 0 ∧ (lx : Int) = 0)) ∧ S.data.toList = [116, 105, 99, 107, 32] ++ decDigits u ∧ Below w.heap.size w w' := by
  have hnil : ((⟨#[]⟩ : ByteArray).toList) = [] := by rw [ByteArray.toList_eq]
  have BA : Box ((w.alloc (.cells #[.int .i64 2, .string s, .slice none 0 0, .int .u64 (u : Int), .int .i64 o, .int .i64 n, .int .i64 q, .slice none 0 0] 36)).alloc (.cells #[.int .i64 2, .string ⟨#[]⟩, .slice none 0 0, .int .u64 (u : Int), .int .i64 0, .int .i64 0, .int .i64 0, .slice none 0 0] 36)) w.heap.size [.int .i64 2, .string s, .slice none 0 0, .int .u64 (u : Int), .int .i64 o, .int .i64 n, .int .i64 q, .slice none 0 0] := (Box.new w #[.int .i64 2, .string s, .slice none 0 0, .int .u64 (u : Int), .int .i64 o, .int .i64 n, .int .i64 q, .slice none 0 0] 36).alloc _
  have BT : Box ((w.alloc (.cells #[.int .i64 2, .string s, .slice none 0 0, .int .u64 (u : Int), .int .i64 o, .int .i64 n, .int .i64 q, .slice none 0 0] 36)).alloc (.cells #[.int .i64 2, .string ⟨#[]⟩, .slice none 0 0, .int .u64 (u : Int), .int .i64 0, .int .i64 0, .int .i64 0, .slice none 0 0] 36)) (w.heap.size + 1) [.int .i64 2, .string ⟨#[]⟩, .slice none 0 0, .int .u64 (u : Int), .int .i64 0, .int .i64 0, .int .i64 0, .slice none 0 0] := by
    have h := Box.new (w.alloc (.cells #[.int .i64 2, .string s, .slice none 0 0, .int .u64 (u : Int), .int .i64 o, .int .i64 n, .int .i64 q, .slice none 0 0] 36)) #[.int .i64 2, .string ⟨#[]⟩, .slice none 0 0, .int .u64 (u : Int), .int .i64 0, .int .i64 0, .int .i64 0, .slice none 0 0] 36
    simp only [World.size_alloc] at h
    exact h
  have b0 : Below w.heap.size w ((w.alloc (.cells #[.int .i64 2, .string s, .slice none 0 0, .int .u64 (u : Int), .int .i64 o, .int .i64 n, .int .i64 q, .slice none 0 0] 36)).alloc (.cells #[.int .i64 2, .string ⟨#[]⟩, .slice none 0 0, .int .u64 (u : Int), .int .i64 0, .int .i64 0, .int .i64 0, .slice none 0 0] 36)) := ((Below.refl _ _).alloc (Nat.le_refl _) _).alloc (by simp) _
  have hcall := decimal_calls u hu u rfl ((w.alloc (.cells #[.int .i64 2, .string s, .slice none 0 0, .int .u64 (u : Int), .int .i64 o, .int .i64 n, .int .i64 q, .slice none 0 0] 36)).alloc (.cells #[.int .i64 2, .string ⟨#[]⟩, .slice none 0 0, .int .u64 (u : Int), .int .i64 0, .int .i64 0, .int .i64 0, .slice none 0 0] 36))
  have BAw : ∀ w1 : World, Below ((w.alloc (.cells #[.int .i64 2, .string s, .slice none 0 0, .int .u64 (u : Int), .int .i64 o, .int .i64 n, .int .i64 q, .slice none 0 0] 36)).alloc (.cells #[.int .i64 2, .string ⟨#[]⟩, .slice none 0 0, .int .u64 (u : Int), .int .i64 0, .int .i64 0, .int .i64 0, .slice none 0 0] 36)).heap.size ((w.alloc (.cells #[.int .i64 2, .string s, .slice none 0 0, .int .u64 (u : Int), .int .i64 o, .int .i64 n, .int .i64 q, .slice none 0 0] 36)).alloc (.cells #[.int .i64 2, .string ⟨#[]⟩, .slice none 0 0, .int .u64 (u : Int), .int .i64 0, .int .i64 0, .int .i64 0, .slice none 0 0] 36)) w1 → Box w1 w.heap.size [.int .i64 2, .string s, .slice none 0 0, .int .u64 (u : Int), .int .i64 o, .int .i64 n, .int .i64 q, .slice none 0 0] ∧ Box w1 (w.heap.size + 1) [.int .i64 2, .string ⟨#[]⟩, .slice none 0 0, .int .u64 (u : Int), .int .i64 0, .int .i64 0, .int .i64 0, .slice none 0 0] ∧ Below w.heap.size w w1 := fun w1 h => ⟨BA.below h (Box.lt BA), BT.below h (Box.lt BT), b0.trans (h.mono b0.size)⟩
  clear BA BT b0
  go_enter Tryz.func41, Tryz.ntmps41
  go_wp2_with (go_at_call 78; refine hcall.mono ?_; clear hcall; rintro e w1 ⟨S1, rfl, hS1, bel1⟩; (obtain ⟨X1, X2, X3⟩ := BAw w1 bel1); clear BAw bel1; (have hz1 : S1.size ≤ 21 := by (rw [size_of_list hS1]; rw [decDigits_length]; exact Nat.le_trans (nDigits_le u hu) (by omega))); (have y1 : ¬ 9223372036854775807 < 5 + S1.size := by omega); (have c1 := Box.at X1 1 rfl); (have c3 := Box.at X1 3 rfl); (have c4 := Box.at X1 4 rfl); (have c5 := Box.at X1 5 rfl); (have c6 := Box.at X1 6 rfl); (have d1 := Box.at X2 1 rfl); (have d3 := Box.at X2 3 rfl); (have d4 := Box.at X2 4 rfl); (have d5 := Box.at X2 5 rfl); (have d6 := Box.at X2 6 rfl); clear X1 X2)
  all_goals go_ret2
  all_goals refine ⟨_, _, rfl, ?_, by simp [hS1], X3⟩
  all_goals simp_all

theorem refLine3_calls (t o n q : Int) (s : ByteArray) (ax ay : Option Addr) (lx cx ly cy : Nat) (w : World) (h0 : -9223372036854775808 ≤ o) (h1 : o ≤ 9223372036854775807) :
    Calls Tryz.prog 41 #[.agg #[.int .i64 3, .string s, .slice ax lx cx, .int .u64 t, .int .i64 o, .int .i64 n, .int .i64 q, .slice ay ly cy]] w fun e w' => ∃ (S : ByteArray) (b : Bool), e = .returned (.tuple #[.string S, .bool b]) ∧ (b = true ↔ (s.toList = [] ∧ t = 0 ∧ n = 0 ∧ q = 0 ∧ (ly : Int) = 0 ∧ (lx : Int) = 0)) ∧ S.data.toList = [112, 105, 110, 103, 32] ++ itoa o ∧ Below w.heap.size w w' := by
  have hnil : ((⟨#[]⟩ : ByteArray).toList) = [] := by rw [ByteArray.toList_eq]
  have BA : Box ((w.alloc (.cells #[.int .i64 3, .string s, .slice none 0 0, .int .u64 t, .int .i64 o, .int .i64 n, .int .i64 q, .slice none 0 0] 36)).alloc (.cells #[.int .i64 3, .string ⟨#[]⟩, .slice none 0 0, .int .u64 0, .int .i64 o, .int .i64 0, .int .i64 0, .slice none 0 0] 36)) w.heap.size [.int .i64 3, .string s, .slice none 0 0, .int .u64 t, .int .i64 o, .int .i64 n, .int .i64 q, .slice none 0 0] := (Box.new w #[.int .i64 3, .string s, .slice none 0 0, .int .u64 t, .int .i64 o, .int .i64 n, .int .i64 q, .slice none 0 0] 36).alloc _
  have BT : Box ((w.alloc (.cells #[.int .i64 3, .string s, .slice none 0 0, .int .u64 t, .int .i64 o, .int .i64 n, .int .i64 q, .slice none 0 0] 36)).alloc (.cells #[.int .i64 3, .string ⟨#[]⟩, .slice none 0 0, .int .u64 0, .int .i64 o, .int .i64 0, .int .i64 0, .slice none 0 0] 36)) (w.heap.size + 1) [.int .i64 3, .string ⟨#[]⟩, .slice none 0 0, .int .u64 0, .int .i64 o, .int .i64 0, .int .i64 0, .slice none 0 0] := by
    have h := Box.new (w.alloc (.cells #[.int .i64 3, .string s, .slice none 0 0, .int .u64 t, .int .i64 o, .int .i64 n, .int .i64 q, .slice none 0 0] 36)) #[.int .i64 3, .string ⟨#[]⟩, .slice none 0 0, .int .u64 0, .int .i64 o, .int .i64 0, .int .i64 0, .slice none 0 0] 36
    simp only [World.size_alloc] at h
    exact h
  have b0 : Below w.heap.size w ((w.alloc (.cells #[.int .i64 3, .string s, .slice none 0 0, .int .u64 t, .int .i64 o, .int .i64 n, .int .i64 q, .slice none 0 0] 36)).alloc (.cells #[.int .i64 3, .string ⟨#[]⟩, .slice none 0 0, .int .u64 0, .int .i64 o, .int .i64 0, .int .i64 0, .slice none 0 0] 36)) := ((Below.refl _ _).alloc (Nat.le_refl _) _).alloc (by simp) _
  have hcall := refWhole_calls o h0 h1 ((w.alloc (.cells #[.int .i64 3, .string s, .slice none 0 0, .int .u64 t, .int .i64 o, .int .i64 n, .int .i64 q, .slice none 0 0] 36)).alloc (.cells #[.int .i64 3, .string ⟨#[]⟩, .slice none 0 0, .int .u64 0, .int .i64 o, .int .i64 0, .int .i64 0, .slice none 0 0] 36))
  have BAw : ∀ w1 : World, Below ((w.alloc (.cells #[.int .i64 3, .string s, .slice none 0 0, .int .u64 t, .int .i64 o, .int .i64 n, .int .i64 q, .slice none 0 0] 36)).alloc (.cells #[.int .i64 3, .string ⟨#[]⟩, .slice none 0 0, .int .u64 0, .int .i64 o, .int .i64 0, .int .i64 0, .slice none 0 0] 36)).heap.size ((w.alloc (.cells #[.int .i64 3, .string s, .slice none 0 0, .int .u64 t, .int .i64 o, .int .i64 n, .int .i64 q, .slice none 0 0] 36)).alloc (.cells #[.int .i64 3, .string ⟨#[]⟩, .slice none 0 0, .int .u64 0, .int .i64 o, .int .i64 0, .int .i64 0, .slice none 0 0] 36)) w1 → Box w1 w.heap.size [.int .i64 3, .string s, .slice none 0 0, .int .u64 t, .int .i64 o, .int .i64 n, .int .i64 q, .slice none 0 0] ∧ Box w1 (w.heap.size + 1) [.int .i64 3, .string ⟨#[]⟩, .slice none 0 0, .int .u64 0, .int .i64 o, .int .i64 0, .int .i64 0, .slice none 0 0] ∧ Below w.heap.size w w1 := fun w1 h => ⟨BA.below h (Box.lt BA), BT.below h (Box.lt BT), b0.trans (h.mono b0.size)⟩
  clear BA BT b0
  go_enter Tryz.func41, Tryz.ntmps41
  go_wp2_with (go_at_call 44; refine hcall.mono ?_; clear hcall; rintro e w1 ⟨S1, rfl, hS1, bel1⟩; (obtain ⟨X1, X2, X3⟩ := BAw w1 bel1); clear BAw bel1; (have hz1 : S1.size ≤ 21 := by (rw [size_of_list hS1]; exact itoa_len o h0 h1)); (have y1 : ¬ 9223372036854775807 < 5 + S1.size := by omega); (have c1 := Box.at X1 1 rfl); (have c3 := Box.at X1 3 rfl); (have c4 := Box.at X1 4 rfl); (have c5 := Box.at X1 5 rfl); (have c6 := Box.at X1 6 rfl); (have d1 := Box.at X2 1 rfl); (have d3 := Box.at X2 3 rfl); (have d4 := Box.at X2 4 rfl); (have d5 := Box.at X2 5 rfl); (have d6 := Box.at X2 6 rfl); clear X1 X2)
  all_goals go_ret2
  all_goals refine ⟨_, _, rfl, ?_, by simp [hS1], X3⟩
  all_goals simp_all

theorem refLine4_calls (t o n q : Int) (s : ByteArray) (ax ay : Option Addr) (lx cx ly cy : Nat) (w : World) (h0 : -9223372036854775808 ≤ n) (h1 : n ≤ 9223372036854775807) :
    Calls Tryz.prog 41 #[.agg #[.int .i64 4, .string s, .slice ax lx cx, .int .u64 t, .int .i64 o, .int .i64 n, .int .i64 q, .slice ay ly cy]] w fun e w' => ∃ (S : ByteArray) (b : Bool), e = .returned (.tuple #[.string S, .bool b]) ∧ (b = true ↔ (s.toList = [] ∧ t = 0 ∧ o = 0 ∧ q = 0 ∧ (ly : Int) = 0 ∧ (lx : Int) = 0)) ∧ S.data.toList = [97, 114, 109, 32] ++ itoa n ∧ Below w.heap.size w w' := by
  have hnil : ((⟨#[]⟩ : ByteArray).toList) = [] := by rw [ByteArray.toList_eq]
  have BA : Box ((w.alloc (.cells #[.int .i64 4, .string s, .slice none 0 0, .int .u64 t, .int .i64 o, .int .i64 n, .int .i64 q, .slice none 0 0] 36)).alloc (.cells #[.int .i64 4, .string ⟨#[]⟩, .slice none 0 0, .int .u64 0, .int .i64 0, .int .i64 n, .int .i64 0, .slice none 0 0] 36)) w.heap.size [.int .i64 4, .string s, .slice none 0 0, .int .u64 t, .int .i64 o, .int .i64 n, .int .i64 q, .slice none 0 0] := (Box.new w #[.int .i64 4, .string s, .slice none 0 0, .int .u64 t, .int .i64 o, .int .i64 n, .int .i64 q, .slice none 0 0] 36).alloc _
  have BT : Box ((w.alloc (.cells #[.int .i64 4, .string s, .slice none 0 0, .int .u64 t, .int .i64 o, .int .i64 n, .int .i64 q, .slice none 0 0] 36)).alloc (.cells #[.int .i64 4, .string ⟨#[]⟩, .slice none 0 0, .int .u64 0, .int .i64 0, .int .i64 n, .int .i64 0, .slice none 0 0] 36)) (w.heap.size + 1) [.int .i64 4, .string ⟨#[]⟩, .slice none 0 0, .int .u64 0, .int .i64 0, .int .i64 n, .int .i64 0, .slice none 0 0] := by
    have h := Box.new (w.alloc (.cells #[.int .i64 4, .string s, .slice none 0 0, .int .u64 t, .int .i64 o, .int .i64 n, .int .i64 q, .slice none 0 0] 36)) #[.int .i64 4, .string ⟨#[]⟩, .slice none 0 0, .int .u64 0, .int .i64 0, .int .i64 n, .int .i64 0, .slice none 0 0] 36
    simp only [World.size_alloc] at h
    exact h
  have b0 : Below w.heap.size w ((w.alloc (.cells #[.int .i64 4, .string s, .slice none 0 0, .int .u64 t, .int .i64 o, .int .i64 n, .int .i64 q, .slice none 0 0] 36)).alloc (.cells #[.int .i64 4, .string ⟨#[]⟩, .slice none 0 0, .int .u64 0, .int .i64 0, .int .i64 n, .int .i64 0, .slice none 0 0] 36)) := ((Below.refl _ _).alloc (Nat.le_refl _) _).alloc (by simp) _
  have hcall := refWhole_calls n h0 h1 ((w.alloc (.cells #[.int .i64 4, .string s, .slice none 0 0, .int .u64 t, .int .i64 o, .int .i64 n, .int .i64 q, .slice none 0 0] 36)).alloc (.cells #[.int .i64 4, .string ⟨#[]⟩, .slice none 0 0, .int .u64 0, .int .i64 0, .int .i64 n, .int .i64 0, .slice none 0 0] 36))
  have BAw : ∀ w1 : World, Below ((w.alloc (.cells #[.int .i64 4, .string s, .slice none 0 0, .int .u64 t, .int .i64 o, .int .i64 n, .int .i64 q, .slice none 0 0] 36)).alloc (.cells #[.int .i64 4, .string ⟨#[]⟩, .slice none 0 0, .int .u64 0, .int .i64 0, .int .i64 n, .int .i64 0, .slice none 0 0] 36)).heap.size ((w.alloc (.cells #[.int .i64 4, .string s, .slice none 0 0, .int .u64 t, .int .i64 o, .int .i64 n, .int .i64 q, .slice none 0 0] 36)).alloc (.cells #[.int .i64 4, .string ⟨#[]⟩, .slice none 0 0, .int .u64 0, .int .i64 0, .int .i64 n, .int .i64 0, .slice none 0 0] 36)) w1 → Box w1 w.heap.size [.int .i64 4, .string s, .slice none 0 0, .int .u64 t, .int .i64 o, .int .i64 n, .int .i64 q, .slice none 0 0] ∧ Box w1 (w.heap.size + 1) [.int .i64 4, .string ⟨#[]⟩, .slice none 0 0, .int .u64 0, .int .i64 0, .int .i64 n, .int .i64 0, .slice none 0 0] ∧ Below w.heap.size w w1 := fun w1 h => ⟨BA.below h (Box.lt BA), BT.below h (Box.lt BT), b0.trans (h.mono b0.size)⟩
  clear BA BT b0
  go_enter Tryz.func41, Tryz.ntmps41
  go_wp2_with (go_at_call 44; refine hcall.mono ?_; clear hcall; rintro e w1 ⟨S1, rfl, hS1, bel1⟩; (obtain ⟨X1, X2, X3⟩ := BAw w1 bel1); clear BAw bel1; (have hz1 : S1.size ≤ 21 := by (rw [size_of_list hS1]; exact itoa_len n h0 h1)); (have y1 : ¬ 9223372036854775807 < 4 + S1.size := by omega); (have c1 := Box.at X1 1 rfl); (have c3 := Box.at X1 3 rfl); (have c4 := Box.at X1 4 rfl); (have c5 := Box.at X1 5 rfl); (have c6 := Box.at X1 6 rfl); (have d1 := Box.at X2 1 rfl); (have d3 := Box.at X2 3 rfl); (have d4 := Box.at X2 4 rfl); (have d5 := Box.at X2 5 rfl); (have d6 := Box.at X2 6 rfl); clear X1 X2)
  all_goals go_ret2
  all_goals refine ⟨_, _, rfl, ?_, by simp [hS1], X3⟩
  all_goals simp_all

end Go.Proofs.YtbfoocginkdmcaaGreatDoor

/-
  The reference's line: a request.
-/

set_option linter.unusedVariables false
set_option maxRecDepth 100000
set_option maxHeartbeats 4000000
namespace Go.Proofs.YtbfoocginkdmcaaGreatDoor
open Go Go.RowKit Go.Basic Go.ArgS Go.Scr Go.Lib

theorem refLine1_calls (t o n q : Int) (s : ByteArray) (ax ay : Option Addr) (lx cx ly cy : Nat) (ds : List UInt8) (w : World) (hx : IsB w (.slice ax lx cx) ds) (hd : ds.length ≤ 1100000) (hs : s.size ≤ 1100000) :
    Calls Tryz.prog 41 #[.agg #[.int .i64 1, .string s, .slice ax lx cx, .int .u64 t, .int .i64 o, .int .i64 n, .int .i64 q, .slice ay ly cy]] w fun e w' => ∃ (S : ByteArray) (b : Bool), e = .returned (.tuple #[.string S, .bool b]) ∧ (b = true ↔ (t = 0 ∧ o = 0 ∧ n = 0 ∧ q = 0 ∧ (ly : Int) = 0)) ∧
      S.data.toList = [114, 101, 113, 117, 101, 115, 116, 32] ++ word ds ++ [32] ++ word s.data.toList ∧ Below w.heap.size w w' := by
  have hsl : s.data.toList.length = s.size := by simp
  obtain ⟨gc, bw, hbw⟩ := bytes_of s
  have hconv := fun w0 => (hbw w0).1
  have hB := fun w0 => (hbw w0).2.1
  have hBel := fun w0 => (hbw w0).2.2
  clear hbw
  go_enter Tryz.func41, Tryz.ntmps41
  go_wp2_with fail
  have BA : Box ((w.alloc (.cells #[.int .i64 1, .string s, .slice none 0 0, .int .u64 t, .int .i64 o, .int .i64 n, .int .i64 q, .slice none 0 0] 36)).alloc (.cells #[.int .i64 1, .string s, .slice none 0 0, .int .u64 0, .int .i64 0, .int .i64 0, .int .i64 0, .slice none 0 0] 36)) w.heap.size [.int .i64 1, .string s, .slice none 0 0, .int .u64 t, .int .i64 o, .int .i64 n, .int .i64 q, .slice none 0 0] := (Box.new w #[.int .i64 1, .string s, .slice none 0 0, .int .u64 t, .int .i64 o, .int .i64 n, .int .i64 q, .slice none 0 0] 36).alloc _
  have BT : Box ((w.alloc (.cells #[.int .i64 1, .string s, .slice none 0 0, .int .u64 t, .int .i64 o, .int .i64 n, .int .i64 q, .slice none 0 0] 36)).alloc (.cells #[.int .i64 1, .string s, .slice none 0 0, .int .u64 0, .int .i64 0, .int .i64 0, .int .i64 0, .slice none 0 0] 36)) (w.heap.size + 1) [.int .i64 1, .string s, .slice none 0 0, .int .u64 0, .int .i64 0, .int .i64 0, .int .i64 0, .slice none 0 0] := by
    have h := Box.new (w.alloc (.cells #[.int .i64 1, .string s, .slice none 0 0, .int .u64 t, .int .i64 o, .int .i64 n, .int .i64 q, .slice none 0 0] 36)) #[.int .i64 1, .string s, .slice none 0 0, .int .u64 0, .int .i64 0, .int .i64 0, .int .i64 0, .slice none 0 0] 36
    simp only [World.size_alloc] at h
    exact h
  have b0 : Below w.heap.size w ((w.alloc (.cells #[.int .i64 1, .string s, .slice none 0 0, .int .u64 t, .int .i64 o, .int .i64 n, .int .i64 q, .slice none 0 0] 36)).alloc (.cells #[.int .i64 1, .string s, .slice none 0 0, .int .u64 0, .int .i64 0, .int .i64 0, .int .i64 0, .slice none 0 0] 36)) := ((Below.refl _ _).alloc (Nat.le_refl _) _).alloc (by simp) _
  have hxW := hx.below b0
  clear hx
  generalize (w.alloc (.cells #[.int .i64 1, .string s, .slice none 0 0, .int .u64 t, .int .i64 o, .int .i64 n, .int .i64 q, .slice none 0 0] 36)).alloc (.cells #[.int .i64 1, .string s, .slice none 0 0, .int .u64 0, .int .i64 0, .int .i64 0, .int .i64 0, .slice none 0 0] 36) = W at *
  have hS : ∀ w' : World, Below W.heap.size W w' → w'.cell? ⟨w.heap.size, 1, none⟩ = some (.string s) := fun w' h => (BA.below h (Box.lt BA)).at 1 rfl
  have hxD : IsB W.drew (.slice ax lx cx) ds := hxW
  have bD : Below W.heap.size W W.drew := (Below.refl _ _).drew
  have hBD : IsB (bw W.drew) (.slice (some ⟨W.heap.size, 0, none⟩) s.size (gc W.drew)) s.data.toList := hB W.drew
  have hxE : IsB (bw W.drew) (.slice ax lx cx) ds := hxD.below (hBel _)
  have bE : Below W.heap.size W (bw W.drew) := bD.trans (hBel W.drew)
  rw [cvt_eq]
  go_region_held3 (fun w' => w'.cell? ⟨w.heap.size, 1, none⟩ = some (.string s)) (first | (with_reducible exact hS _ bD) | (with_reducible exact hS _ b1) | (with_reducible exact hS _ b1w) | (with_reducible exact hS _ bE) | (with_reducible exact hS _ b2)) (first
    | (go_at_call 45; (with_reducible refine (word_calls _ ds W.drew hxD (by omega)).mono ?_); rintro e w1 ⟨S1, rfl, hS1, bel1⟩; (have hz1 : S1.size ≤ 3000000 := by (rw [size_of_list hS1]; exact word_le' ds hd)); (have y1 : ¬ 9223372036854775807 < 8 + S1.size := by omega); (have y2 : ¬ 9223372036854775807 < 8 + S1.size + 1 := by omega); (have b1 : Below W.heap.size W w1 := bD.trans bel1); (have b1w : Below W.heap.size W (bw w1) := b1.trans ((hBel w1).mono b1.size)))
    | (go_at_call 45; (with_reducible refine (word_calls _ s.data.toList (bw w1) (hB w1) (by omega)).mono ?_); rintro e w2 ⟨S2, rfl, hS2, bel2⟩; (have hz2 : S2.size ≤ 3000000 := by (rw [size_of_list hS2]; exact word_le' _ (by omega))); (have y3 : ¬ 9223372036854775807 < 8 + S1.size + 1 + S2.size := by omega); (have b2 : Below W.heap.size W w2 := b1w.trans (bel2.mono b1w.size)))
    | (go_at_call 45; (with_reducible refine (word_calls _ ds (bw W.drew) hxE (by omega)).mono ?_); rintro e w1 ⟨S1, rfl, hS1, bel1⟩; (have hz1 : S1.size ≤ 3000000 := by (rw [size_of_list hS1]; exact word_le' ds hd)); (have y1 : ¬ 9223372036854775807 < 8 + S1.size := by omega); (have y2 : ¬ 9223372036854775807 < 8 + S1.size + 1 := by omega); (have b1 : Below W.heap.size W w1 := bE.trans (bel1.mono bE.size)))
    | (go_at_call 45; (with_reducible refine (word_calls _ s.data.toList w1 (IsB.below hBD bel1) (by omega)).mono ?_); rintro e w2 ⟨S2, rfl, hS2, bel2⟩; (have hz2 : S2.size ≤ 3000000 := by (rw [size_of_list hS2]; exact word_le' _ (by omega))); (have y3 : ¬ 9223372036854775807 < 8 + S1.size + 1 + S2.size := by omega); (have b2 : Below W.heap.size W w2 := b1.trans (bel2.mono b1.size))))
  all_goals
    have X1 := BA.below b2 (Box.lt BA)
    have X2 := BT.below b2 (Box.lt BT)
    have c1 := Box.at X1 1 rfl
    have c3 := Box.at X1 3 rfl
    have c4 := Box.at X1 4 rfl
    have c5 := Box.at X1 5 rfl
    have c6 := Box.at X1 6 rfl
    have d1 := Box.at X2 1 rfl
    have d3 := Box.at X2 3 rfl
    have d4 := Box.at X2 4 rfl
    have d5 := Box.at X2 5 rfl
    have d6 := Box.at X2 6 rfl
    have X3 : Below w.heap.size w w2 := b0.trans (b2.mono b0.size)
    clear X1 X2 BA BT hS hxD hBD hxE hB hBel hconv
    go_wp2
  all_goals go_ret2
  all_goals refine ⟨_, _, rfl, ?_, by simp [hS1, hS2], X3⟩
  all_goals simp_all
end Go.Proofs.YtbfoocginkdmcaaGreatDoor

/-
  The reference's line: a restart.
-/

set_option linter.unusedVariables false
set_option maxRecDepth 100000
set_option maxHeartbeats 4000000
namespace Go.Proofs.YtbfoocginkdmcaaGreatDoor
open Go Go.RowKit Go.Basic Go.ArgS Go.Scr Go.Lib

/-- What the reference's line answers. -/
def RefOut (w : World) (C : Prop) (txt : List UInt8) (e : Ending) (w' : World) : Prop := ∃ (S : ByteArray) (b : Bool), e = .returned (.tuple #[.string S, .bool b]) ∧ (b = true ↔ C) ∧ S.data.toList = txt ∧ Below w.heap.size w w'

theorem refLine5_calls (t o n q : Int) (s : ByteArray) (ax ay : Option Addr) (lx cx cy : Nat) (ts : List Int) (w : World) (hn0 : -9223372036854775808 ≤ n) (hn1 : n ≤ 9223372036854775807) (hq0 : -9223372036854775808 ≤ q) (hq1 : q ≤ 9223372036854775807)
    (hy : IsSl w .i64 (.slice ay ts.length cy) ts) (hts : ∀ x ∈ ts, -9223372036854775808 ≤ x ∧ x ≤ 9223372036854775807) (hl : ts.length ≤ 1100000) :
    Calls Tryz.prog 41 #[.agg #[.int .i64 5, .string s, .slice ax lx cx, .int .u64 t, .int .i64 o, .int .i64 n, .int .i64 q, .slice ay ts.length cy]] w (RefOut w (s.toList = [] ∧ t = 0 ∧ o = 0 ∧ (lx : Int) = 0) ([114, 101, 115, 116, 97, 114, 116, 32] ++ itoa n ++ [32] ++ itoa q ++ rest ts)) := by
  have hnil : ((⟨#[]⟩ : ByteArray).toList) = [] := by rw [ByteArray.toList_eq]
  go_enter Tryz.func41, Tryz.ntmps41
  go_wp2_with fail
  have BA : Box ((w.alloc (.cells #[.int .i64 5, .string s, .slice none 0 0, .int .u64 t, .int .i64 o, .int .i64 n, .int .i64 q, .slice none 0 0] 36)).alloc (.cells #[.int .i64 5, .string ⟨#[]⟩, .slice none 0 0, .int .u64 0, .int .i64 0, .int .i64 n, .int .i64 q, .slice none 0 0] 36)) w.heap.size [.int .i64 5, .string s, .slice none 0 0, .int .u64 t, .int .i64 o, .int .i64 n, .int .i64 q, .slice none 0 0] := (Box.new w #[.int .i64 5, .string s, .slice none 0 0, .int .u64 t, .int .i64 o, .int .i64 n, .int .i64 q, .slice none 0 0] 36).alloc _
  have BT : Box ((w.alloc (.cells #[.int .i64 5, .string s, .slice none 0 0, .int .u64 t, .int .i64 o, .int .i64 n, .int .i64 q, .slice none 0 0] 36)).alloc (.cells #[.int .i64 5, .string ⟨#[]⟩, .slice none 0 0, .int .u64 0, .int .i64 0, .int .i64 n, .int .i64 q, .slice none 0 0] 36)) (w.heap.size + 1) [.int .i64 5, .string ⟨#[]⟩, .slice none 0 0, .int .u64 0, .int .i64 0, .int .i64 n, .int .i64 q, .slice none 0 0] := by
    have h := Box.new (w.alloc (.cells #[.int .i64 5, .string s, .slice none 0 0, .int .u64 t, .int .i64 o, .int .i64 n, .int .i64 q, .slice none 0 0] 36)) #[.int .i64 5, .string ⟨#[]⟩, .slice none 0 0, .int .u64 0, .int .i64 0, .int .i64 n, .int .i64 q, .slice none 0 0] 36
    simp only [World.size_alloc] at h
    exact h
  have b0 : Below w.heap.size w ((w.alloc (.cells #[.int .i64 5, .string s, .slice none 0 0, .int .u64 t, .int .i64 o, .int .i64 n, .int .i64 q, .slice none 0 0] 36)).alloc (.cells #[.int .i64 5, .string ⟨#[]⟩, .slice none 0 0, .int .u64 0, .int .i64 0, .int .i64 n, .int .i64 q, .slice none 0 0] 36)) := ((Below.refl _ _).alloc (Nat.le_refl _) _).alloc (by simp) _
  generalize (w.alloc (.cells #[.int .i64 5, .string s, .slice none 0 0, .int .u64 t, .int .i64 o, .int .i64 n, .int .i64 q, .slice none 0 0] 36)).alloc (.cells #[.int .i64 5, .string ⟨#[]⟩, .slice none 0 0, .int .u64 0, .int .i64 0, .int .i64 n, .int .i64 q, .slice none 0 0] 36) = W at *
  have hS : ∀ w' : World, Below W.heap.size W w' → w'.cell? ⟨w.heap.size, 5, none⟩ = some (.int .i64 n) ∧ w'.cell? ⟨w.heap.size, 6, none⟩ = some (.int .i64 q) := fun w' h => ⟨(BA.below h (Box.lt BA)).at 5 rfl, (BA.below h (Box.lt BA)).at 6 rfl⟩
  have bD : Below W.heap.size W W.drew := (Below.refl _ _).drew
  go_region_held3 (fun w' => w'.cell? ⟨w.heap.size, 5, none⟩ = some (.int .i64 n) ∧ w'.cell? ⟨w.heap.size, 6, none⟩ = some (.int .i64 q)) (first | (with_reducible exact hS _ bD) | (with_reducible exact hS _ b1) | (with_reducible exact hS _ b2)) (first
    | (go_at_call 44; (with_reducible refine (refWhole_calls n hn0 hn1 W.drew).mono ?_); rintro e w1 ⟨S1, rfl, hS1, bel1⟩; (have hz1 : S1.size ≤ 21 := by (rw [size_of_list hS1]; exact itoa_len n hn0 hn1)); (have y1 : ¬ 9223372036854775807 < 8 + S1.size := by omega); (have y2 : ¬ 9223372036854775807 < 8 + S1.size + 1 := by omega); (have b1 : Below W.heap.size W w1 := bD.trans bel1))
    | (go_at_call 44; (with_reducible refine (refWhole_calls q hq0 hq1 w1).mono ?_); rintro e w2 ⟨S2, rfl, hS2, bel2⟩; (have hz2 : S2.size ≤ 21 := by (rw [size_of_list hS2]; exact itoa_len q hq0 hq1)); (have y3 : ¬ 9223372036854775807 < 8 + S1.size + 1 + S2.size := by omega); (have b2 : Below W.heap.size W w2 := b1.trans (bel2.mono b1.size))))
  clear bD hS
  obtain ⟨S0, hS0⟩ : ∃ S0 : ByteArray, S0 = ((⟨#[114, 101, 115, 116, 97, 114, 116, 32]⟩ : ByteArray) ++ S1 ++ ⟨#[32]⟩ ++ S2) := ⟨_, rfl⟩
  have hS0l : S0.data.toList = [114, 101, 115, 116, 97, 114, 116, 32] ++ itoa n ++ [32] ++ itoa q := by rw [hS0]; simp [hS1, hS2]
  have hS0z : S0.size ≤ 60 := by rw [hS0]; simp only [ByteArray.size_append]; have h1 : (⟨#[114, 101, 115, 116, 97, 114, 116, 32]⟩ : ByteArray).size = 8 := rfl; have h2 : (⟨#[32]⟩ : ByteArray).size = 1 := rfl; omega
  rw [← hS0]
  clear y1 y2 y3 hz1 hz2 hS1 hS2 hS0
  go_wp2_with fail
  have hlen : (ts.length : Int) ≤ 9223372036854775807 := by omega
  have hS0l' : Hid (S0.data.toList = [114, 101, 115, 116, 97, 114, 116, 32] ++ itoa n ++ [32] ++ itoa q) := hS0l
  clear hS0l
  go_loopw [5, 8] (fun v i wr => ∃ (j : Nat) (S : ByteArray), j ≤ ts.length ∧ i = .int .i64 j ∧ v = .string S ∧ Hid (S.data.toList = [114, 101, 115, 116, 97, 114, 116, 32] ++ itoa n ++ [32] ++ itoa q ++ rest (ts.take j)) ∧ S.size ≤ 60 + 22 * j ∧ Below W.heap.size W wr) (fun _ i _ => ts.length - (intOf i).toNat)
  case atStart => exact ⟨0, S0, Nat.zero_le _, rfl, rfl, (by show _ = _; rw [show S0.data.toList = _ from hS0l']; simp [rest]), by omega, b2⟩
  case round =>
    obtain ⟨j, S, hj, rfl, rfl, hSl, hSz, hbw⟩ := hrel
    have hbw0 : Below w.heap.size w wr := b0.trans (hbw.mono b0.size)
    by_cases hlt : j < ts.length
    · have hlt' : (j : Int) < (ts.length : Int) := by omega
      have hyr := hy.below hbw0
      rcases hyr with ⟨h1, h2⟩ | ⟨a, cap, ea, hc⟩
      · rw [h2] at hlt
        cases hlt
      have hcj := hc j ts[j] (List.getElem?_eq_getElem hlt)
      cases ea
      clear hc
      obtain ⟨x, hx⟩ : ∃ x, x = ts[j] := ⟨_, rfl⟩
      obtain ⟨hx0, hx1⟩ := hts ts[j] (List.getElem_mem hlt)
      rw [← hx] at hcj hx0 hx1
      have htk : ts.take (j + 1) = ts.take j ++ [x] := by rw [List.take_add_one, List.getElem?_eq_getElem hlt, hx]; rfl
      clear hx
      have y1 : ¬ 9223372036854775807 < S.size + 1 := by omega
      go_wp2_with (go_at_call 44; refine (refWhole_calls x hx0 hx1 _).mono ?_; rintro e wa ⟨S3, rfl, hS3, bela⟩; (have hz3 : S3.size ≤ 21 := by (rw [size_of_list hS3]; exact itoa_len x hx0 hx1)); (have y2 : ¬ 9223372036854775807 < S.size + 1 + S3.size := by omega))
      go_roundw
      case rel => exact ⟨j + 1, _, hlt, by go_num, rfl, (by show _ = _; rw [htk]; simp [show S.data.toList = _ from hSl, rest, hS3]), (by simp only [ByteArray.size_append]; have h2 : (⟨#[32]⟩ : ByteArray).size = 1 := rfl; omega), hbw.trans (bela.mono hbw.size)⟩
      case measure => simp only [intOf]; omega
    · have hge : ¬ (j : Int) < (ts.length : Int) := by omega
      obtain rfl : j = ts.length := by omega
      have X1 := BA.below hbw (Box.lt BA)
      have X2 := BT.below hbw (Box.lt BT)
      have c1 := Box.at X1 1 rfl
      have c3 := Box.at X1 3 rfl
      have c4 := Box.at X1 4 rfl
      have c5 := Box.at X1 5 rfl
      have c6 := Box.at X1 6 rfl
      have d1 := Box.at X2 1 rfl
      have d3 := Box.at X2 3 rfl
      have d4 := Box.at X2 4 rfl
      have d5 := Box.at X2 5 rfl
      have d6 := Box.at X2 6 rfl
      clear X1 X2 BA BT
      have hSf : S.data.toList = [114, 101, 115, 116, 97, 114, 116, 32] ++ itoa n ++ [32] ++ itoa q ++ rest ts := by rw [show S.data.toList = _ from hSl, List.take_length]
      have hSg : Hid (S.data.toList = [114, 101, 115, 116, 97, 114, 116, 32] ++ itoa n ++ [32] ++ itoa q ++ rest ts) := hSf
      clear hSf hSl
      go_wp2
      all_goals go_ret2
      all_goals unfold RefOut
      all_goals refine ⟨S, _, rfl, ?_, (by rw [show S.data.toList = _ from hSg]; simp), hbw0⟩
      all_goals clear hSg
      all_goals simp_all
end Go.Proofs.YtbfoocginkdmcaaGreatDoor

/-
  The reference's line, of whatever kind.
-/

set_option linter.unusedVariables false
set_option maxRecDepth 100000
set_option maxHeartbeats 1000000
namespace Go.Proofs.YtbfoocginkdmcaaGreatDoor
open Go Go.RowKit Go.Basic Go.ArgS Go.Scr Go.Lib

theorem raw_nil (r : ByteArray) : r.toList = [] ↔ r = ⟨#[]⟩ := by
  have h : ((⟨#[]⟩ : ByteArray).toList) = [] := by rw [ByteArray.toList_eq]
  exact ⟨fun e => (ba_eq r ⟨#[]⟩).1 (e.trans h.symm), fun e => by rw [e]; exact h⟩

theorem refLine_calls (v : Value) (a : PAct) (w : World) (h : ActV w v a) (f : Fits a) :
    Calls Tryz.prog 41 #[v] w fun e w' => ∃ S : ByteArray, e = .returned (.tuple #[.string S, .bool (okA a)]) ∧ S.data.toList = lineS a ∧ Below w.heap.size w w' := by
  obtain ⟨ax, cx, ay, cy, rfl, hx, hy⟩ := h
  obtain ⟨k, r, d, u, o, n, q, t⟩ := a
  rcases kinds k with rfl | rfl | rfl | rfl | rfl | rfl | ⟨h1, h2, h3, h4, h5, h6⟩
  · refine (refLine1_calls _ o n q r ax ay d.length cx t.length cy d w hx f.draws f.raw).mono ?_
    rintro e w' ⟨S, b, rfl, hb, hS, hbl⟩
    have eb : b = okA ⟨1, r, d, u, o, n, q, t⟩ := by rw [Bool.eq_iff_iff, hb]; simp [okA, and_assoc]
    exact ⟨S, by rw [eb], by rw [hS]; simp [lineS], hbl⟩
  · refine (refLine2_calls u f.now o n q r ax ay d.length cx t.length cy w).mono ?_
    rintro e w' ⟨S, b, rfl, hb, hS, hbl⟩
    have eb : b = okA ⟨2, r, d, u, o, n, q, t⟩ := by rw [Bool.eq_iff_iff, hb]; simp [okA, raw_nil, and_assoc]
    exact ⟨S, by rw [eb], by rw [hS]; simp [lineS], hbl⟩
  · refine (refLine3_calls _ o n q r ax ay d.length cx t.length cy w f.outcome.1 f.outcome.2).mono ?_
    rintro e w' ⟨S, b, rfl, hb, hS, hbl⟩
    have eb : b = okA ⟨3, r, d, u, o, n, q, t⟩ := by rw [Bool.eq_iff_iff, hb]; simp [okA, raw_nil, and_assoc]
    exact ⟨S, by rw [eb], by rw [hS]; simp [lineS], hbl⟩
  · refine (refLine4_calls _ o n q r ax ay d.length cx t.length cy w f.n.1 f.n.2).mono ?_
    rintro e w' ⟨S, b, rfl, hb, hS, hbl⟩
    have eb : b = okA ⟨4, r, d, u, o, n, q, t⟩ := by rw [Bool.eq_iff_iff, hb]; simp [okA, raw_nil, and_assoc]
    exact ⟨S, by rw [eb], by rw [hS]; simp [lineS], hbl⟩
  · refine (refLine5_calls _ o n q r ax ay d.length cx cy t w f.n.1 f.n.2 f.dir.1 f.dir.2 hy f.tails f.long).mono ?_
    rintro e w' ⟨S, b, rfl, hb, hS, hbl⟩
    have eb : b = okA ⟨5, r, d, u, o, n, q, t⟩ := by rw [Bool.eq_iff_iff, hb]; simp [okA, raw_nil, and_assoc]
    exact ⟨S, by rw [eb], by rw [hS]; simp [lineS], hbl⟩
  · refine (refLine6_calls _ o n q r ax ay d.length cx t.length cy w).mono ?_
    rintro e w' ⟨S, b, rfl, hb, hS, hbl⟩
    have eb : b = okA ⟨6, r, d, u, o, n, q, t⟩ := by rw [Bool.eq_iff_iff, hb]; simp [okA, raw_nil, and_assoc]
    exact ⟨S, by rw [eb], by rw [hS]; simp [lineS], hbl⟩
  · refine (refLine0_calls k _ o n q h1 h2 h3 h4 h5 h6 r ax ay d.length cx t.length cy w).mono ?_
    rintro e w' ⟨S, b, rfl, hb, hS, hbl⟩
    have e1 : ¬ (1 ≤ k ∧ k ≤ 6) := by omega
    have eb : b = okA ⟨k, r, d, u, o, n, q, t⟩ := by rw [Bool.eq_iff_iff, hb]; simp [okA, e1]
    exact ⟨S, by rw [eb], by rw [hS]; simp [lineS, h1, h2, h3, h4, h5, h6], hbl⟩
end Go.Proofs.YtbfoocginkdmcaaGreatDoor

/-
  Slices of acts that came in.
-/

set_option linter.unusedVariables false
set_option maxRecDepth 100000
set_option maxHeartbeats 1000000
namespace Go.Proofs.YtbfoocginkdmcaaGreatDoor
open Go Go.RowKit Go.Basic Go.ArgS Go.Scr Go.Lib

/-- The cells of an act. -/
def actCells (a : PAct) (ax : Option Addr) (cx : Nat) (ay : Option Addr) (cy : Nat) : List Value :=
  [.int .i64 a.kind, .string a.raw, .slice ax a.draws.length cx, .int .u64 (a.now : Int), .int .i64 a.outcome, .int .i64 a.n, .int .i64 a.dir, .slice ay a.tails.length cy]

/-- A slice of acts: nil or empty, or its elements' cells. -/
def IsActs (w : World) (v : Value) (aa : List PAct) : Prop :=
  (∃ oa cap, v = .slice oa 0 cap ∧ aa = []) ∨ ∃ b off cap, v = .slice (some ⟨b, off, none⟩) aa.length cap ∧ ∀ (i : Nat) a, aa[i]? = some a → ∃ ax cx ay cy,
    (∀ (j : Nat) c, (actCells a ax cx ay cy)[j]? = some c → w.cell? ⟨b, off + i * 8 + j, none⟩ = some c) ∧ IsB w (.slice ax a.draws.length cx) a.draws ∧ IsSl w .i64 (.slice ay a.tails.length cy) a.tails

theorem IsActs.below {w w' : World} {v : Value} {aa : List PAct} (h : IsActs w v aa) (hb : Below w.heap.size w w') : IsActs w' v aa := by
  rcases h with h | ⟨b, off, cap, e, hc⟩
  · exact .inl h
  · refine .inr ⟨b, off, cap, e, fun i a hi => ?_⟩
    obtain ⟨ax, cx, ay, cy, h1, h2, h3⟩ := hc i a hi
    refine ⟨ax, cx, ay, cy, fun j c hj => ?_, h2.below hb, h3.below hb⟩
    have h4 := h1 j c hj
    exact (World.cell?_of_block (hb.block _ (World.block_lt_of_cell? w _ h4))).trans h4

theorem IsActs.slice {w : World} {v : Value} {aa : List PAct} (h : IsActs w v aa) : ∃ oa cap, v = .slice oa aa.length cap := by
  rcases h with ⟨oa, cap, rfl, rfl⟩ | ⟨b, off, cap, rfl, _⟩
  · exact ⟨_, _, rfl⟩
  · exact ⟨_, _, rfl⟩

/-- The k-th act's cells, for the walk. -/
theorem IsActs.at {w : World} {v : Value} {aa : List PAct} (h : IsActs w v aa) {k : Nat} {a : PAct} (hk : aa[k]? = some a) :
    ∃ b off cap ax cx ay cy, v = .slice (some ⟨b, off, none⟩) aa.length cap ∧ w.cell? ⟨b, off + k * 8, none⟩ = some (.int .i64 a.kind) ∧ w.cell? ⟨b, off + k * 8 + 1, none⟩ = some (.string a.raw) ∧ w.cell? ⟨b, off + k * 8 + 2, none⟩ = some (.slice ax a.draws.length cx) ∧
      w.cell? ⟨b, off + k * 8 + 3, none⟩ = some (.int .u64 (a.now : Int)) ∧ w.cell? ⟨b, off + k * 8 + 4, none⟩ = some (.int .i64 a.outcome) ∧ w.cell? ⟨b, off + k * 8 + 5, none⟩ = some (.int .i64 a.n) ∧ w.cell? ⟨b, off + k * 8 + 6, none⟩ = some (.int .i64 a.dir) ∧
      w.cell? ⟨b, off + k * 8 + 7, none⟩ = some (.slice ay a.tails.length cy) ∧ IsB w (.slice ax a.draws.length cx) a.draws ∧ IsSl w .i64 (.slice ay a.tails.length cy) a.tails := by
  rcases h with ⟨_, _, _, rfl⟩ | ⟨b, off, cap, rfl, hc⟩
  · simp at hk
  · obtain ⟨ax, cx, ay, cy, h1, h2, h3⟩ := hc k a hk
    exact ⟨b, off, cap, ax, cx, ay, cy, rfl, h1 0 _ rfl, h1 1 _ rfl, h1 2 _ rfl, h1 3 _ rfl, h1 4 _ rfl, h1 5 _ rfl, h1 6 _ rfl, h1 7 _ rfl, h2, h3⟩
end Go.Proofs.YtbfoocginkdmcaaGreatDoor

/-
  The reference's Print.
-/

set_option linter.unusedVariables false
set_option maxRecDepth 100000
set_option maxHeartbeats 4000000
namespace Go.Proofs.YtbfoocginkdmcaaGreatDoor
open Go Go.RowKit Go.Basic Go.ArgS Go.Scr Go.Lib

theorem own_sl {w : World} {B : Nat} {e : TypeId} {v : Value} {n : Nat} {xs : List Value} (h : w.ownsRow B e 1 v n xs) : ∃ a c, v = .slice a n c := by
  rcases h.2 with ⟨h0, rfl⟩ | ⟨g, cap, cur, h0, _⟩
  · exact ⟨_, _, h0⟩
  · exact ⟨_, _, h0⟩

def PrintOut (w : World) (aa : List PAct) (e : Ending) (w' : World) : Prop := ∃ S : ByteArray, e = .returned (.tuple #[.string S, .int .i64 (printS aa).2]) ∧ S.data.toList = (printS aa).1 ∧ Below w.heap.size w w'

theorem script_take (aa : List PAct) (k : Nat) {a : PAct} (h : aa[k]? = some a) : script (aa.take (k + 1)) = script (aa.take k) ++ lineS a ++ [10] := by
  rw [List.take_add_one, h]
  simp [script]

theorem script_len_take (aa : List PAct) (k : Nat) : (script (aa.take k)).length ≤ (script aa).length := by
  have : aa = aa.take k ++ aa.drop k := (List.take_append_drop k aa).symm
  conv => rhs; rw [this]
  simp only [script, List.flatMap_append, List.length_append]
  omega

theorem mem_take_succ {aa : List PAct} {k : Nat} {a x : PAct} (h : aa[k]? = some a) (hx : x ∈ aa.take (k + 1)) : x ∈ aa.take k ∨ x = a := by
  rw [List.take_add_one, h] at hx
  simpa using hx

set_option maxHeartbeats 8000000 in
theorem refPrint_calls (v : Value) (aa : List PAct) (w : World) (h : IsActs w v aa) (hf : ∀ a ∈ aa, Fits a) (hl : aa.length ≤ 1100000) (hT : (script aa).length ≤ 100000000) :
    Calls Tryz.prog 20 #[v] w (PrintOut w aa) := by
  obtain ⟨oa, cap, rfl⟩ := h.slice
  obtain ⟨i0, hi, hz0, hz1, hz2⟩ := info_parts inf5
  by_cases hlen : 4096 < aa.length
  · have hlen' : (4096 : Int) < (aa.length : Int) := by omega
    go_enter Tryz.func20, Tryz.ntmps20
    go_wp2
    go_ret2
    unfold PrintOut
    exact ⟨⟨#[]⟩, by simp [printS, hlen], by simp [printS, hlen], Below.refl _ _⟩
  · have hlen' : ¬ (4096 : Int) < (aa.length : Int) := by omega
    go_enter Tryz.func20, Tryz.ntmps20
    go_wp2
    go_loopw [4] (fun i wr => ∃ k : Nat, k ≤ aa.length ∧ i = .int .i64 k ∧ Hid (∀ a ∈ aa.take k, okA a = true) ∧ Below w.heap.size w wr) (fun i _ => aa.length - (intOf i).toNat)
    case atStart => exact ⟨0, Nat.zero_le _, rfl, (fun a ha => by simp at ha), Below.refl _ _⟩
    case round =>
      obtain ⟨k, hk, rfl, hok, hbw⟩ := hrel
      by_cases hlt : k < aa.length
      · have hlt' : (k : Int) < (aa.length : Int) := by omega
        obtain ⟨a, ha⟩ : ∃ a, aa[k]? = some a := ⟨aa[k], List.getElem?_eq_getElem hlt⟩
        obtain ⟨b, off, cap', ax, cx, ay, cy, ev, c0, c1, c2, c3, c4, c5, c6, c7, hx, hy⟩ := (h.below hbw).at ha
        cases ev
        have hcall := refLine_calls _ a wr ⟨ax, cx, ay, cy, rfl, hx, hy⟩ (hf a (List.mem_of_getElem? ha))
        clear hx hy
        cases hoa : okA a with
        | true =>
          rw [hoa] at hcall
          go_wp2_with (go_at_call 41; refine hcall.mono ?_; clear hcall; rintro e w1 ⟨S1, rfl, _, bel1⟩)
          go_roundw
          case rel => exact ⟨k + 1, hlt, by go_num, (fun x hx => (mem_take_succ ha hx).elim (fun h => hok x h) (fun h => by rw [h]; exact hoa)), hbw.trans (bel1.mono hbw.size)⟩
          case measure => simp only [intOf]; omega
        | false =>
          rw [hoa] at hcall
          go_wp2_with (go_at_call 41; refine hcall.mono ?_; clear hcall; rintro e w1 ⟨S1, rfl, _, bel1⟩)
          go_ret2
          unfold PrintOut
          have hall : aa.all okA = false := List.all_eq_false.2 ⟨a, List.mem_of_getElem? ha, by simp [hoa]⟩
          exact ⟨⟨#[]⟩, by simp [printS, hlen, hall], by simp [printS, hlen, hall], hbw.trans (bel1.mono hbw.size)⟩
      · have hge : ¬ (k : Int) < (aa.length : Int) := by omega
        obtain rfl : k = aa.length := by omega
        have hall : Hid (aa.all okA = true) := List.all_eq_true.2 fun x hx => hok x (by rw [List.take_length]; exact hx)
        clear hok
        rename World => w0
        go_wp2
        go_loopw [7, 8] (fun v i wr => ∃ k m : Nat, k ≤ aa.length ∧ i = .int .i64 k ∧ m ≤ 100000000 ∧ Hid (m = (script (aa.take k)).length) ∧ wr.ownsRow w.heap.size 5 1 v m (byteCells (script (aa.take k))) ∧ Hid (∀ a ∈ aa.take k, wideA a = false) ∧ Below w.heap.size w wr) (fun _ i _ => aa.length - (intOf i).toNat)
        case atStart => exact ⟨0, 0, Nat.zero_le _, rfl, by omega, rfl, World.ownsRow_nil _ _ _ _, (fun a ha => by simp at ha), hbw⟩
        case round =>
          clear hbw
          obtain ⟨k, m, hk, rfl, hm1, hm, hown, hwide, hbw⟩ := hrel
          by_cases hlt : k < aa.length
          · have hlt' : (k : Int) < (aa.length : Int) := by omega
            obtain ⟨a, ha⟩ : ∃ a, aa[k]? = some a := ⟨aa[k], List.getElem?_eq_getElem hlt⟩
            obtain ⟨b, off, cap', ax, cx, ay, cy, ev, c0, c1, c2, c3, c4, c5, c6, c7, hx, hy⟩ := (h.below hbw).at ha
            cases ev
            have hfa := hf a (List.mem_of_getElem? ha)
            have hcall := refLine_calls _ a wr ⟨ax, cx, ay, cy, rfl, hx, hy⟩ hfa
            rw [show okA a = true from List.all_eq_true.1 hall a (List.mem_of_getElem? ha)] at hcall
            clear hx hy
            have hq1 := refCoded_calls a.raw.size (by have := hfa.raw; omega)
            have hq2 := refCoded_calls a.draws.length (by have := hfa.draws; omega)
            have hst := script_take aa k ha
            have hsl := script_len_take aa (k + 1)
            rw [hst] at hsl
            simp only [List.length_append, List.length_cons, List.length_nil] at hsl
            obtain ⟨Q1, hQ1⟩ : ∃ Q1, Q1 = (8 * a.raw.size + 5) / 6 := ⟨_, rfl⟩
            obtain ⟨Q2, hQ2⟩ : ∃ Q2, Q2 = (8 * a.draws.length + 5) / 6 := ⟨_, rfl⟩
            rw [← hQ1] at hq1
            rw [← hQ2] at hq2
            have hrl : a.raw.data.toList.length = a.raw.size := by simp
            have hwa : Hid (wideA a = true ↔ (65536 < Q1 ∨ 65536 < Q2)) := by
              show _ ↔ _
              unfold wideA
              rw [Bool.or_eq_true, decide_eq_true_eq, decide_eq_true_eq, wide_iff, wide_iff, hrl, ← hQ1, ← hQ2]
              exact Or.comm
            clear hrl hQ1 hQ2
            have lb := World.block_lt_of_cell? wr _ c1
            by_cases hw1 : 65536 < Q1
            · have hw1' : (65536 : Int) < (Q1 : Int) := by omega
              have hwide1 : Hid (wideA a = true) := (show _ ↔ _ from hwa).2 (.inl hw1)
              go_wp2_with (first
                | (go_at_call 41; refine hcall.mono ?_; clear hcall; rintro e w1 ⟨S1, rfl, _, bel1⟩; (have d1 := (bel1.cell (p := ⟨b, off + k * 8 + 1, none⟩) lb).trans c1); (have d2 := (bel1.cell (p := ⟨b, off + k * 8 + 2, none⟩) lb).trans c2))
                | (go_at_call 42; refine (hq1 _).mono ?_; rintro e w2 ⟨rfl, rfl⟩))
              go_ret2
              unfold PrintOut
              have hany : aa.any wideA = true := List.any_eq_true.2 ⟨a, List.mem_of_getElem? ha, hwide1⟩
              exact ⟨⟨#[]⟩, by simp [printS, hlen, show aa.all okA = true from hall, hany], by simp [printS, hlen, show aa.all okA = true from hall, hany], hbw.trans (bel1.mono hbw.size)⟩
            · have hw1' : ¬ (65536 : Int) < (Q1 : Int) := by omega
              by_cases hw2 : 65536 < Q2
              · have hw2' : (65536 : Int) < (Q2 : Int) := by omega
                have hwide1 : Hid (wideA a = true) := (show _ ↔ _ from hwa).2 (.inr hw2)
                go_wp2_with (first
                  | (go_at_call 41; refine hcall.mono ?_; clear hcall; rintro e w1 ⟨S1, rfl, _, bel1⟩; (have d1 := (bel1.cell (p := ⟨b, off + k * 8 + 1, none⟩) lb).trans c1); (have d2 := (bel1.cell (p := ⟨b, off + k * 8 + 2, none⟩) lb).trans c2))
                  | (go_at_call 42; with_reducible refine (hq1 _).mono ?_; rintro e w2 ⟨rfl, rfl⟩)
                  | (go_at_call 42; with_reducible refine (hq2 _).mono ?_; rintro e w2 ⟨rfl, rfl⟩))
                go_ret2
                unfold PrintOut
                have hany : aa.any wideA = true := List.any_eq_true.2 ⟨a, List.mem_of_getElem? ha, hwide1⟩
                exact ⟨⟨#[]⟩, by simp [printS, hlen, show aa.all okA = true from hall, hany], by simp [printS, hlen, show aa.all okA = true from hall, hany], hbw.trans (bel1.mono hbw.size)⟩
              · have hw2' : ¬ (65536 : Int) < (Q2 : Int) := by omega
                have hnw : Hid (wideA a = false) := by
                  show _ = _
                  rw [Bool.eq_false_iff]
                  intro e
                  exact ((show _ ↔ _ from hwa).1 e).elim hw1 hw2
                clear hwa hw1 hw2
                go_wp2_with (first
                  | (go_at_call 41; refine hcall.mono ?_; clear hcall; rintro e w1 ⟨S1, rfl, hS1, bel1⟩; (have d1 := (bel1.cell (p := ⟨b, off + k * 8 + 1, none⟩) lb).trans c1); (have d2 := (bel1.cell (p := ⟨b, off + k * 8 + 2, none⟩) lb).trans c2); (have hS1z := size_of_list hS1); (have hS1h : Hid (S1.data.toList = lineS a) := hS1); clear hS1; (have hmm : m + S1.size + 1 ≤ 100000000 := by have := (show m = _ from hm); omega))
                  | (go_at_call 42; with_reducible refine (hq1 _).mono ?_; rintro e w2 ⟨rfl, rfl⟩)
                  | (go_at_call 42; with_reducible refine (hq2 _).mono ?_; rintro e w2 ⟨rfl, rfl⟩)
                  | (at_builtin; refine wpList_append_own_string _ rfl _ _ 30 9 rfl w.heap.size 5 i0 Tryz.underlying30 Tryz.underlying9 hi hz0 hz1 hz2 _ m _ rfl (own_below hown bel1) S1 rfl (by unfold maxLen; omega) (by omega) (by have h1 := hbw.size; have h2 := bel1.size; omega) ?_; intro v2 wA hownA hgA _)
                  | (at_builtin; refine wpList_append_own _ rfl _ _ 30 rfl w.heap.size 5 i0 (.int .u8 0) 1 1 Tryz.underlying30 hi hz0 hz1 hz2 rfl (by decide) _ (m + S1.size) _ rfl (hownA.alloc _) ⟨_, 0, none⟩ 1 1 [.int .u8 10] rfl rfl (one_cell _ _ _) (bc_one [10]) (by unfold maxLen; omega) (by omega) (by have h1 := hbw.size; have h2 := bel1.size; have h3 := hgA.size; simp; omega) ?_; intro v3 wB hownB hgB _))
                have hbA : Below w.heap.size w wA := (hbw.trans (bel1.mono hbw.size)).grown hgA (Nat.le_trans hbw.size bel1.size) fun g hg => (hown.lt g hg).1
                have hbB : Below w.heap.size w wB := (hbA.alloc hbA.size _).grown hgB (by have := hbA.size; simp; omega) fun g hg => (hownA.lt g hg).1
                have hst2 := script_take aa k ha
                have hrow : byteCells (script (aa.take k)) ++ strCells S1 ++ [Value.int .u8 10] = byteCells (script (aa.take (k + 1))) := by
                  rw [hst2, strCells_eq, show S1.data.toList = lineS a from hS1h]
                  simp [byteCells]
                have hmeq : m + S1.size + 1 = (script (aa.take (k + 1))).length := by
                  rw [hst2, List.length_append, List.length_append, size_of_list (show S1.data.toList = lineS a from hS1h), ← show m = _ from hm]
                  rfl
                rw [hrow] at hownB
                clear hst2 hrow hownA hgA hgB hown
                refine ⟨⟨k + 1, m + S1.size + 1, hlt, (by first | rfl | simp), by omega, hmeq, hownB, (fun x hx => (mem_take_succ ha hx).elim (fun h => hwide x h) (fun h => by rw [h]; exact hnw)), hbB⟩, ?_⟩
                simp only [intOf]
                omega
          · have hge : ¬ (k : Int) < (aa.length : Int) := by omega
            obtain rfl : k = aa.length := by omega
            rw [List.take_length] at hown
            have hm' : m = (script aa).length := by rw [show m = _ from hm, List.take_length]
            have hany : Hid (aa.any wideA = false) := List.any_eq_false.2 fun x hx => by rw [hwide x (by rw [List.take_length]; exact hx)]; simp
            have hst := string_of_own hm' hown
            have hmh : Hid (m = (script aa).length) := hm'
            obtain ⟨ao, co, eo⟩ := own_sl hown
            subst eo
            clear hm hm' hwide hown
            by_cases hlong : 1048576 < m
            · have hlong' : (1048576 : Int) < (m : Int) := by omega
              go_wp2
              go_ret2
              unfold PrintOut
              have hP : printS aa = ([], 1) := by
                rw [printS, if_neg hlen, if_neg (by rw [show aa.all okA = true from hall]; simp), if_pos (.inr (by rw [← show m = _ from hmh]; exact hlong))]
              exact ⟨⟨#[]⟩, by rw [hP]; rfl, by rw [hP], hbw⟩
            · have hlong' : ¬ (1048576 : Int) < (m : Int) := by omega
              go_wp2
              go_ret2
              unfold PrintOut
              have hP : printS aa = (script aa, 0) := by
                rw [printS, if_neg hlen, if_neg (by rw [show aa.all okA = true from hall]; simp), if_neg (by rw [show aa.any wideA = false from hany, ← show m = _ from hmh]; simp; omega)]
              exact ⟨⟨(script aa).toArray⟩, by rw [hP]; rfl, by rw [hP], hbw⟩
end Go.Proofs.YtbfoocginkdmcaaGreatDoor
