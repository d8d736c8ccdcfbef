/-
  The letters' numbers.
-/
import Derived.Test.YtdjaccnocaffjaaGreatDoorWA

set_option linter.unusedVariables false
set_option maxRecDepth 100000
set_option maxHeartbeats 1000000
namespace Go.Proofs.YtdjaccnocaffjaaGreatDoor
open Go Go.RowKit Go.Basic

abbrev ic (l : List Nat) : List Value := l.map fun n : Nat => Value.int .i64 (n : Int)

theorem values_calls (v : List Nat) (hv : ∀ x ∈ v, x < 64) (all s : ByteArray) (hs : s.data.toList = v.map letU) (hl : v.length ≤ 60000) (hal : all.size ≤ 1000000) (hall : ∀ n, n < 64 → placeF (letU n).toNat all.data.toList 0 = (n : Int)) (w : World) :
    Calls Tryz.prog 127 #[.string all, .string s] w fun e w' => ∃ val, e = .returned (.tuple #[val, .int .i64 0, .int .i64 0]) ∧ w'.ownsRow w.heap.size 3 1 val v.length (ic v) ∧ Below w.heap.size w w' := by
  obtain ⟨i0, hi, hz0, hz1, hz2⟩ := info_parts inf3
  have hsl : s.size = v.length := by
    have : s.data.toList.length = s.size := by simp
    rw [← this, hs, List.length_map]
  have hsn : s.size ≤ 60000 := by omega
  have hh : Hid (s.data.toList = v.map letU) := hs
  have hslh : Hid (s.size = v.length) := hsl
  clear hs hsl
  go_enter Tryz.func127, Tryz.ntmps127
  go_wp2
  go_loopw [7, 15] (fun o i wr => ∃ k : Nat, k ≤ s.size ∧ i = .int .i64 k ∧ wr.ownsRow w.heap.size 3 1 o k (ic (v.take k)) ∧ Below w.heap.size w wr) (fun _ i _ => s.size - (intOf i).toNat)
  case atStart => exact ⟨0, Nat.zero_le _, rfl, World.ownsRow_nil _ _ _ _, Below.refl _ _⟩
  case round =>
    obtain ⟨k, hk, rfl, hown, hbw⟩ := hrel
    by_cases hlt : k < s.size
    · have hlt' : (k : Int) < (s.size : Int) := by omega
      have hkv : k < v.length := by rw [← show s.size = _ from hslh]; exact hlt
      obtain ⟨n, hn⟩ : ∃ n, n = v[k] := ⟨_, rfl⟩
      have hn64 : n < 64 := by rw [hn]; exact hv _ (List.getElem_mem hkv)
      have hsk : s[k] = letU n := by
        have h1 : s.data.toList[k]? = some (letU n) := by
          rw [show s.data.toList = _ from hh, List.getElem?_map, List.getElem?_eq_getElem hkv, hn]
          rfl
        have h2 : s.data.toList[k]? = some s[k] := by
          rw [List.getElem?_eq_getElem (by simpa using hlt)]
          rfl
        rw [h1] at h2
        injection h2 with h2
        exact h2.symm
      have hpl := hall n hn64
      have htk : v.take (k + 1) = v.take k ++ [n] := by rw [List.take_add_one, List.getElem?_eq_getElem hkv, hn]; rfl
      clear hn
      go_wp2_with (go_at_call 183; refine (place_calls all hal _ _).mono ?_)
      rintro e w1 ⟨rfl, rfl⟩
      rw [hpl]
      go_wp2_with (at_builtin; refine wpList_append_own _ rfl _ _ 129 rfl w.heap.size 3 i0 (.int .i64 0) 1 8 Tryz.underlying129 hi hz0 hz1 hz2 rfl (by decide) _ _ _ rfl (hown.alloc _) ⟨_, 0, none⟩ 1 1 [.int .i64 (n : Int)] rfl rfl ?c1 ?c2 ?c3 ?c4 ?c5 ?_)
      case c1 =>
        intro j u hj
        match j, hj with
        | 0, hj => simp at hj; subst hj; simp [Addr.add]
      case c2 => intro u hu; simp at hu; subst hu; rfl
      case c3 => unfold maxLen; omega
      case c4 => omega
      case c5 => have := hbw.size; simp; omega
      intro v' w2 hown' hgrow _
      have hb2 := (hbw.alloc hbw.size (.cells #[.int .i64 (n : Int)] 3)).grown hgrow (by have := hbw.size; simp; omega) fun j hj => (hown.lt j hj).1
      have hown2 : w2.ownsRow w.heap.size 3 1 v' (k + 1) (ic (v.take (k + 1))) := by
        rw [htk]
        show w2.ownsRow w.heap.size 3 1 v' (k + 1) ((v.take k ++ [n]).map _)
        rw [List.map_append, List.map_take]
        exact hown'
      clear hown' hgrow hown
      go_wp2
      go_roundw
      case rel => exact ⟨k + 1, by omega, by go_num, hown2, hb2⟩
      case measure => simp only [intOf]; omega
    · have hge : ¬ (k : Int) < (s.size : Int) := by omega
      obtain rfl : k = s.size := by omega
      have hkv := show s.size = v.length from hslh
      rw [hkv, List.take_length] at hown
      clear hkv
      go_wp2
      go_ret3
      exact ⟨_, rfl, hown, hbw⟩
end Go.Proofs.YtdjaccnocaffjaaGreatDoor

/-
  FromBase64 of letters that mean bytes.
-/

set_option linter.unusedVariables false
set_option maxRecDepth 100000
set_option maxHeartbeats 1000000
namespace Go.Proofs.YtdjaccnocaffjaaGreatDoor
open Go Go.RowKit Go.Basic

theorem alpha_place : ∀ n, n < 64 → placeF (letU n).toNat ({ data := #[65, 66, 67, 68, 69, 70, 71, 72, 73, 74, 75, 76, 77, 78, 79, 80, 81, 82, 83, 84, 85, 86, 87, 88, 89, 90, 97, 98, 99, 100, 101, 102, 103, 104, 105, 106, 107, 108, 109, 110, 111, 112, 113, 114, 115, 116, 117, 118, 119, 120, 121, 122, 48, 49, 50, 51, 52, 53, 54, 55, 56, 57, 45, 95] } : ByteArray).data.toList 0 = (n : Int) := by decide

/-- What is carried from round to round: how many bits are left over, and what they are. -/
def step1 (h : Nat) : Nat := if h = 0 then 6 else h - 2

theorem bytes_step (x n h : Nat) (l : List Nat) (hh : h = 2 ∨ h = 4 ∨ h = 6) :
    bytesOf (x :: l) n h = (UInt8.ofNat ((n * 64 + x) / 2 ^ (h - 2)) :: (bytesOf l ((n * 64 + x) % 2 ^ (h - 2)) (h - 2)).1, (bytesOf l ((n * 64 + x) % 2 ^ (h - 2)) (h - 2)).2) := by
  rw [bytesOf_ge (by omega), show h + 6 - 8 = h - 2 from by omega]

theorem bytes_step0 (x : Nat) (l : List Nat) (n : Nat) : bytesOf (x :: l) n 0 = bytesOf l (n * 64 + x) 6 := bytesOf_lt (by omega)

theorem fromBase64_calls (p : List UInt8) (s : ByteArray) (hs : s.data.toList = (six p).map letU) (hl : p.length ≤ 40000) (hp : 1 ≤ p.length) (w : World) :
    Calls Tryz.prog 79 #[.string s] w fun e w' => ∃ val, e = .returned (.tuple #[val, .int .i64 0, .int .i64 0]) ∧ w'.ownsRow w.heap.size 5 1 val p.length (Lib.byteCells p) ∧ Below w.heap.size w w' := by
  obtain ⟨i0, hi, hz0, hz1, hz2⟩ := info_parts inf5
  have hlt6 := six_lt p
  have hl6 := six_length p
  have hb6 := bytesOf_six p
  obtain ⟨v, hv⟩ : ∃ v, v = six p := ⟨_, rfl⟩
  rw [← hv] at hlt6 hl6 hb6 hs
  clear hv
  have hv6 : v.length ≤ 60000 := by omega
  have hv4 : v.length % 4 ≠ 1 := by omega
  have hv4' : ((v.length : Int) % 4 == 1) = false := by
    rw [beq_eq_false_iff_ne]
    omega
  have hbh : Hid (bytesOf v 0 0 = (p, 0)) := hb6
  have hl6h : Hid (v.length = (4 * p.length + 2) / 3) := hl6
  clear hb6 hl6 hv4
  go_enter Tryz.func79, Tryz.ntmps79
  go_wp2_with (go_at_call 127; refine (values_calls v hlt6 _ s hs hv6 (by decide) alpha_place _).mono ?_)
  rintro e w1 ⟨val, rfl, hown, hb1⟩
  clear hs
  have hvp : 0 < v.length := by have := show v.length = _ from hl6h; omega
  obtain ⟨g, cap, rfl, hg1, hg2, hcells⟩ := own_cells hown hvp
  go_wp2
  go_loopw [8, 9, 10, 31] (fun o n h i wr => ∃ (k m N H : Nat) (O : List UInt8), k ≤ v.length ∧ i = .int .i64 k ∧ n = .int .i64 N ∧ h = .int .i64 H ∧ (H = 0 ∨ H = 2 ∨ H = 4 ∨ H = 6) ∧ N < 2 ^ H ∧ m ≤ k ∧ Hid (m = O.length) ∧
      Hid (O ++ (bytesOf (v.drop k) N H).1 = p ∧ (bytesOf (v.drop k) N H).2 = 0) ∧ wr.ownsRow w1.heap.size 5 1 o m (Lib.byteCells O) ∧ Below w1.heap.size w1 wr) (fun _ _ _ i _ => v.length - (intOf i).toNat)
  case atStart => exact ⟨0, 0, 0, 0, [], Nat.zero_le _, rfl, rfl, rfl, Or.inl rfl, by decide, Nat.zero_le _, rfl, (by show _ ∧ _; rw [List.drop_zero, show _ = _ from hbh]; exact ⟨rfl, rfl⟩), World.ownsRow_nil _ _ _ _, Below.refl _ _⟩
  case round =>
    obtain ⟨k, m, N, H, O, hk, rfl, rfl, rfl, hH, hN, hmk, hm, hO, hown, hbw⟩ := hrel
    by_cases hlt : k < v.length
    · have hlt' : (k : Int) < (v.length : Int) := by omega
      obtain ⟨x, hx⟩ : ∃ x, x = v[k] := ⟨_, rfl⟩
      have hx64 : x < 64 := by rw [hx]; exact hlt6 _ (List.getElem_mem hlt)
      have hdr : v.drop k = x :: v.drop (k + 1) := by rw [hx]; exact List.drop_eq_getElem_cons hlt
      have hcx : wr.cell? ⟨g, k, none⟩ = some (.int .i64 (x : Int)) := (hbw.cell (by exact hg2)).trans (hcells k _ (by rw [List.getElem?_map, List.getElem?_eq_getElem hlt, hx]; rfl))
      have hNs : N < 64 := by rcases hH with rfl | rfl | rfl | rfl <;> omega
      have hor := or_64 N x (by omega) hx64
      obtain ⟨M, hM⟩ : ∃ M, M = N * 64 + x := ⟨_, rfl⟩
      rw [← hM] at hor
      have hO1 : O ++ (bytesOf (v.drop k) N H).1 = p ∧ (bytesOf (v.drop k) N H).2 = 0 := hO
      rw [hdr] at hO1
      have hMs : M < 4096 := by omega
      clear hx hdr
      rcases hH with rfl | rfl | rfl | rfl
      · rw [bytes_step0, ← hM] at hO1
        have hM64 : M < 64 := by omega
        have hOh : Hid _ := hO1
        clear hO1 hO hM
        go_wp2
        go_roundw
        case rel => exact ⟨k + 1, m, M, 6, O, by omega, by go_num, rfl, rfl, by omega, hM64, by omega, hm, hOh, hown, hbw⟩
        case measure => simp only [intOf]; omega
      · rw [bytes_step _ _ _ _ (by omega), ← hM] at hO1
        obtain ⟨y, hy⟩ : ∃ y, y = UInt8.ofNat (M / 2 ^ (2 - 2)) := ⟨_, rfl⟩
        obtain ⟨R, hR⟩ : ∃ R, R = M % 2 ^ (2 - 2) := ⟨_, rfl⟩
        rw [← hy, ← hR] at hO1
        have hby : (M : Int) % 256 = (y.toNat : Int) := by
          rw [hy, UInt8.toNat_ofNat']
          simp only [Nat.reduceSub, Nat.reducePow]
          omega
        have hRl : R < 1 := by rw [hR]; exact Nat.mod_lt _ (by decide)
        have hand : bits .and .i64 (M : Int) 0 = (R : Int) := by
          have h := and_pow M 0 (by omega) (by omega)
          rw [show ((2 : Int) ^ 0 - 1) = 0 from by decide] at h
          rw [h, hR]
        have hOh : Hid _ := hO1
        clear hO1 hO hM hy hR
        go_wp2_with (at_builtin; refine wpList_append_own _ rfl _ _ 50 rfl w1.heap.size 5 i0 (.int .u8 0) 1 1 Tryz.underlying50 hi hz0 hz1 hz2 rfl (by decide) _ _ _ rfl (hown.alloc _) ⟨_, 0, none⟩ 1 1 [.int .u8 y.toNat] rfl rfl (one_cell _ _ _) (by intro u hu; simp at hu; subst hu; rfl) (by unfold maxLen; omega) (by omega) (by have := hbw.size; simp; omega) ?_)
        intro v' w2 hown' hgrow _
        have Q := own_push (m := [y]) hbw.size hown hbw hown' hgrow
        have hOl := show m = O.length from hm
        have hm2 : Hid (m + 1 = (O ++ [y]).length) := by
          show m + 1 = _
          rw [List.length_append, hOl]
          rfl
        have hO2 : Hid ((O ++ [y]) ++ (bytesOf (v.drop (k + 1)) R 0).1 = p ∧ (bytesOf (v.drop (k + 1)) R 0).2 = 0) := by
          have h := show _ ∧ _ from hOh
          refine ⟨?_, h.2⟩
          rw [← h.1, List.append_assoc]
          rfl
        clear hown' hgrow hown hOl hm hOh
        go_wp2
        go_roundw
        case rel => exact ⟨k + 1, m + 1, R, 0, O ++ [y], by omega, by go_num, rfl, rfl, by omega, hRl, by omega, hm2, hO2, Q.1, Q.2⟩
        case measure => simp only [intOf]; omega
      · rw [bytes_step _ _ _ _ (by omega), ← hM] at hO1
        obtain ⟨y, hy⟩ : ∃ y, y = UInt8.ofNat (M / 2 ^ (4 - 2)) := ⟨_, rfl⟩
        obtain ⟨R, hR⟩ : ∃ R, R = M % 2 ^ (4 - 2) := ⟨_, rfl⟩
        rw [← hy, ← hR] at hO1
        have hby : (M : Int) / 4 % 256 = (y.toNat : Int) := by
          rw [hy, UInt8.toNat_ofNat']
          simp only [Nat.reduceSub, Nat.reducePow]
          omega
        have hRl : R < 4 := by rw [hR]; exact Nat.mod_lt _ (by decide)
        have hand : bits .and .i64 (M : Int) 3 = (R : Int) := by
          have h := and_pow M 2 (by omega) (by omega)
          rw [show ((2 : Int) ^ 2 - 1) = 3 from by decide] at h
          rw [h, hR]
        have hOh : Hid _ := hO1
        clear hO1 hO hM hy hR
        go_wp2_with (at_builtin; refine wpList_append_own _ rfl _ _ 50 rfl w1.heap.size 5 i0 (.int .u8 0) 1 1 Tryz.underlying50 hi hz0 hz1 hz2 rfl (by decide) _ _ _ rfl (hown.alloc _) ⟨_, 0, none⟩ 1 1 [.int .u8 y.toNat] rfl rfl (one_cell _ _ _) (by intro u hu; simp at hu; subst hu; rfl) (by unfold maxLen; omega) (by omega) (by have := hbw.size; simp; omega) ?_)
        intro v' w2 hown' hgrow _
        have Q := own_push (m := [y]) hbw.size hown hbw hown' hgrow
        have hOl := show m = O.length from hm
        have hm2 : Hid (m + 1 = (O ++ [y]).length) := by
          show m + 1 = _
          rw [List.length_append, hOl]
          rfl
        have hO2 : Hid ((O ++ [y]) ++ (bytesOf (v.drop (k + 1)) R 2).1 = p ∧ (bytesOf (v.drop (k + 1)) R 2).2 = 0) := by
          have h := show _ ∧ _ from hOh
          refine ⟨?_, h.2⟩
          rw [← h.1, List.append_assoc]
          rfl
        clear hown' hgrow hown hOl hm hOh
        go_wp2
        go_roundw
        case rel => exact ⟨k + 1, m + 1, R, 2, O ++ [y], by omega, by go_num, rfl, rfl, by omega, hRl, by omega, hm2, hO2, Q.1, Q.2⟩
        case measure => simp only [intOf]; omega
      · rw [bytes_step _ _ _ _ (by omega), ← hM] at hO1
        obtain ⟨y, hy⟩ : ∃ y, y = UInt8.ofNat (M / 2 ^ (6 - 2)) := ⟨_, rfl⟩
        obtain ⟨R, hR⟩ : ∃ R, R = M % 2 ^ (6 - 2) := ⟨_, rfl⟩
        rw [← hy, ← hR] at hO1
        have hby : (M : Int) / 16 = (y.toNat : Int) := by
          rw [hy, UInt8.toNat_ofNat']
          simp only [Nat.reduceSub, Nat.reducePow]
          omega
        have hRl : R < 16 := by rw [hR]; exact Nat.mod_lt _ (by decide)
        have hand : bits .and .i64 (M : Int) 15 = (R : Int) := by
          have h := and_pow M 4 (by omega) (by omega)
          rw [show ((2 : Int) ^ 4 - 1) = 15 from by decide] at h
          rw [h, hR]
        have hOh : Hid _ := hO1
        clear hO1 hO hM hy hR
        go_wp2_with (at_builtin; refine wpList_append_own _ rfl _ _ 50 rfl w1.heap.size 5 i0 (.int .u8 0) 1 1 Tryz.underlying50 hi hz0 hz1 hz2 rfl (by decide) _ _ _ rfl (hown.alloc _) ⟨_, 0, none⟩ 1 1 [.int .u8 y.toNat] rfl rfl (one_cell _ _ _) (by intro u hu; simp at hu; subst hu; rfl) (by unfold maxLen; omega) (by omega) (by have := hbw.size; simp; omega) ?_)
        intro v' w2 hown' hgrow _
        have Q := own_push (m := [y]) hbw.size hown hbw hown' hgrow
        have hOl := show m = O.length from hm
        have hm2 : Hid (m + 1 = (O ++ [y]).length) := by
          show m + 1 = _
          rw [List.length_append, hOl]
          rfl
        have hO2 : Hid ((O ++ [y]) ++ (bytesOf (v.drop (k + 1)) R 4).1 = p ∧ (bytesOf (v.drop (k + 1)) R 4).2 = 0) := by
          have h := show _ ∧ _ from hOh
          refine ⟨?_, h.2⟩
          rw [← h.1, List.append_assoc]
          rfl
        clear hown' hgrow hown hOl hm hOh
        go_wp2
        go_roundw
        case rel => exact ⟨k + 1, m + 1, R, 4, O ++ [y], by omega, by go_num, rfl, rfl, by omega, hRl, by omega, hm2, hO2, Q.1, Q.2⟩
        case measure => simp only [intOf]; omega
    · have hge : ¬ (k : Int) < (v.length : Int) := by omega
      obtain rfl : k = v.length := by omega
      have hO1 : O ++ (bytesOf (v.drop v.length) N H).1 = p ∧ (bytesOf (v.drop v.length) N H).2 = 0 := hO
      rw [List.drop_length] at hO1
      simp only [bytesOf, List.append_nil] at hO1
      obtain ⟨rfl, rfl⟩ := hO1
      have hm' := show m = O.length from hm
      rw [hm'] at hown
      clear hm'
      go_wp2
      go_ret3
      exact ⟨_, rfl, own_mono hown hb1.size, hb1.trans (hbw.mono hb1.size)⟩
end Go.Proofs.YtdjaccnocaffjaaGreatDoor
