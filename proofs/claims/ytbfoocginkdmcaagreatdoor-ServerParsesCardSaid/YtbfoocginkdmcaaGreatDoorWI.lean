/-
  The reference's letters read: value, read (base64).
-/
import Derived.Test.YtbfoocginkdmcaaGreatDoorWD
import Derived.Test.YtbfoocginkdmcaaGreatDoorWC
import Derived.Test.YtbfoocginkdmcaaGreatDoorWE
import Derived.Test.YtbfoocginkdmcaaGreatDoorWG

set_option linter.unusedVariables false
set_option maxRecDepth 100000
set_option maxHeartbeats 1000000
namespace Go.Proofs.YtbfoocginkdmcaaGreatDoor
open Go Go.RowKit Go.Basic Go.Scr
theorem value_calls (c : UInt8) (w : World) : Calls Tryz.prog 190 #[.int .u8 c.toNat, .int .i64 64, .bool false] w fun e w' => e = .returned (.int .i64 (valZ c)) ∧ w' = w := by
  go_enter Tryz.func190, Tryz.ntmps190
  go_wp2
  go_loop [7] (fun n => ∃ k : Nat, k ≤ 64 ∧ n = .int .i64 k ∧ Hid (∀ j, j < k → letU j ≠ c)) (fun n => 64 - (intOf n).toNat)
  case atStart => exact ⟨0, by omega, rfl, fun j h => absurd h (Nat.not_lt_zero _)⟩
  case round =>
    obtain ⟨k, hk, rfl, hI⟩ := hrel
    by_cases hp : k < 64
    · have hp' : (k : Int) < 64 := by omega
      by_cases he : letU k = c
      · have hb : (((letU k).toNat : Int) == (c.toNat : Int)) = true := by rw [he]; simp
        have hz : valZ c = (k : Int) := by
          unfold valZ
          rw [← he, valU_let k hp]
        have hzh : Hid (valZ c = (k : Int)) := hz
        clear he hz
        go_wp2_with (go_at_call 113; refine (letter_calls k hp _).mono ?_; rintro e w1 ⟨rfl, rfl⟩)
        go_ret
        rw [show valZ c = _ from hzh]
        exact ⟨rfl, rfl⟩
      · have hb : (((letU k).toNat : Int) == (c.toNat : Int)) = false := by
          rw [beq_eq_false_iff_ne]
          intro e
          exact he (toNat_eq (by omega))
        have hI2 : Hid (∀ j, j < k + 1 → letU j ≠ c) := by
          intro j hj
          rcases Nat.lt_or_ge j k with h | h
          · exact hI j h
          · obtain rfl : j = k := by omega
            exact he
        clear he
        go_wp2_with (go_at_call 113; refine (letter_calls k hp _).mono ?_; rintro e w1 ⟨rfl, rfl⟩)
        go_round
        case rel => exact ⟨k + 1, by omega, by go_num, hI2⟩
        case measure => simp only [intOf]; omega
    · obtain rfl : k = 64 := by omega
      have hz : valZ c = -1 := by
        unfold valZ
        cases hv : valU c with
        | none => rfl
        | some n =>
          obtain ⟨h1, h2⟩ := valU_inv hv
          exact absurd h2 (hI n h1)
      have hzh : Hid (valZ c = -1) := hz
      clear hz
      go_wp2
      go_ret
      rw [show valZ c = _ from hzh]
      exact ⟨rfl, rfl⟩
end Go.Proofs.YtbfoocginkdmcaaGreatDoor

/-
  The reference's base64 read, any text.
-/

set_option linter.unusedVariables false
set_option maxRecDepth 100000
set_option maxHeartbeats 4000000
namespace Go.Proofs.YtbfoocginkdmcaaGreatDoor
open Go Go.RowKit Go.Basic Go.Scr
theorem bits_get (n j : Nat) (hj : j < 6) : (bits6 n).take (j + 1) = (bits6 n).take j ++ [n / 2 ^ (5 - j) % 2] := by
  rcases (show j = 0 ∨ j = 1 ∨ j = 2 ∨ j = 3 ∨ j = 4 ∨ j = 5 by omega) with rfl | rfl | rfl | rfl | rfl | rfl <;> simp [bits6]
theorem ic_app (a b : List Nat) : ic (a ++ b) = ic a ++ ic b := by simp [ic]
theorem own_bit {B : Nat} {w wx w2 : World} {v v' : Value} {l : List Nat} {n n' b : Nat} {x : Int} (hx : x = (b : Int)) (hB : B ≤ wx.heap.size) (hown : wx.ownsRow B 3 1 v n (ic l)) (hb : Below B w wx)
    (hown' : w2.ownsRow B 3 1 v' n' (ic l ++ [.int .i64 x])) (hg : (wx.alloc (.cells #[.int .i64 x] 3)).grownBy w2 v.ownBlock) : w2.ownsRow B 3 1 v' n' (ic (l ++ [b])) ∧ Below B w w2 := by
  subst hx
  refine ⟨?_, (hb.alloc hB _).grown hg (by simp; omega) fun j hj => (hown.lt j hj).1⟩
  rw [ic_app]
  exact hown'
theorem read_short (s : ByteArray) (hle : s.size ≤ 65536) (w : World) :
    Calls Tryz.prog 122 #[.string s, .bool false] w fun e w' => FbOut w.heap.size s.data.toList e w' ∧ Below w.heap.size w w' := by
  obtain ⟨i3, hi3, hz30, hz31, hz32⟩ := info_parts inf3
  obtain ⟨i5, hi5, hz50, hz51, hz52⟩ := info_parts inf5
  have hsl : s.data.toList.length = s.size := by simp
  have hleI : ¬ (65536 : Int) < (s.size : Int) := by omega
  go_enter Tryz.func122, Tryz.ntmps122
  go_wp2
  go_loopw [9, 10] (fun o i wr => ∃ (k nb : Nat) (v : List Nat), k ≤ s.size ∧ i = .int .i64 k ∧ Hid (valsU s.data.toList = (valsU (s.data.toList.drop k)).map (v ++ ·)) ∧ Hid (v.length = k ∧ nb = 6 * k) ∧ nb ≤ 393216 ∧ wr.ownsRow w.heap.size 3 1 o nb (ic (allBits v)) ∧ Below w.heap.size w wr) (fun _ i _ => s.size - (intOf i).toNat)
  case atStart => exact ⟨0, 0, [], Nat.zero_le _, rfl, (by show _ = _; simp), ⟨rfl, rfl⟩, by omega, World.ownsRow_nil _ _ _ _, Below.refl _ _⟩
  case round =>
    obtain ⟨k, nb, v, hk, rfl, hI, hvl, hnb, hown, hbw⟩ := hrel
    by_cases hlt : k < s.size
    · have hlt' : (k : Int) < (s.size : Int) := by omega
      have hd := drop_at s k hlt
      have hI' : valsU s.data.toList = (valsU (s.data.toList.drop k)).map (v ++ ·) := hI
      rw [hd] at hI'
      have hp := fun W => value_calls s[k] W
      cases hv : valU s[k] with
      | none =>
        rw [vals_none hv] at hI'
        have hz : valZ s[k] = -1 := by unfold valZ; rw [hv]
        rw [hz] at hp
        have hd64 : dec64 s.data.toList = none := by
          unfold dec64
          rw [if_neg (by omega), hI']
          rfl
        have hh : Hid (dec64 s.data.toList = none) := hd64
        clear hI' hI hd hv hz hd64
        go_wp2_with (go_at_call 190; refine (hp _).mono ?_; clear hp; rintro e w1 ⟨rfl, rfl⟩)
        go_ret3
        exact ⟨.inl ⟨hh, _, _, rfl, by decide⟩, hbw⟩
      | some n =>
        rw [vals_some hv, Option.map_map] at hI'
        have hn64 := (valU_inv hv).1
        have hz : valZ s[k] = (n : Int) := by unfold valZ; rw [hv]
        rw [hz] at hp
        have hI2 : Hid (valsU s.data.toList = (valsU (s.data.toList.drop (k + 1))).map ((v ++ [n]) ++ ·)) := by
          show _ = _
          rw [hI']
          congr 1
          funext x
          simp
        have hvl1 : v.length = k ∧ nb = 6 * k := hvl
        have hvl2 : Hid ((v ++ [n]).length = k + 1 ∧ nb + 6 = 6 * (k + 1)) := by
          refine ⟨?_, by omega⟩
          rw [List.length_append, hvl1.1]
          rfl
        have hnb2 : nb + 6 ≤ 393216 := by omega
        clear hI' hI hd hv hz hvl hvl1
        go_wp2_with (go_at_call 190; refine (hp _).mono ?_; clear hp; rintro e w1 ⟨rfl, rfl⟩)
        go_loopw [9, 12] (fun o q wx => ∃ (j : Nat) (z : Int), j ≤ 6 ∧ z + (j : Int) = 5 ∧ q = .int .i64 z ∧ wx.ownsRow w.heap.size 3 1 o (nb + j) (ic (allBits v ++ (bits6 n).take j)) ∧ Below w.heap.size w wx) (fun _ q _ => (intOf q + 1).toNat)
        case atStart => exact ⟨0, 5, by omega, by omega, rfl, (by simpa using hown), hbw⟩
        case round =>
          clear hown hbw
          obtain ⟨j, z, hj, hzj, rfl, hown, hbw⟩ := hrel
          by_cases hj6 : j < 6
          · have hbg := bits_get n j hj6
            rcases (show j = 0 ∨ j = 1 ∨ j = 2 ∨ j = 3 ∨ j = 4 ∨ j = 5 by omega) with rfl | rfl | rfl | rfl | rfl | rfl
            · obtain rfl : z = 5 := by omega
              obtain ⟨X, hX⟩ : ∃ X, X = allBits v ++ (bits6 n).take 0 := ⟨_, rfl⟩
              have hXn : Hid (allBits v ++ (bits6 n).take (0 + 1) = X ++ [n / 2 ^ (5 - 0) % 2]) := by
                show _ = _
                rw [hbg, ← List.append_assoc, hX]
              rw [← hX] at hown
              clear hzj hbg hX
              go_wp2_with (at_builtin; refine wpList_append_own _ rfl _ _ 32 rfl w.heap.size 3 i3 (.int .i64 0) 1 8 Tryz.underlying32 hi3 hz30 hz31 hz32 rfl (by decide) _ (nb + 0) _ rfl (hown.alloc _) ⟨_, 0, none⟩ 1 1 [.int .i64 _] rfl rfl (one_cell _ _ _) (by intro u hu; simp at hu; subst hu; rfl) (by unfold maxLen; omega) (by omega) (by have := hbw.size; simp; omega) ?_)
              intro v' w2 hown' hgrow _
              have hx : ((n : Int) / 32 % 2) = ((n / 2 ^ (5 - 0) % 2 : Nat) : Int) := by
                simp only [Nat.reduceSub, Nat.reducePow]
                omega
              have Q := own_bit (b := n / 2 ^ (5 - 0) % 2) (by first | rfl | exact hx) hbw.size hown hbw hown' hgrow
              rw [← show _ = _ from hXn] at Q
              clear hown' hgrow hown hx hXn
              go_wp2
              go_roundw
              case rel => exact ⟨1, 4, by omega, by omega, by go_num, Q.1, Q.2⟩
              case measure => simp only [intOf]; omega
            · obtain rfl : z = 4 := by omega
              obtain ⟨X, hX⟩ : ∃ X, X = allBits v ++ (bits6 n).take 1 := ⟨_, rfl⟩
              have hXn : Hid (allBits v ++ (bits6 n).take (1 + 1) = X ++ [n / 2 ^ (5 - 1) % 2]) := by
                show _ = _
                rw [hbg, ← List.append_assoc, hX]
              rw [← hX] at hown
              clear hzj hbg hX
              go_wp2_with (at_builtin; refine wpList_append_own _ rfl _ _ 32 rfl w.heap.size 3 i3 (.int .i64 0) 1 8 Tryz.underlying32 hi3 hz30 hz31 hz32 rfl (by decide) _ (nb + 1) _ rfl (hown.alloc _) ⟨_, 0, none⟩ 1 1 [.int .i64 _] rfl rfl (one_cell _ _ _) (by intro u hu; simp at hu; subst hu; rfl) (by unfold maxLen; omega) (by omega) (by have := hbw.size; simp; omega) ?_)
              intro v' w2 hown' hgrow _
              have hx : ((n : Int) / 16 % 2) = ((n / 2 ^ (5 - 1) % 2 : Nat) : Int) := by
                simp only [Nat.reduceSub, Nat.reducePow]
                omega
              have Q := own_bit (b := n / 2 ^ (5 - 1) % 2) (by first | rfl | exact hx) hbw.size hown hbw hown' hgrow
              rw [← show _ = _ from hXn] at Q
              clear hown' hgrow hown hx hXn
              go_wp2
              go_roundw
              case rel => exact ⟨2, 3, by omega, by omega, by go_num, Q.1, Q.2⟩
              case measure => simp only [intOf]; omega
            · obtain rfl : z = 3 := by omega
              obtain ⟨X, hX⟩ : ∃ X, X = allBits v ++ (bits6 n).take 2 := ⟨_, rfl⟩
              have hXn : Hid (allBits v ++ (bits6 n).take (2 + 1) = X ++ [n / 2 ^ (5 - 2) % 2]) := by
                show _ = _
                rw [hbg, ← List.append_assoc, hX]
              rw [← hX] at hown
              clear hzj hbg hX
              go_wp2_with (at_builtin; refine wpList_append_own _ rfl _ _ 32 rfl w.heap.size 3 i3 (.int .i64 0) 1 8 Tryz.underlying32 hi3 hz30 hz31 hz32 rfl (by decide) _ (nb + 2) _ rfl (hown.alloc _) ⟨_, 0, none⟩ 1 1 [.int .i64 _] rfl rfl (one_cell _ _ _) (by intro u hu; simp at hu; subst hu; rfl) (by unfold maxLen; omega) (by omega) (by have := hbw.size; simp; omega) ?_)
              intro v' w2 hown' hgrow _
              have hx : ((n : Int) / 8 % 2) = ((n / 2 ^ (5 - 2) % 2 : Nat) : Int) := by
                simp only [Nat.reduceSub, Nat.reducePow]
                omega
              have Q := own_bit (b := n / 2 ^ (5 - 2) % 2) (by first | rfl | exact hx) hbw.size hown hbw hown' hgrow
              rw [← show _ = _ from hXn] at Q
              clear hown' hgrow hown hx hXn
              go_wp2
              go_roundw
              case rel => exact ⟨3, 2, by omega, by omega, by go_num, Q.1, Q.2⟩
              case measure => simp only [intOf]; omega
            · obtain rfl : z = 2 := by omega
              obtain ⟨X, hX⟩ : ∃ X, X = allBits v ++ (bits6 n).take 3 := ⟨_, rfl⟩
              have hXn : Hid (allBits v ++ (bits6 n).take (3 + 1) = X ++ [n / 2 ^ (5 - 3) % 2]) := by
                show _ = _
                rw [hbg, ← List.append_assoc, hX]
              rw [← hX] at hown
              clear hzj hbg hX
              go_wp2_with (at_builtin; refine wpList_append_own _ rfl _ _ 32 rfl w.heap.size 3 i3 (.int .i64 0) 1 8 Tryz.underlying32 hi3 hz30 hz31 hz32 rfl (by decide) _ (nb + 3) _ rfl (hown.alloc _) ⟨_, 0, none⟩ 1 1 [.int .i64 _] rfl rfl (one_cell _ _ _) (by intro u hu; simp at hu; subst hu; rfl) (by unfold maxLen; omega) (by omega) (by have := hbw.size; simp; omega) ?_)
              intro v' w2 hown' hgrow _
              have hx : ((n : Int) / 4 % 2) = ((n / 2 ^ (5 - 3) % 2 : Nat) : Int) := by
                simp only [Nat.reduceSub, Nat.reducePow]
                omega
              have Q := own_bit (b := n / 2 ^ (5 - 3) % 2) (by first | rfl | exact hx) hbw.size hown hbw hown' hgrow
              rw [← show _ = _ from hXn] at Q
              clear hown' hgrow hown hx hXn
              go_wp2
              go_roundw
              case rel => exact ⟨4, 1, by omega, by omega, by go_num, Q.1, Q.2⟩
              case measure => simp only [intOf]; omega
            · obtain rfl : z = 1 := by omega
              obtain ⟨X, hX⟩ : ∃ X, X = allBits v ++ (bits6 n).take 4 := ⟨_, rfl⟩
              have hXn : Hid (allBits v ++ (bits6 n).take (4 + 1) = X ++ [n / 2 ^ (5 - 4) % 2]) := by
                show _ = _
                rw [hbg, ← List.append_assoc, hX]
              rw [← hX] at hown
              clear hzj hbg hX
              go_wp2_with (at_builtin; refine wpList_append_own _ rfl _ _ 32 rfl w.heap.size 3 i3 (.int .i64 0) 1 8 Tryz.underlying32 hi3 hz30 hz31 hz32 rfl (by decide) _ (nb + 4) _ rfl (hown.alloc _) ⟨_, 0, none⟩ 1 1 [.int .i64 _] rfl rfl (one_cell _ _ _) (by intro u hu; simp at hu; subst hu; rfl) (by unfold maxLen; omega) (by omega) (by have := hbw.size; simp; omega) ?_)
              intro v' w2 hown' hgrow _
              have hx : ((n : Int) / 2 % 2) = ((n / 2 ^ (5 - 4) % 2 : Nat) : Int) := by
                simp only [Nat.reduceSub, Nat.reducePow]
                omega
              have Q := own_bit (b := n / 2 ^ (5 - 4) % 2) (by first | rfl | exact hx) hbw.size hown hbw hown' hgrow
              rw [← show _ = _ from hXn] at Q
              clear hown' hgrow hown hx hXn
              go_wp2
              go_roundw
              case rel => exact ⟨5, 0, by omega, by omega, by go_num, Q.1, Q.2⟩
              case measure => simp only [intOf]; omega
            · obtain rfl : z = 0 := by omega
              obtain ⟨X, hX⟩ : ∃ X, X = allBits v ++ (bits6 n).take 5 := ⟨_, rfl⟩
              have hXn : Hid (allBits v ++ (bits6 n).take (5 + 1) = X ++ [n / 2 ^ (5 - 5) % 2]) := by
                show _ = _
                rw [hbg, ← List.append_assoc, hX]
              rw [← hX] at hown
              clear hzj hbg hX
              go_wp2_with (at_builtin; refine wpList_append_own _ rfl _ _ 32 rfl w.heap.size 3 i3 (.int .i64 0) 1 8 Tryz.underlying32 hi3 hz30 hz31 hz32 rfl (by decide) _ (nb + 5) _ rfl (hown.alloc _) ⟨_, 0, none⟩ 1 1 [.int .i64 _] rfl rfl (one_cell _ _ _) (by intro u hu; simp at hu; subst hu; rfl) (by unfold maxLen; omega) (by omega) (by have := hbw.size; simp; omega) ?_)
              intro v' w2 hown' hgrow _
              have hx : ((n : Int) % 2) = ((n / 2 ^ (5 - 5) % 2 : Nat) : Int) := by
                simp only [Nat.reduceSub, Nat.reducePow]
                omega
              have Q := own_bit (b := n / 2 ^ (5 - 5) % 2) (by first | rfl | exact hx) hbw.size hown hbw hown' hgrow
              rw [← show _ = _ from hXn] at Q
              clear hown' hgrow hown hx hXn
              go_wp2
              go_roundw
              case rel => exact ⟨6, -1, by omega, by omega, by go_num, Q.1, Q.2⟩
              case measure => simp only [intOf]; omega
          · obtain rfl : j = 6 := by omega
            obtain rfl : z = -1 := by omega
            have hown2 : wr.ownsRow w.heap.size 3 1 u9 (nb + 6) (ic (allBits (v ++ [n]))) := by
              rw [allBits_snoc]
              exact hown
            clear hzj hown
            go_wp2
            go_roundw
            case rel => exact ⟨k + 1, nb + 6, v ++ [n], by omega, by go_num, hI2, hvl2, hnb2, hown2, hbw⟩
            case measure => simp only [intOf]; omega
    · have hge : ¬ (k : Int) < (s.size : Int) := by omega
      obtain rfl : k = s.size := by omega
      have hI' : valsU s.data.toList = (valsU (s.data.toList.drop s.size)).map (v ++ ·) := hI
      rw [List.drop_eq_nil_of_le (by simp)] at hI'
      have hv : valsU s.data.toList = some v := by
        rw [hI']
        simp [valsU]
      have hvl' : v.length = s.size ∧ nb = 6 * s.size := hvl
      clear hI' hI hvl
      by_cases hm4 : v.length % 4 = 1
      · have hd : dec64 s.data.toList = none := by
          unfold dec64
          rw [if_neg (by omega), hv]
          simp only
          rw [if_pos hm4]
        have hm4a : ((s.size : Int) % 4 == 1) = true := by
          rw [beq_iff_eq]
          omega
        have hm4b : (s.size : Int) % 4 = 1 := by omega
        clear hm4 hvl' hv
        go_wp2
        go_ret3
        exact ⟨.inl ⟨hd, _, _, rfl, by decide⟩, hbw⟩
      · have hm4a : ((s.size : Int) % 4 == 1) = false := by
          rw [beq_eq_false_iff_ne]
          omega
        have hm4b : ¬ (s.size : Int) % 4 = 1 := by omega
        have hlt64 := (vals_length _ v hv).2
        obtain ⟨B, hBv⟩ : ∃ B, B = allBits v := ⟨_, rfl⟩
        have hBl : B.length = nb := by rw [hBv, allBits_len]; omega
        have hB1 : ∀ x ∈ B, x ≤ 1 := by rw [hBv]; exact allBits_one v
        obtain ⟨P, R0, hch⟩ : ∃ P R0, chunk B = (P, R0) := ⟨_, _, rfl⟩
        have hdec : dec64 s.data.toList = if R0 ≠ 0 then none else some P := by
          unfold dec64
          rw [if_neg (by omega), hv]
          simp only
          rw [if_neg hm4, bytes_bits v hlt64, ← hBv, hch]
        rw [← hBv] at hown
        have hdh : Hid (dec64 s.data.toList = if R0 ≠ 0 then none else some P) := hdec
        have hchh : Hid (chunk B = (P, R0)) := hch
        have hBlh : Hid (B.length = nb) := hBl
        have hnbI : (nb : Int) ≤ 393216 := by omega
        obtain ⟨a1, c1, rfl⟩ := own_slc hown
        obtain ⟨wB, hwB⟩ : ∃ x, x = wr := ⟨_, rfl⟩
        subst hwB
        have hcell : ∀ w' : World, Below wB.heap.size wB w' → ∀ (c x : Nat), B[c]? = some x → ∃ g, a1 = some ⟨g, 0, none⟩ ∧ w'.cell? ⟨g, c, none⟩ = some (.int .i64 (x : Int)) := by
          intro w' hb c x hx
          have hc : c < B.length := (List.getElem?_eq_some_iff.1 hx).1
          obtain ⟨g, cap, hsl, hg1, hg2, hcells⟩ := own_cells hown (by omega)
          cases hsl
          exact ⟨g, rfl, (hb.cell (p := ⟨g, c, none⟩) hg2).trans (hcells c _ (by rw [List.getElem?_map, hx]; rfl))⟩
        have hszw := hbw.size
        clear hm4 hvl' hv hdec hch hBl hBv hlt64 hown
        go_wp2
        go_loopw [13, 14] (fun o i wz => ∃ (m : Nat) (O : List UInt8), 8 * m ≤ nb ∧ i = .int .i64 (8 * (m : Int)) ∧ Hid (O.length = m) ∧ Hid (O ++ (chunk (B.drop (8 * m))).1 = P ∧ (chunk (B.drop (8 * m))).2 = R0) ∧ wz.ownsRow wB.heap.size 5 1 o m (Lib.byteCells O) ∧ Below wB.heap.size wB wz) (fun _ i _ => nb - (intOf i).toNat)
        case atStart => exact ⟨0, [], by omega, rfl, rfl, (by show _ ∧ _; rw [show 8 * 0 = 0 from rfl, List.drop_zero, show chunk B = _ from hchh]; exact ⟨rfl, rfl⟩), World.ownsRow_nil _ _ _ _, Below.refl _ _⟩
        case round =>
          obtain ⟨m, O, hm, rfl, hOl, hO, hown, hbx⟩ := hrel
          by_cases hlt : 8 * m + 8 ≤ nb
          · have hlt' : 8 * (m : Int) + 8 ≤ (nb : Int) := by omega
            have hBl := show B.length = nb from hBlh
            obtain ⟨D, hD⟩ : ∃ D, D = (B.drop (8 * m)).take 8 := ⟨_, rfl⟩
            have hDl : D.length = 8 := by rw [hD, List.length_take, List.length_drop]; omega
            have hDg : ∀ c, c < 8 → B[8 * m + c]? = D[c]? := by
              intro c hc
              rw [hD, List.getElem?_take, if_pos hc, List.getElem?_drop]
            have hD1 : ∀ x ∈ D, x ≤ 1 := by
              intro x hx
              rw [hD] at hx
              exact hB1 x (List.mem_of_mem_drop (List.mem_of_mem_take hx))
            have hO' : O ++ (chunk (B.drop (8 * m))).1 = P ∧ (chunk (B.drop (8 * m))).2 = R0 := hO
            rw [chunk_ge (by rw [List.length_drop]; omega), ← hD, List.drop_drop, show 8 * m + 8 = 8 * (m + 1) from by omega] at hO'
            have hON : Hid ((O ++ [UInt8.ofNat (bv D)]) ++ (chunk (B.drop (8 * (m + 1)))).1 = P ∧ (chunk (B.drop (8 * (m + 1)))).2 = R0) := by
              refine ⟨?_, hO'.2⟩
              rw [← hO'.1, List.append_assoc]
              rfl
            have hbvD : bv D < 256 := by have := bv_lt D hD1; rw [hDl] at this; exact this
            have hDlh : Hid (D.length = 8) := hDl
            clear hO hO' hD
            go_wp2
            go_loopw [15, 16] (fun x q wy => ∃ c : Nat, c ≤ 8 ∧ q = .int .i64 c ∧ x = .int .i64 (bv (D.take c) : Nat) ∧ wy = wr) (fun _ q _ => 8 - (RowKit.intOf q).toNat)
            case atStart => exact ⟨0, by omega, rfl, rfl, rfl⟩
            case round =>
              obtain ⟨c, hc, rfl, rfl, rfl⟩ := hrel
              by_cases hc8 : c < 8
              · have hc8' : (c : Int) < 8 := by omega
                obtain ⟨b, hb⟩ : ∃ b, D[c]? = some b := ⟨D[c]'(by rw [show D.length = 8 from hDlh]; exact hc8), List.getElem?_eq_getElem _⟩
                have hb1 : b ≤ 1 := hD1 b (List.mem_of_getElem? hb)
                obtain ⟨g, eg, hcg⟩ := hcell wr hbx (8 * m + c) b (by rw [hDg c hc8]; exact hb)
                subst eg
                have htk : bv (D.take (c + 1)) = 2 * bv (D.take c) + b := by rw [List.take_add_one, hb]; exact bv_snoc _ _
                obtain ⟨N, hN⟩ : ∃ N, N = bv (D.take c) := ⟨_, rfl⟩
                have hNl : N ≤ 256 := by
                  rw [hN]
                  have h1 := bv_lt (D.take c) (fun x hx => hD1 x (List.mem_of_mem_take hx))
                  have h2 : (D.take c).length ≤ 8 := by rw [List.length_take]; omega
                  have h3 : 2 ^ (D.take c).length ≤ 2 ^ 8 := Nat.pow_le_pow_right (by decide) h2
                  omega
                rw [← hN] at htk
                have htkI : ((bv (D.take (c + 1)) : Nat) : Int) = 2 * (N : Int) + (b : Int) := by rw [htk]; push_cast; rfl
                have hi1 : 8 * (m : Int) + (c : Int) < (nb : Int) := by omega
                have hi2 : (8 * (m : Int) + (c : Int)).toNat = 8 * m + c := by omega
                rw [← hN]
                clear hN hDg hb htk
                go_wp2
                go_roundw
                case rel => exact ⟨c + 1, by omega, by go_num, by rw [htkI], by first | trivial | rfl⟩
                case measure => simp only [RowKit.intOf]; omega
              · obtain rfl : c = 8 := by omega
                have hDl := show D.length = 8 from hDlh
                rw [List.take_of_length_le (by omega)]
                obtain ⟨N, hN⟩ : ∃ N, N = bv D := ⟨_, rfl⟩
                rw [← hN] at hbvD hON ⊢
                have hNI : (N : Int) < 256 := by omega
                clear hN hDl hDg
                go_wp2_with (at_builtin; refine wpList_append_own _ rfl _ _ 30 rfl wB.heap.size 5 i5 (.int .u8 0) 1 1 Tryz.underlying30 hi5 hz50 hz51 hz52 rfl (by decide) _ m _ rfl (hown.alloc _) ⟨_, 0, none⟩ 1 1 [.int .u8 _] rfl rfl (one_cell _ _ _) (by intro u hu; simp at hu; subst hu; rfl) (by unfold maxLen; omega) (by omega) (by have := hbx.size; simp; omega) ?_)
                intro v' w2 hown' hgrow _
                have hy : (N : Int) = ((UInt8.ofNat N).toNat : Int) := by
                  rw [UInt8.toNat_ofNat']
                  omega
                rw [hy] at hown' hgrow
                have Q := own_push (m := [UInt8.ofNat N]) hbx.size hown hbx hown' hgrow
                have hOl2 : Hid ((O ++ [UInt8.ofNat N]).length = m + 1) := by
                  show _ = _
                  rw [List.length_append, show O.length = m from hOl]
                  rfl
                clear hown' hgrow hown hy
                go_wp2
                go_roundw
                case rel => exact ⟨m + 1, O ++ [UInt8.ofNat N], by omega, by go_num, hOl2, hON, Q.1, Q.2⟩
                case measure => simp only [RowKit.intOf]; omega
          · have hge : ¬ 8 * (m : Int) + 8 ≤ (nb : Int) := by omega
            have hO' : O ++ (chunk (B.drop (8 * m))).1 = P ∧ (chunk (B.drop (8 * m))).2 = R0 := hO
            have hBl := show B.length = nb from hBlh
            rw [chunk_lt (by rw [List.length_drop]; omega)] at hO'
            obtain ⟨hP, hR⟩ := hO'
            simp only [List.append_nil] at hP hR
            subst hP
            obtain ⟨ao, co, eo⟩ := own_slc hown
            subst eo
            have hRh : Hid (bv (B.drop (8 * m)) = R0) := hR
            clear hO hR hBl
            go_wp2
            go_loopw [17] (fun q wy => ∃ c : Nat, 8 * m ≤ c ∧ c ≤ nb ∧ q = .int .i64 c ∧ Hid (∀ d, 8 * m ≤ d → d < c → B[d]? = some 0) ∧ wy = wr) (fun q _ => nb - (RowKit.intOf q).toNat)
            case atStart => exact ⟨8 * m, Nat.le_refl _, by omega, by go_num, (fun d h1 h2 => by omega), rfl⟩
            case round =>
              obtain ⟨c, hc1, hc2, rfl, hz0, rfl⟩ := hrel
              by_cases hcl : c < nb
              · have hcl' : (c : Int) < (nb : Int) := by omega
                have hBl := show B.length = nb from hBlh
                obtain ⟨b, hb⟩ : ∃ b, B[c]? = some b := ⟨B[c]'(by omega), List.getElem?_eq_getElem _⟩
                obtain ⟨g, eg, hcg⟩ := hcell wr hbx c b hb
                subst eg
                by_cases hb0 : b = 0
                · subst hb0
                  have hz2 : Hid (∀ d, 8 * m ≤ d → d < c + 1 → B[d]? = some 0) := by
                    intro d h1 h2
                    rcases Nat.lt_or_ge d c with h | h
                    · exact hz0 d h1 h
                    · obtain rfl : d = c := by omega
                      exact hb
                  clear hb hBl
                  go_wp2
                  go_roundw
                  case rel => exact ⟨c + 1, by omega, by omega, by go_num, hz2, by first | trivial | rfl⟩
                  case measure => simp only [RowKit.intOf]; omega
                · have hb0I : ¬ (b : Int) = 0 := by omega
                  have hb0b : ((b : Int) == 0) = false := by simpa using hb0
                  have hb0c : ((b : Int) != 0) = true := by simpa using hb0
                  have hR0 : R0 ≠ 0 := by
                    intro e
                    have h1 := show bv (B.drop (8 * m)) = R0 from hRh
                    rw [e, bv_zero] at h1
                    refine hb0 (h1 b (List.mem_of_getElem? (i := c - 8 * m) ?_))
                    rw [List.getElem?_drop, show 8 * m + (c - 8 * m) = c from by omega]
                    exact hb
                  have hdn : Hid (dec64 s.data.toList = none) := by
                    show _ = _
                    rw [show dec64 s.data.toList = _ from hdh, if_pos hR0]
                  clear hb hBl hb0
                  go_wp2
                  go_ret3
                  exact ⟨.inl ⟨hdn, _, _, rfl, by decide⟩, hbw.trans (hbx.mono hszw)⟩
              · have hge2 : ¬ (c : Int) < (nb : Int) := by omega
                obtain rfl : c = nb := by omega
                have hBl : B.length = _ := hBlh
                have hR0 : R0 = 0 := by
                  rw [← show bv (B.drop (8 * m)) = R0 from hRh, bv_zero]
                  intro x hx
                  obtain ⟨d, hd⟩ := List.getElem?_of_mem hx
                  rw [List.getElem?_drop] at hd
                  have hl := (List.getElem?_eq_some_iff.1 hd).1
                  have h1 := hz0 (8 * m + d) (by omega) (by omega)
                  rw [hd] at h1
                  injection h1
                have hds : Hid (dec64 s.data.toList = some O) := by
                  show _ = _
                  rw [show dec64 s.data.toList = _ from hdh, if_neg (by simp [hR0])]
                have hol := show O.length = m from hOl
                subst hol
                clear hBl hR0
                go_wp2
                go_ret3
                exact ⟨.inr ⟨O, _, hds, rfl, own_mono hown hszw⟩, hbw.trans (hbx.mono hszw)⟩
theorem read_calls (s : ByteArray) (hs : s.size ≤ 2000000) (w : World) :
    Calls Tryz.prog 122 #[.string s, .bool false] w fun e w' => FbOut w.heap.size s.data.toList e w' ∧ Below w.heap.size w w' := by
  by_cases h : s.size ≤ 65536
  · exact read_short s h w
  · have hl : (65536 : Int) < (s.size : Int) := by omega
    have hd : dec64 s.data.toList = none := by
      unfold dec64
      rw [if_pos (by simp; omega)]
    go_enter Tryz.func122, Tryz.ntmps122
    go_wp2
    go_ret3
    exact ⟨.inl ⟨hd, _, _, rfl, by decide⟩, Below.refl _ _⟩
theorem refFb_calls (s : ByteArray) (hs : s.size ≤ 2000000) (w : World) :
    Calls Tryz.prog 88 #[.string s] w fun e w' => FbOut w.heap.size s.data.toList e w' ∧ Below w.heap.size w w' := by
  by_cases hd : dec64 s.data.toList = none
  · have hf : ∀ W, Calls Tryz.prog 122 #[.string s, .bool false] W fun e w' => ∃ z1 z2 : Int, e = .returned (.tuple #[.slice none 0 0, .int .i64 z1, .int .i64 z2]) ∧ z1 ≠ 0 ∧ Below W.heap.size W w' := by
      intro W
      refine (read_calls s hs W).mono fun e w' ⟨h, hb⟩ => ?_
      rcases h with ⟨_, z1, z2, h1, h2⟩ | ⟨p, val, h, _⟩
      · exact ⟨z1, z2, h1, h2, hb⟩
      · rw [hd] at h; cases h
    have hdh : Hid (dec64 s.data.toList = none) := hd
    clear hd
    go_enter Tryz.func88, Tryz.ntmps88
    go_wp2_with (go_at_call 122; refine (hf _).mono ?_; clear hf; rintro e w1 ⟨z1, z2, rfl, hz, hb⟩)
    go_ret3
    exact ⟨.inl ⟨hdh, _, _, rfl, hz⟩, hb⟩
  · obtain ⟨p, hp⟩ : ∃ p, dec64 s.data.toList = some p := by
      cases h : dec64 s.data.toList with
      | none => exact absurd h hd
      | some p => exact ⟨p, rfl⟩
    have hf : ∀ W, Calls Tryz.prog 122 #[.string s, .bool false] W fun e w' => ∃ a c, e = .returned (.tuple #[.slice a p.length c, .int .i64 0, .int .i64 0]) ∧ w'.ownsRow W.heap.size 5 1 (.slice a p.length c) p.length (Lib.byteCells p) ∧ Below W.heap.size W w' := by
      intro W
      refine (read_calls s hs W).mono fun e w' ⟨h, hb⟩ => ?_
      rcases h with ⟨h, _⟩ | ⟨p', val, h, h1, h2⟩
      · rw [hp] at h; cases h
      · rw [hp] at h
        cases h
        obtain ⟨a, c, rfl⟩ := own_slc h2
        exact ⟨a, c, h1, h2, hb⟩
    have hph : Hid (dec64 s.data.toList = some p) := hp
    clear hd hp
    go_enter Tryz.func88, Tryz.ntmps88
    go_wp2_with (go_at_call 122; refine (hf _).mono ?_; clear hf; rintro e w1 ⟨a, c, rfl, ho, hb⟩)
    go_ret3
    exact ⟨.inr ⟨p, _, hph, rfl, ho⟩, hb⟩
end Go.Proofs.YtbfoocginkdmcaaGreatDoor

/-
  The reference's numbers read.
-/

set_option linter.unusedVariables false
set_option maxRecDepth 100000
set_option maxHeartbeats 2000000
namespace Go.Proofs.YtbfoocginkdmcaaGreatDoor
open Go Go.RowKit Go.Basic Go.Scr Go.Lib
theorem str_test' {a b : ByteArray} {l m : List UInt8} (ha : a.data.toList = l) (hb : b.data.toList = m) : (a.toList == b.toList) = decide (l = m) := by
  rw [ByteArray.toList_eq, ByteArray.toList_eq, ha, hb]
  by_cases h : l = m
  · simp [h]
  · simp [h]
def NumOut (w : World) (l : List UInt8) (e : Ending) (w' : World) : Prop :=
  ∃ n : Nat, e = .returned (.tuple #[.int .u64 n, .bool (numOf l).isSome]) ∧ (∀ m, numOf l = some m → n = m) ∧ n < 18446744073709551616 ∧ Below w.heap.size w w'
theorem number_calls (s : ByteArray) (hs : s.size ≤ 2000000) (w : World) : Calls Tryz.prog 55 #[.string s] w (NumOut w s.data.toList) := by
  have hsl : s.data.toList.length = s.size := by simp
  go_enter Tryz.func55, Tryz.ntmps55
  go_wp2
  go_loop [4, 5] (fun x i => ∃ k n : Nat, k ≤ s.size ∧ i = .int .i64 k ∧ x = .int .u64 n ∧ n < 18446744073709551616 ∧ Hid (parseUint10 0 s.data.toList = parseUint10 n (s.data.toList.drop k))) (fun _ i => s.size - (RowKit.intOf i).toNat)
  case atStart => exact ⟨0, 0, Nat.zero_le _, rfl, rfl, by omega, rfl⟩
  case round =>
    obtain ⟨k, n, hk, rfl, rfl, hn, hI⟩ := hrel
    have hI' : parseUint10 0 s.data.toList = parseUint10 n (s.data.toList.drop k) := hI
    by_cases hlt : k < s.size
    · have hlt' : (k : Int) < (s.size : Int) := by omega
      have hd := drop_at s k hlt
      rw [hd] at hI'
      have hc256 := UInt8.toNat_lt s[k]
      by_cases hdig : 48 ≤ s[k].toNat ∧ s[k].toNat ≤ 57
      · obtain ⟨g1, g2⟩ := hdig
        have g1' : ¬ (s[k].toNat : Int) < 48 := by omega
        have g2' : ¬ (57 : Int) < (s[k].toNat : Int) := by omega
        rw [parseUint10, if_pos ⟨g1, g2⟩] at hI'
        by_cases hov : 18446744073709551615 < 10 * n + (s[k].toNat - 48)
        · have ho1 : (18446744073709551615 - ((s[k].toNat : Int) - 48)) / 10 < (n : Int) := by omega
          have hr : parseUint10 0 s.data.toList = .range := by
            rw [hI']
            split
            · rfl
            · rw [if_pos (by omega)]
          have hno : numOf s.data.toList = none := by unfold numOf; rw [hr]
          clear hI' hI hd hr
          go_wp2
          go_ret2
          unfold NumOut
          rw [hno]
          exact ⟨0, rfl, fun m h => (by cases h), by decide, Below.refl _ _⟩
        · have ho1 : ¬ (18446744073709551615 - ((s[k].toNat : Int) - 48)) / 10 < (n : Int) := by omega
          rw [if_neg (by omega), if_neg (by omega)] at hI'
          obtain ⟨m, hm⟩ : ∃ m, m = n * 10 + (s[k].toNat - 48) := ⟨_, rfl⟩
          rw [← hm] at hI'
          have hmi : 10 * (n : Int) + ((s[k].toNat : Int) - 48) = (m : Int) := by omega
          have hm64 : m < 18446744073709551616 := by omega
          have hI2 : Hid (parseUint10 0 s.data.toList = parseUint10 m (s.data.toList.drop (k + 1))) := hI'
          clear hI' hI hd hm
          go_wp2
          go_round
          case rel => exact ⟨k + 1, m, by omega, by go_num, by first | rfl | exact congrArg _ hmi, hm64, hI2⟩
          case measure => simp only [RowKit.intOf]; omega
      · have hno : numOf s.data.toList = none := by unfold numOf; rw [hI', parseUint10, if_neg hdig]
        by_cases g1 : s[k].toNat < 48
        · have g1' : (s[k].toNat : Int) < 48 := by omega
          clear hI' hI hd hdig
          go_wp2
          go_ret2
          unfold NumOut
          rw [hno]
          exact ⟨0, rfl, fun m h => (by cases h), by decide, Below.refl _ _⟩
        · have g1' : ¬ (s[k].toNat : Int) < 48 := by omega
          have g2' : (57 : Int) < (s[k].toNat : Int) := by omega
          clear hI' hI hd hdig
          go_wp2
          go_ret2
          unfold NumOut
          rw [hno]
          exact ⟨0, rfl, fun m h => (by cases h), by decide, Below.refl _ _⟩
    · have hge : ¬ (k : Int) < (s.size : Int) := by omega
      obtain rfl : k = s.size := by omega
      rw [List.drop_eq_nil_of_le (by simp), parseUint10] at hI'
      by_cases h0 : s = ⟨#[]⟩
      · have hl0 : s.data.toList = [] := by rw [h0]
        have ht0 : (s.toList == []) = true := by rw [ByteArray.toList_eq, hl0]; rfl
        have ht1 : s.toList.isEmpty = true := by rw [ByteArray.toList_eq, hl0]; rfl
        have hnh : Hid (numOf s.data.toList = none) := by
          show _ = _
          rw [hl0]
          rfl
        clear hI' hI h0 hl0
        go_wp2
        go_ret2
        unfold NumOut
        rw [show numOf s.data.toList = _ from hnh]
        exact ⟨n, rfl, fun m h => (by cases h), hn, Below.refl _ _⟩
      · have hl0 : s.data.toList ≠ [] := by
          intro e
          apply h0
          cases s with
          | mk d => congr; exact Array.toList_inj.1 e
        have ht0 : (s.toList == []) = false := by
          rw [ByteArray.toList_eq, beq_eq_false_iff_ne]
          exact hl0
        have ht1 : s.toList.isEmpty = false := by
          rw [ByteArray.toList_eq]
          simpa using hl0
        have hno : numOf s.data.toList = if decDigits n = s.data.toList then some n else none := by
          unfold numOf
          rw [hI']
          simp [hl0]
        have hnh : Hid (numOf s.data.toList = if decDigits n = s.data.toList then some n else none) := hno
        clear hI' hI hno h0 hl0
        go_wp2_with (first
          | (go_at_call 78; refine (decimal_calls n hn _ rfl _).mono ?_; rintro e w1 ⟨S, rfl, hS, bel⟩; (have ht := str_test' hS (b := s) rfl)))
        go_ret2
        unfold NumOut
        rw [show numOf s.data.toList = _ from hnh]
        by_cases hdd : decDigits n = s.data.toList
        · rw [if_pos hdd]
          exact ⟨n, by simp [hdd], fun m h => by cases h; rfl, hn, bel⟩
        · rw [if_neg hdd]
          exact ⟨n, by simp [hdd], fun m h => (by cases h), hn, bel⟩
end Go.Proofs.YtbfoocginkdmcaaGreatDoor

/-
  The reference's integers read, its words of bytes.
-/

set_option linter.unusedVariables false
set_option maxRecDepth 100000
set_option maxHeartbeats 2000000
namespace Go.Proofs.YtbfoocginkdmcaaGreatDoor
open Go Go.RowKit Go.Basic Go.Scr Go.Lib Go.ArgS
theorem num_none (s : ByteArray) (hs : s.size ≤ 2000000) (hz : numOf s.data.toList = none) (w : World) : Calls Tryz.prog 55 #[.string s] w fun e w' => ∃ n : Nat, e = .returned (.tuple #[.int .u64 n, .bool false]) ∧ Below w.heap.size w w' := by
  refine (number_calls s hs w).mono fun e w' ⟨n, h1, _, _, h2⟩ => ?_
  rw [hz] at h1
  exact ⟨n, h1, h2⟩
theorem num_some (s : ByteArray) (hs : s.size ≤ 2000000) (m : Nat) (hz : numOf s.data.toList = some m) (w : World) : Calls Tryz.prog 55 #[.string s] w fun e w' => e = .returned (.tuple #[.int .u64 m, .bool true]) ∧ Below w.heap.size w w' := by
  refine (number_calls s hs w).mono fun e w' ⟨n, h1, h3, _, h2⟩ => ?_
  rw [hz] at h1
  obtain rfl := h3 m hz
  exact ⟨h1, h2⟩
def ZOut (w : World) (l : List UInt8) (e : Ending) (w' : World) : Prop :=
  ∃ n : Int, e = .returned (.tuple #[.int .i64 n, .bool (zOf l).isSome]) ∧ (∀ m, zOf l = some m → n = m) ∧ Below w.heap.size w w'
theorem integer_calls (s : ByteArray) (hs : s.size ≤ 2000000) (w : World) : Calls Tryz.prog 56 #[.string s] w (ZOut w s.data.toList) := by
  have hsl : s.data.toList.length = s.size := by simp
  by_cases h45 : s.data.toList.head? = some 45
  · obtain ⟨t, ht⟩ : ∃ t, s.data.toList = 45 :: t := by
      cases h : s.data.toList with
      | nil => rw [h] at h45; cases h45
      | cons c t => rw [h] at h45; simp at h45; exact ⟨t, by rw [h45]⟩
    have hs1 : 1 ≤ s.size := by rw [← hsl, ht]; simp
    have hne : ¬ s.toList = [] := by rw [ByteArray.toList_eq, ht]; simp
    have hne1 : s.toList.isEmpty = false := by rw [ByteArray.toList_eq, ht]; rfl
    have hne2 : (s.toList == []) = false := by rw [beq_eq_false_iff_ne]; exact hne
    have hne3 : (s.toList != []) = true := by unfold bne; rw [hne2]; rfl
    have hg : s[0]'(by omega) = 45 := by
      have h1 : s.data.toList[0]? = some 45 := by rw [ht]; rfl
      have h2 : s.data.toList[0]? = some (s[0]'(by omega)) := by
        rw [List.getElem?_eq_getElem (by omega)]
        rfl
      rw [h1] at h2
      injection h2 with h2
      exact h2.symm
    have hlt0 : (0 : Int) < (s.size : Int) := by omega
    have hlt1 : (1 : Int) ≤ (s.size : Int) := by omega
    obtain ⟨T, hT⟩ : ∃ T, T = s.extract 1 s.size := ⟨_, rfl⟩
    have hTl : T.data.toList = t := by
      rw [hT, extract_to_end, ht]
      rfl
    have hTs : T.size ≤ 2000000 := by rw [hT, ByteArray.size_extract]; omega
    have hz : zOf s.data.toList = match numOf t with | some n => if n = 0 ∨ 9223372036854775808 < n then none else some (-(n : Int)) | none => none := by
      unfold zOf
      rw [if_pos h45, ht]
      rfl
    cases hn : numOf t with
    | none =>
      rw [hn] at hz
      have hzh : Hid (zOf s.data.toList = none) := hz
      have hf := fun W => num_none T hTs (by rw [hTl]; exact hn) W
      rw [hT] at hf
      clear hz hn hTl h45 ht hT hTs
      go_enter Tryz.func56, Tryz.ntmps56
      go_wp2_with (go_at_call 55; refine (hf _).mono ?_; clear hf; rintro e w1 ⟨n, rfl, bel⟩)
      go_ret2
      unfold ZOut
      rw [show zOf s.data.toList = _ from hzh]
      exact ⟨_, rfl, fun m h => (by cases h), bel⟩
    | some n =>
      rw [hn] at hz
      have hn64 := numOf_lt hn
      have hf := fun W => num_some T hTs n (by rw [hTl]; exact hn) W
      rw [hT] at hf
      by_cases h0 : n = 0
      · subst h0
        have hzh : Hid (zOf s.data.toList = none) := by show _ = _; rw [hz]; simp
        clear hz hn hTl h45 ht hT hTs
        go_enter Tryz.func56, Tryz.ntmps56
        go_wp2_with (go_at_call 55; refine (hf _).mono ?_; clear hf; rintro e w1 ⟨rfl, bel⟩)
        go_ret2
        unfold ZOut
        rw [show zOf s.data.toList = _ from hzh]
        exact ⟨_, rfl, fun m h => (by cases h), bel⟩
      · have h0I : ¬ (n : Int) = 0 := by omega
        have h0b : ((n : Int) == 0) = false := by simpa using h0
        by_cases hbig : 9223372036854775808 < n
        · have hbI : (9223372036854775808 : Int) < (n : Int) := by omega
          have hzh : Hid (zOf s.data.toList = none) := by show _ = _; rw [hz]; simp [hbig]
          clear hz hn hTl h45 ht hT hTs
          go_enter Tryz.func56, Tryz.ntmps56
          go_wp2_with (go_at_call 55; refine (hf _).mono ?_; clear hf; rintro e w1 ⟨rfl, bel⟩)
          go_ret2
          unfold ZOut
          rw [show zOf s.data.toList = _ from hzh]
          exact ⟨_, rfl, fun m h => (by cases h), bel⟩
        · have hbI : ¬ (9223372036854775808 : Int) < (n : Int) := by omega
          have hn1 : (1 : Int) ≤ (n : Int) := by omega
          have hn2 : (n : Int) ≤ 9223372036854775808 := by omega
          have hvv : -((n : Int) - 1) - 1 = -(n : Int) := by omega
          have hzh : Hid (zOf s.data.toList = some (-(n : Int))) := by show _ = _; rw [hz]; simp [hbig, h0]
          clear hz hn hTl h45 ht hT hTs hbig h0
          go_enter Tryz.func56, Tryz.ntmps56
          go_wp2_with (go_at_call 55; refine (hf _).mono ?_; clear hf; rintro e w1 ⟨rfl, bel⟩)
          go_ret2
          unfold ZOut
          rw [show zOf s.data.toList = _ from hzh]
          exact ⟨-(n : Int), rfl, fun m h => (by cases h; rfl), bel⟩
  · have hz : zOf s.data.toList = match numOf s.data.toList with | some n => if 9223372036854775807 < n then none else some (n : Int) | none => none := by
      unfold zOf
      rw [if_neg h45]
      cases numOf s.data.toList <;> rfl
    have hneg : s.size = 0 ∨ (0 < s.size ∧ ∀ h : 0 < s.size, s[0] ≠ 45) := by
      rcases Nat.eq_zero_or_pos s.size with h | h
      · exact .inl h
      · refine .inr ⟨h, fun h e => h45 ?_⟩
        have h2 : s.data.toList[0]? = some (s[0]) := by
          rw [List.getElem?_eq_getElem (by omega)]
          rfl
        rw [List.head?_eq_getElem?, h2, e]
    rcases hneg with h0 | ⟨h0, hg⟩
    · have hl0 : s.data.toList = [] := List.eq_nil_of_length_eq_zero (by omega)
      have hne2 : (s.toList == []) = true := by rw [ByteArray.toList_eq, hl0]; rfl
      have hne1 : s.toList.isEmpty = true := by rw [ByteArray.toList_eq, hl0]; rfl
      have hne3 : (s.toList != []) = false := by unfold bne; rw [hne2]; rfl
      clear hl0
      cases hn : numOf s.data.toList with
      | none =>
        rw [hn] at hz
        have hzh : Hid (zOf s.data.toList = none) := hz
        have hf := fun W => num_none s hs hn W
        clear hz hn h45
        go_enter Tryz.func56, Tryz.ntmps56
        go_wp2_with (go_at_call 55; refine (hf _).mono ?_; clear hf; rintro e w1 ⟨n, rfl, bel⟩)
        go_ret2
        unfold ZOut
        rw [show zOf s.data.toList = _ from hzh]
        exact ⟨_, rfl, fun m h => (by cases h), bel⟩
      | some n =>
        rw [hn] at hz
        have hn64 := numOf_lt hn
        have hf := fun W => num_some s hs n hn W
        by_cases hbig : 9223372036854775807 < n
        · have hbI : (9223372036854775807 : Int) < (n : Int) := by omega
          have hzh : Hid (zOf s.data.toList = none) := by show _ = _; rw [hz]; simp [hbig]
          clear hz hn h45
          go_enter Tryz.func56, Tryz.ntmps56
          go_wp2_with (go_at_call 55; refine (hf _).mono ?_; clear hf; rintro e w1 ⟨rfl, bel⟩)
          go_ret2
          unfold ZOut
          rw [show zOf s.data.toList = _ from hzh]
          exact ⟨_, rfl, fun m h => (by cases h), bel⟩
        · have hbI : ¬ (9223372036854775807 : Int) < (n : Int) := by omega
          have hbI2 : (n : Int) ≤ 9223372036854775807 := by omega
          have hzh : Hid (zOf s.data.toList = some (n : Int)) := by show _ = _; rw [hz]; simp [hbig]
          clear hz hn h45 hbig
          go_enter Tryz.func56, Tryz.ntmps56
          go_wp2_with (go_at_call 55; refine (hf _).mono ?_; clear hf; rintro e w1 ⟨rfl, bel⟩)
          go_ret2
          unfold ZOut
          rw [show zOf s.data.toList = _ from hzh]
          refine ⟨(n : Int), ?_, fun m h => (by cases h; rfl), bel⟩
          first | rfl | (congr 4; first | omega | (simp only [IntKind.wrap_i64, IntKind.wrap_u64]; omega))
    · have hl0 : s.data.toList ≠ [] := fun e => by rw [e] at hsl; simp at hsl; omega
      have hne : ¬ s.toList = [] := by rw [ByteArray.toList_eq]; exact hl0
      have hne1 : s.toList.isEmpty = false := by rw [ByteArray.toList_eq]; simpa using hl0
      have hne2 : (s.toList == []) = false := by rw [beq_eq_false_iff_ne]; exact hne
      have hne3 : (s.toList != []) = true := by unfold bne; rw [hne2]; rfl
      have hg1 : (((s[0]'h0).toNat : Int) == 45) = false := by
        rw [beq_eq_false_iff_ne]
        intro e
        exact hg h0 (toNat_eq (by show _ = 45; omega))
      have hg2 : ¬ ((s[0]'h0).toNat : Int) = 45 := by simpa using hg1
      have hlt0 : (0 : Int) < (s.size : Int) := by omega
      clear hl0 hg
      cases hn : numOf s.data.toList with
      | none =>
        rw [hn] at hz
        have hzh : Hid (zOf s.data.toList = none) := hz
        have hf := fun W => num_none s hs hn W
        clear hz hn h45
        go_enter Tryz.func56, Tryz.ntmps56
        go_wp2_with (go_at_call 55; refine (hf _).mono ?_; clear hf; rintro e w1 ⟨n, rfl, bel⟩)
        go_ret2
        unfold ZOut
        rw [show zOf s.data.toList = _ from hzh]
        exact ⟨_, rfl, fun m h => (by cases h), bel⟩
      | some n =>
        rw [hn] at hz
        have hn64 := numOf_lt hn
        have hf := fun W => num_some s hs n hn W
        by_cases hbig : 9223372036854775807 < n
        · have hbI : (9223372036854775807 : Int) < (n : Int) := by omega
          have hzh : Hid (zOf s.data.toList = none) := by show _ = _; rw [hz]; simp [hbig]
          clear hz hn h45
          go_enter Tryz.func56, Tryz.ntmps56
          go_wp2_with (go_at_call 55; refine (hf _).mono ?_; clear hf; rintro e w1 ⟨rfl, bel⟩)
          go_ret2
          unfold ZOut
          rw [show zOf s.data.toList = _ from hzh]
          exact ⟨_, rfl, fun m h => (by cases h), bel⟩
        · have hbI : ¬ (9223372036854775807 : Int) < (n : Int) := by omega
          have hbI2 : (n : Int) ≤ 9223372036854775807 := by omega
          have hzh : Hid (zOf s.data.toList = some (n : Int)) := by show _ = _; rw [hz]; simp [hbig]
          clear hz hn h45 hbig
          go_enter Tryz.func56, Tryz.ntmps56
          go_wp2_with (go_at_call 55; refine (hf _).mono ?_; clear hf; rintro e w1 ⟨rfl, bel⟩)
          go_ret2
          unfold ZOut
          rw [show zOf s.data.toList = _ from hzh]
          refine ⟨(n : Int), ?_, fun m h => (by cases h; rfl), bel⟩
          first | rfl | (congr 4; first | omega | (simp only [IntKind.wrap_i64, IntKind.wrap_u64]; omega))
def BytesRes (w : World) (l : List UInt8) (e : Ending) (w' : World) : Prop :=
  ∃ a c, ∃ p : List UInt8, e = .returned (.tuple #[.slice a p.length c, .bool (wordOf l).isSome]) ∧ OwnS w' w.heap.size .u8 (.slice a p.length c) (p.map fun b => (b.toNat : Int)) ∧ p.length ≤ 65536 ∧ (∀ q, wordOf l = some q → p = q) ∧ Below w.heap.size w w'
end Go.Proofs.YtbfoocginkdmcaaGreatDoor

/-
  The reference's words of bytes; its words of a line.
-/

set_option linter.unusedVariables false
set_option maxRecDepth 100000
set_option maxHeartbeats 2000000
namespace Go.Proofs.YtbfoocginkdmcaaGreatDoor
open Go Go.RowKit Go.Basic Go.Scr Go.Lib Go.ArgS
theorem refFb_none (s : ByteArray) (hs : s.size ≤ 2000000) (hd : dec64 s.data.toList = none) (w : World) :
    Calls Tryz.prog 88 #[.string s] w fun e w' => ∃ z1 z2 : Int, e = .returned (.tuple #[.slice none 0 0, .int .i64 z1, .int .i64 z2]) ∧ z1 ≠ 0 ∧ Below w.heap.size w w' := by
  refine (refFb_calls s hs w).mono fun e w' ⟨h, hb⟩ => ?_
  rcases h with ⟨_, z1, z2, h1, h2⟩ | ⟨p, val, h, _⟩
  · exact ⟨z1, z2, h1, h2, hb⟩
  · rw [hd] at h; cases h
theorem refFb_some (s : ByteArray) (p : List UInt8) (hs : s.size ≤ 2000000) (hd : dec64 s.data.toList = some p) (w : World) :
    Calls Tryz.prog 88 #[.string s] w fun e w' => ∃ a c, e = .returned (.tuple #[.slice a p.length c, .int .i64 0, .int .i64 0]) ∧ OwnS w' w.heap.size .u8 (.slice a p.length c) (p.map fun b => (b.toNat : Int)) ∧ Below w.heap.size w w' := by
  refine (refFb_calls s hs w).mono fun e w' ⟨h, hb⟩ => ?_
  rcases h with ⟨h, _⟩ | ⟨p', val, h, h1, h2⟩
  · rw [hd] at h; cases h
  · rw [hd] at h
    cases h
    obtain ⟨a, c, rfl⟩ := own_slc h2
    exact ⟨a, c, h1, OwnS.of_bytes h2, hb⟩
theorem refFb_empty (s : ByteArray) (hs : s.size ≤ 2000000) (hd : dec64 s.data.toList = some []) (w : World) :
    Calls Tryz.prog 88 #[.string s] w fun e w' => ∃ a c, e = .returned (.tuple #[.slice a 0 c, .int .i64 0, .int .i64 0]) ∧ OwnS w' w.heap.size .u8 (.slice a 0 c) [] ∧ Below w.heap.size w w' := refFb_some s [] hs hd w
theorem refBytes_calls (s : ByteArray) (hs : s.size ≤ 2000000) (w : World) : Calls Tryz.prog 54 #[.string s] w (BytesRes w s.data.toList) := by
  by_cases hd : s = ⟨#[45]⟩
  · subst hd
    go_enter Tryz.func54, Tryz.ntmps54
    go_wp2
    go_ret2
    exact ⟨none, 0, [], rfl, OwnS.nil _ _ _, by simp, fun q h => (by cases h; rfl), Below.refl _ _⟩
  · have hwd : wordOf s.data.toList = match dec64 s.data.toList with | some b => if b = [] then none else some b | none => none := by
      unfold wordOf
      rw [if_neg (fun e => hd (data_dash.1 e))]
      cases dec64 s.data.toList <;> rfl
    have hd1 : (s.toList == [45]) = false := by
      rw [ByteArray.toList_eq, beq_eq_false_iff_ne]
      exact fun e => hd (data_dash.1 e)
    cases hq : dec64 s.data.toList with
    | none =>
      rw [hq] at hwd
      have hwn : Hid (wordOf s.data.toList = none) := hwd
      have hf := fun W => refFb_none s hs hq W
      clear hwd hq hd
      go_enter Tryz.func54, Tryz.ntmps54
      go_wp2_with (go_at_call 88; refine (hf _).mono ?_; clear hf; rintro e w2 ⟨z1, z2, rfl, hz, hb⟩; (have hz' : (z1 == 0) = false := by simpa using hz))
      go_ret2
      unfold BytesRes
      rw [show wordOf s.data.toList = _ from hwn]
      exact ⟨none, 0, [], rfl, OwnS.nil _ _ _, by simp, fun q h => (by cases h), hb⟩
    | some p =>
      rw [hq] at hwd
      have hp6 := (dec64_len hq).2
      by_cases hp : p = []
      · subst hp
        have hwn : Hid (wordOf s.data.toList = none) := hwd
        have hf := fun W => refFb_empty s hs hq W
        clear hwd hq hd
        go_enter Tryz.func54, Tryz.ntmps54
        go_wp2_with (go_at_call 88; refine (hf _).mono ?_; clear hf; rintro e w2 ⟨a, c, rfl, ho, hb⟩)
        go_ret2
        unfold BytesRes
        rw [show wordOf s.data.toList = _ from hwn]
        exact ⟨a, c, [], rfl, ho, by simp, fun q h => (by cases h), hb⟩
      · have hwn : Hid (wordOf s.data.toList = some p) := by
          show _ = _
          rw [hwd]
          simp only
          rw [if_neg hp]
        have hf := fun W => refFb_some s p hs hq W
        have hp0 : p.length ≠ 0 := fun e => hp (List.length_eq_zero_iff.1 e)
        obtain ⟨n, hn⟩ : ∃ n, n = p.length := ⟨_, rfl⟩
        rw [← hn] at hf hp0 hp6
        have hn0 : ¬ (n : Int) = 0 := by omega
        have hn1 : (0 : Int) < (n : Int) := by omega
        have hnh : Hid (n = p.length) := hn
        clear hwd hq hn hp hd
        go_enter Tryz.func54, Tryz.ntmps54
        go_wp2_with (go_at_call 88; refine (hf _).mono ?_; clear hf; rintro e w2 ⟨a, c, rfl, ho, hb⟩)
        go_ret2
        unfold BytesRes
        have hn' := show n = p.length from hnh
        subst hn'
        rw [show wordOf s.data.toList = _ from hwn]
        refine ⟨a, c, p, ?_, ho, hp6, fun q h => (by cases h; rfl), hb⟩
        show Ending.returned (.tuple #[.slice a p.length c, .bool (decide (0 < p.length))]) = _
        rw [decide_eq_true (Nat.pos_of_ne_zero hp0)]
        rfl
theorem sc_app (a b : List ByteArray) : (a ++ b).map Value.string = a.map Value.string ++ b.map Value.string := List.map_append ..
theorem extract_mid (s : ByteArray) (f k : Nat) : (s.extract f k).data.toList = (s.data.toList.drop f).take (k - f) := by
  rw [extract_data]
def WordsOut (w : World) (s : ByteArray) (e : Ending) (w' : World) : Prop :=
  ∃ (ws : List ByteArray) (v : Value), e = .returned v ∧ ws.map (·.data.toList) = cutAt 32 s.data.toList ∧ (∀ x ∈ ws, x.size ≤ s.size) ∧ ws.length ≤ s.size + 1 ∧ w'.ownsRow w.heap.size 9 1 v ws.length (ws.map Value.string) ∧ Below w.heap.size w w'
theorem words_calls (s : ByteArray) (hs : s.size ≤ 2000000) (w : World) : Calls Tryz.prog 52 #[.string s] w (WordsOut w s) := by
  obtain ⟨i9, hi9, hz9, hs9, hb9⟩ := info_parts inf9t
  have hsl : s.data.toList.length = s.size := by simp
  go_enter Tryz.func52, Tryz.ntmps52
  go_wp2
  go_loopw [3, 4, 5] (fun o x i wr => ∃ (k f : Nat) (ws : List ByteArray), f ≤ k ∧ k ≤ s.size + 1 ∧ i = .int .i64 k ∧ x = .int .i64 f ∧ ws.length ≤ k ∧ Hid (∀ y ∈ ws, y.size ≤ s.size) ∧
      Hid ((k ≤ s.size ∧ (32 : UInt8) ∉ (s.data.toList.drop f).take (k - f) ∧ cutAt 32 s.data.toList = ws.map (·.data.toList) ++ cutAt 32 (s.data.toList.drop f)) ∨ (k = s.size + 1 ∧ cutAt 32 s.data.toList = ws.map (·.data.toList))) ∧
      wr.ownsRow w.heap.size 9 1 o ws.length (ws.map Value.string) ∧ Below w.heap.size w wr) (fun _ _ i _ => s.size + 1 - (RowKit.intOf i).toNat)
  case atStart => exact ⟨0, 0, [], Nat.le_refl _, by omega, rfl, rfl, by simp, (fun y hy => by cases hy), .inl ⟨by omega, by simp, by simp⟩, World.ownsRow_nil _ _ _ _, Below.refl _ _⟩
  case round =>
    obtain ⟨k, f, ws, hfk, hk, rfl, rfl, hwk, hwx, hI, hown, hbw⟩ := hrel
    by_cases hks : k ≤ s.size
    · have hI' : (32 : UInt8) ∉ (s.data.toList.drop f).take (k - f) ∧ cutAt 32 s.data.toList = ws.map (·.data.toList) ++ cutAt 32 (s.data.toList.drop f) := by
        rcases (show _ ∨ _ from hI) with h | h
        · exact h.2
        · omega
      obtain ⟨hno, hcut⟩ := hI'
      have hksI : (k : Int) ≤ (s.size : Int) := by omega
      obtain ⟨n, hn⟩ : ∃ n, n = ws.length := ⟨_, rfl⟩
      have hnl : n ≤ 2000001 := by omega
      have hnh : Hid (n = ws.length) := hn
      rw [← hn] at hown
      obtain ⟨X, hX⟩ : ∃ X, X = ws.map Value.string := ⟨_, rfl⟩
      have hXh : Hid (X = ws.map Value.string) := hX
      rw [← hX] at hown
      have hfin : ∀ (v' : Value) (w2 : World), w2.ownsRow w.heap.size 9 1 v' (n + 1) (X ++ [.string (s.extract f k)]) → w2.ownsRow w.heap.size 9 1 v' (ws ++ [s.extract f k]).length ((ws ++ [s.extract f k]).map Value.string) := by
        intro v' w2 h
        rw [sc_app, ← hX, List.length_append, ← hn]
        exact h
      have hwx2 : Hid (∀ y ∈ ws ++ [s.extract f k], y.size ≤ s.size) := by
        intro y hy
        rcases List.mem_append.1 hy with h | h
        · exact hwx y h
        · simp at h
          subst h
          rw [ByteArray.size_extract]
          omega
      have hwl : (ws ++ [s.extract f k]).length ≤ k + 1 := by rw [List.length_append]; show ws.length + 1 ≤ _; omega
      have hfI : (f : Int) ≤ (k : Int) := by omega
      clear hn hX
      by_cases hke : k = s.size
      · have hend : Hid ((k + 1 ≤ s.size ∧ (32 : UInt8) ∉ (s.data.toList.drop (k + 1)).take (k + 1 - (k + 1)) ∧ cutAt 32 s.data.toList = (ws ++ [s.extract f k]).map (·.data.toList) ++ cutAt 32 (s.data.toList.drop (k + 1))) ∨ (k + 1 = s.size + 1 ∧ cutAt 32 s.data.toList = (ws ++ [s.extract f k]).map (·.data.toList))) := by
          refine .inr ⟨by omega, ?_⟩
          have e1 : (s.data.toList.drop f).take (k - f) = s.data.toList.drop f := List.take_of_length_le (by rw [List.length_drop]; omega)
          rw [e1] at hno
          rw [hcut, cutAt_one 32 _ hno, List.map_append]
          show _ ++ [_] = _ ++ [(s.extract f k).data.toList]
          rw [extract_mid, e1]
        have hkeI : (k : Int) = (s.size : Int) := by omega
        have hkeb : ((k : Int) == (s.size : Int)) = true := by simpa using hkeI
        clear hI hcut hno
        subst hke
        go_wp2_with (at_builtin; refine wpList_append_own _ rfl _ _ 58 rfl w.heap.size 9 i9 (.string ⟨#[]⟩) 1 16 Tryz.underlying58 hi9 hz9 hs9 hb9 rfl (by decide) _ n _ rfl (hown.alloc _) ⟨_, 0, none⟩ 1 1 [.string (s.extract f s.size)] rfl rfl (one_cell _ _ _) (by intro u hu; simp at hu; subst hu; rfl) (by unfold maxLen; omega) (by omega) (by have := hbw.size; simp; omega) ?_)
        intro v' w2 hown' hgrow _
        have hb2 := (hbw.alloc hbw.size (.cells #[.string (s.extract f s.size)] 9)).grown hgrow (by have := hbw.size; simp; omega) fun j hj => (hown.lt j hj).1
        have hown2 := hfin v' w2 hown'
        clear hown' hgrow hown hfin
        go_wp2
        go_roundw
        case rel => exact ⟨s.size + 1, s.size + 1, ws ++ [s.extract f s.size], Nat.le_refl _, by omega, by go_num, by go_num, hwl, hwx2, (show _ ∨ _ from hend).elim (fun h => .inl h) (fun h => .inr ⟨rfl, h.2⟩), hown2, hb2⟩
        case measure => simp only [RowKit.intOf]; omega
      · have hkl : k < s.size := by omega
        have hklI : (k : Int) < (s.size : Int) := by omega
        have hkeI : ¬ (k : Int) = (s.size : Int) := by omega
        have hkeb : ((k : Int) == (s.size : Int)) = false := by simpa using hkeI
        have hd := drop_at s k hkl
        have hsplit : s.data.toList.drop f = (s.data.toList.drop f).take (k - f) ++ s[k] :: s.data.toList.drop (k + 1) := by
          conv => lhs; rw [← List.take_append_drop (k - f) (s.data.toList.drop f)]
          rw [List.drop_drop, show f + (k - f) = k from by omega, hd]
        by_cases hsp : s[k] = 32
        · have hend : Hid ((k + 1 ≤ s.size ∧ (32 : UInt8) ∉ (s.data.toList.drop (k + 1)).take (k + 1 - (k + 1)) ∧ cutAt 32 s.data.toList = (ws ++ [s.extract f k]).map (·.data.toList) ++ cutAt 32 (s.data.toList.drop (k + 1))) ∨ (k + 1 = s.size + 1 ∧ cutAt 32 s.data.toList = (ws ++ [s.extract f k]).map (·.data.toList))) := by
            refine .inl ⟨by omega, by simp, ?_⟩
            rw [hcut, hsplit, hsp, cutAt_app 32 _ _ hno, List.map_append, List.append_assoc]
            show _ ++ (_ :: _) = _ ++ ([(s.extract f k).data.toList] ++ _)
            rw [extract_mid]
            rfl
          clear hI hcut hno hsplit hd
          go_wp2_with (at_builtin; refine wpList_append_own _ rfl _ _ 58 rfl w.heap.size 9 i9 (.string ⟨#[]⟩) 1 16 Tryz.underlying58 hi9 hz9 hs9 hb9 rfl (by decide) _ n _ rfl (hown.alloc _) ⟨_, 0, none⟩ 1 1 [.string (s.extract f k)] rfl rfl (one_cell _ _ _) (by intro u hu; simp at hu; subst hu; rfl) (by unfold maxLen; omega) (by omega) (by have := hbw.size; simp; omega) ?_)
          intro v' w2 hown' hgrow _
          have hb2 := (hbw.alloc hbw.size (.cells #[.string (s.extract f k)] 9)).grown hgrow (by have := hbw.size; simp; omega) fun j hj => (hown.lt j hj).1
          have hown2 := hfin v' w2 hown'
          clear hown' hgrow hown hfin
          go_wp2
          go_roundw
          case rel => exact ⟨k + 1, k + 1, ws ++ [s.extract f k], Nat.le_refl _, by omega, by go_num, by go_num, hwl, hwx2, hend, hown2, hb2⟩
          case measure => simp only [RowKit.intOf]; omega
        · have hspb : ((s[k].toNat : Int) == 32) = false := by
            rw [beq_eq_false_iff_ne]
            intro e
            exact hsp (toNat_eq (by show _ = 32; omega))
          have hend : Hid ((k + 1 ≤ s.size ∧ (32 : UInt8) ∉ (s.data.toList.drop f).take (k + 1 - f) ∧ cutAt 32 s.data.toList = ws.map (·.data.toList) ++ cutAt 32 (s.data.toList.drop f)) ∨ (k + 1 = s.size + 1 ∧ cutAt 32 s.data.toList = ws.map (·.data.toList))) := by
            refine .inl ⟨by omega, ?_, hcut⟩
            rw [show k + 1 - f = (k - f) + 1 from by omega, List.take_add_one]
            have e2 : (s.data.toList.drop f)[k - f]? = some s[k] := by
              rw [List.getElem?_drop, show f + (k - f) = k from by omega, List.getElem?_eq_getElem (by omega)]
              rfl
            rw [e2]
            intro h
            rcases List.mem_append.1 h with h | h
            · exact hno h
            · simp at h
              exact hsp h.symm
          have hn' := show n = ws.length from hnh
          have hX' := show X = ws.map Value.string from hXh
          subst hn'
          subst hX'
          clear hI hcut hno hsplit hd hfin hwx2 hwl
          go_wp2
          go_roundw
          case rel => exact ⟨k + 1, f, ws, by omega, by omega, by go_num, rfl, by omega, hwx, hend, hown, hbw⟩
          case measure => simp only [RowKit.intOf]; omega
    · have hge : ¬ (k : Int) ≤ (s.size : Int) := by omega
      have hI' : cutAt 32 s.data.toList = ws.map (·.data.toList) := by
        rcases (show _ ∨ _ from hI) with h | h
        · omega
        · exact h.2
      have hh : Hid (ws.map (·.data.toList) = cutAt 32 s.data.toList) := hI'.symm
      have hwl : Hid (ws.length ≤ s.size + 1) := by show _ ≤ _; omega
      clear hI hI'
      go_wp2
      go_ret
      unfold WordsOut
      exact ⟨ws, _, rfl, hh, hwx, hwl, hown, hbw⟩
end Go.Proofs.YtbfoocginkdmcaaGreatDoor

/-
  The reference's restarts.
-/

set_option linter.unusedVariables false
set_option maxRecDepth 100000
set_option maxHeartbeats 4000000
namespace Go.Proofs.YtbfoocginkdmcaaGreatDoor
open Go Go.RowKit Go.Basic Go.Scr Go.Lib Go.ArgS
theorem z_none (s : ByteArray) (hs : s.size ≤ 2000000) (hz : zOf s.data.toList = none) (w : World) : Calls Tryz.prog 56 #[.string s] w fun e w' => ∃ n : Int, e = .returned (.tuple #[.int .i64 n, .bool false]) ∧ Below w.heap.size w w' := by
  refine (integer_calls s hs w).mono fun e w' ⟨n, h1, _, h2⟩ => ?_
  rw [hz] at h1
  exact ⟨n, h1, h2⟩
theorem z_some (s : ByteArray) (hs : s.size ≤ 2000000) (m : Int) (hz : zOf s.data.toList = some m) (w : World) : Calls Tryz.prog 56 #[.string s] w fun e w' => e = .returned (.tuple #[.int .i64 m, .bool true]) ∧ Below w.heap.size w w' := by
  refine (integer_calls s hs w).mono fun e w' ⟨n, h1, h3, h2⟩ => ?_
  rw [hz] at h1
  obtain rfl := h3 m hz
  exact ⟨h1, h2⟩
structure S2 (w0 w' : World) (R a : Nat) (cs : List Value) : Prop where
  res : Box w' R zeroL
  act : Box w' a cs
  bel : Below w0.heap.size w0 w'
  lR : w0.heap.size ≤ R
  la : w0.heap.size ≤ a
  Ra : R ≠ a
theorem S2.set {w0 w' : World} {R a : Nat} {cs : List Value} (h : S2 w0 w' R a cs) (j : Nat) (v : Value) (hj : j < cs.length) : S2 w0 (w'.setCell ⟨a, j, none⟩ v) R a (cs.set j v) where
  res := h.res.set_other _ _ h.Ra
  act := h.act.set j v hj
  bel := h.bel.setCell (p := ⟨a, j, none⟩) h.la v
  lR := h.lR
  la := h.la
  Ra := h.Ra
theorem S2.below {w0 w' w'' : World} {R a : Nat} {cs : List Value} (h : S2 w0 w' R a cs) (hb : Below w'.heap.size w' w'') : S2 w0 w'' R a cs where
  res := h.res.below hb h.res.1
  act := h.act.below hb h.act.1
  bel := h.bel.trans (hb.mono h.bel.size)
  lR := h.lR
  la := h.la
  Ra := h.Ra
theorem S2.append {w0 w' w'' : World} {R a B : Nat} {cs : List Value} {o : Obj} {row : Option Nat} (h : S2 w0 w' R a cs) (gr : (w'.alloc o).grownBy w'' row) (hrow : ∀ k, row = some k → B ≤ k) (hR : R < B) (ha : a < B) (h0 : w0.heap.size ≤ B) (hB : B ≤ w'.heap.size) : S2 w0 w'' R a cs where
  res := (h.res.alloc o).grown gr (by intro e; have := hrow _ e.symm; omega)
  act := (h.act.alloc o).grown gr (by intro e; have := hrow _ e.symm; omega)
  bel := (h.bel.alloc h.bel.size o).grown gr (by have := h.bel.size; simp; omega) fun j hj => Nat.le_trans h0 (hrow j hj)
  lR := h.lR
  la := h.la
  Ra := h.Ra
def AOut (w : World) (r : Option PAct) (e : Ending) (w' : World) : Prop :=
  ∃ (k t o n q : Int) (s : ByteArray) (ax : Option Addr) (lx cx : Nat) (ay : Option Addr) (ly cy : Nat),
    e = .returned (.tuple #[.agg #[.int .i64 k, .string s, .slice ax lx cx, .int .u64 t, .int .i64 o, .int .i64 n, .int .i64 q, .slice ay ly cy], .bool r.isSome]) ∧ Below w.heap.size w w' ∧
    ∀ A, r = some A → k = A.kind ∧ t = (A.now : Int) ∧ o = A.outcome ∧ n = A.n ∧ q = A.dir ∧ s = A.raw ∧ lx = A.draws.length ∧ ly = A.tails.length ∧
      OwnS w' w.heap.size .u8 (.slice ax lx cx) (A.draws.map fun b => (b.toNat : Int)) ∧ OwnS w' w.heap.size .i64 (.slice ay ly cy) A.tails ∧ (ax = none ∨ ay = none)
def PreZ (U : List (List UInt8)) (pre : List Int) (k : Nat) : Prop := pre.length = k ∧ zsU U = (zsU (U.drop k)).map (pre ++ ·)
theorem prez_next {U : List (List UInt8)} {pre : List Int} {k : Nat} {x : List UInt8} {z : Int} (h : PreZ U pre k) (hx : U[k]? = some x) (hz : zOf x = some z) : PreZ U (pre ++ [z]) (k + 1) := by
  obtain ⟨h1, h2⟩ := h
  have hl := (List.getElem?_eq_some_iff.1 hx).1
  have hd : U.drop k = x :: U.drop (k + 1) := by rw [List.drop_eq_getElem_cons hl]; rw [List.getElem?_eq_getElem hl] at hx; injection hx with hx; rw [hx]
  refine ⟨by rw [List.length_append, h1]; rfl, ?_⟩
  rw [h2, hd, zs_some hz, Option.map_map]
  congr 1
  funext l
  simp
theorem prez_bad {U : List (List UInt8)} {pre : List Int} {k : Nat} {x : List UInt8} (h : PreZ U pre k) (hx : U[k]? = some x) (hz : zOf x = none) : ofRestart U = none := by
  obtain ⟨h1, h2⟩ := h
  have hl := (List.getElem?_eq_some_iff.1 hx).1
  have hd : U.drop k = x :: U.drop (k + 1) := by rw [List.drop_eq_getElem_cons hl]; rw [List.getElem?_eq_getElem hl] at hx; injection hx with hx; rw [hx]
  unfold ofRestart
  rw [zs_mapM, h2, hd, zs_none hz]
  rfl
theorem prez_end {U : List (List UInt8)} {pre : List Int} (h : PreZ U pre U.length) : ofRestart U = if 2 ≤ U.length then some (act5 (pre.getD 0 0) (pre.getD 1 0) (pre.drop 2)) else none := by
  obtain ⟨h1, h2⟩ := h
  rw [List.drop_length] at h2
  unfold ofRestart
  rw [zs_mapM, h2]
  simp only [zsU, Option.map_some, List.append_nil]
  match pre, h1 with
  | [], h1 => rw [if_neg (by simp at h1; omega)]
  | [n], h1 => rw [if_neg (by simp at h1; omega)]
  | n :: q :: ts, h1 =>
    rw [if_pos (by simp at h1; omega)]
    rfl
theorem getD_app_lt {l : List Int} {z : Int} {i : Nat} (h : i < l.length) : (l ++ [z]).getD i 0 = l.getD i 0 := by
  simp [List.getD, List.getElem?_append_left h]
theorem own_below3 {w w' : World} {B : Nat} {e : TypeId} {v : Value} {n : Nat} {xs : List Value} (h : w.ownsRow B e 1 v n xs) (hb : Below w.heap.size w w') : w'.ownsRow B e 1 v n xs :=
  own_keptb' (row := none) h (grown_of_below none hb) (fun k e => by cases e)
theorem restarts_calls (g o c : Nat) (ws : List ByteArray) (w : World) (hg : g < w.heap.size) (hcl : ∀ (j : Nat) x, ws[j]? = some x → w.cell? ⟨g, o + j, none⟩ = some (.string x)) (hl : ws.length ≤ 2000001) (hx : ∀ x ∈ ws, x.size ≤ 2000000) :
    Calls Tryz.prog 53 #[.slice (some ⟨g, o, none⟩) ws.length c] w (AOut w (ofRestart (ws.map (·.data.toList)))) := by
  obtain ⟨i3, hi3, hz3, hs3, hb3⟩ := info_parts inf3
  have hlI : (ws.length : Int) ≤ 2000001 := by omega
  go_enter Tryz.func53, Tryz.ntmps53
  go_wp2
  have hS0 : S2 w ((w.alloc (.cells zeroL.toArray 36)).alloc (.cells #[.int .i64 5, .string ⟨#[]⟩, .slice none 0 0, .int .u64 0, .int .i64 0, .int .i64 0, .int .i64 0, .slice none 0 0] 36)) w.heap.size (w.heap.size + 1) [.int .i64 5, .string ⟨#[]⟩, .slice none 0 0, .int .u64 0, .int .i64 0, .int .i64 0, .int .i64 0, .slice none 0 0] := by
    refine ⟨(Box.new w zeroL.toArray 36).alloc _, ?_, ((Below.refl _ _).alloc (Nat.le_refl _) _).alloc (by simp) _, Nat.le_refl _, Nat.le_succ _, by omega⟩
    have h := Box.new (w.alloc (.cells zeroL.toArray 36)) #[.int .i64 5, .string ⟨#[]⟩, .slice none 0 0, .int .u64 0, .int .i64 0, .int .i64 0, .int .i64 0, .slice none 0 0] 36
    simp only [World.size_alloc] at h
    exact h
  have hz0 : ((w.alloc (.cells zeroL.toArray 36)).alloc (.cells #[.int .i64 5, .string ⟨#[]⟩, .slice none 0 0, .int .u64 0, .int .i64 0, .int .i64 0, .int .i64 0, .slice none 0 0] 36)).heap.size = w.heap.size + 2 := by simp
  go_loopw [5] (fun i wr => ∃ (k : Nat) (pre tl : List Int) (P0 P1 : Int) (m : Nat) (vt : Value), k ≤ ws.length ∧ i = .int .i64 k ∧ Hid (PreZ (ws.map (·.data.toList)) pre k) ∧ Hid (P0 = pre.getD 0 0 ∧ P1 = pre.getD 1 0 ∧ tl = pre.drop 2 ∧ m = tl.length) ∧ S2 w wr w.heap.size (w.heap.size + 1) [.int .i64 5, .string ⟨#[]⟩, .slice none 0 0, .int .u64 0, .int .i64 0, .int .i64 P0, .int .i64 P1, vt] ∧ wr.ownsRow (w.heap.size + 2) 3 1 vt m (tl.map (Value.int .i64)) ∧ w.heap.size + 2 ≤ wr.heap.size) (fun i _ => ws.length - (RowKit.intOf i).toNat)
  case atStart => exact ⟨0, [], [], 0, 0, 0, _, Nat.zero_le _, rfl, ⟨rfl, by simp⟩, ⟨rfl, rfl, rfl, rfl⟩, hS0, World.ownsRow_nil _ _ _ _, by simp⟩
  case round =>
    clear hS0 hz0
    obtain ⟨k, pre, tl, P0, P1, m, vt, hk, rfl, hpre, hP, hst, hown, hsz⟩ := hrel
    obtain ⟨ta, tc, rfl⟩ := own_slc hown
    have hpl : pre.length = k := (show PreZ _ _ _ from hpre).1
    by_cases hlt : k < ws.length
    · have hlt' : (k : Int) < (ws.length : Int) := by omega
      obtain ⟨x, hxk⟩ : ∃ x, ws[k]? = some x := ⟨ws[k], List.getElem?_eq_getElem hlt⟩
      have hxs := hx x (List.mem_of_getElem? hxk)
      have hcx : wr.cell? ⟨g, o + k, none⟩ = some (.string x) := (hst.bel.cell (p := ⟨g, o + k, none⟩) hg).trans (hcl k x hxk)
      have hUk : (ws.map (·.data.toList))[k]? = some x.data.toList := by rw [List.getElem?_map, hxk]; rfl
      clear hcl hxk
      cases hz : zOf x.data.toList with
      | none =>
        have hbad : Hid (ofRestart (ws.map (·.data.toList)) = none) := prez_bad hpre hUk hz
        have hf := fun W => z_none x hxs hz W
        clear hz hpre hpl hUk
        go_wp2_with (go_at_call 56; refine (hf _).mono ?_; clear hf; rintro e w2 ⟨z, rfl, bel2⟩; (have hst := hst.below bel2); (have d0 := hst.act.at 0 rfl); (have d1 := hst.act.at 1 rfl); (have d2 := hst.act.at 2 rfl); (have d3 := hst.act.at 3 rfl); (have d4 := hst.act.at 4 rfl); (have d5 := hst.act.at 5 rfl); (have d6 := hst.act.at 6 rfl); (have d7 := hst.act.at 7 rfl); (have e0 := hst.res.at 0 rfl); (have e1 := hst.res.at 1 rfl); (have e2 := hst.res.at 2 rfl); (have e3 := hst.res.at 3 rfl); (have e4 := hst.res.at 4 rfl); (have e5 := hst.res.at 5 rfl); (have e6 := hst.res.at 6 rfl); (have e7 := hst.res.at 7 rfl); (have fz := hst.res.2.2); (have n2 : ¬ w.heap.size = w.heap.size + 1 := by omega); (have n3 : ¬ w.heap.size + 1 = w.heap.size := by omega))
        have R16 := box_set8 hst.res rfl (.int .i64 5) (.string ⟨#[]⟩) (.slice none 0 0) (.int .u64 0) (.int .i64 0) (.int .i64 P0) (.int .i64 P1) (.slice ta m tc)
        have b16 := below_set8 hst.bel hst.lR (.int .i64 5) (.string ⟨#[]⟩) (.slice none 0 0) (.int .u64 0) (.int .i64 0) (.int .i64 P0) (.int .i64 P1) (.slice ta m tc)
        simp only [set8, Nat.zero_add] at R16 b16
        have e0 := Box.at R16 0 rfl
        have e1 := Box.at R16 1 rfl
        have e2 := Box.at R16 2 rfl
        have e3 := Box.at R16 3 rfl
        have e4 := Box.at R16 4 rfl
        have e5 := Box.at R16 5 rfl
        have e6 := Box.at R16 6 rfl
        have e7 := Box.at R16 7 rfl
        try simp only [Exit.inBlock, Exit.then]
        refine bodyPost_ret (by simp [results, Tryz.results53, go_sem, e0, e1, e2, e3, e4, e5, e6, e7]; try rfl) rfl ?_
        unfold AOut
        rw [show ofRestart _ = _ from hbad]
        exact ⟨_, _, _, _, _, _, _, _, _, _, _, _, rfl, b16, fun A hA => by cases hA⟩
      | some z =>
        have hf := fun W => z_some x hxs z hz W
        have hpre2 : Hid (PreZ (ws.map (·.data.toList)) (pre ++ [z]) (k + 1)) := prez_next hpre hUk hz
        clear hz hpre hUk
        rcases (show k = 0 ∨ k = 1 ∨ (k ≠ 0 ∧ k ≠ 1) by omega) with rfl | rfl | ⟨hk0, hk1⟩
        · obtain rfl : pre = [] := List.eq_nil_of_length_eq_zero hpl
          obtain ⟨rfl, rfl, rfl, rfl⟩ := show _ ∧ _ ∧ _ ∧ _ from hP
          simp only [List.getD_nil, List.drop_nil, List.length_nil, List.map_nil] at hst hown
          rw [Nat.add_zero] at hcx
          go_wp2_with (go_at_call 56; refine (hf _).mono ?_; clear hf; rintro e w2 ⟨rfl, bel2⟩; (have hst2 := hst.below bel2); (have hown2 := own_below3 hown bel2); (have c5 := hst2.act.at 5 rfl); (have f5 := hst2.act.2.2 5); (have hst3 := hst2.set 5 (.int .i64 z) (by simp)); (have b2 := bel2.size); clear hst hown)
          go_roundw
          case rel => exact ⟨1, [z], [], z, 0, 0, _, by omega, by go_num, hpre2, ⟨rfl, rfl, rfl, rfl⟩, hst3, own_keptb hown2 (grown_set w2 (w.heap.size + 1) 5 (.int .i64 z)) (by omega), (by rw [size_set]; omega)⟩
          case measure => simp only [RowKit.intOf]; omega
        · obtain ⟨p0, rfl⟩ : ∃ p0, pre = [p0] := by
            match pre, hpl with
            | [p0], _ => exact ⟨p0, rfl⟩
          obtain ⟨rfl, rfl, rfl, rfl⟩ := show _ ∧ _ ∧ _ ∧ _ from hP
          simp only [List.getD_cons_succ, List.getD_nil, List.drop_succ_cons, List.drop_nil, List.length_nil, List.map_nil] at hst hown
          go_wp2_with (go_at_call 56; refine (hf _).mono ?_; clear hf; rintro e w2 ⟨rfl, bel2⟩; (have hst2 := hst.below bel2); (have hown2 := own_below3 hown bel2); (have c6 := hst2.act.at 6 rfl); (have f6 := hst2.act.2.2 6); (have hst3 := hst2.set 6 (.int .i64 z) (by simp)); (have b2 := bel2.size); clear hst hown)
          go_roundw
          case rel => exact ⟨2, [P0, z], [], P0, z, 0, _, by omega, by go_num, hpre2, ⟨rfl, rfl, rfl, rfl⟩, hst3, own_keptb hown2 (grown_set w2 (w.heap.size + 1) 6 (.int .i64 z)) (by omega), (by rw [size_set]; omega)⟩
          case measure => simp only [RowKit.intOf]; omega
        · have hk0b : ((k : Int) == 0) = false := by rw [beq_eq_false_iff_ne]; omega
          have hk1b : ((k : Int) == 1) = false := by rw [beq_eq_false_iff_ne]; omega
          have hk0I : ¬ (k : Int) = 0 := by omega
          have hk1I : ¬ (k : Int) = 1 := by omega
          have hP' := show P0 = pre.getD 0 0 ∧ P1 = pre.getD 1 0 ∧ tl = pre.drop 2 ∧ m = tl.length from hP
          have hmk : m + 2 = k := by rw [hP'.2.2.2, hP'.2.2.1, List.length_drop]; omega
          have hP2 : Hid (P0 = (pre ++ [z]).getD 0 0 ∧ P1 = (pre ++ [z]).getD 1 0 ∧ tl ++ [z] = (pre ++ [z]).drop 2 ∧ m + 1 = (tl ++ [z]).length) := by
            refine ⟨?_, ?_, ?_, ?_⟩
            · rw [getD_app_lt (by omega)]; exact hP'.1
            · rw [getD_app_lt (by omega)]; exact hP'.2.1
            · rw [List.drop_append_of_le_length (by omega), hP'.2.2.1]
            · rw [List.length_append, hP'.2.2.2]; rfl
          obtain ⟨X, hX⟩ : ∃ X, X = tl.map (Value.int .i64) := ⟨_, rfl⟩
          rw [← hX] at hown
          have hfin : ∀ (v' : Value) (w2 : World), w2.ownsRow (w.heap.size + 2) 3 1 v' (m + 1) (X ++ [.int .i64 z]) → w2.ownsRow (w.heap.size + 2) 3 1 v' (m + 1) ((tl ++ [z]).map (Value.int .i64)) := by
            intro v' w2 h
            rw [List.map_append, ← hX]
            exact h
          clear hX hP hP' hpl
          go_wp2_with (first
            | (go_at_call 56; refine (hf _).mono ?_; clear hf; rintro e w2 ⟨rfl, bel2⟩; (have hst2 := hst.below bel2); (have hown2 := own_below3 hown bel2); (have c7 := hst2.act.at 7 rfl); (have b2 := bel2.size); clear hst hown)
            | (at_builtin; refine wpList_append_own _ rfl _ _ 32 rfl (w.heap.size + 2) 3 i3 (.int .i64 0) 1 8 Tryz.underlying32 hi3 hz3 hs3 hb3 rfl (by decide) (.slice ta m tc) m X rfl (hown2.alloc _) ⟨_, 0, none⟩ 1 1 [.int .i64 z] rfl rfl (one_cell _ _ _) one_i64 (by unfold maxLen; omega) (by omega) (by simp; omega) ?_; intro v' w3 hown3 hg3 _; (obtain ⟨va, vc, rfl⟩ := own_slc hown3); (have hst3 := hst2.append hg3 (fun k hk => (hown2.lt k hk).1) (by omega) (by omega) (by omega) (by omega)); (have c7' := hst3.act.at 7 rfl); (have f7 := hst3.act.2.2 7); (have s3 := hg3.size); simp only [World.size_alloc] at s3))
          have hst4 := hst3.set 7 (.slice va (m + 1) vc) (by simp)
          have hown4 := hfin _ _ (own_keptb hown3 (grown_set w3 (w.heap.size + 1) 7 (.slice va (m + 1) vc)) (by omega))
          clear hfin
          go_roundw
          case rel => exact ⟨k + 1, pre ++ [z], tl ++ [z], P0, P1, m + 1, .slice va (m + 1) vc, by omega, by go_num, hpre2, hP2, hst4, hown4, (by rw [size_set]; omega)⟩
          case measure => simp only [RowKit.intOf]; omega
    · have hge : ¬ (k : Int) < (ws.length : Int) := by omega
      obtain rfl : k = ws.length := by omega
      have hpe : ofRestart (ws.map (·.data.toList)) = _ := prez_end (by rw [List.length_map]; exact hpre)
      rw [List.length_map] at hpe
      have d0 := hst.act.at 0 rfl
      have d1 := hst.act.at 1 rfl
      have d2 := hst.act.at 2 rfl
      have d3 := hst.act.at 3 rfl
      have d4 := hst.act.at 4 rfl
      have d5 := hst.act.at 5 rfl
      have d6 := hst.act.at 6 rfl
      have d7 := hst.act.at 7 rfl
      have e0 := hst.res.at 0 rfl
      have e1 := hst.res.at 1 rfl
      have e2 := hst.res.at 2 rfl
      have e3 := hst.res.at 3 rfl
      have e4 := hst.res.at 4 rfl
      have e5 := hst.res.at 5 rfl
      have e6 := hst.res.at 6 rfl
      have e7 := hst.res.at 7 rfl
      have fz := hst.res.2.2
      have n2 : ¬ w.heap.size = w.heap.size + 1 := by omega
      have n3 : ¬ w.heap.size + 1 = w.heap.size := by omega
      by_cases h2 : 2 ≤ ws.length
      · have h2I : (2 : Int) ≤ (ws.length : Int) := by omega
        rw [if_pos h2] at hpe
        have hok : Hid (ofRestart (ws.map (·.data.toList)) = _) := hpe
        clear hpe hpre
        go_wp2
        have R16 := box_set8 hst.res rfl (.int .i64 5) (.string ⟨#[]⟩) (.slice none 0 0) (.int .u64 0) (.int .i64 0) (.int .i64 P0) (.int .i64 P1) (.slice ta m tc)
        have b16 := below_set8 hst.bel hst.lR (.int .i64 5) (.string ⟨#[]⟩) (.slice none 0 0) (.int .u64 0) (.int .i64 0) (.int .i64 P0) (.int .i64 P1) (.slice ta m tc)
        simp only [set8, Nat.zero_add] at R16 b16
        have e0 := Box.at R16 0 rfl
        have e1 := Box.at R16 1 rfl
        have e2 := Box.at R16 2 rfl
        have e3 := Box.at R16 3 rfl
        have e4 := Box.at R16 4 rfl
        have e5 := Box.at R16 5 rfl
        have e6 := Box.at R16 6 rfl
        have e7 := Box.at R16 7 rfl
        try simp only [Exit.inBlock, Exit.then]
        refine bodyPost_ret (by simp [results, Tryz.results53, go_sem, e0, e1, e2, e3, e4, e5, e6, e7]; try rfl) rfl ?_
        unfold AOut
        rw [show ofRestart _ = _ from hok]
        refine ⟨_, _, _, _, _, _, _, _, _, _, _, _, rfl, b16, fun A hA => ?_⟩
        cases hA
        obtain ⟨q1, q2, q3, q4⟩ := show P0 = pre.getD 0 0 ∧ P1 = pre.getD 1 0 ∧ tl = pre.drop 2 ∧ m = tl.length from hP
        subst q1 q2 q3 q4
        exact ⟨rfl, rfl, rfl, rfl, rfl, rfl, rfl, rfl, OwnS.nil _ _ _, ((own_set8 hown (by omega) _ _ _ _ _ _ _ _).mono (by omega)), .inl rfl⟩
      · have h2I : ¬ (2 : Int) ≤ (ws.length : Int) := by omega
        rw [if_neg h2] at hpe
        have hbad : Hid (ofRestart (ws.map (·.data.toList)) = none) := hpe
        clear hpe hpre
        go_wp2
        have R16 := box_set8 hst.res rfl (.int .i64 5) (.string ⟨#[]⟩) (.slice none 0 0) (.int .u64 0) (.int .i64 0) (.int .i64 P0) (.int .i64 P1) (.slice ta m tc)
        have b16 := below_set8 hst.bel hst.lR (.int .i64 5) (.string ⟨#[]⟩) (.slice none 0 0) (.int .u64 0) (.int .i64 0) (.int .i64 P0) (.int .i64 P1) (.slice ta m tc)
        simp only [set8, Nat.zero_add] at R16 b16
        have e0 := Box.at R16 0 rfl
        have e1 := Box.at R16 1 rfl
        have e2 := Box.at R16 2 rfl
        have e3 := Box.at R16 3 rfl
        have e4 := Box.at R16 4 rfl
        have e5 := Box.at R16 5 rfl
        have e6 := Box.at R16 6 rfl
        have e7 := Box.at R16 7 rfl
        try simp only [Exit.inBlock, Exit.then]
        refine bodyPost_ret (by simp [results, Tryz.results53, go_sem, e0, e1, e2, e3, e4, e5, e6, e7]; try rfl) rfl ?_
        unfold AOut
        rw [show ofRestart _ = _ from hbad]
        exact ⟨_, _, _, _, _, _, _, _, _, _, _, _, rfl, b16, fun A hA => by cases hA⟩
end Go.Proofs.YtbfoocginkdmcaaGreatDoor
