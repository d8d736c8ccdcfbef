/-
  The program's Unescape of what was escaped.
-/
import Derived.Test.YtdjaccnocaffjaaGreatDoorWC
import Derived.Test.YtdjaccnocaffjaaGreatDoorWA
import Derived.Deep.RegionHeld3

set_option linter.unusedVariables false
set_option maxRecDepth 100000
set_option maxHeartbeats 1000000
namespace Go.Proofs.YtdjaccnocaffjaaGreatDoor
open Go Go.RowKit Go.Basic

theorem esc_split (r : List UInt8) (j : Nat) (h : j < r.length) : esc r = esc (r.take j) ++ (esc1 r[j] ++ esc (r.drop (j + 1))) := by
  have h1 : r = r.take j ++ (r[j] :: r.drop (j + 1)) := by rw [← List.drop_eq_getElem_cons h, List.take_append_drop]
  have h2 : esc (r[j] :: r.drop (j + 1)) = esc1 r[j] ++ esc (r.drop (j + 1)) := rfl
  rw [← h2]
  show _ = esc (r.take j) ++ _
  unfold esc
  rw [← List.flatMap_append, ← h1]

theorem esc_at (r : List UInt8) (j t : Nat) (h : j < r.length) (c : UInt8) (hc : (esc1 r[j])[t]? = some c) : (esc r)[(esc (r.take j)).length + t]? = some c := by
  rw [esc_split r j h, List.getElem?_append_right (by omega), show (esc (r.take j)).length + t - (esc (r.take j)).length = t from by omega, List.getElem?_append_left]
  · exact hc
  · exact (List.getElem?_eq_some_iff.1 hc).1

theorem byte_of (s : ByteArray) (k : Nat) (c : UInt8) (h : s.data.toList[k]? = some c) : ∃ hk : k < s.size, (s[k]'hk).toNat = c.toNat := by
  have hk : k < s.data.toList.length := (List.getElem?_eq_some_iff.1 h).1
  have hk' : k < s.size := by simpa using hk
  refine ⟨hk', ?_⟩
  have h2 : s.data.toList[k]? = some s[k] := by
    rw [List.getElem?_eq_getElem hk]
    rfl
  rw [h] at h2
  injection h2 with h2
  rw [h2]

theorem hexI_hexd : ∀ n, n < 16 → hexI (hexd n).toNat = (n : Int) := by decide

theorem unescape_calls (r : List UInt8) (s : ByteArray) (hs : s.data.toList = esc r) (hl : s.size ≤ 1000000) (w : World) :
    Calls Tryz.prog 36 #[.string s] w fun e w' => e = .returned (.tuple #[.string ⟨r.toArray⟩, .int .i64 0, .int .i64 0]) ∧ Below w.heap.size w w' := by
  have hsl : s.size = (esc r).length := by
    have : s.data.toList.length = s.size := by simp
    rw [← this, hs]
  have hsh : Hid (s.data.toList = esc r) := hs
  have hslh : Hid (s.size = (esc r).length) := hsl
  clear hs hsl
  go_enter Tryz.func36, Tryz.ntmps36
  go_wp2
  go_loopw [6] (fun i wr => ∃ j k : Nat, i = .int .i64 k ∧ j ≤ r.length ∧ j ≤ k ∧ k ≤ s.size ∧ Hid (k = (esc (r.take j)).length) ∧ Lib.IsBuilderF 110 5 w.heap.size w.heap.size (Lib.byteCells (r.take j)) wr ∧ Below w.heap.size w wr) (fun i _ => s.size - (intOf i).toNat)
  case atStart =>
    refine ⟨0, 0, rfl, Nat.zero_le _, Nat.le_refl _, Nat.zero_le _, rfl, ?_, (Below.refl _ w).alloc (Nat.le_refl _) _⟩
    exact Lib.IsBuilderF.of (Lib.fresh_isBuilder 110 5 w)
  case round =>
    obtain ⟨j, k, rfl, hj, hjk, hks, hk, hI, hbw⟩ := hrel
    by_cases hlt : j < r.length
    · obtain ⟨c, hc⟩ : ∃ c, c = r[j] := ⟨_, rfl⟩
      have hat : ∀ t d, (esc1 c)[t]? = some d → ∃ hkk : k + t < s.size, (s[k + t]'hkk).toNat = d.toNat := fun t d h => by
        refine byte_of s (k + t) d ?_
        rw [show s.data.toList = _ from hsh, show k = _ from hk]
        exact esc_at r j t hlt d (by rw [← hc]; exact h)
      have htk : r.take (j + 1) = r.take j ++ [c] := by rw [List.take_add_one, List.getElem?_eq_getElem hlt, hc]; rfl
      have hcells : Hid (Lib.byteCells (r.take (j + 1)) = Lib.byteCells (r.take j) ++ [.int .u8 c.toNat]) := by
        show _ = _
        rw [htk, bc_app]
        rfl
      have hlen : ∀ n, (esc1 c).length = n → Hid (k + n = (esc (r.take (j + 1))).length) := fun n h => by
        show k + n = _
        rw [esc_take r j hlt, ← hc, List.length_append, h, show k = _ from hk]
      have hend : ∀ n, (esc1 c).length = n → k + n ≤ s.size := fun n h => by
        have h1 := congrArg List.length (esc_split r j hlt)
        rw [← hc, List.length_append, List.length_append, h, ← show s.size = _ from hslh, ← show k = _ from hk] at h1
        omega
      have hbl : (Lib.byteCells (r.take j)).length + 1 ≤ 140737488355328 := by
        rw [Lib.byteCells_length, List.length_take]
        omega
      clear hc htk
      have hcl := UInt8.toNat_lt c
      by_cases h32 : c = 32
      · have he1 : esc1 c = [43] := by unfold esc1; rw [if_pos h32]
        obtain ⟨hk0, h0⟩ := hat 0 43 (by rw [he1]; rfl)
        have h0' : s[k].toNat = 43 := h0
        have hk0' : (k : Int) < (s.size : Int) := by omega
        have hln := hlen 1 (by rw [he1]; rfl)
        have hnd := hend 1 (by rw [he1]; rfl)
        have hcells' : Hid (Lib.byteCells (r.take (j + 1)) = Lib.byteCells (r.take j) ++ [.int .u8 32]) := by
          rw [h32] at hcells
          exact hcells
        clear h0 h32 he1 hat hlen hend
        go_wp2_with (go_at_call 57; refine (Tryz.Builder_WriteByte_k w.heap.size w.heap.size _ 32 _ hI hbl hbw.size).mono ?_)
        rintro e W1 ⟨rfl, h1, b1, k1⟩
        go_wp2
        go_roundw
        case rel => exact ⟨j + 1, k + 1, by go_num, by omega, by omega, by omega, hln, by rw [show _ = _ from hcells']; exact Or.inr h1, hbw.trans b1⟩
        case measure => simp only [intOf]; omega
      · by_cases hp : isPlain c.toNat = true
        · obtain ⟨p1, p2, p3, p4, p5⟩ := plain_ok _ hcl hp
          have he1 : esc1 c = [c] := by unfold esc1; rw [if_neg h32, if_pos hp]
          obtain ⟨hk0, h0⟩ := hat 0 c (by rw [he1]; rfl)
          have h0' : s[k].toNat = c.toNat := h0
          have hk0' : (k : Int) < (s.size : Int) := by omega
          have hln := hlen 1 (by rw [he1]; rfl)
          have hnd := hend 1 (by rw [he1]; rfl)
          have e43 : ((c.toNat : Int) == 43) = false := by rw [beq_eq_false_iff_ne]; omega
          have e37 : ((c.toNat : Int) == 37) = false := by rw [beq_eq_false_iff_ne]; omega
          have l33 : ¬ (c.toNat : Int) < 33 := by omega
          have g126 : ¬ (126 : Int) < (c.toNat : Int) := by omega
          clear h0 h32 he1 hat hlen hend p1 p2 p3 p4 p5 hp
          go_wp2_with (go_at_call 57; refine (Tryz.Builder_WriteByte_k w.heap.size w.heap.size _ c.toNat _ hI hbl hbw.size).mono ?_)
          rintro e W1 ⟨rfl, h1, b1, k1⟩
          go_wp2
          intro h1 b1 k1
          go_wp2
          go_roundw
          case rel => exact ⟨j + 1, k + 1, by go_num, by omega, by omega, by omega, hln, by rw [show _ = _ from hcells]; exact Or.inr h1, hbw.trans b1⟩
          case measure => simp only [intOf]; omega
        · have he1 : esc1 c = [37, hexd (c.toNat / 16), hexd (c.toNat % 16)] := by unfold esc1; rw [if_neg h32, if_neg hp]
          obtain ⟨hk0, h0⟩ := hat 0 37 (by rw [he1]; rfl)
          obtain ⟨hk1, h1'⟩ := hat 1 (hexd (c.toNat / 16)) (by rw [he1]; rfl)
          obtain ⟨hk2, h2'⟩ := hat 2 (hexd (c.toNat % 16)) (by rw [he1]; rfl)
          have h0' : s[k].toNat = 37 := h0
          have hx1 := hexI_hexd (c.toNat / 16) (by omega)
          have hx2 := hexI_hexd (c.toNat % 16) (by omega)
          obtain ⟨p, hp1⟩ : ∃ p, p = c.toNat / 16 := ⟨_, rfl⟩
          obtain ⟨q, hq1⟩ : ∃ q, q = c.toNat % 16 := ⟨_, rfl⟩
          rw [← hp1] at h1' hx1
          rw [← hq1] at h2' hx2
          have hpq : 16 * (p : Int) + (q : Int) = (c.toNat : Int) := by omega
          have hp16 : p < 16 := by omega
          have hq16 : q < 16 := by omega
          have hk0' : (k : Int) < (s.size : Int) := by omega
          have hk2' : ¬ (s.size : Int) ≤ (k : Int) + 2 := by omega
          have hk1' : (k : Int) + 1 < (s.size : Int) := by omega
          have hk2'' : (k : Int) + 2 < (s.size : Int) := by omega
          have hk3 : (0 : Int) ≤ (k : Int) + 1 := by omega
          have hk4 : (0 : Int) ≤ (k : Int) + 2 := by omega
          have hln := hlen 3 (by rw [he1]; rfl)
          have hnd := hend 3 (by rw [he1]; rfl)
          clear h0 h32 he1 hat hlen hend hp hp1 hq1
          go_wp2_with (go_at_call 85; refine (hex_calls _ (UInt8.toNat_lt _) _).mono ?_)
          rintro e w1 ⟨rfl, rfl⟩
          rw [hx2]
          go_wp2
          have hw1 : IntKind.i64.wrap ((k : Int) + 1) = (k : Int) + 1 := wraps_i64 _ (by omega) (by omega)
          have hw2 : IntKind.i64.wrap ((k : Int) + 2) = (k : Int) + 2 := wraps_i64 _ (by omega) (by omega)
          have hw3 : IntKind.i64.wrap (16 * (p : Int)) = 16 * (p : Int) := wraps_i64 _ (by omega) (by omega)
          have hw4 : IntKind.i64.wrap (16 * (p : Int) + (q : Int)) = (c.toNat : Int) := by rw [← hpq]; exact wraps_i64 _ (by omega) (by omega)
          have hz1 : ((k : Int) + 1).toNat = k + 1 := by omega
          have hz2 : ((k : Int) + 2).toNat = k + 2 := by omega
          have hw5 : IntKind.u8.wrap (c.toNat : Int) = (c.toNat : Int) := by
            have e : ∀ x : Int, IntKind.u8.wrap x = x % 256 := fun x => rfl
            rw [e]
            omega
          have hId : Lib.IsBuilderF 110 5 w.heap.size w.heap.size (Lib.byteCells (r.take j)) w1.drew := hI
          have hbd : Below w.heap.size w w1.drew := hbw.drew
          clear hk2' hcl hpq hI hbw
          go_region_with (first | (go_at_call 85; refine (hex_calls _ (UInt8.toNat_lt _) _).mono ?_; rintro e w2 ⟨rfl, rfl⟩) | (go_at_call 57; refine (Tryz.Builder_WriteByte_k w.heap.size w.heap.size (Lib.byteCells (r.take j)) _ _ hId hbl hbd.size).mono ?_; rintro e W1 ⟨rfl, h1, b1, k1⟩))
          all_goals
            clear hw1 hw2 hw3 hw4 hw5 hz1 hz2
            go_wp2
            go_roundw
            case rel => exact ⟨j + 1, k + 3, by go_num, by omega, by omega, by omega, hln, by rw [show _ = _ from hcells]; exact Or.inr h1, hbd.trans b1⟩
            case measure => simp only [intOf]; omega
    · have hjr : j = r.length := by omega
      have hkr : k = s.size := by rw [show k = _ from hk, hjr, List.take_length, show s.size = _ from hslh]
      subst hkr
      rw [hjr, List.take_length] at hI
      go_wp2_with (go_at_call 59; refine (Tryz.Builder_String_any_k w.heap.size w.heap.size _ _ hI hbw.size).mono ?_)
      rintro e W1 ⟨rfl, x1, b1, x2⟩
      go_wp2
      go_ret3
      exact ⟨rfl, hbw.trans b1⟩
end Go.Proofs.YtdjaccnocaffjaaGreatDoor
