/-
  The reference's Digits writes the decimal numeral of every number, and writes nothing that was there.
-/
import Derived.Test.YtgcpgkbplgjpoaaGreatDoorProg
import Derived.WalkKit
import Derived.LoopTactic
import Derived.Below
import Derived.Lib.ItoaNum
import Derived.Shelf.Strconv.Itoa3
namespace Go.Proofs.YtgcpgkbplgjpoaaGreatDoor
open Go Go.RowKit

theorem digit_any (d : Nat) (hd : d < 10) (w : World) : Calls Tryz.prog 20 #[.int .i64 d] w fun e w' => e = .returned (.string ⟨#[UInt8.ofNat (48 + d)]⟩) ∧ w' = w := by
  match d, hd with
  | 0, _ => go_enter Tryz.func20, Tryz.ntmps20; go_wp2; go_ret; exact ⟨rfl, rfl⟩
  | 1, _ => go_enter Tryz.func20, Tryz.ntmps20; go_wp2; go_ret; exact ⟨rfl, rfl⟩
  | 2, _ => go_enter Tryz.func20, Tryz.ntmps20; go_wp2; go_ret; exact ⟨rfl, rfl⟩
  | 3, _ => go_enter Tryz.func20, Tryz.ntmps20; go_wp2; go_ret; exact ⟨rfl, rfl⟩
  | 4, _ => go_enter Tryz.func20, Tryz.ntmps20; go_wp2; go_ret; exact ⟨rfl, rfl⟩
  | 5, _ => go_enter Tryz.func20, Tryz.ntmps20; go_wp2; go_ret; exact ⟨rfl, rfl⟩
  | 6, _ => go_enter Tryz.func20, Tryz.ntmps20; go_wp2; go_ret; exact ⟨rfl, rfl⟩
  | 7, _ => go_enter Tryz.func20, Tryz.ntmps20; go_wp2; go_ret; exact ⟨rfl, rfl⟩
  | 8, _ => go_enter Tryz.func20, Tryz.ntmps20; go_wp2; go_ret; exact ⟨rfl, rfl⟩
  | 9, _ => go_enter Tryz.func20, Tryz.ntmps20; go_wp2; go_ret; exact ⟨rfl, rfl⟩
  | d + 10, h => omega

theorem digit_of (k : Nat) (w : World) : Calls Tryz.prog 20 #[.int .i64 ((k : Int) % 10)] w fun e w' => e = .returned (.string ⟨#[UInt8.ofNat (48 + k % 10)]⟩) ∧ w' = w := by
  have := digit_any (k % 10) (Nat.mod_lt _ (by decide)) w
  rwa [show ((k % 10 : Nat) : Int) = (k : Int) % 10 from by omega] at this

theorem digits_short (N : Nat) (hN : N < 18446744073709551616) : (Lib.decDigits N).length ≤ 20 := by
  rw [Lib.decDigits_length]
  rcases Nat.eq_zero_or_pos N with rfl | h1
  · rw [Lib.nDigits_small (by omega)]; omega
  · have := Lib.numDigits_eq N h1 hN
    split at this <;> omega

theorem byte_of (k : Nat) : (48 + UInt8.ofNat (k % 10) : UInt8) = UInt8.ofNat (48 + k % 10) := by
  apply UInt8.toNat_inj.1
  simp

theorem bytes_cons (c : UInt8) (l : List UInt8) : (({ data := #[c] } : ByteArray) ++ { data := l.toArray }) = { data := (c :: l).toArray } := by
  apply ByteArray.ext
  simp

theorem digits_step {N k : Nat} {l : List UInt8} (h : Lib.decDigits N = Lib.decDigits k ++ l) (hk : ¬ k < 10) : Lib.decDigits N = Lib.decDigits (k / 10) ++ (UInt8.ofNat (48 + k % 10) :: l) := by
  rw [h, Lib.decDigits, dif_neg hk]
  simp

theorem digits_last {N k : Nat} {l : List UInt8} (h : Lib.decDigits N = Lib.decDigits k ++ l) (hk : k < 10) : Lib.decDigits N = UInt8.ofNat (48 + k % 10) :: l := by
  rw [h, Lib.decDigits, dif_pos hk, Nat.mod_eq_of_lt hk]
  rfl

theorem digits_any (N : Nat) (hN : N < 18446744073709551616) (w : World) : Calls Tryz.prog 12 #[.int .u64 N] w fun e w' => e = .returned (.string ⟨(Lib.decDigits N).toArray⟩) ∧ w' = w := by
  have hlen := digits_short N hN
  go_enter Tryz.func12, Tryz.ntmps12
  go_wp2
  go_loop [0, 3] (fun n s => ∃ (k : Nat) (l : List UInt8), k < 18446744073709551616 ∧ n = .int .u64 k ∧ s = .string ⟨l.toArray⟩ ∧ Hid (Lib.decDigits N = Lib.decDigits k ++ l))
    (fun n _ => (intOf n).toNat)
  case atStart => exact ⟨N, [], hN, rfl, rfl, by show Lib.decDigits N = Lib.decDigits N ++ []; simp⟩
  case round =>
    obtain ⟨k, l, hk, rfl, rfl, hI⟩ := hrel
    have hl : l.length + 1 ≤ 20 := by
      have e : Lib.decDigits N = Lib.decDigits k ++ l := hI
      have h1 := congrArg List.length e
      rw [List.length_append] at h1
      have h2 := Lib.nDigits_pos k
      rw [← Lib.decDigits_length] at h2
      omega
    have hs : ¬ 9223372036854775807 < 1 + l.length := by omega
    go_wp2_with (go_at_call 20; refine (digit_of k _).mono ?_; rintro e w' ⟨rfl, rfl⟩)
    · have hz : ((k : Int) / 10 == 0) = true := by assumption
      have hk10 : k < 10 := by
        have : (k : Int) / 10 = 0 := by simpa using hz
        omega
      go_ret
      rw [digits_last hI hk10, ← bytes_cons, byte_of]
      exact ⟨rfl, rfl⟩
    · have hz : ((k : Int) / 10 == 0) = false := by assumption
      have hk10 : ¬ k < 10 := fun h => by
        have : (k : Int) / 10 = 0 := by omega
        rw [this] at hz
        simp at hz
      go_round
      case rel => exact ⟨k / 10, UInt8.ofNat (48 + k % 10) :: l, by omega, by go_num, by rw [byte_of, bytes_cons], digits_step hI hk10⟩
      case measure => simp only [intOf]; omega
#print axioms digits_any
end Go.Proofs.YtgcpgkbplgjpoaaGreatDoor
