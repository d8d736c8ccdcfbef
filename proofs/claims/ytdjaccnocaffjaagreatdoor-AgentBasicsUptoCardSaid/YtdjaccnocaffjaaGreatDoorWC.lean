/-
  The program's Escape: by a builder.
-/
import Derived.Test.YtdjaccnocaffjaaGreatDoorWA
import Derived.Test.YtdjaccnocaffjaaGreatDoorSH

set_option linter.unusedVariables false
set_option maxRecDepth 100000
set_option maxHeartbeats 4000000
namespace Go.Proofs.YtdjaccnocaffjaaGreatDoor
open Go Go.RowKit Go.Basic

theorem plain_alnum (c : Nat) : isPlain c = (isAlnum c || c == 45 || c == 46 || c == 95 || c == 42) := rfl

theorem escape_calls (s : ByteArray) (hs : s.size ≤ 2000000) (w : World) :
    Calls Tryz.prog 24 #[.string s] w fun e w' => e = .returned (.string ⟨(esc s.data.toList).toArray⟩) ∧ Below w.heap.size w w' := by
  go_enter Tryz.func24, Tryz.ntmps24
  go_wp2
  go_loopw [8] (fun i wr => ∃ k n : Nat, k ≤ s.size ∧ i = .int .i64 k ∧ Hid (n = (esc (s.data.toList.take k)).length) ∧ n ≤ 3 * k ∧ Lib.IsBuilderF 110 5 w.heap.size w.heap.size (Lib.byteCells (esc (s.data.toList.take k))) wr ∧ Below w.heap.size w wr) (fun i _ => s.size - (intOf i).toNat)
  case atStart =>
    refine ⟨0, 0, Nat.zero_le _, rfl, rfl, by omega, ?_, (Below.refl _ w).alloc (Nat.le_refl _) _⟩
    exact Lib.IsBuilderF.of (Lib.fresh_isBuilder 110 5 w)
  case round =>
    obtain ⟨k, n, hk, rfl, hn, hnk, hI, hbw⟩ := hrel
    by_cases hlt : k < s.size
    · have hlt' : (k : Int) < (s.size : Int) := by omega
      have hl : k < s.data.toList.length := by simpa using hlt
      have het := esc_take s.data.toList k hl
      have hgk : s.data.toList[k] = s[k] := rfl
      rw [hgk] at het
      have hc := UInt8.toNat_lt s[k]
      have hnl : (esc (s.data.toList.take k)).length + 3 ≤ 140737488355328 := by have := show n = _ from hn; omega
      by_cases h32 : s[k].toNat = 32
      · have he1 : esc1 s[k] = [43] := by unfold esc1; rw [if_pos (UInt8.toNat_inj.1 h32)]
        have hcn := h32
        have e32 : ((s[k].toNat : Int) == 32) = true := by rw [beq_iff_eq]; omega
        clear h32
        clear hcn
        go_wp2_with (first | (go_at_call 58; refine (alnum_calls _ hc _).mono ?_; rintro e w1 ⟨rfl, rfl⟩) | (go_at_call 57; refine (Tryz.Builder_WriteByte_k w.heap.size w.heap.size _ 43 _ hI (by rw [Lib.byteCells_length]; omega) hbw.size).mono ?_))
        rintro e W1 ⟨rfl, h1, b1, k1⟩
        go_wp2
        go_roundw
        case rel =>
          refine ⟨k + 1, n + 1, by omega, by go_num, ?_, by omega, ?_, hbw.trans b1⟩
          · show n + 1 = _
            rw [het, he1, List.length_append, ← show n = _ from hn]; rfl
          · rw [het, he1, bc_app]; exact Or.inr h1
        case measure => simp only [intOf]; omega
      · have hne : ¬ s[k] = 32 := fun e => h32 (by rw [e]; decide)
        by_cases hp : isPlain s[k].toNat = true
        · have he1 : esc1 s[k] = [s[k]] := by unfold esc1; rw [if_neg hne, if_pos hp]
          have hp2 := plain_alnum s[k].toNat
          rw [hp] at hp2
          by_cases h45 : s[k].toNat = 45
          · have e32 : ((s[k].toNat : Int) == 32) = false := by rw [beq_eq_false_iff_ne]; omega
            have e45 : ((s[k].toNat : Int) == 45) = true := by rw [beq_iff_eq]; omega
            clear hp hp2 hne h32 h45
            go_wp2_with (first | (go_at_call 58; refine (alnum_calls _ hc _).mono ?_; rintro e w1 ⟨rfl, rfl⟩) | (go_at_call 57; refine (Tryz.Builder_WriteByte_k w.heap.size w.heap.size _ s[k].toNat _ hI (by rw [Lib.byteCells_length]; omega) hbw.size).mono ?_))
            rintro e W1 ⟨rfl, h1, b1, k1⟩
            go_wp2
            go_roundw
            case rel =>
              refine ⟨k + 1, n + 1, by omega, by go_num, ?_, by omega, ?_, hbw.trans b1⟩
              · show n + 1 = _
                rw [het, he1, List.length_append, ← show n = _ from hn]; rfl
              · rw [het, he1, bc_app]; exact Or.inr h1
            case measure => simp only [intOf]; omega
          · skip
            by_cases h46 : s[k].toNat = 46
            · have e32 : ((s[k].toNat : Int) == 32) = false := by rw [beq_eq_false_iff_ne]; omega
              have e45 : ((s[k].toNat : Int) == 45) = false := by rw [beq_eq_false_iff_ne]; omega
              have e46 : ((s[k].toNat : Int) == 46) = true := by rw [beq_iff_eq]; omega
              clear hp hp2 hne h32 h45 h46
              go_wp2_with (first | (go_at_call 58; refine (alnum_calls _ hc _).mono ?_; rintro e w1 ⟨rfl, rfl⟩) | (go_at_call 57; refine (Tryz.Builder_WriteByte_k w.heap.size w.heap.size _ s[k].toNat _ hI (by rw [Lib.byteCells_length]; omega) hbw.size).mono ?_))
              rintro e W1 ⟨rfl, h1, b1, k1⟩
              go_wp2
              go_roundw
              case rel =>
                refine ⟨k + 1, n + 1, by omega, by go_num, ?_, by omega, ?_, hbw.trans b1⟩
                · show n + 1 = _
                  rw [het, he1, List.length_append, ← show n = _ from hn]; rfl
                · rw [het, he1, bc_app]; exact Or.inr h1
              case measure => simp only [intOf]; omega
            · skip
              by_cases h95 : s[k].toNat = 95
              · have e32 : ((s[k].toNat : Int) == 32) = false := by rw [beq_eq_false_iff_ne]; omega
                have e45 : ((s[k].toNat : Int) == 45) = false := by rw [beq_eq_false_iff_ne]; omega
                have e46 : ((s[k].toNat : Int) == 46) = false := by rw [beq_eq_false_iff_ne]; omega
                have e95 : ((s[k].toNat : Int) == 95) = true := by rw [beq_iff_eq]; omega
                clear hp hp2 hne h32 h45 h46 h95
                go_wp2_with (first | (go_at_call 58; refine (alnum_calls _ hc _).mono ?_; rintro e w1 ⟨rfl, rfl⟩) | (go_at_call 57; refine (Tryz.Builder_WriteByte_k w.heap.size w.heap.size _ s[k].toNat _ hI (by rw [Lib.byteCells_length]; omega) hbw.size).mono ?_))
                rintro e W1 ⟨rfl, h1, b1, k1⟩
                go_wp2
                go_roundw
                case rel =>
                  refine ⟨k + 1, n + 1, by omega, by go_num, ?_, by omega, ?_, hbw.trans b1⟩
                  · show n + 1 = _
                    rw [het, he1, List.length_append, ← show n = _ from hn]; rfl
                  · rw [het, he1, bc_app]; exact Or.inr h1
                case measure => simp only [intOf]; omega
              · skip
                by_cases h42 : s[k].toNat = 42
                · have e32 : ((s[k].toNat : Int) == 32) = false := by rw [beq_eq_false_iff_ne]; omega
                  have e45 : ((s[k].toNat : Int) == 45) = false := by rw [beq_eq_false_iff_ne]; omega
                  have e46 : ((s[k].toNat : Int) == 46) = false := by rw [beq_eq_false_iff_ne]; omega
                  have e95 : ((s[k].toNat : Int) == 95) = false := by rw [beq_eq_false_iff_ne]; omega
                  have e42 : ((s[k].toNat : Int) == 42) = true := by rw [beq_iff_eq]; omega
                  clear hp hp2 hne h32 h45 h46 h95 h42
                  go_wp2_with (first | (go_at_call 58; refine (alnum_calls _ hc _).mono ?_; rintro e w1 ⟨rfl, rfl⟩) | (go_at_call 57; refine (Tryz.Builder_WriteByte_k w.heap.size w.heap.size _ s[k].toNat _ hI (by rw [Lib.byteCells_length]; omega) hbw.size).mono ?_))
                  rintro e W1 ⟨rfl, h1, b1, k1⟩
                  go_wp2
                  go_roundw
                  case rel =>
                    refine ⟨k + 1, n + 1, by omega, by go_num, ?_, by omega, ?_, hbw.trans b1⟩
                    · show n + 1 = _
                      rw [het, he1, List.length_append, ← show n = _ from hn]; rfl
                    · rw [het, he1, bc_app]; exact Or.inr h1
                  case measure => simp only [intOf]; omega
                · skip
                  have e32 : ((s[k].toNat : Int) == 32) = false := by rw [beq_eq_false_iff_ne]; omega
                  have e45 : ((s[k].toNat : Int) == 45) = false := by rw [beq_eq_false_iff_ne]; omega
                  have e46 : ((s[k].toNat : Int) == 46) = false := by rw [beq_eq_false_iff_ne]; omega
                  have e95 : ((s[k].toNat : Int) == 95) = false := by rw [beq_eq_false_iff_ne]; omega
                  have e42 : ((s[k].toNat : Int) == 42) = false := by rw [beq_eq_false_iff_ne]; omega
                  have hal : isAlnum s[k].toNat = true := by simp only [Bool.or_false, beq_eq_false_iff_ne.2 h45, beq_eq_false_iff_ne.2 h46, beq_eq_false_iff_ne.2 h95, beq_eq_false_iff_ne.2 h42] at hp2; exact hp2.symm
                  clear hp hp2 hne h32 h45 h46 h95 h42
                  go_wp2_with (first | (go_at_call 58; refine (alnum_calls _ hc _).mono ?_; rintro e w1 ⟨rfl, rfl⟩) | (go_at_call 57; refine (Tryz.Builder_WriteByte_k w.heap.size w.heap.size _ s[k].toNat _ hI (by rw [Lib.byteCells_length]; omega) hbw.size).mono ?_))
                  rintro e W1 ⟨rfl, h1, b1, k1⟩
                  go_wp2
                  go_roundw
                  case rel =>
                    refine ⟨k + 1, n + 1, by omega, by go_num, ?_, by omega, ?_, hbw.trans b1⟩
                    · show n + 1 = _
                      rw [het, he1, List.length_append, ← show n = _ from hn]; rfl
                    · rw [het, he1, bc_app]; exact Or.inr h1
                  case measure => simp only [intOf]; omega
        · have hp' : isPlain s[k].toNat = false := by simpa using hp
          rw [plain_alnum] at hp'
          simp only [Bool.or_eq_false_iff, beq_eq_false_iff_ne] at hp'
          obtain ⟨⟨⟨⟨hal, h45⟩, h46⟩, h95⟩, h42⟩ := hp'
          have he1 : esc1 s[k] = [37, hexd (s[k].toNat / 16), hexd (s[k].toNat % 16)] := by unfold esc1; rw [if_neg hne, if_neg hp]
          have e32 : ((s[k].toNat : Int) == 32) = false := by rw [beq_eq_false_iff_ne]; omega
          have e45 : ((s[k].toNat : Int) == 45) = false := by rw [beq_eq_false_iff_ne]; omega
          have e46 : ((s[k].toNat : Int) == 46) = false := by rw [beq_eq_false_iff_ne]; omega
          have e95 : ((s[k].toNat : Int) == 95) = false := by rw [beq_eq_false_iff_ne]; omega
          have e42 : ((s[k].toNat : Int) == 42) = false := by rw [beq_eq_false_iff_ne]; omega
          clear hp hne h32 h45 h46 h95 h42
          have hx1 := hex_const (s[k].toNat / 16) (by omega)
          have hx2 := hex_const (s[k].toNat % 16) (by omega)
          have q4 : (s[k].toNat : Int) / 16 < 16 := by omega
          have hL : (Lib.byteCells (esc (List.take k s.data.toList)) ++ [Value.int IntKind.u8 37]).length + 2 ≤ 140737488355328 := by
            rw [List.length_append, Lib.byteCells_length]
            simp only [List.length_cons, List.length_nil]
            omega
          have hL2 : (Lib.byteCells (esc (List.take k s.data.toList)) ++ [Value.int IntKind.u8 37] ++ [Value.int IntKind.u8 (hexd (s[k].toNat / 16)).toNat]).length + 1 ≤ 140737488355328 := by
            rw [List.length_append]
            simp only [List.length_cons, List.length_nil]
            omega
          have R1 : Lib.byteCells (esc (List.take (k + 1) s.data.toList)) = Lib.byteCells (esc (List.take k s.data.toList)) ++ [Value.int IntKind.u8 37] ++ [Value.int IntKind.u8 (hexd (s[k].toNat / 16)).toNat] ++ [Value.int IntKind.u8 (hexd (s[k].toNat % 16)).toNat] := by
            rw [het, he1, bc_app]
            simp [Lib.byteCells]
          have R2 : Hid (n + 3 = (esc (List.take (k + 1) s.data.toList)).length) := by
            show n + 3 = _
            rw [het, he1, List.length_append, ← show n = _ from hn]
            rfl
          have R1' : Hid _ := R1
          clear R1 he1 het
          go_wp2_with (first | (go_at_call 58; refine (alnum_calls _ hc _).mono ?_; rintro e w1 ⟨rfl, rfl⟩) | (go_at_call 57; refine (Tryz.Builder_WriteByte_k w.heap.size w.heap.size _ 37 _ hI (by rw [Lib.byteCells_length]; omega) hbw.size).mono ?_))
          rintro e W1 ⟨rfl, h1, b1, k1⟩
          have hb2 := hbw.trans b1
          have hI2 : Lib.IsBuilderF 110 5 w.heap.size w.heap.size _ W1 := Or.inr h1
          clear h1 b1 k1
          go_wp2_with (go_at_call 57; refine (Tryz.Builder_WriteByte_k w.heap.size w.heap.size _ (hexd (s[k].toNat / 16)).toNat _ hI2 (by omega) hb2.size).mono ?_)
          rintro e W2 ⟨rfl, h1, b1, k1⟩
          have hb3 := hb2.trans b1
          have hI3 : Lib.IsBuilderF 110 5 w.heap.size w.heap.size _ W2 := Or.inr h1
          clear h1 b1 k1
          go_wp2_with (go_at_call 57; refine (Tryz.Builder_WriteByte_k w.heap.size w.heap.size _ (hexd (s[k].toNat % 16)).toNat _ hI3 hL2 hb3.size).mono ?_)
          rintro e W3 ⟨rfl, h1, b1, k1⟩
          have hb4 := hb3.trans b1
          go_wp2
          go_roundw
          case rel => exact ⟨k + 1, n + 3, by omega, by go_num, R2, by omega, by rw [show _ = _ from R1']; exact Or.inr h1, hb4⟩
          case measure => simp only [intOf]; omega
    · have hge : ¬ (k : Int) < (s.size : Int) := by omega
      obtain rfl : k = s.size := by omega
      have htk : s.data.toList.take s.size = s.data.toList := List.take_of_length_le (by simp)
      rw [htk] at hI
      go_wp2_with (go_at_call 59; refine (Tryz.Builder_String_any_k w.heap.size w.heap.size _ _ hI hbw.size).mono ?_)
      rintro e W1 ⟨rfl, x1, b1, x2⟩
      go_wp2
      intro y1 b2 y2
      go_wp2
      go_ret
      exact ⟨rfl, hbw.trans b2⟩
end Go.Proofs.YtdjaccnocaffjaaGreatDoor

/-
  The program's Basic.
-/

set_option linter.unusedVariables false
set_option maxRecDepth 100000
set_option maxHeartbeats 1000000
namespace Go.Proofs.YtdjaccnocaffjaaGreatDoor
open Go Go.RowKit Go.Basic

def by0 (p : List UInt8) (j : Nat) : Nat := match p[j]? with | some x => x.toNat | none => 0

def n3 (p : List UInt8) (i : Nat) : Nat → Nat
  | 0 => 0
  | k + 1 => n3 p i k * 256 + by0 p (i + k)

theorem by0_lt (p : List UInt8) (j : Nat) : by0 p j < 256 := by
  unfold by0
  split
  · exact UInt8.toNat_lt _
  · omega

theorem n3_lt (p : List UInt8) (i : Nat) : ∀ k, n3 p i k < 256 ^ k
  | 0 => by simp [n3]
  | k + 1 => by
    have := n3_lt p i k
    have := by0_lt p (i + k)
    simp only [n3, Nat.pow_succ]
    omega

/-- The k-th letter of the four from i on. -/
def q1 (p : List UInt8) (i k : Nat) : UInt8 := if p.length < i + k then 61 else let64 (n3 p i 3 / 2 ^ (18 - 6 * k) % 64)

theorem by0_drop (p : List UInt8) (i j : Nat) : by0 (p.drop i) j = by0 p (i + j) := by
  unfold by0
  rw [List.getElem?_drop]

theorem n3_drop (p : List UInt8) (i : Nat) : ∀ k, n3 (p.drop i) 0 k = n3 p i k
  | 0 => rfl
  | k + 1 => by
    simp only [n3, n3_drop p i k, by0_drop, Nat.zero_add]

theorem b64_quad : ∀ r : List UInt8, r ≠ [] → b64 r = [q1 r 0 0, q1 r 0 1, q1 r 0 2, q1 r 0 3] ++ b64 (r.drop 3)
  | [], h => absurd rfl h
  | [a], _ => by
    have ha := UInt8.toNat_lt a
    simp [b64, q1, n3, by0]
    refine ⟨congrArg let64 ?_, congrArg let64 ?_⟩ <;> omega
  | [a, b], _ => by
    have ha := UInt8.toNat_lt a
    have hb := UInt8.toNat_lt b
    simp [b64, q1, n3, by0]
    refine ⟨congrArg let64 ?_, congrArg let64 ?_, congrArg let64 ?_⟩ <;> omega
  | a :: b :: c :: t, _ => by
    have ha := UInt8.toNat_lt a
    have hb := UInt8.toNat_lt b
    have hc := UInt8.toNat_lt c
    simp [b64, q1, n3, by0]
    refine ⟨congrArg let64 ?_, congrArg let64 ?_, congrArg let64 ?_, congrArg let64 ?_⟩ <;> omega

theorem q1_drop (p : List UInt8) (i k : Nat) (h : i ≤ p.length) : q1 (p.drop i) 0 k = q1 p i k := by
  unfold q1
  rw [n3_drop, List.length_drop]
  by_cases hh : p.length < i + k
  · rw [if_pos hh, if_pos (by omega)]
  · rw [if_neg hh, if_neg (by omega)]

theorem b64_step (p : List UInt8) (i : Nat) (h : i < p.length) : b64 (p.drop i) = [q1 p i 0, q1 p i 1, q1 p i 2, q1 p i 3] ++ b64 (p.drop (i + 3)) := by
  rw [b64_quad (p.drop i) (fun e => by have := congrArg List.length e; rw [List.length_drop] at this; simp at this; omega)]
  rw [q1_drop p i 0 (by omega), q1_drop p i 1 (by omega), q1_drop p i 2 (by omega), q1_drop p i 3 (by omega), List.drop_drop]

theorem let_const : ∀ (n : Nat) (h : n < 64), ((⟨#[65, 66, 67, 68, 69, 70, 71, 72, 73, 74, 75, 76, 77, 78, 79, 80, 81, 82, 83, 84, 85, 86, 87, 88, 89, 90, 97, 98, 99, 100, 101, 102, 103, 104, 105, 106, 107, 108, 109, 110, 111, 112, 113, 114, 115, 116, 117, 118, 119, 120, 121, 122, 48, 49, 50, 51, 52, 53, 54, 55, 56, 57, 43, 47]⟩ : ByteArray)[n]'h) = let64 n := by decide

theorem let_enc : ∀ n, n < 64 → Utf8.encode ((let64 n).toNat : Int) = ⟨#[let64 n]⟩ := by decide

theorem and_letter (N d Q : Nat) (hN : N < 16777216) (hQ : Q = N / d % 64) : bits BinOp.and IntKind.i64 ((N : Int) / (d : Int)) 63 = (Q : Int) := by
  have h := and_63 (N / d) (Nat.le_trans (Nat.div_le_self _ _) (by omega))
  rw [← hQ] at h
  rw [← h]
  rfl

theorem basic_calls (a b : ByteArray) (ha : a.size ≤ 1100000) (hb : b.size ≤ 1100000) (w : World) :
    Calls Tryz.prog 5 #[.string a, .string b] w fun e w' => e = .returned (.string ⟨([66, 97, 115, 105, 99, 32] ++ b64 (esc a.data.toList ++ [58] ++ esc b.data.toList)).toArray⟩) ∧ Below w.heap.size w w' := by
  have hla := esc_len a.data.toList
  have hlb := esc_len b.data.toList
  have hsa : a.data.toList.length = a.size := by simp
  have hsb : b.data.toList.length = b.size := by simp
  rw [hsa] at hla
  rw [hsb] at hlb
  go_enter Tryz.func5, Tryz.ntmps5
  go_wp2_with (go_at_call 24; refine (escape_calls a (by omega) _).mono ?_)
  rintro e w1 ⟨rfl, hb1⟩
  go_wp2_with (go_at_call 24; refine (escape_calls b (by omega) _).mono ?_)
  rintro e w2 ⟨rfl, hb2⟩
  go_wp2
  obtain ⟨P, hP⟩ : ∃ P : ByteArray, P = { data := (esc a.data.toList).toArray } ++ { data := #[58] } ++ { data := (esc b.data.toList).toArray } := ⟨_, rfl⟩
  rw [← hP]
  have hPl : P.data.toList = esc a.data.toList ++ [58] ++ esc b.data.toList := by
    rw [hP]
    simp
  have hPs : P.size ≤ 7000000 := by
    have : P.size = P.data.toList.length := by simp
    rw [this, hPl]
    simp only [List.length_append, List.length_cons, List.length_nil]
    omega
  have hPh : Hid (P.data.toList = esc a.data.toList ++ [58] ++ esc b.data.toList) := hPl
  clear hP hPl
  have hPlen : P.data.toList.length = P.size := by simp
  have hbb := hb1.trans (hb2.mono hb1.size)
  go_loop [6, 7] (fun o i => ∃ (j : Nat) (O : ByteArray), j ≤ (P.size + 2) / 3 ∧ i = .int .i64 (3 * (j : Int)) ∧ o = .string O ∧ Hid (O.data.toList ++ b64 (P.data.toList.drop (3 * j)) = [66, 97, 115, 105, 99, 32] ++ b64 P.data.toList) ∧ O.size ≤ 6 + 4 * j) (fun _ i => 3 * ((P.size + 2) / 3) - (intOf i).toNat)
  case atStart => exact ⟨0, ⟨#[66, 97, 115, 105, 99, 32]⟩, Nat.zero_le _, rfl, rfl, rfl, by decide⟩
  case round =>
    obtain ⟨j, O, hj, rfl, rfl, hO, hOs⟩ := hrel
    by_cases hlt : 3 * j < P.size
    · have hlt' : 3 * (j : Int) < (P.size : Int) := by omega
      go_wp2
      go_loop [8, 23] (fun n q => ∃ m : Nat, m ≤ 3 ∧ q = .int .i64 m ∧ n = .int .i64 (n3 P.data.toList (3 * j) m)) (fun _ q => 3 - (intOf q).toNat)
      case atStart => exact ⟨0, by omega, rfl, rfl⟩
      case round =>
        obtain ⟨m, hm, rfl, rfl⟩ := hrel
        by_cases hm3 : m < 3
        · have hn : n3 P.data.toList (3 * j) m ≤ 65536 := Nat.le_trans (Nat.le_of_lt (n3_lt P.data.toList (3 * j) m)) (Nat.pow_le_pow_right (n := 256) (by omega) (show m ≤ 2 by omega))
          by_cases hin : 3 * j + m < P.size
          · have hin' : 3 * (j : Int) + (m : Int) < (P.size : Int) := by omega
            have hx := UInt8.toNat_lt P[3 * j + m]
            have hb0 : Hid (by0 P.data.toList (3 * j + m) = P[3 * j + m].toNat) := by
              show by0 _ _ = _
              unfold by0
              rw [List.getElem?_eq_getElem (by simpa using hin)]
              rfl
            go_wp2
            go_round
            case rel => exact ⟨m + 1, by omega, by go_num, congrArg (Value.int .i64) (by rw [or_256' (n3 P.data.toList (3 * j) m) P[3 * j + m].toNat (by omega) hx]; simp only [n3]; rw [show _ = _ from hb0])⟩
            case measure => simp only [intOf]; omega
          · have hin' : ¬ 3 * (j : Int) + (m : Int) < (P.size : Int) := by omega
            have hb0 : Hid (by0 P.data.toList (3 * j + m) = 0) := by
              show by0 _ _ = _
              unfold by0
              rw [List.getElem?_eq_none (by simpa using Nat.le_of_not_lt hin)]
            go_wp2
            go_round
            case rel => exact ⟨m + 1, by omega, by go_num, congrArg (Value.int .i64) (by simp only [n3]; rw [show _ = _ from hb0]; push_cast; omega)⟩
            case measure => simp only [intOf]; omega
        · obtain rfl : m = 3 := by omega
          have hn : n3 P.data.toList (3 * j) 3 < 16777216 := n3_lt P.data.toList (3 * j) 3
          obtain ⟨N, hN⟩ : ∃ N, N = n3 P.data.toList (3 * j) 3 := ⟨_, rfl⟩
          rw [← hN] at hn
          have hN' : Hid (N = n3 P.data.toList (3 * j) 3) := hN
          rw [← hN]
          clear hN
          go_wp2
          go_loop [6, 43] (fun o q => ∃ (m : Nat) (O2 : ByteArray), m ≤ 4 ∧ q = .int .i64 m ∧ o = .string O2 ∧ Hid (O2.data.toList = O.data.toList ++ (List.range m).map (q1 P.data.toList (3 * j))) ∧ O2.size ≤ 6 + 4 * j + m) (fun _ q => 4 - (intOf q).toNat)
          case atStart => exact ⟨0, O, by omega, rfl, rfl, by simp [Hid], by omega⟩
          case round =>
            obtain ⟨m, O2, hm, rfl, rfl, hO2, hO2s⟩ := hrel
            by_cases hm4 : m < 4
            · have hO2f : O2.size ≤ 28000100 := by omega
              by_cases hin : P.size < 3 * j + m
              · have hin' : (P.size : Int) < 3 * (j : Int) + (m : Int) := by omega
                have hq1 : Hid (q1 P.data.toList (3 * j) m = 61) := by
                  show q1 _ _ _ = _
                  unfold q1
                  rw [if_pos (by rw [hPlen]; omega)]
                go_wp2
                go_round
                case rel =>
                  refine ⟨m + 1, O2 ++ ⟨#[61]⟩, by omega, by go_num, rfl, ?_, ?_⟩
                  · show (O2 ++ ⟨#[61]⟩).data.toList = _
                    rw [List.range_succ, List.map_append, ← List.append_assoc, ← show O2.data.toList = _ from hO2]
                    simp only [List.map_cons, List.map_nil]
                    rw [show q1 _ _ _ = _ from hq1]
                    simp
                  · rw [ByteArray.size_append]
                    show O2.size + 1 ≤ _
                    omega
                case measure => simp only [intOf]; omega
              · skip
                obtain rfl | rfl | rfl | rfl : m = 0 ∨ m = 1 ∨ m = 2 ∨ m = 3 := by omega
                · have hin0 : ¬ (P.size : Int) < 3 * (j : Int) := by omega
                  obtain ⟨Q, hQe⟩ : ∃ Q, Q = N / 262144 % 64 := ⟨_, rfl⟩
                  have hQ' : Q < 64 := by omega
                  have hQ : (Q : Int) < 64 := by omega
                  have ha : bits BinOp.and IntKind.i64 ((N : Int) / 262144) 63 = (Q : Int) := and_letter N 262144 Q hn hQe
                  have hx := let_const Q hQ'
                  have he := let_enc Q hQ'
                  have hq1 : Hid (q1 P.data.toList (3 * j) 0 = let64 Q) := by
                    show q1 _ _ _ = _
                    unfold q1
                    rw [if_neg (by rw [hPlen]; omega), hQe, show N = _ from hN']
                  clear hQe hin hm hm4
                  have e1 : ((0 : Nat) : Int) = 0 := rfl
                  rw [e1]
                  clear e1
                  go_wp2 
                  go_round
                  case rel =>
                    refine ⟨0 + 1, O2 ++ ⟨#[let64 Q]⟩, by omega, by go_num, rfl, ?_, ?_⟩
                    · show (O2 ++ ⟨#[let64 Q]⟩).data.toList = _
                      rw [List.range_succ, List.map_append, ← List.append_assoc, ← show O2.data.toList = _ from hO2]
                      simp only [List.map_cons, List.map_nil]
                      rw [show q1 _ _ _ = _ from hq1]
                      simp
                    · rw [ByteArray.size_append]
                      show O2.size + 1 ≤ _
                      omega
                  case measure => simp only [intOf]; omega
                · have hin0 : ¬ (P.size : Int) < 3 * (j : Int) + 1 := by omega
                  obtain ⟨Q, hQe⟩ : ∃ Q, Q = N / 4096 % 64 := ⟨_, rfl⟩
                  have hQ' : Q < 64 := by omega
                  have hQ : (Q : Int) < 64 := by omega
                  have ha : bits BinOp.and IntKind.i64 ((N : Int) / 4096) 63 = (Q : Int) := and_letter N 4096 Q hn hQe
                  have hx := let_const Q hQ'
                  have he := let_enc Q hQ'
                  have hq1 : Hid (q1 P.data.toList (3 * j) 1 = let64 Q) := by
                    show q1 _ _ _ = _
                    unfold q1
                    rw [if_neg (by rw [hPlen]; omega), hQe, show N = _ from hN']
                  clear hQe hin hm hm4
                  have e1 : ((1 : Nat) : Int) = 1 := rfl
                  rw [e1]
                  clear e1
                  go_wp2 
                  go_round
                  case rel =>
                    refine ⟨1 + 1, O2 ++ ⟨#[let64 Q]⟩, by omega, by go_num, rfl, ?_, ?_⟩
                    · show (O2 ++ ⟨#[let64 Q]⟩).data.toList = _
                      rw [List.range_succ, List.map_append, ← List.append_assoc, ← show O2.data.toList = _ from hO2]
                      simp only [List.map_cons, List.map_nil]
                      rw [show q1 _ _ _ = _ from hq1]
                      simp
                    · rw [ByteArray.size_append]
                      show O2.size + 1 ≤ _
                      omega
                  case measure => simp only [intOf]; omega
                · have hin0 : ¬ (P.size : Int) < 3 * (j : Int) + 2 := by omega
                  obtain ⟨Q, hQe⟩ : ∃ Q, Q = N / 64 % 64 := ⟨_, rfl⟩
                  have hQ' : Q < 64 := by omega
                  have hQ : (Q : Int) < 64 := by omega
                  have ha : bits BinOp.and IntKind.i64 ((N : Int) / 64) 63 = (Q : Int) := and_letter N 64 Q hn hQe
                  have hx := let_const Q hQ'
                  have he := let_enc Q hQ'
                  have hq1 : Hid (q1 P.data.toList (3 * j) 2 = let64 Q) := by
                    show q1 _ _ _ = _
                    unfold q1
                    rw [if_neg (by rw [hPlen]; omega), hQe, show N = _ from hN']
                  clear hQe hin hm hm4
                  have e1 : ((2 : Nat) : Int) = 2 := rfl
                  rw [e1]
                  clear e1
                  go_wp2 
                  go_round
                  case rel =>
                    refine ⟨2 + 1, O2 ++ ⟨#[let64 Q]⟩, by omega, by go_num, rfl, ?_, ?_⟩
                    · show (O2 ++ ⟨#[let64 Q]⟩).data.toList = _
                      rw [List.range_succ, List.map_append, ← List.append_assoc, ← show O2.data.toList = _ from hO2]
                      simp only [List.map_cons, List.map_nil]
                      rw [show q1 _ _ _ = _ from hq1]
                      simp
                    · rw [ByteArray.size_append]
                      show O2.size + 1 ≤ _
                      omega
                  case measure => simp only [intOf]; omega
                · have hin0 : ¬ (P.size : Int) < 3 * (j : Int) + 3 := by omega
                  obtain ⟨Q, hQe⟩ : ∃ Q, Q = N / 1 % 64 := ⟨_, rfl⟩
                  have hQ' : Q < 64 := by omega
                  have hQ : (Q : Int) < 64 := by omega
                  have ha : bits BinOp.and IntKind.i64 (N : Int) 63 = (Q : Int) := by have := and_letter N 1 Q hn hQe; rw [show ((1 : Nat) : Int) = 1 from rfl, Int.ediv_one] at this; exact this
                  have hx := let_const Q hQ'
                  have he := let_enc Q hQ'
                  have hq1 : Hid (q1 P.data.toList (3 * j) 3 = let64 Q) := by
                    show q1 _ _ _ = _
                    unfold q1
                    rw [if_neg (by rw [hPlen]; omega), hQe, show N = _ from hN']
                  clear hQe hin hm hm4
                  have e1 : ((3 : Nat) : Int) = 3 := rfl
                  rw [e1]
                  clear e1
                  go_wp2 
                  go_round
                  case rel =>
                    refine ⟨3 + 1, O2 ++ ⟨#[let64 Q]⟩, by omega, by go_num, rfl, ?_, ?_⟩
                    · show (O2 ++ ⟨#[let64 Q]⟩).data.toList = _
                      rw [List.range_succ, List.map_append, ← List.append_assoc, ← show O2.data.toList = _ from hO2]
                      simp only [List.map_cons, List.map_nil]
                      rw [show q1 _ _ _ = _ from hq1]
                      simp
                    · rw [ByteArray.size_append]
                      show O2.size + 1 ≤ _
                      omega
                  case measure => simp only [intOf]; omega
            · obtain rfl : m = 4 := by omega
              have hst := b64_step P.data.toList (3 * j) (by rw [hPlen]; exact hlt)
              go_wp2
              go_round
              case rel =>
                refine ⟨j + 1, O2, by omega, by go_num, rfl, ?_, by omega⟩
                show O2.data.toList ++ b64 (P.data.toList.drop (3 * (j + 1))) = _
                rw [← show _ = _ from hO, hst, show O2.data.toList = _ from hO2, show 3 * (j + 1) = 3 * j + 3 from by omega, List.append_assoc]
                rfl
              case measure => simp only [intOf]; omega
    · have hge : ¬ 3 * (j : Int) < (P.size : Int) := by omega
      go_wp2
      go_ret
      have hdr : P.data.toList.drop (3 * j) = [] := List.drop_eq_nil_of_le (by rw [hPlen]; omega)
      have h1 : O.data.toList ++ b64 (P.data.toList.drop (3 * j)) = [66, 97, 115, 105, 99, 32] ++ b64 P.data.toList := hO
      rw [hdr] at h1
      have h2 : O.data.toList = [66, 97, 115, 105, 99, 32] ++ b64 P.data.toList := by rw [← h1]; simp [b64]
      rw [show P.data.toList = _ from hPh] at h2
      have h3 : O = ⟨([66, 97, 115, 105, 99, 32] ++ b64 (esc a.data.toList ++ [58] ++ esc b.data.toList)).toArray⟩ := by rw [← h2]
      refine ⟨congrArg (fun x => Ending.returned (Value.string x)) ?_, hbb⟩
      first | exact h3 | simpa using h3
end Go.Proofs.YtdjaccnocaffjaaGreatDoor
