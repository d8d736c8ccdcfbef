/-
  common: the standard alphabet's base64 read.
-/
import Derived.Test.YtdjaccnocaffjaaGreatDoorWE
import Derived.Test.YtdjaccnocaffjaaGreatDoorSH
import Derived.ChangeAgain
import Derived.Lib.SplitLaws
import Derived.Test.YtdjaccnocaffjaaGreatDoorWF
import Derived.Test.YtdjaccnocaffjaaGreatDoorWC
import Derived.Test.YtdjaccnocaffjaaGreatDoorWD

set_option linter.unusedVariables false
set_option maxRecDepth 100000
set_option maxHeartbeats 1000000
namespace Go.Proofs.YtdjaccnocaffjaaGreatDoor
open Go Go.RowKit Go.Basic

theorem shaped_below {w w' : World} {B : Nat} (h : w.ShapedOpen Tryz.prog) (hb : Below B w w') (hB : w.heap.size ≤ B) : w'.ShapedOpen Tryz.prog :=
  h.keptBut ((hb.mono hB).frame fun _ => False) fun p hp => hp.elim

theorem bytes_eq {a b : ByteArray} (h : a.data.toList = b.data.toList) : a = b := ByteArray.ext (Array.toList_inj.1 h)

theorem trim_calls (s S : ByteArray) (h : Lib.trimSuffix s.data.toList [61] = S.data.toList) (hs : s.size ≤ 1000000) (w : World) :
    Calls Tryz.prog 77 #[.string s, .string ⟨#[61]⟩] w fun e w' => e = .returned (.string S) ∧ w' = w := by
  refine (Tryz.strings_TrimSuffix s ⟨#[61]⟩ w (by omega)).mono ?_
  rintro e w' ⟨rfl, rfl⟩
  refine ⟨congrArg (fun x => Ending.returned (Value.string x)) (bytes_eq ?_), rfl⟩
  rw [← h]

theorem repl_calls (c d : UInt8) (hcd : c ≠ d) (s S : ByteArray) (h : (s.data.toList.map fun x => if x = c then d else x) = S.data.toList) (hs : s.size ≤ 1000000) (w : World) (hw : w.ShapedOpen Tryz.prog) :
    Calls Tryz.prog 78 #[.string s, .string ⟨#[c]⟩, .string ⟨#[d]⟩] w fun e w' => e = .returned (.string S) ∧ Below w.heap.size w w' := by
  have hc := Lib.countB_le ⟨#[c]⟩ (Nat.le_refl 1) s.size s (Nat.le_refl _)
  have h1 : (⟨#[d]⟩ : ByteArray).size = 1 := rfl
  refine (Tryz.strings_ReplaceAll_shaped s ⟨#[c]⟩ ⟨#[d]⟩ w hw (by omega) (Nat.le_refl 1) (by rw [h1]; omega)).mono ?_
  rintro e w' ⟨rfl, hb⟩
  refine ⟨congrArg (fun x => Ending.returned (Value.string x)) (bytes_eq ?_), hb⟩
  rw [← h]
  exact replaceAll_map c d s.data.toList hcd

theorem let_lt : ∀ n, n < 64 → (let64 n).toNat < 128 := by decide

theorem b64_ascii (p : List UInt8) : ∀ x ∈ b64 p, x.toNat < 128 := by
  intro x hx
  rw [b64_six, List.mem_append] at hx
  rcases hx with hx | hx
  · obtain ⟨n, hn, rfl⟩ := List.mem_map.1 hx
    exact let_lt n (six_lt p n hn)
  · unfold fill at hx
    split at hx
    · simp at hx; subst hx; decide
    · split at hx
      · simp at hx; subst hx; decide
      · cases hx

theorem none_calls (s : ByteArray) (p : List UInt8) (hp : s.data.toList = b64 p) (hs : s.size ≤ 1000000) (w : World) :
    Calls Tryz.prog 76 #[.string s, .string ⟨#[45, 95]⟩] w fun e w' => e = .returned (.bool false) ∧ Below w.heap.size w w' := by
  have hac : ∀ (j : Nat) b, (⟨#[45, 95]⟩ : ByteArray).data.toList[j]? = some b → b.toNat < 128 := fun j b h => by
    have hm := List.mem_of_getElem? h
    have : b = 45 ∨ b = 95 := by simpa using hm
    rcases this with rfl | rfl <;> decide
  refine (Tryz.strings_ContainsAny_laid s ⟨#[45, 95]⟩ w (by omega) (by decide) (fun j b h => b64_ascii p b (by rw [← hp]; exact List.mem_of_getElem? h)) hac).mono ?_
  rintro e w' ⟨rfl, hb⟩
  refine ⟨congrArg (fun x => Ending.returned (Value.bool x)) ?_, hb⟩
  rw [hp]
  exact b64_none p

theorem turn_U : ∀ n, n < 64 → (fun x : UInt8 => if x = 47 then 95 else x) ((fun x : UInt8 => if x = 43 then 45 else x) (let64 n)) = letU n := by decide

theorem common_calls (p : List UInt8) (hp : 1 ≤ p.length) (s : ByteArray) (hs : s.data.toList = b64 p) (hl : s.size ≤ 2000) (w : World) (hw : w.ShapedOpen Tryz.prog) :
    Calls Tryz.prog 33 #[.string s] w fun e w' => e = .returned (.tuple #[.string ⟨p.toArray⟩, .bool true]) ∧ Below w.heap.size w w' := by
  have hsl : s.size = (b64 p).length := by
    have : s.data.toList.length = s.size := by simp
    rw [← this, hs]
  have hbl := b64_length p
  have hs6 := six_length p
  rw [List.length_map] at hbl
  have hpl : p.length ≤ 2000 := by omega
  obtain ⟨S1, h1⟩ : ∃ S : ByteArray, Lib.trimSuffix s.data.toList [61] = S.data.toList := ⟨⟨_⟩, rfl⟩
  obtain ⟨S2, h2⟩ : ∃ S : ByteArray, S.data.toList = (six p).map let64 := ⟨⟨((six p).map let64).toArray⟩, rfl⟩
  have h12 : Lib.trimSuffix S1.data.toList [61] = S2.data.toList := by rw [← h1, h2, hs]; exact trim_b64 p
  obtain ⟨S3, h3⟩ : ∃ S : ByteArray, (S2.data.toList.map fun x => if x = 43 then 45 else x) = S.data.toList := ⟨⟨_⟩, rfl⟩
  obtain ⟨S4, h4⟩ : ∃ S : ByteArray, S.data.toList = (six p).map letU := ⟨⟨((six p).map letU).toArray⟩, rfl⟩
  have h34 : (S3.data.toList.map fun x => if x = 47 then 95 else x) = S4.data.toList := by
    rw [← h3, h4, h2, List.map_map, List.map_map]
    exact List.map_congr_left fun x hx => turn_U x (six_lt p x hx)
  have l1 : S1.size ≤ 1000000 := by
    have e : S1.data.toList.length = S1.size := by simp
    have e2 : s.data.toList.length = s.size := by simp
    rw [← e, ← h1]
    unfold Lib.trimSuffix
    split
    · rw [List.length_take]; omega
    · omega
  have l2 : S2.size = (six p).length := by
    have e : S2.data.toList.length = S2.size := by simp
    rw [← e, h2, List.length_map]
  have l3 : S3.size = (six p).length := by
    have e : S3.data.toList.length = S3.size := by simp
    rw [← e, ← h3, List.length_map, h2, List.length_map]
  have l4 : S4.size = (six p).length := by
    have e : S4.data.toList.length = S4.size := by simp
    rw [← e, h4, List.length_map]
  have hq : ((s.size : Int) % 4 == 0) = true := by rw [beq_iff_eq]; omega
  have hq0 : (s.size : Int) % 4 = 0 := by omega
  have hfin : ((S4.size : Int) + 3) / 4 * 4 = (s.size : Int) := by omega
  have l2' : S2.size ≤ 1000000 := by omega
  have l3' : S3.size ≤ 1000000 := by omega
  have l4' : S4.size ≤ 1000000 := by omega
  have sh : Hid (s.data.toList = b64 p ∧ S4.data.toList = (six p).map letU) := ⟨hs, h4⟩
  have t1 : Hid _ := h1
  have t2 : Hid _ := h12
  have t3 : Hid _ := h3
  have t4 : Hid _ := h34
  clear hs h4 h1 h12 h3 h34 h2 hsl hbl hs6 l2 l3 l4
  go_enter Tryz.func33, Tryz.ntmps33
  go_wp2_with (go_at_call 76; refine (none_calls s p (show _ ∧ _ from sh).1 (by omega) _).mono ?_)
  rintro e w1 ⟨rfl, hb1⟩
  go_wp2_with (go_at_call 77; refine (trim_calls s S1 t1 (by omega) _).mono ?_)
  rintro e w2 ⟨rfl, rfl⟩
  go_wp2_with (go_at_call 77; refine (trim_calls S1 S2 t2 l1 _).mono ?_)
  rintro e w2 ⟨rfl, rfl⟩
  go_wp2_with (go_at_call 78; refine (repl_calls 43 45 (by decide) S2 S3 t3 l2' _ (shaped_below hw hb1 (Nat.le_refl _))).mono ?_)
  rintro e w3 ⟨rfl, hb3⟩
  have hb13 := hb1.trans (hb3.mono hb1.size)
  go_wp2_with (go_at_call 78; refine (repl_calls 47 95 (by decide) S3 S4 t4 l3' _ (shaped_below hw hb13 (Nat.le_refl _))).mono ?_)
  rintro e w4 ⟨rfl, hb4⟩
  have hb14 := hb13.trans (hb4.mono hb13.size)
  go_wp2_with (go_at_call 79; refine (fromBase64_calls p S4 (show _ ∧ _ from sh).2 (by omega) hp _).mono ?_)
  rintro e w5 ⟨val, rfl, hown, hb5⟩
  have hb15 := hb14.trans (hb5.mono hb14.size)
  have hst := string_of_own rfl hown
  go_wp2
  go_ret2
  exact ⟨rfl, hb15⟩
end Go.Proofs.YtdjaccnocaffjaaGreatDoor

/-
  The client's Basic: the header read.
-/

set_option linter.unusedVariables false
set_option maxRecDepth 100000
set_option maxHeartbeats 1000000
namespace Go.Proofs.YtdjaccnocaffjaaGreatDoor
open Go Go.RowKit Go.Basic

theorem clientLong_calls (h : ByteArray) (hl : 1024 < h.size) (hs : h.size ≤ 100000000) (w : World) : Calls Tryz.prog 8 #[.string h] w fun e w' => e = .returned (.tuple #[.string ⟨#[]⟩, .string ⟨#[]⟩, .int .i64 113]) ∧ w' = w := by
  have hl' : (1024 : Int) < (h.size : Int) := by omega
  go_enter Tryz.func8, Tryz.ntmps8
  go_wp2
  go_ret3
  exact ⟨rfl, rfl⟩

theorem trimB_cons (l : List UInt8) (h : ∀ x, l[0]? = some x → x ≠ 32) : Lib.trimLeftB (32 :: l) 32 = l := by
  show (32 :: l).dropWhile (· == 32) = l
  rw [List.dropWhile_cons_of_pos (by decide)]
  cases l with
  | nil => rfl
  | cons x l => exact List.dropWhile_cons_of_neg (by simpa using h x rfl)

theorem fold_calls (w : World) : Calls Tryz.prog 32 #[.string ⟨#[66, 97, 115, 105, 99]⟩, .string ⟨#[98, 97, 115, 105, 99]⟩] w fun e w' => e = .returned (.bool true) ∧ w' = w := by
  have ha : ∀ (l : List UInt8), (l.all fun x => decide (x.toNat < 128)) = true → ∀ (j : Nat) b, l[j]? = some b → b.toNat < 128 := fun l h j b hj => by
    have := List.all_eq_true.1 h b (List.mem_of_getElem? hj)
    simpa using this
  refine (Tryz.strings_EqualFold ⟨#[66, 97, 115, 105, 99]⟩ ⟨#[98, 97, 115, 105, 99]⟩ w (by decide) (ha [66, 97, 115, 105, 99] (by decide)) (ha [98, 97, 115, 105, 99] (by decide))).mono ?_
  rintro e w' ⟨rfl, rfl⟩
  exact ⟨congrArg (fun x => Ending.returned (Value.bool x)) (by decide), rfl⟩

theorem extract_list (h : ByteArray) (i j : Nat) : (h.extract i j).data.toList = (h.data.toList.drop i).take (j - i) := by
  rw [ByteArray.data_extract, Array.toList_extract, List.extract_eq_take_drop]

theorem left_calls (s S : ByteArray) (h : s.data.toList = 32 :: S.data.toList) (hS : ∀ x, S.data.toList[0]? = some x → x ≠ 32) (w : World) :
    Calls Tryz.prog 34 #[.string s, .string ⟨#[32]⟩] w fun e w' => e = .returned (.string S) ∧ w' = w := by
  refine (Tryz.strings_TrimLeft_one s 32 (by decide) w).mono ?_
  rintro e w' ⟨rfl, rfl⟩
  refine ⟨congrArg (fun x => Ending.returned (Value.string x)) (bytes_eq ?_), rfl⟩
  rw [h, trimB_cons _ hS]

theorem cut_calls (s A B : ByteArray) (h : s.data.toList = A.data.toList ++ 58 :: B.data.toList) (hA : ∀ x ∈ A.data.toList, x ≠ 58) (hs : s.size ≤ 1000000) (w : World) (hw : w.ShapedOpen Tryz.prog) :
    Calls Tryz.prog 35 #[.string s, .string ⟨#[58]⟩] w fun e w' => e = .returned (.tuple #[.string A, .string B, .bool true]) ∧ Below w.heap.size w w' := by
  refine (Tryz.strings_Cut_shaped s ⟨#[58]⟩ w hw (by omega)).mono ?_
  rintro e w' ⟨rfl, n, rfl⟩
  refine ⟨?_, (Below.refl _ _).trans ⟨rfl, rfl, rfl, Nat.le_refl _, fun _ _ => rfl⟩⟩
  have hc : Lib.cut s.data.toList (⟨#[58]⟩ : ByteArray).data.toList = (A.data.toList, B.data.toList, true) := by
    rw [h]
    exact cut_mid _ _ 58 hA
  rw [hc]

theorem let_ne32 : ∀ n, n < 64 → let64 n ≠ 32 := by decide

theorem clientBasic_calls (a b h : ByteArray) (hh : h.data.toList = [66, 97, 115, 105, 99, 32] ++ b64 (esc a.data.toList ++ [58] ++ esc b.data.toList)) (hl : h.size ≤ 1024) (w : World) (hw : w.ShapedOpen Tryz.prog) :
    Calls Tryz.prog 8 #[.string h] w fun e w' => e = .returned (.tuple #[.string a, .string b, .int .i64 0]) ∧ Below w.heap.size w w' := by
  obtain ⟨p, hp⟩ : ∃ p, p = esc a.data.toList ++ [58] ++ esc b.data.toList := ⟨_, rfl⟩
  rw [← hp] at hh
  have hpl : 1 ≤ p.length := by rw [hp]; simp; omega
  obtain ⟨S, hS⟩ : ∃ S : ByteArray, S.data.toList = b64 p := ⟨⟨(b64 p).toArray⟩, rfl⟩
  obtain ⟨T, hT⟩ : ∃ T : ByteArray, T.data.toList = 32 :: S.data.toList := ⟨⟨(32 :: S.data.toList).toArray⟩, rfl⟩
  obtain ⟨A, hA⟩ : ∃ A : ByteArray, A.data.toList = esc a.data.toList := ⟨⟨(esc a.data.toList).toArray⟩, rfl⟩
  obtain ⟨B, hB⟩ : ∃ A : ByteArray, A.data.toList = esc b.data.toList := ⟨⟨(esc b.data.toList).toArray⟩, rfl⟩
  have hhl : h.size = 6 + S.size := by
    have e1 : h.data.toList.length = h.size := by simp
    have e2 : S.data.toList.length = S.size := by simp
    rw [← e1, ← e2, hh, hS, List.length_append]
    rfl
  have hS2 : S.size ≤ 2000 := by omega
  have hl' : ¬ (1024 : Int) < (h.size : Int) := by omega
  have hl6 : ¬ (h.size : Int) < 6 := by omega
  have hl5 : (5 : Int) < (h.size : Int) := by omega
  have hl5' : (5 : Int) ≤ (h.size : Int) := by omega
  have hx1 : h.extract 0 5 = ⟨#[66, 97, 115, 105, 99]⟩ := bytes_eq (by rw [extract_list, hh]; rfl)
  have hx2 : h.extract 5 h.size = T := bytes_eq (by
    rw [extract_list, hT, hS, hh, List.take_of_length_le]
    · rfl
    · have e1 : h.data.toList.length = h.size := by simp
      rw [← e1, hh, List.length_drop]
      exact Nat.le_refl _)
  obtain ⟨hk5, hx3⟩ := byte_of h 5 32 (by rw [hh]; rfl)
  have hx3' : h[5].toNat = 32 := hx3
  clear hx3
  have hSn : ∀ x, S.data.toList[0]? = some x → x ≠ 32 := fun x hx => by
    rw [hS] at hx
    have hm := List.mem_of_getElem? hx
    rw [b64_six, List.mem_append] at hm
    rcases hm with hm | hm
    · obtain ⟨n, hn, rfl⟩ := List.mem_map.1 hm
      exact let_ne32 n (six_lt p n hn)
    · unfold fill at hm
      split at hm
      · simp at hm; subst hm; decide
      · split at hm
        · simp at hm; subst hm; decide
        · cases hm
  obtain ⟨P, hP⟩ : ∃ P : ByteArray, P = ⟨p.toArray⟩ := ⟨_, rfl⟩
  have hPl : P.data.toList = A.data.toList ++ 58 :: B.data.toList := by
    rw [hP, hA, hB]
    show p = _
    rw [hp, List.append_assoc]
    rfl
  have hPs : P.size ≤ 1000000 ∧ A.size ≤ 1000000 ∧ B.size ≤ 1000000 := by
    have e1 : P.data.toList.length = P.size := by simp
    have e2 : A.data.toList.length = A.size := by simp
    have e3 : B.data.toList.length = B.size := by simp
    have e4 : P.data.toList.length = p.length := by rw [hP]
    have e5 : S.data.toList.length = S.size := by simp
    have h5 := b64_length p
    have h6 := six_length p
    have h7 := congrArg List.length hPl
    rw [hS] at e5
    rw [List.length_map] at h5
    rw [List.length_append, List.length_cons] at h7
    omega
  obtain ⟨hPs, hAs, hBs⟩ := hPs
  have hAn : ∀ x ∈ A.data.toList, x ≠ 58 := by rw [hA]; exact esc_colon _
  have hea : Hid ((⟨(a.data.toList).toArray⟩ : ByteArray) = a) := bytes_eq rfl
  have heb : Hid ((⟨(b.data.toList).toArray⟩ : ByteArray) = b) := bytes_eq rfl
  have g1 : Hid _ := hS
  have g2 : Hid _ := hT
  have g3 : Hid _ := hA
  have g4 : Hid _ := hB
  have g5 : Hid _ := hPl
  have g6 : Hid _ := hP
  clear hS hT hA hB hPl hP hh hhl hl hp
  go_enter Tryz.func8, Tryz.ntmps8
  go_wp2_with (first | (go_at_call 32; refine (fold_calls _).mono ?_) | (go_at_call 34; refine (left_calls T S g2 hSn _).mono ?_))
  rintro e w1 ⟨rfl, rfl⟩
  go_wp2_with (go_at_call 33; refine (common_calls p hpl S g1 hS2 _ hw).mono ?_)
  rintro e w2 ⟨rfl, hb2⟩
  rw [← show P = _ from g6]
  go_wp2_with (go_at_call 35; refine (cut_calls P A B g5 hAn hPs _ (shaped_below hw hb2 (Nat.le_refl _))).mono ?_)
  rintro e w3 ⟨rfl, hb3⟩
  have hb13 := hb2.trans (hb3.mono hb2.size)
  go_wp2_with (go_at_call 36; refine (unescape_calls a.data.toList A g3 hAs _).mono ?_)
  rintro e w4 ⟨rfl, hb4⟩
  have hb14 := hb13.trans (hb4.mono hb13.size)
  go_wp2_with (go_at_call 36; refine (unescape_calls b.data.toList B g4 hBs _).mono ?_)
  rintro e w5 ⟨rfl, hb5⟩
  have hb15 := hb14.trans (hb5.mono hb14.size)
  go_wp2
  go_ret3
  exact ⟨rfl, hb15⟩
end Go.Proofs.YtdjaccnocaffjaaGreatDoor

/-
  The law: what is shown is read again.
-/

set_option linter.unusedVariables false
set_option maxRecDepth 100000
set_option maxHeartbeats 1000000
namespace Go.Proofs.YtdjaccnocaffjaaGreatDoor
open Go Go.RowKit Go.Basic

theorem basic_calls' (a b S : ByteArray) (ha : a.size ≤ 1100000) (hb : b.size ≤ 1100000) (hS : S.data.toList = [66, 97, 115, 105, 99, 32] ++ b64 (esc a.data.toList ++ [58] ++ esc b.data.toList)) (w : World) :
    Calls Tryz.prog 5 #[.string a, .string b] w fun e w' => e = .returned (.string S) ∧ Below w.heap.size w w' := by
  refine (basic_calls a b ha hb w).mono ?_
  rintro e w' ⟨rfl, h⟩
  exact ⟨congrArg (fun x => Ending.returned (Value.string x)) (bytes_eq hS.symm), h⟩

theorem refBasic_calls' (a b S : ByteArray) (ha : a.size ≤ 1100000) (hb : b.size ≤ 1100000) (hS : S.data.toList = [66, 97, 115, 105, 99, 32] ++ b64 (esc a.data.toList ++ [58] ++ esc b.data.toList)) (w : World) :
    Calls Tryz.prog 6 #[.string a, .string b] w fun e w' => e = .returned (.string S) ∧ Below w.heap.size w w' := by
  refine (refBasic_calls a b ha hb w).mono ?_
  rintro e w' ⟨rfl, h⟩
  exact ⟨congrArg (fun x => Ending.returned (Value.string x)) (bytes_eq hS.symm), h⟩

theorem num_calls (n : Int) (w : World) : Calls Tryz.prog 9 #[.int .i64 n] w fun e w' => e = .returned (.int .i64 n) ∧ w' = w := by
  go_enter Tryz.func9, Tryz.ntmps9
  go_wp2
  go_ret
  exact ⟨rfl, rfl⟩

theorem law_calls (a b : ByteArray) (ha : a.size ≤ 1100000) (hb : b.size ≤ 1100000) (w : World) (hw : w.ShapedOpen Tryz.prog)
    (hlive : ∀ w', Below w.heap.size w w' → Calls Tryz.prog 7 #[] w' fun e w'' => e = .returned (.bool true) ∧ Below w'.heap.size w' w'') :
    Calls Tryz.prog 3 #[.string a, .string b] w fun e w' => e = .returned (.bool true) ∧ Below w.heap.size w w' := by
  obtain ⟨S, hS⟩ : ∃ S : ByteArray, S = ⟨([66, 97, 115, 105, 99, 32] ++ b64 (esc a.data.toList ++ [58] ++ esc b.data.toList)).toArray⟩ := ⟨_, rfl⟩
  have hSl : S.data.toList = [66, 97, 115, 105, 99, 32] ++ b64 (esc a.data.toList ++ [58] ++ esc b.data.toList) := by rw [hS]
  have hSs : S.size ≤ 100000000 := by
    have e1 : S.data.toList.length = S.size := by simp
    have h1 := esc_len a.data.toList
    have h2 := esc_len b.data.toList
    have h3 := b64_length (esc a.data.toList ++ [58] ++ esc b.data.toList)
    have h4 := six_length (esc a.data.toList ++ [58] ++ esc b.data.toList)
    have e2 : a.data.toList.length = a.size := by simp
    have e3 : b.data.toList.length = b.size := by simp
    rw [← e1, hSl]
    rw [List.length_map] at h3
    simp only [List.length_append, List.length_cons, List.length_nil] at h3 h4 ⊢
    omega
  have hSh : Hid _ := hSl
  have hlv : Hid _ := hlive
  clear hS hSl hlive
  by_cases hl : S.size ≤ 1024
  · have hl' : ¬ (1024 : Int) < (S.size : Int) := by omega
    go_enter Tryz.func3, Tryz.ntmps3
    go_wp2_with (first | (go_at_call 5; refine (basic_calls' a b S ha hb hSh _).mono ?_; rintro e w1 ⟨rfl, hb1⟩) | (go_at_call 6; refine (refBasic_calls' a b S ha hb hSh _).mono ?_; rintro e w2 ⟨rfl, hb2⟩; have hb12 := hb1.trans (hb2.mono hb1.size)) | (go_at_call 7; refine ((show ∀ _, _ from hlv) _ hb12).mono ?_; rintro e w3 ⟨rfl, hb3⟩; have hb13 := hb12.trans (hb3.mono hb12.size)) | (go_at_call 8; refine (clientBasic_calls a b S hSh hl _ (shaped_below hw hb13 (Nat.le_refl _))).mono ?_; rintro e w4 ⟨rfl, hb4⟩; have hb14 := hb13.trans (hb4.mono hb13.size)) | (go_at_call 9; refine (num_calls _ _).mono ?_; rintro e w5 ⟨rfl, rfl⟩))
    go_ret
    exact ⟨rfl, hb14⟩
  · have hl' : (1024 : Int) < (S.size : Int) := by omega
    go_enter Tryz.func3, Tryz.ntmps3
    go_wp2_with (first | (go_at_call 5; refine (basic_calls' a b S ha hb hSh _).mono ?_; rintro e w1 ⟨rfl, hb1⟩) | (go_at_call 6; refine (refBasic_calls' a b S ha hb hSh _).mono ?_; rintro e w2 ⟨rfl, hb2⟩; have hb12 := hb1.trans (hb2.mono hb1.size)) | (go_at_call 7; refine ((show ∀ _, _ from hlv) _ hb12).mono ?_; rintro e w3 ⟨rfl, hb3⟩; have hb13 := hb12.trans (hb3.mono hb12.size)) | (go_at_call 8; refine (clientLong_calls S (by omega) hSs _).mono ?_; rintro e w4 ⟨rfl, rfl⟩) | (go_at_call 9; refine (num_calls _ _).mono ?_; rintro e w5 ⟨rfl, rfl⟩))
    go_ret
    exact ⟨rfl, hb13⟩
end Go.Proofs.YtdjaccnocaffjaaGreatDoor
