/-
  The reference's Explain says what the program's says, for every finding, and writes nothing that was there.
-/
import Derived.Test.YtgcpgkbplgjpoaaGreatDoorExp
namespace Go.Proofs.YtgcpgkbplgjpoaaGreatDoor
open Go Go.RowKit Go.Sort

/-- The numeral of a number, taken as a uint64. -/
@[irreducible] def digs (z : Int) : List UInt8 := Lib.decDigits (IntKind.u64.wrap z).toNat

theorem wrap_u64 (z : Int) : 0 ≤ IntKind.u64.wrap z ∧ IntKind.u64.wrap z < 18446744073709551616 := by
  rw [IntKind.wrap_u64]; omega

theorem digs_short (z : Int) : (digs z).length ≤ 20 := by
  have h := wrap_u64 z
  unfold digs
  exact digits_short _ (by omega)

theorem digits_wrap (z : Int) (w : World) : Calls Tryz.prog 12 #[.int .u64 (IntKind.u64.wrap z)] w fun e w' => e = .returned (.string ⟨(digs z).toArray⟩) ∧ w' = w := by
  have h := wrap_u64 z
  have := digits_any (IntKind.u64.wrap z).toNat (by omega) w
  unfold digs
  rwa [Int.toNat_of_nonneg h.1] at this

theorem itoa_pos {t : Int} (h : ¬ t < 0) (h1 : t ≤ 9223372036854775807) : Lib.itoa t = digs t := by
  unfold digs Lib.itoa
  rw [if_neg h, IntKind.wrap_u64, Int.emod_eq_of_lt (by omega) (by omega)]

theorem itoa_neg {t : Int} (h : t < 0) (h0 : -9223372036854775808 ≤ t) : Lib.itoa t = 45 :: digs (-IntKind.u64.wrap t) := by
  unfold digs Lib.itoa
  rw [if_pos h, IntKind.wrap_u64, IntKind.wrap_u64]
  congr 2
  omega

theorem digits_pos {t : Int} (h : ¬ t < 0) (h1 : t ≤ 9223372036854775807) (w : World) : Calls Tryz.prog 12 #[.int .u64 t] w fun e w' => e = .returned (.string ⟨(digs t).toArray⟩) ∧ w' = w := by
  have := digits_wrap t w
  rwa [show IntKind.u64.wrap t = t from by rw [IntKind.wrap_u64, Int.emod_eq_of_lt (by omega) (by omega)]] at this

theorem said_pos {t r : Int} {k : Nat} (h : ¬ t < 0) (h1 : t ≤ 9223372036854775807) (hk : ruleOf r = k) :
    said t r = (⟨#[116, 117, 114, 110, 32]⟩ : ByteArray) ++ ⟨(digs t).toArray⟩ ++ ⟨#[58, 32]⟩ ++ ⟨(wordsL.getD k []).toArray⟩ := by
  subst hk
  unfold said wordOf
  rw [itoa_pos h h1]

theorem said_neg {t r : Int} {k : Nat} (h : t < 0) (h0 : -9223372036854775808 ≤ t) (hk : ruleOf r = k) :
    said t r = (⟨#[116, 117, 114, 110, 32]⟩ : ByteArray) ++ ((⟨#[45]⟩ : ByteArray) ++ ⟨(digs (-IntKind.u64.wrap t)).toArray⟩) ++ ⟨#[58, 32]⟩ ++ ⟨(wordsL.getD k []).toArray⟩ := by
  subst hk
  unfold said wordOf
  rw [itoa_neg h h0, bytes_cons]

theorem two_below (w : World) (o1 o2 : Obj) : Below w.heap.size w ((w.alloc o1).alloc o2) := by
  have h := (Below.refl w.heap.size w).alloc (Nat.le_refl _) o1
  exact h.alloc h.size o2

theorem ref_neg_low {t r : Int} (ht : t < 0) (hb : -9223372036854775808 ≤ t) (hr : r < 1) (w : World) :
    Calls Tryz.prog 6 #[.agg #[.int .i64 t, .int .i64 r]] w fun e w' => e = .returned (.string (said t r)) ∧ Below w.heap.size w w' := by
  have hL := digs_short (-IntKind.u64.wrap t)
  have a1 : ¬ 9223372036854775807 < 1 + (digs (-IntKind.u64.wrap t)).length := by omega
  have a2 : ¬ 9223372036854775807 < 5 + (1 + (digs (-IntKind.u64.wrap t)).length) := by omega
  have a3 : ¬ 9223372036854775807 < 5 + (1 + (digs (-IntKind.u64.wrap t)).length) + 2 := by omega
  have a4 : ¬ 9223372036854775807 < 5 + (1 + (digs (-IntKind.u64.wrap t)).length) + 2 + 12 := by omega
  rw [said_neg ht hb (if_pos (.inl hr))]
  clear hL
  go_enter Tryz.func6, Tryz.ntmps6
  go_wp2_with (go_at_call 12; refine (digits_wrap _ _).mono ?_; rintro e w' ⟨rfl, rfl⟩)
  go_ret
  exact ⟨rfl, two_below _ _ _⟩

theorem ref_neg_high {t r : Int} (ht : t < 0) (hb : -9223372036854775808 ≤ t) (hr : 9 ≤ r) (w : World) :
    Calls Tryz.prog 6 #[.agg #[.int .i64 t, .int .i64 r]] w fun e w' => e = .returned (.string (said t r)) ∧ Below w.heap.size w w' := by
  have hL := digs_short (-IntKind.u64.wrap t)
  have a1 : ¬ 9223372036854775807 < 1 + (digs (-IntKind.u64.wrap t)).length := by omega
  have a2 : ¬ 9223372036854775807 < 5 + (1 + (digs (-IntKind.u64.wrap t)).length) := by omega
  have a3 : ¬ 9223372036854775807 < 5 + (1 + (digs (-IntKind.u64.wrap t)).length) + 2 := by omega
  have a4 : ¬ 9223372036854775807 < 5 + (1 + (digs (-IntKind.u64.wrap t)).length) + 2 + 12 := by omega
  rw [said_neg ht hb (if_pos (.inr hr))]
  clear hL
  go_enter Tryz.func6, Tryz.ntmps6
  go_wp2_with (go_at_call 12; refine (digits_wrap _ _).mono ?_; rintro e w' ⟨rfl, rfl⟩)
  go_ret
  exact ⟨rfl, two_below _ _ _⟩

theorem ref_neg_1 {t : Int} (ht : t < 0) (hb : -9223372036854775808 ≤ t) (w : World) :
    Calls Tryz.prog 6 #[.agg #[.int .i64 t, .int .i64 1]] w fun e w' => e = .returned (.string (said t 1)) ∧ Below w.heap.size w w' := by
  have hL := digs_short (-IntKind.u64.wrap t)
  have a1 : ¬ 9223372036854775807 < 1 + (digs (-IntKind.u64.wrap t)).length := by omega
  have a2 : ¬ 9223372036854775807 < 5 + (1 + (digs (-IntKind.u64.wrap t)).length) := by omega
  have a3 : ¬ 9223372036854775807 < 5 + (1 + (digs (-IntKind.u64.wrap t)).length) + 2 := by omega
  have a4 : ¬ 9223372036854775807 < 5 + (1 + (digs (-IntKind.u64.wrap t)).length) + 2 + 19 := by omega
  rw [said_neg ht hb rfl]
  clear hL
  go_enter Tryz.func6, Tryz.ntmps6
  go_wp2_with (go_at_call 12; refine (digits_wrap _ _).mono ?_; rintro e w' ⟨rfl, rfl⟩)
  go_ret
  exact ⟨rfl, two_below _ _ _⟩

theorem ref_neg_2 {t : Int} (ht : t < 0) (hb : -9223372036854775808 ≤ t) (w : World) :
    Calls Tryz.prog 6 #[.agg #[.int .i64 t, .int .i64 2]] w fun e w' => e = .returned (.string (said t 2)) ∧ Below w.heap.size w w' := by
  have hL := digs_short (-IntKind.u64.wrap t)
  have a1 : ¬ 9223372036854775807 < 1 + (digs (-IntKind.u64.wrap t)).length := by omega
  have a2 : ¬ 9223372036854775807 < 5 + (1 + (digs (-IntKind.u64.wrap t)).length) := by omega
  have a3 : ¬ 9223372036854775807 < 5 + (1 + (digs (-IntKind.u64.wrap t)).length) + 2 := by omega
  have a4 : ¬ 9223372036854775807 < 5 + (1 + (digs (-IntKind.u64.wrap t)).length) + 2 + 31 := by omega
  rw [said_neg ht hb rfl]
  clear hL
  go_enter Tryz.func6, Tryz.ntmps6
  go_wp2_with (go_at_call 12; refine (digits_wrap _ _).mono ?_; rintro e w' ⟨rfl, rfl⟩)
  go_ret
  exact ⟨rfl, two_below _ _ _⟩

theorem ref_neg_3 {t : Int} (ht : t < 0) (hb : -9223372036854775808 ≤ t) (w : World) :
    Calls Tryz.prog 6 #[.agg #[.int .i64 t, .int .i64 3]] w fun e w' => e = .returned (.string (said t 3)) ∧ Below w.heap.size w w' := by
  have hL := digs_short (-IntKind.u64.wrap t)
  have a1 : ¬ 9223372036854775807 < 1 + (digs (-IntKind.u64.wrap t)).length := by omega
  have a2 : ¬ 9223372036854775807 < 5 + (1 + (digs (-IntKind.u64.wrap t)).length) := by omega
  have a3 : ¬ 9223372036854775807 < 5 + (1 + (digs (-IntKind.u64.wrap t)).length) + 2 := by omega
  have a4 : ¬ 9223372036854775807 < 5 + (1 + (digs (-IntKind.u64.wrap t)).length) + 2 + 27 := by omega
  rw [said_neg ht hb rfl]
  clear hL
  go_enter Tryz.func6, Tryz.ntmps6
  go_wp2_with (go_at_call 12; refine (digits_wrap _ _).mono ?_; rintro e w' ⟨rfl, rfl⟩)
  go_ret
  exact ⟨rfl, two_below _ _ _⟩

theorem ref_neg_4 {t : Int} (ht : t < 0) (hb : -9223372036854775808 ≤ t) (w : World) :
    Calls Tryz.prog 6 #[.agg #[.int .i64 t, .int .i64 4]] w fun e w' => e = .returned (.string (said t 4)) ∧ Below w.heap.size w w' := by
  have hL := digs_short (-IntKind.u64.wrap t)
  have a1 : ¬ 9223372036854775807 < 1 + (digs (-IntKind.u64.wrap t)).length := by omega
  have a2 : ¬ 9223372036854775807 < 5 + (1 + (digs (-IntKind.u64.wrap t)).length) := by omega
  have a3 : ¬ 9223372036854775807 < 5 + (1 + (digs (-IntKind.u64.wrap t)).length) + 2 := by omega
  have a4 : ¬ 9223372036854775807 < 5 + (1 + (digs (-IntKind.u64.wrap t)).length) + 2 + 14 := by omega
  rw [said_neg ht hb rfl]
  clear hL
  go_enter Tryz.func6, Tryz.ntmps6
  go_wp2_with (go_at_call 12; refine (digits_wrap _ _).mono ?_; rintro e w' ⟨rfl, rfl⟩)
  go_ret
  exact ⟨rfl, two_below _ _ _⟩

theorem ref_neg_5 {t : Int} (ht : t < 0) (hb : -9223372036854775808 ≤ t) (w : World) :
    Calls Tryz.prog 6 #[.agg #[.int .i64 t, .int .i64 5]] w fun e w' => e = .returned (.string (said t 5)) ∧ Below w.heap.size w w' := by
  have hL := digs_short (-IntKind.u64.wrap t)
  have a1 : ¬ 9223372036854775807 < 1 + (digs (-IntKind.u64.wrap t)).length := by omega
  have a2 : ¬ 9223372036854775807 < 5 + (1 + (digs (-IntKind.u64.wrap t)).length) := by omega
  have a3 : ¬ 9223372036854775807 < 5 + (1 + (digs (-IntKind.u64.wrap t)).length) + 2 := by omega
  have a4 : ¬ 9223372036854775807 < 5 + (1 + (digs (-IntKind.u64.wrap t)).length) + 2 + 20 := by omega
  rw [said_neg ht hb rfl]
  clear hL
  go_enter Tryz.func6, Tryz.ntmps6
  go_wp2_with (go_at_call 12; refine (digits_wrap _ _).mono ?_; rintro e w' ⟨rfl, rfl⟩)
  go_ret
  exact ⟨rfl, two_below _ _ _⟩

theorem ref_neg_6 {t : Int} (ht : t < 0) (hb : -9223372036854775808 ≤ t) (w : World) :
    Calls Tryz.prog 6 #[.agg #[.int .i64 t, .int .i64 6]] w fun e w' => e = .returned (.string (said t 6)) ∧ Below w.heap.size w w' := by
  have hL := digs_short (-IntKind.u64.wrap t)
  have a1 : ¬ 9223372036854775807 < 1 + (digs (-IntKind.u64.wrap t)).length := by omega
  have a2 : ¬ 9223372036854775807 < 5 + (1 + (digs (-IntKind.u64.wrap t)).length) := by omega
  have a3 : ¬ 9223372036854775807 < 5 + (1 + (digs (-IntKind.u64.wrap t)).length) + 2 := by omega
  have a4 : ¬ 9223372036854775807 < 5 + (1 + (digs (-IntKind.u64.wrap t)).length) + 2 + 29 := by omega
  rw [said_neg ht hb rfl]
  clear hL
  go_enter Tryz.func6, Tryz.ntmps6
  go_wp2_with (go_at_call 12; refine (digits_wrap _ _).mono ?_; rintro e w' ⟨rfl, rfl⟩)
  go_ret
  exact ⟨rfl, two_below _ _ _⟩

theorem ref_neg_7 {t : Int} (ht : t < 0) (hb : -9223372036854775808 ≤ t) (w : World) :
    Calls Tryz.prog 6 #[.agg #[.int .i64 t, .int .i64 7]] w fun e w' => e = .returned (.string (said t 7)) ∧ Below w.heap.size w w' := by
  have hL := digs_short (-IntKind.u64.wrap t)
  have a1 : ¬ 9223372036854775807 < 1 + (digs (-IntKind.u64.wrap t)).length := by omega
  have a2 : ¬ 9223372036854775807 < 5 + (1 + (digs (-IntKind.u64.wrap t)).length) := by omega
  have a3 : ¬ 9223372036854775807 < 5 + (1 + (digs (-IntKind.u64.wrap t)).length) + 2 := by omega
  have a4 : ¬ 9223372036854775807 < 5 + (1 + (digs (-IntKind.u64.wrap t)).length) + 2 + 21 := by omega
  rw [said_neg ht hb rfl]
  clear hL
  go_enter Tryz.func6, Tryz.ntmps6
  go_wp2_with (go_at_call 12; refine (digits_wrap _ _).mono ?_; rintro e w' ⟨rfl, rfl⟩)
  go_ret
  exact ⟨rfl, two_below _ _ _⟩

theorem ref_neg_8 {t : Int} (ht : t < 0) (hb : -9223372036854775808 ≤ t) (w : World) :
    Calls Tryz.prog 6 #[.agg #[.int .i64 t, .int .i64 8]] w fun e w' => e = .returned (.string (said t 8)) ∧ Below w.heap.size w w' := by
  have hL := digs_short (-IntKind.u64.wrap t)
  have a1 : ¬ 9223372036854775807 < 1 + (digs (-IntKind.u64.wrap t)).length := by omega
  have a2 : ¬ 9223372036854775807 < 5 + (1 + (digs (-IntKind.u64.wrap t)).length) := by omega
  have a3 : ¬ 9223372036854775807 < 5 + (1 + (digs (-IntKind.u64.wrap t)).length) + 2 := by omega
  have a4 : ¬ 9223372036854775807 < 5 + (1 + (digs (-IntKind.u64.wrap t)).length) + 2 + 28 := by omega
  rw [said_neg ht hb rfl]
  clear hL
  go_enter Tryz.func6, Tryz.ntmps6
  go_wp2_with (go_at_call 12; refine (digits_wrap _ _).mono ?_; rintro e w' ⟨rfl, rfl⟩)
  go_ret
  exact ⟨rfl, two_below _ _ _⟩

theorem ref_pos_low {t r : Int} (ht : ¬ t < 0) (hb : t ≤ 9223372036854775807) (hr : r < 1) (w : World) :
    Calls Tryz.prog 6 #[.agg #[.int .i64 t, .int .i64 r]] w fun e w' => e = .returned (.string (said t r)) ∧ Below w.heap.size w w' := by
  have hL := digs_short t
  have a2 : ¬ 9223372036854775807 < 5 + (digs t).length := by omega
  have a3 : ¬ 9223372036854775807 < 5 + (digs t).length + 2 := by omega
  have a4 : ¬ 9223372036854775807 < 5 + (digs t).length + 2 + 12 := by omega
  rw [said_pos ht hb (if_pos (.inl hr))]
  clear hL
  go_enter Tryz.func6, Tryz.ntmps6
  go_wp2_with (go_at_call 12; refine (digits_pos ht hb _).mono ?_; rintro e w' ⟨rfl, rfl⟩)
  go_ret
  exact ⟨rfl, two_below _ _ _⟩

theorem ref_pos_high {t r : Int} (ht : ¬ t < 0) (hb : t ≤ 9223372036854775807) (hr : 9 ≤ r) (w : World) :
    Calls Tryz.prog 6 #[.agg #[.int .i64 t, .int .i64 r]] w fun e w' => e = .returned (.string (said t r)) ∧ Below w.heap.size w w' := by
  have hL := digs_short t
  have a2 : ¬ 9223372036854775807 < 5 + (digs t).length := by omega
  have a3 : ¬ 9223372036854775807 < 5 + (digs t).length + 2 := by omega
  have a4 : ¬ 9223372036854775807 < 5 + (digs t).length + 2 + 12 := by omega
  rw [said_pos ht hb (if_pos (.inr hr))]
  clear hL
  go_enter Tryz.func6, Tryz.ntmps6
  go_wp2_with (go_at_call 12; refine (digits_pos ht hb _).mono ?_; rintro e w' ⟨rfl, rfl⟩)
  go_ret
  exact ⟨rfl, two_below _ _ _⟩

theorem ref_pos_1 {t : Int} (ht : ¬ t < 0) (hb : t ≤ 9223372036854775807) (w : World) :
    Calls Tryz.prog 6 #[.agg #[.int .i64 t, .int .i64 1]] w fun e w' => e = .returned (.string (said t 1)) ∧ Below w.heap.size w w' := by
  have hL := digs_short t
  have a2 : ¬ 9223372036854775807 < 5 + (digs t).length := by omega
  have a3 : ¬ 9223372036854775807 < 5 + (digs t).length + 2 := by omega
  have a4 : ¬ 9223372036854775807 < 5 + (digs t).length + 2 + 19 := by omega
  rw [said_pos ht hb rfl]
  clear hL
  go_enter Tryz.func6, Tryz.ntmps6
  go_wp2_with (go_at_call 12; refine (digits_pos ht hb _).mono ?_; rintro e w' ⟨rfl, rfl⟩)
  go_ret
  exact ⟨rfl, two_below _ _ _⟩

theorem ref_pos_2 {t : Int} (ht : ¬ t < 0) (hb : t ≤ 9223372036854775807) (w : World) :
    Calls Tryz.prog 6 #[.agg #[.int .i64 t, .int .i64 2]] w fun e w' => e = .returned (.string (said t 2)) ∧ Below w.heap.size w w' := by
  have hL := digs_short t
  have a2 : ¬ 9223372036854775807 < 5 + (digs t).length := by omega
  have a3 : ¬ 9223372036854775807 < 5 + (digs t).length + 2 := by omega
  have a4 : ¬ 9223372036854775807 < 5 + (digs t).length + 2 + 31 := by omega
  rw [said_pos ht hb rfl]
  clear hL
  go_enter Tryz.func6, Tryz.ntmps6
  go_wp2_with (go_at_call 12; refine (digits_pos ht hb _).mono ?_; rintro e w' ⟨rfl, rfl⟩)
  go_ret
  exact ⟨rfl, two_below _ _ _⟩

theorem ref_pos_3 {t : Int} (ht : ¬ t < 0) (hb : t ≤ 9223372036854775807) (w : World) :
    Calls Tryz.prog 6 #[.agg #[.int .i64 t, .int .i64 3]] w fun e w' => e = .returned (.string (said t 3)) ∧ Below w.heap.size w w' := by
  have hL := digs_short t
  have a2 : ¬ 9223372036854775807 < 5 + (digs t).length := by omega
  have a3 : ¬ 9223372036854775807 < 5 + (digs t).length + 2 := by omega
  have a4 : ¬ 9223372036854775807 < 5 + (digs t).length + 2 + 27 := by omega
  rw [said_pos ht hb rfl]
  clear hL
  go_enter Tryz.func6, Tryz.ntmps6
  go_wp2_with (go_at_call 12; refine (digits_pos ht hb _).mono ?_; rintro e w' ⟨rfl, rfl⟩)
  go_ret
  exact ⟨rfl, two_below _ _ _⟩

theorem ref_pos_4 {t : Int} (ht : ¬ t < 0) (hb : t ≤ 9223372036854775807) (w : World) :
    Calls Tryz.prog 6 #[.agg #[.int .i64 t, .int .i64 4]] w fun e w' => e = .returned (.string (said t 4)) ∧ Below w.heap.size w w' := by
  have hL := digs_short t
  have a2 : ¬ 9223372036854775807 < 5 + (digs t).length := by omega
  have a3 : ¬ 9223372036854775807 < 5 + (digs t).length + 2 := by omega
  have a4 : ¬ 9223372036854775807 < 5 + (digs t).length + 2 + 14 := by omega
  rw [said_pos ht hb rfl]
  clear hL
  go_enter Tryz.func6, Tryz.ntmps6
  go_wp2_with (go_at_call 12; refine (digits_pos ht hb _).mono ?_; rintro e w' ⟨rfl, rfl⟩)
  go_ret
  exact ⟨rfl, two_below _ _ _⟩

theorem ref_pos_5 {t : Int} (ht : ¬ t < 0) (hb : t ≤ 9223372036854775807) (w : World) :
    Calls Tryz.prog 6 #[.agg #[.int .i64 t, .int .i64 5]] w fun e w' => e = .returned (.string (said t 5)) ∧ Below w.heap.size w w' := by
  have hL := digs_short t
  have a2 : ¬ 9223372036854775807 < 5 + (digs t).length := by omega
  have a3 : ¬ 9223372036854775807 < 5 + (digs t).length + 2 := by omega
  have a4 : ¬ 9223372036854775807 < 5 + (digs t).length + 2 + 20 := by omega
  rw [said_pos ht hb rfl]
  clear hL
  go_enter Tryz.func6, Tryz.ntmps6
  go_wp2_with (go_at_call 12; refine (digits_pos ht hb _).mono ?_; rintro e w' ⟨rfl, rfl⟩)
  go_ret
  exact ⟨rfl, two_below _ _ _⟩

theorem ref_pos_6 {t : Int} (ht : ¬ t < 0) (hb : t ≤ 9223372036854775807) (w : World) :
    Calls Tryz.prog 6 #[.agg #[.int .i64 t, .int .i64 6]] w fun e w' => e = .returned (.string (said t 6)) ∧ Below w.heap.size w w' := by
  have hL := digs_short t
  have a2 : ¬ 9223372036854775807 < 5 + (digs t).length := by omega
  have a3 : ¬ 9223372036854775807 < 5 + (digs t).length + 2 := by omega
  have a4 : ¬ 9223372036854775807 < 5 + (digs t).length + 2 + 29 := by omega
  rw [said_pos ht hb rfl]
  clear hL
  go_enter Tryz.func6, Tryz.ntmps6
  go_wp2_with (go_at_call 12; refine (digits_pos ht hb _).mono ?_; rintro e w' ⟨rfl, rfl⟩)
  go_ret
  exact ⟨rfl, two_below _ _ _⟩

theorem ref_pos_7 {t : Int} (ht : ¬ t < 0) (hb : t ≤ 9223372036854775807) (w : World) :
    Calls Tryz.prog 6 #[.agg #[.int .i64 t, .int .i64 7]] w fun e w' => e = .returned (.string (said t 7)) ∧ Below w.heap.size w w' := by
  have hL := digs_short t
  have a2 : ¬ 9223372036854775807 < 5 + (digs t).length := by omega
  have a3 : ¬ 9223372036854775807 < 5 + (digs t).length + 2 := by omega
  have a4 : ¬ 9223372036854775807 < 5 + (digs t).length + 2 + 21 := by omega
  rw [said_pos ht hb rfl]
  clear hL
  go_enter Tryz.func6, Tryz.ntmps6
  go_wp2_with (go_at_call 12; refine (digits_pos ht hb _).mono ?_; rintro e w' ⟨rfl, rfl⟩)
  go_ret
  exact ⟨rfl, two_below _ _ _⟩

theorem ref_pos_8 {t : Int} (ht : ¬ t < 0) (hb : t ≤ 9223372036854775807) (w : World) :
    Calls Tryz.prog 6 #[.agg #[.int .i64 t, .int .i64 8]] w fun e w' => e = .returned (.string (said t 8)) ∧ Below w.heap.size w w' := by
  have hL := digs_short t
  have a2 : ¬ 9223372036854775807 < 5 + (digs t).length := by omega
  have a3 : ¬ 9223372036854775807 < 5 + (digs t).length + 2 := by omega
  have a4 : ¬ 9223372036854775807 < 5 + (digs t).length + 2 + 28 := by omega
  rw [said_pos ht hb rfl]
  clear hL
  go_enter Tryz.func6, Tryz.ntmps6
  go_wp2_with (go_at_call 12; refine (digits_pos ht hb _).mono ?_; rintro e w' ⟨rfl, rfl⟩)
  go_ret
  exact ⟨rfl, two_below _ _ _⟩

theorem ref_any (t r : Int) (h0 : -9223372036854775808 ≤ t) (h1 : t ≤ 9223372036854775807) (w : World) :
    Calls Tryz.prog 6 #[.agg #[.int .i64 t, .int .i64 r]] w fun e w' => e = .returned (.string (said t r)) ∧ Below w.heap.size w w' := by
  have hr : r < 1 ∨ 9 ≤ r ∨ r = 1 ∨ r = 2 ∨ r = 3 ∨ r = 4 ∨ r = 5 ∨ r = 6 ∨ r = 7 ∨ r = 8 := by omega
  by_cases ht : t < 0
  · rcases hr with hr | hr | rfl | rfl | rfl | rfl | rfl | rfl | rfl | rfl
    · exact ref_neg_low ht h0 hr w
    · exact ref_neg_high ht h0 hr w
    · exact ref_neg_1 ht h0 w
    · exact ref_neg_2 ht h0 w
    · exact ref_neg_3 ht h0 w
    · exact ref_neg_4 ht h0 w
    · exact ref_neg_5 ht h0 w
    · exact ref_neg_6 ht h0 w
    · exact ref_neg_7 ht h0 w
    · exact ref_neg_8 ht h0 w
  · rcases hr with hr | hr | rfl | rfl | rfl | rfl | rfl | rfl | rfl | rfl
    · exact ref_pos_low ht h1 hr w
    · exact ref_pos_high ht h1 hr w
    · exact ref_pos_1 ht h1 w
    · exact ref_pos_2 ht h1 w
    · exact ref_pos_3 ht h1 w
    · exact ref_pos_4 ht h1 w
    · exact ref_pos_5 ht h1 w
    · exact ref_pos_6 ht h1 w
    · exact ref_pos_7 ht h1 w
    · exact ref_pos_8 ht h1 w
#print axioms ref_any
end Go.Proofs.YtgcpgkbplgjpoaaGreatDoor
