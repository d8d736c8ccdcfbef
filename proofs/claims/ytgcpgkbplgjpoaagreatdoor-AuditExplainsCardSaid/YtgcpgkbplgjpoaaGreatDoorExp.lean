/-
  The program's Explain, and the reference's: each answers 'turn', the turn's numeral, and a rule's words; neither writes anything that was there.
-/
import Derived.Test.YtgcpgkbplgjpoaaGreatDoorDig
import Derived.Test.YtgcpgkbplgjpoaaGreatDoorShelf
import Derived.Lib.QuietBelow
import Derived.WalkSmall
namespace Go.Proofs.YtgcpgkbplgjpoaaGreatDoor
open Go Go.RowKit Go.Sort

def wordsL : List (List UInt8) := [
  [110, 111, 32, 115, 117, 99, 104, 32, 114, 117, 108, 101],
  [116, 104, 101, 32, 99, 108, 111, 99, 107, 32, 119, 101, 110, 116, 32, 98, 97, 99, 107],
  [97, 32, 115, 101, 114, 118, 101, 114, 32, 116, 104, 97, 116, 32, 119, 97, 115, 32, 100, 111, 119, 110, 32, 97, 110, 115, 119, 101, 114, 101, 100],
  [116, 104, 105, 115, 32, 114, 101, 113, 117, 101, 115, 116, 32, 119, 97, 115, 32, 110, 101, 118, 101, 114, 32, 109, 97, 100, 101],
  [97, 32, 115, 101, 99, 111, 110, 100, 32, 116, 111, 107, 101, 110],
  [110, 111, 98, 111, 100, 121, 32, 97, 112, 112, 114, 111, 118, 101, 100, 32, 116, 104, 105, 115],
  [116, 104, 101, 32, 116, 111, 107, 101, 110, 32, 115, 97, 121, 115, 32, 115, 111, 109, 101, 116, 104, 105, 110, 103, 32, 101, 108, 115, 101],
  [116, 104, 101, 32, 112, 97, 99, 101, 32, 119, 97, 115, 32, 110, 111, 116, 32, 107, 101, 112, 116],
  [103, 117, 101, 115, 115, 101, 115, 32, 119, 101, 114, 101, 32, 99, 111, 117, 110, 116, 101, 100, 32, 119, 114, 111, 110, 103, 108, 121]]

/-- The words of a rule: those of number 0 where there is no such rule. -/
def ruleOf (r : Int) : Nat := if r < 1 ∨ 9 ≤ r then 0 else r.toNat
def wordOf (r : Int) : ByteArray := ⟨(wordsL.getD (ruleOf r) []).toArray⟩
/-- What both say. -/
def said (t r : Int) : ByteArray := (⟨#[116, 117, 114, 110, 32]⟩ : ByteArray) ++ ⟨(Lib.itoa t).toArray⟩ ++ ⟨#[58, 32]⟩ ++ wordOf r

/-- What is known of the world: the words, the table of strconv. -/
structure Known (w : World) : Prop where
  words : ∀ i, i < 9 → w.cell? ⟨0, i, none⟩ = some (.string ⟨(wordsL.getD i []).toArray⟩)
  table : Lib.TabIs Tryz.prog w "internal/strconv.uint64pow10" .u64 Lib.pow10Tab

theorem Known.below {w w' : World} (K : Known w) (h : Below w.heap.size w w') : Known w' where
  words i hi := by
    have := K.words i hi
    rw [h.cell (block_lt_of_cell this)]; exact this
  table := by
    have := K.table
    unfold Lib.TabIs at this ⊢
    have hg : Tryz.prog.globalNamed "internal/strconv.uint64pow10" = some 1 := by kernel_rfl
    have hc := Lib.TabIs.cell K.table hg 0 (by decide)
    exact var?_below h hg (block_lt_of_cell hc) this

theorem itoa_in (t : Int) (h0 : -9223372036854775808 ≤ t) (h1 : t ≤ 9223372036854775807) {W : World} (K : Known W) (d : Nat) (os : Array Obj) :
    Calls Tryz.prog 11 #[.int .i64 t] (grow (redrawn W d) os) fun e w'' => e = .returned (.string ⟨(Lib.itoa t).toArray⟩) ∧ ∃ p : Regrown, w'' = grow (redrawn W p.d) p.os := by
  refine Calls.regrown_of ((Tryz.strconv_Itoa t h0 h1 _ (K.below (below_regrown W d os)).table).mono fun e w' ⟨he, k, os', hw⟩ => ⟨he, ?_⟩)
  subst hw
  have := below_regrown (grow (redrawn W d) os) ((grow (redrawn W d) os).drawn + k) os'
  exact this

theorem itoa_short (t : Int) (h0 : -9223372036854775808 ≤ t) (h1 : t ≤ 9223372036854775807) : (Lib.itoa t).length ≤ 21 := by
  unfold Lib.itoa
  split
  · have := digits_short t.natAbs (by omega)
    simp only [List.length_cons]
    omega
  · have := digits_short t.toNat (by omega)
    omega

theorem word_short (k : Nat) : (wordsL.getD k []).length ≤ 100 := by
  match k with
  | 0 | 1 | 2 | 3 | 4 | 5 | 6 | 7 | 8 => decide
  | k + 9 => simp [wordsL]

set_option maxHeartbeats 1000000 in
theorem explain_any (t r : Int) (h0 : -9223372036854775808 ≤ t) (h1 : t ≤ 9223372036854775807) (w : World) (K : Known w) :
    Calls Tryz.prog 5 #[.agg #[.int .i64 t, .int .i64 r]] w fun e w' => e = .returned (.string (said t r)) ∧ Below w.heap.size w w' := by
  have K1 : Known (w.alloc (.cells #[.int .i64 t, .int .i64 r] 23)) := K.below ((Below.refl _ _).alloc (Nat.le_refl _) _)
  have cI := itoa_in t h0 h1 K1
  have cT : ∀ d os, (grow (redrawn (w.alloc (.cells #[.int .i64 t, .int .i64 r] 23)) d) os).cell? ⟨w.heap.size, 0, none⟩ = some (.int .i64 t) := cell_regrown ((World.cell?_alloc_new w _ _ 0).trans rfl)
  have hk : ruleOf r < 9 := by unfold ruleOf; split <;> omega
  have cW0 : ∀ d os, (grow (redrawn (w.alloc (.cells #[.int .i64 t, .int .i64 r] 23)) d) os).cell? ⟨0, ruleOf r, none⟩ = some (.string (wordOf r)) := cell_regrown (K1.words _ hk)
  have hws : (wordOf r).size ≤ 100 := by
    have := word_short (ruleOf r)
    simpa [wordOf, ByteArray.size] using this
  have hsh := itoa_short t h0 h1
  have hfin : ∀ d os, Below w.heap.size w (grow (redrawn (w.alloc (.cells #[.int .i64 t, .int .i64 r] 23)) d) os) := fun d os =>
    have hb : Below w.heap.size w (w.alloc (.cells #[.int .i64 t, .int .i64 r] 23)) := (Below.refl _ _).alloc (Nat.le_refl _) _
    hb.trans ((below_regrown _ d os).mono hb.size)
  have hsaid : said t r = (⟨#[116, 117, 114, 110, 32]⟩ : ByteArray) ++ ⟨(Lib.itoa t).toArray⟩ ++ ⟨#[58, 32]⟩ ++ wordOf r := rfl
  rw [hsaid]
  generalize wordOf r = wd at cW0 hws
  have n1 : ¬ 9223372036854775807 < 5 + (Lib.itoa t).length := by omega
  have n2 : ¬ 9223372036854775807 < 5 + (Lib.itoa t).length + 2 := by omega
  have n3 : ¬ 9223372036854775807 < 5 + (Lib.itoa t).length + 2 + wd.size := by omega
  clear hsh hsaid hws
  by_cases hr : r < 1
  · have cW : ∀ d os, (grow (redrawn (w.alloc (.cells #[.int .i64 t, .int .i64 r] 23)) d) os).cell? ⟨0, 0, none⟩ = some (.string wd) := by
      rw [show ruleOf r = 0 from if_pos (.inl hr)] at cW0; exact cW0
    clear cW0 hk
    go_enter Tryz.func5, Tryz.ntmps5
    go_wp2_with fail
    refine wp_region_quiet_below (by kernel_rfl) (by kernel_rfl) ?_
    repeat (quiet_step (exact cI _ _))
    refine wpQuiet_nil ?_
    intro _ hw'
    obtain ⟨⟨dq, osq⟩, hw''⟩ := hw'
    subst hw''
    go_wp2
    go_ret
    exact ⟨rfl, hfin dq osq⟩
  · by_cases hr9 : 9 ≤ r
    · have cW : ∀ d os, (grow (redrawn (w.alloc (.cells #[.int .i64 t, .int .i64 r] 23)) d) os).cell? ⟨0, 0, none⟩ = some (.string wd) := by
        rw [show ruleOf r = 0 from if_pos (.inr hr9)] at cW0; exact cW0
      clear cW0 hk
      go_enter Tryz.func5, Tryz.ntmps5
      go_wp2_with fail
      refine wp_region_quiet_below (by kernel_rfl) (by kernel_rfl) ?_
      repeat (quiet_step (exact cI _ _))
      refine wpQuiet_nil ?_
      intro _ hw'
      obtain ⟨⟨dq, osq⟩, hw''⟩ := hw'
      subst hw''
      go_wp2
      go_ret
      exact ⟨rfl, hfin dq osq⟩
    · obtain ⟨n, rfl⟩ : ∃ n : Nat, r = n := ⟨r.toNat, by omega⟩
      have hn1 : 1 ≤ n := by omega
      have hn9 : n < 9 := by omega
      have cW : ∀ d os, (grow (redrawn (w.alloc (.cells #[.int .i64 t, .int .i64 n] 23)) d) os).cell? ⟨0, n, none⟩ = some (.string wd) := by
        rw [show ruleOf (n : Int) = n from by simp only [ruleOf]; rw [if_neg (by omega)]; simp] at cW0; exact cW0
      clear cW0 hk
      go_enter Tryz.func5, Tryz.ntmps5
      go_wp2_with fail
      refine wp_region_quiet_below (by kernel_rfl) (by kernel_rfl) ?_
      repeat (quiet_step (exact cI _ _))
      refine wpQuiet_nil ?_
      intro _ hw'
      obtain ⟨⟨dq, osq⟩, hw''⟩ := hw'
      subst hw''
      go_wp2
      go_ret
      exact ⟨rfl, hfin dq osq⟩
#print axioms explain_any

end Go.Proofs.YtgcpgkbplgjpoaaGreatDoor
