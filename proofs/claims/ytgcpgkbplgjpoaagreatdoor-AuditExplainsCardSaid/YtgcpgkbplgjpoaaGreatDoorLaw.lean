/-
  The law's function answers true for every finding, and writes nothing that was there.
-/
import Derived.Test.YtgcpgkbplgjpoaaGreatDoorRef
import Derived.Test.YtgcpgkbplgjpoaaGreatDoorLive
namespace Go.Proofs.YtgcpgkbplgjpoaaGreatDoor
open Go Go.RowKit Go.Sort

theorem law_any (t r : Int) (h0 : -9223372036854775808 ≤ t) (h1 : t ≤ 9223372036854775807) (w : World) (K : Known w) :
    Calls Tryz.prog 3 #[.agg #[.int .i64 t, .int .i64 r]] w fun e w' => e = .returned (.bool true) ∧ Below w.heap.size w w' := by
  have hb : Below w.heap.size w (w.alloc (.cells #[.int .i64 t, .int .i64 r] 23)) := (Below.refl _ _).alloc (Nat.le_refl _) _
  have K1 : Known (w.alloc (.cells #[.int .i64 t, .int .i64 r] 23)) := K.below hb
  have cL : ∀ d os, Calls Tryz.prog 4 #[] (grow (redrawn (w.alloc (.cells #[.int .i64 t, .int .i64 r] 23)) d) os) fun e w'' => e = .returned (.bool true) ∧ ∃ p : Regrown, w'' = grow (redrawn (w.alloc (.cells #[.int .i64 t, .int .i64 r] 23)) p.d) p.os :=
    fun d os => Calls.regrown_of (live_true _)
  have cE : ∀ d os, Calls Tryz.prog 5 #[.agg #[.int .i64 t, .int .i64 r]] (grow (redrawn (w.alloc (.cells #[.int .i64 t, .int .i64 r] 23)) d) os) fun e w'' => e = .returned (.string (said t r)) ∧ ∃ p : Regrown, w'' = grow (redrawn (w.alloc (.cells #[.int .i64 t, .int .i64 r] 23)) p.d) p.os :=
    fun d os => Calls.regrown_of (explain_any t r h0 h1 _ (K1.below (below_regrown _ d os)))
  have cR : ∀ d os, Calls Tryz.prog 6 #[.agg #[.int .i64 t, .int .i64 r]] (grow (redrawn (w.alloc (.cells #[.int .i64 t, .int .i64 r] 23)) d) os) fun e w'' => e = .returned (.string (said t r)) ∧ ∃ p : Regrown, w'' = grow (redrawn (w.alloc (.cells #[.int .i64 t, .int .i64 r] 23)) p.d) p.os :=
    fun d os => Calls.regrown_of (ref_any t r h0 h1 _)
  have c0 : ∀ d os, (grow (redrawn (w.alloc (.cells #[.int .i64 t, .int .i64 r] 23)) d) os).cell? ⟨w.heap.size, 0, none⟩ = some (.int .i64 t) := cell_regrown ((World.cell?_alloc_new w _ _ 0).trans rfl)
  have c1 : ∀ d os, (grow (redrawn (w.alloc (.cells #[.int .i64 t, .int .i64 r] 23)) d) os).cell? ⟨w.heap.size, 1, none⟩ = some (.int .i64 r) := cell_regrown ((World.cell?_alloc_new w _ _ 1).trans rfl)
  have hfin : ∀ d os, Below w.heap.size w (grow (redrawn (w.alloc (.cells #[.int .i64 t, .int .i64 r] 23)) d) os) := fun d os => hb.trans ((below_regrown _ d os).mono hb.size)
  clear K K1 h0 h1 hb
  generalize said t r = sd at cE cR
  go_enter Tryz.func3, Tryz.ntmps3
  go_wp2_with fail
  refine wp_region_quiet_below (by kernel_rfl) (by kernel_rfl) ?_
  repeat (quiet_step (first | exact cL _ _ | exact cE _ _ | exact cR _ _))
  refine wpQuiet_nil ?_
  intro _ hw'
  obtain ⟨⟨dq, osq⟩, hw''⟩ := hw'
  subst hw''
  go_wp2
  go_ret
  exact ⟨rfl, hfin dq osq⟩
#print axioms law_any
end Go.Proofs.YtgcpgkbplgjpoaaGreatDoor
