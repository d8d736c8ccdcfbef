/-
  RegisterNil's function answers true for every act, and writes nothing that was there, wherever the law's live() does so.
-/
import Derived.Test.YtjhaaapgkaknoaaGreatDoorN1
import Derived.Deep.RegionWith

set_option linter.unusedVariables false
set_option maxRecDepth 100000
namespace Go.Proofs.YtjhaaapgkaknoaaGreatDoor
open Go Go.RowKit

/-- A world on the way: the act's cells as they were laid. -/
def St (w : World) (b : Nat) (s1 s2 s3 : ByteArray) (t : Int) (w' : World) : Prop :=
  Below w.heap.size w w' ∧ w'.cell? ⟨b, 1, none⟩ = some (.string s1) ∧ w'.cell? ⟨b, 2, none⟩ = some (.string s2) ∧ w'.cell? ⟨b, 3, none⟩ = some (.string s3) ∧ w'.cell? ⟨b, 5, none⟩ = some (.int .u64 t)

theorem below_cell {w w' : World} (hb : Below w.heap.size w w') {b o : Nat} {x : Value} (h : w.cell? ⟨b, o, none⟩ = some x) : w'.cell? ⟨b, o, none⟩ = some x := by
  have hlt := Go.Ev.lt_of_cell h
  rw [← h]
  unfold World.cell?
  rw [hb.block _ hlt]

theorem St.step {w w' w'' : World} {b : Nat} {s1 s2 s3 : ByteArray} {t : Int} (hb : Below w'.heap.size w' w'') (h : St w b s1 s2 s3 t w') : St w b s1 s2 s3 t w'' :=
  ⟨h.1.trans (hb.mono h.1.size), below_cell hb h.2.1, below_cell hb h.2.2.1, below_cell hb h.2.2.2.1, below_cell hb h.2.2.2.2⟩

theorem below_drew {B : Nat} {w W : World} (h : Below B w W) : Below B w W.drew := ⟨h.os, h.tape, h.output, h.size, h.block⟩

theorem St.start (w : World) (k t : Int) (s1 s2 s3 : ByteArray) (d : Value) : St w w.heap.size s1 s2 s3 t (w.alloc (.cells #[.int .i64 k, .string s1, .string s2, .string s3, d, .int .u64 t] 28)) :=
  ⟨(Below.refl _ _).alloc (Nat.le_refl _) _, (World.cell?_alloc_new w _ _ 1).trans rfl, (World.cell?_alloc_new w _ _ 2).trans rfl, (World.cell?_alloc_new w _ _ 3).trans rfl, (World.cell?_alloc_new w _ _ 5).trans rfl⟩

theorem St.b {w w' : World} {b : Nat} {s1 s2 s3 : ByteArray} {t : Int} (h : St w b s1 s2 s3 t w') : Below w.heap.size w w' := h.1

theorem St.drew {w w' : World} {b : Nat} {s1 s2 s3 : ByteArray} {t : Int} (h : St w b s1 s2 s3 t w') : St w b s1 s2 s3 t w'.drew := ⟨below_drew h.1, h.2⟩

set_option maxHeartbeats 40000000 in
theorem nil_walk (k t : Int) (s1 s2 s3 : ByteArray) (d : Value) (w : World)
    (c6 : ∀ W', Below w.heap.size w W' → Calls Tryz.prog 6 #[] W' fun e w'' => e = .returned (.bool true) ∧ Below W'.heap.size W' w'') :
    Calls Tryz.prog 4 #[.agg #[.int .i64 k, .string s1, .string s2, .string s3, d, .int .u64 t]] w fun e w' => e = .returned (.bool true) ∧ Below w.heap.size w w' := by
  have st0 := St.start w k t s1 s2 s3 d
  go_enter Tryz.func4, Tryz.ntmps4
  go_wp2_with fail
  go_region_with (first
    | (go_at_call 8; refine (c8 _).mono ?_; rintro e w8 ⟨⟨p, rfl⟩, hb8⟩; have st8 : St w w.heap.size s1 s2 s3 t w8 := St.step hb8 (by first | exact st0 | exact st0.drew); obtain ⟨_, q1, q2, q3, q5⟩ := id st8)
    | (go_at_call 7; refine (c7 _ _ _ _).mono ?_; rintro e w7 ⟨rfl, hb7⟩; have st7 := St.step hb7 st8; obtain ⟨_, r1, r2, r3, r5⟩ := id st7))
  clear st0
  go_wp2_with (first
    | (go_at_call 9; refine (c9 _ _ _).mono ?_; rintro e w9 ⟨rfl, hb9⟩; have st9 := St.step hb9 st7; obtain ⟨_, u1, u2, u3, u5⟩ := id st9)
    | (go_at_call 10; refine (c10 _ _ _ _).mono ?_; rintro e w10 ⟨rfl, hb10⟩; have st10 := St.step hb10 st9; obtain ⟨_, v1, v2, v3, v5⟩ := id st10)
    | (go_at_call 11; refine (c11 _ _ _).mono ?_; rintro e w11 ⟨rfl, hb11⟩; have st11 : St w w.heap.size s1 s2 s3 t w11 := St.step hb11 (by assumption))
    | (go_at_call 12; refine (c12 _).mono ?_; rintro e w12 ⟨rfl, hb12⟩; have st12 : St w w.heap.size s1 s2 s3 t w12 := St.step hb12 (by assumption))
    | (go_at_call 5; refine (c5 _ _).mono ?_; rintro e w5 ⟨rfl, hb5⟩; have st5 : St w w.heap.size s1 s2 s3 t w5 := St.step hb5 (by assumption); obtain ⟨_, x1, x2, x3, x5⟩ := id st5)
    | (go_at_call 6; refine (c6 _ (St.b (w := w) (by assumption))).mono ?_; rintro e w6 ⟨rfl, hb6⟩))
  all_goals (go_ret; exact ⟨rfl, (St.step hb6 st12).1⟩)
end Go.Proofs.YtjhaaapgkaknoaaGreatDoor
