/-
  RegisterNil: for every act the law answers true and the act reads behind the call as it did, with the listed package-level variables tied to the program's text. Conditions: those of the given card alone.
-/
import Derived.Test.YtjhaaapgkaknoaaGreatDoorKX1
import Derived.Test.YtjhaaapgkaknoaaGreatDoorLU
import Derived.Test.YtjhaaapgkaknoaaGreatDoorN3
import Derived.Test.YtjhaaapgkaknoaaGreatDoorN4
import Derived.Test.YtjhaaapgkaknoaaGreatDoorN5
import Derived.Test.YtjhaaapgkaknoaaGreatDoorKZ

set_option linter.unusedVariables false
set_option maxRecDepth 100000
namespace Go.Proofs.YtjhaaapgkaknoaaGreatDoor
open Go Go.Ev Go.ChangeShapes Go.WideShapes Go.ChangeAt Go.RowKit Go.Joins

theorem nil_true {W : World} (K : Known W) (k t : Int) (s1 s2 s3 : ByteArray) (d : Value) :
    Calls Tryz.prog 4 #[.agg #[.int .i64 k, .string s1, .string s2, .string s3, d, .int .u64 t]] W fun e w' => e = .returned (.bool true) ∧ Below W.heap.size W w' := by
  obtain ⟨G, hf⟩ := cx_fine K
  exact nil_walk k t s1 s2 s3 d W fun W' hb => L.holds6 (fine_below hf hb) (kn_ok (fine_below hf hb))

theorem laidOut : laidOutB Tryz.prog = true := by kernel_rfl

theorem nil_lifted (os : Os) (started : os.Started) (H : Type) (enc : TypeId × Value → H) :
    ReturnsInHanded {} Tryz.checked os 4 .any (fun w args => (Rows.registerNilSpec.pre enc Tryz.prog Tryz.f4 [] false w args ∧ laidMetH Tryz.prog Rows.registerNilRow.laid w) ∧ sizedMet enc Tryz.prog Tryz.f4 (OpenSpec.ofChange Rows.registerNilSpec) false w args)
      (Rows.registerNilSpec.post enc Tryz.prog Tryz.f4 false true false false) := by
  refine returnsInHanded_of_change_and (C := Tryz.checked) (X := fun w _ => laidMetH Tryz.prog Rows.registerNilRow.laid w) (fun _ _ _ hh h => h.of_heap hh) own started (by kernel_rfl) Tryz.func4
    (ChangeSpec.witness_shaped (enc := enc) (C := Tryz.checked) (os := os) (X := fun w _ => laidMetH Tryz.prog Rows.registerNilRow.laid w) false (World.laidAll Tryz.prog os Rows.registerNilRow.laid) #[.agg #[.int .i64 0, .string ByteArray.empty, .string ByteArray.empty, .string ByteArray.empty, .slice none 0 0, .int .u64 0]] 8 (World.laidAll_os _ _ _)
      (World.shaped_of_ZipB (by kernel_rfl) (by kernel_rfl)) (by kernel_rfl) (by kernel_rfl) (by kernel_rfl) (laid_witness os _)) ?_
  intro W base args ds gs before hval0 hW _ _ hL _
  have hval : ∀ (j : Nat) t v, Tryz.f4.params[j]? = some t → args[j]? = some v → Value.okWide Tryz.prog W .any base t v := hval0
  have hW' := hW
  obtain ⟨p, q, hA0, hV, rfl, hfz, hnd⟩ := hW
  have hA : DataW.TrodAll enc Tryz.prog W 0 (fun _ => true) true Tryz.f4.params.toList args.toList ds p := hA0
  rw [Tryz.params4] at hA hval
  obtain ⟨v0, d0, rfl, rfl, h0⟩ := trodAll_one hA
  obtain ⟨rfl, rfl⟩ := trodVars_none hV
  have k0 := h0
  have lt0 : ∀ x ∈ p, x.block < W.heap.size := by obtain ⟨m, hm⟩ := k0; exact DataW.trod_lt m _ _ _ hm
  obtain ⟨k, t, s1, s2, s3, x, rfl⟩ := open_act (hval 0 28 v0 rfl rfl) h0
  clear hA0 hval0
  refine (nil_true (known_of_laid hL) k t s1 s2 s3 x).mono fun e W' ⟨he, bel⟩ => ?_
  subst he
  exact ⟨_, rfl, _, _, _, [], p, [], hW', trodAll_mk1 (shut_bool Tryz.underlying4 _), trodAll_mk1 (Below.trod laidOut (by kernel_rfl) (of_decide_eq_true (by kernel_rfl)) k0 bel lt0), rfl, bel.frame _, fun h => by cases h⟩
end Go.Proofs.YtjhaaapgkaknoaaGreatDoor
