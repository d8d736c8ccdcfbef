/-
  ServerNil: for every act the law answers true and the act reads behind the call as it did, with the listed package-level variables tied to the program's text. Conditions: those of the given card alone.
-/
import Derived.Test.YtbfoocginkdmcaaGreatDoorChecked
import Derived.Test.YtbfoocginkdmcaaGreatDoorKW
import Derived.Test.YtbfoocginkdmcaaGreatDoorWB
import Derived.ChangeMaps5
import Derived.Carry
import Derived.Test.YtbfoocginkdmcaaGreatDoorKX0
import Derived.Test.YtbfoocginkdmcaaGreatDoorKXf
import Derived.Test.YtbfoocginkdmcaaGreatDoorKXg
import Derived.Test.YtbfoocginkdmcaaGreatDoorKXh
import Derived.Test.YtbfoocginkdmcaaGreatDoorKXi
import Derived.Test.YtbfoocginkdmcaaGreatDoorKYh
import Derived.Test.YtbfoocginkdmcaaGreatDoorRows
import Derived.Test.YtbfoocginkdmcaaGreatDoorCards
import Derived.ProofKit
import Derived.LaidMore
import Derived.OpenShut
import Derived.ChangeOld
import Derived.Stop.LaidErr
import Derived.Lib.SmallJoins
import Derived.Lib.LaidTab
import Derived.SevenTiedAt
import Derived.Lay

namespace Go.Proofs.YtbfoocginkdmcaaGreatDoor
open Go Go.ChangeShapes Go.WideShapes Go.ChangeAt Go.RowKit Go.Joins
set_option linter.unusedVariables false

theorem laid_shaped' (os : Os) (args : Array Value) : ((laidW os).forCall (fun _ _ => 0) ⟨#[], args, []⟩).Shaped Tryz.prog := laid_shaped os

set_option maxRecDepth 100000 in
theorem nil_lifted (os : Os) (started : os.Started) (H : Type) (enc : TypeId × Value → H) :
    ReturnsInHanded {} Tryz.checked os 4 .any (fun w args => (Rows.serverNilSpec.pre enc Tryz.prog Tryz.f4 [] false w args ∧ laidMetH Tryz.prog Rows.serverNilRow.laid w) ∧ sizedMet enc Tryz.prog Tryz.f4 (OpenSpec.ofChange Rows.serverNilSpec) false w args)
      (Rows.serverNilSpec.post enc Tryz.prog Tryz.f4 false true false false) := by
  refine Ev.handed_and_shaped (C := Tryz.checked) (X := fun w _ => laidMetH Tryz.prog Rows.serverNilRow.laid w) (fun _ _ _ hh h => h.of_heap hh) own started no_init Tryz.func4
    (ChangeSpec.witness_shaped (enc := enc) (C := Tryz.checked) (os := os) (X := fun w _ => laidMetH Tryz.prog Rows.serverNilRow.laid w) false (laidW os) argsW 8 (laidW_os os)
      (laid_shaped' os _) (w_ok os) (w_pre enc os) (w_sz enc os) (laid_witness os _)) ?_
  intro W base args ds gs before hval0 hW _ hsz0 hL hsh _
  have hval : ∀ (j : Nat) t v, Tryz.f4.params[j]? = some t → args[j]? = some v → Value.okWide Tryz.prog W .any base t v := hval0
  have hW' := hW
  obtain ⟨p, q, hA0, hV, rfl, hfz, hnd⟩ := hW
  have hA : DataW.TrodAll enc Tryz.prog W 0 (fun _ => true) true Tryz.f4.params.toList args.toList ds p := hA0
  have hsz : (DataW.weightsEach Tryz.prog (Tryz.f4.params.toList ++ Rows.serverNilSpec.plain.varTypes Tryz.prog) (ds ++ gs)).all (· ≤ reachBytes) = true := hsz0
  rw [Tryz.params4] at hA hval hsz
  obtain ⟨v0, d0, rfl, rfl, h0⟩ := trodAll_one hA
  obtain ⟨rfl, rfl⟩ := trodVars_none hV
  have k0 := h0
  have lt0 : ∀ x ∈ p, x.block < W.heap.size := by obtain ⟨m, hm⟩ := k0; exact DataW.trod_lt m _ _ _ hm
  have hw0 : ∀ n ∈ d0.weights Tryz.prog 36, n ≤ reachBytes := fun n hn => by
    have h1 := List.all_eq_true.1 hsz n (DataW.weights_mem_each (j := 0) (t := 36) (d := d0) rfl rfl n hn)
    simpa using h1
  obtain ⟨k, t, o, n, r, s, x, y, bs, ts, rfl, hx, hy, hbs, hts⟩ := open_act (hval 0 36 v0 rfl rfl) h0 hw0
  clear hA0 hval0 hsz0
  refine (nil_walk k t o n r s x y bs ts W hx hy hbs hts (live_below (known_of_laid hL hsh))).mono fun e W' ⟨he, bel⟩ => ?_
  subst he
  exact ⟨_, rfl, _, _, _, [], p, [], hW', trodAll_mk1 (shut_bool Tryz.underlying4 _), trodAll_mk1 (Below.trod n_three.1 t36_reads t36_row k0 bel lt0), rfl, bel.frame _, fun h => by cases h⟩

end Go.Proofs.YtbfoocginkdmcaaGreatDoor
