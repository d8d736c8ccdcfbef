/-
  ServerParses: for every text the law answers true, with the listed package-level variables tied to the program's text. Conditions: those of the given card alone.
-/
import Derived.Test.YtbfoocginkdmcaaGreatDoorChecked
import Derived.Test.YtbfoocginkdmcaaGreatDoorKW
import Derived.Test.YtbfoocginkdmcaaGreatDoorKX0
import Derived.Test.YtbfoocginkdmcaaGreatDoorKXf
import Derived.Test.YtbfoocginkdmcaaGreatDoorKXg
import Derived.Test.YtbfoocginkdmcaaGreatDoorKXh
import Derived.Test.YtbfoocginkdmcaaGreatDoorKXi
import Derived.Test.YtbfoocginkdmcaaGreatDoorKYh
import Derived.Test.YtbfoocginkdmcaaGreatDoorWK
import Derived.ChangeMaps5
import Derived.Carry
import Derived.Test.YtbfoocginkdmcaaGreatDoorRows
import Derived.Test.YtbfoocginkdmcaaGreatDoorCards
import Derived.ProofKit
import Derived.LaidMore
import Derived.OpenShut
import Derived.ChangeOld
import Derived.Stop.LaidErr
import Derived.Lib.SmallJoins
import Derived.Lib.LaidTab
import Derived.SevenTiedAt
import Derived.Lay

namespace Go.Proofs.YtbfoocginkdmcaaGreatDoor
open Go Go.ChangeShapes Go.WideShapes Go.ChangeAt Go.RowKit Go.Joins
set_option linter.unusedVariables false

theorem laid_shaped' (os : Os) (args : Array Value) : ((laidW os).forCall (fun _ _ => 0) ⟨#[], args, []⟩).Shaped Tryz.prog := laid_shaped os

theorem known_tab {W : World} (K : Known W) : Tab W := K.k2

set_option maxRecDepth 100000 in
theorem law_lifted (os : Os) (started : os.Started) (H : Type) (enc : TypeId × Value → H) :
    ReturnsInHanded {} Tryz.checked os 3 .any (fun w args => (Rows.serverParsesSpec.pre enc Tryz.prog Tryz.f3 [] false w args ∧ laidMetH Tryz.prog Rows.serverParsesRow.laid w) ∧ sizedMet enc Tryz.prog Tryz.f3 (OpenSpec.ofChange Rows.serverParsesSpec) false w args)
      (Rows.serverParsesSpec.post enc Tryz.prog Tryz.f3 false true false false) := by
  refine Ev.handed_and_shaped (C := Tryz.checked) (X := fun w _ => laidMetH Tryz.prog Rows.serverParsesRow.laid w) (fun _ _ _ hh h => h.of_heap hh) own started no_init Tryz.func3
    (ChangeSpec.witness_shaped (enc := enc) (C := Tryz.checked) (os := os) (X := fun w _ => laidMetH Tryz.prog Rows.serverParsesRow.laid w) false (laidW os) argsW 8 (laidW_os os)
      (laid_shaped' os _) (w_ok os) (w_pre enc os) (w_sz enc os) (laid_witness os _)) ?_
  intro W base args ds gs before hval0 hW _ _ hL hsh _
  have hval : ∀ (j : Nat) t v, Tryz.f3.params[j]? = some t → args[j]? = some v → Value.okWide Tryz.prog W .any base t v := hval0
  have hW' := hW
  obtain ⟨p, q, hA0, hV, rfl, hfz, hnd⟩ := hW
  have hA : DataW.TrodAll enc Tryz.prog W 0 (fun _ => true) true Tryz.f3.params.toList args.toList ds p := hA0
  rw [Tryz.params3] at hA hval
  obtain ⟨v0, d0, rfl, rfl, h0⟩ := trodAll_one hA
  obtain ⟨rfl, rfl⟩ := trodVars_none hV
  have lt0 : ∀ x ∈ p, x.block < W.heap.size := by obtain ⟨m, hm⟩ := h0; exact DataW.trod_lt m _ _ _ hm
  obtain ⟨s, rfl⟩ := okWide_string Tryz.underlying9 (hval 0 9 v0 rfl rfl)
  clear hA0 hval0
  have hK := known_of_laid hL hsh
  refine (parses_walk s W (known_tab hK) (errs_of_laid hL) (fun W' hb => cell_low hK.km hb.block) (live_below hK)).mono fun e W' ⟨he, bel⟩ => ?_
  subst he
  exact ⟨_, rfl, _, _, _, [], p, [], hW', trodAll_mk1 (shut_bool Tryz.underlying4 _), trodAll_mk1 (Below.trod n_three.1 t9_reads t9_row h0 bel lt0), rfl, bel.frame _, fun h => by cases h⟩

end Go.Proofs.YtbfoocginkdmcaaGreatDoor
