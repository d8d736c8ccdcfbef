/-
  ServerBack: whatever the arguments (of bulk at most 1048576 together) the law answers true and they read behind the call as they did, with the listed package-level variables tied to the program's text. Conditions: those of the given card alone.
-/
import Derived.Test.YtbfoocginkdmcaaGreatDoorChecked
import Derived.Test.YtbfoocginkdmcaaGreatDoorKW
import Derived.Test.YtbfoocginkdmcaaGreatDoorKX0
import Derived.Test.YtbfoocginkdmcaaGreatDoorKXf
import Derived.Test.YtbfoocginkdmcaaGreatDoorKXg
import Derived.Test.YtbfoocginkdmcaaGreatDoorKXh
import Derived.Test.YtbfoocginkdmcaaGreatDoorKXi
import Derived.Test.YtbfoocginkdmcaaGreatDoorKYh
import Derived.Test.YtbfoocginkdmcaaGreatDoorWK
import Derived.Test.YtbfoocginkdmcaaGreatDoorWE
import Derived.ChangeMaps5
import Derived.Carry
import Derived.Test.YtbfoocginkdmcaaGreatDoorRows
import Derived.Test.YtbfoocginkdmcaaGreatDoorCards
import Derived.ProofKit
import Derived.LaidMore
import Derived.OpenShut
import Derived.ChangeOld
import Derived.Stop.LaidErr
import Derived.Lib.SmallJoins
import Derived.Lib.LaidTab
import Derived.SevenTiedAt
import Derived.Lay

namespace Go.Proofs.YtbfoocginkdmcaaGreatDoor
open Go Go.ChangeShapes Go.WideShapes Go.ChangeAt Go.RowKit Go.Joins
set_option linter.unusedVariables false

theorem laid_shaped' (os : Os) (args : Array Value) : ((laidW os).forCall (fun _ _ => 0) ⟨#[], args, []⟩).Shaped Tryz.prog := laid_shaped os

theorem known_tab {W : World} (K : Known W) : Tab W := K.k2

set_option maxRecDepth 100000 in
theorem law_lifted (os : Os) (started : os.Started) (H : Type) (enc : TypeId × Value → H) (F : Stop.Interp) :
    ReturnsInHanded {} Tryz.checked os 6 .any (fun w args => ((Rows.OpenSpec.upto Rows.serverBackSpec).pre enc Tryz.prog Tryz.f6 [] false w args ∧ laidMetH Tryz.prog Rows.serverBackUptoRow.laid w) ∧ sizedMet enc Tryz.prog Tryz.f6 (Rows.OpenSpec.upto Rows.serverBackSpec) false w args)
      (((Rows.OpenSpec.upto Rows.serverBackSpec).at F).post enc Tryz.prog Tryz.f6 false true false false) := by
  refine Ev.handed_and_shaped_cond (C := Tryz.checked) (k := Rows.uptoSmall) rfl (X := fun w _ => laidMetH Tryz.prog Rows.serverBackUptoRow.laid w) (fun _ _ _ hh h => h.of_heap hh) own started no_init Tryz.func6
    (Ev.witness_shaped_cond (C := Tryz.checked) (enc := enc) (os := os) (k := Rows.uptoSmall) rfl (X := fun w _ => laidMetH Tryz.prog Rows.serverBackUptoRow.laid w) false (laidW os) argsW 8 (laidW_os os)
      (laid_shaped' os _) (w_ok os) (x := ([.nil, .lit (.string [])], [], [])) (w_pre enc os) rfl (w_small H) (w_sz enc os) (laid_witness os _)) ?_
  intro W base args ds gs before hval0 hW _ hkk hL hsh _
  have hval : ∀ (j : Nat) t v, Tryz.f6.params[j]? = some t → args[j]? = some v → Value.okWide Tryz.prog W .any base t v := hval0
  have hW' := hW
  obtain ⟨p, q, hA0, hV, rfl, hfz, hnd⟩ := hW
  have hA : DataW.TrodAll enc Tryz.prog W 0 (fun _ => true) true Tryz.f6.params.toList args.toList ds p := hA0
  rw [Tryz.params6] at hA hval
  obtain ⟨v0, v1, d0, d1, p0, p1, rfl, rfl, rfl, h0, h1⟩ := trodAll_two hA
  obtain ⟨rfl, rfl⟩ := trodVars_none hV
  have lt0 : ∀ x ∈ p0, x.block < W.heap.size := by obtain ⟨m, hm⟩ := h0; exact DataW.trod_lt m _ _ _ hm
  have lt1 : ∀ x ∈ p1, x.block < W.heap.size := by obtain ⟨m, hm⟩ := h1; exact DataW.trod_lt m _ _ _ hm
  have hb : Rows.uptoBulk d0 + Rows.uptoBulk d1 ≤ 1048576 := by
    have hb1 := of_decide_eq_true hkk
    simp only [List.append_nil, Rows.uptoBulkAll] at hb1
    omega
  obtain ⟨aa, hi, hf, hsum⟩ := open_acts (hval 0 22 v0 rfl rfl) h0 (by omega)
  obtain ⟨s, rfl⟩ := okWide_string Tryz.underlying9 (hval 1 9 v1 rfl rfl)
  have q1 := acts_len aa
  have q2 := script_len aa hf
  clear hA hA0 hval hval0
  have hK := known_of_laid hL hsh
  refine (back_walk v0 aa s W hi hf (by omega) (by omega) (known_tab hK) (errs_of_laid hL) (fun W' hb => cell_low hK.km hb.block) (live_below hK)).mono fun e W' ⟨he, bel⟩ => ?_
  subst he
  exact ⟨_, rfl, _, _, _, [], p0 ++ p1, [], hW', trodAll_mk1 (shut_bool Tryz.underlying4 _), trodAll_mk2 (Below.trod n_three.1 t22_reads t22_row h0 bel lt0) (Below.trod n_three.1 t9_reads t9_row h1 bel lt1), rfl, bel.frame _, fun h => by cases h⟩

end Go.Proofs.YtbfoocginkdmcaaGreatDoor
