/-
  AgentBasics: what is shown is read again, whatever the name and the secret (of bulk at most 1048576 together), with the listed package-level variables tied to the program's text. Conditions: those of the given card alone.
-/
import Derived.Test.YtdjaccnocaffjaaGreatDoorChecked
import Derived.Test.YtdjaccnocaffjaaGreatDoorKW
import Derived.Test.YtdjaccnocaffjaaGreatDoorKX0
import Derived.Test.YtdjaccnocaffjaaGreatDoorWG
import Derived.ChangeMaps5
import Derived.Test.YtdjaccnocaffjaaGreatDoorRows
import Derived.Test.YtdjaccnocaffjaaGreatDoorCards
import Derived.ProofKit
import Derived.LaidMore
import Derived.OpenShut
import Derived.ChangeOld
import Derived.Stop.LaidErr
import Derived.Lib.SmallJoins
import Derived.Lib.LaidTab
import Derived.SevenTiedAt
import Derived.Lay

namespace Go.Proofs.YtdjaccnocaffjaaGreatDoor
open Go Go.ChangeShapes Go.WideShapes Go.ChangeAt Go.RowKit Go.Joins
set_option linter.unusedVariables false

theorem laid_shaped' (os : Os) (args : Array Value) : ((laidW os).forCall (fun _ _ => 0) ⟨#[], args, []⟩).Shaped Tryz.prog := laid_shaped os

theorem bulk_le {H : Type} {s0 s1 : ByteArray} (h : Rows.uptoSmall H ([.lit (.string s0.data.toList), .lit (.string s1.data.toList)] ++ []) = true) : s0.size ≤ 1100000 ∧ s1.size ≤ 1100000 := by
  have h1 := of_decide_eq_true h
  have e0 : s0.data.toList.length = s0.size := by simp
  have e1 : s1.data.toList.length = s1.size := by simp
  simp only [List.append_nil, Rows.uptoBulkAll, Rows.uptoBulk] at h1
  omega

set_option maxRecDepth 100000 in
theorem basics_lifted (os : Os) (started : os.Started) (H : Type) (enc : TypeId × Value → H) (F : Stop.Interp) :
    ReturnsInHanded {} Tryz.checked os 3 .any (fun w args => ((Rows.OpenSpec.upto Rows.agentBasicsSpec).pre enc Tryz.prog Tryz.f3 [] false w args ∧ laidMetH Tryz.prog Rows.agentBasicsUptoRow.laid w) ∧ sizedMet enc Tryz.prog Tryz.f3 (Rows.OpenSpec.upto Rows.agentBasicsSpec) false w args)
      (((Rows.OpenSpec.upto Rows.agentBasicsSpec).at F).post enc Tryz.prog Tryz.f3 false true false false) := by
  refine Ev.handed_and_shaped_cond (C := Tryz.checked) (k := Rows.uptoSmall) rfl (X := fun w _ => laidMetH Tryz.prog Rows.agentBasicsUptoRow.laid w) (fun _ _ _ hh h => h.of_heap hh) own started (by kernel_rfl) Tryz.func3
    (Ev.witness_shaped_cond (C := Tryz.checked) (enc := enc) (os := os) (k := Rows.uptoSmall) rfl (X := fun w _ => laidMetH Tryz.prog Rows.agentBasicsUptoRow.laid w) false (laidW os) #[.string ByteArray.empty, .string ByteArray.empty] 8 (laidW_os os)
      (laid_shaped' os _) (by kernel_rfl) (x := ([.lit (.string []), .lit (.string [])], [], [])) (by kernel_rfl) (by kernel_rfl) (by kernel_rfl) (by kernel_rfl) (laid_witness os _)) ?_
  intro W base args ds gs before hval0 hW _ hkk hL hsh _
  have hval : ∀ (j : Nat) t v, Tryz.f3.params[j]? = some t → args[j]? = some v → Value.okWide Tryz.prog W .any base t v := hval0
  have hW' := hW
  obtain ⟨p, q, hA0, hV, rfl, hfz, hnd⟩ := hW
  have hA : DataW.TrodAll enc Tryz.prog W 0 (fun _ => true) true Tryz.f3.params.toList args.toList ds p := hA0
  rw [Tryz.params3] at hA hval
  obtain ⟨v0, v1, d0, d1, p0, p1, rfl, rfl, rfl, h0, h1⟩ := trodAll_two hA
  obtain ⟨rfl, rfl⟩ := trodVars_none hV
  obtain ⟨s0, rfl, rfl, rfl, hs0⟩ := ChangeMaps.open_string Tryz.underlying9 (hval 0 9 v0 rfl rfl) h0
  obtain ⟨s1, rfl, rfl, rfl, hs1⟩ := ChangeMaps.open_string Tryz.underlying9 (hval 1 9 v1 rfl rfl) h1
  obtain ⟨hb0, hb1⟩ := bulk_le hkk
  clear hA hA0 hval hval0
  refine (law_calls s0 s1 hb0 hb1 W hsh (live_below (known_of_laid hL hsh))).mono fun e W' ⟨he, bel⟩ => ?_
  subst he
  exact ⟨_, rfl, _, _, _, [], [], [], hW', trodAll_mk1 (shut_bool Tryz.underlying4 _), trodAll_mk2 (ChangeMaps.shut_string Tryz.underlying9 hs0) (ChangeMaps.shut_string Tryz.underlying9 hs1), rfl, bel.frame _, fun h => by cases h⟩

end Go.Proofs.YtdjaccnocaffjaaGreatDoor
