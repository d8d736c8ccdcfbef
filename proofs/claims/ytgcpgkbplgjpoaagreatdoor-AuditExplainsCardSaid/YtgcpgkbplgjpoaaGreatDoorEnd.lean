/-
  AuditExplains: for every finding the law answers true and the finding reads behind the call as it did, with the four listed package-level variables tied to the program's text. Conditions: those of the given card alone.
-/
import Derived.Test.YtgcpgkbplgjpoaaGreatDoorLaw
import Derived.Test.YtgcpgkbplgjpoaaGreatDoorRows
import Derived.Test.YtgcpgkbplgjpoaaGreatDoorCards
import Derived.Test.YtgcpgkbplgjpoaaGreatDoorTie
import Derived.ProofKit
import Derived.LaidMore
import Derived.OpenShut
import Derived.ChangeOld
import Derived.Stop.LaidErr
import Derived.Lib.SmallJoins
import Derived.Lib.LaidTab
import Derived.SevenTiedAt
namespace Go.Proofs.YtgcpgkbplgjpoaaGreatDoor
open Go Go.ChangeShapes Go.WideShapes Go.ChangeAt Go.RowKit Go.Joins
set_option linter.unusedVariables false

theorem own : ownKnob Tryz.prog.godebug = none := by kernel_rfl
theorem laidOut : laidOutB Tryz.prog = true := by kernel_rfl
theorem cells23 : Tryz.prog.cellsOf 23 = 2 := by kernel_rfl
theorem cells9 : Tryz.prog.cellsOf 9 = 1 := by kernel_rfl
theorem cells48 : Tryz.prog.cellsOf 48 = 9 := by kernel_rfl

/-- The heap that the initialisers leave meets the condition. -/
theorem door_met (os : Os) (args : Array Value) : laidMetH Tryz.prog Rows.auditExplainsRow.laid ((World.doorLaid Tryz.prog 201 os).forCall (fun _ _ => 0) ⟨#[], args, []⟩).memory :=
  laidMetH_of_parts3 (fuel := 8) (laidMet_of_run' 8 (by kernel_rfl) (by kernel_rfl)) (by kernel_rfl) (by kernel_rfl)

/-- What the condition gives the walks. -/
theorem known_of_laid {W : World} (h : laidMetH Tryz.prog Rows.auditExplainsRow.laid W) : Known W := by
  rw [MakeChecks.laidMetH_plain _ _ _ (by kernel_rfl)] at h
  have h3 : laidMet Tryz.prog (("internal/strconv.uint64pow10", Lib.tabData .u64 Lib.pow10Tab) :: [("wicket/audit.words", Rows.laid_wicket_audit_words)]) W := h.tail.tail
  refine ⟨?_, Lib.tabIs_of_head (g := 1) (t := 209) (e := 36) (n := 20) (by kernel_rfl) (by kernel_rfl) (by kernel_rfl) (by kernel_rfl) (by kernel_rfl) (by kernel_rfl) h3⟩
  obtain ⟨ps, ⟨g0, t0, cs0, f0, p0, q0, hg0, ht0, hv0, hd0, _, _⟩, _, _⟩ := h3.tail
  obtain rfl := Option.some.inj ((show Tryz.prog.globalNamed "wicket/audit.words" = some 0 by kernel_rfl).symm.trans hg0)
  obtain rfl := Option.some.inj ((show (Tryz.prog.globals[0]?).map (·.type) = some 48 by kernel_rfl).symm.trans ht0)
  obtain ⟨xs, m1, rfl, hx1, hlen, hn, hel⟩ := DataW.trod_array Tryz.underlying48 hd0
  rw [cells48] at hlen
  rw [cells9] at hel
  simp only [Prod.mk.injEq] at hx1
  have hxs : xs.map (·.1) = wordsL.map fun l => (DataW.lit (.string l) : DataW Unit) := by
    have := hx1.1
    simp only [Rows.laid_wicket_audit_words, DataW.agg.injEq] at this
    rw [← this]; rfl
  intro i hi
  have hi9 := hel i hi
  have hwl : i < wordsL.length := hi
  have hxl : i < xs.length := by rw [hn]; exact hi
  rw [List.getElem?_eq_getElem hxl] at hi9
  obtain ⟨s, e1, e2, _⟩ := DataW.trod_string Tryz.underlying9 hi9
  have e3 : (xs[i]).1 = DataW.lit (.string wordsL[i]) := by
    have := congrArg (fun l => l[i]?) hxs
    simpa [hxl, hwl] using this
  rw [e2] at e3
  simp only [DataW.lit.injEq, Lit.string.injEq] at e3
  have hs : s = ⟨(wordsL.getD i []).toArray⟩ := by
    apply ByteArray.ext
    apply Array.ext'
    simp [List.getD, hwl, e3]
  have hc := World.var?_cell hg0 hv0 i
  rw [hc]
  have e4 : cs0.toList[i]? = some (.string s) := by
    have := congrArg (fun l => l[0]?) e1
    simpa [List.getElem?_take, List.getElem?_drop] using this
  rw [← Array.getElem?_toList, e4, hs]

set_option maxRecDepth 100000 in
theorem lifted (os : Os) (started : os.Started) (H : Type) (enc : TypeId × Value → H) :
    ReturnsInHanded {} Tryz.checked os 3 .any (fun w args => (Rows.auditExplainsSpec.pre enc Tryz.prog Tryz.f3 [] false w args ∧ laidMetH Tryz.prog Rows.auditExplainsRow.laid w) ∧ sizedMet enc Tryz.prog Tryz.f3 (OpenSpec.ofChange Rows.auditExplainsSpec) false w args)
      (Rows.auditExplainsSpec.post enc Tryz.prog Tryz.f3 false true false false) := by
  refine returnsInHanded_of_change_and (C := Tryz.checked) (X := fun w _ => laidMetH Tryz.prog Rows.auditExplainsRow.laid w) (fun _ _ _ hh h => h.of_heap hh) own started (by kernel_rfl) Tryz.func3
    (ChangeSpec.witness_shaped (enc := enc) (C := Tryz.checked) (os := os) (X := fun w _ => laidMetH Tryz.prog Rows.auditExplainsRow.laid w) false (World.doorLaid Tryz.prog 201 os) #[.agg #[.int .i64 0, .int .i64 0]] 8 rfl (World.shaped_of_RefB (by kernel_rfl) (by kernel_rfl)) (by kernel_rfl) (by kernel_rfl) (by kernel_rfl) (door_met os _)) ?_
  intro W base args ds gs before hval0 hW _ _ hL _
  have hval : ∀ (j : Nat) t v, Tryz.f3.params[j]? = some t → args[j]? = some v → Value.okWide Tryz.prog W .any base t v := hval0
  have hW' := hW
  obtain ⟨p, q, hA0, hV, rfl, hfz, hnd⟩ := hW
  have hA : DataW.TrodAll enc Tryz.prog W 0 (fun _ => true) true Tryz.f3.params.toList args.toList ds p := hA0
  rw [Tryz.params3] at hA hval
  obtain ⟨v0, d0, rfl, rfl, h0⟩ := trodAll_one hA
  obtain ⟨rfl, rfl⟩ := trodVars_none hV
  have k0 := h0
  have lt0 : ∀ x ∈ p, x.block < W.heap.size := by obtain ⟨m, hm⟩ := k0; exact DataW.trod_lt m _ _ _ hm
  obtain ⟨c0, c1, y0, y1, m, rfl, hd, hp, hy0, hy1⟩ := open_agg2 Tryz.underlying23 (by kernel_rfl) cells23 (hval 0 23 v0 rfl rfl) h0
  obtain ⟨t, e0, _, w0⟩ := DataW.trod_int Tryz.underlying3 hy0
  obtain ⟨r, e1, _, w1⟩ := DataW.trod_int Tryz.underlying3 hy1
  simp only [List.cons.injEq, and_true] at e0 e1
  subst e0 e1
  obtain ⟨b0, b1⟩ : -9223372036854775808 ≤ t ∧ t ≤ 9223372036854775807 := by
    simp [Lit.wf, IntKind.min, IntKind.max, IntKind.signed, IntKind.bits] at w0
    exact w0
  clear hA0 hval0
  refine (law_any t r b0 b1 W (known_of_laid hL)).mono fun e W' ⟨he, bel⟩ => ?_
  subst he
  exact ⟨_, rfl, _, _, _, [], p, [], hW', trodAll_mk1 (shut_bool Tryz.underlying4 _), trodAll_mk1 (Below.trod laidOut (by kernel_rfl) (of_decide_eq_true (by kernel_rfl)) k0 bel lt0), rfl, bel.frame _, fun h => by cases h⟩

theorem auditExplains_holds : Rows.AuditExplainsSaid :=
  OpenClaim.holds_of_wide 3 Tryz.f3 rfl rfl rfl rfl rfl rfl rfl ⟨rfl, rfl, rfl, rfl, rfl⟩ rfl rfl rfl rfl rfl (by kernel_rfl) Tryz.func3 (by kernel_rfl)
    (of_decide_eq_true (by kernel_rfl)) (by unfold Func.isWrapper; first | (rw [if_pos (by decide +kernel)]; kernel_rfl) | (rw [if_neg (by decide +kernel)]; exact ⟨rfl, rfl⟩))
    (fun os started H enc _ => lifted os started H enc)

/-- The statement. -/
theorem auditExplains_card : Rows.AuditExplainsCardSaid :=
  Claim7.holds_tied_plain_at .later [] [.data, .data, .data, .data] true (true, "02b6720d88502ce3d196fb2ab8d0f3d0345bdc32dde5eeb5636d39951bdfb71b") true
    auditExplains_holds (fun _ h => by cases h) (by kernel_rfl) (fun _ h => by cases h) auditExplains_row_tie rfl ⟨rfl, rfl⟩ (by kernel_rfl) rfl
    (fun f fn hf hfn => by
      obtain rfl : f = 3 := Option.some.inj ((show Tryz.prog.funcNamed "wicket/wicketlaw18.AuditExplains" = some 3 by kernel_rfl).symm.trans hf) |>.symm
      obtain rfl : fn = Tryz.f3 := (Option.some.inj (Tryz.func3.symm.trans hfn)).symm
      exact ⟨by kernel_rfl, fun j t ht => by
        rw [Tryz.params3] at ht
        have hm : t ∈ [23] := by simpa using Array.mem_of_getElem? ht
        have hall : ([23].all fun u => !Tryz.prog.wantsStandIn u) = true := by kernel_rfl
        exact (show Tryz.prog.wantsStandIn t = false by simpa using List.all_eq_true.1 hall t hm)⟩)
    (by kernel_rfl)
#print axioms auditExplains_card
end Go.Proofs.YtgcpgkbplgjpoaaGreatDoor
