/-
  A part of the evaluator for closed runs: proved once over any program.
-/
import Derived.Test.YtgcpgkbplgjpoaaGreatDoorEvXF
set_option linter.unusedVariables false
set_option linter.unusedSimpArgs false
namespace Go.Ev
noncomputable section

/-! ### Calls -/
def argsA {β : Type} : List AV → Nat → T AV → (T AV → Option β) → Option β
  | [], _, t, k => k t
  | v :: l, i, t, k => T.putK (Key.slot i) (some v) t fun t => fN (Nat.succ i) fun i => argsA l i t k

def resA (C : Cx) (t : T AV) (h : T AObj) : List ResultVar → Option (List AV)
  | [] => some []
  | .tmp s :: l => bif Nat.blt s 1000000 then (match T.get (Key.slot s) t with
    | some v => match resA C t h l with
      | some vs => some (v :: vs)
      | none => none
    | none => none) else none
  | .cell s ty :: l => bif Nat.blt s 1000000 then (match T.get (Key.slot s) t with
    | some a => match loadA C h ty a with
      | some v => match resA C t h l with
        | some vs => some (v :: vs)
        | none => none
      | none => none
    | none => none) else none

/-- The results. -/
def resE (C : Cx) (rs : List ResultVar) (t : T AV) (m : Mem) : Option (AV × Mem) :=
  match resA C t m.h rs with
  | some [v] => some (v, m)
  | some vs => some (.tup vs, m)
  | none => none

def drawH (C : Cx) (call : CallF) (nt f : Nat) : DrawF := fun id ops t m => fN (C.hint f id) fun h => bif Nat.beq h 0 then drawn C call nt ops t m else drawnL C call nt h ops t m

theorem drawH_ok {C : Cx} {G : Nat → Nat} {w0 : World} (ok : C.Fine G w0) {call : CallF} (hc : CallsOK G w0 C.P call) {nt f : Nat} (hnt : nt ≤ 1000000) : DrawOK G w0 C.P nt (drawH C call nt f) := by
  intro id ops t m t' m' h
  unfold drawH at h
  rw [fN_eq] at h
  cases hb : Nat.beq (C.hint f id) 0 with
  | true => rw [hb] at h; exact drawn_ok ok hc hnt id ops t m t' m' h
  | false => rw [hb] at h; exact drawnL_ok ok hc hnt id ops t m t' m' h

theorem argsA_eq {β : Type} : ∀ {l : List AV} {i : Nat} {t : T AV} {k : T AV → Option β}, argsA l i t k = k (l.foldl (fun (p : Nat × T AV) v => (p.1 + 1, T.put (Key.slot p.1) (some v) p.2)) (i, t)).2
  | [], i, t, k => rfl
  | v :: l, i, t, k => by
    simp only [argsA, T.putK_eq, fN_eq, List.foldl_cons]
    exact argsA_eq

theorem args_get : ∀ {l : List AV} {i : Nat} {t : T AV} {j : Nat} {v : AV}, i + l.length ≤ 1000000 → j < 1000000 → T.get (Key.slot j) (l.foldl (fun (p : Nat × T AV) v => (p.1 + 1, T.put (Key.slot p.1) (some v) p.2)) (i, t)).2 = some v →
    (i ≤ j ∧ l[j - i]? = some v) ∨ T.get (Key.slot j) t = some v
  | [], i, t, j, v, hl, hj, h => .inr h
  | a :: l, i, t, j, v, hl, hj, h => by
    simp only [List.foldl_cons] at h
    simp only [List.length_cons] at hl
    rcases args_get (by omega) hj h with ⟨h1, h2⟩ | h
    · left
      refine ⟨by omega, ?_⟩
      rw [show j - i = (j - (i + 1)) + 1 by omega]
      simpa using h2
    · rw [T.get_put] at h
      by_cases c : Key.slot j = Key.slot i
      · obtain rfl := Key.slot_inj hj (by omega) c
        simp at h
        left
        exact ⟨Nat.le_refl _, by simp [h]⟩
      · rw [if_neg c] at h
        exact .inr h

theorem args_rel {G : Nat → Nat} {ρ : Env} {l : List AV} {xs : List Value} {nt : Nat} (hnt : nt ≤ 1000000) (hl : l.length ≤ nt) (d : denL G ρ l = some xs) :
    RelT G ρ (l.foldl (fun (p : Nat × T AV) v => (p.1 + 1, T.put (Key.slot p.1) (some v) p.2)) (0, .leaf)).2 nt { tmps := xs.toArray ++ Array.replicate (nt - xs.toArray.size) undef, defers := [] } := by
  have hlen := denL_length d
  refine ⟨fun i v hi h => ?_, by simp; omega⟩
  rcases args_get (by omega) hi h with ⟨_, h2⟩ | h
  · obtain ⟨x, h3, h4⟩ := denL_get d h2
    rw [h4]
    simp only [Nat.sub_zero] at h3
    have hlt : i < xs.length := (List.getElem?_eq_some_iff.1 h3).1
    simp only [Array.getD_eq_getD_getElem?]
    rw [Array.getElem?_append_left (by simpa using hlt)]
    simp [h3]
  · simp [T.get_leaf] at h

def resF (tmps : Array Value) : ResultVar → Sem Value
  | .tmp t => pure (tmps.getD t undef)
  | .cell s ty => do loadVar ty (← asAddr (tmps.getD s undef))

theorem resA_ok {C : Cx} {G : Nat → Nat} {w0 : World} (ok : C.Ok G w0) {ρ : Env} {t : T AV} {nt : Nat} {a : Act} (rt : RelT G ρ t nt a) {h : T AObj} {n : Key} {w : World} (r : RelH G w0 ρ h n w) :
    ∀ {l : List ResultVar} {vs : List AV}, resA C t h l = some vs → ∃ xs, denL G ρ vs = some xs ∧
      (l.mapM (resF a.tmps)).run C.P w = .ok xs w
  | [], vs, e => by
    simp only [resA, Option.some.injEq] at e; subst e
    exact ⟨[], rfl, by simp⟩
  | .tmp s :: l, vs, e => by
    simp only [resA] at e
    obtain ⟨hs, e⟩ := cond_some e
    rw [nblt, decide_eq_true_iff] at hs
    cases h1 : T.get (Key.slot s) t with
    | none => simp [h1] at e
    | some v =>
      cases h2 : resA C t h l with
      | none => simp [h1, h2] at e
      | some us =>
        simp only [h1, h2, Option.some.injEq] at e; subst e
        obtain ⟨xs, d, hr⟩ := resA_ok ok rt r h2
        refine ⟨a.tmps.getD s undef :: xs, denL_cons.2 ⟨_, _, rt.get s v hs h1, d, rfl⟩, ?_⟩
        rw [List.mapM_cons]
        simp only [resF, Sem.run_bind, Sem.run_pure, Result.andThen_ok, hr]
  | .cell s ty :: l, vs, e => by
    simp only [resA] at e
    obtain ⟨hs, e⟩ := cond_some e
    rw [nblt, decide_eq_true_iff] at hs
    cases h1 : T.get (Key.slot s) t with
    | none => simp [h1] at e
    | some p =>
      simp only [h1] at e
      cases h3 : loadA C h ty p with
      | none => simp [h3] at e
      | some v =>
        cases h2 : resA C t h l with
        | none => simp [h3, h2] at e
        | some us =>
          simp only [h3, h2, Option.some.injEq] at e; subst e
          obtain ⟨xs, d, hr⟩ := resA_ok ok rt r h2
          obtain ⟨b, off, x, e1, e2, e3⟩ := loadVar_ok ok r h3
          have e4 := rt.get s p hs h1
          rw [e1] at e4
          simp only [Option.some.injEq] at e4
          refine ⟨x :: xs, denL_cons.2 ⟨_, _, e3, d, rfl⟩, ?_⟩
          rw [List.mapM_cons]
          have ha : asAddr (a.tmps.getD s undef) = pure ⟨b, off, none⟩ := by rw [← e4]; rfl
          simp only [resF, ha, Sem.run_bind, Sem.run_pure, Result.andThen_ok, e2, hr]

theorem results_ok {C : Cx} {G : Nat → Nat} {w0 : World} (ok : C.Ok G w0) {ρ : Env} {t : T AV} {nt : Nat} {a : Act} (rt : RelT G ρ t nt a) {h : T AObj} {n : Key} {w : World} (r : RelH G w0 ρ h n w) {fn : Func} {vs : List AV}
    (e : resA C t h fn.results.toList = some vs) : ∃ xs, denL G ρ vs = some xs ∧ (results fn a.tmps).run C.P w = .ok (if hv : xs.toArray.size = 1 then xs.toArray[0] else .tuple xs.toArray) w := by
  obtain ⟨xs, d, hr⟩ := resA_ok ok rt r e
  refine ⟨xs, d, ?_⟩
  unfold results
  have key : ∀ g : ResultVar → Sem Value, (∀ x, g x = resF a.tmps x) → (fn.results.toList.mapM g).run C.P w = .ok xs w := fun g hg => by rw [show g = resF a.tmps from funext hg]; exact hr
  rw [Array.mapM_eq_mapM_toList]
  simp only [Sem.run_bind, Sem.run_map]
  rw [key _ (by intro x; cases x <;> rfl)]
  simp only [Sem.run_pure, Result.andThen_ok]

theorem resE_ok {C : Cx} {G : Nat → Nat} {w0 : World} (ok : C.Ok G w0) {fn : Func} {t : T AV} {m m' : Mem} {v : AV} (e : resE C fn.results.toList t m = some (v, m')) :
    m' = m ∧ ∀ {ρ : Env} {nt : Nat} {a : Act} {w : World}, RelT G ρ t nt a → RelH G w0 ρ m.h m.n w → ∃ y, den G ρ v = some y ∧ (results fn a.tmps).run C.P w = .ok y w := by
  unfold resE at e
  cases hr : resA C t m.h fn.results.toList with
  | none => simp [hr] at e
  | some vs =>
    simp only [hr] at e
    have hm : m' = m := by
      split at e <;> simp_all
    refine ⟨hm, fun {ρ nt a w} rt r => ?_⟩
    obtain ⟨xs, d, h⟩ := results_ok ok rt r hr
    have hlen := denL_length d
    split at e
    · rename_i u heq
      simp only [Option.some.injEq] at heq
      subst heq
      simp only [Option.some.injEq, Prod.mk.injEq] at e
      obtain ⟨rfl, _⟩ := e
      obtain ⟨y, ys, d1, d2, rfl⟩ := denL_cons.1 d
      simp only [denL, Option.some.injEq] at d2
      subst d2
      exact ⟨y, d1, by rw [h]; simp⟩
    · rename_i us hne heq
      simp only [Option.some.injEq] at heq
      subst heq
      simp only [Option.some.injEq, Prod.mk.injEq] at e
      obtain ⟨rfl, _⟩ := e
      refine ⟨.tuple xs.toArray, by simp [den, d], ?_⟩
      rw [h, dif_neg]
      intro h1
      simp at h1
      rw [hlen] at h1
      cases vs with
      | nil => simp at h1
      | cons a l =>
        cases l with
        | nil => exact hne a rfl
        | cons _ _ => simp at h1
    · rename_i heq; cases heq
end
end Go.Ev
