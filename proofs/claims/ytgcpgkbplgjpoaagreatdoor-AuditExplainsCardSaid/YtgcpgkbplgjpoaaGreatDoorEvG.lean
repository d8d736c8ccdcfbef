/-
  A part of the evaluator for closed runs: proved once over any program.
-/
import Derived.Test.YtgcpgkbplgjpoaaGreatDoorEvF
set_option linter.unusedVariables false
set_option linter.unusedSimpArgs false
namespace Go.Ev
noncomputable section

/-! ### Struct and array literals -/
def ow {α : Type} : List α → Nat → List α → List α
  | [], _, _ => []
  | l, _, [] => l
  | _ :: l, 0, v :: vs => v :: ow l 0 vs
  | a :: l, n + 1, vs => a :: ow l n vs

theorem ow_nil {α : Type} (l : List α) (n : Nat) : ow l n [] = l := by cases l <;> cases n <;> rfl

theorem ow_length {α : Type} : ∀ (l : List α) (n : Nat) (vs : List α), (ow l n vs).length = l.length
  | [], _, _ => by simp [ow]
  | a :: l, 0, [] => by simp [ow]
  | a :: l, 0, v :: vs => by simp [ow, ow_length l 0 vs]
  | a :: l, n + 1, [] => by simp [ow]
  | a :: l, n + 1, v :: vs => by simp [ow, ow_length l n (v :: vs)]

theorem ow_cons {α : Type} : ∀ (l : List α) (n : Nat) (v : α) (vs : List α), ow l n (v :: vs) = ow (l.set n v) (n + 1) vs
  | [], n, v, vs => by simp [ow]
  | a :: l, 0, v, vs => by
    cases vs with
    | nil => simp [ow, ow_nil]
    | cons u us => simp [ow]
  | a :: l, n + 1, v, vs => by
    have ih := ow_cons l n v vs
    cases vs with
    | nil => simp only [ow, List.set_cons_succ]; rw [ih]; simp [ow_nil]
    | cons u us => simp only [ow, List.set_cons_succ]; rw [ih]

theorem ow_eq {α : Type} : ∀ (l : List α) (n : Nat) (vs : List α), n + vs.length ≤ l.length → ow l n vs = l.take n ++ vs ++ l.drop (n + vs.length)
  | [], n, vs, h => by simp at h; simp [ow, h]
  | a :: l, 0, [], h => by simp [ow]
  | a :: l, 0, v :: vs, h => by
    simp only [ow, ow_eq l 0 vs (by simp at h ⊢; omega)]
    simp
  | a :: l, n + 1, [], h => by simp [ow]
  | a :: l, n + 1, v :: vs, h => by
    simp only [ow, ow_eq l n (v :: vs) (by simp at h ⊢; omega)]
    simp [show n + 1 + (vs.length + 1) = (n + (vs.length + 1)) + 1 from by omega]

theorem denL_ow {G : Nat → Nat} {ρ : Env} : ∀ {l : List AV} {xs : List Value} {n : Nat} {vs : List AV} {ys : List Value}, denL G ρ l = some xs → denL G ρ vs = some ys → denL G ρ (ow l n vs) = some (ow xs n ys)
  | [], xs, n, vs, ys, h, k => by simp [denL] at h; subst h; simp [ow, denL]
  | a :: l, xs, 0, [], ys, h, k => by simp [denL] at k; subst k; rw [ow_nil, ow_nil]; exact h
  | a :: l, xs, 0, v :: vs, ys, h, k => by
    obtain ⟨x, xs, h1, h2, rfl⟩ := denL_cons.1 h
    obtain ⟨y, ys, k1, k2, rfl⟩ := denL_cons.1 k
    simp only [ow]
    exact denL_cons.2 ⟨y, _, k1, denL_ow h2 k2, rfl⟩
  | a :: l, xs, n + 1, [], ys, h, k => by simp [denL] at k; subst k; rw [ow_nil, ow_nil]; exact h
  | a :: l, xs, n + 1, v :: vs, ys, h, k => by
    obtain ⟨x, xs, h1, h2, rfl⟩ := denL_cons.1 h
    obtain ⟨y, ys, k1, k2, rfl⟩ := denL_cons.1 k
    simp only [ow]
    exact denL_cons.2 ⟨x, _, h1, denL_ow h2 (denL_cons.2 ⟨y, ys, k1, k2, rfl⟩), rfl⟩

theorem foldl_ow (off : Nat) : ∀ (vs : List Value) (k : Nat) (cs : Array Value), ((vs.zipIdx k).foldl (fun cs (x : Value × Nat) => cs.setIfInBounds (off + x.2) x.1) cs).toList = ow cs.toList (off + k) vs
  | [], k, cs => by simp [ow_nil]
  | v :: vs, k, cs => by
    simp only [List.zipIdx_cons, List.foldl_cons]
    rw [foldl_ow off vs (k + 1), ow_cons]
    simp [Nat.add_assoc]

def cellsOf' (v : AV) : List AV :=
  match v with
  | .agg l => l
  | v => [v]

theorem cellsOf'_ok {G : Nat → Nat} {ρ : Env} {v : AV} {x : Value} (d : den G ρ v = some x) : denL G ρ (cellsOf' v) = some x.cells.toList := by
  have one : ∀ y, den G ρ v = some y → (∀ l, v ≠ .agg l) → (∀ c, y ≠ .agg c) → denL G ρ (cellsOf' v) = some y.cells.toList := fun y hy hv hn => by
    have e1 : cellsOf' v = [v] := by cases v <;> first | rfl | exact absurd rfl (hv _)
    have e2 : y.cells = #[y] := by cases y <;> first | rfl | exact absurd rfl (hn _)
    rw [e1, e2]
    exact denL_cons.2 ⟨y, [], hy, rfl, rfl⟩
  cases v
  case agg l =>
    simp only [den] at d
    cases hl : denL G ρ l with
    | none => simp [hl] at d
    | some xs => simp [hl] at d; subst d; simpa [cellsOf', Value.cells] using hl
  all_goals
    refine one x d (by simp) ?_
    intro c e; subst e
    simp only [den, Option.some.injEq, reduceCtorEq] at d <;> (repeat' split at d) <;> simp_all

def fillA (place : Nat → Option (Nat × Nat)) (cells : List AV) : List (Nat × AV) → Option (List AV)
  | [] => some cells
  | (i, v) :: rest =>
    match place i with
    | none => none
    | some (off, size) =>
      let c := cellsOf' v
      bif Nat.beq c.length size && Nat.ble (Nat.add off size) cells.length then fL (ow cells off c) fun cells => fillA place cells rest else none

theorem fill_ok {G : Nat → Nat} {ρ : Env} {place : Nat → Option (Nat × Nat)} : ∀ {ps : List (Nat × AV)} {qs : List (Nat × Value)} {l m : List AV} {xs : List Value},
    All2 (fun (p : Nat × AV) (q : Nat × Value) => p.1 = q.1 ∧ den G ρ p.2 = some q.2) ps qs → denL G ρ l = some xs → fillA place l ps = some m →
    ∃ ys, Instr.fill place xs.toArray qs = some ys ∧ denL G ρ m = some ys.toList
  | [], _, l, m, xs, .nil, d, h => by simp [fillA] at h; subst h; exact ⟨xs.toArray, rfl, by simpa using d⟩
  | (i, v) :: ps, (_, x) :: qs, l, m, xs, .cons ⟨e, dv⟩ hr, d, h => by
    simp only at e dv; subst e
    simp only [fillA] at h
    cases hp : place i with
    | none => simp [hp] at h
    | some os =>
      obtain ⟨off, size⟩ := os
      have dc := cellsOf'_ok dv
      have hlen := denL_length dc
      have hl := denL_length d
      simp only [hp, nbeq, nble, fL_eq] at h
      by_cases c1 : (cellsOf' v).length = size
      · by_cases c2 : off.add size ≤ l.length
        · simp only [c1, c2, decide_true, Bool.and_self, cond_true] at h
          have c2' : off + size ≤ l.length := c2
          obtain ⟨ys, e1, e2⟩ := fill_ok hr (denL_ow (n := off) d dc) h
          refine ⟨ys, ?_, e2⟩
          simp only [Instr.fill, hp]
          have hsz : x.cells.size = size := by rw [← Array.length_toList, hlen, c1]
          rw [if_neg (by simp [hsz]; omega)]
          rw [← e1]
          congr 1
          apply Array.ext'
          simp only [List.toList_toArray]
          rw [← Array.foldl_toList, Array.toList_zipIdx]
          have := foldl_ow off x.cells.toList 0 xs.toArray
          simpa using this
        · simp only [c1, c2, decide_true, decide_false, Bool.and_false, cond_false, reduceCtorEq] at h
      · simp only [c1, decide_false, Bool.false_and, cond_false, reduceCtorEq] at h

def evParts (C : Cx) (t : T AV) : List (Nat × Operand) → Option (List (Nat × AV))
  | [] => some []
  | (i, x) :: ps => match evO C t x, evParts C t ps with
    | some v, some vs => some ((i, v) :: vs)
    | _, _ => none

theorem evParts_ok {C : Cx} {G : Nat → Nat} {w0 : World} (ok : C.Ok G w0) {ρ : Env} {t : T AV} {nt : Nat} {a : Act} (r : RelT G ρ t nt a) : ∀ {l : List (Nat × Operand)} {vs : List (Nat × AV)},
    evParts C t l = some vs → All2 (fun (p : Nat × AV) (q : Nat × Value) => p.1 = q.1 ∧ den G ρ p.2 = some q.2) vs (l.map fun p => (p.1, a.eval p.2))
  | [], vs, h => by simp [evParts] at h; subst h; exact .nil
  | (i, x) :: l, vs, h => by
    simp only [evParts] at h
    cases h1 : evO C t x with
    | none => simp [h1] at h
    | some v =>
      cases h2 : evParts C t l with
      | none => simp [h1, h2] at h
      | some us => simp [h1, h2] at h; subst h; exact .cons ⟨rfl, evO_ok ok r h1⟩ (evParts_ok ok r h2)

def zeroA (P : Program) (t : TypeId) : Option AV :=
  match P.info? t with
  | some i => match i.zero with
    | some v => cv v
    | none => none
  | none => none

theorem zeroA_ok {P : Program} {t : TypeId} {v : AV} (h : zeroA P t = some v) (w : World) : ∃ x, (zeroValue t).run P w = .ok x w ∧ ∀ G ρ, den G ρ v = some x := by
  unfold zeroA at h
  cases hi : P.info? t with
  | none => simp [hi] at h
  | some i =>
    cases hz : i.zero with
    | none => simp [hi, hz] at h
    | some x =>
      simp [hi, hz] at h
      exact ⟨x, by simp [zeroValue, typeInfo, hi, hz], fun G ρ => cv_ok h⟩

def placesOf (P : Program) : List Field → Option (List (Nat × Nat))
  | [] => some []
  | f :: fs => match sizeA P f.type, placesOf P fs with
    | some s, some l => some ((f.offset, s) :: l)
    | _, _ => none

theorem mapM_run {α β : Type} {P : Program} {f : α → Sem β} {g : α → β} {w : World} : ∀ (l : List α), (∀ a ∈ l, (f a).run P w = .ok (g a) w) → (l.mapM f).run P w = .ok (l.map g) w
  | [], _ => rfl
  | a :: l, h => by
    rw [List.mapM_cons]
    simp only [Sem.run_bind, h a (by simp), Result.andThen_ok, mapM_run l (fun b hb => h b (by simp [hb])), Sem.run_pure, List.map_cons]

theorem places_ok {P : Program} {w : World} : ∀ {fs : List Field} {l : List (Nat × Nat)}, placesOf P fs = some l → (fs.mapM fun f => do pure (f.offset, ← sizeOf f.type) : Sem (List (Nat × Nat))).run P w = .ok l w
  | [], l, h => by simp [placesOf] at h; subst h; rfl
  | f :: fs, l, h => by
    simp only [placesOf] at h
    cases h1 : sizeA P f.type with
    | none => simp [h1] at h
    | some s =>
      cases h2 : placesOf P fs with
      | none => simp [h1, h2] at h
      | some m =>
        simp [h1, h2] at h; subst h
        rw [List.mapM_cons]
        simp only [Sem.run_bind, sizeA_ok h1, Result.andThen_ok, Sem.run_pure, places_ok h2]

def buildA (P : Program) (t : TypeId) (ps : List (Nat × AV)) : Option AV :=
  match zeroA P t with
  | none => none
  | some z => match P.underlying t with
    | some (.struct fs) => match placesOf P fs.toList with
      | some pl => match fillA (nth pl) (cellsOf' z) ps with
        | some l => some (.agg l)
        | none => none
      | none => none
    | some (.array _ e) => match sizeA P e with
      | some s => match fillA (fun i => some (Nat.mul i s, s)) (cellsOf' z) ps with
        | some l => some (.agg l)
        | none => none
      | none => none
    | _ => none

theorem build_ok {P : Program} {G : Nat → Nat} {ρ : Env} {t : TypeId} {ps : List (Nat × AV)} {qs : List (Nat × Value)} {u : AV} (h : buildA P t ps = some u)
    (hq : All2 (fun (p : Nat × AV) (q : Nat × Value) => p.1 = q.1 ∧ den G ρ p.2 = some q.2) ps qs) (w : World) :
    ∃ y, (Instr.build t qs.toArray).run P w = .ok y w ∧ den G ρ u = some y := by
  unfold buildA at h
  cases hz : zeroA P t with
  | none => simp [hz] at h
  | some z =>
    obtain ⟨x, hx, dx⟩ := zeroA_ok hz w
    have dc := cellsOf'_ok (dx G ρ)
    cases hu : P.underlying t with
    | none => simp [hz, hu] at h
    | some ty =>
      cases ty <;> simp only [hz, hu, reduceCtorEq] at h
      case struct fs =>
        cases hp : placesOf P fs.toList with
        | none => simp [hp] at h
        | some pl =>
          cases hf : fillA (nth pl) (cellsOf' z) ps with
          | none => simp [hp, hf] at h
          | some l =>
            simp [hp, hf] at h; subst h
            obtain ⟨ys, e1, e2⟩ := fill_ok hq dc hf
            refine ⟨.agg ys, ?_, by simp [den, e2]⟩
            have e3 : (fs.mapM fun f => do pure (f.offset, ← sizeOf f.type) : Sem (Array (Nat × Nat))).run P w = .ok pl.toArray w := by
              have := places_ok (w := w) hp
              rw [Array.mapM_eq_mapM_toList]
              simp only [Sem.run_map, this, Result.andThen_ok]
            have e4 : (fun i => pl.toArray[i]?) = nth pl := by funext i; rw [nth_eq]; simp
            simp only [Array.toArray_toList] at e1
            simp only [Instr.build, Sem.run_bind, hx, Result.andThen_ok, run_underlying hu, e3, List.toList_toArray]
            rw [e4, e1]
            rfl
      case array n e =>
        cases hs : sizeA P e with
        | none => simp [hs] at h
        | some s =>
          cases hf : fillA (fun i => some (Nat.mul i s, s)) (cellsOf' z) ps with
          | none => simp only [hs, hf, reduceCtorEq] at h
          | some l =>
            simp only [hs, hf, Option.some.injEq] at h; subst h
            obtain ⟨ys, e1, e2⟩ := fill_ok hq dc hf
            refine ⟨.agg ys, ?_, by simp [den, e2]⟩
            simp only [Array.toArray_toList] at e1
            simp only [Instr.build, Sem.run_bind, hx, Result.andThen_ok, run_underlying hu, sizeA_ok hs, List.toList_toArray]
            have e1' : Instr.fill (fun i => some (i * s, s)) x.cells qs = some ys := e1
            rw [e1']
            rfl
end
end Go.Ev
