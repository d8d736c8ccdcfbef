/-
  A part of the evaluator for closed runs: proved once over any program.
-/
import Derived.Test.YtgcpgkbplgjpoaaGreatDoorEvQ
set_option linter.unusedVariables false
set_option linter.unusedSimpArgs false
namespace Go.Ev
noncomputable section

def unitA (m : Option Mem) : Option (AV × Mem) := m.bind fun m => some (.tup [], m)

/-- What an operation yields and does that makes or writes memory. -/
def evE (C : Cx) (t : T AV) (m : Mem) (op : Op) : Option (AV × Mem) :=
  match op with
  | .alloc e => (zeroA C.P e).bind fun z => boxA m e z
  | .box e x => (evO C t x).bind fun v => boxA m e v
  | .buildSlice ty len parts => (evParts C t parts.toList).bind fun ps => buildSliceA C.P m ty len ps
  | .store ty a x => (evO C t a).bind fun a => (evO C t x).bind fun v => unitA (storeA C.P m ty a v)
  | .makeMap _ none => makeMapA m
  | .makeSlice ty l c => (evO C t l).bind fun l => (evO C t c).bind fun c => makeSliceA C.P m ty l c
  | .mapUpdate ty x k v | .insert ty x k v => (evO C t x).bind fun x => (evO C t k).bind fun k => (evO C t v).bind fun v => unitA (mapUpdA C.P m ty x k v)
  | .convert s d x => (evO C t x).bind fun v => convBA C.P m s d v
  | .call c => match c.callee with
    | .builtin .append => match c.args.toList, c.argTypes.toList with
      | [x, y], t0 :: t1 :: _ => (evO C t x).bind fun x => (evO C t y).bind fun y => appendA C m t0 t1 x y
      | _, _ => none
    | .builtin .copy => match c.args.toList, c.argTypes.toList with
      | [x, y], t0 :: _ => (evO C t x).bind fun x => (evO C t y).bind fun y => copyA C m t0 x y
      | _, _ => none
    | .builtin .delete => match c.args.toList, c.argTypes.toList with
      | [x, y], t0 :: _ => (evO C t x).bind fun x => (evO C t y).bind fun y => unitA (delA C.P m t0 x y)
      | _, _ => none
    | .builtin .unsafeSliceData => match c.args.toList with
      | [x] => (evO C t x).bind fun x => (sliceDataA x).bind fun v => some (v, m)
      | _ => none
    | .builtin .unsafeString => match c.args.toList, c.argTypes.toList with
      | [x, y], t0 :: _ => (evO C t x).bind fun x => (evO C t y).bind fun y => strAtA C.P m t0 x y
      | _, _ => none
    | _ => none
  | _ => none

/-- What an operation does. -/
def OpDoes (G : Nat → Nat) (w0 : World) (P : Program) (s : Sem Next) (ρ : Env) (m : Mem) (w : World) (v : AV) (m' : Mem) : Prop :=
  ∃ ρ' w' nx x, s.run P w = .ok nx w' ∧ (nx = .value x ∨ (nx = .skip ∧ x = undef)) ∧ den G ρ' v = some x ∧ RelH G w0 ρ' m'.h m'.n w' ∧ Fr ρ m.h w ρ' m'.h w'

theorem Does.op {G : Nat → Nat} {w0 : World} {P : Program} {s : Sem Value} {ρ : Env} {m m' : Mem} {w : World} {v : AV} (h : Does G w0 P s ρ m w v m') : OpDoes G w0 P (do pure (.value (← s))) ρ m w v m' := by
  obtain ⟨ρ', w', x, h1, h2, h3, h4⟩ := h
  exact ⟨ρ', w', .value x, x, by simp only [Sem.run_bind, h1, Result.andThen_ok, Sem.run_pure], .inl rfl, h2, h3, h4⟩

theorem evE_ok {C : Cx} {G : Nat → Nat} {w0 : World} (ok : C.Ok G w0) {ρ : Env} {t : T AV} {nt : Nat} {a : Act} (rt : RelT G ρ t nt a) {m m' : Mem} {w : World} (r : RelH G w0 ρ m.h m.n w) {o : Oper} {v : AV}
    (e : evE C t m o.op = some (v, m')) : OpDoes G w0 C.P (execOp a.eval o) ρ m w v m' := by
  obtain ⟨dst, op, type, pos, after, guard⟩ := o
  have unit : ∀ {s : Sem Unit} {q : Option Mem}, unitA q = some (v, m') → (∀ m1, q = some m1 → ∃ w', s.run C.P w = .ok () w' ∧ RelH G w0 ρ m1.h m1.n w' ∧ Fr ρ m.h w ρ m1.h w') →
      OpDoes G w0 C.P (do s; pure .skip) ρ m w v m' := fun h k => by
    obtain ⟨m1, h1, h2⟩ := bind_some h
    simp only [Option.some.injEq, Prod.mk.injEq] at h2
    obtain ⟨rfl, rfl⟩ := h2
    obtain ⟨w', r1, r2, r3⟩ := k _ h1
    exact ⟨ρ, w', .skip, .tuple #[], by simp only [Sem.run_bind, r1, Result.andThen_ok, Sem.run_pure], .inr ⟨rfl, rfl⟩, rfl, r2, r3⟩
  cases op <;> simp only [evE, reduceCtorEq] at e
  case alloc ty =>
    obtain ⟨z, h1, h2⟩ := bind_some e
    obtain ⟨x, hx, dz⟩ := zeroA_all h1
    obtain ⟨ρ', w', y, r1, r2⟩ := newVar_ok (P := C.P) r h2 (dz G ρ)
    show OpDoes G w0 C.P (do pure (.value (← Instr.alloc ty true (.tuple #[])))) ρ m w v m'
    refine Does.op (s := Instr.alloc ty true (.tuple #[])) ⟨ρ', w', y, ?_, r2⟩
    simp only [Instr.alloc, Sem.run_bind, hx, Result.andThen_ok]
    exact r1
  case box ty x =>
    obtain ⟨z, h1, h2⟩ := bind_some e
    show OpDoes G w0 C.P (do pure (.value (← Instr.box ty (a.eval x)))) ρ m w v m'
    exact Does.op (newVar_ok (P := C.P) r h2 (evO_ok ok rt h1))
  case buildSlice ty len parts =>
    obtain ⟨ps, h1, h2⟩ := bind_some e
    obtain ⟨ρ', w', x, r1, r2⟩ := buildSlice_ok (P := C.P) r h2 (evParts_ok ok rt h1)
    have lift : ∀ {s : Sem Value}, s.run C.P w = .ok x w' → (do pure (Next.value (← s)) : Sem Next).run C.P w = .ok (.value x) w' := fun hs => by simp only [Sem.run_bind, hs, Result.andThen_ok, Sem.run_pure]
    refine ⟨ρ', w', .value x, x, lift ?_, .inl rfl, r2⟩
    rw [← r1]
    congr 2
    apply Array.ext'
    simp
  case store ty x y =>
    obtain ⟨A, h1, h2⟩ := bind_some e
    obtain ⟨V, h3, h4⟩ := bind_some h2
    show OpDoes G w0 C.P (do Instr.storeAt ty (a.eval x) (a.eval y); pure .skip) ρ m w v m'
    exact unit (s := Instr.storeAt ty (a.eval x) (a.eval y)) h4 fun m1 hm => store_ok r hm (evO_ok ok rt h1) (evO_ok ok rt h3)
  case makeMap ty res =>
    cases res <;> simp only [reduceCtorEq] at e
    show OpDoes G w0 C.P (do pure (.value (← Instr.makeMap ty none))) ρ m w v m'
    exact Does.op (s := Instr.makeMap ty none) (makeMap_ok r e)
  case makeSlice ty l c =>
    obtain ⟨A, h1, h2⟩ := bind_some e
    obtain ⟨V, h3, h4⟩ := bind_some h2
    show OpDoes G w0 C.P (do pure (.value (← Instr.makeSlice ty (a.eval l) (a.eval c)))) ρ m w v m'
    exact Does.op (makeSlice_ok r h4 (evO_ok ok rt h1) (evO_ok ok rt h3))
  case mapUpdate ty x k y =>
    obtain ⟨A, h1, h2⟩ := bind_some e
    obtain ⟨K, h3, h4⟩ := bind_some h2
    obtain ⟨V, h5, h6⟩ := bind_some h4
    show OpDoes G w0 C.P (do Instr.mapUpdate ty (a.eval x) (a.eval k) (a.eval y); pure .skip) ρ m w v m'
    exact unit (s := Instr.mapUpdate ty (a.eval x) (a.eval k) (a.eval y)) h6 fun m1 hm => mapUpd_ok r hm (evO_ok ok rt h1) (evO_ok ok rt h3) (evO_ok ok rt h5)
  case insert ty x k y =>
    obtain ⟨A, h1, h2⟩ := bind_some e
    obtain ⟨K, h3, h4⟩ := bind_some h2
    obtain ⟨V, h5, h6⟩ := bind_some h4
    show OpDoes G w0 C.P (do Instr.mapUpdate ty (a.eval x) (a.eval k) (a.eval y); pure .skip) ρ m w v m'
    exact unit (s := Instr.mapUpdate ty (a.eval x) (a.eval k) (a.eval y)) h6 fun m1 hm => mapUpd_ok r hm (evO_ok ok rt h1) (evO_ok ok rt h3) (evO_ok ok rt h5)
  case convert s d x =>
    obtain ⟨A, h1, h2⟩ := bind_some e
    show OpDoes G w0 C.P (do pure (.value (← convert s d (a.eval x)))) ρ m w v m'
    exact Does.op (convB_ok r h2 (evO_ok ok rt h1))
  case call c =>
    obtain ⟨callee, args, argTypes⟩ := c
    cases callee <;> simp only [reduceCtorEq] at e
    rename_i bi
    have two : ∀ {x y : Operand}, args.toList = [x, y] → args.map a.eval = #[a.eval x, a.eval y] := fun h => by
      rw [list2 h]; simp
    have ty1 : ∀ {t0 : TypeId} {ts : List TypeId}, argTypes.toList = t0 :: ts → argTypes = (t0 :: ts).toArray := fun h => Array.ext' (by simpa using h)
    have lift : ∀ {b : Builtin} {s : Sem Value}, (∀ cs, builtin b argTypes type cs (args.map a.eval) = (do pure (.value (← s)))) → Does G w0 C.P s ρ m w v m' →
        OpDoes G w0 C.P (execOp a.eval ⟨dst, .call ⟨.builtin b, args, argTypes⟩, type, pos, after, guard⟩) ρ m w v m' := fun hb hd => by
      obtain ⟨ρ', w', nx, x, g1, g2⟩ := Does.op hd
      refine ⟨ρ', w', nx, x, ?_, g2⟩
      simp only [execOp, resolve, Sem.run_bind, Sem.run_pure, Result.andThen_ok, invoke, hb]
      simp only [Sem.run_bind, Sem.run_pure] at g1
      exact g1
    cases bi <;> simp only [reduceCtorEq] at e
    case append =>
      split at e
      · rename_i x y t0 t1 ts ha ht
        obtain ⟨A, h1, h2⟩ := bind_some e
        obtain ⟨B, h3, h4⟩ := bind_some h2
        have hd := append_ok (ts := ts) (ty := type) ok r h4 (evO_ok ok rt h1) (evO_ok ok rt h3)
        rw [← ty1 ht, ← two ha] at hd
        exact lift (fun _ => rfl) hd
      · cases e
    case copy =>
      split at e
      · rename_i x y t0 ts ha ht
        obtain ⟨A, h1, h2⟩ := bind_some e
        obtain ⟨B, h3, h4⟩ := bind_some h2
        have hd := copy_ok (ts := ts) (ty := type) r h4 (evO_ok ok rt h1) (evO_ok ok rt h3)
        rw [← ty1 ht, ← two ha] at hd
        exact lift (fun _ => rfl) hd
      · cases e
    case delete =>
      split at e
      · rename_i x y t0 ts ha ht
        obtain ⟨A, h1, h2⟩ := bind_some e
        obtain ⟨B, h3, h4⟩ := bind_some h2
        obtain ⟨m1, h5, h6⟩ := bind_some h4
        simp only [Option.some.injEq, Prod.mk.injEq] at h6
        obtain ⟨rfl, rfl⟩ := h6
        obtain ⟨w', r1, r2, r3⟩ := del_ok (ts := ts) (ty := type) r h5 (evO_ok ok rt h1) (evO_ok ok rt h3)
        rw [← ty1 ht, ← two ha] at r1
        exact lift (fun _ => rfl) ⟨ρ, w', _, r1, rfl, r2, r3⟩
      · cases e
    case unsafeSliceData =>
      split at e
      · rename_i x ha
        obtain ⟨A, h1, h2⟩ := bind_some e
        obtain ⟨B, h3, h4⟩ := bind_some h2
        simp only [Option.some.injEq, Prod.mk.injEq] at h4
        obtain ⟨rfl, rfl⟩ := h4
        obtain ⟨y, r1, r2⟩ := sliceData_ok (P := C.P) (w := w) (ts := argTypes) (ty := type) h3 (evO_ok ok rt h1)
        have e1 : args.map a.eval = #[a.eval x] := by rw [list1 ha]; simp
        rw [← e1] at r1
        exact lift (fun _ => rfl) ⟨ρ, w, y, r1, r2, r, Fr.refl _ _ _⟩
      · cases e
    case unsafeString =>
      split at e
      · rename_i x y t0 ts ha ht
        obtain ⟨A, h1, h2⟩ := bind_some e
        obtain ⟨B, h3, h4⟩ := bind_some h2
        have hd := strAt_ok (ts := ts) (ty := type) r h4 (evO_ok ok rt h1) (evO_ok ok rt h3)
        rw [← ty1 ht, ← two ha] at hd
        exact lift (fun _ => rfl) hd
      · cases e
end
end Go.Ev
