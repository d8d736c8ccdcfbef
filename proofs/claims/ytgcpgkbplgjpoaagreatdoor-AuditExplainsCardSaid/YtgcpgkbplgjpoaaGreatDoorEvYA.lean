/-
  A part of the evaluator for closed runs: proved once over any program.
-/
import Derived.Test.YtgcpgkbplgjpoaaGreatDoorEvY
import Derived.Recover
set_option linter.unusedVariables false
set_option linter.unusedSimpArgs false
namespace Go.Ev
noncomputable section

/-! ### Deferred calls: what a panic has come to -/
inductive PS where
  | no
  | pend (v : AV)
  | recd

def PS.settle : PS → PS
  | .recd => .no
  | p => p

def PSR (G : Nat → Nat) (ρ : Env) : PS → FrameMode → Prop
  | .no, u => u = .returning
  | .pend v, u => ∃ x, den G ρ v = some x ∧ u = .panicking (one x)
  | .recd, u => ∃ x, u = .panicking [{ v := x, recovered := true }]

theorem PSR.settle {G : Nat → Nat} {ρ : Env} {p : PS} {u : FrameMode} (h : PSR G ρ p u) : PSR G ρ p.settle (Go.settle u) := by
  cases p with
  | no => simp only [PSR] at h; subst h; rfl
  | pend v => obtain ⟨x, h1, rfl⟩ := h; exact ⟨x, h1, rfl⟩
  | recd => obtain ⟨x, rfl⟩ := h; rfl

theorem PSR.mono {G : Nat → Nat} {ρ ρ' : Env} (hl : ρ.le ρ') {p : PS} {u : FrameMode} (h : PSR G ρ p u) : PSR G ρ' p u := by
  cases p with
  | no => exact h
  | pend v => obtain ⟨x, h1, h2⟩ := h; exact ⟨x, den_mono hl h1, h2⟩
  | recd => exact h

theorem PSR.ne_run {G : Nat → Nat} {ρ : Env} {p : PS} {u : FrameMode} (h : PSR G ρ p u) : u ≠ .run := by
  cases p with
  | no => simp only [PSR] at h; subst h; simp
  | pend v => obtain ⟨x, h1, rfl⟩ := h; simp
  | recd => obtain ⟨x, rfl⟩ := h; simp

/-! ### The walk of a deferred call -/
theorem wpS_mono {P : Program} {c : Code} {Q Q' : Exit → Act → List Frame → World → Prop} {a : Act} {cs : List Frame} {w : World} (h : c.wpS P Q a cs w) (hq : ∀ e a cs w, Q e a cs w → Q' e a cs w) : c.wpS P Q' a cs w :=
  fun b k hb hr => let ⟨e, a', cs', w', q, r⟩ := h b k hb hr; ⟨e, a', cs', w', hq _ _ _ _ q, r⟩

theorem wpS_scope {P : Program} {c : Code} {Q : Exit → Act → List Frame → World → Prop} {a : Act} {cs : List Frame} {w : World} (h : c.wpS P (fun e a cs w => (∀ l, e ≠ .goto l) ∧ Q e a cs w) a cs w) : (Code.scope c).wpS P Q a cs w := by
  intro b k hb hr
  obtain ⟨e, a₁, cs₁, w₁, ⟨hg, hq⟩, harr⟩ := h b (.inScope c :: k) hb hr
  cases e with
  | normal => exact ⟨.normal, a₁, cs₁, w₁, hq, Arrives.of_steps (.one step_scope) (Steps.trans harr (.one step_inScope))⟩
  | exit id => exact ⟨.exit id, a₁, cs₁, w₁, hq, fun k' hk => .head step_scope (harr k' (by simp [exitTo, hk]))⟩
  | goto l => exact absurd rfl (hg l)
  | ret => exact ⟨_, a₁, cs₁, w₁, hq, .of_steps (.one step_scope) harr⟩
  | panic ch => exact ⟨_, a₁, cs₁, w₁, hq, .of_steps (.one step_scope) harr⟩
  | outgrown => exact ⟨.outgrown, a₁, cs₁, w₁, hq, harr.imp id (Outgrown.of_steps (.one step_scope))⟩

theorem upon_recover {P : Program} {o : Oper} {a : Act} {next : Act → World → Prop} {Q : Exit → Act → World → Prop} {w : World} (h : o.upon P a next Q (.ok .recover w)) : False := h

theorem wpOpsS_step {P : Program} {ops : Array Oper} {Q : Exit → Act → List Frame → World → Prop} {i : Nat} {rest : List Nat} {a : Act} {cs : List Frame} {w : World} {o : Oper} (ho : ops[i]? = some o) (hw : Region.wanted o (yielded ops a.tmps) = true)
    (h : o.wp P a w (fun a' w' => wpOpsS P ops Q rest a' cs w') (fun e a' w' => Q e a' cs w')) : wpOpsS P ops Q (i :: rest) a cs w := by
  simp only [wpOpsS, ho, hw, if_true]
  unfold Oper.wp at h
  split
  · rename_i w' hr; rw [hr] at h; exact (upon_recover h).elim
  · exact h

theorem wpOpsS_rec {P : Program} {ops : Array Oper} {Q : Exit → Act → List Frame → World → Prop} {i : Nat} {rest : List Nat} {a : Act} {cs cs' : List Frame} {w : World} {o : Oper} {x : Value} (ho : ops[i]? = some o) (hw : Region.wanted o (yielded ops a.tmps) = true)
    (hr : (execOp a.eval o).run P w = .ok .recover w) (hx : (recoverD cs = some (x, cs')) ∨ (recoverD cs = none ∧ x = .nilIface ∧ cs' = cs))
    (h : wpOpsS P ops Q rest (a.put o.dst x) cs' w) : wpOpsS P ops Q (i :: rest) a cs w := by
  simp only [wpOpsS, ho, hw, if_true, hr]
  rcases hx with hx | ⟨hx, rfl, rfl⟩
  · simp only [hx]; exact h
  · simp only [hx]; exact h

theorem wpOpsS_skip {P : Program} {ops : Array Oper} {Q : Exit → Act → List Frame → World → Prop} {i : Nat} {rest : List Nat} {a : Act} {cs : List Frame} {w : World} {o : Oper} (ho : ops[i]? = some o) (hw : Region.wanted o (yielded ops a.tmps) = false)
    (h : wpOpsS P ops Q rest (a.put o.dst undef) cs w) : wpOpsS P ops Q (i :: rest) a cs w := by
  simp only [wpOpsS, ho, hw, Bool.false_eq_true, if_false]
  exact h

def isRec (op : Op) : Bool :=
  match op with
  | .call c => match c.callee with
    | .builtin b => match b with
      | .recover => true
      | _ => false
    | _ => false
  | _ => false

theorem isRec_run {o : Oper} (h : isRec o.op = true) {P : Program} {f : Operand → Value} {w : World} : (execOp f o).run P w = .ok .recover w := by
  obtain ⟨dst, op, type, pos, after, guard⟩ := o
  simp only at h
  unfold isRec at h
  split at h
  · rename_i c
    obtain ⟨callee, cargs, ats⟩ := c
    simp only at h
    split at h
    · split at h
      · simp only [execOp, resolve, Sem.run_bind, Sem.run_pure, Result.andThen_ok, invoke, builtin]
      · cases h
    · cases h
  · cases h

def hasRec : List Oper → Bool
  | [] => false
  | o :: l => bif isRec o.op then true else hasRec l

abbrev CodeD := Option (Ex × PS × T AV × Mem)

def liftD (p : PS) : CodeR → CodeD
  | some (x, t, m) => some (x, p, t, m)
  | none => none

def evOpsS (C : Cx) (X : CallX) (nt : Nat) (ops : List Oper) : List Oper → PS → T AV → Mem → CodeD
  | [], p, t, m => some (.nrm, p, t, m)
  | o :: os, p, t, m => match wantA ops t o.guard with
    | some true => bif isRec o.op then (match p with
        | .pend v => match putT nt t o.dst v with
          | some t => evOpsS C X nt ops os .recd t m
          | none => none
        | .no => match putT nt t o.dst .nilI with
          | some t => evOpsS C X nt ops os .no t m
          | none => none
        | .recd => match putT nt t o.dst .nilI with
          | some t => evOpsS C X nt ops os .recd t m
          | none => none)
      else (match evOpX C X t m o.op with
        | some (true, v, m) => match putT nt t o.dst v with
          | some t => evOpsS C X nt ops os p t m
          | none => none
        | _ => none)
    | some false => match putT nt t o.dst (.tup []) with
      | some t => evOpsS C X nt ops os p t m
      | none => none
    | none => none

def evCD (C : Cx) (X : CallX) (dr : DrawF) (nt rounds : Nat) : Code → PS → T AV → Mem → CodeD
  | .seq x y, p, t, m => match evCD C X dr nt rounds x p t m with
    | some (.nrm, p, t, m) => evCD C X dr nt rounds y p t m
    | r => r
  | .cond c x y, p, t, m => match evO C t c with
    | some (.bool true) => evCD C X dr nt rounds x p t m
    | some (.bool false) => evCD C X dr nt rounds y p t m
    | _ => none
  | .scope x, p, t, m => evCD C X dr nt rounds x p t m
  | .region id ops draw, p, t, m => bif hasRec ops.toList then (bif draw then none else evOpsS C X nt ops.toList ops.toList p t m) else liftD p (evC C X dr nt rounds (.region id ops draw) t m)
  | .skip, p, t, m => liftD p (evC C X dr nt rounds .skip t m)
  | .label l, p, t, m => liftD p (evC C X dr nt rounds (.label l) t m)
  | .block id x, p, t, m => liftD p (evC C X dr nt rounds (.block id x) t m)
  | .loop x, p, t, m => liftD p (evC C X dr nt rounds (.loop x) t m)
  | .exit id, p, t, m => liftD p (evC C X dr nt rounds (.exit id) t m)
  | .ret, p, t, m => liftD p (evC C X dr nt rounds .ret t m)
  | _, _, _, _ => none

/-- What is known of a piece of code of a deferred call. -/
def CodeDOK (G : Nat → Nat) (w0 : World) (P : Program) (nt : Nat) (c : Code) (p : PS) (t : T AV) (m : Mem) (x : Ex) (p' : PS) (t' : T AV) (m' : Mem) : Prop :=
  ∀ ρ a w u (c₀ : Frame) cs, RelT G ρ t nt a → DefR P G ρ t a.defers → RelH G w0 ρ m.h m.n w → PSR G ρ p u →
    c.wpS P (fun e a' cs' w' => ∃ ρ' u', ExR G ρ' x e ∧ RelT G ρ' t' nt a' ∧ DefR P G ρ' t' a'.defers ∧ RelH G w0 ρ' m'.h m'.n w' ∧ Fr ρ m.h w ρ' m'.h w' ∧ PSR G ρ' p' u' ∧ cs' = { c₀ with mode := u' } :: cs) a ({ c₀ with mode := u } :: cs) w

theorem liftD_ok {G : Nat → Nat} {w0 : World} {P : Program} {nt : Nat} {c : Code} {p p' : PS} {t t' : T AV} {m m' : Mem} {x : Ex} {r : CodeR} (h : ∀ (x : Ex) (t' : T AV) (m' : Mem), r = some (x, t', m') → CodeOK G w0 P nt c t m x t' m') (e : liftD p r = some (x, p', t', m')) :
    CodeDOK G w0 P nt c p t m x p' t' m' := by
  cases r with
  | none => simp [liftD] at e
  | some q =>
    obtain ⟨y, s, n⟩ := q
    simp only [liftD, Option.some.injEq, Prod.mk.injEq] at e
    obtain ⟨rfl, rfl, rfl, rfl⟩ := e
    intro ρ a w u c₀ cs rt hd r hp
    exact wpS_of_wp (wp_mono (h _ _ _ rfl ρ a w rt hd r) fun e a' w' ⟨ρ', g1, g2, g3, g4, g5⟩ => ⟨ρ', u, g1, g2, g3, g4, g5, hp.mono g5.ext, rfl⟩)

theorem evOpsS_ok {C : Cx} {G : Nat → Nat} {w0 : World} (ok : C.Fine G w0) {X : CallX} (hX : XOK G w0 C.P X) {nt : Nat} (hnt : nt ≤ 1000000) {ops : Array Oper} {c₀ : Frame} {cs : List Frame} {Q : Exit → Act → List Frame → World → Prop} :
    ∀ (l : List Oper) (i : Nat), ops.toList.drop i = l → ∀ {ρ : Env} {p p' : PS} {t t' : T AV} {a : Act} {m m' : Mem} {w : World} {x : Ex} {u : FrameMode}, RelT G ρ t nt a → DefR C.P G ρ t a.defers → RelH G w0 ρ m.h m.n w → PSR G ρ p u → evOpsS C X nt ops.toList l p t m = some (x, p', t', m') →
    (∀ ρ' e a' w' u', ExR G ρ' x e → RelT G ρ' t' nt a' → DefR C.P G ρ' t' a'.defers → RelH G w0 ρ' m'.h m'.n w' → Fr ρ m.h w ρ' m'.h w' → PSR G ρ' p' u' → Q e a' ({ c₀ with mode := u' } :: cs) w') → wpOpsS C.P ops Q (List.range' i l.length) a ({ c₀ with mode := u } :: cs) w
  | [], i, hl, ρ, p, p', t, t', a, m, m', w, x, u, rt, hd, r, hp, e, k => by
    simp only [evOpsS, Option.some.injEq, Prod.mk.injEq] at e
    obtain ⟨rfl, rfl, rfl, rfl⟩ := e
    exact k ρ _ a w u rfl rt hd r (Fr.refl _ _ _) hp
  | o :: os, i, hl, ρ, p, p', t, t', a, m, m', w, x, u, rt, hd, r, hp, e, k => by
    have hi : ops[i]? = some o := by
      rw [← Array.getElem?_toList]
      have := congrArg (fun l => l[0]?) hl
      simpa using this
    have hl' : ops.toList.drop (i + 1) = os := by
      have := congrArg List.tail hl
      simpa using this
    simp only [List.length_cons, List.range'_succ]
    simp only [evOpsS] at e
    cases hw : wantA ops.toList t o.guard with
    | none => simp [hw] at e
    | some b =>
      have hwant := wantA_ok rt rt.size hw
      cases b with
      | true =>
        simp only [hw] at e
        cases hrec : isRec o.op with
        | true =>
          simp only [hrec, cond_true] at e
          have hrun := fun w => isRec_run hrec (P := C.P) (f := a.eval) (w := w)
          cases p with
          | pend v =>
            obtain ⟨y, hy, rfl⟩ := hp
            simp only at e
            cases hpt : putT nt t o.dst v with
            | none => simp [hpt] at e
            | some t1 =>
              simp only [hpt] at e
              refine wpOpsS_rec hi hwant (hrun w) (x := y) (cs' := { c₀ with mode := .panicking [{ v := y, recovered := true }] } :: cs) (.inl rfl) ?_
              exact evOpsS_ok ok hX hnt os (i + 1) hl' (putT_ok hnt rt hpt hy) (by rw [put_defers]; exact hd.putT hnt hpt) r (p := .recd) ⟨y, rfl⟩ e k
          | no =>
            simp only [PSR] at hp; subst hp
            simp only at e
            cases hpt : putT nt t o.dst .nilI with
            | none => simp [hpt] at e
            | some t1 =>
              simp only [hpt] at e
              refine wpOpsS_rec hi hwant (hrun w) (x := .nilIface) (.inr ⟨rfl, rfl, rfl⟩) ?_
              exact evOpsS_ok ok hX hnt os (i + 1) hl' (putT_ok hnt rt hpt rfl) (by rw [put_defers]; exact hd.putT hnt hpt) r (p := .no) rfl e k
          | recd =>
            obtain ⟨y, rfl⟩ := hp
            simp only at e
            cases hpt : putT nt t o.dst .nilI with
            | none => simp [hpt] at e
            | some t1 =>
              simp only [hpt] at e
              refine wpOpsS_rec hi hwant (hrun w) (x := .nilIface) (.inr ⟨rfl, rfl, rfl⟩) ?_
              exact evOpsS_ok ok hX hnt os (i + 1) hl' (putT_ok hnt rt hpt rfl) (by rw [put_defers]; exact hd.putT hnt hpt) r (p := .recd) ⟨y, rfl⟩ e k
        | false =>
          simp only [hrec, cond_false] at e
          cases ho : evOpX C X t m o.op with
          | none => simp [ho] at e
          | some vm =>
            obtain ⟨b, v, m1⟩ := vm
            cases b with
            | false => simp [ho] at e
            | true =>
              simp only [ho] at e
              cases hpt : putT nt t o.dst v with
              | none => simp [hpt] at e
              | some t1 =>
                simp only [hpt] at e
                refine wpOpsS_step hi hwant ?_
                refine evOp_wp ok hX.calls rt r (evOpX_ret ho) fun ρ1 w1 x dx r1 f1 => ?_
                exact evOpsS_ok ok hX hnt os (i + 1) hl' (putT_ok hnt (rt.mono f1.ext) hpt dx) (by rw [put_defers]; exact (hd.mono f1.ext).putT hnt hpt) r1 (hp.mono f1.ext) e fun ρ2 e2 a2 w2 u2 he2 rt2 hd2 r2 f2 hp2 => k ρ2 e2 a2 w2 u2 he2 rt2 hd2 r2 (f1.trans f2) hp2
      | false =>
        simp only [hw] at e
        cases hpt : putT nt t o.dst (.tup []) with
        | none => simp [hpt] at e
        | some t1 =>
          simp only [hpt] at e
          refine wpOpsS_skip hi hwant ?_
          exact evOpsS_ok ok hX hnt os (i + 1) hl' (putT_ok hnt rt hpt (x := undef) rfl) (by rw [put_defers]; exact hd.putT hnt hpt) r hp e k

theorem evCD_ok {C : Cx} {G : Nat → Nat} {w0 : World} (ok : C.Fine G w0) {X : CallX} (hX : XOK G w0 C.P X) {nt rounds : Nat} (hnt : nt ≤ 1000000) {dr : DrawF} (hdr : DrawOK G w0 C.P nt dr) :
    ∀ (c : Code) {p p' : PS} {t t' : T AV} {m m' : Mem} {x : Ex}, evCD C X dr nt rounds c p t m = some (x, p', t', m') → CodeDOK G w0 C.P nt c p t m x p' t' m' := by
  intro c
  induction c with
  | seq y z ih1 ih2 =>
    intro p p' t t' m m' x e ρ a w u c₀ cs rt hd r hp
    simp only [evCD] at e
    cases h : evCD C X dr nt rounds y p t m with
    | none => simp [h] at e
    | some res =>
      obtain ⟨x1, p1, t1, m1⟩ := res
      refine wpS_seq (wpS_mono (ih1 h ρ a w u c₀ cs rt hd r hp) fun ex a1 cs1 w1 hh => ?_)
      obtain ⟨ρ1, u1, he, h1, h2, h3, h4, h5, rfl⟩ := hh
      have he' := he
      cases x1 with
      | nrm =>
        simp only [ExR] at he; subst he
        simp only [h] at e
        exact wpS_mono (ih2 e ρ1 a1 w1 u1 c₀ cs h1 h2 h3 h5) fun e a2 cs2 w2 ⟨ρ2, u2, he, g1, g2, g3, g4, g5, g6⟩ => ⟨ρ2, u2, he, g1, g2, g3, h4.trans g4, g5, g6⟩
      | exit id =>
        simp only [h, Option.some.injEq, Prod.mk.injEq] at e
        obtain ⟨rfl, rfl, rfl, rfl⟩ := e
        simp only [ExR] at he; subst he
        exact ⟨ρ1, u1, he', h1, h2, h3, h4, h5, rfl⟩
      | ret =>
        simp only [h, Option.some.injEq, Prod.mk.injEq] at e
        obtain ⟨rfl, rfl, rfl, rfl⟩ := e
        simp only [ExR] at he; subst he
        exact ⟨ρ1, u1, he', h1, h2, h3, h4, h5, rfl⟩
      | pan v =>
        simp only [h, Option.some.injEq, Prod.mk.injEq] at e
        obtain ⟨rfl, rfl, rfl, rfl⟩ := e
        obtain ⟨y, hy, rfl⟩ := he
        exact ⟨ρ1, u1, he', h1, h2, h3, h4, h5, rfl⟩
  | cond c y z ih1 ih2 =>
    intro p p' t t' m m' x e ρ a w u c₀ cs rt hd r hp
    simp only [evCD] at e
    cases h : evO C t c with
    | none => simp [h] at e
    | some v =>
      have dv := evO_ok ok.toOk rt h
      cases v <;> simp only [h, reduceCtorEq] at e
      rename_i b
      simp only [den, Option.some.injEq] at dv
      cases b with
      | true => exact wpS_cond dv.symm (ih1 e ρ a w u c₀ cs rt hd r hp)
      | false => exact wpS_cond dv.symm (ih2 e ρ a w u c₀ cs rt hd r hp)
  | scope y ih =>
    intro p p' t t' m m' x e ρ a w u c₀ cs rt hd r hp
    simp only [evCD] at e
    refine wpS_scope (wpS_mono (ih e ρ a w u c₀ cs rt hd r hp) fun e a1 cs1 w1 hh => ⟨fun l he => ?_, hh⟩)
    subst he
    obtain ⟨ρ1, u1, he, _⟩ := hh
    cases x <;> simp [ExR] at he
  | region id ops draw =>
    intro p p' t t' m m' x e
    simp only [evCD] at e
    cases hr : hasRec ops.toList with
    | false =>
      simp only [hr, cond_false] at e
      exact liftD_ok (fun _ _ _ h => evC_ok ok hX hnt hdr _ h) e
    | true =>
      simp only [hr, cond_true] at e
      cases draw with
      | true => simp at e
      | false =>
        simp only [cond_false] at e
        intro ρ a w u c₀ cs rt hd r hp
        refine wpS_region ?_
        have := evOpsS_ok ok hX hnt (c₀ := c₀) (cs := cs) (Q := fun e a' cs' w' => ∃ ρ' u', ExR G ρ' x e ∧ RelT G ρ' t' nt a' ∧ DefR C.P G ρ' t' a'.defers ∧ RelH G w0 ρ' m'.h m'.n w' ∧ Fr ρ m.h w ρ' m'.h w' ∧ PSR G ρ' p' u' ∧ cs' = { c₀ with mode := u' } :: cs) ops.toList 0 (by simp) rt hd r hp e fun ρ' e a' w' u' h0 h1 h2 h3 h4 h5 => ⟨ρ', u', h0, h1, h2, h3, h4, h5, rfl⟩
        rw [← List.range_eq_range'] at this
        simpa using this
  | skip => intro p p' t t' m m' x e; simp only [evCD] at e; exact liftD_ok (fun _ _ _ h => evC_ok ok hX hnt hdr _ h) e
  | label l => intro p p' t t' m m' x e; simp only [evCD] at e; exact liftD_ok (fun _ _ _ h => evC_ok ok hX hnt hdr _ h) e
  | block id y _ => intro p p' t t' m m' x e; simp only [evCD] at e; exact liftD_ok (fun _ _ _ h => evC_ok ok hX hnt hdr _ h) e
  | loop y _ => intro p p' t t' m m' x e; simp only [evCD] at e; exact liftD_ok (fun _ _ _ h => evC_ok ok hX hnt hdr _ h) e
  | exit id => intro p p' t t' m m' x e; simp only [evCD] at e; exact liftD_ok (fun _ _ _ h => evC_ok ok hX hnt hdr _ h) e
  | ret => intro p p' t t' m m' x e; simp only [evCD] at e; exact liftD_ok (fun _ _ _ h => evC_ok ok hX hnt hdr _ h) e
  | rangeFunc f ps as bd _ _ => intro p p' t t' m m' x e; simp [evCD] at e
  | goto l => intro p p' t t' m m' x e; simp [evCD] at e
  | refuse s => intro p p' t t' m m' x e; simp [evCD] at e

/-! ### A deferred call -/
abbrev CallDF := FuncId → List AV → PS → Mem → Option (PS × Mem)

def endD (C : Cx) (rs : List ResultVar) : CodeD → Option (PS × Mem)
  | some (x, p, t, m) => match x with
    | .exit _ => none
    | .pan _ => none
    | _ => match dlist (T.get .h t) with
      | [] => match resE C rs t m with
        | some _ => some (p, m)
        | none => none
      | _ => none
  | none => none

def callD (C : Cx) (X : CallX) (rounds : Nat) : CallDF := fun g args p m =>
  match fnOf C.P g with
  | some (fn, c) => bif Nat.ble fn.ntmps 1000000 then (bif Nat.ble args.length fn.ntmps then
      argsA args 0 .leaf fun t => endD C fn.results.toList (evCD C X (drawH C (retX X) fn.ntmps g) fn.ntmps rounds c p t m) else none) else none
  | none => none

theorem args_h : ∀ {l : List AV} {i : Nat} {t : T AV}, i + l.length ≤ 1000000 → T.get .h (l.foldl (fun (p : Nat × T AV) v => (p.1 + 1, T.put (Key.slot p.1) (some v) p.2)) (i, t)).2 = T.get .h t
  | [], i, t, h => rfl
  | a :: l, i, t, h => by
    simp only [List.foldl_cons]
    simp only [List.length_cons] at h
    rw [args_h (by omega), T.get_put, if_neg]
    exact fun e => Key.slot_ne_h (by omega) e.symm

def CallsDOK (G : Nat → Nat) (w0 : World) (P : Program) (D : CallDF) : Prop := ∀ g args p m p' m', D g args p m = some (p', m') → (fnOf P g).isSome = true ∧
  ∀ ρ w xs u, denL G ρ args = some xs → PSR G ρ p u → RelH G w0 ρ m.h m.n w → CallsD P g xs.toArray u w fun e u' w' => (∃ v, e = .returned v) ∧ ∃ ρ', PSR G ρ' p' u' ∧ RelH G w0 ρ' m'.h m'.n w' ∧ Fr ρ m.h w ρ' m'.h w'

theorem callD_ok {C : Cx} {G : Nat → Nat} {w0 : World} (ok : C.Fine G w0) {X : CallX} (hX : XOK G w0 C.P X) {rounds : Nat} : CallsDOK G w0 C.P (callD C X rounds) := by
  intro g args p m p' m' h
  unfold callD at h
  cases hf : fnOf C.P g with
  | none => simp [hf] at h
  | some fc =>
    obtain ⟨fn, c⟩ := fc
    refine ⟨rfl, fun ρ w xs u dx hp r => ?_⟩
    simp only [hf] at h
    obtain ⟨h1, h⟩ := cond_some h
    obtain ⟨h2, h⟩ := cond_some h
    rw [argsA_eq] at h
    have hnt : fn.ntmps ≤ 1000000 := Nat.le_of_ble_eq_true h1
    have hl : args.length ≤ fn.ntmps := Nat.le_of_ble_eq_true h2
    obtain ⟨g1, g2⟩ := fnOf_ok hf
    refine callsD_of_wpS g1 g2 fun c₀ cs hu => ?_
    have hc₀ : ({ c₀ with mode := u } : Frame) = c₀ := by subst hu; rfl
    have rt := args_rel hnt hl dx
    have hh := args_h (l := args) (i := 0) (t := .leaf) (by omega)
    generalize (args.foldl (fun (p : Nat × T AV) v => (p.1 + 1, T.put (Key.slot p.1) (some v) p.2)) (0, .leaf)).2 = t at h rt hh
    cases hc : evCD C X (drawH C (retX X) fn.ntmps g) fn.ntmps rounds c p t m with
    | none => simp [hc, endD] at h
    | some res =>
      obtain ⟨x, p1, t', m1⟩ := res
      rw [hc] at h
      have hdef : DefR C.P G ρ t ([] : List Deferred) := by
        unfold DefR; rw [hh, T.get_leaf]; exact .nil
      have key := evCD_ok ok hX hnt (drawH_ok ok hX.calls hnt) c hc ρ { tmps := xs.toArray ++ Array.replicate (fn.ntmps - xs.toArray.size) undef, defers := [] } w u c₀ cs rt hdef r hp
      rw [hc₀] at key
      have hx : x = .nrm ∨ x = .ret := by cases x <;> simp [endD] at h ⊢
      have h' : (match dlist (T.get .h t') with
          | [] => match resE C fn.results.toList t' m1 with
            | some _ => some (p1, m1)
            | none => none
          | _ => none) = some (p', m') := by rcases hx with rfl | rfl <;> exact h
      cases hdl : dlist (T.get .h t') with
      | cons _ _ => simp [hdl] at h'
      | nil =>
        simp only [hdl] at h'
        cases hre : resE C fn.results.toList t' m1 with
        | none => simp [hre] at h'
        | some vm =>
          obtain ⟨v, m2⟩ := vm
          simp only [hre, Option.some.injEq, Prod.mk.injEq] at h'
          obtain ⟨rfl, rfl⟩ := h'
          obtain ⟨rfl, hres⟩ := resE_ok (G := G) (w0 := w0) ok.toOk hre
          refine wpS_mono key fun e a' cs' w' ⟨ρ', u', he, k1, k2, k3, k4, k5, k6⟩ => ?_
          obtain ⟨y, dy, hy⟩ := hres k1 k3
          have hdd : a'.defers = [] := by
            unfold DefR at k2
            rw [hdl] at k2
            generalize a'.defers = q at k2
            cases k2
            rfl
          rcases hx with rfl | rfl
          · simp only [ExR] at he; subst he
            exact ⟨hdd, u', k6, y, hy, ⟨y, rfl⟩, ρ', k5, k3, k4⟩
          · simp only [ExR] at he; subst he
            exact ⟨hdd, u', k6, y, hy, ⟨y, rfl⟩, ρ', k5, k3, k4⟩

/-- The deferred calls, the last one first. -/
def evDefers (D : CallDF) : List AV → PS → Mem → Option (PS × Mem)
  | [], p, m => some (p, m)
  | .fn g args cap :: l, p, m => fL (args ++ cap) fun as => match D g as p m with
    | some (p, m) => evDefers D l p.settle m
    | none => none
  | _ :: _, _, _ => none

theorem evDefers_ok {C : Cx} {G : Nat → Nat} {w0 : World} (ok : C.Fine G w0) {D : CallDF} (hD : CallsDOK G w0 C.P D) {fn : Func} {tmps : Array Value} {R : Ending → World → Prop} :
    ∀ {l : List AV} {ds : List Deferred} {p p' : PS} {m m' : Mem} {ρ : Env} {w : World} {u : FrameMode}, DefL C.P G ρ l ds → PSR G ρ p u → RelH G w0 ρ m.h m.n w → evDefers D l p m = some (p', m') →
    (∀ ρ' u' w', PSR G ρ' p' u' → RelH G w0 ρ' m'.h m'.n w' → Fr ρ m.h w ρ' m'.h w' → Leaves C.P fn tmps R [] u' w') → Leaves C.P fn tmps R ds u w := by
  intro l
  induction l with
  | nil =>
    intro ds p p' m m' ρ w u hd hp r e k
    cases hd
    simp only [evDefers, Option.some.injEq, Prod.mk.injEq] at e
    obtain ⟨rfl, rfl⟩ := e
    exact k ρ u w hp r (Fr.refl _ _ _)
  | cons v l ih =>
    intro ds p p' m m' ρ w u hd hp r e k
    cases hd with
    | cons h1 h2 hd =>
      rename_i g args cap xs ys ds
      simp only [evDefers, fL_eq] at e
      cases hc : D g (args ++ cap) p m with
      | none => simp [hc] at e
      | some q =>
        obtain ⟨p1, m1⟩ := q
        simp only [hc] at e
        obtain ⟨hf, hcall⟩ := hD _ _ _ _ _ _ hc
        cases hfn : fnOf C.P g with
        | none => simp [hfn] at hf
        | some fc =>
          obtain ⟨fn', cd⟩ := fc
          obtain ⟨g1, g2⟩ := fnOf_ok hfn
          have hname : fn'.name ≠ "runtime.NumGoroutine" := by simpa using ok.name g fn' g1
          have henter : (invoke (.fn (.func g) ys.toArray) xs.toArray).run C.P w = .ok (.enter g (xs ++ ys).toArray) w := by
            simp [invoke, callFunc, g1, hname, g2]
          refine leaves_cons hp.ne_run henter ((hcall ρ w _ u (denL_append h1 h2) hp r).mono fun e u' w' ⟨⟨y, hy⟩, ρ', k1, k2, k3⟩ => ?_)
          subst hy
          exact ih (hd.mono k3.ext) k1.settle k2 e fun ρ2 u2 w2 j1 j2 j3 => k ρ2 u2 w2 j1 j2 (k3.trans j3)

/-! ### Calls -/
def resX (C : Cx) (rs : List ResultVar) (t : T AV) (m : Mem) : Option (Bool × AV × Mem) :=
  match resE C rs t m with
  | some (v, m) => some (true, v, m)
  | none => none

def endX (C : Cx) (rs : List ResultVar) (D : CallDF) : CodeR → Option (Bool × AV × Mem)
  | some (x, t, m) => match x with
    | .exit _ => none
    | .pan v => match evDefers D (dlist (T.get .h t)) (.pend v) m with
      | some (p, m) => match p with
        | .no => resX C rs t m
        | .pend v => some (false, v, m)
        | .recd => none
      | none => none
    | _ => match evDefers D (dlist (T.get .h t)) .no m with
      | some (p, m) => match p with
        | .no => resX C rs t m
        | _ => none
      | none => none
  | none => none

def evCall (C : Cx) (rounds : Nat) : Nat → CallX
  | 0, _, _, _ => none
  | d + 1, f, args, m => match fnOf C.P f with
    | some (fn, c) => bif Nat.ble fn.ntmps 1000000 then (bif Nat.ble args.length fn.ntmps then
        argsA args 0 .leaf fun t => endX C fn.results.toList (callD C (evCall C rounds d) rounds) (evC C (evCall C rounds d) (drawH C (retX (evCall C rounds d)) fn.ntmps f) fn.ntmps rounds c t m) else none) else none
    | none => none

def endOf (b : Bool) (x : Value) : Ending :=
  match b with
  | true => .returned x
  | false => .panicked (one x)

theorem resX_ok {C : Cx} {G : Nat → Nat} {w0 : World} (ok : C.Ok G w0) {fn : Func} {t : T AV} {m m' : Mem} {b : Bool} {v : AV} (e : resX C fn.results.toList t m = some (b, v, m')) :
    b = true ∧ m' = m ∧ ∀ {ρ : Env} {nt : Nat} {a : Act} {w : World}, RelT G ρ t nt a → RelH G w0 ρ m.h m.n w → ∃ y, den G ρ v = some y ∧ (results fn a.tmps).run C.P w = .ok y w := by
  unfold resX at e
  cases h : resE C fn.results.toList t m with
  | none => simp [h] at e
  | some q =>
    obtain ⟨u, m1⟩ := q
    simp only [h, Option.some.injEq, Prod.mk.injEq] at e
    obtain ⟨rfl, rfl, rfl⟩ := e
    obtain ⟨h1, h2⟩ := resE_ok (G := G) (w0 := w0) ok h
    exact ⟨rfl, h1, h2⟩

def AnyOK (G : Nat → Nat) (w0 : World) (P : Program) (f : FuncId) (args : List AV) (m : Mem) (b : Bool) (v : AV) (m' : Mem) : Prop :=
  ∀ ρ w xs, denL G ρ args = some xs → RelH G w0 ρ m.h m.n w → Calls P f xs.toArray w fun e w' => ∃ ρ' x, e = endOf b x ∧ den G ρ' v = some x ∧ RelH G w0 ρ' m'.h m'.n w' ∧ Fr ρ m.h w ρ' m'.h w'

theorem XOK.of {G : Nat → Nat} {w0 : World} {P : Program} {X : CallX} (h : ∀ f args m b v m', X f args m = some (b, v, m') → AnyOK G w0 P f args m b v m') : XOK G w0 P X :=
  ⟨fun f args m v m' e => h f args m true v m' e, fun f args m v m' e => h f args m false v m' e⟩

theorem evCall_ok {C : Cx} {G : Nat → Nat} {w0 : World} (ok : C.Fine G w0) {rounds : Nat} : ∀ d, XOK G w0 C.P (evCall C rounds d)
  | 0 => .of fun f args m b v m' h => by simp [evCall] at h
  | d + 1 => .of fun f args m b v m' h ρ w xs dx r => by
    simp only [evCall] at h
    cases hf : fnOf C.P f with
    | none => simp [hf] at h
    | some fc =>
      obtain ⟨fn, c⟩ := fc
      simp only [hf] at h
      obtain ⟨h1, h⟩ := cond_some h
      obtain ⟨h2, h⟩ := cond_some h
      rw [argsA_eq] at h
      have hnt : fn.ntmps ≤ 1000000 := Nat.le_of_ble_eq_true h1
      have hl : args.length ≤ fn.ntmps := Nat.le_of_ble_eq_true h2
      obtain ⟨g1, g2⟩ := fnOf_ok hf
      refine calls_of_wp_defers g1 g2 ?_
      have rt := args_rel hnt hl dx
      have hh := args_h (l := args) (i := 0) (t := .leaf) (by omega)
      generalize (args.foldl (fun (p : Nat × T AV) v => (p.1 + 1, T.put (Key.slot p.1) (some v) p.2)) (0, .leaf)).2 = t at h rt hh
      have ih := evCall_ok ok (rounds := rounds) d
      have hD := callD_ok ok ih (rounds := rounds)
      cases hc : evC C (evCall C rounds d) (drawH C (retX (evCall C rounds d)) fn.ntmps f) fn.ntmps rounds c t m with
      | none => simp [hc, endX] at h
      | some res =>
        obtain ⟨x, t', m1⟩ := res
        rw [hc] at h
        have hdef : DefR C.P G ρ t ([] : List Deferred) := by
          unfold DefR; rw [hh, T.get_leaf]; exact .nil
        have := evC_ok ok ih hnt (drawH_ok ok ih.calls hnt) c hc ρ _ w rt hdef r
        refine wp_mono this fun e a' w' ⟨ρ', he, k1, k2, k3, k4⟩ => ?_
        have fin : ∀ p m2, resX C fn.results.toList t' m2 = some (b, v, m') → p = PS.no → ∀ ρ2 u2 w2, PSR G ρ2 p u2 → RelH G w0 ρ2 m2.h m2.n w2 → Fr ρ' m1.h w' ρ2 m2.h w2 →
            Leaves C.P fn a'.tmps (fun e w' => ∃ ρ' x, e = endOf b x ∧ den G ρ' v = some x ∧ RelH G w0 ρ' m'.h m'.n w' ∧ Fr ρ m.h w ρ' m'.h w') [] u2 w2 := by
          intro p m2 hr hp ρ2 u2 w2 j1 j2 j3
          subst hp
          simp only [PSR] at j1; subst j1
          obtain ⟨rfl, rfl, hres⟩ := resX_ok (G := G) (w0 := w0) ok.toOk hr
          obtain ⟨y, dy, hy⟩ := hres (k1.mono j3.ext) j2
          exact ⟨y, hy, ρ2, y, rfl, dy, j2, k4.trans j3⟩
        cases x with
        | exit id => simp [endX] at h
        | nrm =>
          simp only [ExR] at he; subst he
          simp only [endX] at h
          cases hde : evDefers (callD C (evCall C rounds d) rounds) (dlist (T.get .h t')) .no m1 with
          | none => simp [hde] at h
          | some q =>
            obtain ⟨p, m2⟩ := q
            cases p <;> simp only [hde, reduceCtorEq] at h
            exact evDefers_ok ok hD k2 (p := .no) rfl k3 hde (fin _ _ h rfl)
        | ret =>
          simp only [ExR] at he; subst he
          simp only [endX] at h
          cases hde : evDefers (callD C (evCall C rounds d) rounds) (dlist (T.get .h t')) .no m1 with
          | none => simp [hde] at h
          | some q =>
            obtain ⟨p, m2⟩ := q
            cases p <;> simp only [hde, reduceCtorEq] at h
            exact evDefers_ok ok hD k2 (p := .no) rfl k3 hde (fin _ _ h rfl)
        | pan v0 =>
          obtain ⟨y0, hy0, rfl⟩ := he
          simp only [endX] at h
          cases hde : evDefers (callD C (evCall C rounds d) rounds) (dlist (T.get .h t')) (.pend v0) m1 with
          | none => simp [hde] at h
          | some q =>
            obtain ⟨p, m2⟩ := q
            cases p <;> simp only [hde, reduceCtorEq] at h
            case no => exact evDefers_ok ok hD k2 (p := .pend v0) ⟨y0, hy0, rfl⟩ k3 hde (fin _ _ h rfl)
            case pend v1 =>
              simp only [Option.some.injEq, Prod.mk.injEq] at h
              obtain ⟨rfl, rfl, rfl⟩ := h
              refine evDefers_ok ok hD k2 (p := .pend v0) ⟨y0, hy0, rfl⟩ k3 hde fun ρ2 u2 w2 j1 j2 j3 => ?_
              obtain ⟨z, hz, rfl⟩ := j1
              exact ⟨ρ2, z, rfl, hz, j2, k4.trans j3⟩
end
end Go.Ev
