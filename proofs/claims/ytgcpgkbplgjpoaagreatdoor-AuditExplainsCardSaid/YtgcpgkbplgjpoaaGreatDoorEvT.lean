/-
  A part of the evaluator for closed runs: proved once over any program.
-/
import Derived.Test.YtgcpgkbplgjpoaaGreatDoorEvS
set_option linter.unusedVariables false
set_option linter.unusedSimpArgs false
namespace Go.Ev
noncomputable section

theorem RelT.mono {G : Nat → Nat} {ρ ρ' : Env} {t : T AV} {nt : Nat} {a : Act} (r : RelT G ρ t nt a) (h : ρ.le ρ') : RelT G ρ' t nt a := ⟨fun i v hi e => den_mono h (r.get i v hi e), r.size⟩

def putT (nt : Nat) (t : T AV) (dst : Option Tmp) (v : AV) : Option (T AV) :=
  match dst with
  | none => some t
  | some d => bif Nat.blt d nt then T.putK (Key.slot d) (some v) t some else none

theorem putT_ok {G : Nat → Nat} {ρ : Env} {t t' : T AV} {nt : Nat} {a : Act} (hnt : nt ≤ 1000000) (r : RelT G ρ t nt a) {dst : Option Tmp} {v : AV} {x : Value} (h : putT nt t dst v = some t') (d : den G ρ v = some x) :
    RelT G ρ t' nt (a.put dst x) := by
  cases dst with
  | none => simp [putT] at h; subst h; exact r
  | some k =>
    simp only [putT] at h
    obtain ⟨hk, h⟩ := cond_some h
    rw [nblt, decide_eq_true_iff] at hk
    simp only [T.putK_eq, Option.some.injEq] at h; subst h
    have hsz := r.size
    refine ⟨fun i u hi e => ?_, by simpa [Act.put] using r.size⟩
    rw [T.get_put] at e
    by_cases c : Key.slot i = Key.slot k
    · rw [if_pos c] at e
      obtain rfl := Key.slot_inj hi (by omega) c
      simp at e; subst e
      rw [d]
      simp [Act.put, Nat.lt_of_lt_of_le hk hsz]
    · rw [if_neg c] at e
      have hne : k ≠ i := fun e => c (by rw [e])
      rw [r.get i u hi e]
      simp [Act.put, Array.getElem?_setIfInBounds_ne hne]

def wantA (ops : List Oper) (t : T AV) (g : Option (Nat × Bool)) : Option Bool :=
  match g with
  | none => some true
  | some (j, b) => match nth ops j with
    | some o => match o.dst with
      | some d => bif Nat.blt d 1000000 then (match T.get (Key.slot d) t with
        | some (.bool c) => fB (bif b then c else !c) some
        | some (.tup []) => some false
        | _ => none) else none
      | none => none
    | none => none

theorem wantA_ok {G : Nat → Nat} {ρ : Env} {t : T AV} {nt : Nat} {a : Act} (r : RelT G ρ t nt a) (hs : nt ≤ a.tmps.size) {ops : Array Oper} {o : Oper} {b : Bool} (h : wantA ops.toList t o.guard = some b) : Region.wanted o (yielded ops a.tmps) = b := by
  unfold Region.wanted
  cases hg : o.guard with
  | none => simp [hg, wantA] at h; subst h; rfl
  | some jb =>
    obtain ⟨j, w⟩ := jb
    show (yielded ops a.tmps j == some w) = b
    simp only [hg, wantA, nth_eq] at h
    cases ho : ops.toList[j]? with
    | none => simp [ho] at h
    | some oj =>
      cases hd : oj.dst with
      | none => simp [ho, hd] at h
      | some d =>
        simp only [ho, hd] at h
        obtain ⟨hl, h⟩ := cond_some h
        rw [nblt, decide_eq_true_iff] at hl
        have ho' : ops[j]? = some oj := by rw [← Array.getElem?_toList]; exact ho
        cases hv : T.get (Key.slot d) t with
        | none => simp [hv] at h
        | some v =>
          have dv := r.get d v hl hv
          have hy : ∀ x, a.tmps.getD d undef = x → (∀ c, x ≠ .bool c) → yielded ops a.tmps j = none := fun x hx hn => by
            unfold yielded
            simp only [ho', Option.bind_some, hd]
            cases hh : a.tmps[d]? with
            | none => rfl
            | some z =>
              have : a.tmps.getD d undef = z := by simp [hh]
              rw [this] at hx; subst hx
              cases z <;> first | rfl | exact absurd rfl (hn _)
          cases v <;> simp only [hv, reduceCtorEq] at h
          case bool c =>
            simp only [fB_eq, Option.some.injEq] at h
            simp only [den, Option.some.injEq] at dv
            have : yielded ops a.tmps j = some c := by
              unfold yielded
              simp only [ho', Option.bind_some, hd]
              cases hh : a.tmps[d]? with
              | none =>
                have : a.tmps.getD d undef = undef := by simp [hh]
                rw [this] at dv; cases dv
              | some z =>
                have : a.tmps.getD d undef = z := by simp [hh]
                rw [this] at dv; subst dv; rfl
            rw [this, ← h]
            cases w <;> cases c <;> rfl
          case tup l =>
            cases l with
            | cons _ _ => simp at h
            | nil =>
              simp only [Option.some.injEq] at h; subst h
              simp only [den, denL, Option.some.injEq] at dv
              rw [hy _ rfl (by rw [← dv]; simp)]
              rfl

theorem isCall_some {op : Op} {c : Call} (h : isCall op = some c) : op = .call c ∧ ∃ f, c.callee = .value f := by
  cases op <;> simp only [isCall, reduceCtorEq] at h
  rename_i d
  split at h
  · rename_i f hf
    simp at h; subst h
    exact ⟨rfl, f, hf⟩
  · cases h

/-- One operation, in the walk's words. -/
theorem evOp_wp {C : Cx} {G : Nat → Nat} {w0 : World} (ok : C.Fine G w0) {call : CallF} (hc : CallsOK G w0 C.P call) {ρ : Env} {t : T AV} {nt : Nat} {a : Act} (rt : RelT G ρ t nt a) {m m' : Mem} {w : World} (r : RelH G w0 ρ m.h m.n w)
    {o : Oper} {v : AV} (e : evOp C call t m o.op = some (v, m')) {next : Act → World → Prop} {Q : Exit → Act → World → Prop}
    (k : ∀ ρ' w' x, den G ρ' v = some x → RelH G w0 ρ' m'.h m'.n w' → Fr ρ m.h w ρ' m'.h w' → next (a.put o.dst x) w') : o.wp C.P a w next Q := by
  unfold Oper.wp
  unfold evOp at e
  cases hi : isCall o.op with
  | none =>
    simp only [hi] at e
    cases hp : evP C t m.h o.op with
    | some u =>
      simp only [hp, Option.some.injEq, Prod.mk.injEq] at e
      obtain ⟨rfl, rfl⟩ := e
      obtain ⟨x, h1, h2⟩ := evP_ok ok.toOk rt r hp
      rw [h1]
      exact k ρ w x h2 r (Fr.refl _ _ _)
    | none =>
      simp only [hp] at e
      obtain ⟨ρ', w', nx, x, h1, h2, h3, h4, h5⟩ := evE_ok ok.toOk rt r e
      rw [h1]
      rcases h2 with rfl | ⟨rfl, rfl⟩
      · exact k ρ' w' x h3 h4 h5
      · exact k ρ' w' undef h3 h4 h5
  | some c =>
    obtain ⟨ho, f, hf⟩ := isCall_some hi
    simp only [hi, hf] at e
    obtain ⟨fv, h1, h2⟩ := bind_some e
    obtain ⟨args, h3, h4⟩ := bind_some h2
    cases fv <;> simp only [reduceCtorEq] at h4
    rename_i g first cap
    simp only [fL_eq] at h4
    have df := evO_ok ok.toOk rt h1
    obtain ⟨xs, ys, d1, d2, ef⟩ := den_fn df
    have da := evOs_ok ok.toOk rt h3
    have dall := denL_append d1 (denL_append da d2)
    have hres : (execOp a.eval o).run C.P w = (callFunc g (xs ++ (c.args.toList.map a.eval ++ ys)).toArray).run C.P w := by
      obtain ⟨dst, op, type, pos, after, guard⟩ := o
      simp only at ho; subst ho
      obtain ⟨callee, cargs, ats⟩ := c
      simp only at hf; subst hf
      simp only [execOp, resolve, ef, Deferred.ofValue, Sem.run_bind, Sem.run_pure, Result.andThen_ok, invoke]
      congr 2
      apply Array.ext'
      simp
    rw [hres]
    unfold callA at h4
    cases hx : C.ext g with
    | some q =>
      simp only [hx] at h4
      obtain ⟨ρ', w', x, g1, g2, g3, g4⟩ := extM_ok (P := C.P) r h4 dall
      rw [ok.extern g q hx, g1]
      exact k ρ' w' x g2 g3 g4
    | none =>
      simp only [hx] at h4
      cases hfn : fnOf C.P g with
      | none => simp [hfn] at h4
      | some fc =>
        obtain ⟨fn, cd⟩ := fc
        simp only [hfn] at h4
        obtain ⟨g1, g2⟩ := fnOf_ok hfn
        have hname : fn.name ≠ "runtime.NumGoroutine" := by simpa using ok.name g fn g1
        have henter : (callFunc g (xs ++ (c.args.toList.map a.eval ++ ys)).toArray).run C.P w = .ok (.enter g (xs ++ (c.args.toList.map a.eval ++ ys)).toArray) w := by
          simp [callFunc, g1, hname, g2]
        rw [henter]
        refine (hc g _ m v m' h4 ρ w _ dall r).mono fun e w' ⟨ρ', x, he, hd, hr, hfr⟩ => ?_
        subst he
        exact k ρ' w' x hd hr hfr

/-! ### Calls that may panic -/
abbrev CallX := FuncId → List AV → Mem → Option (Bool × AV × Mem)

def retOf : Option (Bool × AV × Mem) → Option (AV × Mem)
  | some (true, v, m) => some (v, m)
  | _ => none

def retX (X : CallX) : CallF := fun f args m => retOf (X f args m)

/-- A chain of panics of one entry. -/
def one (x : Value) : List PanicEntry := [{ v := x, recovered := false }]

/-- What is known of a call that panics. -/
def PanOK (G : Nat → Nat) (w0 : World) (P : Program) (f : FuncId) (args : List AV) (m : Mem) (v : AV) (m' : Mem) : Prop :=
  ∀ ρ w xs, denL G ρ args = some xs → RelH G w0 ρ m.h m.n w → Calls P f xs.toArray w fun e w' => ∃ ρ' x, e = .panicked (one x) ∧ den G ρ' v = some x ∧ RelH G w0 ρ' m'.h m'.n w' ∧ Fr ρ m.h w ρ' m'.h w'

structure XOK (G : Nat → Nat) (w0 : World) (P : Program) (X : CallX) : Prop where
  ret : ∀ f args m v m', X f args m = some (true, v, m') → CallOK G w0 P f args m v m'
  pan : ∀ f args m v m', X f args m = some (false, v, m') → PanOK G w0 P f args m v m'

theorem retOf_some {r : Option (Bool × AV × Mem)} {v : AV} {m : Mem} (h : retOf r = some (v, m)) : r = some (true, v, m) := by
  match r, h with
  | some (true, u, k), h => simp only [retOf, Option.some.injEq, Prod.mk.injEq] at h; obtain ⟨rfl, rfl⟩ := h; rfl
  | some (false, u, k), h => simp [retOf] at h
  | none, h => simp [retOf] at h

theorem XOK.calls {G : Nat → Nat} {w0 : World} {P : Program} {X : CallX} (h : XOK G w0 P X) : CallsOK G w0 P (retX X) := fun f args m v m' e => h.ret f args m v m' (retOf_some e)

def callX (C : Cx) (X : CallX) (f : FuncId) (args : List AV) (m : Mem) : Option (Bool × AV × Mem) :=
  match C.ext f with
  | some k => match extM k args m with
    | some (v, m) => some (true, v, m)
    | none => none
  | none => match fnOf C.P f with
    | some _ => X f args m
    | none => none

def panA (C : Cx) (t : T AV) (m : Mem) (op : Op) : Option (Bool × AV × Mem) :=
  match op with
  | .panic x => match evO C t x with
    | some (.iface ty v) => some (false, .iface ty v, m)
    | _ => none
  | _ => none

/-- Any operation, a panic too. -/
def evOpX (C : Cx) (X : CallX) (t : T AV) (m : Mem) (op : Op) : Option (Bool × AV × Mem) :=
  match isCall op with
  | some c => match c.callee with
    | .value f => (evO C t f).bind fun fv => (evOs C t c.args.toList).bind fun args => match fv with
      | .fn g first cap => fL (first ++ (args ++ cap)) fun args => callX C X g args m
      | _ => none
    | _ => none
  | none => match evP C t m.h op with
    | some v => some (true, v, m)
    | none => match evE C t m op with
      | some (v, m) => some (true, v, m)
      | none => panA C t m op

theorem callX_ret {C : Cx} {X : CallX} {f : FuncId} {args : List AV} {m m' : Mem} {v : AV} (h : callX C X f args m = some (true, v, m')) : callA C (retX X) f args m = some (v, m') := by
  unfold callX at h
  unfold callA
  cases he : C.ext f with
  | some k =>
    simp only [he] at h
    cases hk : extM k args m with
    | none => simp [hk] at h
    | some r => obtain ⟨u, q⟩ := r; simp only [hk, Option.some.injEq, Prod.mk.injEq, true_and] at h; obtain ⟨rfl, rfl⟩ := h; exact hk
  | none =>
    simp only [he] at h
    cases hf : fnOf C.P f with
    | none => simp [hf] at h
    | some r => simp only [hf] at h; simp only [retX, h, retOf]

theorem evOpX_ret {C : Cx} {X : CallX} {t : T AV} {m m' : Mem} {op : Op} {v : AV} (h : evOpX C X t m op = some (true, v, m')) : evOp C (retX X) t m op = some (v, m') := by
  unfold evOpX at h
  unfold evOp
  cases hi : isCall op with
  | some c =>
    simp only [hi] at h
    obtain ⟨ho, f, hf⟩ := isCall_some hi
    simp only [hf] at h ⊢
    obtain ⟨fv, h1, h2⟩ := bind_some h
    obtain ⟨args, h3, h4⟩ := bind_some h2
    simp only [h1, h3, Option.bind_some]
    cases fv <;> simp only [reduceCtorEq] at h4
    simp only [fL_eq] at h4 ⊢
    exact callX_ret h4
  | none =>
    simp only [hi] at h
    cases hp : evP C t m.h op with
    | some u => simp only [hp, Option.some.injEq, Prod.mk.injEq, true_and] at h; obtain ⟨rfl, rfl⟩ := h; rfl
    | none =>
      simp only [hp] at h
      cases he : evE C t m op with
      | some r => obtain ⟨u, q⟩ := r; simp only [he, Option.some.injEq, Prod.mk.injEq, true_and] at h; obtain ⟨rfl, rfl⟩ := h; rfl
      | none =>
        simp only [he] at h
        unfold panA at h
        split at h
        · split at h <;> simp at h
        · simp at h

theorem evOpX_pan {C : Cx} {G : Nat → Nat} {w0 : World} (ok : C.Fine G w0) {X : CallX} (hX : XOK G w0 C.P X) {ρ : Env} {t : T AV} {nt : Nat} {a : Act} (rt : RelT G ρ t nt a) {m m' : Mem} {w : World} (r : RelH G w0 ρ m.h m.n w)
    {o : Oper} {v : AV} (e : evOpX C X t m o.op = some (false, v, m')) {next : Act → World → Prop} {Q : Exit → Act → World → Prop}
    (k : ∀ ρ' w' x, den G ρ' v = some x → RelH G w0 ρ' m'.h m'.n w' → Fr ρ m.h w ρ' m'.h w' → Q (.panic (one x)) a w') : o.wp C.P a w next Q := by
  unfold Oper.wp
  unfold evOpX at e
  cases hi : isCall o.op with
  | none =>
    simp only [hi] at e
    cases hp : evP C t m.h o.op with
    | some u => simp [hp] at e
    | none =>
      simp only [hp] at e
      cases he : evE C t m o.op with
      | some q => obtain ⟨u, q⟩ := q; simp [he] at e
      | none =>
        simp only [he] at e
        unfold panA at e
        split at e
        · rename_i x hop
          split at e
          · rename_i ty u hx
            simp only [Option.some.injEq, Prod.mk.injEq, true_and] at e
            obtain ⟨rfl, rfl⟩ := e
            have dx := evO_ok ok.toOk rt hx
            obtain ⟨y, hy, hv⟩ : ∃ y, den G ρ u = some y ∧ a.eval x = .iface ty y := by
              simp only [den] at dx
              cases hu : den G ρ u with
              | none => simp [hu] at dx
              | some y => simp [hu] at dx; exact ⟨y, rfl, dx.symm⟩
            have hres : (execOp a.eval o).run C.P w = .halt (.panic (.iface ty y)) w := by
              obtain ⟨dst, op, type, pos, after, guard⟩ := o
              simp only at hop; subst hop
              simp only [execOp, hv, Instr.panic, Sem.run_bind, run_goPanic]
              rfl
            rw [hres]
            exact k ρ w _ (by rw [← hv]; exact dx) r (Fr.refl _ _ _)
          · simp at e
        · simp at e
  | some c =>
    obtain ⟨ho, f, hf⟩ := isCall_some hi
    simp only [hi, hf] at e
    obtain ⟨fv, h1, h2⟩ := bind_some e
    obtain ⟨args, h3, h4⟩ := bind_some h2
    cases fv <;> simp only [reduceCtorEq] at h4
    rename_i g first cap
    simp only [fL_eq] at h4
    have df := evO_ok ok.toOk rt h1
    obtain ⟨xs, ys, d1, d2, ef⟩ := den_fn df
    have da := evOs_ok ok.toOk rt h3
    have dall := denL_append d1 (denL_append da d2)
    have hres : (execOp a.eval o).run C.P w = (callFunc g (xs ++ (c.args.toList.map a.eval ++ ys)).toArray).run C.P w := by
      obtain ⟨dst, op, type, pos, after, guard⟩ := o
      simp only at ho; subst ho
      obtain ⟨callee, cargs, ats⟩ := c
      simp only at hf; subst hf
      simp only [execOp, resolve, ef, Deferred.ofValue, Sem.run_bind, Sem.run_pure, Result.andThen_ok, invoke]
      congr 2
      apply Array.ext'
      simp
    rw [hres]
    unfold callX at h4
    cases hx : C.ext g with
    | some q =>
      simp only [hx] at h4
      cases hk : extM q (first ++ (args ++ cap)) m with
      | none => simp [hk] at h4
      | some q2 => obtain ⟨u, q3⟩ := q2; simp [hk] at h4
    | none =>
      simp only [hx] at h4
      cases hfn : fnOf C.P g with
      | none => simp [hfn] at h4
      | some fc =>
        obtain ⟨fn, cd⟩ := fc
        simp only [hfn] at h4
        obtain ⟨g1, g2⟩ := fnOf_ok hfn
        have hname : fn.name ≠ "runtime.NumGoroutine" := by simpa using ok.name g fn g1
        have henter : (callFunc g (xs ++ (c.args.toList.map a.eval ++ ys)).toArray).run C.P w = .ok (.enter g (xs ++ (c.args.toList.map a.eval ++ ys)).toArray) w := by
          simp [callFunc, g1, hname, g2]
        rw [henter]
        refine (hX.pan g _ m v m' h4 ρ w _ dall r).mono fun e w' ⟨ρ', x, he, hd, hr, hfr⟩ => ?_
        subst he
        exact k ρ' w' x hd hr hfr

/-! ### Deferred calls -/
inductive DefL (P : Program) (G : Nat → Nat) (ρ : Env) : List AV → List Deferred → Prop where
  | nil : DefL P G ρ [] []
  | cons {g : FuncId} {args cap : List AV} {xs ys : List Value} {l : List AV} {ds : List Deferred} (h1 : denL G ρ args = some xs) (h2 : denL G ρ cap = some ys) (h : DefL P G ρ l ds) :
    DefL P G ρ (.fn g args cap :: l) ({ target := .fn (.func g) ys.toArray, args := xs.toArray } :: ds)

theorem DefL.mono {P : Program} {G : Nat → Nat} {ρ ρ' : Env} (hl : ρ.le ρ') {l : List AV} {ds : List Deferred} (h : DefL P G ρ l ds) : DefL P G ρ' l ds := by
  induction h with
  | nil => exact .nil
  | cons h1 h2 _ ih => exact .cons (denL_mono hl h1) (denL_mono hl h2) ih

def dlist : Option AV → List AV
  | some (.tup l) => l
  | _ => []

def DefR (P : Program) (G : Nat → Nat) (ρ : Env) (t : T AV) (ds : List Deferred) : Prop := DefL P G ρ (dlist (T.get .h t)) ds

theorem DefR.mono {P : Program} {G : Nat → Nat} {ρ ρ' : Env} (hl : ρ.le ρ') {t : T AV} {ds : List Deferred} (h : DefR P G ρ t ds) : DefR P G ρ' t ds := DefL.mono hl h

theorem put_defers {a : Act} {dst : Option Tmp} {x : Value} : (a.put dst x).defers = a.defers := by cases dst <;> rfl

theorem putT_h {nt : Nat} (hnt : nt ≤ 1000000) {t t' : T AV} {dst : Option Tmp} {v : AV} (h : putT nt t dst v = some t') : T.get .h t' = T.get .h t := by
  cases dst with
  | none => simp only [putT, Option.some.injEq] at h; rw [h]
  | some k =>
    simp only [putT] at h
    obtain ⟨hk, h⟩ := cond_some h
    rw [nblt, decide_eq_true_iff] at hk
    simp only [T.putK_eq, Option.some.injEq] at h
    rw [← h, T.get_put, if_neg]
    exact fun e => Key.slot_ne_h (by omega) e.symm

theorem DefR.putT {P : Program} {G : Nat → Nat} {ρ : Env} {nt : Nat} (hnt : nt ≤ 1000000) {t t' : T AV} {dst : Option Tmp} {v : AV} (h : Go.Ev.putT nt t dst v = some t') {ds : List Deferred} (d : DefR P G ρ t ds) : DefR P G ρ t' ds := by
  unfold DefR at d ⊢
  rw [putT_h hnt h]; exact d

theorem RelT.put_h {G : Nat → Nat} {ρ : Env} {t : T AV} {nt : Nat} {a : Act} (r : RelT G ρ t nt a) (x : Option AV) {b : Act} (hb : b.tmps = a.tmps) : RelT G ρ (T.put .h x t) nt b :=
  ⟨fun i v hi e => by
    rw [T.get_put, if_neg (Key.slot_ne_h hi)] at e
    rw [hb]; exact r.get i v hi e, by rw [hb]; exact r.size⟩

/-- A call is put off. -/
def pushA (C : Cx) (t : T AV) (op : Op) : Option (T AV) :=
  match op with
  | .defer c => match c.callee with
    | .value f => (evO C t f).bind fun fv => (evOs C t c.args.toList).bind fun args => match fv with
      | .fn g first cap => fL (first ++ args) fun args => T.putK .h (some (.tup (.fn g args cap :: dlist (T.get .h t)))) t some
      | _ => none
    | _ => none
  | _ => none

theorem pushA_wp {C : Cx} {G : Nat → Nat} {w0 : World} (ok : C.Fine G w0) {ρ : Env} {t t1 : T AV} {nt : Nat} {a : Act} (rt : RelT G ρ t nt a) (hd : DefR C.P G ρ t a.defers) {w : World}
    {o : Oper} (e : pushA C t o.op = some t1) {next : Act → World → Prop} {Q : Exit → Act → World → Prop}
    (k : ∀ ds, DefR C.P G ρ t1 ds → RelT G ρ t1 nt { a with defers := ds } → next ({ a with defers := ds }.put o.dst undef) w) : o.wp C.P a w next Q := by
  unfold Oper.wp
  unfold pushA at e
  split at e
  · rename_i c hop
    split at e
    · rename_i f hf
      obtain ⟨fv, h1, h2⟩ := bind_some e
      obtain ⟨args, h3, h4⟩ := bind_some h2
      cases fv <;> simp only [reduceCtorEq] at h4
      rename_i g first cap
      simp only [fL_eq, T.putK_eq, Option.some.injEq] at h4
      subst h4
      have df := evO_ok ok.toOk rt h1
      obtain ⟨xs, ys, d1, d2, ef⟩ := den_fn df
      have da := evOs_ok ok.toOk rt h3
      have hres : (execOp a.eval o).run C.P w = .ok (.defer { target := .fn (.func g) ys.toArray, args := (xs ++ c.args.toList.map a.eval).toArray }) w := by
        obtain ⟨dst, op, type, pos, after, guard⟩ := o
        simp only at hop; subst hop
        obtain ⟨callee, cargs, ats⟩ := c
        simp only at hf; subst hf
        simp only [execOp, resolve, ef, Deferred.ofValue, Sem.run_bind, Sem.run_pure, Result.andThen_ok]
        congr 3
        apply Array.ext'
        simp
      rw [hres]
      refine k _ ?_ (rt.put_h _ rfl)
      unfold DefR
      rw [T.get_put, if_pos rfl]
      exact .cons (denL_append d1 da) d2 hd
    · simp at e
  · simp at e

/-! ### Code -/
inductive Ex where
  | nrm
  | exit (id : Nat)
  | ret
  | pan (v : AV)

def ExR (G : Nat → Nat) (ρ : Env) : Ex → Exit → Prop
  | .nrm, e => e = .normal
  | .exit id, e => e = .exit id
  | .ret, e => e = .ret
  | .pan v, e => ∃ x, den G ρ v = some x ∧ e = .panic (one x)

abbrev DrawF := Nat → Array Oper → T AV → Mem → Option (T AV × Mem)
abbrev CodeR := Option (Ex × T AV × Mem)

/-- The operations of a region, one behind the other. -/
def evOps (C : Cx) (X : CallX) (nt : Nat) (ops : List Oper) : List Oper → T AV → Mem → CodeR
  | [], t, m => some (.nrm, t, m)
  | o :: os, t, m => match wantA ops t o.guard with
    | some true => match evOpX C X t m o.op with
      | some (true, v, m) => match putT nt t o.dst v with
        | some t => evOps C X nt ops os t m
        | none => none
      | some (false, v, m) => some (.pan v, t, m)
      | none => match pushA C t o.op with
        | some t => match putT nt t o.dst (.tup []) with
          | some t => evOps C X nt ops os t m
          | none => none
        | none => none
    | some false => match putT nt t o.dst (.tup []) with
      | some t => evOps C X nt ops os t m
      | none => none
    | none => none

theorem evOps_ok {C : Cx} {G : Nat → Nat} {w0 : World} (ok : C.Fine G w0) {X : CallX} (hX : XOK G w0 C.P X) {nt : Nat} (hnt : nt ≤ 1000000) {ops : Array Oper} {Q : Exit → Act → World → Prop} :
    ∀ (l : List Oper) (i : Nat), ops.toList.drop i = l → ∀ {ρ : Env} {t t' : T AV} {a : Act} {m m' : Mem} {w : World} {x : Ex}, RelT G ρ t nt a → DefR C.P G ρ t a.defers → RelH G w0 ρ m.h m.n w → evOps C X nt ops.toList l t m = some (x, t', m') →
    (∀ ρ' e a' w', ExR G ρ' x e → RelT G ρ' t' nt a' → DefR C.P G ρ' t' a'.defers → RelH G w0 ρ' m'.h m'.n w' → Fr ρ m.h w ρ' m'.h w' → Q e a' w') → wpOps C.P ops Q (List.range' i l.length) a w
  | [], i, hl, ρ, t, t', a, m, m', w, x, rt, hd, r, e, k => by
    simp only [evOps, Option.some.injEq, Prod.mk.injEq] at e
    obtain ⟨rfl, rfl, rfl⟩ := e
    exact k ρ _ a w rfl rt hd r (Fr.refl _ _ _)
  | o :: os, i, hl, ρ, t, t', a, m, m', w, x, rt, hd, r, e, k => by
    have hi : ops[i]? = some o := by
      rw [← Array.getElem?_toList]
      have := congrArg (fun l => l[0]?) hl
      simpa using this
    have hl' : ops.toList.drop (i + 1) = os := by
      have := congrArg List.tail hl
      simpa using this
    simp only [List.length_cons, List.range'_succ, wpOps, hi]
    simp only [evOps] at e
    cases hw : wantA ops.toList t o.guard with
    | none => simp [hw] at e
    | some b =>
      rw [wantA_ok rt rt.size hw]
      cases b with
      | true =>
        simp only [hw] at e
        simp only [if_true]
        left
        cases ho : evOpX C X t m o.op with
        | none =>
          simp only [ho] at e
          cases hps : pushA C t o.op with
          | none => simp [hps] at e
          | some t1 =>
            simp only [hps] at e
            cases hp : putT nt t1 o.dst (.tup []) with
            | none => simp [hp] at e
            | some t2 =>
              simp only [hp] at e
              refine pushA_wp ok rt hd hps fun ds h1 h2 => ?_
              exact evOps_ok ok hX hnt os (i + 1) hl' (putT_ok hnt h2 hp (x := undef) rfl) (by rw [put_defers]; exact h1.putT hnt hp) r e k
        | some vm =>
          obtain ⟨b, v, m1⟩ := vm
          cases b with
          | true =>
            simp only [ho] at e
            cases hp : putT nt t o.dst v with
            | none => simp [hp] at e
            | some t1 =>
              simp only [hp] at e
              refine evOp_wp ok hX.calls rt r (evOpX_ret ho) fun ρ1 w1 x dx r1 f1 => ?_
              exact evOps_ok ok hX hnt os (i + 1) hl' (putT_ok hnt (rt.mono f1.ext) hp dx) (by rw [put_defers]; exact (hd.mono f1.ext).putT hnt hp) r1 e fun ρ2 e2 a2 w2 he2 rt2 hd2 r2 f2 => k ρ2 e2 a2 w2 he2 rt2 hd2 r2 (f1.trans f2)
          | false =>
            simp only [ho, Option.some.injEq, Prod.mk.injEq] at e
            obtain ⟨rfl, rfl, rfl⟩ := e
            exact evOpX_pan ok hX rt r ho fun ρ1 w1 x dx r1 f1 => k ρ1 _ a w1 ⟨x, dx, rfl⟩ (rt.mono f1.ext) (hd.mono f1.ext) r1 f1
      | false =>
        simp only [hw] at e
        simp only [Bool.false_eq_true, if_false]
        cases hp : putT nt t o.dst (.tup []) with
        | none => simp [hp] at e
        | some t1 =>
          simp only [hp] at e
          exact evOps_ok ok hX hnt os (i + 1) hl' (putT_ok hnt rt hp (x := undef) rfl) (by rw [put_defers]; exact hd.putT hnt hp) r e k

def iter (f : T AV → Mem → CodeR) : Nat → T AV → Mem → CodeR
  | 0, _, _ => none
  | n + 1, t, m => match f t m with
    | some (.nrm, t, m) => iter f n t m
    | r => r

def evC (C : Cx) (X : CallX) (dr : DrawF) (nt rounds : Nat) : Code → T AV → Mem → CodeR
  | .skip, t, m => some (.nrm, t, m)
  | .label _, t, m => some (.nrm, t, m)
  | .region id ops draw, t, m => bif draw then (match dr id ops t m with
      | some (t1, m) => T.putK .h (T.get .h t) t1 fun t1 => some (.nrm, t1, m)
      | none => none)
    else evOps C X nt ops.toList ops.toList t m
  | .seq x y, t, m => match evC C X dr nt rounds x t m with
    | some (.nrm, t, m) => evC C X dr nt rounds y t m
    | r => r
  | .cond c x y, t, m => match evO C t c with
    | some (.bool true) => evC C X dr nt rounds x t m
    | some (.bool false) => evC C X dr nt rounds y t m
    | _ => none
  | .block id x, t, m => match evC C X dr nt rounds x t m with
    | some (.exit j, t, m) => bif Nat.beq j id then some (.nrm, t, m) else some (.exit j, t, m)
    | r => r
  | .loop x, t, m => iter (evC C X dr nt rounds x) rounds t m
  | .scope x, t, m => evC C X dr nt rounds x t m
  | .exit id, t, m => some (.exit id, t, m)
  | .ret, t, m => some (.ret, t, m)
  | _, _, _ => none

/-- What is known of a piece of code. -/
def CodeOK (G : Nat → Nat) (w0 : World) (P : Program) (nt : Nat) (c : Code) (t : T AV) (m : Mem) (x : Ex) (t' : T AV) (m' : Mem) : Prop :=
  ∀ ρ a w, RelT G ρ t nt a → DefR P G ρ t a.defers → RelH G w0 ρ m.h m.n w → c.wp P (fun e a' w' => ∃ ρ', ExR G ρ' x e ∧ RelT G ρ' t' nt a' ∧ DefR P G ρ' t' a'.defers ∧ RelH G w0 ρ' m'.h m'.n w' ∧ Fr ρ m.h w ρ' m'.h w') a w

def DrawOK (G : Nat → Nat) (w0 : World) (P : Program) (nt : Nat) (dr : DrawF) : Prop := ∀ id ops t m t' m', dr id ops t m = some (t', m') →
  ∀ ρ a w D, RelT G ρ t nt a → a.defers = D → RelH G w0 ρ m.h m.n w → (Code.region id ops true).wp P (fun e a' w' => e = .normal ∧ ∃ ρ', RelT G ρ' t' nt a' ∧ a'.defers = D ∧ RelH G w0 ρ' m'.h m'.n w' ∧ Fr ρ m.h w ρ' m'.h w') a w

theorem rounds_mono {P : Program} {c : Code} {Q Q' : Exit → Act → World → Prop} (h : ∀ e a w, Q e a w → Q' e a w) : ∀ n a w, Code.rounds P c Q n a w → Code.rounds P c Q' n a w
  | 0, a, w, k => k
  | n + 1, a, w, k => by
    rw [rounds_succ] at k ⊢
    refine wp_mono k fun e a w hq => ?_
    cases e <;> first | exact rounds_mono h n a w hq | exact h _ _ _ hq

theorem evC_ok {C : Cx} {G : Nat → Nat} {w0 : World} (ok : C.Fine G w0) {X : CallX} (hX : XOK G w0 C.P X) {nt rounds : Nat} (hnt : nt ≤ 1000000) {dr : DrawF} (hdr : DrawOK G w0 C.P nt dr) :
    ∀ (c : Code) {t t' : T AV} {m m' : Mem} {x : Ex}, evC C X dr nt rounds c t m = some (x, t', m') → CodeOK G w0 C.P nt c t m x t' m' := by
  intro c
  induction c with
  | skip =>
    intro t t' m m' x e ρ a w rt hd r
    simp only [evC, Option.some.injEq, Prod.mk.injEq] at e
    obtain ⟨rfl, rfl, rfl⟩ := e
    exact wp_skip ⟨ρ, rfl, rt, hd, r, Fr.refl _ _ _⟩
  | label l =>
    intro t t' m m' x e ρ a w rt hd r
    simp only [evC, Option.some.injEq, Prod.mk.injEq] at e
    obtain ⟨rfl, rfl, rfl⟩ := e
    exact wp_label ⟨ρ, rfl, rt, hd, r, Fr.refl _ _ _⟩
  | exit id =>
    intro t t' m m' x e ρ a w rt hd r
    simp only [evC, Option.some.injEq, Prod.mk.injEq] at e
    obtain ⟨rfl, rfl, rfl⟩ := e
    exact wp_exit ⟨ρ, rfl, rt, hd, r, Fr.refl _ _ _⟩
  | ret =>
    intro t t' m m' x e ρ a w rt hd r
    simp only [evC, Option.some.injEq, Prod.mk.injEq] at e
    obtain ⟨rfl, rfl, rfl⟩ := e
    exact wp_ret ⟨ρ, rfl, rt, hd, r, Fr.refl _ _ _⟩
  | region id ops draw =>
    intro t t' m m' x e
    simp only [evC] at e
    cases draw with
    | true =>
      simp only [cond_true] at e
      cases h : dr id ops t m with
      | none => simp [h] at e
      | some tm =>
        obtain ⟨t1, m1⟩ := tm
        simp only [h, T.putK_eq, Option.some.injEq, Prod.mk.injEq] at e
        obtain ⟨rfl, rfl, rfl⟩ := e
        intro ρ a w rt hd r
        refine wp_mono (hdr id ops t m _ _ h ρ a w _ rt rfl r) fun e a1 w1 ⟨he, ρ1, h1, h2, h3, h4⟩ => ?_
        refine ⟨ρ1, he, h1.put_h _ rfl, ?_, h3, h4⟩
        rw [h2]
        have := hd.mono h4.ext
        unfold DefR at this ⊢
        rw [T.get_put, if_pos rfl]; exact this
    | false =>
      simp only [cond_false] at e
      intro ρ a w rt hd r
      refine wp_region ?_
      have := evOps_ok ok hX hnt (Q := fun e a' w' => ∃ ρ', ExR G ρ' x e ∧ RelT G ρ' t' nt a' ∧ DefR C.P G ρ' t' a'.defers ∧ RelH G w0 ρ' m'.h m'.n w' ∧ Fr ρ m.h w ρ' m'.h w') ops.toList 0 (by simp) rt hd r e fun ρ' e a' w' h0 h1 h2 h3 h4 => ⟨ρ', h0, h1, h2, h3, h4⟩
      rw [← List.range_eq_range'] at this
      simpa using this
  | seq p q ih1 ih2 =>
    intro t t' m m' x e ρ a w rt hd r
    simp only [evC] at e
    cases h : evC C X dr nt rounds p t m with
    | none => simp [h] at e
    | some res =>
      obtain ⟨x1, t1, m1⟩ := res
      refine wp_seq (wp_mono (ih1 h ρ a w rt hd r) fun ex a1 w1 hh => ?_)
      obtain ⟨ρ1, he, h1, h2, h3, h4⟩ := hh
      cases x1 with
      | nrm =>
        simp only [ExR] at he; subst he
        simp only [h] at e
        exact wp_mono (ih2 e ρ1 a1 w1 h1 h2 h3) fun e a2 w2 ⟨ρ2, he, g1, g2, g3, g4⟩ => ⟨ρ2, he, g1, g2, g3, h4.trans g4⟩
      | exit id =>
        simp only [h, Option.some.injEq, Prod.mk.injEq] at e
        obtain ⟨rfl, rfl, rfl⟩ := e
        have he' := he
        simp only [ExR] at he; subst he
        exact ⟨ρ1, he', h1, h2, h3, h4⟩
      | ret =>
        simp only [h, Option.some.injEq, Prod.mk.injEq] at e
        obtain ⟨rfl, rfl, rfl⟩ := e
        have he' := he
        simp only [ExR] at he; subst he
        exact ⟨ρ1, he', h1, h2, h3, h4⟩
      | pan v =>
        simp only [h, Option.some.injEq, Prod.mk.injEq] at e
        obtain ⟨rfl, rfl, rfl⟩ := e
        have he' := he
        obtain ⟨y, hy, rfl⟩ := he
        exact ⟨ρ1, he', h1, h2, h3, h4⟩
  | cond c p q ih1 ih2 =>
    intro t t' m m' x e ρ a w rt hd r
    simp only [evC] at e
    cases h : evO C t c with
    | none => simp [h] at e
    | some v =>
      have dv := evO_ok ok.toOk rt h
      cases v <;> simp only [h, reduceCtorEq] at e
      rename_i b
      simp only [den, Option.some.injEq] at dv
      cases b with
      | true => exact wp_cond_true dv.symm (ih1 e ρ a w rt hd r)
      | false => exact wp_cond_false dv.symm (ih2 e ρ a w rt hd r)
  | block id p ih =>
    intro t t' m m' x e ρ a w rt hd r
    simp only [evC] at e
    cases h : evC C X dr nt rounds p t m with
    | none => simp [h] at e
    | some res =>
      obtain ⟨x1, t1, m1⟩ := res
      refine wp_block (wp_mono (ih h ρ a w rt hd r) fun ex a1 w1 hh => ?_)
      obtain ⟨ρ1, he, h1, h2, h3, h4⟩ := hh
      have he' := he
      cases x1 with
      | nrm =>
        simp only [h, Option.some.injEq, Prod.mk.injEq] at e
        obtain ⟨rfl, rfl, rfl⟩ := e
        simp only [ExR] at he; subst he
        exact ⟨ρ1, he', h1, h2, h3, h4⟩
      | ret =>
        simp only [h, Option.some.injEq, Prod.mk.injEq] at e
        obtain ⟨rfl, rfl, rfl⟩ := e
        simp only [ExR] at he; subst he
        exact ⟨ρ1, he', h1, h2, h3, h4⟩
      | pan v =>
        simp only [h, Option.some.injEq, Prod.mk.injEq] at e
        obtain ⟨rfl, rfl, rfl⟩ := e
        obtain ⟨y, hy, rfl⟩ := he
        exact ⟨ρ1, he', h1, h2, h3, h4⟩
      | exit j =>
        simp only [ExR] at he; subst he
        simp only [h, nbeq] at e
        by_cases c : j = id
        · simp only [c, decide_true, cond_true, Option.some.injEq, Prod.mk.injEq] at e
          obtain ⟨rfl, rfl, rfl⟩ := e
          show Exit.inBlock id _ (Exit.exit j) a1 w1
          rw [c]
          simp only [Exit.inBlock, if_true]
          exact ⟨ρ1, rfl, h1, h2, h3, h4⟩
        · simp only [c, decide_false, cond_false, Option.some.injEq, Prod.mk.injEq] at e
          obtain ⟨rfl, rfl, rfl⟩ := e
          show Exit.inBlock id _ (Exit.exit j) a1 w1
          simp only [Exit.inBlock, if_neg c]
          exact ⟨ρ1, rfl, h1, h2, h3, h4⟩
  | loop p ih =>
    intro t t' m m' x e ρ a w rt hd r
    simp only [evC] at e
    refine wp_loop_rounds rounds ?_
    have key : ∀ n (ρ : Env) (t : T AV) (m : Mem) (a : Act) (w : World), RelT G ρ t nt a → DefR C.P G ρ t a.defers → RelH G w0 ρ m.h m.n w → iter (evC C X dr nt rounds p) n t m = some (x, t', m') →
        Code.rounds C.P p (fun e a' w' => ∃ ρ', ExR G ρ' x e ∧ RelT G ρ' t' nt a' ∧ DefR C.P G ρ' t' a'.defers ∧ RelH G w0 ρ' m'.h m'.n w' ∧ Fr ρ m.h w ρ' m'.h w') n a w := by
      intro n
      induction n with
      | zero => intro ρ t m a w rt hd r e; simp [iter] at e
      | succ n ihn =>
        intro ρ t m a w rt hd r e
        simp only [iter] at e
        rw [rounds_succ]
        cases h : evC C X dr nt rounds p t m with
        | none => simp [h] at e
        | some res =>
          obtain ⟨x1, t1, m1⟩ := res
          refine wp_mono (ih h ρ a w rt hd r) fun ex a1 w1 hh => ?_
          obtain ⟨ρ1, he, h1, h2, h3, h4⟩ := hh
          have he' := he
          cases x1 with
          | nrm =>
            simp only [h] at e
            simp only [ExR] at he; subst he
            have := ihn ρ1 t1 m1 a1 w1 h1 h2 h3 e
            exact rounds_mono (fun e a2 w2 ⟨ρ2, he, g1, g2, g3, g4⟩ => ⟨ρ2, he, g1, g2, g3, h4.trans g4⟩) _ _ _ this
          | exit id =>
            simp only [h, Option.some.injEq, Prod.mk.injEq] at e
            obtain ⟨rfl, rfl, rfl⟩ := e
            simp only [ExR] at he; subst he
            exact ⟨ρ1, he', h1, h2, h3, h4⟩
          | ret =>
            simp only [h, Option.some.injEq, Prod.mk.injEq] at e
            obtain ⟨rfl, rfl, rfl⟩ := e
            simp only [ExR] at he; subst he
            exact ⟨ρ1, he', h1, h2, h3, h4⟩
          | pan v =>
            simp only [h, Option.some.injEq, Prod.mk.injEq] at e
            obtain ⟨rfl, rfl, rfl⟩ := e
            obtain ⟨y, hy, rfl⟩ := he
            exact ⟨ρ1, he', h1, h2, h3, h4⟩
    exact key rounds ρ t m a w rt hd r e
  | scope p ih =>
    intro t t' m m' x e ρ a w rt hd r
    simp only [evC] at e
    refine wp_scope_straight (wp_mono (ih e ρ a w rt hd r) fun ex a1 w1 hh => ?_)
    obtain ⟨ρ1, he, rest⟩ := hh
    have he' := he
    cases x with
    | pan v => obtain ⟨y, hy, rfl⟩ := he; exact ⟨ρ1, he', rest⟩
    | nrm => simp only [ExR] at he; subst he; exact ⟨ρ1, he', rest⟩
    | ret => simp only [ExR] at he; subst he; exact ⟨ρ1, he', rest⟩
    | exit id => simp only [ExR] at he; subst he; exact ⟨ρ1, he', rest⟩
  | rangeFunc f ps as bd _ _ => intro t t' m m' x e; simp [evC] at e
  | goto l => intro t t' m m' x e; simp [evC] at e
  | refuse s => intro t t' m m' x e; simp [evC] at e
end
end Go.Ev
