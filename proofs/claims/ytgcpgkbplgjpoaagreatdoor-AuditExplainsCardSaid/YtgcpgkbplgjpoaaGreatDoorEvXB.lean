/-
  A part of the evaluator for closed runs: proved once over any program.
-/
import Derived.Test.YtgcpgkbplgjpoaaGreatDoorEvXA
set_option linter.unusedVariables false
set_option linter.unusedSimpArgs false
namespace Go.Ev
noncomputable section

/-! ### New blocks in no order -/
def DenO (G : Nat → Nat) (ρ : Env) (ob : AObj) : Prop := ∀ ρ' κ x, ρ.le ρ' → ObjOK G ρ' κ ob x → ObjOK G ρ κ ob x

theorem DenO.cells {G : Nat → Nat} {ρ : Env} {u : Option Nat} {e : TypeId} {fz : Nat} {l : List AV} {ys : List Value} (d : denL G ρ l = some ys) : DenO G ρ (.cells u e fz l) := by
  rintro ρ' κ x hle ⟨c, f, xs, h1, h2, h3, h4, h5⟩
  rw [denL_mono hle d] at h3
  simp only [Option.some.injEq] at h3; subst h3
  exact ⟨c, f, _, h1, h2, d, h4, h5⟩

theorem DenO.bytes {G : Nat → Nat} {ρ : Env} {u : Nat} {e : TypeId} {fz n b : Nat} : DenO G ρ (.bytes u e fz n b) := fun ρ' κ x hle h => h

theorem newA_eq (h : T AObj) (k : Key) (o : AObj) : newA ⟨h, k⟩ o = some (k, ⟨T.put k (some o) h, k.succ⟩) := by
  simp [newA, fKey_eq, T.putK_eq]

def isAlloc (op : Op) : Bool :=
  match op with
  | .alloc _ | .box .. | .makeSlice .. | .buildSlice .. | .convert .. => true
  | _ => false

theorem light_shape {C : Cx} {G : Nat → Nat} {w0 : World} (ok : C.Fine G w0) {ρ : Env} {t : T AV} {nt : Nat} {a : Act} (rt : RelT G ρ t nt a) {key : Key} {op : Op} {v : AV} {m : Mem} (ha : isAlloc op = true)
    (h : evE C t ⟨.leaf, key⟩ op = some (v, m)) :
    ∃ ob fv, (∀ k, evE C t ⟨.leaf, k⟩ op = some (fv k, ⟨T.put k (some ob) .leaf, k.succ⟩)) ∧ (fv = (fun k => .ptr k 0) ∨ (∃ a b, fv = fun k => .sl k 0 a b) ∨ (∃ a b, fv = fun k => .slu k 0 a b)) ∧ DenO G ρ ob := by
  cases op <;> simp only [isAlloc, Bool.false_eq_true] at ha
  case alloc e =>
    simp only [evE] at h
    obtain ⟨z, hz, h⟩ := bind_some h
    obtain ⟨zx, hzr, dz⟩ := zeroA_ok hz w0
    exact ⟨_, _, fun k => by simp only [evE, hz, Option.bind_some, boxA, newA_eq]; rfl, .inl rfl, DenO.cells (cellsOf'_ok (dz G ρ))⟩
  case box e x =>
    simp only [evE] at h
    obtain ⟨z, hz, h⟩ := bind_some h
    exact ⟨_, _, fun k => by simp only [evE, hz, Option.bind_some, boxA, newA_eq]; rfl, .inl rfl, DenO.cells (cellsOf'_ok (evO_ok ok.toOk rt hz))⟩
  case convert s d x =>
    simp only [evE] at h
    obtain ⟨z, hz, h⟩ := bind_some h
    unfold convBA at h
    cases hs : C.P.underlying s with
    | none => simp [hs] at h
    | some ds =>
      cases hd : C.P.underlying d with
      | none => simp [hs, hd] at h
      | some dd =>
        cases dd <;> cases z <;> simp only [hs, hd, reduceCtorEq] at h
        obtain ⟨h8, h⟩ := cond_some h
        exact ⟨_, _, fun k => by simp only [evE, hz, Option.bind_some, convBA, hs, hd, h8, cond_true, newA_eq]; rfl, .inr (.inr ⟨_, _, rfl⟩), DenO.bytes⟩
  case buildSlice ty len parts =>
    simp only [evE] at h
    obtain ⟨ps, hp, h⟩ := bind_some h
    have hq := evParts_ok ok.toOk rt hp
    unfold buildSliceA at h
    cases hu : C.P.underlying ty with
    | none => simp [hu] at h
    | some d =>
      cases d <;> simp only [hu, reduceCtorEq] at h
      rename_i e
      obtain ⟨s, hs, h⟩ := bind_some h
      obtain ⟨z, hz, h⟩ := bind_some h
      obtain ⟨hc, h⟩ := cond_some h
      obtain ⟨l, hf, h⟩ := bind_some h
      obtain ⟨⟨p, m1⟩, hr, h⟩ := bind_some h
      obtain ⟨zx, hzr, dz⟩ := zeroA_ok hz w0
      have dc := cellsOf'_ok (dz G ρ)
      obtain ⟨ys, e1, e2⟩ := fill_ok hq (denL_zrow dc len) hf
      unfold rowA at hr
      cases h8 : isU8 C.P e with
      | true =>
        simp only [h8, cond_true] at hr
        obtain ⟨b, hb, hr⟩ := bind_some hr
        exact ⟨_, _, fun k => by simp only [evE, hp, Option.bind_some, buildSliceA, hu, hs, hz, hc, cond_true, hf, rowA, h8, hb, fN_eq, newA_eq]; rfl, .inr (.inl ⟨_, _, rfl⟩), DenO.bytes⟩
      | false =>
        exact ⟨_, _, fun k => by simp only [evE, hp, Option.bind_some, buildSliceA, hu, hs, hz, hc, cond_true, hf, rowA, h8, cond_false, newA_eq]; rfl, .inr (.inl ⟨_, _, rfl⟩), DenO.cells e2⟩
  case makeSlice ty x y =>
    simp only [evE] at h
    obtain ⟨vl, hvl, h⟩ := bind_some h
    obtain ⟨vc, hvc, h⟩ := bind_some h
    unfold makeSliceA at h
    cases hu : C.P.underlying ty with
    | none => simp [hu] at h
    | some d =>
      cases d <;> simp only [hu, reduceCtorEq] at h
      rename_i e
      obtain ⟨l, hl, h⟩ := bind_some h
      obtain ⟨c, hc, h⟩ := bind_some h
      cases hi : C.P.info? e with
      | none => simp [hi] at h
      | some i =>
        simp only [hi] at h
        obtain ⟨z, hz, h⟩ := bind_some h
        obtain ⟨hb, h⟩ := cond_some h
        obtain ⟨zx, hzr, dz⟩ := zeroA_ok hz w0
        have dc := cellsOf'_ok (dz G ρ)
        cases h8 : isU8 C.P e with
        | true =>
          simp only [h8, cond_true] at h
          split at h
          · exact ⟨_, _, fun k => by simp only [evE, hvl, hvc, Option.bind_some, makeSliceA, hu, hl, hc, hi, hz, hb, cond_true, h8, newA_eq]; rfl, .inr (.inl ⟨_, _, rfl⟩), DenO.bytes⟩
          · cases h
        | false =>
          simp only [h8, cond_false, fL_eq] at h
          exact ⟨_, _, fun k => by simp only [evE, hvl, hvc, Option.bind_some, makeSliceA, hu, hl, hc, hi, hz, hb, cond_true, h8, cond_false, fL_eq, newA_eq]; rfl, .inr (.inl ⟨_, _, rfl⟩), DenO.cells (denL_zrow dc c)⟩

def lightA (C : Cx) (t : T AV) (op : Op) (key : Key) : Option (AV × AObj) :=
  bif isAlloc op then (match evP C t .leaf op with
    | none => (match evE C t ⟨.leaf, key⟩ op with
      | some (v, m) => match T.get key m.h with
        | some o => some (v, o)
        | none => none
      | none => none)
    | some _ => none) else none

theorem light_ok {C : Cx} {G : Nat → Nat} {w0 : World} (ok : C.Fine G w0) {ρ : Env} {t : T AV} {nt : Nat} {a : Act} (rt : RelT G ρ t nt a) {f : Hp} {n key : Key} {w : World} (r : RelF G w0 ρ f n w)
    {o : Oper} {v : AV} {ob : AObj} (h : lightA C t o.op key = some (v, ob)) (hk : ρ key = none) (hn : key.toNat < n.toNat) :
    ∃ b κ w' nx x, (execOp a.eval o).run C.P w = .ok nx w' ∧ (nx = .value x ∨ (nx = .skip ∧ x = undef)) ∧ den G (ρ.add key (b, κ)) v = some x ∧
      RelF G w0 (ρ.add key (b, κ)) (eff (fun q => q = key) (fun _ => some ob) f) n w' ∧ FrF ρ f w (ρ.add key (b, κ)) (eff (fun q => q = key) (fun _ => some ob) f) w' := by
  unfold lightA at h
  obtain ⟨ha, h⟩ := cond_some h
  split at h
  · split at h
    · rename_i v0 m0 he
      cases hg : T.get key m0.h with
      | none => simp [hg] at h
      | some o0 =>
        simp only [hg, Option.some.injEq, Prod.mk.injEq] at h
        obtain ⟨rfl, rfl⟩ := h
        obtain ⟨ob, fv, h1, h2, h3⟩ := light_shape ok rt ha he
        rw [h1] at he
        simp only [Option.some.injEq, Prod.mk.injEq] at he
        obtain ⟨rfl, rfl⟩ := he
        simp only [T.get_put_same, Option.some.injEq] at hg
        subst hg
        -- the same, in a world of its own
        have okw : C.Ok G w := ⟨ok.glob, fun g off v hv => by
          obtain ⟨x, e1, e2, e3⟩ := ok.cell g off v hv
          refine ⟨x, e1, ?_, Nat.lt_of_lt_of_le e3 r.size⟩
          rw [← e2]
          unfold World.cell?
          rw [r.low _ e3]⟩
        have rw_ : RelH G w ρ .leaf n w := ⟨fun p o h => by simp [T.get_leaf] at h, fun p q o o' b κ κ' h => by simp [T.get_leaf] at h, r.fresh, fun _ _ => rfl, rfl, rfl, rfl, Nat.le_refl _⟩
        obtain ⟨ρ', w', nx, x, k1, k2, k3, k4, k5⟩ := evE_ok (m := ⟨.leaf, n⟩) okw rt rw_ (h1 n)
        obtain ⟨b, κ, X, g1, g2, g3, g4⟩ := k4.obj n ob (by simp [T.get_put_same])
        have hstep := light_step (key := key) r hk hn g3 g2 (h3 ρ' κ X k5.ext g4) k4.low k4.size k4.os k4.tape k4.output
        refine ⟨b, κ, w', nx, x, k1, k2, ?_, hstep.1, hstep.2⟩
        rcases h2 with rfl | ⟨c, d, rfl⟩ | ⟨c, d, rfl⟩
        · simp only [den, g1, Env.add_self] at k3 ⊢; exact k3
        · simp only [den, g1, Env.add_self] at k3 ⊢; exact k3
        · simp only [den, g1, Env.add_self] at k3 ⊢; exact k3
    · cases h
  · cases h
end
end Go.Ev
