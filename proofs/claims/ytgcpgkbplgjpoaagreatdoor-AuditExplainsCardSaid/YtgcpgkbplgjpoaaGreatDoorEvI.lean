/-
  A part of the evaluator for closed runs: proved once over any program.
-/
import Derived.Test.YtgcpgkbplgjpoaaGreatDoorEvH
set_option linter.unusedVariables false
set_option linter.unusedSimpArgs false
namespace Go.Ev
noncomputable section

/-! ### Maps -/
def sameA (kd : TypeDesc) (x y : AV) : Option Bool :=
  match kd with
  | .int _ => match x, y with
    | .int k a, .int k' b => bif kindEq k k' then fB (ieq a b) some else none
    | _, _ => none
  | .string => match x, y with
    | .str n a, .str m b => fB (sEq n a m b) some
    | _, _ => none
  | .bool => match x, y with
    | .bool a, .bool b => fB (bif a then b else !b) some
    | _, _ => none
  | _ => none

theorem sameA_ok {G : Nat → Nat} {ρ : Env} {kd : TypeDesc} {x y : AV} {b : Bool} {X Y : Value} (h : sameA kd x y = some b) (dx : den G ρ x = some X) (dy : den G ρ y = some Y) : Instr.sameNow kd X Y = some b := by
  cases kd <;> simp only [sameA, reduceCtorEq] at h
  case bool =>
    cases x <;> cases y <;> simp only [reduceCtorEq, fB_eq, Option.some.injEq] at h
    simp only [den, Option.some.injEq] at dx dy; subst dx dy
    rename_i p q
    rw [← h]; cases p <;> cases q <;> rfl
  case int k0 =>
    cases x <;> cases y <;> simp only [reduceCtorEq, fB_eq] at h
    simp only [den, Option.some.injEq] at dx dy; subst dx dy
    rename_i k p k' q
    cases hk : kindEq k k' with
    | false => simp [hk] at h
    | true =>
      simp only [hk, cond_true, Option.some.injEq] at h
      obtain rfl := kindEq_iff hk
      simp [Instr.sameNow, ← h, ieq_eq]
  case string =>
    cases x <;> cases y <;> simp only [reduceCtorEq, fB_eq, Option.some.injEq] at h
    simp only [den, Option.some.injEq] at dx dy; subst dx dy
    simp [Instr.sameNow, ← h, sEq_toList, beq_toListBytes]

def plainKind (kd : TypeDesc) : Bool :=
  match kd with
  | .int _ | .string | .bool => true
  | _ => false

theorem sameA_plain {kd : TypeDesc} {x y : AV} {b : Bool} (h : sameA kd x y = some b) : plainKind kd = true := by
  cases kd <;> simp only [sameA, reduceCtorEq] at h <;> rfl

def findA (kd : TypeDesc) (k : AV) : List (AV × AV × Nat) → Nat → Option (Option (Nat × AV × AV))
  | [], _ => some none
  | e :: es, i => match sameA kd k e.1 with
    | some true => some (some (i, e.1, e.2.1))
    | some false => findA kd k es (Nat.succ i)
    | none => none

theorem findA_ok {G : Nat → Nat} {ρ : Env} {kd : TypeDesc} {k : AV} {K : Value} (dk : den G ρ k = some K) : ∀ {es : List (AV × AV × Nat)} {l : List MapEntry} {i : Nat} {r : Option (Nat × AV × AV)},
    findA kd k es i = some r → All2 (entryOK G ρ) es l →
    (r = none ∧ Instr.findNow kd K l i = some none) ∨ (∃ j a v X V, r = some (i + j, a, v) ∧ den G ρ a = some X ∧ den G ρ v = some V ∧ (l[j]?).map (·.key) = some X ∧ Instr.findNow kd K l i = some (some (i + j, V)))
  | [], _, i, r, h, .nil => by simp [findA] at h; subst h; exact .inl ⟨rfl, rfl⟩
  | e :: es, m :: l, i, r, h, .cons ⟨e1, e2, e3⟩ hr => by
    simp only [findA] at h
    cases hs : sameA kd k e.1 with
    | none => simp [hs] at h
    | some b =>
      have hn := sameA_ok hs dk e1
      cases b with
      | true =>
        simp [hs] at h; subst h
        exact .inr ⟨0, e.1, e.2.1, m.key, m.val, rfl, e1, e2, by simp, by simp [Instr.findNow, hn]⟩
      | false =>
        simp [hs] at h
        rcases findA_ok dk h hr with ⟨rfl, h2⟩ | ⟨j, a, v, X, V, rfl, h2, h3, h4, h5⟩
        · exact .inl ⟨rfl, by simp [Instr.findNow, hn, h2]⟩
        · exact .inr ⟨j + 1, a, v, X, V, by rw [show i + (j + 1) = i + 1 + j from by omega], h2, h3, by simpa using h4, by simp [Instr.findNow, hn, h5]; omega⟩

theorem checkKey_plain {P : Program} {t : TypeId} {kd : TypeDesc} (hu : P.underlying t = some kd) (hp : plainKind kd = true) (e : Bool) (v : Value) (w : World) : (Instr.checkKey e 10000 t v).run P w = .ok () w := by
  rw [show (10000 : Nat) = 9999 + 1 from rfl]
  unfold Instr.checkKey
  simp only [Sem.run_bind, run_underlying hu, Result.andThen_ok]
  cases kd <;> simp [plainKind] at hp <;> rfl

def mapTy (P : Program) (t : TypeId) : Option (TypeId × TypeId × TypeDesc) :=
  match P.underlying t with
  | some (.map k e) => match P.underlying k with
    | some kd => bif plainKind kd then some (k, e, kd) else none
    | none => none
  | _ => none

theorem mapTy_ok {P : Program} {t k e : TypeId} {kd : TypeDesc} (h : mapTy P t = some (k, e, kd)) : P.underlying t = some (.map k e) ∧ P.underlying k = some kd ∧ plainKind kd = true := by
  unfold mapTy at h
  cases hu : P.underlying t with
  | none => simp [hu] at h
  | some ty =>
    cases ty <;> simp only [hu, reduceCtorEq] at h
    rename_i k' e'
    cases hk : P.underlying k' with
    | none => simp [hk] at h
    | some kd' =>
      cases hp : plainKind kd' with
      | false => simp [hk, hp] at h
      | true => simp [hk, hp] at h; obtain ⟨rfl, rfl, rfl⟩ := h; exact ⟨rfl, hk, hp⟩

/-- The entries of a map. -/
def entriesA (h : T AObj) (v : AV) : Option (List (AV × AV × Nat)) :=
  match v with
  | .nilM => some []
  | .map p => match T.get p h with
    | some (.map es _) => some es
    | _ => none
  | _ => none

def lookA (P : Program) (h : T AObj) (t : TypeId) (v k : AV) (ok : Bool) : Option AV :=
  match mapTy P t, entriesA h v with
  | some (_, e, kd), some es => match findA kd k es 0 with
    | some (some (_, _, x)) => some (bif ok then .tup [x, .bool true] else x)
    | some none => match zeroA P e with
      | some z => some (bif ok then .tup [z, .bool false] else z)
      | none => none
    | none => none
  | _, _ => none

theorem entriesA_ok {G : Nat → Nat} {w0 : World} {ρ : Env} {h : T AObj} {n : Key} {w : World} (r : RelH G w0 ρ h n w) {v : AV} {es : List (AV × AV × Nat)} {x : Value} (e : entriesA h v = some es) (d : den G ρ v = some x) :
    ∃ l : List MapEntry, All2 (entryOK G ρ) es l ∧ ((x = .map none ∧ l = []) ∨ ∃ b clk, x = .map (some b) ∧ w.heap[b]? = some (.map l.toArray clk)) := by
  cases v <;> simp only [entriesA, reduceCtorEq] at e
  case nilM =>
    simp only [Option.some.injEq] at e; subst e
    simp only [den, Option.some.injEq] at d; subst d
    exact ⟨[], .nil, .inl ⟨rfl, rfl⟩⟩
  case map p =>
    cases hp : T.get p h with
    | none => simp [hp] at e
    | some o =>
      obtain ⟨b, κ, y, h1, h2, h3, h4, h5⟩ := r.lt hp
      cases o <;> simp only [hp, reduceCtorEq, Option.some.injEq] at e
      subst e
      obtain ⟨l, rfl, hl⟩ := h5
      obtain ⟨b', κ', h1', rfl⟩ := den_map d
      rw [h1] at h1'
      obtain ⟨rfl, rfl⟩ : b = b' ∧ κ = κ' := by simpa using h1'
      exact ⟨l, hl, .inr ⟨b, _, rfl, h2⟩⟩

theorem look_ok {P : Program} {G : Nat → Nat} {w0 : World} {ρ : Env} {h : T AObj} {n : Key} {w : World} (r : RelH G w0 ρ h n w) {t : TypeId} {v k u : AV} {ok : Bool} {x K : Value} (e : lookA P h t v k ok = some u)
    (d : den G ρ v = some x) (dk : den G ρ k = some K) : ∃ y, (Instr.lookup t x K ok).run P w = .ok y w ∧ den G ρ u = some y := by
  unfold lookA at e
  cases hm : mapTy P t with
  | none => simp [hm] at e
  | some ked =>
    obtain ⟨kt, et, kd⟩ := ked
    obtain ⟨u1, u2, hp⟩ := mapTy_ok hm
    cases he : entriesA h v with
    | none => simp [hm, he] at e
    | some es =>
      obtain ⟨l, hl, hx⟩ := entriesA_ok r he d
      cases hf : findA kd k es 0 with
      | none => simp [hm, he, hf] at e
      | some res =>
        have fin : ∀ (y : Value) (b : Bool), ((∃ i, (Instr.findKey kt K l).run P w = .ok (some (i, y)) w ∧ b = true) ∨ ((Instr.findKey kt K l).run P w = .ok none w ∧ (zeroValue et).run P w = .ok y w ∧ b = false)) →
            (Instr.lookup t x K ok).run P w = .ok (if ok then .tuple #[y, .bool b] else y) w := fun y b hh => by
          rcases hx with ⟨rfl, rfl⟩ | ⟨bl, clk, rfl, hb⟩ <;> rcases hh with ⟨i, hh, rfl⟩ | ⟨hh, hz, rfl⟩ <;>
            simp only [Instr.lookup, getObj, Sem.run_bind, run_underlying u1, Result.andThen_ok, Sem.run_pure, Sem.run, checkKey_plain u2 hp, hh] <;> (try simp only [hb, Sem.run_bind, Sem.run_pure, Result.andThen_ok, checkKey_plain u2 hp, hh, Sem.run]) <;> (try simp only [hz, Result.andThen_ok, Sem.run_pure])
        have fk : ∀ o, Instr.findNow kd K l 0 = some o → (Instr.findKey kt K l).run P w = .ok o w := fun o ho => by
          simp [Instr.findKey, run_underlying u2, ho]
        rcases findA_ok dk hf hl with ⟨rfl, h2⟩ | ⟨j, a, v', X, V, rfl, _, h3, _, h5⟩
        · cases hz : zeroA P et with
          | none => simp [hm, he, hf, hz] at e
          | some z =>
            simp [hm, he, hf, hz] at e; subst e
            obtain ⟨zx, hzr, dz⟩ := zeroA_ok hz w
            refine ⟨_, fin zx false (.inr ⟨fk _ h2, hzr, rfl⟩), ?_⟩
            cases ok
            · simpa using dz G ρ
            · simp only [cond_true, if_true, den]
              rw [denL_cons.2 ⟨zx, [.bool false], dz G ρ, denL_cons.2 ⟨.bool false, [], rfl, rfl, rfl⟩, rfl⟩]
        · simp [hm, he, hf] at e; subst e
          refine ⟨_, fin V true (.inl ⟨_, fk _ h5, rfl⟩), ?_⟩
          cases ok
          · simpa using h3
          · simp only [cond_true, if_true, den]
            rw [denL_cons.2 ⟨V, [.bool true], h3, denL_cons.2 ⟨.bool true, [], rfl, rfl, rfl⟩, rfl⟩]

/-! ### len, cap, min, max -/
def intA (n : Nat) : Option AV := fN n fun n => some (.int .i64 (.ofNat n))

def lenA (P : Program) (h : T AObj) (t : TypeId) (v : AV) : Option AV :=
  match P.underlying t with
  | some .string => match v with
    | .str n _ => intA n
    | _ => none
  | some (.array n _) => intA n
  | some (.pointer a) => match P.underlying a with
    | some (.array n _) => intA n
    | _ => none
  | some (.slice _) => match v with
    | .nilS => intA 0
    | .sl _ _ n _ => intA n
    | .slu _ _ n _ => intA n
    | _ => none
  | some (.map _ _) => match entriesA h v with
    | some es => intA es.length
    | none => none
  | _ => none

theorem All2.length {α β : Type} {R : α → β → Prop} {l : List α} {m : List β} (h : All2 R l m) : l.length = m.length := by
  induction h with
  | nil => rfl
  | cons _ _ ih => simp [ih]

theorem len_ok {P : Program} {G : Nat → Nat} {w0 : World} {ρ : Env} {h : T AObj} {n : Key} {w : World} (r : RelH G w0 ρ h n w) {t : TypeId} {ts : List TypeId} {ty : TypeId} {v u : AV} {x : Value} (e : lenA P h t v = some u)
    (d : den G ρ v = some x) : ∃ y, (Builtin.len_ (t :: ts).toArray ty #[x]).run P w = .ok y w ∧ den G ρ u = some y := by
  unfold lenA at e
  cases hu : P.underlying t with
  | none => simp [hu] at e
  | some d0 =>
    cases d0 <;> simp only [hu, reduceCtorEq, intA, fN_eq, Option.some.injEq] at e
    case string =>
      cases v <;> simp only [reduceCtorEq, Option.some.injEq] at e
      subst e
      simp only [den, Option.some.injEq] at d; subst d
      exact ⟨_, by simp [Builtin.len_, run_underlying hu, size_mkB]; rfl, rfl⟩
    case array m e0 =>
      subst e
      exact ⟨_, by simp [Builtin.len_, run_underlying hu]; rfl, rfl⟩
    case pointer a =>
      cases ha : P.underlying a with
      | none => simp [ha] at e
      | some da =>
        cases da <;> simp only [ha, reduceCtorEq, Option.some.injEq] at e
        subst e
        exact ⟨_, by simp [Builtin.len_, run_underlying hu, run_underlying ha]; rfl, rfl⟩
    case slice e0 =>
      cases v <;> simp only [reduceCtorEq, Option.some.injEq] at e
      case nilS => subst e; simp only [den, Option.some.injEq] at d; subst d; exact ⟨_, by simp [Builtin.len_, run_underlying hu]; rfl, rfl⟩
      case sl => subst e; obtain ⟨_, _, _, rfl⟩ := den_sl d; exact ⟨_, by simp [Builtin.len_, run_underlying hu]; rfl, rfl⟩
      case slu => subst e; obtain ⟨_, _, _, _, rfl⟩ := den_slu d; exact ⟨_, by simp [Builtin.len_, run_underlying hu]; rfl, rfl⟩
    case map k0 e0 =>
      cases v <;> simp only [entriesA, reduceCtorEq] at e
      case nilM =>
        simp only [Option.some.injEq] at e; subst e
        simp only [den, Option.some.injEq] at d; subst d
        exact ⟨_, by simp [Builtin.len_, run_underlying hu]; rfl, rfl⟩
      case map p =>
        cases hp : T.get p h with
        | none => simp [hp] at e
        | some o =>
          obtain ⟨b, κ, y, h1, h2, h3, h4, h5⟩ := r.lt hp
          cases o <;> simp only [hp, reduceCtorEq, Option.some.injEq] at e
          subst e
          obtain ⟨l, rfl, hl⟩ := h5
          obtain ⟨b', κ', h1', rfl⟩ := den_map d
          rw [h1] at h1'
          obtain ⟨rfl, rfl⟩ : b = b' ∧ κ = κ' := by simpa using h1'
          refine ⟨goInt l.length, by simp [Builtin.len_, run_underlying hu, getObj, Sem.run, h2], ?_⟩
          simp only [den, hl.length]; rfl

def capA (P : Program) (t : TypeId) (v : AV) : Option AV :=
  match P.underlying t with
  | some (.slice _) => match v with
    | .nilS => intA 0
    | .sl _ _ _ c => intA c
    | _ => none
  | some (.array n _) => intA n
  | _ => none

theorem cap_ok {P : Program} {G : Nat → Nat} {ρ : Env} {w : World} {t : TypeId} {ts : List TypeId} {ty : TypeId} {v u : AV} {x : Value} (e : capA P t v = some u)
    (d : den G ρ v = some x) : ∃ y, (Builtin.cap_ (t :: ts).toArray ty #[x]).run P w = .ok y w ∧ den G ρ u = some y := by
  unfold capA at e
  cases hu : P.underlying t with
  | none => simp [hu] at e
  | some d0 =>
    cases d0 <;> simp only [hu, reduceCtorEq, intA, fN_eq, Option.some.injEq] at e
    case array m e0 =>
      subst e
      exact ⟨_, by simp [Builtin.cap_, run_underlying hu]; rfl, rfl⟩
    case slice e0 =>
      cases v <;> simp only [reduceCtorEq, Option.some.injEq] at e
      case nilS => subst e; simp only [den, Option.some.injEq] at d; subst d; exact ⟨_, by simp [Builtin.cap_, run_underlying hu]; rfl, rfl⟩
      case sl => subst e; obtain ⟨_, _, _, rfl⟩ := den_sl d; exact ⟨_, by simp [Builtin.cap_, run_underlying hu]; rfl, rfl⟩

def mm2 (mx : Bool) (x y : AV) : Option AV :=
  match x, y with
  | .int k a, .int _ b => bif (bif mx then ilt a b else ilt b a) then some (.int k b) else some (.int k a)
  | _, _ => none

end
end Go.Ev
