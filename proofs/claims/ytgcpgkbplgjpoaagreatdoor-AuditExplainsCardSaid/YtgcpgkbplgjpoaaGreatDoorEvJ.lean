/-
  A part of the evaluator for closed runs: proved once over any program.
-/
import Derived.Test.YtgcpgkbplgjpoaaGreatDoorEvI
set_option linter.unusedVariables false
set_option linter.unusedSimpArgs false
namespace Go.Ev
noncomputable section

def isC : Operand → Bool
  | .const _ => true
  | _ => false

def guardB (P : Program) (t : TypeId) (x y : Operand) (a b : AV) : Bool :=
  match a, b with
  | .nilI, .nilI => bif isC x then true else isC y
  | .agg _, .agg _ => !P.eqGuardType P.depth t
  | _, _ => true

theorem guard_ok {P : Program} {G : Nat → Nat} {ρ : Env} {op : BinOp} {t : TypeId} {x y : Operand} {a b : AV} {A B : Value} (h : guardB P t x y a b = true) (da : den G ρ a = some A) (db : den G ρ b = some B) (w : World) :
    (eqGuard op t x y A B).run P w = .ok () w := by
  have e1 : ∀ v : AV, den G ρ v = some .nilIface → v = .nilI := fun v hv => by
    cases v <;> first | rfl | (simp only [den, Option.some.injEq, reduceCtorEq] at hv; done) | (simp only [den] at hv; (repeat' split at hv) <;> simp at hv)
  have e2 : ∀ (v : AV) c, den G ρ v = some (.agg c) → ∃ l, v = .agg l := fun v c hv => by
    cases v <;> first | exact ⟨_, rfl⟩ | (simp only [den, Option.some.injEq, reduceCtorEq] at hv; done) | (simp only [den] at hv; (repeat' split at hv) <;> simp at hv)
  have main : ∀ o, o = BinOp.eql ∨ o = BinOp.neq → (eqGuard o t x y A B).run P w = .ok () w := fun o ho => by
    by_cases c1 : A = .nilIface ∧ B = .nilIface
    · obtain ⟨rfl, rfl⟩ := c1
      obtain rfl := e1 a da
      obtain rfl := e1 b db
      simp only [guardB] at h
      rcases ho with rfl | rfl <;> cases x <;> cases y <;> simp [isC] at h <;> rfl
    · by_cases c2 : ∃ p q, A = .agg p ∧ B = .agg q
      · obtain ⟨p, q, rfl, rfl⟩ := c2
        obtain ⟨l, rfl⟩ := e2 a _ da
        obtain ⟨m, rfl⟩ := e2 b _ db
        simp only [guardB, Bool.not_eq_true'] at h
        exact run_eqGuard_agg w o t x y p q h
      · rcases ho with rfl | rfl <;> cases A <;> cases B <;> first | rfl | exact absurd ⟨rfl, rfl⟩ c1 | exact absurd ⟨_, _, rfl, rfl⟩ c2
  cases op <;> first | exact main _ (.inl rfl) | exact main _ (.inr rfl) | rfl

def isShift : BinOp → Bool
  | .shl | .shr => true
  | _ => false

def binE (P : Program) (op : BinOp) (t : TypeId) (a b : AV) : Option AV :=
  match op with
  | .eql => match eqA P 10 t a b with
    | some c => some (.bool c)
    | none => none
  | .neq => match eqA P 10 t a b with
    | some c => fB (!c) fun c => some (.bool c)
    | none => none
  | _ => none

def binA (P : Program) (op : BinOp) (t : TypeId) (a b : AV) : Option AV :=
  match a, b with
  | .int k x, .int k' y => bif isShift op then iShift op k x y else bif kindEq k k' then iArith op k x y else none
  | .str n x, .str m y => bif isShift op then none else sOp op n x m y
  | a, b => binE P op t a b

theorem bin_ok {P : Program} {G : Nat → Nat} {ρ : Env} {op : BinOp} {t : TypeId} {a b u : AV} {A B : Value} (h : binA P op t a b = some u) (da : den G ρ a = some A) (db : den G ρ b = some B) (w : World) :
    ∃ y, (Go.binOp op t A B).run P w = .ok y w ∧ den G ρ u = some y := by
  have other : ∀ (hh : binE P op t a b = some u) (hi : ¬ ∃ k n k' m, A = .int k n ∧ B = .int k' m) (hs : ¬ ∃ s r, A = .string s ∧ B = .string r),
      ∃ y, (Go.binOp op t A B).run P w = .ok y w ∧ den G ρ u = some y := fun hh hi hs => by
    have nf : (∀ k x, A ≠ .float k x) ∧ (∀ k x y, A ≠ .complex k x y) ∧ (∀ r, A ≠ .chan r) := by
      refine ⟨fun k x e => ?_, fun k x y e => ?_, fun r e => ?_⟩ <;> subst e <;> cases a <;> simp only [den, Option.some.injEq, reduceCtorEq] at da <;> (repeat' split at da) <;> simp at da
    have eqr : ∀ c, eqA P 10 t a b = some c → (Op.equal t A B).run P w = .ok c w := fun c hc => eqA_ok 10 9990 t a b A B c hc da db
    have key : ∀ (op' : BinOp), op' = .eql ∨ op' = .neq → Go.binOp op' t A B = (if op' = .eql then (do pure (.bool (← Op.equal t A B))) else (do pure (.bool (!(← Op.equal t A B))))) := fun op' ho => by
      rcases ho with rfl | rfl <;> cases A <;> cases B <;> first
        | rfl
        | exact absurd ⟨_, _, _, _, rfl, rfl⟩ hi
        | exact absurd ⟨_, _, rfl, rfl⟩ hs
        | exact absurd rfl (nf.1 _ _)
        | exact absurd rfl (nf.2.1 _ _ _)
    cases op <;> simp only [binE, reduceCtorEq] at hh
    case eql =>
      cases hc : eqA P 10 t a b with
      | none => simp [hc] at hh
      | some c =>
        simp [hc] at hh; subst hh
        rw [key _ (.inl rfl)]
        exact ⟨.bool c, by simp [eqr c hc], rfl⟩
    case neq =>
      cases hc : eqA P 10 t a b with
      | none => simp [hc] at hh
      | some c =>
        simp [hc, fB_eq] at hh; subst hh
        rw [key _ (.inr rfl)]
        exact ⟨.bool (!c), by simp [eqr c hc], rfl⟩
  cases a
  case int k x =>
    simp only [den, Option.some.injEq] at da; subst da
    cases b
    case int k' y =>
      simp only [den, Option.some.injEq] at db; subst db
      simp only [binA] at h
      cases hsh : isShift op with
      | true =>
        simp only [hsh, cond_true] at h
        obtain ⟨z, h1, h2⟩ := iShift_ok (P := P) (yk := k') (t := t) h w
        exact ⟨z, h1, h2 G ρ⟩
      | false =>
        cases hk : kindEq k k' with
        | false => simp [hsh, hk] at h
        | true =>
          rw [hsh, hk] at h
          have h' : iArith op k x y = some u := h
          obtain rfl := kindEq_iff hk
          obtain ⟨z, h1, h2⟩ := iArith_ok (P := P) (t := t) h' (by intro e; subst e; simp [isShift] at hsh) (by intro e; subst e; simp [isShift] at hsh) w
          exact ⟨z, h1, h2 G ρ⟩
    all_goals exact other (by simpa only [binA] using h) (by rintro ⟨k1, n1, k2, n2, _, rfl⟩; simp only [den, Option.some.injEq, reduceCtorEq] at db <;> (repeat' split at db) <;> simp at db) (by rintro ⟨_, _, e, _⟩; cases e)
  case str n x =>
    simp only [den, Option.some.injEq] at da; subst da
    cases b
    case str m y =>
      simp only [den, Option.some.injEq] at db; subst db
      simp only [binA] at h
      cases hsh : isShift op with
      | true => simp [hsh] at h
      | false =>
        simp only [hsh, cond_false] at h
        obtain ⟨z, h1, h2⟩ := sOp_ok (P := P) (t := t) h w
        exact ⟨z, h1, h2 G ρ⟩
    all_goals exact other (by simpa only [binA] using h) (by rintro ⟨_, _, _, _, e, _⟩; cases e) (by rintro ⟨s1, s2, _, rfl⟩; simp only [den, Option.some.injEq, reduceCtorEq] at db <;> (repeat' split at db) <;> simp at db)
  all_goals exact other (by simpa only [binA] using h) (by rintro ⟨k1, n1, k2, n2, rfl, _⟩; simp only [den, Option.some.injEq, reduceCtorEq] at da <;> (repeat' split at da) <;> simp at da) (by rintro ⟨s1, s2, rfl, _⟩; simp only [den, Option.some.injEq, reduceCtorEq] at da <;> (repeat' split at da) <;> simp at da)

def optA (C : Cx) (t : T AV) : Option Operand → Option (Option AV)
  | none => some none
  | some x => match evO C t x with
    | some v => some (some v)
    | none => none

def mm (mx : Bool) (x y : AV) : Option AV :=
  match x, y with
  | .int k a, .int _ b => bif (bif mx then ilt a b else ilt b a) then some (.int k b) else some (.int k a)
  | _, _ => none

/-- What an operation yields that only computes, or reads. -/
def assertA (P : Program) (v : AV) (ty : TypeId) (okb : Bool) : Option AV :=
  match P.underlying ty with
  | none => none
  | some (.interface _) => none
  | some _ => match v with
    | .iface t u => bif Nat.beq t ty then some (bif okb then .tup [u, .bool true] else u) else bif okb then (zeroA P ty).bind fun z => some (.tup [z, .bool false]) else none
    | .nilI => bif okb then (zeroA P ty).bind fun z => some (.tup [z, .bool false]) else none
    | _ => none

def evP (C : Cx) (t : T AV) (h : T AObj) (op : Op) : Option AV :=
  match op with
  | .move x | .assign x => evO C t x
  | .pick c a b => match evO C t c with
    | some (.bool true) => evO C t a
    | some (.bool false) => evO C t b
    | _ => none
  | .load ty a => (evO C t a).bind fun v => loadA C h ty v
  | .nilCheck x => (evO C t x).bind fun v => bif notNil v then some v else none
  | .binOp op ty x y _ => (evO C t x).bind fun a => (evO C t y).bind fun b => bif guardB C.P ty x y a b then binA C.P op ty a b else none
  | .unOp op _ x => (evO C t x).bind fun a => unA op a
  | .convert s d x => (evO C t x).bind fun a => convA C h s d a
  | .makeInterface ty x => (evO C t x).bind fun a => mkIfA C.P ty a
  | .typeAssert x _ ty okb => (evO C t x).bind fun v => assertA C.P v ty okb
  | .makeFunc (.func f) first cap => (evOs C t first.toList).bind fun l => (evOs C t cap.toList).bind fun m => some (.fn f l m)
  | .slice ty x lo hi none => (evO C t x).bind fun v => (optA C t lo).bind fun l => (optA C t hi).bind fun m => sliceA C.P ty v l m
  | .fieldAddr s x f => (evO C t x).bind fun v => fieldAtA C.P s v f
  | .field s x f => (evO C t x).bind fun v => fieldA C.P s v f
  | .indexAddr ty x i => (evO C t x).bind fun v => (evO C t i).bind fun i => indexAtA C.P ty v i
  | .index ty x i => (evO C t x).bind fun v => (evO C t i).bind fun i => indexA C.P ty v i
  | .lookup ty m k ok => (evO C t m).bind fun m => (evO C t k).bind fun k => lookA C.P h ty m k ok
  | .extract x i => (evO C t x).bind fun v => extractA v i
  | .build ty parts => (evParts C t parts.toList).bind fun ps => buildA C.P ty ps
  | .call c => match c.callee with
    | .builtin .len => match c.args.toList, c.argTypes.toList with
      | [x], ty :: _ => (evO C t x).bind fun v => lenA C.P h ty v
      | _, _ => none
    | .builtin .cap => match c.args.toList, c.argTypes.toList with
      | [x], ty :: _ => (evO C t x).bind fun v => capA C.P ty v
      | _, _ => none
    | .builtin .max => match c.args.toList with
      | [x, y] => (evO C t x).bind fun v => (evO C t y).bind fun u => mm true v u
      | _ => none
    | .builtin .min => match c.args.toList with
      | [x, y] => (evO C t x).bind fun v => (evO C t y).bind fun u => mm false v u
      | _ => none
    | _ => none
  | _ => none

theorem bind_some {α β : Type} {x : Option α} {f : α → Option β} {b : β} (h : x.bind f = some b) : ∃ a, x = some a ∧ f a = some b := by
  cases x with
  | none => cases h
  | some a => exact ⟨a, rfl, h⟩

theorem assert_ok {P : Program} {G : Nat → Nat} {ρ : Env} {v u : AV} {xt ty : TypeId} {okb : Bool} {x : Value} (h : assertA P v ty okb = some u) (d : den G ρ v = some x) (w : World) :
    ∃ y, (Instr.typeAssert x xt ty okb).run P w = .ok y w ∧ den G ρ u = some y := by
  unfold assertA at h
  cases hu : P.underlying ty with
  | none => simp [hu] at h
  | some ds =>
    have fails : ∀ (st dy : Option TypeId) (ms : String), (bif okb then (zeroA P ty).bind fun z => some (.tup [z, .bool false]) else none) = some u →
        ∃ y, (if okb = true then (do pure (.tuple #[← zeroValue ty, .bool false])) else runtimePanic (.typeAssertion st dy ty ms) : Sem Value).run P w = .ok y w ∧ den G ρ u = some y := by
      intro st dy ms hh
      cases okb with
      | false => cases hh
      | true =>
        simp only [cond_true] at hh
        obtain ⟨z, hz, hh⟩ := bind_some hh
        simp only [Option.some.injEq] at hh; subst hh
        obtain ⟨zx, r1, r2⟩ := zeroA_ok hz w
        exact ⟨.tuple #[zx, .bool false], by simp [Sem.run_bind, r1, Result.andThen_ok], by simp [den, denL, r2 G ρ]⟩
    cases ds <;> simp only [hu, reduceCtorEq] at h <;> (
      cases v <;> simp only [reduceCtorEq] at h
      case iface t u' =>
        cases dx : den G ρ u' with
        | none => simp [den, dx] at d
        | some x' =>
        simp only [den, dx, Option.some.injEq] at d
        subst d
        by_cases ht : t = ty
        · subst ht
          have e1 : Nat.beq t t = true := by rw [nbeq]; simp
          rw [e1] at h
          simp only [cond_true, Option.some.injEq] at h
          subst h
          cases okb with
          | true => exact ⟨.tuple #[x', .bool true], by simp [Instr.typeAssert, Sem.run_bind, run_underlying hu, Result.andThen_ok], by simp [den, denL, dx]⟩
          | false => exact ⟨x', by simp [Instr.typeAssert, Sem.run_bind, run_underlying hu, Result.andThen_ok], dx⟩
        · have e1 : Nat.beq t ty = false := by rw [nbeq]; simp [ht]
          rw [e1] at h
          simp only [cond_false] at h
          obtain ⟨y, r1, r2⟩ := fails (some xt) (some t) "" h
          refine ⟨y, ?_, r2⟩
          rw [← r1]
          simp only [Instr.typeAssert, Sem.run_bind, run_underlying hu, Result.andThen_ok, if_neg ht]
      case nilI =>
        simp only [den, Option.some.injEq] at d
        subst d
        obtain ⟨y, r1, r2⟩ := fails (some xt) none "" h
        refine ⟨y, ?_, r2⟩
        rw [← r1]
        simp only [Instr.typeAssert, Sem.run_bind, run_underlying hu, Result.andThen_ok])

theorem optA_ok {C : Cx} {G : Nat → Nat} {w0 : World} (ok : C.Ok G w0) {ρ : Env} {t : T AV} {nt : Nat} {a : Act} (r : RelT G ρ t nt a) {x : Option Operand} {v : Option AV} (h : optA C t x = some v) :
    denO G ρ v = some (x.map a.eval) := by
  cases x with
  | none => simp [optA] at h; subst h; rfl
  | some x =>
    simp only [optA] at h
    cases h1 : evO C t x with
    | none => simp [h1] at h
    | some u => simp [h1] at h; subst h; simp [denO, evO_ok ok r h1]

theorem mm_ok {P : Program} {mx : Bool} {x y u : AV} {G : Nat → Nat} {ρ : Env} {X Y : Value} (h : mm mx x y = some u) (dx : den G ρ x = some X) (dy : den G ρ y = some Y) (w : World) :
    ∃ z, (if mx then Builtin.max2 X Y else Builtin.min2 X Y).run P w = .ok z w ∧ den G ρ u = some z := by
  cases x <;> cases y <;> simp only [mm, reduceCtorEq] at h
  rename_i k a k' b
  simp only [den, Option.some.injEq] at dx dy; subst dx dy
  cases mx
  · simp only [cond_false, ilt_eq] at h
    by_cases c : b < a
    · simp [c] at h; subst h; exact ⟨.int k b, by simp [Builtin.min2, c], rfl⟩
    · simp [c] at h; subst h; exact ⟨.int k a, by simp [Builtin.min2, c], rfl⟩
  · simp only [cond_true, ilt_eq] at h
    by_cases c : a < b
    · simp [c] at h; subst h; exact ⟨.int k b, by simp [Builtin.max2, c], rfl⟩
    · simp [c] at h; subst h; exact ⟨.int k a, by simp [Builtin.max2, c], rfl⟩

theorem list1 {α : Type} {a : Array α} {x : α} (h : a.toList = [x]) : a = #[x] := Array.ext' h
theorem list2 {α : Type} {a : Array α} {x y : α} (h : a.toList = [x, y]) : a = #[x, y] := Array.ext' h

theorem evP_ok {C : Cx} {G : Nat → Nat} {w0 : World} (ok : C.Ok G w0) {ρ : Env} {t : T AV} {nt : Nat} {a : Act} (rt : RelT G ρ t nt a) {h : T AObj} {n : Key} {w : World} (r : RelH G w0 ρ h n w) {o : Oper} {v : AV}
    (e : evP C t h o.op = some v) : ∃ x, (execOp a.eval o).run C.P w = .ok (.value x) w ∧ den G ρ v = some x := by
  have lift : ∀ {s : Sem Value} {x : Value}, s.run C.P w = .ok x w → (do pure (Next.value (← s)) : Sem Next).run C.P w = .ok (.value x) w := fun hs => by simp only [Sem.run_bind, hs, Result.andThen_ok, Sem.run_pure]
  obtain ⟨dst, op, type, pos, after, guard⟩ := o
  cases op <;> simp only [evP, reduceCtorEq] at e
  case move x => exact ⟨_, rfl, evO_ok ok rt e⟩
  case assign x => exact ⟨_, rfl, evO_ok ok rt e⟩
  case pick c x y =>
    cases hc : evO C t c with
    | none => simp [hc] at e
    | some cv =>
      have dc := evO_ok ok rt hc
      cases cv <;> simp only [hc, reduceCtorEq] at e
      rename_i b
      simp only [den, Option.some.injEq] at dc
      cases b
      · exact ⟨a.eval y, by simp [execOp, ← dc, asBool], evO_ok ok rt e⟩
      · exact ⟨a.eval x, by simp [execOp, ← dc, asBool], evO_ok ok rt e⟩
  case load ty x =>
    obtain ⟨u, h1, h2⟩ := bind_some e
    have d := evO_ok ok rt h1
    obtain ⟨b, off, y, g1, g2, g3⟩ := loadVar_ok ok r h2
    rw [g1] at d
    refine ⟨y, ?_, g3⟩
    simp only [execOp, Option.some.injEq] at d ⊢
    exact lift (by simp only [Instr.loadAt, ← d, Instr.sureAddr, Sem.run_bind, Sem.run_pure, Result.andThen_ok, g2])
  case nilCheck x =>
    obtain ⟨u, h1, h2⟩ := bind_some e
    have d := evO_ok ok rt h1
    cases hn : notNil u with
    | false => simp [hn] at h2
    | true =>
      simp [hn] at h2; subst h2
      refine ⟨a.eval x, ?_, d⟩
      rcases notNil_ok hn d with ⟨ad, e1⟩ | ⟨ty, y, e1⟩ | ⟨f, xs, ys, e1⟩ <;> simp [execOp, e1]
  case binOp op ty x y yt =>
    obtain ⟨u, h1, h2⟩ := bind_some e
    obtain ⟨u', h3, h4⟩ := bind_some h2
    have d1 := evO_ok ok rt h1
    have d2 := evO_ok ok rt h3
    cases hg : guardB C.P ty x y u u' with
    | false => simp [hg] at h4
    | true =>
      simp only [hg, cond_true] at h4
      obtain ⟨z, r1, r2⟩ := bin_ok h4 d1 d2 w
      exact ⟨z, lift (by simp only [Sem.run_bind, guard_ok hg d1 d2 w, Result.andThen_ok, r1]), r2⟩
  case unOp op ty x =>
    obtain ⟨u, h1, h2⟩ := bind_some e
    obtain ⟨z, r1, r2⟩ := un_ok (P := C.P) h2 (evO_ok ok rt h1) w
    exact ⟨z, lift r1, r2⟩
  case convert s d x =>
    obtain ⟨u, h1, h2⟩ := bind_some e
    obtain ⟨z, r1, r2⟩ := conv_ok r h2 (evO_ok ok rt h1)
    exact ⟨z, lift r1, r2⟩
  case makeInterface ty x =>
    obtain ⟨u, h1, h2⟩ := bind_some e
    obtain ⟨z, r1, r2⟩ := mkIf_ok (P := C.P) h2 (evO_ok ok rt h1) w
    exact ⟨z, lift r1, r2⟩
  case typeAssert x xt ty okb =>
    obtain ⟨u, h1, h2⟩ := bind_some e
    obtain ⟨z, r1, r2⟩ := assert_ok (P := C.P) (xt := xt) h2 (evO_ok ok rt h1) w
    exact ⟨z, lift r1, r2⟩
  case makeFunc fn first cap =>
    cases fn <;> simp only [reduceCtorEq] at e
    rename_i f
    obtain ⟨l, h1, h2⟩ := bind_some e
    obtain ⟨m, h3, h4⟩ := bind_some h2
    simp only [Option.some.injEq] at h4; subst h4
    refine ⟨.func (.func f) (first.map a.eval) (cap.map a.eval), lift rfl, ?_⟩
    simp only [den, evOs_ok ok rt h1, evOs_ok ok rt h3]
    congr 2 <;> apply Array.ext' <;> simp
  case slice ty x lo hi mx =>
    cases mx <;> simp only [reduceCtorEq] at e
    obtain ⟨u, h1, h2⟩ := bind_some e
    obtain ⟨l, h3, h4⟩ := bind_some h2
    obtain ⟨m, h5, h6⟩ := bind_some h4
    obtain ⟨z, r1, r2⟩ := slice_ok h6 (evO_ok ok rt h1) (optA_ok ok rt h3) (optA_ok ok rt h5) w
    exact ⟨z, lift r1, r2⟩
  case fieldAddr s x f =>
    obtain ⟨u, h1, h2⟩ := bind_some e
    obtain ⟨z, r1, r2⟩ := fieldAt_ok h2 (evO_ok ok rt h1) w
    exact ⟨z, lift r1, r2⟩
  case field s x f =>
    obtain ⟨u, h1, h2⟩ := bind_some e
    obtain ⟨z, r1, r2⟩ := field_ok h2 (evO_ok ok rt h1) w
    exact ⟨z, lift r1, r2⟩
  case indexAddr ty x i =>
    obtain ⟨u, h1, h2⟩ := bind_some e
    obtain ⟨u', h3, h4⟩ := bind_some h2
    obtain ⟨z, r1, r2⟩ := indexAt_ok h4 (evO_ok ok rt h1) (evO_ok ok rt h3) w
    exact ⟨z, lift r1, r2⟩
  case index ty x i =>
    obtain ⟨u, h1, h2⟩ := bind_some e
    obtain ⟨u', h3, h4⟩ := bind_some h2
    obtain ⟨z, r1, r2⟩ := index_ok h4 (evO_ok ok rt h1) (evO_ok ok rt h3) w
    exact ⟨z, lift r1, r2⟩
  case lookup ty m k okb =>
    obtain ⟨u, h1, h2⟩ := bind_some e
    obtain ⟨u', h3, h4⟩ := bind_some h2
    obtain ⟨z, r1, r2⟩ := look_ok r h4 (evO_ok ok rt h1) (evO_ok ok rt h3)
    exact ⟨z, lift r1, r2⟩
  case extract x i =>
    obtain ⟨u, h1, h2⟩ := bind_some e
    obtain ⟨z, r1, r2⟩ := extract_ok (P := C.P) h2 (evO_ok ok rt h1) w
    exact ⟨z, lift r1, r2⟩
  case build ty parts =>
    obtain ⟨ps, h1, h2⟩ := bind_some e
    obtain ⟨z, r1, r2⟩ := build_ok h2 (evParts_ok ok rt h1) w
    refine ⟨z, lift ?_, r2⟩
    rw [← r1]
    congr 2
    apply Array.ext'
    simp
  case call c =>
    obtain ⟨callee, args, argTypes⟩ := c
    cases callee <;> simp only [reduceCtorEq] at e
    rename_i bi
    cases bi <;> simp only [reduceCtorEq] at e
    case len =>
      split at e
      · rename_i x ty ts ha ht
        obtain ⟨u, h1, h2⟩ := bind_some e
        obtain ⟨z, r1, r2⟩ := len_ok (ts := ts) (ty := type) r h2 (evO_ok ok rt h1)
        have e1 := list1 ha
        have e2 : argTypes = (ty :: ts).toArray := Array.ext' (by simpa using ht)
        subst e1 e2
        refine ⟨z, ?_, r2⟩
        simp only [execOp, resolve, Sem.run_bind, Sem.run_pure, Result.andThen_ok, invoke, builtin]
        have e3 : #[x].map a.eval = #[a.eval x] := by simp
        rw [e3, r1]; rfl
      · cases e
    case cap =>
      split at e
      · rename_i x ty ts ha ht
        obtain ⟨u, h1, h2⟩ := bind_some e
        obtain ⟨z, r1, r2⟩ := cap_ok (w := w) (ts := ts) (ty := type) h2 (evO_ok ok rt h1)
        have e1 := list1 ha
        have e2 : argTypes = (ty :: ts).toArray := Array.ext' (by simpa using ht)
        subst e1 e2
        refine ⟨z, ?_, r2⟩
        simp only [execOp, resolve, Sem.run_bind, Sem.run_pure, Result.andThen_ok, invoke, builtin]
        have e3 : #[x].map a.eval = #[a.eval x] := by simp
        rw [e3, r1]; rfl
      · cases e
    case max =>
      split at e
      · rename_i x y ha
        obtain ⟨u, h1, h2⟩ := bind_some e
        obtain ⟨u', h3, h4⟩ := bind_some h2
        obtain ⟨z, r1, r2⟩ := mm_ok (P := C.P) h4 (evO_ok ok rt h1) (evO_ok ok rt h3) w
        have e1 := list2 ha
        subst e1
        refine ⟨z, ?_, r2⟩
        simp only [execOp, resolve, Sem.run_bind, Sem.run_pure, Result.andThen_ok, invoke, builtin]
        simp only [if_true] at r1
        simp [Builtin.max_, r1]
      · cases e
    case min =>
      split at e
      · rename_i x y ha
        obtain ⟨u, h1, h2⟩ := bind_some e
        obtain ⟨u', h3, h4⟩ := bind_some h2
        obtain ⟨z, r1, r2⟩ := mm_ok (P := C.P) h4 (evO_ok ok rt h1) (evO_ok ok rt h3) w
        have e1 := list2 ha
        subst e1
        refine ⟨z, ?_, r2⟩
        simp only [execOp, resolve, Sem.run_bind, Sem.run_pure, Result.andThen_ok, invoke, builtin]
        simp only [Bool.false_eq_true, if_false] at r1
        simp [Builtin.min_, r1]
      · cases e
end
end Go.Ev
