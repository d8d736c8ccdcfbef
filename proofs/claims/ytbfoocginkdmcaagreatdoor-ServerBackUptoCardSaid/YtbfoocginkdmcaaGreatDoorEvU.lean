/-
  A part of the evaluator for closed runs: proved once over any program.
-/
import Derived.Test.YtbfoocginkdmcaaGreatDoorEvQ
set_option linter.unusedVariables false
set_option linter.unusedSimpArgs false
namespace Go.Ev
noncomputable section

/- ### Equality of values with names -/
mutual
def AV.eqb : AV → AV → Bool
  | .bool a, .bool b => bif a then b else !b
  | .int k a, .int j b => bif kindEq k j then ieq a b else false
  | .str n a, .str m b => bif Nat.beq n m then Nat.beq a b else false
  | .nilP, .nilP => true
  | .ptr p a, .ptr q b => bif Key.eqb p q then Nat.beq a b else false
  | .gptr p a, .gptr q b => bif Nat.beq p q then Nat.beq a b else false
  | .nilS, .nilS => true
  | .sl p a b c, .sl q d e f => bif Key.eqb p q then (bif Nat.beq a d then (bif Nat.beq b e then Nat.beq c f else false) else false) else false
  | .slu p a b c, .slu q d e f => bif Key.eqb p q then (bif Nat.beq a d then (bif Nat.beq b e then Nat.beq c f else false) else false) else false
  | .nilM, .nilM => true
  | .map p, .map q => Key.eqb p q
  | .fn f a b, .fn g c d => bif Nat.beq f g then (bif AV.eqbL a c then AV.eqbL b d else false) else false
  | .nilF, .nilF => true
  | .iface t v, .iface u x => bif Nat.beq t u then AV.eqb v x else false
  | .nilI, .nilI => true
  | .agg l, .agg m => AV.eqbL l m
  | .tup l, .tup m => AV.eqbL l m
  | _, _ => false
def AV.eqbL : List AV → List AV → Bool
  | [], [] => true
  | a :: l, b :: m => bif AV.eqb a b then AV.eqbL l m else false
  | _, _ => false
end

theorem ieq_iff {a b : Int} (h : ieq a b = true) : a = b := by rw [ieq_eq] at h; simpa using h
theorem cond_and {a b : Bool} (h : (bif a then b else false) = true) : a = true ∧ b = true := by cases a <;> simp_all
theorem nbeq_iff {a b : Nat} (h : Nat.beq a b = true) : a = b := Nat.eq_of_beq_eq_true h
theorem keyb_iff {a b : Key} (h : Key.eqb a b = true) : a = b := (Key.eqb_iff a b).1 h

mutual
theorem AV.eqb_ok : ∀ {a b : AV}, AV.eqb a b = true → a = b
  | .bool a, b, h => by cases b <;> simp only [AV.eqb, Bool.false_eq_true] at h; rename_i c; cases a <;> cases c <;> simp_all
  | .int k a, b, h => by cases b <;> simp only [AV.eqb, Bool.false_eq_true] at h; obtain ⟨h1, h2⟩ := cond_and h; rw [kindEq_iff h1, ieq_iff h2]
  | .str n a, b, h => by cases b <;> simp only [AV.eqb, Bool.false_eq_true] at h; obtain ⟨h1, h2⟩ := cond_and h; rw [nbeq_iff h1, nbeq_iff h2]
  | .nilP, b, h => by cases b <;> simp only [AV.eqb, Bool.false_eq_true] at h; rfl
  | .ptr p a, b, h => by cases b <;> simp only [AV.eqb, Bool.false_eq_true] at h; obtain ⟨h1, h2⟩ := cond_and h; rw [keyb_iff h1, nbeq_iff h2]
  | .gptr p a, b, h => by cases b <;> simp only [AV.eqb, Bool.false_eq_true] at h; obtain ⟨h1, h2⟩ := cond_and h; rw [nbeq_iff h1, nbeq_iff h2]
  | .nilS, b, h => by cases b <;> simp only [AV.eqb, Bool.false_eq_true] at h; rfl
  | .sl p a c d, b, h => by
    cases b <;> simp only [AV.eqb, Bool.false_eq_true] at h
    obtain ⟨h1, h2⟩ := cond_and h
    obtain ⟨h2, h3⟩ := cond_and h2
    obtain ⟨h3, h4⟩ := cond_and h3
    rw [keyb_iff h1, nbeq_iff h2, nbeq_iff h3, nbeq_iff h4]
  | .slu p a c d, b, h => by
    cases b <;> simp only [AV.eqb, Bool.false_eq_true] at h
    obtain ⟨h1, h2⟩ := cond_and h
    obtain ⟨h2, h3⟩ := cond_and h2
    obtain ⟨h3, h4⟩ := cond_and h3
    rw [keyb_iff h1, nbeq_iff h2, nbeq_iff h3, nbeq_iff h4]
  | .nilM, b, h => by cases b <;> simp only [AV.eqb, Bool.false_eq_true] at h; rfl
  | .map p, b, h => by cases b <;> simp only [AV.eqb, Bool.false_eq_true] at h; rw [keyb_iff h]
  | .fn f a c, b, h => by
    cases b <;> simp only [AV.eqb, Bool.false_eq_true] at h
    obtain ⟨h1, h2⟩ := cond_and h
    obtain ⟨h2, h3⟩ := cond_and h2
    rw [nbeq_iff h1, AV.eqbL_ok h2, AV.eqbL_ok h3]
  | .nilF, b, h => by cases b <;> simp only [AV.eqb, Bool.false_eq_true] at h; rfl
  | .iface t v, b, h => by cases b <;> simp only [AV.eqb, Bool.false_eq_true] at h; obtain ⟨h1, h2⟩ := cond_and h; rw [nbeq_iff h1, AV.eqb_ok h2]
  | .nilI, b, h => by cases b <;> simp only [AV.eqb, Bool.false_eq_true] at h; rfl
  | .agg l, b, h => by cases b <;> simp only [AV.eqb, Bool.false_eq_true] at h; rw [AV.eqbL_ok h]
  | .tup l, b, h => by cases b <;> simp only [AV.eqb, Bool.false_eq_true] at h; rw [AV.eqbL_ok h]
theorem AV.eqbL_ok : ∀ {a b : List AV}, AV.eqbL a b = true → a = b
  | [], b, h => by cases b <;> simp only [AV.eqbL, Bool.false_eq_true] at h; rfl
  | a :: l, b, h => by
    cases b <;> simp only [AV.eqbL, Bool.false_eq_true] at h
    obtain ⟨h1, h2⟩ := cond_and h
    rw [AV.eqb_ok h1, AV.eqbL_ok h2]
end

/- ### What an operation looks at -/
def tmpsOf (l : List Operand) : List Nat := l.filterMap fun | .tmp t => some t | _ => none

def Agree (t t' : T AV) (l : List Nat) : Prop := ∀ s ∈ l, s < 1000000 → T.get (Key.slot s) t = T.get (Key.slot s) t'

theorem evO_congr {C : Cx} {t t' : T AV} {x : Operand} (h : Agree t t' (tmpsOf [x])) : evO C t x = evO C t' x := by
  cases x with
  | tmp i =>
    simp only [evO]
    by_cases c : i < 1000000
    · rw [h i (by simp [tmpsOf]) c]
    · have : Nat.blt i 1000000 = false := by rw [nblt, decide_eq_false_iff_not]; exact c
      rw [this]; rfl
  | _ => rfl

theorem Agree.sub {t t' : T AV} {l m : List Nat} (h : Agree t t' l) (hs : ∀ x ∈ m, x ∈ l) : Agree t t' m := fun s hs' => h s (hs s hs')

theorem tmps_mem {x : Operand} {l : List Operand} (h : x ∈ l) : ∀ s ∈ tmpsOf [x], s ∈ tmpsOf l := fun s hs => by
  simp only [tmpsOf, List.mem_filterMap, List.mem_singleton] at hs ⊢
  obtain ⟨y, rfl, hy⟩ := hs
  exact ⟨y, h, hy⟩

theorem evOs_congr {C : Cx} {t t' : T AV} : ∀ {l : List Operand}, Agree t t' (tmpsOf l) → evOs C t l = evOs C t' l
  | [], h => rfl
  | x :: l, h => by
    simp only [evOs]
    rw [evO_congr (h.sub (tmps_mem (by simp))), evOs_congr (l := l) (h.sub fun s hs => by
      simp only [tmpsOf, List.mem_filterMap] at hs ⊢
      obtain ⟨y, hy, hy'⟩ := hs
      exact ⟨y, by simp [hy], hy'⟩)]

theorem evParts_congr {C : Cx} {t t' : T AV} : ∀ {l : List (Nat × Operand)}, Agree t t' (tmpsOf (l.map (·.2))) → evParts C t l = evParts C t' l
  | [], h => rfl
  | (i, x) :: l, h => by
    simp only [evParts]
    rw [evO_congr (h.sub (tmps_mem (by simp))), evParts_congr (l := l) (h.sub fun s hs => by
      simp only [tmpsOf, List.mem_filterMap] at hs ⊢
      obtain ⟨y, hy, hy'⟩ := hs
      exact ⟨y, by simp only [List.map_cons, List.mem_cons]; exact .inr hy, hy'⟩)]

theorem optA_congr {C : Cx} {t t' : T AV} {x : Option Operand} (h : Agree t t' (tmpsOf x.toList)) : optA C t x = optA C t' x := by
  cases x with
  | none => rfl
  | some x => simp only [optA]; rw [evO_congr (by simpa using h)]

theorem evP_congr {C : Cx} {t t' : T AV} {h : T AObj} {op : Op} (ha : Agree t t' (tmpsOf op.operands.toList)) : evP C t h op = evP C t' h op := by
  have one : ∀ {x : Operand}, x ∈ op.operands.toList → evO C t x = evO C t' x := fun hx => evO_congr (ha.sub (tmps_mem hx))
  have many : ∀ {l : List Operand}, (∀ x ∈ l, x ∈ op.operands.toList) → Agree t t' (tmpsOf l) := fun hl => ha.sub fun s hs => by
    simp only [tmpsOf, List.mem_filterMap] at hs ⊢
    obtain ⟨y, hy, hy'⟩ := hs
    exact ⟨y, hl y hy, hy'⟩
  cases op <;> simp only [evP]
  case move x => exact one (by simp [Op.operands])
  case assign x => exact one (by simp [Op.operands])
  case pick c a b => rw [one (x := c) (by simp [Op.operands]), one (x := a) (by simp [Op.operands]), one (x := b) (by simp [Op.operands])]
  case load ty x => rw [one (x := x) (by simp [Op.operands])]
  case nilCheck x => rw [one (x := x) (by simp [Op.operands])]
  case binOp o ty x y yt => rw [one (x := x) (by simp [Op.operands]), one (x := y) (by simp [Op.operands])]
  case unOp o ty x => rw [one (x := x) (by simp [Op.operands])]
  case convert s d x => rw [one (x := x) (by simp [Op.operands])]
  case makeInterface ty x => rw [one (x := x) (by simp [Op.operands])]
  case typeAssert x xt ty okb => rw [one (x := x) (by simp [Op.operands])]
  case makeFunc fn first cap =>
    cases fn <;> simp only
    rw [evOs_congr (many (l := first.toList) (by intro x hx; simp [Op.operands]; left; simpa using hx)), evOs_congr (many (l := cap.toList) (by intro x hx; simp [Op.operands]; right; simpa using hx))]
  case slice ty x lo hi mx =>
    cases mx with
    | none => simp only; rw [one (x := x) (by simp [Op.operands]), optA_congr (many (l := lo.toList) (by intro y hy; simp [Op.operands] at hy ⊢; simp [hy])), optA_congr (many (l := hi.toList) (by intro y hy; simp [Op.operands] at hy ⊢; simp [hy]))]
    | some mx => simp only; rw [one (x := x) (by simp [Op.operands]), one (x := mx) (by simp [Op.operands]), optA_congr (many (l := lo.toList) (by intro y hy; simp [Op.operands] at hy ⊢; simp [hy])), optA_congr (many (l := hi.toList) (by intro y hy; simp [Op.operands] at hy ⊢; simp [hy]))]
  case fieldAddr s x f => rw [one (x := x) (by simp [Op.operands])]
  case field s x f => rw [one (x := x) (by simp [Op.operands])]
  case indexAddr ty x i => rw [one (x := x) (by simp [Op.operands]), one (x := i) (by simp [Op.operands])]
  case index ty x i => rw [one (x := x) (by simp [Op.operands]), one (x := i) (by simp [Op.operands])]
  case lookup ty m k b => rw [one (x := m) (by simp [Op.operands]), one (x := k) (by simp [Op.operands])]
  case extract x i => rw [one (x := x) (by simp [Op.operands])]
  case build ty parts => rw [evParts_congr (many (l := parts.toList.map (·.2)) (by intro x hx; simpa [Op.operands] using hx))]
  case call c =>
    obtain ⟨callee, args, ats⟩ := c
    cases callee <;> simp only
    rename_i bi
    have arg : ∀ {x : Operand}, x ∈ args.toList → evO C t x = evO C t' x := fun hx => one (by simp [Op.operands, Call.operands]; simpa using hx)
    cases bi <;> simp only
    case len =>
      split
      · rename_i x ty ts h1 h2; rw [arg (x := x) (by simp [h1])]
      · rfl
    case cap =>
      split
      · rename_i x ty ts h1 h2; rw [arg (x := x) (by simp [h1])]
      · rfl
    case max =>
      split
      · rename_i x y h1; rw [arg (x := x) (by simp [h1]), arg (x := y) (by simp [h1])]
      · rfl
    case min =>
      split
      · rename_i x y h1; rw [arg (x := x) (by simp [h1]), arg (x := y) (by simp [h1])]
      · rfl

theorem evE_congr {C : Cx} {t t' : T AV} {m : Mem} {op : Op} (ha : Agree t t' (tmpsOf op.operands.toList)) : evE C t m op = evE C t' m op := by
  have one : ∀ {x : Operand}, x ∈ op.operands.toList → evO C t x = evO C t' x := fun hx => evO_congr (ha.sub (tmps_mem hx))
  have many : ∀ {l : List Operand}, (∀ x ∈ l, x ∈ op.operands.toList) → Agree t t' (tmpsOf l) := fun hl => ha.sub fun s hs => by
    simp only [tmpsOf, List.mem_filterMap] at hs ⊢
    obtain ⟨y, hy, hy'⟩ := hs
    exact ⟨y, hl y hy, hy'⟩
  cases op <;> simp only [evE]
  case makeMap ty r => cases r <;> rfl
  case box ty x => rw [one (x := x) (by simp [Op.operands])]
  case buildSlice ty len parts => rw [evParts_congr (many (l := parts.toList.map (·.2)) (by intro x hx; simpa [Op.operands] using hx))]
  case store ty x y => rw [one (x := x) (by simp [Op.operands]), one (x := y) (by simp [Op.operands])]
  case makeSlice ty x y => rw [one (x := x) (by simp [Op.operands]), one (x := y) (by simp [Op.operands])]
  case mapUpdate ty x k y => rw [one (x := x) (by simp [Op.operands]), one (x := k) (by simp [Op.operands]), one (x := y) (by simp [Op.operands])]
  case insert ty x k y => rw [one (x := x) (by simp [Op.operands]), one (x := k) (by simp [Op.operands]), one (x := y) (by simp [Op.operands])]
  case convert s d x => rw [one (x := x) (by simp [Op.operands])]
  case range ty x => rw [one (x := x) (by simp [Op.operands])]
  case next x b => rw [one (x := x) (by simp [Op.operands])]
  case entry x => rw [one (x := x) (by simp [Op.operands])]
  case call c =>
    obtain ⟨callee, args, ats⟩ := c
    cases callee <;> simp only
    rename_i bi
    have arg : ∀ {x : Operand}, x ∈ args.toList → evO C t x = evO C t' x := fun hx => one (by simp [Op.operands, Call.operands]; simpa using hx)
    cases bi <;> simp only
    case append =>
      split
      · rename_i x y t0 t1 ts h1 h2; rw [arg (x := x) (by simp [h1]), arg (x := y) (by simp [h1])]
      · rfl
    case copy =>
      split
      · rename_i x y t0 ts h1 h2; rw [arg (x := x) (by simp [h1]), arg (x := y) (by simp [h1])]
      · rfl
    case delete =>
      split
      · rename_i x y t0 ts h1 h2; rw [arg (x := x) (by simp [h1]), arg (x := y) (by simp [h1])]
      · rfl
    case clear =>
      split
      · rename_i x t0 ts h1 h2; rw [arg (x := x) (by simp [h1])]
      · rfl
    case unsafeSliceData =>
      split
      · rename_i x h1; rw [arg (x := x) (by simp [h1])]
      · rfl
    case unsafeString =>
      split
      · rename_i x y t0 ts h1 h2; rw [arg (x := x) (by simp [h1]), arg (x := y) (by simp [h1])]
      · rfl

theorem evOp_congr {C : Cx} {call : CallF} {t t' : T AV} {m : Mem} {op : Op} (ha : Agree t t' (tmpsOf op.operands.toList)) : evOp C call t m op = evOp C call t' m op := by
  rw [evOp_def, evOp_def]
  cases hi : isCall op with
  | none => simp only; rw [evP_congr ha, evE_congr ha]
  | some c =>
    obtain ⟨ho, f, hf⟩ := isCall_some hi
    simp only [hf]
    subst ho
    have one : ∀ {x : Operand}, x ∈ (Op.call c).operands.toList → evO C t x = evO C t' x := fun hx => evO_congr (ha.sub (tmps_mem hx))
    have e1 : (Op.call c).operands.toList = f :: c.args.toList := by simp [Op.operands, Call.operands, hf]
    rw [e1] at ha
    rw [one (x := f) (by rw [e1]; simp), evOs_congr (l := c.args.toList) (ha.sub fun s hs => by
      simp only [tmpsOf, List.mem_filterMap] at hs ⊢
      obtain ⟨y, hy, hy'⟩ := hs
      exact ⟨y, by simp only [List.mem_cons]; exact .inr hy, hy'⟩)]

/-- Does the operation look at memory? -/
def readsH (op : Op) : Bool :=
  match op with
  | .load .. | .lookup .. | .convert .. => true
  | .call _ => true
  | _ => false

theorem evP_indep {C : Cx} {t : T AV} {h h' : T AObj} {op : Op} (hr : readsH op = false) : evP C t h op = evP C t h' op := by
  cases op
  case makeFunc f a b => cases f <;> rfl
  case slice a b c d e => cases e <;> rfl
  all_goals first | rfl | (simp [readsH] at hr)
end
end Go.Ev
set_option linter.unusedVariables false
set_option linter.unusedSimpArgs false
namespace Go.Ev
noncomputable section

/- ### A region in drawn order -/
def restr (t : T AV) : List Nat → T AV
  | [] => .leaf
  | s :: l => bif Nat.blt s 1000000 then T.put (Key.slot s) (T.get (Key.slot s) t) (restr t l) else restr t l

theorem restr_get {t : T AV} : ∀ {l : List Nat} {i : Nat} {v : AV}, i < 1000000 → T.get (Key.slot i) (restr t l) = some v → i ∈ l ∧ T.get (Key.slot i) t = some v
  | [], i, v, hi, h => by simp [restr, T.get_leaf] at h
  | s :: l, i, v, hi, h => by
    simp only [restr, nblt] at h
    by_cases c : s < 1000000
    · simp only [c, decide_true, cond_true, T.get_put] at h
      by_cases e : Key.slot i = Key.slot s
      · obtain rfl := Key.slot_inj hi c e
        simp at h
        exact ⟨by simp, h⟩
      · rw [if_neg e] at h
        obtain ⟨h1, h2⟩ := restr_get hi h
        exact ⟨by simp [h1], h2⟩
    · simp only [c, decide_false, cond_false] at h
      obtain ⟨h1, h2⟩ := restr_get hi h
      exact ⟨by simp [h1], h2⟩

theorem restr_agree {t : T AV} : ∀ {l : List Nat}, Agree (restr t l) t l
  | [], s, hs, _ => by simp at hs
  | x :: l, s, hs, hlt => by
    simp only [restr, nblt]
    by_cases c : x < 1000000
    · simp only [c, decide_true, cond_true, T.get_put]
      by_cases e : Key.slot s = Key.slot x
      · rw [if_pos e, e]
      · rw [if_neg e]
        rcases List.mem_cons.1 hs with rfl | h
        · exact absurd rfl e
        · exact restr_agree s h hlt
    · simp only [c, decide_false, cond_false]
      rcases List.mem_cons.1 hs with rfl | h
      · exact absurd hlt c
      · exact restr_agree s h hlt

def gT (ops : List Oper) (g : Option (Nat × Bool)) : List Nat :=
  match g with
  | none => []
  | some (j, _) => match nth ops j with
    | some o => match o.dst with
      | some d => [d]
      | none => []
    | none => []

theorem wantA_congr {ops : List Oper} {t t' : T AV} {g : Option (Nat × Bool)} (h : Agree t t' (gT ops g)) : wantA ops t g = wantA ops t' g := by
  cases g with
  | none => rfl
  | some jb =>
    obtain ⟨j, b⟩ := jb
    simp only [wantA]
    simp only [gT] at h
    cases hn : nth ops j with
    | none => rfl
    | some o =>
      simp only [hn] at h
      cases hd : o.dst with
      | none => simp only [hd]
      | some d =>
        simp only [hd] at h ⊢
        by_cases c : d < 1000000
        · rw [h d (by simp) c]
        · have : Nat.blt d 1000000 = false := by rw [nblt, decide_eq_false_iff_not]; exact c
          rw [this]; rfl

def looks (ops : List Oper) (o : Oper) : List Nat := gT ops o.guard ++ tmpsOf o.op.operands.toList

/-- What a check of a region's run in the order of its text gives. -/
structure Plan (C : Cx) (call : CallF) (nt : Nat) (ops : Array Oper) (t0 : T AV) (m0 : Mem) (t1 : T AV) (m1 : Mem) where
  Tf : Nat → T AV
  M : Nat → Mem
  R : Nat → Nat → Prop
  K : Nat → Nat
  V : Nat → AV
  T0 : Tf 0 = t0
  M0 : M 0 = m0
  Tn : Tf ops.size = t1
  Mn : M ops.size = m1
  back : ∀ j o, ops[j]? = some o → ∀ e ∈ o.after, Region.binds .any e = true → e.on < j
  reach : ∀ j o i, ops[j]? = some o → R j i → ∃ e ∈ o.after, Region.binds .any e = true ∧ (i = e.on ∨ R e.on i)
  look1 : ∀ i j oi oj, i < j → ops[i]? = some oi → ops[j]? = some oj → R j i ∨ ((∀ d, oi.dst = some d → d ∉ looks ops.toList oj ∧ oj.dst ≠ some d) ∧ (∀ d, oj.dst = some d → d ∉ looks ops.toList oi) ∧ ¬ (K i = 2 ∧ K j = 2))
  put : ∀ j o, ops[j]? = some o → putT nt (Tf j) o.dst (V j) = some (Tf (j + 1))
  still : ∀ j, j < ops.size → K j ≠ 2 → M (j + 1) = M j
  kind : ∀ j o, ops[j]? = some o →
    (wantA ops.toList (Tf j) o.guard = some false ∧ V j = .tup [] ∧ K j = 0) ∨
    (wantA ops.toList (Tf j) o.guard = some true ∧ K j = 1 ∧ ∀ p, p ≤ ops.size → (p = 0 ∨ (0 < p ∧ K (p - 1) = 2)) → (∀ i, i < ops.size → K i = 2 → R j i → i < p) → (∀ i, i < p → K i = 2 → ¬ R i j) → evOp C call (Tf j) (M p) o.op = some (V j, M p)) ∨
    (wantA ops.toList (Tf j) o.guard = some true ∧ K j = 2 ∧ evOp C call (Tf j) (M j) o.op = some (V j, M (j + 1)))

theorem count_set : ∀ {l : List Bool} {i : Nat}, l[i]? = some false → (l.set i true).count false + 1 = l.count false
  | [], i, h => by simp at h
  | b :: l, 0, h => by simp at h; subst h; simp
  | b :: l, i + 1, h => by
    simp at h
    have := count_set h
    cases b <;> simp at * <;> omega

section
variable {C : Cx} {G : Nat → Nat} {w0 : World} {call : CallF} {nt : Nat} {ops : Array Oper} {t0 t1 : T AV} {m0 m1 : Mem}

structure Inv (pl : Plan C call nt ops t0 m0 t1 m1) (G : Nat → Nat) (w0 : World) (D : List Deferred) (ρ0 : Env) (wb : World) (listed : Array Bool) (p : Nat) (ρ : Env) (a : Act) (w : World) : Prop where
  size : listed.size = ops.size
  closed : ∀ j, j < ops.size → listed.getD j false = true → ∀ i, pl.R j i → listed.getD i false = true
  edge : p = 0 ∨ (0 < p ∧ pl.K (p - 1) = 2)
  le : p ≤ ops.size
  chain : ∀ i, i < ops.size → pl.K i = 2 → (listed.getD i false = true ↔ i < p)
  rh : RelH G w0 ρ (pl.M p).h (pl.M p).n w
  fr : Fr ρ0 m0.h wb ρ (pl.M p).h w
  tmps : ∀ s, s < 1000000 → ∀ j, j ≤ ops.size → (∀ i o, ops[i]? = some o → o.dst = some s → (listed.getD i false = true ↔ i < j)) → ∀ v, T.get (Key.slot s) (pl.Tf j) = some v → den G ρ v = some (a.tmps.getD s undef)
  room : nt ≤ a.tmps.size
  defers : a.defers = D

theorem Plan.Mconst (pl : Plan C call nt ops t0 m0 t1 m1) {p : Nat} : ∀ {q : Nat}, q ≤ ops.size → p ≤ q → (∀ i, p ≤ i → i < q → pl.K i ≠ 2) → pl.M p = pl.M q
  | 0, _, hp, _ => by
    have h0 : p = 0 := by omega
    rw [h0]
  | q + 1, hq, hp, h => by
    by_cases c : p = q + 1
    · rw [c]
    · rw [pl.still q (by omega) (h q (by omega) (by omega))]
      exact Plan.Mconst pl (by omega) (by omega) fun i h1 h2 => h i h1 (by omega)

/-- A slot keeps its value while nobody writes it. -/
theorem Plan.Tconst (pl : Plan C call nt ops t0 m0 t1 m1) (hnt : nt ≤ 1000000) {s : Nat} (hs : s < 1000000) {p : Nat} : ∀ {q : Nat}, q ≤ ops.size → p ≤ q → (∀ i o, p ≤ i → i < q → ops[i]? = some o → o.dst ≠ some s) → T.get (Key.slot s) (pl.Tf q) = T.get (Key.slot s) (pl.Tf p)
  | 0, _, hp, _ => by
    have h0 : p = 0 := by omega
    rw [h0]
  | q + 1, hq, hp, h => by
    by_cases c : p = q + 1
    · rw [c]
    · rw [← Plan.Tconst pl hnt hs (q := q) (by omega) (by omega) fun i o h1 h2 => h i o h1 (by omega)]
      have hlt : q < ops.size := by omega
      have ho : ops[q]? = some ops[q] := by simp [hlt]
      have hput := pl.put q _ ho
      have hne := h q _ (by omega) (by omega) ho
      cases hd : ops[q].dst with
      | none => rw [hd] at hput; simp only [putT, Option.some.injEq] at hput; rw [hput]
      | some d =>
        rw [hd] at hput hne
        simp only [putT] at hput
        obtain ⟨hk, hput⟩ := cond_some hput
        rw [nblt, decide_eq_true_iff] at hk
        simp only [T.putK_eq, Option.some.injEq] at hput
        rw [← hput, T.get_put, if_neg]
        intro e
        exact hne (by rw [Key.slot_inj hs (by omega) e])

theorem Plan.Tput (pl : Plan C call nt ops t0 m0 t1 m1) (hnt : nt ≤ 1000000) {j s : Nat} {o : Oper} (ho : ops[j]? = some o) (hd : o.dst = some s) : s < nt ∧ T.get (Key.slot s) (pl.Tf (j + 1)) = some (pl.V j) := by
  have hput := pl.put j o ho
  rw [hd] at hput
  simp only [putT] at hput
  obtain ⟨hk, hput⟩ := cond_some hput
  rw [nblt, decide_eq_true_iff] at hk
  simp only [T.putK_eq, Option.some.injEq] at hput
  exact ⟨hk, by rw [← hput, T.get_put, if_pos rfl]⟩

theorem getD_set {listed : Array Bool} {i j : Nat} (hi : i < listed.size) : (listed.setIfInBounds i true).getD j false = true ↔ j = i ∨ listed.getD j false = true := by
  by_cases c : i = j
  · subst c; simp [hi]
  · simp only [Array.getD_eq_getD_getElem?, Array.getElem?_setIfInBounds_ne c]
    constructor
    · exact .inr
    · rintro (h | h)
      · exact absurd h.symm c
      · exact h

theorem Plan.any (pl : Plan C call nt ops t0 m0 t1 m1) (ok : C.Fine G w0) (hc : CallsOK G w0 C.P call) (hnt : nt ≤ 1000000) {ro : Option Nat} {D : List Deferred} {Q : Exit → Act → World → Prop} {ρ0 : Env} {wb : World}
    (k : ∀ ρ' a' w', RelT G ρ' t1 nt a' → a'.defers = D → RelH G w0 ρ' m1.h m1.n w' → Fr ρ0 m0.h wb ρ' m1.h w' → Q .normal a' w') :
    ∀ (fuel : Nat) (listed : Array Bool) (p : Nat) (ρ : Env) (a : Act) (w : World), listed.toList.count false = fuel → Inv pl G w0 D ρ0 wb listed p ρ a w → wpAnyIn (FW ro) 0 C.P .any ops Q fuel listed a w := by
  have fin : ∀ (listed : Array Bool) (p : Nat) (ρ : Env) (a : Act) (w : World), Inv pl G w0 D ρ0 wb listed p ρ a w → Region.ready .any ops listed = [] → (∀ i, i < ops.size → listed.getD i false = true) ∧ Q .normal a w := by
    intro listed p ρ a w I hr
    have all : ∀ i, i < ops.size → listed.getD i false = true := by
      intro i
      induction i using Nat.strongRecOn with
      | ind i ih =>
        intro hi
        cases hb : listed.getD i false with
        | true => rfl
        | false =>
          exfalso
          have hmem : i ∈ Region.ready .any ops listed := by
            rw [mem_ready]
            refine ⟨?_, ops[i], by simp [hi], fun e he hbi => ?_⟩
            · have hlt : i < listed.size := by rw [I.size]; exact hi
              simpa [hlt] using hb
            · have := pl.back i ops[i] (by simp [hi]) e he hbi
              exact ih e.on this (by omega)
          rw [hr] at hmem
          cases hmem
    refine ⟨all, ?_⟩
    have hp : pl.M p = m1 := by
      refine Eq.trans (pl.Mconst (Nat.le_refl _) I.le fun i h1 h2 h3 => ?_) pl.Mn
      have := (I.chain i h2 h3).1 (all i h2)
      omega
    have hrh := I.rh
    have hfr := I.fr
    rw [hp] at hrh hfr
    refine k ρ a w ⟨fun s v hs hv => ?_, I.room⟩ I.defers hrh hfr
    refine I.tmps s hs ops.size (Nat.le_refl _) (fun i o ho hd => ?_) v (by rw [pl.Tn]; exact hv)
    have hlt : i < ops.size := (Array.getElem?_eq_some_iff.1 ho).1
    exact ⟨fun _ => hlt, fun _ => all i hlt⟩
  intro fuel
  induction fuel with
  | zero =>
    intro listed p ρ a w hcnt I
    have hr : Region.ready .any ops listed = [] := by
      cases h : Region.ready .any ops listed with
      | nil => rfl
      | cons x xs =>
        exfalso
        have hm : x ∈ Region.ready .any ops listed := by rw [h]; simp
        rw [mem_ready] at hm
        obtain ⟨hf, o, ho, _⟩ := hm
        have hlt : x < ops.size := (Array.getElem?_eq_some_iff.1 ho).1
        have hlt' : x < listed.size := by rw [I.size]; exact hlt
        have hf' : listed[x] = false := by simpa [hlt'] using hf
        have hmem : false ∈ listed.toList := by
          rw [← hf']; simp
        have : 0 < listed.toList.count false := List.count_pos_iff.2 hmem
        omega
    exact ⟨hr, (fin listed p ρ a w I hr).2⟩
  | succ fuel ih =>
    intro listed p ρ a w hcnt I
    refine ⟨fun hr => (fin listed p ρ a w I hr).2, fun i hi => ?_⟩
    rw [mem_ready] at hi
    obtain ⟨hf, o, ho, hpre⟩ := hi
    have hlt : i < ops.size := (Array.getElem?_eq_some_iff.1 ho).1
    have hlt' : i < listed.size := by rw [I.size]; exact hlt
    have hnot : listed.getD i false = false := by simpa [hlt'] using hf
    -- what is reached is listed
    have hreach : ∀ x, pl.R i x → listed.getD x false = true := by
      intro x hx
      obtain ⟨e, he, hb, h⟩ := pl.reach i o x ho hx
      rcases h with rfl | h
      · exact hpre e he hb
      · exact I.closed e.on (by have := pl.back i o ho e he hb; omega) (hpre e he hb) x h
    -- nobody listed reaches it
    have hunreach : ∀ y, y < ops.size → listed.getD y false = true → ¬ pl.R y i := by
      intro y hy hl hr
      have := I.closed y hy hl i hr
      rw [hnot] at this; cases this
    have hcnt' : (listed.setIfInBounds i true).toList.count false = fuel := by
      have h1 : listed.toList[i]? = some false := by
        rw [Array.getElem?_toList, Array.getElem?_eq_getElem hlt']
        congr 1
        simpa [hlt'] using hf
      have := count_set h1
      rw [Array.toList_setIfInBounds]
      omega
    have closed' : ∀ j, j < ops.size → (listed.setIfInBounds i true).getD j false = true → ∀ x, pl.R j x → (listed.setIfInBounds i true).getD x false = true := by
      intro j hj hl x hx
      rw [getD_set hlt'] at hl ⊢
      rcases hl with rfl | hl
      · exact .inr (hreach x hx)
      · exact .inr (I.closed j hj hl x hx)
    -- the values that it looks at
    have hlook : ∀ s, s < 1000000 → s ∈ looks ops.toList o → ∀ v, T.get (Key.slot s) (pl.Tf i) = some v → den G ρ v = some (a.tmps.getD s undef) := by
      intro s hs hm
      refine I.tmps s hs i (by omega) fun x ox hox hdx => ?_
      have hx : x < ops.size := (Array.getElem?_eq_some_iff.1 hox).1
      rcases Nat.lt_trichotomy x i with h | rfl | h
      · refine ⟨fun _ => h, fun _ => ?_⟩
        rcases pl.look1 x i ox o h hox ho with hr | ⟨h1, _⟩
        · exact hreach x hr
        · exact absurd hm (h1 s hdx).1
      · exact ⟨fun h => (by rw [hnot] at h; cases h), fun h => absurd h (Nat.lt_irrefl _)⟩
      · refine ⟨fun hl => ?_, fun h' => by omega⟩
        exfalso
        rcases pl.look1 i x o ox h ho hox with hr | ⟨_, h2, _⟩
        · exact hunreach x hx hl hr
        · exact h2 s hdx hm
    have rt : RelT G ρ (restr (pl.Tf i) (looks ops.toList o)) nt a := ⟨fun s v hs hv => by
      obtain ⟨h1, h2⟩ := restr_get hs hv
      exact hlook s hs h1 v h2, I.room⟩
    have hag : Agree (restr (pl.Tf i) (looks ops.toList o)) (pl.Tf i) (looks ops.toList o) := restr_agree
    have hag1 := hag.sub (m := gT ops.toList o.guard) (by intro s hs; simp [looks, hs])
    have hag2 := hag.sub (m := tmpsOf o.op.operands.toList) (by intro s hs; simp [looks, hs])
    -- the next state
    have tmps' : ∀ {ρ' : Env} {x : Value}, ρ.le ρ' → den G ρ' (pl.V i) = some x → ∀ s, s < 1000000 → ∀ j, j ≤ ops.size → (∀ y oy, ops[y]? = some oy → oy.dst = some s → ((listed.setIfInBounds i true).getD y false = true ↔ y < j)) → ∀ v, T.get (Key.slot s) (pl.Tf j) = some v → den G ρ' v = some ((a.put o.dst x).tmps.getD s undef) := by
      intro ρ' x hle dx s hs j hj hw v hv
      by_cases hd : o.dst = some s
      · have hij : i < j := (hw i o ho hd).1 (by rw [getD_set hlt']; exact .inl rfl)
        obtain ⟨hs', hput⟩ := pl.Tput hnt ho hd
        have hkeep := pl.Tconst hnt hs (p := i + 1) (q := j) hj (by omega) fun y oy h1 h2 hoy hdy => by
          have hl := (hw y oy hoy hdy).2 h2
          rw [getD_set hlt'] at hl
          have hy : y < ops.size := (Array.getElem?_eq_some_iff.1 hoy).1
          rcases hl with rfl | hl
          · omega
          · rcases pl.look1 i y o oy (by omega) ho hoy with hr | ⟨h3, _⟩
            · exact hunreach y hy hl hr
            · exact (h3 s hd).2 hdy
        rw [hkeep, hput] at hv
        simp only [Option.some.injEq] at hv; subst hv
        rw [dx, hd]
        have hroom := I.room
        simp [Act.put, Nat.lt_of_lt_of_le hs' hroom]
      · have e1 := I.tmps s hs j hj (fun y oy hoy hdy => by
          rw [← hw y oy hoy hdy, getD_set hlt']
          refine ⟨.inr, fun hh => hh.elim (fun hy => ?_) id⟩
          subst hy
          rw [ho] at hoy
          cases hoy
          exact absurd hdy hd) v hv
        rw [den_mono hle e1]
        cases hdd : o.dst with
        | none => rfl
        | some d =>
          have hne : d ≠ s := fun e => hd (by rw [hdd, e])
          simp [Act.put, Array.getElem?_setIfInBounds_ne hne]
    have room' : ∀ x, nt ≤ (a.put o.dst x).tmps.size := by
      intro x
      have := I.room
      cases o.dst <;> simpa [Act.put] using this
    have defers' : ∀ x, (a.put o.dst x).defers = D := by
      intro x
      have := I.defers
      cases o.dst <;> simpa [Act.put] using this
    have chain1 : pl.K i ≠ 2 → ∀ y, y < ops.size → pl.K y = 2 → ((listed.setIfInBounds i true).getD y false = true ↔ y < p) := by
      intro hk y hy hky
      rw [getD_set hlt', ← I.chain y hy hky]
      constructor
      · rintro (rfl | h)
        · exact absurd hky hk
        · exact h
      · exact .inr
    unfold wpOpIn
    simp only [ho]
    rcases pl.kind i o ho with ⟨hw, hv, hk⟩ | ⟨hw, hk, he⟩ | ⟨hw, hk, he⟩
    · rw [← wantA_congr hag1] at hw
      rw [wantA_ok rt rt.size hw]
      simp only [Bool.false_eq_true, if_false]
      refine ⟨fun _ _ => trivial, ih _ p ρ _ w hcnt' ⟨by simp [I.size], closed', I.edge, I.le, chain1 (by omega), I.rh, I.fr, ?_, room' _, defers' _⟩⟩
      exact tmps' (Env.le_refl _) (by rw [hv]; rfl)
    · rw [← wantA_congr hag1] at hw
      rw [wantA_ok rt rt.size hw]
      simp only [if_true]
      have hev := he p I.le I.edge (fun y hy hky hr => (I.chain y hy hky).1 (hreach y hr)) (fun y hy hky hr => hunreach y (by have := I.le; omega) ((I.chain y (by have := I.le; omega) hky).2 hy) hr)
      rw [← evOp_congr hag2] at hev
      refine evOp_wp ok hc rt I.rh hev fun ρ' w' x dx r' f' => ?_
      exact ih _ p ρ' _ w' hcnt' ⟨by simp [I.size], closed', I.edge, I.le, chain1 (by omega), r', I.fr.trans f', tmps' f'.ext dx, room' _, defers' _⟩
    · rw [← wantA_congr hag1] at hw
      rw [wantA_ok rt rt.size hw]
      simp only [if_true]
      have hpi : p ≤ i := by
        rcases Nat.lt_or_ge i p with h | h
        · have := (I.chain i hlt hk).2 h
          rw [hnot] at this; cases this
        · exact h
      have hbefore : ∀ y, y < i → pl.K y = 2 → listed.getD y false = true := by
        intro y hy hky
        have hy' : y < ops.size := by omega
        rcases pl.look1 y i ops[y] o hy (by simp [hy']) ho with hr | ⟨_, _, h3⟩
        · exact hreach y hr
        · exact absurd ⟨hky, hk⟩ h3
      have hM : pl.M p = pl.M i := pl.Mconst (by omega) hpi fun y h1 h2 hky => by
        have := (I.chain y (by omega) hky).1 (hbefore y h2 hky)
        omega
      rw [← hM, ← evOp_congr hag2] at he
      refine evOp_wp ok hc rt I.rh he fun ρ' w' x dx r' f' => ?_
      refine ih _ (i + 1) ρ' _ w' hcnt' ⟨by simp [I.size], closed', .inr ⟨by omega, by simpa using hk⟩, by omega, ?_, r', I.fr.trans f', tmps' f'.ext dx, room' _, defers' _⟩
      intro y hy hky
      rw [getD_set hlt']
      constructor
      · rintro (rfl | h)
        · omega
        · have := (I.chain y hy hky).1 h
          omega
      · intro h
        by_cases e : y = i
        · exact .inl e
        · exact .inr (hbefore y (by omega) hky)
end
end
end Go.Ev
set_option linter.unusedVariables false
set_option linter.unusedSimpArgs false
namespace Go.Ev
noncomputable section

/- ### The check of a region in drawn order -/
def optL : Option Operand → List Operand → List Operand
  | none, l => l
  | some x, l => x :: l
def appL : List Operand → List Operand → List Operand
  | [], m => m
  | x :: l, m => x :: appL l m
def opL (op : Op) : List Operand :=
  match op with
  | .slice _ x l h m => x :: optL l (optL h (optL m []))
  | .makeFunc _ f c => appL f.toList c.toList
  | .call c => match c.callee with
    | .value f => f :: c.args.toList
    | .invoke r _ => r :: c.args.toList
    | .builtin _ => c.args.toList
  | op => op.operands.toList

theorem appL_eq : ∀ {l m : List Operand}, appL l m = l ++ m
  | [], m => rfl
  | x :: l, m => by simp [appL, appL_eq]
theorem optL_eq {x : Option Operand} {l : List Operand} : optL x l = x.toList ++ l := by cases x <;> rfl
theorem opL_eq (op : Op) : op.operands.toList = opL op := by
  cases op
  case slice a b c d e => simp [opL, Op.operands, optL_eq]
  case makeFunc a b c => simp [opL, Op.operands, appL_eq]
  case call c =>
    obtain ⟨callee, args, ats⟩ := c
    cases callee <;> simp [opL, Op.operands, Call.operands]
  all_goals rfl

def oM : Operand → Nat
  | .tmp s => Nat.pow 2 s
  | _ => 0
def mks : List Operand → Nat
  | [] => 0
  | x :: l => Nat.lor (oM x) (mks l)
def dM : Option Nat → Nat
  | none => 0
  | some d => Nat.pow 2 d
def gM (ops : List Oper) (g : Option (Nat × Bool)) : Nat :=
  match g with
  | none => 0
  | some (j, _) => match nth ops j with
    | some o => dM o.dst
    | none => 0

theorem lor_bit {a b i : Nat} : (Nat.lor a b).testBit i = (a.testBit i || b.testBit i) := Nat.testBit_or a b i
theorem land_bit {a b i : Nat} : (Nat.land a b).testBit i = (a.testBit i && b.testBit i) := Nat.testBit_and a b i
theorem pow_bit {a i : Nat} : (Nat.pow 2 a).testBit i = decide (a = i) := Nat.testBit_two_pow

theorem mks_bit : ∀ {l : List Operand} {s : Nat}, s ∈ tmpsOf l → (mks l).testBit s = true
  | [], s, h => by simp [tmpsOf] at h
  | x :: l, s, h => by
    simp only [mks, lor_bit, Bool.or_eq_true]
    simp only [tmpsOf, List.mem_filterMap, List.mem_cons] at h
    obtain ⟨y, hy, hs⟩ := h
    rcases hy with rfl | hy
    · left
      cases y <;> simp at hs
      subst hs
      simp [oM, pow_bit]
    · right
      exact mks_bit (by simp only [tmpsOf, List.mem_filterMap]; exact ⟨y, hy, hs⟩)

theorem gM_bit {ops : List Oper} {g : Option (Nat × Bool)} {s : Nat} (h : s ∈ gT ops g) : (gM ops g).testBit s = true := by
  cases g with
  | none => simp [gT] at h
  | some jb =>
    obtain ⟨j, b⟩ := jb
    simp only [gT] at h
    simp only [gM]
    cases hn : nth ops j with
    | none => simp [hn] at h
    | some o =>
      simp only [hn] at h ⊢
      cases hd : o.dst with
      | none => simp [hd] at h
      | some d =>
        simp [hd] at h; subst h
        simp [dM, pow_bit]

theorem land_zero {a b i : Nat} (h : Nat.beq (Nat.land a b) 0 = true) (h1 : a.testBit i = true) (h2 : b.testBit i = true) : False := by
  have := congrArg (fun x => Nat.testBit x i) (nbeq_iff h)
  simp [land_bit, h1, h2] at this

theorem land_pow {a i : Nat} (h : Nat.beq (Nat.land a (Nat.pow 2 i)) 0 = false) : a.testBit i = true := by
  cases hb : a.testBit i with
  | true => rfl
  | false =>
    have : Nat.land a (Nat.pow 2 i) = 0 := by
      apply Nat.eq_of_testBit_eq
      intro j
      rw [land_bit, pow_bit]
      by_cases c : i = j
      · subst c; simp [hb]
      · simp [c]
    rw [this] at h
    cases h

def bindsA (e : Edge) : Bool :=
  match e.ground with
  | .textOnly _ => false
  | .gcOnly _ => false
  | _ => true

theorem bindsA_eq (e : Edge) : Region.binds .any e = bindsA e := by
  unfold Region.binds bindsA
  cases e.ground <;> rfl

structure Rec where
  o : Oper
  b : Nat
  R : Nat
  lk : Nat
  dm : Nat
  k : Nat
  v : AV
  t : T AV
  m : Mem
  c : Nat
  s : Nat
  key : Key
  N : T AObj
  N' : T AObj

def cOf : List Rec → Nat
  | [] => 0
  | r :: _ => r.c
def sOf : List Rec → Nat
  | [] => 0
  | r :: _ => r.s

def recAt : List Rec → Nat → Option Rec
  | [], _ => none
  | r :: acc, i => if i = acc.length then some r else recAt acc i

theorem recAt_lt : ∀ {l : List Rec} {i : Nat} {r : Rec}, recAt l i = some r → i < l.length
  | [], i, r, h => by simp [recAt] at h
  | x :: l, i, r, h => by
    simp only [recAt] at h
    split at h
    · simp; omega
    · have := recAt_lt h; simp; omega

theorem recAt_some : ∀ {l : List Rec} {i : Nat}, i < l.length → ∃ r, recAt l i = some r
  | [], i, h => by simp at h
  | x :: l, i, h => by
    simp only [recAt]
    split
    · exact ⟨_, rfl⟩
    · simp at h; exact recAt_some (by omega)

theorem recAt_nth : ∀ {l : List Rec} {i j : Nat}, j = l.length → i < j → nth l (Nat.sub j (Nat.succ i)) = recAt l i
  | [], i, j, hj, hi => by simp at hj; omega
  | x :: l, i, j, hj, hi => by
    rw [nth_eq]
    simp only [recAt]
    simp at hj
    by_cases c : i = l.length
    · rw [if_pos c]
      have : Nat.sub j (Nat.succ i) = 0 := by show j - (i + 1) = 0; omega
      rw [this]; rfl
    · rw [if_neg c, ← recAt_nth (l := l) rfl (by omega), nth_eq]
      have : Nat.sub j (Nat.succ i) = Nat.sub l.length (Nat.succ i) + 1 := by show j - (i + 1) = l.length - (i + 1) + 1; omega
      rw [this]; rfl

def edgeR (acc : List Rec) (j : Nat) : List Edge → Nat → Option Nat
  | [], r => some r
  | e :: es, r => bif bindsA e then (bif Nat.blt e.on j then (match nth acc (Nat.sub j (Nat.succ e.on)) with
      | some x => fN (Nat.lor r (Nat.lor x.b x.R)) fun r => edgeR acc j es r
      | none => none) else none) else edgeR acc j es r

def apartB (lk dm : Nat) (ch : Bool) (r : Rec) : Bool :=
  bif Nat.beq (Nat.land r.dm (Nat.lor lk dm)) 0 then (bif Nat.beq (Nat.land dm r.lk) 0 then (bif ch then !(Nat.beq r.k 2) else true) else false) else false

def prevOK (R lk dm : Nat) (ch : Bool) : List Rec → Bool
  | [] => true
  | r :: rs => bif Nat.beq (Nat.land R r.b) 0 then (bif apartB lk dm ch r then prevOK R lk dm ch rs else false) else prevOK R lk dm ch rs

def stepD (C : Cx) (call : CallF) (t : T AV) (m : Mem) (op : Op) : Option (Bool × AV × Mem) :=
  match isCall op with
  | some _ => match evOp C call t m op with
    | some (v, m) => some (true, v, m)
    | none => none
  | none => match evPk op C t m.h with
    | some v => some (false, v, m)
    | none => match evEk op C t m with
      | some (v, m) => some (true, v, m)
      | none => none

theorem stepD_def (C : Cx) (call : CallF) (t : T AV) (m : Mem) (op : Op) : stepD C call t m op = match isCall op with
  | some _ => match evOp C call t m op with
    | some (v, m) => some (true, v, m)
    | none => none
  | none => match evP C t m.h op with
    | some v => some (false, v, m)
    | none => match evE C t m op with
      | some (v, m) => some (true, v, m)
      | none => none := by
  unfold stepD
  rw [evPk_eq, evEk_eq]

def runD (C : Cx) (call : CallF) (nt : Nat) (ops : List Oper) : List Oper → Nat → Nat → List Rec → T AV → Mem → Option (List Rec × T AV × Mem)
  | [], j, b, acc, t, m => some (acc, t, m)
  | o :: os, j, b, acc, t, m => match edgeR acc j o.after.toList 0 with
    | none => none
    | some R => fN (Nat.lor (gM ops o.guard) (mks (opL o.op))) fun lk => fN (dM o.dst) fun dm => match wantA ops t o.guard with
      | none => none
      | some false => bif prevOK R lk dm false acc then (match putT nt t o.dst (.tup []) with
        | none => none
        | some t' => fN (Nat.succ j) fun j => fN (Nat.mul 2 b) fun b' => fN (cOf acc) fun c => fN (sOf acc) fun s => runD C call nt ops os j b' (⟨o, b, R, lk, dm, 0, .tup [], t, m, c, s, .h, .leaf, .leaf⟩ :: acc) t' m) else none
      | some true => match stepD C call t m o.op with
        | none => none
        | some (ch, v, m') => bif prevOK R lk dm ch acc then (match putT nt t o.dst v with
          | none => none
          | some t' => fN (Nat.succ j) fun j => fN (Nat.mul 2 b) fun b' => bif ch then
              fN (Nat.lor (cOf acc) b) fun c => fN (Nat.lor (sOf acc) R) fun s => runD C call nt ops os j b' (⟨o, b, R, lk, dm, 2, v, t, m, c, s, .h, .leaf, .leaf⟩ :: acc) t' m'
            else fN (cOf acc) fun c => fN (sOf acc) fun s => runD C call nt ops os j b' (⟨o, b, R, lk, dm, 1, v, t, m, c, s, .h, .leaf, .leaf⟩ :: acc) t' m') else none

/- The same by the recursor, in small pieces. -/
abbrev RunD := Nat → Nat → List Rec → T AV → Mem → Option (List Rec × T AV × Mem)

def dPut (o : Oper) (k : RunD) (j b : Nat) (acc : List Rec) (t : T AV) (m : Mem) (R lk dm : Nat) (ch : Bool) (v : AV) (m' : Mem) (t' : T AV) : Option (List Rec × T AV × Mem) :=
  fN (Nat.succ j) fun j => fN (Nat.mul 2 b) fun b' => bif ch then
      fN (Nat.lor (cOf acc) b) fun c => fN (Nat.lor (sOf acc) R) fun s => k j b' (⟨o, b, R, lk, dm, 2, v, t, m, c, s, .h, .leaf, .leaf⟩ :: acc) t' m'
    else fN (cOf acc) fun c => fN (sOf acc) fun s => k j b' (⟨o, b, R, lk, dm, 1, v, t, m, c, s, .h, .leaf, .leaf⟩ :: acc) t' m'

def dTrue (o : Oper) (k : RunD) (C : Cx) (call : CallF) (nt j b : Nat) (acc : List Rec) (t : T AV) (m : Mem) (R lk dm : Nat) : Option (List Rec × T AV × Mem) :=
  match stepD C call t m o.op with
  | none => none
  | some (ch, v, m') => bif prevOK R lk dm ch acc then (match putT nt t o.dst v with
    | none => none
    | some t' => dPut o k j b acc t m R lk dm ch v m' t') else none

def dFalse (o : Oper) (k : RunD) (nt j b : Nat) (acc : List Rec) (t : T AV) (m : Mem) (R lk dm : Nat) : Option (List Rec × T AV × Mem) :=
  bif prevOK R lk dm false acc then (match putT nt t o.dst (.tup []) with
    | none => none
    | some t' => fN (Nat.succ j) fun j => fN (Nat.mul 2 b) fun b' => fN (cOf acc) fun c => fN (sOf acc) fun s => k j b' (⟨o, b, R, lk, dm, 0, .tup [], t, m, c, s, .h, .leaf, .leaf⟩ :: acc) t' m) else none

def dStep (o : Oper) (k : RunD) (C : Cx) (call : CallF) (nt : Nat) (ops : List Oper) (j b : Nat) (acc : List Rec) (t : T AV) (m : Mem) : Option (List Rec × T AV × Mem) :=
  match edgeR acc j o.after.toList 0 with
  | none => none
  | some R => fN (Nat.lor (gM ops o.guard) (mks (opL o.op))) fun lk => fN (dM o.dst) fun dm => match wantA ops t o.guard with
    | none => none
    | some false => dFalse o k nt j b acc t m R lk dm
    | some true => dTrue o k C call nt j b acc t m R lk dm

def runDk (l : List Oper) : Cx → CallF → Nat → List Oper → RunD :=
  List.rec (motive := fun _ => Cx → CallF → Nat → List Oper → RunD) (fun _ _ _ _ _ _ acc t m => some (acc, t, m)) (fun o _ ih C call nt ops j b acc t m => dStep o (ih C call nt ops) C call nt ops j b acc t m) l

theorem runDk_eq (C : Cx) (call : CallF) (nt : Nat) (ops : List Oper) : ∀ (l : List Oper) (j b : Nat) (acc : List Rec) (t : T AV) (m : Mem), runDk l C call nt ops j b acc t m = runD C call nt ops l j b acc t m
  | [], j, b, acc, t, m => rfl
  | o :: l, j, b, acc, t, m => by
    have ih : runDk l C call nt ops = runD C call nt ops l := funext fun j => funext fun b => funext fun acc => funext fun t => funext fun m => runDk_eq C call nt ops l j b acc t m
    show dStep o (runDk l C call nt ops) C call nt ops j b acc t m = _
    rw [ih]
    simp only [dStep, dFalse, dTrue, dPut, runD]

def bnd : List Rec → Mem → List (Nat × Nat × Mem)
  | [], m => [(0, 0, m)]
  | r :: acc, m => bif Nat.beq r.k 2 then (r.c, r.s, m) :: bnd acc r.m else bnd acc r.m

def rdAt (C : Cx) (r : Rec) (c : Nat) : List (Nat × Nat × Mem) → Bool
  | [] => true
  | (cp, sp, mp) :: l => bif (bif Nat.beq cp r.c then true else bif Nat.beq (Nat.land r.R c) (Nat.land r.R cp) then (bif Nat.beq (Nat.land sp r.b) 0 then (match evP C r.t mp.h r.o.op with
      | some v => AV.eqb v r.v
      | none => false) else true) else true) then rdAt C r c l else false

def rdOK (C : Cx) (c : Nat) (B : List (Nat × Nat × Mem)) : List Rec → Bool
  | [] => true
  | r :: l => bif Nat.beq r.k 1 then (bif readsH r.o.op then (bif rdAt C r c B then rdOK C c B l else false) else rdOK C c B l) else rdOK C c B l

def fL2 {α β : Type} (l : List α) (c : List α → β) : β := fL l c

def drawn (C : Cx) (call : CallF) (nt : Nat) (ops : Array Oper) (t : T AV) (m : Mem) : Option (T AV × Mem) :=
  match runDk ops.toList C call nt ops.toList 0 1 [] t m with
  | none => none
  | some (rs, t', m') => fL (bnd rs m') fun B => bif rdOK C (cOf rs) B rs then some (t', m') else none

theorem drawn_def (C : Cx) (call : CallF) (nt : Nat) (ops : Array Oper) (t : T AV) (m : Mem) : drawn C call nt ops t m = match runD C call nt ops.toList ops.toList 0 1 [] t m with
  | none => none
  | some (rs, t', m') => fL (bnd rs m') fun B => bif rdOK C (cOf rs) B rs then some (t', m') else none := by
  unfold drawn
  rw [runDk_eq]

/- ### It is right -/
structure RecOK (C : Cx) (call : CallF) (nt : Nat) (ops : Array Oper) (r : Rec) (acc : List Rec) (t : T AV) (m : Mem) : Prop where
  at_ : ops[acc.length]? = some r.o
  b : r.b = Nat.pow 2 acc.length
  back : ∀ e ∈ r.o.after, Region.binds .any e = true → e.on < acc.length
  reach : ∀ i, r.R.testBit i = true → ∃ e ∈ r.o.after, Region.binds .any e = true ∧ (i = e.on ∨ ∃ x, recAt acc e.on = some x ∧ x.R.testBit i = true)
  lk : ∀ s ∈ looks ops.toList r.o, r.lk.testBit s = true
  dm : ∀ d, r.o.dst = some d → r.dm.testBit d = true
  prev : ∀ i x, recAt acc i = some x → r.R.testBit i = true ∨ ((∀ s, x.dm.testBit s = true → r.lk.testBit s = false ∧ r.dm.testBit s = false) ∧ (∀ s, r.dm.testBit s = true → x.lk.testBit s = false) ∧ ¬ (x.k = 2 ∧ r.k = 2))
  put : putT nt r.t r.o.dst r.v = some t
  still : r.k ≠ 2 → m = r.m
  c : r.c = if r.k = 2 then Nat.lor (cOf acc) r.b else cOf acc
  s : r.s = if r.k = 2 then Nat.lor (sOf acc) r.R else sOf acc
  kind : (wantA ops.toList r.t r.o.guard = some false ∧ r.v = .tup [] ∧ r.k = 0) ∨
    (wantA ops.toList r.t r.o.guard = some true ∧ r.k = 1 ∧ isCall r.o.op = none ∧ evP C r.t r.m.h r.o.op = some r.v) ∨
    (wantA ops.toList r.t r.o.guard = some true ∧ r.k = 2 ∧ evOp C call r.t r.m r.o.op = some (r.v, m))

def Good (C : Cx) (call : CallF) (nt : Nat) (ops : Array Oper) (t0 : T AV) (m0 : Mem) : List Rec → T AV → Mem → Prop
  | [], t, m => t = t0 ∧ m = m0
  | r :: acc, t, m => RecOK C call nt ops r acc t m ∧ Good C call nt ops t0 m0 acc r.t r.m

section
variable {C : Cx} {call : CallF} {nt : Nat} {ops : Array Oper} {t0 : T AV} {m0 : Mem}

theorem Good.bits {t : T AV} {m : Mem} : ∀ {acc : List Rec} {t : T AV} {m : Mem}, Good C call nt ops t0 m0 acc t m → ∀ i x, recAt acc i = some x → x.b = Nat.pow 2 i
  | [], t, m, g, i, x, h => by simp [recAt] at h
  | r :: acc, t, m, g, i, x, h => by
    simp only [recAt] at h
    split at h
    · rename_i c; cases h; rw [c]; exact g.1.b
    · exact Good.bits (t := t) (m := m) g.2 i x h

theorem edgeR_ok {acc : List Rec} {j : Nat} (hj : j = acc.length) (hb : ∀ i x, recAt acc i = some x → x.b = Nat.pow 2 i) : ∀ {es : List Edge} {r R : Nat}, edgeR acc j es r = some R →
    (∀ e ∈ es, Region.binds .any e = true → e.on < j) ∧ ∀ i, R.testBit i = true → r.testBit i = true ∨ ∃ e ∈ es, Region.binds .any e = true ∧ (i = e.on ∨ ∃ x, recAt acc e.on = some x ∧ x.R.testBit i = true)
  | [], r, R, h => by
    simp only [edgeR, Option.some.injEq] at h
    subst h
    exact ⟨fun e he => (by cases he), fun i hi => .inl hi⟩
  | e :: es, r, R, h => by
    simp only [edgeR] at h
    cases hbe : bindsA e with
    | false =>
      simp only [hbe, cond_false] at h
      obtain ⟨h1, h2⟩ := edgeR_ok hj hb h
      refine ⟨fun f hf hbf => ?_, fun i hi => ?_⟩
      · rcases List.mem_cons.1 hf with rfl | hf
        · rw [bindsA_eq, hbe] at hbf; cases hbf
        · exact h1 f hf hbf
      · rcases h2 i hi with h | ⟨f, hf, hh⟩
        · exact .inl h
        · exact .inr ⟨f, by simp [hf], hh⟩
    | true =>
      simp only [hbe, cond_true] at h
      obtain ⟨hlt, h⟩ := cond_some h
      rw [nblt, decide_eq_true_iff] at hlt
      rw [recAt_nth hj hlt] at h
      cases hx : recAt acc e.on with
      | none => simp [hx] at h
      | some x =>
        simp only [hx, fN_eq] at h
        obtain ⟨h1, h2⟩ := edgeR_ok hj hb h
        refine ⟨fun f hf hbf => ?_, fun i hi => ?_⟩
        · rcases List.mem_cons.1 hf with rfl | hf
          · exact hlt
          · exact h1 f hf hbf
        · rcases h2 i hi with h | ⟨f, hf, hh⟩
          · rw [lor_bit, lor_bit, hb _ _ hx, pow_bit] at h
            simp only [Bool.or_eq_true, decide_eq_true_iff] at h
            rcases h with h | h | h
            · exact .inl h
            · exact .inr ⟨e, by simp, by rw [bindsA_eq, hbe], .inl h.symm⟩
            · exact .inr ⟨e, by simp, by rw [bindsA_eq, hbe], .inr ⟨x, hx, h⟩⟩
          · exact .inr ⟨f, by simp [hf], hh⟩

theorem prevOK_ok {R lk dm k : Nat} {ch : Bool} (hk : k = 2 → ch = true) : ∀ {acc : List Rec}, (∀ i x, recAt acc i = some x → x.b = Nat.pow 2 i) → prevOK R lk dm ch acc = true →
    ∀ i x, recAt acc i = some x → R.testBit i = true ∨ ((∀ s, x.dm.testBit s = true → lk.testBit s = false ∧ dm.testBit s = false) ∧ (∀ s, dm.testBit s = true → x.lk.testBit s = false) ∧ ¬ (x.k = 2 ∧ k = 2))
  | [], hb, h, i, x, hx => by simp [recAt] at hx
  | r :: acc, hb, h, i, x, hx => by
    have hb' : ∀ i x, recAt acc i = some x → x.b = Nat.pow 2 i := fun i x h => hb i x (by
      simp only [recAt]
      have := recAt_lt h
      rw [if_neg (by omega)]; exact h)
    simp only [prevOK] at h
    have hr : r.b = Nat.pow 2 acc.length := hb acc.length r (by simp [recAt])
    simp only [recAt] at hx
    cases hz : Nat.beq (Nat.land R r.b) 0 with
    | true =>
      simp only [hz, cond_true] at h
      obtain ⟨ha, h⟩ := cond_and h
      split at hx
      · cases hx
        right
        unfold apartB at ha
        obtain ⟨h1, ha⟩ := cond_and ha
        obtain ⟨h2, ha⟩ := cond_and ha
        refine ⟨fun s hs => ?_, fun s hs => ?_, fun hkk => ?_⟩
        · have := fun hh => land_zero (i := s) h1 hs hh
          rw [lor_bit] at this
          cases hl : lk.testBit s <;> cases hd : dm.testBit s <;> simp_all
        · cases hl : r.lk.testBit s with
          | false => rfl
          | true => exact (land_zero h2 hs hl).elim
        · rw [hk hkk.2, hkk.1] at ha
          simp at ha
      · exact prevOK_ok hk hb' h i x hx
    | false =>
      simp only [hz, cond_false] at h
      split at hx
      · rename_i c
        left
        rw [hr] at hz
        rw [c]
        exact land_pow hz
      · exact prevOK_ok hk hb' h i x hx

theorem looks_bit {ops : List Oper} {o : Oper} {s : Nat} (h : s ∈ looks ops o) : (Nat.lor (gM ops o.guard) (mks (opL o.op))).testBit s = true := by
  rw [lor_bit, Bool.or_eq_true]
  rcases List.mem_append.1 h with h | h
  · exact .inl (gM_bit h)
  · rw [opL_eq] at h
    exact .inr (mks_bit h)

theorem dM_bit {d : Nat} {x : Option Nat} (h : x = some d) : (dM x).testBit d = true := by
  subst h; simp [dM, pow_bit]

theorem runD_ok : ∀ (l : List Oper) {j b : Nat} {acc rs : List Rec} {t t' : T AV} {m m' : Mem}, j = acc.length → b = Nat.pow 2 acc.length → ops.toList.drop acc.length = l → Good C call nt ops t0 m0 acc t m →
    runD C call nt ops.toList l j b acc t m = some (rs, t', m') → Good C call nt ops t0 m0 rs t' m' ∧ rs.length = acc.length + l.length
  | [], j, b, acc, rs, t, t', m, m', hj, hb, hl, g, h => by
    simp only [runD, Option.some.injEq, Prod.mk.injEq] at h
    obtain ⟨rfl, rfl, rfl⟩ := h
    exact ⟨g, by simp⟩
  | o :: os, j, b, acc, rs, t, t', m, m', hj, hb, hl, g, h => by
    have ho : ops[acc.length]? = some o := by
      rw [← Array.getElem?_toList]
      have := congrArg (fun l => l[0]?) hl
      simpa using this
    have hl' : ops.toList.drop (acc.length + 1) = os := by
      have := congrArg List.tail hl
      simpa using this
    have hbits := Good.bits (t := t) (m := m) g
    simp only [runD] at h
    cases hR : edgeR acc j o.after.toList 0 with
    | none => simp [hR] at h
    | some R =>
      simp only [hR, fN_eq] at h
      obtain ⟨hback, hreach⟩ := edgeR_ok hj hbits hR
      have back : ∀ e ∈ o.after, Region.binds .any e = true → e.on < acc.length := fun e he hbi => by rw [← hj]; exact hback e (by simpa using he) hbi
      have reach : ∀ i, R.testBit i = true → ∃ e ∈ o.after, Region.binds .any e = true ∧ (i = e.on ∨ ∃ x, recAt acc e.on = some x ∧ x.R.testBit i = true) := fun i hi => by
        rcases hreach i hi with h | ⟨e, he, h⟩
        · simp at h
        · exact ⟨e, by simpa using he, h⟩
      cases hw : wantA ops.toList t o.guard with
      | none => simp [hw] at h
      | some w =>
        cases w with
        | false =>
          simp only [hw] at h
          obtain ⟨hp, h⟩ := cond_some h
          cases hput : putT nt t o.dst (.tup []) with
          | none => simp [hput] at h
          | some t1 =>
            simp only [hput] at h
            have hg : Good C call nt ops t0 m0 (⟨o, b, R, _, _, 0, .tup [], t, m, cOf acc, sOf acc, .h, .leaf, .leaf⟩ :: acc) t1 m := ⟨⟨ho, hb, back, reach, fun s hs => looks_bit hs, fun d hd => dM_bit hd, prevOK_ok (k := 0) (by omega) hbits hp, hput, fun _ => rfl, rfl, rfl, .inl ⟨hw, rfl, rfl⟩⟩, g⟩
            have := runD_ok os (by simp [hj]) (by simp [hb]; show 2 * 2 ^ acc.length = 2 ^ (acc.length + 1); rw [Nat.pow_succ]; omega) (by simp only [List.length_cons]; exact hl') hg h
            exact ⟨this.1, by rw [this.2]; simp; omega⟩
        | true =>
          simp only [hw] at h
          cases hs : stepD C call t m o.op with
          | none => simp [hs] at h
          | some res =>
            obtain ⟨ch, v, m1⟩ := res
            simp only [hs] at h
            obtain ⟨hp, h⟩ := cond_some h
            cases hput : putT nt t o.dst v with
            | none => simp [hput] at h
            | some t1 =>
              simp only [hput] at h
              rw [stepD_def] at hs
              cases ch with
              | true =>
                simp only [cond_true] at h
                have hev : evOp C call t m o.op = some (v, m1) := by
                  cases hi : isCall o.op with
                  | some c =>
                    simp only [hi] at hs
                    cases he : evOp C call t m o.op with
                    | none => simp [he] at hs
                    | some vm => simp [he] at hs; obtain ⟨rfl, rfl⟩ := hs; rfl
                  | none =>
                    simp only [hi] at hs
                    rw [evOp_def]
                    simp only [hi]
                    cases he : evP C t m.h o.op with
                    | some u => simp [he] at hs
                    | none =>
                      simp only [he] at hs ⊢
                      cases he' : evE C t m o.op with
                      | none => simp [he'] at hs
                      | some vm => simp [he'] at hs; obtain ⟨rfl, rfl⟩ := hs; rfl
                have hg : Good C call nt ops t0 m0 (⟨o, b, R, _, _, 2, v, t, m, Nat.lor (cOf acc) b, Nat.lor (sOf acc) R, .h, .leaf, .leaf⟩ :: acc) t1 m1 := ⟨⟨ho, hb, back, reach, fun s hs => looks_bit hs, fun d hd => dM_bit hd, prevOK_ok (k := 2) (fun _ => rfl) hbits hp, hput, fun h => absurd rfl h, rfl, rfl, .inr (.inr ⟨hw, rfl, hev⟩)⟩, g⟩
                have := runD_ok os (by simp [hj]) (by simp [hb]; show 2 * 2 ^ acc.length = 2 ^ (acc.length + 1); rw [Nat.pow_succ]; omega) (by simp only [List.length_cons]; exact hl') hg h
                exact ⟨this.1, by rw [this.2]; simp; omega⟩
              | false =>
                simp only [cond_false] at h
                have hev : isCall o.op = none ∧ evP C t m.h o.op = some v ∧ m1 = m := by
                  cases hi : isCall o.op with
                  | some c =>
                    simp only [hi] at hs
                    cases he : evOp C call t m o.op <;> simp [he] at hs
                  | none =>
                    simp only [hi] at hs
                    cases he : evP C t m.h o.op with
                    | some u => simp [he] at hs; exact ⟨rfl, by rw [hs.1], hs.2.symm⟩
                    | none =>
                      simp only [he] at hs
                      cases he' : evE C t m o.op <;> simp [he'] at hs
                obtain ⟨hic, hev, rfl⟩ := hev
                have hg : Good C call nt ops t0 m0 (⟨o, b, R, _, _, 1, v, t, m1, cOf acc, sOf acc, .h, .leaf, .leaf⟩ :: acc) t1 m1 := ⟨⟨ho, hb, back, reach, fun s hs => looks_bit hs, fun d hd => dM_bit hd, prevOK_ok (k := 1) (by omega) hbits hp, hput, fun _ => rfl, rfl, rfl, .inr (.inl ⟨hw, rfl, hic, hev⟩)⟩, g⟩
                have := runD_ok os (by simp [hj]) (by simp [hb]; show 2 * 2 ^ acc.length = 2 ^ (acc.length + 1); rw [Nat.pow_succ]; omega) (by simp only [List.length_cons]; exact hl') hg h
                exact ⟨this.1, by rw [this.2]; simp; omega⟩
end
end
end Go.Ev
