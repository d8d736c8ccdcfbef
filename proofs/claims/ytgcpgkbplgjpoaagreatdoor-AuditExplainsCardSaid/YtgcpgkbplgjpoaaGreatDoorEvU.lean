/-
  A part of the evaluator for closed runs: proved once over any program.
-/
import Derived.Test.YtgcpgkbplgjpoaaGreatDoorEvT
set_option linter.unusedVariables false
set_option linter.unusedSimpArgs false
namespace Go.Ev
noncomputable section

/-! ### Equality of values with names -/
mutual
def AV.eqb : AV → AV → Bool
  | .bool a, .bool b => bif a then b else !b
  | .int k a, .int j b => bif kindEq k j then ieq a b else false
  | .str n a, .str m b => bif Nat.beq n m then Nat.beq a b else false
  | .nilP, .nilP => true
  | .ptr p a, .ptr q b => bif Key.eqb p q then Nat.beq a b else false
  | .gptr p a, .gptr q b => bif Nat.beq p q then Nat.beq a b else false
  | .nilS, .nilS => true
  | .sl p a b c, .sl q d e f => bif Key.eqb p q then (bif Nat.beq a d then (bif Nat.beq b e then Nat.beq c f else false) else false) else false
  | .slu p a b c, .slu q d e f => bif Key.eqb p q then (bif Nat.beq a d then (bif Nat.beq b e then Nat.beq c f else false) else false) else false
  | .nilM, .nilM => true
  | .map p, .map q => Key.eqb p q
  | .fn f a b, .fn g c d => bif Nat.beq f g then (bif AV.eqbL a c then AV.eqbL b d else false) else false
  | .nilF, .nilF => true
  | .iface t v, .iface u x => bif Nat.beq t u then AV.eqb v x else false
  | .nilI, .nilI => true
  | .agg l, .agg m => AV.eqbL l m
  | .tup l, .tup m => AV.eqbL l m
  | _, _ => false
def AV.eqbL : List AV → List AV → Bool
  | [], [] => true
  | a :: l, b :: m => bif AV.eqb a b then AV.eqbL l m else false
  | _, _ => false
end

theorem ieq_iff {a b : Int} (h : ieq a b = true) : a = b := by rw [ieq_eq] at h; simpa using h
theorem cond_and {a b : Bool} (h : (bif a then b else false) = true) : a = true ∧ b = true := by cases a <;> simp_all
theorem nbeq_iff {a b : Nat} (h : Nat.beq a b = true) : a = b := Nat.eq_of_beq_eq_true h
theorem keyb_iff {a b : Key} (h : Key.eqb a b = true) : a = b := (Key.eqb_iff a b).1 h

mutual
theorem AV.eqb_ok : ∀ {a b : AV}, AV.eqb a b = true → a = b
  | .bool a, b, h => by cases b <;> simp only [AV.eqb, Bool.false_eq_true] at h; rename_i c; cases a <;> cases c <;> simp_all
  | .int k a, b, h => by cases b <;> simp only [AV.eqb, Bool.false_eq_true] at h; obtain ⟨h1, h2⟩ := cond_and h; rw [kindEq_iff h1, ieq_iff h2]
  | .str n a, b, h => by cases b <;> simp only [AV.eqb, Bool.false_eq_true] at h; obtain ⟨h1, h2⟩ := cond_and h; rw [nbeq_iff h1, nbeq_iff h2]
  | .nilP, b, h => by cases b <;> simp only [AV.eqb, Bool.false_eq_true] at h; rfl
  | .ptr p a, b, h => by cases b <;> simp only [AV.eqb, Bool.false_eq_true] at h; obtain ⟨h1, h2⟩ := cond_and h; rw [keyb_iff h1, nbeq_iff h2]
  | .gptr p a, b, h => by cases b <;> simp only [AV.eqb, Bool.false_eq_true] at h; obtain ⟨h1, h2⟩ := cond_and h; rw [nbeq_iff h1, nbeq_iff h2]
  | .nilS, b, h => by cases b <;> simp only [AV.eqb, Bool.false_eq_true] at h; rfl
  | .sl p a c d, b, h => by
    cases b <;> simp only [AV.eqb, Bool.false_eq_true] at h
    obtain ⟨h1, h2⟩ := cond_and h
    obtain ⟨h2, h3⟩ := cond_and h2
    obtain ⟨h3, h4⟩ := cond_and h3
    rw [keyb_iff h1, nbeq_iff h2, nbeq_iff h3, nbeq_iff h4]
  | .slu p a c d, b, h => by
    cases b <;> simp only [AV.eqb, Bool.false_eq_true] at h
    obtain ⟨h1, h2⟩ := cond_and h
    obtain ⟨h2, h3⟩ := cond_and h2
    obtain ⟨h3, h4⟩ := cond_and h3
    rw [keyb_iff h1, nbeq_iff h2, nbeq_iff h3, nbeq_iff h4]
  | .nilM, b, h => by cases b <;> simp only [AV.eqb, Bool.false_eq_true] at h; rfl
  | .map p, b, h => by cases b <;> simp only [AV.eqb, Bool.false_eq_true] at h; rw [keyb_iff h]
  | .fn f a c, b, h => by
    cases b <;> simp only [AV.eqb, Bool.false_eq_true] at h
    obtain ⟨h1, h2⟩ := cond_and h
    obtain ⟨h2, h3⟩ := cond_and h2
    rw [nbeq_iff h1, AV.eqbL_ok h2, AV.eqbL_ok h3]
  | .nilF, b, h => by cases b <;> simp only [AV.eqb, Bool.false_eq_true] at h; rfl
  | .iface t v, b, h => by cases b <;> simp only [AV.eqb, Bool.false_eq_true] at h; obtain ⟨h1, h2⟩ := cond_and h; rw [nbeq_iff h1, AV.eqb_ok h2]
  | .nilI, b, h => by cases b <;> simp only [AV.eqb, Bool.false_eq_true] at h; rfl
  | .agg l, b, h => by cases b <;> simp only [AV.eqb, Bool.false_eq_true] at h; rw [AV.eqbL_ok h]
  | .tup l, b, h => by cases b <;> simp only [AV.eqb, Bool.false_eq_true] at h; rw [AV.eqbL_ok h]
theorem AV.eqbL_ok : ∀ {a b : List AV}, AV.eqbL a b = true → a = b
  | [], b, h => by cases b <;> simp only [AV.eqbL, Bool.false_eq_true] at h; rfl
  | a :: l, b, h => by
    cases b <;> simp only [AV.eqbL, Bool.false_eq_true] at h
    obtain ⟨h1, h2⟩ := cond_and h
    rw [AV.eqb_ok h1, AV.eqbL_ok h2]
end

/-! ### What an operation looks at -/
def tmpsOf (l : List Operand) : List Nat := l.filterMap fun | .tmp t => some t | _ => none

def Agree (t t' : T AV) (l : List Nat) : Prop := ∀ s ∈ l, s < 1000000 → T.get (Key.slot s) t = T.get (Key.slot s) t'

theorem evO_congr {C : Cx} {t t' : T AV} {x : Operand} (h : Agree t t' (tmpsOf [x])) : evO C t x = evO C t' x := by
  cases x with
  | tmp i =>
    simp only [evO]
    by_cases c : i < 1000000
    · rw [h i (by simp [tmpsOf]) c]
    · have : Nat.blt i 1000000 = false := by rw [nblt, decide_eq_false_iff_not]; exact c
      rw [this]; rfl
  | _ => rfl

theorem Agree.sub {t t' : T AV} {l m : List Nat} (h : Agree t t' l) (hs : ∀ x ∈ m, x ∈ l) : Agree t t' m := fun s hs' => h s (hs s hs')

theorem tmps_mem {x : Operand} {l : List Operand} (h : x ∈ l) : ∀ s ∈ tmpsOf [x], s ∈ tmpsOf l := fun s hs => by
  simp only [tmpsOf, List.mem_filterMap, List.mem_singleton] at hs ⊢
  obtain ⟨y, rfl, hy⟩ := hs
  exact ⟨y, h, hy⟩

theorem evOs_congr {C : Cx} {t t' : T AV} : ∀ {l : List Operand}, Agree t t' (tmpsOf l) → evOs C t l = evOs C t' l
  | [], h => rfl
  | x :: l, h => by
    simp only [evOs]
    rw [evO_congr (h.sub (tmps_mem (by simp))), evOs_congr (l := l) (h.sub fun s hs => by
      simp only [tmpsOf, List.mem_filterMap] at hs ⊢
      obtain ⟨y, hy, hy'⟩ := hs
      exact ⟨y, by simp [hy], hy'⟩)]

theorem evParts_congr {C : Cx} {t t' : T AV} : ∀ {l : List (Nat × Operand)}, Agree t t' (tmpsOf (l.map (·.2))) → evParts C t l = evParts C t' l
  | [], h => rfl
  | (i, x) :: l, h => by
    simp only [evParts]
    rw [evO_congr (h.sub (tmps_mem (by simp))), evParts_congr (l := l) (h.sub fun s hs => by
      simp only [tmpsOf, List.mem_filterMap] at hs ⊢
      obtain ⟨y, hy, hy'⟩ := hs
      exact ⟨y, by simp only [List.map_cons, List.mem_cons]; exact .inr hy, hy'⟩)]

theorem optA_congr {C : Cx} {t t' : T AV} {x : Option Operand} (h : Agree t t' (tmpsOf x.toList)) : optA C t x = optA C t' x := by
  cases x with
  | none => rfl
  | some x => simp only [optA]; rw [evO_congr (by simpa using h)]

theorem evP_congr {C : Cx} {t t' : T AV} {h : T AObj} {op : Op} (ha : Agree t t' (tmpsOf op.operands.toList)) : evP C t h op = evP C t' h op := by
  have one : ∀ {x : Operand}, x ∈ op.operands.toList → evO C t x = evO C t' x := fun hx => evO_congr (ha.sub (tmps_mem hx))
  have many : ∀ {l : List Operand}, (∀ x ∈ l, x ∈ op.operands.toList) → Agree t t' (tmpsOf l) := fun hl => ha.sub fun s hs => by
    simp only [tmpsOf, List.mem_filterMap] at hs ⊢
    obtain ⟨y, hy, hy'⟩ := hs
    exact ⟨y, hl y hy, hy'⟩
  cases op <;> simp only [evP]
  case move x => exact one (by simp [Op.operands])
  case assign x => exact one (by simp [Op.operands])
  case pick c a b => rw [one (x := c) (by simp [Op.operands]), one (x := a) (by simp [Op.operands]), one (x := b) (by simp [Op.operands])]
  case load ty x => rw [one (x := x) (by simp [Op.operands])]
  case nilCheck x => rw [one (x := x) (by simp [Op.operands])]
  case binOp o ty x y yt => rw [one (x := x) (by simp [Op.operands]), one (x := y) (by simp [Op.operands])]
  case unOp o ty x => rw [one (x := x) (by simp [Op.operands])]
  case convert s d x => rw [one (x := x) (by simp [Op.operands])]
  case makeInterface ty x => rw [one (x := x) (by simp [Op.operands])]
  case typeAssert x xt ty okb => rw [one (x := x) (by simp [Op.operands])]
  case makeFunc fn first cap =>
    cases fn <;> simp only
    rw [evOs_congr (many (l := first.toList) (by intro x hx; simp [Op.operands]; left; simpa using hx)), evOs_congr (many (l := cap.toList) (by intro x hx; simp [Op.operands]; right; simpa using hx))]
  case slice ty x lo hi mx =>
    cases mx <;> simp only
    rw [one (x := x) (by simp [Op.operands]), optA_congr (many (l := lo.toList) (by intro y hy; simp [Op.operands] at hy ⊢; simp [hy])), optA_congr (many (l := hi.toList) (by intro y hy; simp [Op.operands] at hy ⊢; simp [hy]))]
  case fieldAddr s x f => rw [one (x := x) (by simp [Op.operands])]
  case field s x f => rw [one (x := x) (by simp [Op.operands])]
  case indexAddr ty x i => rw [one (x := x) (by simp [Op.operands]), one (x := i) (by simp [Op.operands])]
  case index ty x i => rw [one (x := x) (by simp [Op.operands]), one (x := i) (by simp [Op.operands])]
  case lookup ty m k b => rw [one (x := m) (by simp [Op.operands]), one (x := k) (by simp [Op.operands])]
  case extract x i => rw [one (x := x) (by simp [Op.operands])]
  case build ty parts => rw [evParts_congr (many (l := parts.toList.map (·.2)) (by intro x hx; simpa [Op.operands] using hx))]
  case call c =>
    obtain ⟨callee, args, ats⟩ := c
    cases callee <;> simp only
    rename_i bi
    have arg : ∀ {x : Operand}, x ∈ args.toList → evO C t x = evO C t' x := fun hx => one (by simp [Op.operands, Call.operands]; simpa using hx)
    cases bi <;> simp only
    case len =>
      split
      · rename_i x ty ts h1 h2; rw [arg (x := x) (by simp [h1])]
      · rfl
    case cap =>
      split
      · rename_i x ty ts h1 h2; rw [arg (x := x) (by simp [h1])]
      · rfl
    case max =>
      split
      · rename_i x y h1; rw [arg (x := x) (by simp [h1]), arg (x := y) (by simp [h1])]
      · rfl
    case min =>
      split
      · rename_i x y h1; rw [arg (x := x) (by simp [h1]), arg (x := y) (by simp [h1])]
      · rfl

theorem evE_congr {C : Cx} {t t' : T AV} {m : Mem} {op : Op} (ha : Agree t t' (tmpsOf op.operands.toList)) : evE C t m op = evE C t' m op := by
  have one : ∀ {x : Operand}, x ∈ op.operands.toList → evO C t x = evO C t' x := fun hx => evO_congr (ha.sub (tmps_mem hx))
  have many : ∀ {l : List Operand}, (∀ x ∈ l, x ∈ op.operands.toList) → Agree t t' (tmpsOf l) := fun hl => ha.sub fun s hs => by
    simp only [tmpsOf, List.mem_filterMap] at hs ⊢
    obtain ⟨y, hy, hy'⟩ := hs
    exact ⟨y, hl y hy, hy'⟩
  cases op <;> simp only [evE]
  case makeMap ty r => cases r <;> rfl
  case box ty x => rw [one (x := x) (by simp [Op.operands])]
  case buildSlice ty len parts => rw [evParts_congr (many (l := parts.toList.map (·.2)) (by intro x hx; simpa [Op.operands] using hx))]
  case store ty x y => rw [one (x := x) (by simp [Op.operands]), one (x := y) (by simp [Op.operands])]
  case makeSlice ty x y => rw [one (x := x) (by simp [Op.operands]), one (x := y) (by simp [Op.operands])]
  case mapUpdate ty x k y => rw [one (x := x) (by simp [Op.operands]), one (x := k) (by simp [Op.operands]), one (x := y) (by simp [Op.operands])]
  case insert ty x k y => rw [one (x := x) (by simp [Op.operands]), one (x := k) (by simp [Op.operands]), one (x := y) (by simp [Op.operands])]
  case convert s d x => rw [one (x := x) (by simp [Op.operands])]
  case call c =>
    obtain ⟨callee, args, ats⟩ := c
    cases callee <;> simp only
    rename_i bi
    have arg : ∀ {x : Operand}, x ∈ args.toList → evO C t x = evO C t' x := fun hx => one (by simp [Op.operands, Call.operands]; simpa using hx)
    cases bi <;> simp only
    case append =>
      split
      · rename_i x y t0 t1 ts h1 h2; rw [arg (x := x) (by simp [h1]), arg (x := y) (by simp [h1])]
      · rfl
    case copy =>
      split
      · rename_i x y t0 ts h1 h2; rw [arg (x := x) (by simp [h1]), arg (x := y) (by simp [h1])]
      · rfl
    case delete =>
      split
      · rename_i x y t0 ts h1 h2; rw [arg (x := x) (by simp [h1]), arg (x := y) (by simp [h1])]
      · rfl
    case unsafeSliceData =>
      split
      · rename_i x h1; rw [arg (x := x) (by simp [h1])]
      · rfl
    case unsafeString =>
      split
      · rename_i x y t0 ts h1 h2; rw [arg (x := x) (by simp [h1]), arg (x := y) (by simp [h1])]
      · rfl

theorem evOp_congr {C : Cx} {call : CallF} {t t' : T AV} {m : Mem} {op : Op} (ha : Agree t t' (tmpsOf op.operands.toList)) : evOp C call t m op = evOp C call t' m op := by
  unfold evOp
  cases hi : isCall op with
  | none => simp only; rw [evP_congr ha, evE_congr ha]
  | some c =>
    obtain ⟨ho, f, hf⟩ := isCall_some hi
    simp only [hf]
    subst ho
    have one : ∀ {x : Operand}, x ∈ (Op.call c).operands.toList → evO C t x = evO C t' x := fun hx => evO_congr (ha.sub (tmps_mem hx))
    have e1 : (Op.call c).operands.toList = f :: c.args.toList := by simp [Op.operands, Call.operands, hf]
    rw [e1] at ha
    rw [one (x := f) (by rw [e1]; simp), evOs_congr (l := c.args.toList) (ha.sub fun s hs => by
      simp only [tmpsOf, List.mem_filterMap] at hs ⊢
      obtain ⟨y, hy, hy'⟩ := hs
      exact ⟨y, by simp only [List.mem_cons]; exact .inr hy, hy'⟩)]

/-- Does the operation look at memory? -/
def readsH (op : Op) : Bool :=
  match op with
  | .load .. | .lookup .. | .convert .. => true
  | .call _ => true
  | _ => false

theorem evP_indep {C : Cx} {t : T AV} {h h' : T AObj} {op : Op} (hr : readsH op = false) : evP C t h op = evP C t h' op := by
  cases op
  case makeFunc f a b => cases f <;> rfl
  case slice a b c d e => cases e <;> rfl
  all_goals first | rfl | (simp [readsH] at hr)
end
end Go.Ev
