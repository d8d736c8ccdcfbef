/-
  A part of the evaluator for closed runs: proved once over any program.
-/
import Derived.Test.YtgcpgkbplgjpoaaGreatDoorEvV
set_option linter.unusedVariables false
set_option linter.unusedSimpArgs false
namespace Go.Ev
noncomputable section

/-! ### The check of a region in drawn order -/
def optL : Option Operand → List Operand → List Operand
  | none, l => l
  | some x, l => x :: l
def appL : List Operand → List Operand → List Operand
  | [], m => m
  | x :: l, m => x :: appL l m
def opL (op : Op) : List Operand :=
  match op with
  | .slice _ x l h m => x :: optL l (optL h (optL m []))
  | .makeFunc _ f c => appL f.toList c.toList
  | .call c => match c.callee with
    | .value f => f :: c.args.toList
    | .invoke r _ => r :: c.args.toList
    | .builtin _ => c.args.toList
  | op => op.operands.toList

theorem appL_eq : ∀ {l m : List Operand}, appL l m = l ++ m
  | [], m => rfl
  | x :: l, m => by simp [appL, appL_eq]
theorem optL_eq {x : Option Operand} {l : List Operand} : optL x l = x.toList ++ l := by cases x <;> rfl
theorem opL_eq (op : Op) : op.operands.toList = opL op := by
  cases op
  case slice a b c d e => simp [opL, Op.operands, optL_eq]
  case makeFunc a b c => simp [opL, Op.operands, appL_eq]
  case call c =>
    obtain ⟨callee, args, ats⟩ := c
    cases callee <;> simp [opL, Op.operands, Call.operands]
  all_goals rfl

def oM : Operand → Nat
  | .tmp s => Nat.pow 2 s
  | _ => 0
def mks : List Operand → Nat
  | [] => 0
  | x :: l => Nat.lor (oM x) (mks l)
def dM : Option Nat → Nat
  | none => 0
  | some d => Nat.pow 2 d
def gM (ops : List Oper) (g : Option (Nat × Bool)) : Nat :=
  match g with
  | none => 0
  | some (j, _) => match nth ops j with
    | some o => dM o.dst
    | none => 0

theorem lor_bit {a b i : Nat} : (Nat.lor a b).testBit i = (a.testBit i || b.testBit i) := Nat.testBit_or a b i
theorem land_bit {a b i : Nat} : (Nat.land a b).testBit i = (a.testBit i && b.testBit i) := Nat.testBit_and a b i
theorem pow_bit {a i : Nat} : (Nat.pow 2 a).testBit i = decide (a = i) := Nat.testBit_two_pow

theorem mks_bit : ∀ {l : List Operand} {s : Nat}, s ∈ tmpsOf l → (mks l).testBit s = true
  | [], s, h => by simp [tmpsOf] at h
  | x :: l, s, h => by
    simp only [mks, lor_bit, Bool.or_eq_true]
    simp only [tmpsOf, List.mem_filterMap, List.mem_cons] at h
    obtain ⟨y, hy, hs⟩ := h
    rcases hy with rfl | hy
    · left
      cases y <;> simp at hs
      subst hs
      simp [oM, pow_bit]
    · right
      exact mks_bit (by simp only [tmpsOf, List.mem_filterMap]; exact ⟨y, hy, hs⟩)

theorem gM_bit {ops : List Oper} {g : Option (Nat × Bool)} {s : Nat} (h : s ∈ gT ops g) : (gM ops g).testBit s = true := by
  cases g with
  | none => simp [gT] at h
  | some jb =>
    obtain ⟨j, b⟩ := jb
    simp only [gT] at h
    simp only [gM]
    cases hn : nth ops j with
    | none => simp [hn] at h
    | some o =>
      simp only [hn] at h ⊢
      cases hd : o.dst with
      | none => simp [hd] at h
      | some d =>
        simp [hd] at h; subst h
        simp [dM, pow_bit]

theorem land_zero {a b i : Nat} (h : Nat.beq (Nat.land a b) 0 = true) (h1 : a.testBit i = true) (h2 : b.testBit i = true) : False := by
  have := congrArg (fun x => Nat.testBit x i) (nbeq_iff h)
  simp [land_bit, h1, h2] at this

theorem land_pow {a i : Nat} (h : Nat.beq (Nat.land a (Nat.pow 2 i)) 0 = false) : a.testBit i = true := by
  cases hb : a.testBit i with
  | true => rfl
  | false =>
    have : Nat.land a (Nat.pow 2 i) = 0 := by
      apply Nat.eq_of_testBit_eq
      intro j
      rw [land_bit, pow_bit]
      by_cases c : i = j
      · subst c; simp [hb]
      · simp [c]
    rw [this] at h
    cases h

def bindsA (e : Edge) : Bool :=
  match e.ground with
  | .textOnly _ => false
  | .gcOnly _ => false
  | _ => true

theorem bindsA_eq (e : Edge) : Region.binds .any e = bindsA e := by
  unfold Region.binds bindsA
  cases e.ground <;> rfl

structure Rec where
  o : Oper
  b : Nat
  R : Nat
  lk : Nat
  dm : Nat
  k : Nat
  v : AV
  t : T AV
  m : Mem
  c : Nat
  s : Nat
  key : Key
  N : T AObj
  N' : T AObj

def cOf : List Rec → Nat
  | [] => 0
  | r :: _ => r.c
def sOf : List Rec → Nat
  | [] => 0
  | r :: _ => r.s

def recAt : List Rec → Nat → Option Rec
  | [], _ => none
  | r :: acc, i => if i = acc.length then some r else recAt acc i

theorem recAt_lt : ∀ {l : List Rec} {i : Nat} {r : Rec}, recAt l i = some r → i < l.length
  | [], i, r, h => by simp [recAt] at h
  | x :: l, i, r, h => by
    simp only [recAt] at h
    split at h
    · simp; omega
    · have := recAt_lt h; simp; omega

theorem recAt_some : ∀ {l : List Rec} {i : Nat}, i < l.length → ∃ r, recAt l i = some r
  | [], i, h => by simp at h
  | x :: l, i, h => by
    simp only [recAt]
    split
    · exact ⟨_, rfl⟩
    · simp at h; exact recAt_some (by omega)

theorem recAt_nth : ∀ {l : List Rec} {i j : Nat}, j = l.length → i < j → nth l (Nat.sub j (Nat.succ i)) = recAt l i
  | [], i, j, hj, hi => by simp at hj; omega
  | x :: l, i, j, hj, hi => by
    rw [nth_eq]
    simp only [recAt]
    simp at hj
    by_cases c : i = l.length
    · rw [if_pos c]
      have : Nat.sub j (Nat.succ i) = 0 := by show j - (i + 1) = 0; omega
      rw [this]; rfl
    · rw [if_neg c, ← recAt_nth (l := l) rfl (by omega), nth_eq]
      have : Nat.sub j (Nat.succ i) = Nat.sub l.length (Nat.succ i) + 1 := by show j - (i + 1) = l.length - (i + 1) + 1; omega
      rw [this]; rfl

def edgeR (acc : List Rec) (j : Nat) : List Edge → Nat → Option Nat
  | [], r => some r
  | e :: es, r => bif bindsA e then (bif Nat.blt e.on j then (match nth acc (Nat.sub j (Nat.succ e.on)) with
      | some x => fN (Nat.lor r (Nat.lor x.b x.R)) fun r => edgeR acc j es r
      | none => none) else none) else edgeR acc j es r

def apartB (lk dm : Nat) (ch : Bool) (r : Rec) : Bool :=
  bif Nat.beq (Nat.land r.dm (Nat.lor lk dm)) 0 then (bif Nat.beq (Nat.land dm r.lk) 0 then (bif ch then !(Nat.beq r.k 2) else true) else false) else false

def prevOK (R lk dm : Nat) (ch : Bool) : List Rec → Bool
  | [] => true
  | r :: rs => bif Nat.beq (Nat.land R r.b) 0 then (bif apartB lk dm ch r then prevOK R lk dm ch rs else false) else prevOK R lk dm ch rs

def stepD (C : Cx) (call : CallF) (t : T AV) (m : Mem) (op : Op) : Option (Bool × AV × Mem) :=
  match isCall op with
  | some _ => match evOp C call t m op with
    | some (v, m) => some (true, v, m)
    | none => none
  | none => match evP C t m.h op with
    | some v => some (false, v, m)
    | none => match evE C t m op with
      | some (v, m) => some (true, v, m)
      | none => none

def runD (C : Cx) (call : CallF) (nt : Nat) (ops : List Oper) : List Oper → Nat → Nat → List Rec → T AV → Mem → Option (List Rec × T AV × Mem)
  | [], j, b, acc, t, m => some (acc, t, m)
  | o :: os, j, b, acc, t, m => match edgeR acc j o.after.toList 0 with
    | none => none
    | some R => fN (Nat.lor (gM ops o.guard) (mks (opL o.op))) fun lk => fN (dM o.dst) fun dm => match wantA ops t o.guard with
      | none => none
      | some false => bif prevOK R lk dm false acc then (match putT nt t o.dst (.tup []) with
        | none => none
        | some t' => fN (Nat.succ j) fun j => fN (Nat.mul 2 b) fun b' => fN (cOf acc) fun c => fN (sOf acc) fun s => runD C call nt ops os j b' (⟨o, b, R, lk, dm, 0, .tup [], t, m, c, s, .h, .leaf, .leaf⟩ :: acc) t' m) else none
      | some true => match stepD C call t m o.op with
        | none => none
        | some (ch, v, m') => bif prevOK R lk dm ch acc then (match putT nt t o.dst v with
          | none => none
          | some t' => fN (Nat.succ j) fun j => fN (Nat.mul 2 b) fun b' => bif ch then
              fN (Nat.lor (cOf acc) b) fun c => fN (Nat.lor (sOf acc) R) fun s => runD C call nt ops os j b' (⟨o, b, R, lk, dm, 2, v, t, m, c, s, .h, .leaf, .leaf⟩ :: acc) t' m'
            else fN (cOf acc) fun c => fN (sOf acc) fun s => runD C call nt ops os j b' (⟨o, b, R, lk, dm, 1, v, t, m, c, s, .h, .leaf, .leaf⟩ :: acc) t' m') else none

def bnd : List Rec → Mem → List (Nat × Nat × Mem)
  | [], m => [(0, 0, m)]
  | r :: acc, m => bif Nat.beq r.k 2 then (r.c, r.s, m) :: bnd acc r.m else bnd acc r.m

def rdAt (C : Cx) (r : Rec) (c : Nat) : List (Nat × Nat × Mem) → Bool
  | [] => true
  | (cp, sp, mp) :: l => bif (bif Nat.beq cp r.c then true else bif Nat.beq (Nat.land r.R c) (Nat.land r.R cp) then (bif Nat.beq (Nat.land sp r.b) 0 then (match evP C r.t mp.h r.o.op with
      | some v => AV.eqb v r.v
      | none => false) else true) else true) then rdAt C r c l else false

def rdOK (C : Cx) (c : Nat) (B : List (Nat × Nat × Mem)) : List Rec → Bool
  | [] => true
  | r :: l => bif Nat.beq r.k 1 then (bif readsH r.o.op then (bif rdAt C r c B then rdOK C c B l else false) else rdOK C c B l) else rdOK C c B l

def fL2 {α β : Type} (l : List α) (c : List α → β) : β := fL l c

def drawn (C : Cx) (call : CallF) (nt : Nat) (ops : Array Oper) (t : T AV) (m : Mem) : Option (T AV × Mem) :=
  match runD C call nt ops.toList ops.toList 0 1 [] t m with
  | none => none
  | some (rs, t', m') => fL (bnd rs m') fun B => bif rdOK C (cOf rs) B rs then some (t', m') else none

/-! ### It is right -/
structure RecOK (C : Cx) (call : CallF) (nt : Nat) (ops : Array Oper) (r : Rec) (acc : List Rec) (t : T AV) (m : Mem) : Prop where
  at_ : ops[acc.length]? = some r.o
  b : r.b = Nat.pow 2 acc.length
  back : ∀ e ∈ r.o.after, Region.binds .any e = true → e.on < acc.length
  reach : ∀ i, r.R.testBit i = true → ∃ e ∈ r.o.after, Region.binds .any e = true ∧ (i = e.on ∨ ∃ x, recAt acc e.on = some x ∧ x.R.testBit i = true)
  lk : ∀ s ∈ looks ops.toList r.o, r.lk.testBit s = true
  dm : ∀ d, r.o.dst = some d → r.dm.testBit d = true
  prev : ∀ i x, recAt acc i = some x → r.R.testBit i = true ∨ ((∀ s, x.dm.testBit s = true → r.lk.testBit s = false ∧ r.dm.testBit s = false) ∧ (∀ s, r.dm.testBit s = true → x.lk.testBit s = false) ∧ ¬ (x.k = 2 ∧ r.k = 2))
  put : putT nt r.t r.o.dst r.v = some t
  still : r.k ≠ 2 → m = r.m
  c : r.c = if r.k = 2 then Nat.lor (cOf acc) r.b else cOf acc
  s : r.s = if r.k = 2 then Nat.lor (sOf acc) r.R else sOf acc
  kind : (wantA ops.toList r.t r.o.guard = some false ∧ r.v = .tup [] ∧ r.k = 0) ∨
    (wantA ops.toList r.t r.o.guard = some true ∧ r.k = 1 ∧ isCall r.o.op = none ∧ evP C r.t r.m.h r.o.op = some r.v) ∨
    (wantA ops.toList r.t r.o.guard = some true ∧ r.k = 2 ∧ evOp C call r.t r.m r.o.op = some (r.v, m))

def Good (C : Cx) (call : CallF) (nt : Nat) (ops : Array Oper) (t0 : T AV) (m0 : Mem) : List Rec → T AV → Mem → Prop
  | [], t, m => t = t0 ∧ m = m0
  | r :: acc, t, m => RecOK C call nt ops r acc t m ∧ Good C call nt ops t0 m0 acc r.t r.m

section
variable {C : Cx} {call : CallF} {nt : Nat} {ops : Array Oper} {t0 : T AV} {m0 : Mem}

theorem Good.bits {t : T AV} {m : Mem} : ∀ {acc : List Rec} {t : T AV} {m : Mem}, Good C call nt ops t0 m0 acc t m → ∀ i x, recAt acc i = some x → x.b = Nat.pow 2 i
  | [], t, m, g, i, x, h => by simp [recAt] at h
  | r :: acc, t, m, g, i, x, h => by
    simp only [recAt] at h
    split at h
    · rename_i c; cases h; rw [c]; exact g.1.b
    · exact Good.bits (t := t) (m := m) g.2 i x h

theorem edgeR_ok {acc : List Rec} {j : Nat} (hj : j = acc.length) (hb : ∀ i x, recAt acc i = some x → x.b = Nat.pow 2 i) : ∀ {es : List Edge} {r R : Nat}, edgeR acc j es r = some R →
    (∀ e ∈ es, Region.binds .any e = true → e.on < j) ∧ ∀ i, R.testBit i = true → r.testBit i = true ∨ ∃ e ∈ es, Region.binds .any e = true ∧ (i = e.on ∨ ∃ x, recAt acc e.on = some x ∧ x.R.testBit i = true)
  | [], r, R, h => by
    simp only [edgeR, Option.some.injEq] at h
    subst h
    exact ⟨fun e he => (by cases he), fun i hi => .inl hi⟩
  | e :: es, r, R, h => by
    simp only [edgeR] at h
    cases hbe : bindsA e with
    | false =>
      simp only [hbe, cond_false] at h
      obtain ⟨h1, h2⟩ := edgeR_ok hj hb h
      refine ⟨fun f hf hbf => ?_, fun i hi => ?_⟩
      · rcases List.mem_cons.1 hf with rfl | hf
        · rw [bindsA_eq, hbe] at hbf; cases hbf
        · exact h1 f hf hbf
      · rcases h2 i hi with h | ⟨f, hf, hh⟩
        · exact .inl h
        · exact .inr ⟨f, by simp [hf], hh⟩
    | true =>
      simp only [hbe, cond_true] at h
      obtain ⟨hlt, h⟩ := cond_some h
      rw [nblt, decide_eq_true_iff] at hlt
      rw [recAt_nth hj hlt] at h
      cases hx : recAt acc e.on with
      | none => simp [hx] at h
      | some x =>
        simp only [hx, fN_eq] at h
        obtain ⟨h1, h2⟩ := edgeR_ok hj hb h
        refine ⟨fun f hf hbf => ?_, fun i hi => ?_⟩
        · rcases List.mem_cons.1 hf with rfl | hf
          · exact hlt
          · exact h1 f hf hbf
        · rcases h2 i hi with h | ⟨f, hf, hh⟩
          · rw [lor_bit, lor_bit, hb _ _ hx, pow_bit] at h
            simp only [Bool.or_eq_true, decide_eq_true_iff] at h
            rcases h with h | h | h
            · exact .inl h
            · exact .inr ⟨e, by simp, by rw [bindsA_eq, hbe], .inl h.symm⟩
            · exact .inr ⟨e, by simp, by rw [bindsA_eq, hbe], .inr ⟨x, hx, h⟩⟩
          · exact .inr ⟨f, by simp [hf], hh⟩

theorem prevOK_ok {R lk dm k : Nat} {ch : Bool} (hk : k = 2 → ch = true) : ∀ {acc : List Rec}, (∀ i x, recAt acc i = some x → x.b = Nat.pow 2 i) → prevOK R lk dm ch acc = true →
    ∀ i x, recAt acc i = some x → R.testBit i = true ∨ ((∀ s, x.dm.testBit s = true → lk.testBit s = false ∧ dm.testBit s = false) ∧ (∀ s, dm.testBit s = true → x.lk.testBit s = false) ∧ ¬ (x.k = 2 ∧ k = 2))
  | [], hb, h, i, x, hx => by simp [recAt] at hx
  | r :: acc, hb, h, i, x, hx => by
    have hb' : ∀ i x, recAt acc i = some x → x.b = Nat.pow 2 i := fun i x h => hb i x (by
      simp only [recAt]
      have := recAt_lt h
      rw [if_neg (by omega)]; exact h)
    simp only [prevOK] at h
    have hr : r.b = Nat.pow 2 acc.length := hb acc.length r (by simp [recAt])
    simp only [recAt] at hx
    cases hz : Nat.beq (Nat.land R r.b) 0 with
    | true =>
      simp only [hz, cond_true] at h
      obtain ⟨ha, h⟩ := cond_and h
      split at hx
      · cases hx
        right
        unfold apartB at ha
        obtain ⟨h1, ha⟩ := cond_and ha
        obtain ⟨h2, ha⟩ := cond_and ha
        refine ⟨fun s hs => ?_, fun s hs => ?_, fun hkk => ?_⟩
        · have := fun hh => land_zero (i := s) h1 hs hh
          rw [lor_bit] at this
          cases hl : lk.testBit s <;> cases hd : dm.testBit s <;> simp_all
        · cases hl : r.lk.testBit s with
          | false => rfl
          | true => exact (land_zero h2 hs hl).elim
        · rw [hk hkk.2, hkk.1] at ha
          simp at ha
      · exact prevOK_ok hk hb' h i x hx
    | false =>
      simp only [hz, cond_false] at h
      split at hx
      · rename_i c
        left
        rw [hr] at hz
        rw [c]
        exact land_pow hz
      · exact prevOK_ok hk hb' h i x hx

theorem looks_bit {ops : List Oper} {o : Oper} {s : Nat} (h : s ∈ looks ops o) : (Nat.lor (gM ops o.guard) (mks (opL o.op))).testBit s = true := by
  rw [lor_bit, Bool.or_eq_true]
  rcases List.mem_append.1 h with h | h
  · exact .inl (gM_bit h)
  · rw [opL_eq] at h
    exact .inr (mks_bit h)

theorem dM_bit {d : Nat} {x : Option Nat} (h : x = some d) : (dM x).testBit d = true := by
  subst h; simp [dM, pow_bit]

theorem runD_ok : ∀ (l : List Oper) {j b : Nat} {acc rs : List Rec} {t t' : T AV} {m m' : Mem}, j = acc.length → b = Nat.pow 2 acc.length → ops.toList.drop acc.length = l → Good C call nt ops t0 m0 acc t m →
    runD C call nt ops.toList l j b acc t m = some (rs, t', m') → Good C call nt ops t0 m0 rs t' m' ∧ rs.length = acc.length + l.length
  | [], j, b, acc, rs, t, t', m, m', hj, hb, hl, g, h => by
    simp only [runD, Option.some.injEq, Prod.mk.injEq] at h
    obtain ⟨rfl, rfl, rfl⟩ := h
    exact ⟨g, by simp⟩
  | o :: os, j, b, acc, rs, t, t', m, m', hj, hb, hl, g, h => by
    have ho : ops[acc.length]? = some o := by
      rw [← Array.getElem?_toList]
      have := congrArg (fun l => l[0]?) hl
      simpa using this
    have hl' : ops.toList.drop (acc.length + 1) = os := by
      have := congrArg List.tail hl
      simpa using this
    have hbits := Good.bits (t := t) (m := m) g
    simp only [runD] at h
    cases hR : edgeR acc j o.after.toList 0 with
    | none => simp [hR] at h
    | some R =>
      simp only [hR, fN_eq] at h
      obtain ⟨hback, hreach⟩ := edgeR_ok hj hbits hR
      have back : ∀ e ∈ o.after, Region.binds .any e = true → e.on < acc.length := fun e he hbi => by rw [← hj]; exact hback e (by simpa using he) hbi
      have reach : ∀ i, R.testBit i = true → ∃ e ∈ o.after, Region.binds .any e = true ∧ (i = e.on ∨ ∃ x, recAt acc e.on = some x ∧ x.R.testBit i = true) := fun i hi => by
        rcases hreach i hi with h | ⟨e, he, h⟩
        · simp at h
        · exact ⟨e, by simpa using he, h⟩
      cases hw : wantA ops.toList t o.guard with
      | none => simp [hw] at h
      | some w =>
        cases w with
        | false =>
          simp only [hw] at h
          obtain ⟨hp, h⟩ := cond_some h
          cases hput : putT nt t o.dst (.tup []) with
          | none => simp [hput] at h
          | some t1 =>
            simp only [hput] at h
            have hg : Good C call nt ops t0 m0 (⟨o, b, R, _, _, 0, .tup [], t, m, cOf acc, sOf acc, .h, .leaf, .leaf⟩ :: acc) t1 m := ⟨⟨ho, hb, back, reach, fun s hs => looks_bit hs, fun d hd => dM_bit hd, prevOK_ok (k := 0) (by omega) hbits hp, hput, fun _ => rfl, rfl, rfl, .inl ⟨hw, rfl, rfl⟩⟩, g⟩
            have := runD_ok os (by simp [hj]) (by simp [hb]; show 2 * 2 ^ acc.length = 2 ^ (acc.length + 1); rw [Nat.pow_succ]; omega) (by simp only [List.length_cons]; exact hl') hg h
            exact ⟨this.1, by rw [this.2]; simp; omega⟩
        | true =>
          simp only [hw] at h
          cases hs : stepD C call t m o.op with
          | none => simp [hs] at h
          | some res =>
            obtain ⟨ch, v, m1⟩ := res
            simp only [hs] at h
            obtain ⟨hp, h⟩ := cond_some h
            cases hput : putT nt t o.dst v with
            | none => simp [hput] at h
            | some t1 =>
              simp only [hput] at h
              unfold stepD at hs
              cases ch with
              | true =>
                simp only [cond_true] at h
                have hev : evOp C call t m o.op = some (v, m1) := by
                  cases hi : isCall o.op with
                  | some c =>
                    simp only [hi] at hs
                    cases he : evOp C call t m o.op with
                    | none => simp [he] at hs
                    | some vm => simp [he] at hs; obtain ⟨rfl, rfl⟩ := hs; rfl
                  | none =>
                    simp only [hi] at hs
                    unfold evOp
                    simp only [hi]
                    cases he : evP C t m.h o.op with
                    | some u => simp [he] at hs
                    | none =>
                      simp only [he] at hs ⊢
                      cases he' : evE C t m o.op with
                      | none => simp [he'] at hs
                      | some vm => simp [he'] at hs; obtain ⟨rfl, rfl⟩ := hs; rfl
                have hg : Good C call nt ops t0 m0 (⟨o, b, R, _, _, 2, v, t, m, Nat.lor (cOf acc) b, Nat.lor (sOf acc) R, .h, .leaf, .leaf⟩ :: acc) t1 m1 := ⟨⟨ho, hb, back, reach, fun s hs => looks_bit hs, fun d hd => dM_bit hd, prevOK_ok (k := 2) (fun _ => rfl) hbits hp, hput, fun h => absurd rfl h, rfl, rfl, .inr (.inr ⟨hw, rfl, hev⟩)⟩, g⟩
                have := runD_ok os (by simp [hj]) (by simp [hb]; show 2 * 2 ^ acc.length = 2 ^ (acc.length + 1); rw [Nat.pow_succ]; omega) (by simp only [List.length_cons]; exact hl') hg h
                exact ⟨this.1, by rw [this.2]; simp; omega⟩
              | false =>
                simp only [cond_false] at h
                have hev : isCall o.op = none ∧ evP C t m.h o.op = some v ∧ m1 = m := by
                  cases hi : isCall o.op with
                  | some c =>
                    simp only [hi] at hs
                    cases he : evOp C call t m o.op <;> simp [he] at hs
                  | none =>
                    simp only [hi] at hs
                    cases he : evP C t m.h o.op with
                    | some u => simp [he] at hs; exact ⟨rfl, by rw [hs.1], hs.2.symm⟩
                    | none =>
                      simp only [he] at hs
                      cases he' : evE C t m o.op <;> simp [he'] at hs
                obtain ⟨hic, hev, rfl⟩ := hev
                have hg : Good C call nt ops t0 m0 (⟨o, b, R, _, _, 1, v, t, m1, cOf acc, sOf acc, .h, .leaf, .leaf⟩ :: acc) t1 m1 := ⟨⟨ho, hb, back, reach, fun s hs => looks_bit hs, fun d hd => dM_bit hd, prevOK_ok (k := 1) (by omega) hbits hp, hput, fun _ => rfl, rfl, rfl, .inr (.inl ⟨hw, rfl, hic, hev⟩)⟩, g⟩
                have := runD_ok os (by simp [hj]) (by simp [hb]; show 2 * 2 ^ acc.length = 2 ^ (acc.length + 1); rw [Nat.pow_succ]; omega) (by simp only [List.length_cons]; exact hl') hg h
                exact ⟨this.1, by rw [this.2]; simp; omega⟩
end
end
end Go.Ev
