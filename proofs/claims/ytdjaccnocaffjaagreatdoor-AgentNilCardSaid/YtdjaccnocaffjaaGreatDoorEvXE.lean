/-
  A region in drawn order that ends with a panic: the last operation waits for all others, and panics.
-/
import Derived.Test.YtdjaccnocaffjaaGreatDoorEvX
set_option linter.unusedVariables false
set_option linter.unusedSimpArgs false
namespace Go.Ev
noncomputable section

/- ### The check of a region with lights is right -/
def DL (r : Rec) (q : Key) : Prop := if r.k = 4 then q = r.key else (T.get q r.N ≠ none ∨ T.get q r.N' ≠ none)
def XL (r : Rec) (m : Mem) (q : Key) : Option AObj := if r.k = 4 then T.get r.key m.h else T.get q r.N'

structure RecOKL (C : Cx) (call : CallF) (nt : Nat) (ops : Array Oper) (lo : Nat) (r : Rec) (acc : List Rec) (t : T AV) (m : Mem) : Prop where
  at_ : ops[acc.length]? = some r.o
  b : r.b = Nat.pow 2 acc.length
  back : ∀ e ∈ r.o.after, Region.binds .any e = true → e.on < acc.length
  reach : ∀ i, r.R.testBit i = true → ∃ e ∈ r.o.after, Region.binds .any e = true ∧ (i = e.on ∨ ∃ x, recAt acc e.on = some x ∧ x.R.testBit i = true)
  lk : ∀ s ∈ looks ops.toList r.o, r.lk.testBit s = true
  dm : ∀ d, r.o.dst = some d → r.dm.testBit d = true
  prev : ∀ i x, recAt acc i = some x → r.R.testBit i = true ∨ ((∀ s, x.dm.testBit s = true → r.lk.testBit s = false ∧ r.dm.testBit s = false) ∧ (∀ s, r.dm.testBit s = true → x.lk.testBit s = false) ∧ ¬ (x.k = 2 ∧ r.k = 2))
  prevd : ∀ i x, recAt acc i = some x → r.R.testBit i = true ∨ (2 ≤ x.k → 2 ≤ r.k → ∀ q, DL x q → DL r q → False)
  put : putT nt r.t r.o.dst r.v = some t
  one : 3 ≤ r.k → ∀ q, DL r q → q = r.key
  heap : ∀ q, T.get q m.h = open Classical in if 2 ≤ r.k ∧ DL r q then XL r m q else T.get q r.m.h
  cnt : r.k ≠ 2 → m.n = r.m.n
  keyn : r.k = 4 → r.key.toNat = lo + acc.length
  c : r.c = if r.k = 2 then Nat.lor (cOf acc) r.b else cOf acc
  s : r.s = if r.k = 2 then Nat.lor (sOf acc) r.R else sOf acc
  kind : (wantA ops.toList r.t r.o.guard = some false ∧ r.v = .tup [] ∧ r.k = 0) ∨
    (wantA ops.toList r.t r.o.guard = some true ∧ r.k = 1 ∧ isCall r.o.op = none ∧ ∃ Nh, evP C r.t Nh r.o.op = some r.v) ∨
    (wantA ops.toList r.t r.o.guard = some true ∧ (r.k = 2 ∨ r.k = 3) ∧ (∀ q o, T.get q r.N = some o → T.get q r.m.h = some o) ∧
      (r.k = 2 → evOp C call r.t ⟨r.N, r.m.n⟩ r.o.op = some (r.v, ⟨r.N', m.n⟩)) ∧ (r.k = 3 → ∀ n, evOp C call r.t ⟨r.N, n⟩ r.o.op = some (r.v, ⟨r.N', n⟩))) ∨
    (wantA ops.toList r.t r.o.guard = some true ∧ r.k = 4 ∧ ∃ ob, T.get r.key m.h = some ob ∧ lightA C r.t r.o.op r.key = some (r.v, ob))

def GoodL (C : Cx) (call : CallF) (nt : Nat) (ops : Array Oper) (lo : Nat) (t0 : T AV) (m0 : Mem) : List Rec → T AV → Mem → Prop
  | [], t, m => t = t0 ∧ m = m0
  | r :: acc, t, m => RecOKL C call nt ops lo r acc t m ∧ GoodL C call nt ops lo t0 m0 acc r.t r.m

section
variable {C : Cx} {call : CallF} {nt : Nat} {ops : Array Oper} {lo : Nat} {t0 : T AV} {m0 : Mem}

theorem GoodL.bits {t : T AV} {m : Mem} : ∀ {acc : List Rec} {t : T AV} {m : Mem}, GoodL C call nt ops lo t0 m0 acc t m → ∀ i x, recAt acc i = some x → x.b = Nat.pow 2 i
  | [], t, m, g, i, x, h => by simp [recAt] at h
  | r :: acc, t, m, g, i, x, h => by
    simp only [recAt] at h
    split at h
    · rename_i c; cases h; rw [c]; exact g.1.b
    · exact GoodL.bits (t := t) (m := m) g.2 i x h

theorem GoodL.zero : ∀ {l : List Rec} {t : T AV} {m : Mem}, GoodL C call nt ops lo t0 m0 l t m → TF l t 0 = t0 ∧ MF l m 0 = m0
  | [], t, m, g => g
  | r :: acc, t, m, g => by simp only [TF, MF]; rw [if_pos (by omega), if_pos (by omega)]; exact GoodL.zero g.2

theorem GoodL.get : ∀ {l : List Rec} {t : T AV} {m : Mem}, GoodL C call nt ops lo t0 m0 l t m → ∀ {i : Nat} {r : Rec}, recAt l i = some r →
    ∃ acc, acc.length = i ∧ RecOKL C call nt ops lo r acc (TF l t (i + 1)) (MF l m (i + 1)) ∧ TF l t i = r.t ∧ MF l m i = r.m ∧ ∀ q, q < i → recAt acc q = recAt l q
  | [], t, m, g, i, r, h => by simp [recAt] at h
  | x :: acc, t, m, g, i, r, h => by
    simp only [recAt] at h
    by_cases c : i = acc.length
    · rw [if_pos c] at h
      cases h
      refine ⟨acc, c.symm, ?_, ?_, ?_, fun q hq => ?_⟩
      · simp only [TF, MF]
        rw [if_neg (by omega), if_neg (by omega)]
        exact g.1
      · simp only [TF]
        rw [if_pos (by omega), c]
        exact TF_len
      · simp only [MF]
        rw [if_pos (by omega), c]
        exact MF_len
      · simp only [recAt]; rw [if_neg (by omega)]
    · rw [if_neg c] at h
      have hlt := recAt_lt h
      obtain ⟨a, h1, h2, h3, h4, h5⟩ := GoodL.get g.2 h
      refine ⟨a, h1, ?_, ?_, ?_, fun q hq => ?_⟩
      · simp only [TF, MF]
        rw [if_pos (by omega), if_pos (by omega)]
        exact h2
      · simp only [TF]; rw [if_pos (by omega)]; exact h3
      · simp only [MF]; rw [if_pos (by omega)]; exact h4
      · simp only [recAt]; rw [if_neg (by omega)]; exact h5 q hq

theorem GoodL.cspec : ∀ {l : List Rec} {t : T AV} {m : Mem}, GoodL C call nt ops lo t0 m0 l t m → ∀ i, (cOf l).testBit i = true ↔ ∃ r, recAt l i = some r ∧ r.k = 2
  | [], t, m, g, i => by simp [cOf, recAt]
  | x :: acc, t, m, g, i => by
    have ih := GoodL.cspec g.2 i
    show x.c.testBit i = true ↔ _
    rw [g.1.c]
    simp only [recAt]
    by_cases hk : x.k = 2
    · rw [if_pos hk, lor_bit, g.1.b, pow_bit, Bool.or_eq_true, decide_eq_true_iff, ih]
      by_cases c : i = acc.length
      · rw [if_pos c]
        exact ⟨fun _ => ⟨x, rfl, hk⟩, fun _ => .inr c.symm⟩
      · rw [if_neg c]
        exact ⟨fun h => h.elim id (fun e => absurd e.symm c), .inl⟩
    · rw [if_neg hk, ih]
      by_cases c : i = acc.length
      · rw [if_pos c]
        refine ⟨fun ⟨r, h, _⟩ => ?_, fun ⟨r, h, h2⟩ => ?_⟩
        · have := recAt_lt h; omega
        · cases h; exact absurd h2 hk
      · rw [if_neg c]

theorem GoodL.sspec : ∀ {l : List Rec} {t : T AV} {m : Mem}, GoodL C call nt ops lo t0 m0 l t m → ∀ i, (sOf l).testBit i = true → ∃ q r, recAt l q = some r ∧ r.k = 2 ∧ r.R.testBit i = true
  | [], t, m, g, i, h => by simp [sOf] at h
  | x :: acc, t, m, g, i, h => by
    have ih := GoodL.sspec g.2 i
    have up : (sOf acc).testBit i = true → ∃ q r, recAt (x :: acc) q = some r ∧ r.k = 2 ∧ r.R.testBit i = true := fun h => by
      obtain ⟨q, r, h1, h2⟩ := ih h
      refine ⟨q, r, ?_, h2⟩
      have := recAt_lt h1
      simp only [recAt]; rw [if_neg (by omega)]; exact h1
    have h' : x.s.testBit i = true := h
    rw [g.1.s] at h'
    by_cases hk : x.k = 2
    · rw [if_pos hk, lor_bit, Bool.or_eq_true] at h'
      rcases h' with h' | h'
      · exact up h'
      · exact ⟨acc.length, x, by simp [recAt], hk, h'⟩
    · rw [if_neg hk] at h'
      exact up h'

theorem bndL_mem : ∀ {l : List Rec} {t : T AV} {m : Mem}, GoodL C call nt ops lo t0 m0 l t m → ∀ {p : Nat}, p ≤ l.length → (p = 0 ∨ (0 < p ∧ ∃ r, recAt l (p - 1) = some r ∧ r.k = 2)) →
    ∃ c s, (c, s, Nat.pow 2 p, MF l m p) ∈ bndL l m ∧ (∀ i, c.testBit i = true ↔ i < p ∧ ∃ r, recAt l i = some r ∧ r.k = 2) ∧ (∀ i, s.testBit i = true → ∃ q r, q < p ∧ recAt l q = some r ∧ r.k = 2 ∧ r.R.testBit i = true)
  | [], t, m, g, p, hp, hb => by
    simp at hp; subst hp
    exact ⟨0, 0, by simp [bndL, MF], by simp, by simp⟩
  | x :: acc, t, m, g, p, hp, hb => by
    simp only [List.length_cons] at hp
    by_cases c : p = acc.length + 1
    · subst c
      have hk : x.k = 2 := by
        rcases hb with hb | ⟨_, r, h1, h2⟩
        · omega
        · simp only [recAt, Nat.add_sub_cancel] at h1
          simp at h1
          rw [h1]; exact h2
      refine ⟨x.c, x.s, ?_, fun i => ?_, fun i hi => ?_⟩
      · simp only [bndL, MF, fN_eq]
        rw [if_neg (by omega), hk, g.1.b]
        have : Nat.mul 2 (Nat.pow 2 acc.length) = Nat.pow 2 (acc.length + 1) := by show 2 * 2 ^ acc.length = 2 ^ (acc.length + 1); rw [Nat.pow_succ]; omega
        rw [this]
        simp
      · have := GoodL.cspec (l := x :: acc) g i
        rw [show x.c = cOf (x :: acc) from rfl, this]
        constructor
        · rintro ⟨r, h, h2⟩
          exact ⟨recAt_lt h, r, h, h2⟩
        · exact fun h => h.2
      · obtain ⟨q, r, h1, h2⟩ := GoodL.sspec (l := x :: acc) g i hi
        exact ⟨q, r, recAt_lt h1, h1, h2⟩
    · have hp' : p ≤ acc.length := by omega
      have lift : ∀ q, q < p → recAt (x :: acc) q = recAt acc q := fun q hq => by simp only [recAt]; rw [if_neg (by omega)]
      obtain ⟨c', s', h1, h2, h3⟩ := bndL_mem g.2 hp' (by
        rcases hb with hb | ⟨h0, r, h1, h2⟩
        · exact .inl hb
        · refine .inr ⟨h0, r, ?_, h2⟩
          rw [← lift _ (by omega)]; exact h1)
      refine ⟨c', s', ?_, fun i => ?_, fun i hi => ?_⟩
      · simp only [bndL, MF, fN_eq]
        rw [if_pos hp']
        cases Nat.beq x.k 2 with
        | true => exact List.mem_cons_of_mem _ h1
        | false => exact h1
      · rw [h2]
        constructor
        · rintro ⟨hi, h⟩; rw [lift i hi]; exact ⟨hi, h⟩
        · rintro ⟨hi, h⟩; rw [lift i hi] at h; exact ⟨hi, h⟩
      · obtain ⟨q, r, hq, h⟩ := h3 i hi
        exact ⟨q, r, hq, by rw [lift q hq]; exact h⟩


theorem mem_recAt : ∀ {l : List Rec} {x : Rec}, x ∈ l → ∃ i, recAt l i = some x
  | [], x, h => by cases h
  | r :: l, x, h => by
    rcases List.mem_cons.1 h with rfl | h
    · exact ⟨l.length, by simp [recAt]⟩
    · obtain ⟨i, hi⟩ := mem_recAt h
      have := recAt_lt hi
      exact ⟨i, by simp only [recAt]; rw [if_neg (by omega)]; exact hi⟩

theorem stepD_ok {t : T AV} {m m1 : Mem} {op : Op} {ch : Bool} {v : AV} (hs : stepD C call t m op = some (ch, v, m1)) :
    (ch = true → evOp C call t m op = some (v, m1)) ∧ (ch = false → isCall op = none ∧ evP C t m.h op = some v ∧ m1 = m) := by
  rw [stepD_def] at hs
  cases hi : isCall op with
  | some c =>
    simp only [hi] at hs
    cases he : evOp C call t m op with
    | none => simp [he] at hs
    | some vm =>
      simp only [he, Option.some.injEq, Prod.mk.injEq] at hs
      obtain ⟨rfl, rfl, rfl⟩ := hs
      exact ⟨fun _ => rfl, fun h => by cases h⟩
  | none =>
    simp only [hi] at hs
    cases he : evP C t m.h op with
    | some u =>
      simp only [he, Option.some.injEq, Prod.mk.injEq] at hs
      obtain ⟨rfl, rfl, rfl⟩ := hs
      exact ⟨fun h => (by cases h), fun _ => ⟨rfl, rfl, rfl⟩⟩
    | none =>
      simp only [he] at hs
      cases he' : evE C t m op with
      | none => simp [he'] at hs
      | some vm =>
        simp only [he', Option.some.injEq, Prod.mk.injEq] at hs
        obtain ⟨rfl, rfl, rfl⟩ := hs
        refine ⟨fun _ => ?_, fun h => by cases h⟩
        rw [evOp_def]
        simp only [hi, he, he']

theorem stepL_ok {acc : List Rec} {R b hint : Nat} {kc : Key} {t : T AV} {m : Mem} {op : Op} {st : StL} (h : stepL C call acc R b hint kc t m op = some st) :
    (st.k = 1 ∧ st.m = m ∧ isCall op = none ∧ ∃ Nh, evP C t Nh op = some st.v) ∨
    (st.k = 2 ∧ st.N = dropd R acc m.h ∧ evOp C call t ⟨st.N, m.n⟩ op = some (st.v, ⟨st.N', st.m.n⟩) ∧ st.m.h = radd R m.h acc st.N') ∨
    (st.k = 3 ∧ st.m.n = m.n ∧ ∃ o o', T.get st.key m.h = some o ∧ (∀ q, T.get q st.N = if q = st.key then some o else none) ∧ (∀ q, T.get q st.N' = if q = st.key then some o' else none) ∧ st.m.h = T.put st.key (some o') m.h ∧ ∀ n, evOp C call t ⟨st.N, n⟩ op = some (st.v, ⟨st.N', n⟩)) ∨
    (st.k = 4 ∧ st.key = kc ∧ ∃ ob, st.m = ⟨T.put kc (some ob) m.h, m.n⟩ ∧ lightA C t op kc = some (st.v, ob)) := by
  unfold stepL at h
  cases hz : Nat.beq (Nat.land hint b) 0 with
  | true =>
    simp only [hz, cond_true, dropK_eq] at h
    cases hs : stepD C call t ⟨dropd R acc m.h, m.n⟩ op with
    | none => simp [hs] at h
    | some res =>
      obtain ⟨ch, v, m1⟩ := res
      obtain ⟨h1, h2⟩ := stepD_ok hs
      cases ch with
      | false =>
        simp only [hs, Option.some.injEq] at h
        subst h
        obtain ⟨g1, g2, g3⟩ := h2 rfl
        exact .inl ⟨rfl, rfl, g1, _, g2⟩
      | true =>
        simp only [hs, readd_eq, Option.some.injEq] at h
        subst h
        exact .inr (.inl ⟨rfl, rfl, h1 rfl, rfl⟩)
  | false =>
    simp only [hz, cond_false] at h
    cases hl : lightA C t op kc with
    | some vo =>
      obtain ⟨v, ob⟩ := vo
      simp only [hl, T.putK_eq, Option.some.injEq] at h
      subst h
      exact .inr (.inr (.inr ⟨rfl, rfl, ob, rfl, rfl⟩))
    | none =>
      simp only [hl] at h
      cases op <;> simp only [reduceCtorEq] at h
      rename_i ty a x
      cases ha : evO C t a with
      | none => simp [ha] at h
      | some av =>
        cases av <;> simp only [ha, reduceCtorEq] at h
        rename_i p off
        cases hp : T.get p m.h with
        | none => simp [hp] at h
        | some o =>
          simp only [hp, T.putK_eq] at h
          cases he : evE C t ⟨T.put p (some o) .leaf, m.n⟩ (.store ty a x) with
          | none => simp [he] at h
          | some vm =>
            obtain ⟨v, m1⟩ := vm
            simp only [he] at h
            cases hq : T.get p m1.h with
            | none => simp [hq] at h
            | some o' =>
              simp only [hq, Option.some.injEq] at h
              subst h
              simp only [evE, ha, Option.bind_some] at he
              obtain ⟨xv, hx, he⟩ := bind_some he
              unfold unitA at he
              obtain ⟨m2, hm2, he⟩ := bind_some he
              simp only [Option.some.injEq, Prod.mk.injEq] at he
              obtain ⟨rfl, rfl⟩ := he
              obtain ⟨k1, ⟨o2, k2⟩, k3⟩ := storeA_one hm2
              have ho : o2 = o' := by
                rw [k2, T.get_put, if_pos rfl] at hq
                simpa using hq
              subst ho
              refine .inr (.inr (.inl ⟨rfl, rfl, o, o2, hp, fun q => ?_, fun q => ?_, rfl, fun n => ?_⟩))
              · show T.get q (T.put p (some o) .leaf) = _
                rw [T.get_put]
                by_cases e : q = p
                · rw [if_pos e, if_pos e]
                · rw [if_neg e, if_neg e, T.get_leaf]
              · show T.get q m2.h = _
                rw [k2, T.get_put]
                by_cases e : q = p
                · rw [if_pos e, if_pos e]
                · rw [if_neg e, if_neg e]
                  show T.get q (T.put p (some o) .leaf) = none
                  rw [T.get_put, if_neg e, T.get_leaf]
              · rw [evOp_def]
                simp only [isCall, evP, evE, ha, hx, Option.bind_some, unitA, k3 n]

theorem isLight_iff {R : Nat} {x : Rec} (h : isLight R x = true) : 3 ≤ x.k ∧ Nat.beq (Nat.land R x.b) 0 = true := by
  unfold isLight at h
  obtain ⟨h1, h2⟩ := cond_and h
  exact ⟨Nat.le_of_ble_eq_true h1, h2⟩

theorem ble_false {a b : Nat} (h : Nat.ble a b = false) : b < a := by
  rcases Nat.lt_or_ge b a with h' | h'
  · exact h'
  · rw [Nat.ble_eq_true_of_le h'] at h; cases h

theorem free_ok {q : Key} {k : Nat} {key : Key} {N N' : T AObj} (h : free q k key N N' = true) : (3 ≤ k → q ≠ key) ∧ (k < 3 → T.get q N = none ∧ T.get q N' = none) := by
  unfold free at h
  cases hk : Nat.ble 3 k with
  | true =>
    simp only [hk, cond_true] at h
    have h3 : 3 ≤ k := Nat.le_of_ble_eq_true hk
    refine ⟨fun _ e => ?_, fun h => by omega⟩
    have : Key.eqb q key = true := (Key.eqb_iff _ _).2 e
    rw [this] at h; cases h
  | false =>
    simp only [hk, cond_false] at h
    have := ble_false hk
    refine ⟨fun h => by omega, fun _ => ?_⟩
    cases h1 : T.get q N with
    | some _ => simp [h1] at h
    | none =>
      cases h2 : T.get q N' with
      | some _ => simp [h1, h2] at h
      | none => exact ⟨rfl, rfl⟩

theorem prevD_ok {R k : Nat} {key : Key} {N N' : T AObj} {rr : Rec} (e1 : rr.k = k) (e2 : rr.key = key) (e3 : rr.N = N) (e4 : rr.N' = N') (one : 3 ≤ k → ∀ q, DL rr q → q = key) :
    ∀ {acc : List Rec}, (∀ i x, recAt acc i = some x → x.b = Nat.pow 2 i) → (∀ x ∈ acc, 3 ≤ x.k → ∀ q, DL x q → q = x.key) → (∀ i x, recAt acc i = some x → R.testBit i = true ∨ ¬ (x.k = 2 ∧ k = 2)) → prevD R k key N N' acc = true →
    ∀ i x, recAt acc i = some x → R.testBit i = true ∨ (2 ≤ x.k → 2 ≤ k → ∀ q, DL x q → DL rr q → False)
  | [], hb, ho, hp, h, i, x, hx => by simp [recAt] at hx
  | r :: acc, hb, ho, hp, h, i, x, hx => by
    have up : ∀ i x, recAt acc i = some x → recAt (r :: acc) i = some x := fun i x h => by
      simp only [recAt]
      have := recAt_lt h
      rw [if_neg (by omega)]; exact h
    have ih := prevD_ok (acc := acc) e1 e2 e3 e4 one (fun i x h => hb i x (up i x h)) (fun x hx => ho x (by simp [hx])) (fun i x h => hp i x (up i x h))
    have hr : r.b = Nat.pow 2 acc.length := hb acc.length r (by simp [recAt])
    have hx' := hx
    simp only [recAt] at hx
    simp only [prevD] at h
    cases hz : Nat.beq (Nat.land R r.b) 0 with
    | false =>
      simp only [hz, cond_false] at h
      split at hx
      · rename_i c
        left
        rw [hr] at hz
        rw [c]
        exact land_pow hz
      · exact ih h i x hx
    | true =>
      simp only [hz, cond_true] at h
      obtain ⟨ha, h⟩ := cond_and h
      split at hx
      · cases hx
        rcases hp i r hx' with hbit | hnn
        · exact .inl hbit
        · right
          intro h2 h2' q d1 d2
          cases h3 : Nat.ble 3 r.k with
          | true =>
            simp only [h3, cond_true, Nat.ble_eq_true_of_le h2'] at ha
            have := ho r (by simp) (Nat.le_of_ble_eq_true h3) q d1
            subst this
            obtain ⟨f1, f2⟩ := free_ok ha
            rcases Nat.lt_or_ge k 3 with hk | hk
            · obtain ⟨g1, g2⟩ := f2 hk
              unfold DL at d2
              rw [if_neg (by omega), e3, e4, g1, g2] at d2
              simp at d2
            · exact f1 hk (one hk _ d2)
          | false =>
            have hlt := ble_false h3
            have hr2 : r.k = 2 := by omega
            have hk3 : 3 ≤ k := by omega
            have e2' : Nat.beq r.k 2 = true := by rw [hr2]; rfl
            simp only [h3, cond_false, e2', cond_true, Nat.ble_eq_true_of_le hk3] at ha
            obtain ⟨g1, g2⟩ := (free_ok ha).2 (by omega)
            have := one hk3 q d2
            subst this
            unfold DL at d1
            rw [if_neg (by omega), g1, g2] at d1
            simp at d1
      · exact ih h i x hx

theorem GoodL.one : ∀ {acc : List Rec} {t : T AV} {m : Mem}, GoodL C call nt ops lo t0 m0 acc t m → ∀ x ∈ acc, 3 ≤ x.k → ∀ q, DL x q → q = x.key
  | [], t, m, g, x, hx => by cases hx
  | r :: acc, t, m, g, x, hx => by
    rcases List.mem_cons.1 hx with rfl | hx
    · exact g.1.one
    · exact GoodL.one g.2 x hx

theorem prevD_free {R k : Nat} {key : Key} {N N' : T AObj} : ∀ {acc : List Rec}, prevD R k key N N' acc = true → ∀ x ∈ acc, isLight R x = true → 2 ≤ k → free x.key k key N N' = true
  | [], h, x, hx, hl, hk => by cases hx
  | r :: acc, h, x, hx, hl, hk => by
    simp only [prevD] at h
    rcases List.mem_cons.1 hx with rfl | hx
    · obtain ⟨h3, hz⟩ := isLight_iff hl
      simp only [hz, cond_true, Nat.ble_eq_true_of_le h3, Nat.ble_eq_true_of_le hk] at h
      exact (cond_and h).1
    · refine prevD_free ?_ x hx hl hk
      cases hz : Nat.beq (Nat.land R r.b) 0 with
      | true => simp only [hz, cond_true] at h; exact (cond_and h).2
      | false => simp only [hz, cond_false] at h; exact h

theorem heapL {acc : List Rec} {R : Nat} {kc : Key} {t : T AV} {m : Mem} {op : Op} {st : StL} {rr : Rec} (ek : rr.k = st.k) (ekey : rr.key = st.key) (eN : rr.N = st.N) (eN' : rr.N' = st.N') (em : rr.m = m)
    (hk : (st.k = 1 ∧ st.m = m ∧ isCall op = none ∧ ∃ Nh, evP C t Nh op = some st.v) ∨
    (st.k = 2 ∧ st.N = dropd R acc m.h ∧ evOp C call t ⟨st.N, m.n⟩ op = some (st.v, ⟨st.N', st.m.n⟩) ∧ st.m.h = radd R m.h acc st.N') ∨
    (st.k = 3 ∧ st.m.n = m.n ∧ ∃ o o', T.get st.key m.h = some o ∧ (∀ q, T.get q st.N = if q = st.key then some o else none) ∧ (∀ q, T.get q st.N' = if q = st.key then some o' else none) ∧ st.m.h = T.put st.key (some o') m.h ∧ ∀ n, evOp C call t ⟨st.N, n⟩ op = some (st.v, ⟨st.N', n⟩)) ∨
    (st.k = 4 ∧ st.key = kc ∧ ∃ ob, st.m = ⟨T.put kc (some ob) m.h, m.n⟩ ∧ lightA C t op kc = some (st.v, ob)))
    (hf : ∀ x ∈ acc, isLight R x = true → 2 ≤ st.k → free x.key st.k st.key st.N st.N' = true) (q : Key) :
    T.get q st.m.h = open Classical in if 2 ≤ rr.k ∧ DL rr q then XL rr st.m q else T.get q rr.m.h := by
  rw [em, ek]
  rcases hk with ⟨k, k2, _⟩ | ⟨k, k2, k3, k4⟩ | ⟨k, k2, o1, o2, k3, k4, k5, k6, k7⟩ | ⟨k, k2, ob, k3, k4⟩
  · rw [if_neg (by omega), k2]
  · have hDL : DL rr q ↔ (T.get q st.N ≠ none ∨ T.get q st.N' ≠ none) := by unfold DL; rw [if_neg (by omega), eN, eN']
    have hXL : XL rr st.m q = T.get q st.N' := by unfold XL; rw [if_neg (by omega), eN']
    rw [hXL, k4, radd_get]
    by_cases hdr : ∃ r ∈ acc, isLight R r = true ∧ r.key = q
    · rw [if_pos hdr, if_neg]
      rintro ⟨_, hq⟩
      obtain ⟨x, hx, hli, hxk⟩ := hdr
      obtain ⟨g1, g2⟩ := (free_ok (hf x hx hli (by omega))).2 (by omega)
      rw [hxk] at g1 g2
      rw [hDL, g1, g2] at hq
      simp at hq
    · rw [if_neg hdr]
      have hN : T.get q st.N = T.get q m.h := by rw [k2, dropd_get, if_neg hdr]
      by_cases hq : DL rr q
      · rw [if_pos ⟨by omega, hq⟩]
      · rw [if_neg fun h => hq h.2]
        have hq' : ¬ (T.get q st.N ≠ none ∨ T.get q st.N' ≠ none) := fun h => hq (hDL.2 h)
        have e1 : T.get q st.N = none := Classical.byContradiction fun h => hq' (.inl h)
        have e2 : T.get q st.N' = none := Classical.byContradiction fun h => hq' (.inr h)
        rw [e2, ← hN, e1]
  · have hDL : DL rr q ↔ q = st.key := by
      unfold DL
      rw [if_neg (by omega), eN, eN', k4, k5]
      by_cases e : q = st.key
      · simp [e]
      · simp [e]
    have hXL : XL rr st.m q = T.get q st.N' := by unfold XL; rw [if_neg (by omega), eN']
    rw [hXL, k6, T.get_put, k5]
    by_cases e : q = st.key
    · rw [if_pos e, if_pos ⟨by omega, hDL.2 e⟩, if_pos e]
    · rw [if_neg e, if_neg fun h => e (hDL.1 h.2)]
  · have hDL : DL rr q ↔ q = kc := by unfold DL; rw [if_pos (by omega), ekey, k2]
    have hXL : XL rr st.m q = some ob := by unfold XL; rw [if_pos (by omega), ekey, k2, k3]; simp only; rw [T.get_put, if_pos rfl]
    rw [hXL, k3]
    simp only
    rw [T.get_put]
    by_cases e : q = kc
    · rw [if_pos e, if_pos ⟨by omega, hDL.2 e⟩]
    · rw [if_neg e, if_neg fun h => e (hDL.1 h.2)]

theorem runL_ok {hint : Nat} : ∀ (l : List Oper) {j b : Nat} {kc kc' : Key} {acc rs : List Rec} {t t' : T AV} {m m' : Mem}, j = acc.length → b = Nat.pow 2 acc.length → kc.toNat = lo + acc.length → ops.toList.drop acc.length = l → GoodL C call nt ops lo t0 m0 acc t m →
    runL C call nt ops.toList hint l j b kc acc t m = some (rs, t', m', kc') → GoodL C call nt ops lo t0 m0 rs t' m' ∧ rs.length = acc.length + l.length
  | [], j, b, kc, kc', acc, rs, t, t', m, m', hj, hb, hkc, hl, g, h => by
    simp only [runL, Option.some.injEq, Prod.mk.injEq] at h
    obtain ⟨rfl, rfl, rfl, rfl⟩ := h
    exact ⟨g, by simp⟩
  | o :: os, j, b, kc, kc', acc, rs, t, t', m, m', hj, hb, hkc, hl, g, h => by
    have ho : ops[acc.length]? = some o := by
      rw [← Array.getElem?_toList]
      have := congrArg (fun l => l[0]?) hl
      simpa using this
    have hl' : ops.toList.drop (acc.length + 1) = os := by
      have := congrArg List.tail hl
      simpa using this
    have hbits := GoodL.bits (t := t) (m := m) g
    have hone := GoodL.one g
    simp only [runL] at h
    cases hR : edgeR acc j o.after.toList 0 with
    | none => simp [hR] at h
    | some R =>
      simp only [hR, fN_eq, fKey_eq] at h
      obtain ⟨hback, hreach⟩ := edgeR_ok hj hbits hR
      have back : ∀ e ∈ o.after, Region.binds .any e = true → e.on < acc.length := fun e he hbi => by rw [← hj]; exact hback e (by simpa using he) hbi
      have reach : ∀ i, R.testBit i = true → ∃ e ∈ o.after, Region.binds .any e = true ∧ (i = e.on ∨ ∃ x, recAt acc e.on = some x ∧ x.R.testBit i = true) := fun i hi => by
        rcases hreach i hi with h | ⟨e, he, h⟩
        · simp at h
        · exact ⟨e, by simpa using he, h⟩
      have hnext : ∀ (r : Rec) (t1 : T AV) (m1 : Mem), r.t = t → r.m = m → RecOKL C call nt ops lo r acc t1 m1 → runL C call nt ops.toList hint os (Nat.succ j) (Nat.mul 2 b) (Key.succ kc) (r :: acc) t1 m1 = some (rs, t', m', kc') → GoodL C call nt ops lo t0 m0 rs t' m' ∧ rs.length = acc.length + (o :: os).length := by
        intro r t1 m1 et em hr h
        have := runL_ok os (acc := r :: acc) (by simp [hj]) (by simp [hb]; show 2 * 2 ^ acc.length = 2 ^ (acc.length + 1); rw [Nat.pow_succ]; omega) (by rw [Key.toNat_succ, hkc]; simp; omega) (by simp only [List.length_cons]; exact hl') ⟨hr, by rw [et, em]; exact g⟩ h
        exact ⟨this.1, by rw [this.2]; simp; omega⟩
      cases hw : wantA ops.toList t o.guard with
      | none => simp [hw] at h
      | some w =>
        cases w with
        | false =>
          simp only [hw] at h
          obtain ⟨hp, h⟩ := cond_some h
          cases hput : putT nt t o.dst (.tup []) with
          | none => simp [hput] at h
          | some t1 =>
            simp only [hput] at h
            exact hnext _ _ _ rfl rfl ⟨ho, hb, back, reach, fun s hs => looks_bit hs, fun d hd => dM_bit hd, prevOK_ok (k := 0) (by omega) hbits hp, fun i x hx => .inr fun h1 h2 => by simp at h2, hput, fun h => by simp at h, fun q => by rw [if_neg (by simp)], fun _ => rfl, fun h => by simp at h, rfl, rfl, .inl ⟨hw, rfl, rfl⟩⟩ h
        | true =>
          simp only [hw] at h
          cases hs : stepL C call acc R b hint kc t m o.op with
          | none => simp [hs] at h
          | some st =>
            simp only [hs] at h
            obtain ⟨hp, h⟩ := cond_some h
            obtain ⟨hd, h⟩ := cond_some h
            cases hput : putT nt t o.dst st.v with
            | none => simp [hput] at h
            | some t1 =>
              simp only [hput] at h
              have hprev := prevOK_ok (R := R) (k := st.k) (ch := Nat.beq st.k 2) (fun e => by rw [e]; rfl) hbits hp
              have hc : (bif Nat.beq st.k 2 then Nat.lor (cOf acc) b else cOf acc) = if st.k = 2 then Nat.lor (cOf acc) b else cOf acc := by
                rw [nbeq]; by_cases e : st.k = 2 <;> simp [e]
              have hcs : (bif Nat.beq st.k 2 then Nat.lor (sOf acc) R else sOf acc) = if st.k = 2 then Nat.lor (sOf acc) R else sOf acc := by
                rw [nbeq]; by_cases e : st.k = 2 <;> simp [e]
              have hkinds := stepL_ok hs
              have hone' : 3 ≤ st.k → ∀ q, DL ⟨o, b, R, Nat.lor (gM ops.toList o.guard) (mks (opL o.op)), dM o.dst, st.k, st.v, t, m, bif Nat.beq st.k 2 then Nat.lor (cOf acc) b else cOf acc, bif Nat.beq st.k 2 then Nat.lor (sOf acc) R else sOf acc, st.key, st.N, st.N'⟩ q → q = st.key := by
                intro h3 q hq
                unfold DL at hq
                simp only at hq
                rcases hkinds with ⟨k, _⟩ | ⟨k, _⟩ | ⟨k, k2, o1, o2, k3, k4, k5, k6, k7⟩ | ⟨k, _⟩
                · omega
                · omega
                · rw [if_neg (by omega), k4, k5] at hq
                  by_cases e : q = st.key
                  · exact e
                  · rw [if_neg e, if_neg e] at hq; simp at hq
                · rw [if_pos k] at hq; exact hq
              have hpd := prevD_ok (rr := ⟨o, b, R, Nat.lor (gM ops.toList o.guard) (mks (opL o.op)), dM o.dst, st.k, st.v, t, m, bif Nat.beq st.k 2 then Nat.lor (cOf acc) b else cOf acc, bif Nat.beq st.k 2 then Nat.lor (sOf acc) R else sOf acc, st.key, st.N, st.N'⟩) rfl rfl rfl rfl hone' hbits hone (fun i x hx => (hprev i x hx).imp id fun h => h.2.2) hd
              refine hnext _ _ _ rfl rfl ⟨ho, hb, back, reach, fun s hs => looks_bit hs, fun d hd => dM_bit hd, hprev, hpd, hput, hone', ?_, ?_, ?_, hc, hcs, ?_⟩ h
              · exact heapL rfl rfl rfl rfl rfl hkinds (fun x hx h1 h2 => prevD_free hd x hx h1 h2)
              · intro hk
                rcases hkinds with ⟨k, k2, _⟩ | ⟨k, k2, k3, k4⟩ | ⟨k, k2, o1, o2, k3, k4, k5, k6, k7⟩ | ⟨k, k2, ob, k3, k4⟩
                · rw [k2]
                · exact absurd k hk
                · exact k2
                · rw [k3]
              · intro hk
                rcases hkinds with ⟨k, k2, _⟩ | ⟨k, k2, k3, k4⟩ | ⟨k, k2, o1, o2, k3, k4, k5, k6, k7⟩ | ⟨k, k2, ob, k3, k4⟩
                · simp only at hk; omega
                · simp only at hk; omega
                · simp only at hk; omega
                · simp only [k2]; exact hkc
              · rcases hkinds with ⟨k, k2, k3, k4⟩ | ⟨k, k2, k3, k4⟩ | ⟨k, k2, o1, o2, k3, k4, k5, k6, k7⟩ | ⟨k, k2, ob, k3, k4⟩
                · exact .inr (.inl ⟨hw, k, k3, k4⟩)
                · refine .inr (.inr (.inl ⟨hw, .inl k, fun q o1 hq => ?_, fun _ => k3, fun h => by simp only at h; omega⟩))
                  simp only [k2, dropd_get] at hq
                  split at hq
                  · cases hq
                  · exact hq
                · refine .inr (.inr (.inl ⟨hw, .inr k, fun q o3 hq => ?_, fun h => by simp only at h; omega, fun _ => k7⟩))
                  simp only [k4] at hq
                  split at hq
                  · rename_i e; rw [e, k3]; exact hq
                  · cases hq
                · refine .inr (.inr (.inr ⟨hw, k, ob, ?_, by simp only [k2]; exact k4⟩))
                  simp only [k2, k3]
                  rw [T.get_put, if_pos rfl]

end
end
end Go.Ev
set_option linter.unusedVariables false
set_option linter.unusedSimpArgs false
namespace Go.Ev
noncomputable section
section
variable {C : Cx} {call : CallF} {nt : Nat} {ops : Array Oper} {lo : Nat} {t0 : T AV} {m0 : Mem}

theorem ownR_ok {R : Nat} {key : Key} : ∀ {l : List Rec}, ownR R key l = true → ∀ z ∈ l, 2 ≤ z.k → (3 ≤ z.k → ∀ q, DL z q → q = z.key) → DL z key → Nat.beq (Nat.land R z.b) 0 = false
  | [], h, z, hz, _, _, _ => by cases hz
  | x :: l, h, z, hz, hk, ho, hd => by
    simp only [ownR] at h
    rcases List.mem_cons.1 hz with rfl | hz
    · rw [Nat.ble_eq_true_of_le hk] at h
      simp only [cond_true] at h
      have h := (cond_and h).1
      cases hb : Nat.beq (Nat.land R z.b) 0 with
      | false => rfl
      | true =>
        exfalso
        simp only [hb, cond_true] at h
        obtain ⟨f1, f2⟩ := free_ok h
        rcases Nat.lt_or_ge z.k 3 with c | c
        · obtain ⟨g1, g2⟩ := f2 c
          unfold DL at hd
          rw [if_neg (by omega), g1, g2] at hd
          simp at hd
        · exact f1 c (ho c _ hd)
    · refine ownR_ok ?_ z hz hk ho hd
      cases hb : Nat.ble 2 x.k with
      | true => simp only [hb, cond_true] at h; exact (cond_and h).2
      | false => simp only [hb, cond_false] at h; exact h

theorem addR_ok {R : Nat} {mf : T AObj} {rs : List Rec} : ∀ (l : List Rec) (h : T AObj), ∃ N, (∀ {β : Type} (c : T AObj → β), addR R mf rs l h c = c N) ∧ ∀ q o, T.get q N = some o → T.get q h = some o ∨ (T.get q mf = some o ∧ ownR R q rs = true)
  | [], h => ⟨h, fun c => rfl, fun q o e => .inl e⟩
  | x :: l, h => by
    cases h1 : Nat.beq x.k 4 with
    | false =>
      obtain ⟨N, e1, e2⟩ := addR_ok l h
      exact ⟨N, fun c => by simp only [addR, h1, cond_false]; exact e1 c, e2⟩
    | true =>
      cases h2 : ownR R x.key rs with
      | false =>
        obtain ⟨N, e1, e2⟩ := addR_ok l h
        exact ⟨N, fun c => by simp only [addR, h1, h2, cond_true, cond_false]; exact e1 c, e2⟩
      | true =>
        cases h3 : T.get x.key mf with
        | none =>
          obtain ⟨N, e1, e2⟩ := addR_ok l h
          exact ⟨N, fun c => by simp only [addR, h1, h2, h3, cond_true]; exact e1 c, e2⟩
        | some o =>
          obtain ⟨N, e1, e2⟩ := addR_ok l (T.put x.key (some o) h)
          refine ⟨N, fun c => by simp only [addR, h1, h2, h3, cond_true, T.putK_eq]; exact e1 c, fun q o' e => ?_⟩
          rcases e2 q o' e with e | e
          · rw [T.get_put] at e
            by_cases eq : q = x.key
            · rw [if_pos eq] at e
              rw [eq]
              exact .inr ⟨h3.trans e, h2⟩
            · rw [if_neg eq] at e
              exact .inl e
          · exact .inr e

theorem rdAtL_ok {rs : List Rec} {mf : T AObj} {r : Rec} {c : Nat} : ∀ {B : List (Nat × Nat × Nat × Mem)}, rdAtL C rs mf r c B = true → ∀ {cp sp pb : Nat} {mp : Mem}, (cp, sp, pb, mp) ∈ B → Nat.land r.R c = Nat.land r.R cp → Nat.beq (Nat.land sp r.b) 0 = true →
    ∃ N, (∀ q o, T.get q N = some o → T.get q (dropdR r.R pb rs mp.h) = some o ∨ (T.get q mf = some o ∧ ownR r.R q rs = true)) ∧ evP C r.t N r.o.op = some r.v
  | [], h, cp, sp, pb, mp, hm, h2, h3 => by cases hm
  | (a, b, pc, d) :: l, h, cp, sp, pb, mp, hm, h2, h3 => by
    simp only [rdAtL] at h
    obtain ⟨h, hl⟩ := cond_and h
    rcases List.mem_cons.1 hm with e | hm
    · cases e
      have e2 : Nat.beq (Nat.land r.R c) (Nat.land r.R a) = true := by rw [nbeq]; simpa using h2
      simp only [e2, h3, cond_true, dropR_eq] at h
      cases he : evP C r.t (dropdR r.R pc rs d.h) r.o.op with
      | some v => simp only [he] at h; exact ⟨_, fun q o e => .inl e, by rw [he, AV.eqb_ok h]⟩
      | none =>
        simp only [he] at h
        obtain ⟨N, e1, e3⟩ := addR_ok (R := r.R) (mf := mf) (rs := rs) rs (dropdR r.R pc rs d.h)
        rw [e1] at h
        cases hn : evP C r.t N r.o.op with
        | none => simp [hn] at h
        | some v => simp only [hn] at h; exact ⟨N, e3, by rw [hn, AV.eqb_ok h]⟩
    · exact rdAtL_ok hl hm h2 h3

theorem rdOKL_ok {rs : List Rec} {mf : T AObj} {c : Nat} {B : List (Nat × Nat × Nat × Mem)} : ∀ {l : List Rec}, rdOKL C rs mf c B l = true → ∀ {i : Nat} {r : Rec}, recAt l i = some r → r.k = 1 → readsH r.o.op = true → rdAtL C rs mf r c B = true
  | [], h, i, r, hr, hk, hh => by simp [recAt] at hr
  | x :: l, h, i, r, hr, hk, hh => by
    have hd : rdOKL C rs mf c B l = true ∧ (x.k = 1 → readsH x.o.op = true → rdAtL C rs mf x c B = true) := by
      simp only [rdOKL] at h
      cases h1 : Nat.beq x.k 1 with
      | false => simp only [h1, cond_false] at h; exact ⟨h, fun e => by rw [e] at h1; cases h1⟩
      | true =>
        cases h2 : readsH x.o.op with
        | false => simp only [h1, h2, cond_true, cond_false] at h; exact ⟨h, fun _ e => by cases e⟩
        | true =>
          simp only [h1, h2, cond_true] at h
          obtain ⟨h3, h4⟩ := cond_and h
          exact ⟨h4, fun _ _ => h3⟩
    simp only [recAt] at hr
    split at hr
    · cases hr; exact hd.2 hk hh
    · exact rdOKL_ok hd.1 hr hk hh

theorem recAt_mem : ∀ {l : List Rec} {i : Nat} {x : Rec}, recAt l i = some x → x ∈ l
  | [], i, x, h => by simp [recAt] at h
  | r :: l, i, x, h => by
    simp only [recAt] at h
    split at h
    · cases h; simp
    · exact List.mem_cons_of_mem _ (recAt_mem h)

theorem pow_lt_pow {a b : Nat} (h : Nat.pow 2 a < Nat.pow 2 b) : a < b := by
  rcases Nat.lt_or_ge a b with h' | h'
  · exact h'
  · have : (2 : Nat) ^ b ≤ 2 ^ a := Nat.pow_le_pow_right (by omega) h'
    have h2 : (2 : Nat) ^ a < 2 ^ b := h
    omega

theorem skipK_all : ∀ (l : List Oper) (k : Key), ∃ k' : Key, k'.toNat = k.toNat + l.length ∧ ∀ {β : Type} (c : Key → β), skipK l k c = c k'
  | [], k => ⟨k, by simp, fun c => rfl⟩
  | _ :: l, k => by
    obtain ⟨k', h1, h2⟩ := skipK_all l k.succ
    exact ⟨k', by rw [h1, Key.toNat_succ]; simp; omega, fun c => by simp only [skipK, fKey_eq]; exact h2 c⟩

def planL_of {rs : List Rec} {t1 : T AV} {m1 : Mem} {top : Key} (g : GoodL C call nt ops lo t0 m0 rs t1 m1) (hn : rs.length = ops.size) (hrd : rdOKL C rs m1.h (cOf rs) (bndL rs m1) rs = true)
    (htop : top.toNat = lo + ops.size) : PlanL C call nt ops t0 (fun q => T.get q m0.h) m0.n top lo t1 (fun q => T.get q m1.h) m1.n where
  Tf := TF rs t1
  F j q := T.get q (MF rs m1 j).h
  Nn j := (MF rs m1 j).n
  R j i := ∃ r, recAt rs j = some r ∧ r.R.testBit i = true
  K j := match recAt rs j with | some r => r.k | none => 0
  V j := match recAt rs j with | some r => r.v | none => .nilP
  D j q := match recAt rs j with | some r => DL r q | none => False
  X j q := match recAt rs j with | some r => XL r (MF rs m1 (j + 1)) q | none => none
  N j := match recAt rs j with | some r => r.N | none => .leaf
  N' j := match recAt rs j with | some r => r.N' | none => .leaf
  key j := match recAt rs j with | some r => r.key | none => .h
  T0 := (GoodL.zero g).1
  F0 := by funext q; rw [(GoodL.zero g).2]
  N0 := by rw [(GoodL.zero g).2]
  Tn := by rw [← hn]; exact TF_len
  Fn := by funext q; rw [← hn, MF_len]
  Nnn := by rw [← hn, MF_len]
  lotop := by omega
  back j o ho e he hb := by
    obtain ⟨r, hr⟩ := recAt_some (l := rs) (i := j) (by rw [hn]; exact (Array.getElem?_eq_some_iff.1 ho).1)
    obtain ⟨acc, h1, h2, h3, h4, h5⟩ := GoodL.get g hr
    have ha := h2.at_
    rw [h1, ho] at ha
    cases ha
    have := h2.back e he hb
    omega
  reach j o i ho hR := by
    obtain ⟨r, hr, hb⟩ := hR
    obtain ⟨acc, h1, h2, h3, h4, h5⟩ := GoodL.get g hr
    have ha := h2.at_
    rw [h1, ho] at ha
    cases ha
    obtain ⟨e, he, hbe, h⟩ := h2.reach i hb
    refine ⟨e, he, hbe, ?_⟩
    rcases h with h | ⟨x, hx, hx2⟩
    · exact .inl h
    · have := recAt_lt hx
      exact .inr ⟨x, by rw [← h5 _ (by omega)]; exact hx, hx2⟩
  look1 i j oi oj hij hoi hoj := by
    have hj : j < rs.length := by rw [hn]; exact (Array.getElem?_eq_some_iff.1 hoj).1
    obtain ⟨r, hr⟩ := recAt_some hj
    obtain ⟨x, hx⟩ := recAt_some (l := rs) (i := i) (by omega)
    obtain ⟨acc, h1, h2, h3, h4, h5⟩ := GoodL.get g hr
    obtain ⟨acc', k1, k2, _, _, _⟩ := GoodL.get g hx
    have ha := h2.at_
    rw [h1, hoj] at ha
    cases ha
    have hb := k2.at_
    rw [k1, hoi] at hb
    cases hb
    have hx' : recAt acc i = some x := by rw [h5 i hij]; exact hx
    rcases h2.prev i x hx' with h | ⟨p1, p2, p3⟩
    · exact .inl ⟨r, hr, h⟩
    · rcases h2.prevd i x hx' with h | p4
      · exact .inl ⟨r, hr, h⟩
      · refine .inr ⟨fun d hd => ⟨fun hm => ?_, fun e => ?_⟩, fun d hd hm => ?_, fun hk => ?_, ?_⟩
        · have := (p1 d (k2.dm d hd)).1
          rw [h2.lk d hm] at this; cases this
        · have := (p1 d (k2.dm d hd)).2
          rw [h2.dm d e] at this; cases this
        · have := p2 d (h2.dm d hd)
          rw [k2.lk d hm] at this; cases this
        · simp only [hr, hx] at hk
          exact p3 hk
        · simp only [hr, hx]
          exact p4
  keys i j hij hj hki hkj := by
    obtain ⟨r, hr⟩ := recAt_some (l := rs) (i := j) (by omega)
    obtain ⟨x, hx⟩ := recAt_some (l := rs) (i := i) (by omega)
    obtain ⟨acc, h1, h2, _⟩ := GoodL.get g hr
    obtain ⟨acc', k1, k2, _⟩ := GoodL.get g hx
    simp only [hr] at hkj
    simp only [hx] at hki
    simp only [hr, hx]
    intro e
    have e1 := h2.keyn hkj
    have e2 := k2.keyn hki
    rw [e] at e2
    omega
  keyn j hk := by
    cases hr : recAt rs j with
    | none => simp only [hr] at hk; omega
    | some r =>
      obtain ⟨acc, h1, h2, _⟩ := GoodL.get g hr
      simp only [hr] at hk ⊢
      have := h2.keyn hk
      have hlt := recAt_lt hr
      omega
  put j o ho := by
    obtain ⟨r, hr⟩ := recAt_some (l := rs) (i := j) (by rw [hn]; exact (Array.getElem?_eq_some_iff.1 ho).1)
    obtain ⟨acc, h1, h2, h3, h4, h5⟩ := GoodL.get g hr
    have ha := h2.at_
    rw [h1, ho] at ha
    cases ha
    simp only [hr]
    rw [h3]
    exact h2.put
  heap j hj q := by
    obtain ⟨r, hr⟩ := recAt_some (l := rs) (i := j) (by omega)
    obtain ⟨acc, h1, h2, h3, h4, h5⟩ := GoodL.get g hr
    have e := h2.heap q
    rw [← h4] at e
    by_cases c : 2 ≤ r.k ∧ DL r q
    · rw [if_pos c] at e
      rw [if_pos (by simp only [hr]; exact c)]
      simp only [hr]
      exact e
    · rw [if_neg c] at e
      rw [if_neg (by simp only [hr]; exact c)]
      exact e
  cnt j hj hk := by
    obtain ⟨r, hr⟩ := recAt_some (l := rs) (i := j) (by omega)
    obtain ⟨acc, h1, h2, h3, h4, h5⟩ := GoodL.get g hr
    simp only [hr] at hk
    rw [h4]
    exact h2.cnt hk
  kind j o ho := by
    have hjn : j < rs.length := by rw [hn]; exact (Array.getElem?_eq_some_iff.1 ho).1
    obtain ⟨r, hr⟩ := recAt_some hjn
    obtain ⟨acc, h1, h2, h3, h4, h5⟩ := GoodL.get g hr
    have ha := h2.at_
    rw [h1, ho] at ha
    cases ha
    simp only [hr]
    rw [h3]
    rcases h2.kind with ⟨a, b, c⟩ | ⟨a, b, c, Nh, d⟩ | ⟨a, b, c, d, e⟩ | ⟨a, b, ob, c, d⟩
    · exact .inl ⟨a, b, c⟩
    · refine .inr (.inl ⟨a, b, fun p hp hpb hf1 hf2 => ?_⟩)
      cases hread : readsH r.o.op with
      | false =>
        refine ⟨.leaf, fun q o h => by simp [T.get_leaf] at h, fun n => ?_⟩
        rw [evOp_def]
        simp only [c]
        rw [evP_indep hread (h' := Nh), d]
      | true =>
        have hchk := rdOKL_ok hrd hr b hread
        have hpb' : p = 0 ∨ (0 < p ∧ ∃ r, recAt rs (p - 1) = some r ∧ r.k = 2) := by
          rcases hpb with h | ⟨h0, hk⟩
          · exact .inl h
          · obtain ⟨x, hx⟩ := recAt_some (l := rs) (i := p - 1) (by omega)
            simp only [hx] at hk
            exact .inr ⟨h0, x, hx, hk⟩
        obtain ⟨c', s', hm, hc, hs⟩ := bndL_mem g (by rw [hn]; exact hp) hpb'
        have hb := h2.b
        rw [h1] at hb
        have hev := rdAtL_ok hchk hm (by
          apply Nat.eq_of_testBit_eq
          intro i
          rw [land_bit, land_bit]
          cases hRi : r.R.testBit i with
          | false => rfl
          | true =>
            simp only [Bool.true_and]
            have e1 := GoodL.cspec g i
            have e2 := hc i
            cases hci : c'.testBit i with
            | true =>
              rw [hci] at e2
              rw [e1.2 (e2.1 rfl).2]
            | false =>
              cases hcf : (cOf rs).testBit i with
              | false => rfl
              | true =>
                exfalso
                obtain ⟨x, hx, hxk⟩ := e1.1 hcf
                have hlt := recAt_lt hx
                have hip : i < p := hf1 i (by omega) (by simp only [hx]; exact hxk) ⟨r, rfl, hRi⟩
                have := e2.2 ⟨hip, x, hx, hxk⟩
                rw [hci] at this; cases this) (by
          cases hz : Nat.beq (Nat.land s' r.b) 0 with
          | true => rfl
          | false =>
            exfalso
            rw [hb] at hz
            obtain ⟨q, x, hq, hx, hxk, hxR⟩ := hs j (land_pow hz)
            exact hf2 q hq (by simp only [hx]; exact hxk) ⟨x, hx, hxR⟩)
        obtain ⟨N, hN, hev⟩ := hev
        refine ⟨N, fun q o hq => ?_, fun n => ?_⟩
        rotate_left
        · rw [evOp_def]
          simp only [c]
          rw [hev]
        · rcases hN q o hq with hq | ⟨hq, hown⟩
          rotate_left
          · right
            refine ⟨?_, fun i hi hk hd => ?_⟩
            · rw [← hn, MF_len]; exact hq
            · cases hx : recAt rs i with
              | none => simp only [hx] at hd
              | some x =>
                simp only [hx] at hd hk
                have hxm := recAt_mem hx
                have z1 := ownR_ok hown x hxm hk (GoodL.one g x hxm) hd
                have hxb := GoodL.bits (t := t1) (m := m1) g i x hx
                rw [hxb] at z1
                exact ⟨r, rfl, land_pow z1⟩
          left
          obtain ⟨e1, e2⟩ := dropdR_get rs _ q o hq
          refine ⟨e1, fun i hi hk hd => ?_⟩
          cases hx : recAt rs i with
          | none => simp only [hx] at hd
          | some x =>
            simp only [hx] at hd hk
            have hxm := recAt_mem hx
            have hkey := GoodL.one g x hxm hk q hd
            obtain ⟨z1, z2⟩ := e2 x hxm hk hkey.symm
            have hxb := GoodL.bits (t := t1) (m := m1) g i x hx
            rw [hxb] at z1 z2
            exact ⟨⟨r, rfl, land_pow z1⟩, pow_lt_pow z2⟩
    · refine .inr (.inr (.inl ⟨a, b, fun q o hq => ?_, fun q => ?_, fun q => ?_, ?_, e⟩))
      · rw [h4]; exact c q o hq
      · unfold DL; rw [if_neg (by omega)]
      · unfold XL; rw [if_neg (by omega)]
      · intro hk
        rw [h4]
        exact d hk
    · refine .inr (.inr (.inr ⟨a, b, fun q => ?_, ob, fun q => ?_, d⟩))
      · unfold DL; rw [if_pos b]
      · unfold XL; rw [if_pos b]; exact c
end

theorem drawnL_ok {C : Cx} {G : Nat → Nat} {w0 : World} (ok : C.Fine G w0) {call : CallF} (hc : CallsOK G w0 C.P call) {ro : Option Nat} {nt hint : Nat} (hnt : nt ≤ 1000000) : DrawAny G w0 C.P ro nt (drawnL C call nt hint) := by
  intro ops t m t' m' h0 ρ a w D rt hd r
  have h : drawnL C call nt hint ops t m = some (t', m') := h0
  clear h0
  unfold drawnL at h
  obtain ⟨top, htop, hskip⟩ := skipK_all ops.toList m.n
  rw [hskip] at h
  simp only [fKey_eq] at h
  cases hr : runL C call nt ops.toList hint ops.toList 0 1 m.n [] t ⟨m.h, top.succ⟩ with
  | none => simp [hr] at h
  | some res =>
    obtain ⟨rs, t1, m1, kc⟩ := res
    simp only [hr, fL_eq] at h
    obtain ⟨hrd, h⟩ := cond_some h
    simp only [Option.some.injEq, Prod.mk.injEq] at h
    obtain ⟨rfl, rfl⟩ := h
    obtain ⟨hg, hlen⟩ := runL_ok (t0 := t) (m0 := ⟨m.h, top.succ⟩) (lo := m.n.toNat) ops.toList (acc := []) rfl rfl (by simp) rfl ⟨rfl, rfl⟩ hr
    simp at hlen htop
    have pl := planL_of hg hlen hrd htop
    -- the last kept name is used
    have hnone := r.fresh top (by omega)
    have hle := Env.le_add (x := ((0 : Nat), (0 : Nat))) hnone
    have hnt' : ∀ q o, T.get q m.h = some o → q ≠ top := fun q o hq e => by
      obtain ⟨b, κ, x, e1, _⟩ := r.obj q o hq
      rw [e, hnone] at e1; cases e1
    have rf : RelF G w0 (ρ.add top (0, 0)) (fun q => T.get q m.h) top.succ w := ⟨fun p o hp => by
        obtain ⟨b, κ, x, e1, e2, e3, e4⟩ := r.obj p o hp
        exact ⟨b, κ, x, hle _ _ e1, e2, e3, e4.mono hle⟩, fun p q o o' b κ κ' hp hq e1 e2 => by
        simp only [Env.add, if_neg (hnt' p o hp)] at e1
        simp only [Env.add, if_neg (hnt' q o' hq)] at e2
        exact r.inj p q o o' b κ κ' hp hq e1 e2, fun p hp => by
        rw [Key.toNat_succ] at hp
        have : p ≠ top := fun e => by rw [e] at hp; omega
        simp only [Env.add, if_neg this]
        exact r.fresh p (by omega), r.low, r.os, r.tape, r.output, r.size⟩
    have fr0 : FrF ρ (fun q => T.get q m.h) w (ρ.add top (0, 0)) (fun q => T.get q m.h) w := ⟨hle, Nat.le_refl _, fun _ _ _ => rfl, fun b ⟨p, o, κ, e1, e2⟩ => by
      simp only [Env.add, if_neg (hnt' p o e1)] at e2
      exact .inl ⟨p, o, κ, e1, e2⟩⟩
    refine pl.any ok hc hnt (ρ0 := ρ) (wb := w) (fun ρ' a' w' h1 h2 h3 h4 h5 => ⟨rfl, ρ', h1, h2, ⟨h3.obj, h3.inj, h3.fresh, h3.low, h3.os, h3.tape, h3.output, h3.size⟩, ⟨h4.ext, h4.size, h4.keep, h4.own, fun p q e1 e2 e3 => (Nat.lt_or_ge q.toNat m.n.toNat).elim (fun h => Nat.lt_of_lt_of_le h (h5 p e1 e2)) (fun h => absurd (r.fresh q h) e3)⟩⟩) ops.size _ 0 (ρ.add top (0, 0)) a _ (by simp [Array.toList_replicate])
      ⟨by simp, ?_, .inl rfl, by omega, ?_, ?_, ?_, ?_, ?_, ?_, ?_, rt.size, hd⟩
    · intro j hj hl
      simp [hj] at hl
    · intro i hi hk
      simp [hi]
    · have e : Hf pl (fun i => (Array.replicate ops.size false).getD i false) ops.size = fun q => T.get q m.h := by
        exact Eq.trans (funext fun q => Hf_none pl (L := fun i => (Array.replicate ops.size false).getD i false) (j := ops.size) (fun i hi => by simp [hi]) q) pl.F0
      rw [e, pl.N0]
      exact ⟨rf.obj, rf.inj, rf.fresh, rf.low, rf.os, rf.tape, rf.output, rf.size⟩
    · have e : Hf pl (fun i => (Array.replicate ops.size false).getD i false) ops.size = fun q => T.get q m.h := by
        exact Eq.trans (funext fun q => Hf_none pl (L := fun i => (Array.replicate ops.size false).getD i false) (j := ops.size) (fun i hi => by simp [hi]) q) pl.F0
      rw [e]
      exact ⟨fr0.ext, fr0.size, fr0.keep, fr0.own⟩
    · intro q e1 e2
      by_cases c : q = top
      · rw [c]; omega
      · simp only [Env.add, if_neg c] at e2
        exact absurd e1 e2
    · rw [Env.add_self]; simp
    · intro i hi hk hl
      have hk1 := (pl.keyn i hk).1
      have : pl.key i ≠ top := fun e => by have := congrArg Key.toNat e; omega
      simp only [Env.add, if_neg this]
      exact r.fresh _ (pl.keyn i hk).2
    · intro s hs j hj hw v hv
      have hkeep := pl.Tconst hnt hs (p := 0) (q := j) hj (by omega) fun y oy h1 h2 hoy hdy => by
        have := (hw y oy hoy hdy).2 h2
        have hy : y < ops.size := (Array.getElem?_eq_some_iff.1 hoy).1
        simp [hy] at this
      rw [hkeep, pl.T0] at hv
      exact den_mono hle (rt.get s v hs hv)
end
end Go.Ev

set_option linter.unusedVariables false
set_option linter.unusedSimpArgs false
namespace Go.Ev
noncomputable section

theorem letsOut_mono {Q Q' : Exit → Act → World → Prop} (h : ∀ e a w, e ≠ .normal → Q e a w → Q' e a w) (l : LetsOut Q) : LetsOut Q' := by
  obtain ⟨a, w, q⟩ := l
  exact ⟨a, w, h _ _ _ (by simp) q⟩

theorem wpIn_monoQ {F : Fence} {n : Nat} {P : Program} {o : Oper} {a : Act} {w : World} {K K' : Act → World → Prop} {Q Q' : Exit → Act → World → Prop} (hK : ∀ a w, K a w → K' a w) (hQ : ∀ e a w, e ≠ .normal → Q e a w → Q' e a w)
    (hh : o.wpIn F n P a w K Q) : o.wpIn F n P a w K' Q' := by
  unfold Oper.wpIn at *
  refine ⟨hh.1, ?_⟩
  have hh := hh.2
  generalize (o.semAt F.round a.eval).run P w = r at *
  cases r with
  | ok x w' =>
    cases x <;> simp only [Oper.uponIn] at hh ⊢ <;>
      first
        | exact hK _ _ hh
        | exact ⟨hh.1, CallsIn.mono hh.2 (fun e w'' he => by cases e <;> first | exact hK _ _ he | exact hQ _ _ _ (by simp) he | exact letsOut_mono hQ he)⟩
        | exact ⟨hh.1, RowsIn.mono hh.2 (fun _ _ he => hK _ _ he)⟩
        | exact ⟨hh.1, RoundIn.mono hh.2 (fun e w'' he => by cases e <;> first | exact hK _ _ he | exact hQ _ _ _ (by simp) he | exact letsOut_mono hQ he)⟩
  | halt x w' => cases x <;> simp only [Oper.uponIn] at hh ⊢ <;> first | exact hQ _ _ _ (by simp) hh | exact hh

theorem wpOpIn_monoQ {F : Fence} {n : Nat} {P : Program} {ops ops' : Array Oper} {i : Nat} {a : Act} {w : World} {K K' : Act → World → Prop} {Q Q' : Exit → Act → World → Prop} {o : Oper} (ho : ops[i]? = some o) (ho' : ops'[i]? = some o)
    (hg : Region.wanted o (yielded ops a.tmps) = Region.wanted o (yielded ops' a.tmps)) (hK : ∀ a w, K a w → K' a w) (hQ : ∀ e a w, e ≠ .normal → Q e a w → Q' e a w)
    (hh : wpOpIn F n P ops Q i K a w) : wpOpIn F n P ops' Q' i K' a w := by
  unfold wpOpIn at *
  simp only [ho, ho', hg] at hh ⊢
  split
  · rename_i hw
    simp only [hw, if_true] at hh
    exact wpIn_monoQ hK hQ hh
  · rename_i hw
    simp only [hw] at hh
    exact ⟨hh.1, hK _ _ hh.2⟩

theorem wpAnyIn_monoQ {F : Fence} {n : Nat} {P : Program} {md : Region.Mode} {ops : Array Oper} {Q Q' : Exit → Act → World → Prop} (h : ∀ e a w, Q e a w → Q' e a w) : ∀ (fuel : Nat) (l : Array Bool) (a : Act) (w : World), wpAnyIn F n P md ops Q fuel l a w → wpAnyIn F n P md ops Q' fuel l a w
  | 0, l, a, w, hh => ⟨hh.1, h _ _ _ hh.2⟩
  | fuel + 1, l, a, w, hh => ⟨fun h0 => h _ _ _ (hh.1 h0), fun i hi => by
      obtain ⟨_, o, ho, _⟩ := mem_ready.1 hi
      exact wpOpIn_monoQ ho ho rfl (fun a w => wpAnyIn_monoQ h fuel _ a w) (fun e a w _ => h e a w) (hh.2 i hi)⟩

/-- The last operation, n, waits for all others. -/
structure LastZ (ops ops' : Array Oper) (n : Nat) : Prop where
  size : ops.size = n + 1
  size' : ops'.size = n
  same : ∀ j, j < n → ops'[j]? = ops[j]?
  back : ∀ (j : Nat) (o : Oper), ops[j]? = some o → ∀ e ∈ o.after, Region.binds .any e = true → e.on < j
  succ : ∀ j, j < n → ∃ (k : Nat) (o : Oper), j < k ∧ ops[k]? = some o ∧ ∃ e ∈ o.after, Region.binds .any e = true ∧ e.on = j
  guard : ∀ (j : Nat) (o : Oper), j < n → ops[j]? = some o → ∀ i b, o.guard = some (i, b) → i < n

structure Two (n : Nat) (l l' : Array Bool) : Prop where
  size : l.size = n + 1
  size' : l'.size = n
  same : ∀ j, j < n → l'[j]? = l[j]?
  last : l[n]? = some false

theorem Two.getD {n : Nat} {l l' : Array Bool} (t : Two n l l') {j : Nat} (h : j < n) (d : Bool) : l'.getD j d = l.getD j d := by
  simp only [Array.getD_eq_getD_getElem?, t.same j h]

theorem Two.set {n : Nat} {l l' : Array Bool} (t : Two n l l') {i : Nat} (h : i < n) : Two n (l.setIfInBounds i true) (l'.setIfInBounds i true) := by
  refine ⟨by simp [t.size], by simp [t.size'], fun j hj => ?_, ?_⟩
  · rw [Array.getElem?_setIfInBounds, Array.getElem?_setIfInBounds, t.same j hj, t.size, t.size']
    by_cases c : i = j
    · simp [c, hj]; omega
    · simp [c]
  · rw [Array.getElem?_setIfInBounds, if_neg (by omega), t.last]

theorem getD_lt {l : Array Bool} {j : Nat} (h : j < l.size) (d d' : Bool) : l.getD j d = l.getD j d' := by
  simp [Array.getD_eq_getD_getElem?, h]

theorem LastZ.ready {ops ops' : Array Oper} {n : Nat} (z : LastZ ops ops' n) {l l' : Array Bool} (t : Two n l l') {i : Nat} (hi : i < n) : i ∈ Region.ready .any ops l ↔ i ∈ Region.ready .any ops' l' := by
  rw [mem_ready, mem_ready, t.getD hi, z.same i hi]
  constructor
  · rintro ⟨h1, o, ho, h2⟩
    refine ⟨h1, o, ho, fun e he hb => ?_⟩
    rw [t.getD (by have := z.back i o ho e he hb; omega)]
    exact h2 e he hb
  · rintro ⟨h1, o, ho, h2⟩
    refine ⟨h1, o, ho, fun e he hb => ?_⟩
    have := h2 e he hb
    rw [t.getD (by have := z.back i o ho e he hb; omega)] at this
    exact this

def Closed (ops : Array Oper) (l : Array Bool) : Prop := ∀ (j : Nat) (o : Oper), l.getD j false = true → ops[j]? = some o → ∀ e ∈ o.after, Region.binds .any e = true → l.getD e.on false = true

theorem LastZ.lastReady {ops ops' : Array Oper} {n : Nat} (z : LastZ ops ops' n) {l l' : Array Bool} (t : Two n l l') (c : Closed ops l) (h : n ∈ Region.ready .any ops l) : ∀ (d j : Nat), j + d = n → j < n → l.getD j false = true := by
  obtain ⟨_, o, ho, h2⟩ := mem_ready.1 h
  intro d
  induction d using Nat.strongRecOn with
  | ind d ih =>
    intro j hd hj
    obtain ⟨k, p, hk, hp, e, he, hb, hon⟩ := z.succ j hj
    have hkn : k < n + 1 := by have := (Array.getElem?_eq_some_iff.1 hp).1; rw [z.size] at this; exact this
    by_cases hkn' : k = n
    · subst hkn'
      rw [ho] at hp; cases hp
      rw [← hon]; exact h2 e he hb
    · have hl := ih (n - k) (by omega) k (by omega) (by omega)
      rw [← hon]
      exact c k p hl hp e he hb

theorem LastZ.all {ops ops' : Array Oper} {n : Nat} (z : LastZ ops ops' n) {l l' : Array Bool} (t : Two n l l') (h : Region.ready .any ops' l' = []) : ∀ j, j < n → l.getD j false = true := by
  intro j
  induction j using Nat.strongRecOn with
  | ind j ih =>
    intro hj
    cases hb : l.getD j false with
    | true => rfl
    | false =>
      exfalso
      have hm : j ∈ Region.ready .any ops' l' := by
        rw [← z.ready t hj, mem_ready]
        have hlt : j < ops.size := by rw [z.size]; omega
        refine ⟨by rw [getD_lt (by rw [t.size]; omega) true false]; exact hb, ops[j], by simp [hlt], fun e he hbi => ?_⟩
        have := z.back j ops[j] (by simp [hlt]) e he hbi
        exact ih e.on this (by omega)
      rw [h] at hm
      cases hm

theorem any_last {F : Fence} {k : Nat} {P : Program} {ops ops' : Array Oper} {n : Nat} (z : LastZ ops ops' n) {Q : Exit → Act → World → Prop} :
    ∀ (fuel : Nat) (l l' : Array Bool) (a : Act) (w : World), Two n l l' → Closed ops l →
    wpAnyIn F k P .any ops' (fun e a w => e = .normal ∧ wpOpIn F k P ops Q n (fun _ _ => False) a w) fuel l' a w → wpAnyIn F k P .any ops Q (fuel + 1) l a w := by
  have hend : ∀ (fuel : Nat) (l l' : Array Bool) (a : Act) (w : World), Two n l l' → Closed ops l → Region.ready .any ops' l' = [] → wpOpIn F k P ops Q n (fun _ _ => False) a w → wpAnyIn F k P .any ops Q (fuel + 1) l a w := by
    intro fuel l l' a w t c hr hz
    have hall := z.all t hr
    refine ⟨fun h0 => ?_, fun i hi => ?_⟩
    · exfalso
      have hlt : n < ops.size := by rw [z.size]; omega
      have hm : n ∈ Region.ready .any ops l := by
        rw [mem_ready]
        refine ⟨by simp [Array.getD_eq_getD_getElem?, t.last], ops[n], by simp [hlt], fun e he hb => ?_⟩
        exact hall e.on (z.back n _ (by simp [hlt]) e he hb)
      rw [h0] at hm
      cases hm
    · have hin : i = n := by
        obtain ⟨h1, o, ho, _⟩ := mem_ready.1 hi
        have hlt : i < n + 1 := by have := (Array.getElem?_eq_some_iff.1 ho).1; rw [z.size] at this; exact this
        rcases Nat.lt_or_ge i n with h | h
        · have := hall i h
          rw [getD_lt (by rw [t.size]; omega) false true, h1] at this
          cases this
        · omega
      subst hin
      obtain ⟨_, o, ho, _⟩ := mem_ready.1 hi
      exact wpOpIn_monoQ ho ho rfl (fun _ _ h => h.elim) (fun _ _ _ _ h => h) hz
  intro fuel
  induction fuel with
  | zero => intro l l' a w t c h; exact hend 0 l l' a w t c h.1 h.2.2
  | succ fuel ih =>
    intro l l' a w t c h
    by_cases hr : Region.ready .any ops' l' = []
    · exact hend _ l l' a w t c hr (h.1 hr).2
    · obtain ⟨x, hx⟩ := List.exists_mem_of_ne_nil _ hr
      have hxn : x < n := by
        obtain ⟨_, o, ho, _⟩ := mem_ready.1 hx
        have := (Array.getElem?_eq_some_iff.1 ho).1; rw [z.size'] at this; exact this
      have hx' := (z.ready t hxn).2 hx
      refine ⟨fun h0 => (by rw [h0] at hx'; cases hx'), fun i hi => ?_⟩
      have hin : i < n := by
        obtain ⟨h1, o, ho, _⟩ := mem_ready.1 hi
        have hlt : i < n + 1 := by have := (Array.getElem?_eq_some_iff.1 ho).1; rw [z.size] at this; exact this
        rcases Nat.lt_or_ge i n with h | h
        · exact h
        · exfalso
          have e : i = n := by omega
          subst e
          have := z.lastReady t c hi (i - x) x (by omega) hxn
          rw [getD_lt (by rw [t.size]; omega) false true, (mem_ready.1 hx').1] at this
          cases this
      have hi' := (z.ready t hin).1 hi
      obtain ⟨hu, o, ho, hpre⟩ := mem_ready.1 hi
      have hc' : Closed ops (l.setIfInBounds i true) := by
        intro j p hl hp e he hb
        have hset : ∀ q, (l.setIfInBounds i true).getD q false = true ↔ (q = i ∨ l.getD q false = true) := fun q => by
          rw [Array.getD_eq_getD_getElem?, Array.getElem?_setIfInBounds, t.size, if_pos (show i < n + 1 by omega)]
          by_cases c : i = q
          · simp [c]
          · rw [if_neg c, ← Array.getD_eq_getD_getElem?]
            exact ⟨.inr, fun h => h.elim (fun h => absurd h.symm c) id⟩
        rw [hset] at hl ⊢
        right
        rcases hl with rfl | hl
        · rw [ho] at hp; cases hp
          exact hpre e he hb
        · exact c j p hl hp e he hb
      have ho' : ops'[i]? = some o := by rw [z.same i hin, ho]
      refine wpOpIn_monoQ ho' ho ?_ (fun a w hk => ih _ _ a w (t.set hin) hc' hk) (fun e a w hne hq => absurd hq.1 hne) (h.2 i hi')
      unfold Region.wanted
      cases hg : o.guard with
      | none => rfl
      | some jb =>
        obtain ⟨j, b⟩ := jb
        have hj := z.guard i o hin ho j b hg
        show (yielded ops' a.tmps j == some b) = (yielded ops a.tmps j == some b)
        unfold yielded
        rw [z.same j hj]

/- ### The check -/
def backE (j : Nat) : List Edge → Bool
  | [] => true
  | e :: es => bif bindsA e then (bif Nat.blt e.on j then backE j es else false) else backE j es
def maskE : List Edge → Nat → Nat
  | [], r => r
  | e :: es, r => bif bindsA e then fN (Nat.lor r (Nat.pow 2 e.on)) fun r => maskE es r else maskE es r
def backO : List Oper → Nat → Bool
  | [], _ => true
  | o :: os, j => bif backE j o.after.toList then backO os (Nat.succ j) else false
def maskO : List Oper → Nat → Nat
  | [], r => r
  | o :: os, r => fN (maskE o.after.toList r) fun r => maskO os r
def guardO (n : Nat) : List Oper → Bool
  | [] => true
  | o :: os => match o.guard with
    | none => guardO n os
    | some (i, _) => bif Nat.blt i n then guardO n os else false

theorem backE_ok {j : Nat} : ∀ {l : List Edge}, backE j l = true → ∀ e ∈ l, Region.binds .any e = true → e.on < j
  | [], h, e, he, hb => by cases he
  | x :: l, h, e, he, hb => by
    simp only [backE] at h
    rw [bindsA_eq] at hb
    cases hx : bindsA x with
    | true =>
      simp only [hx, cond_true] at h
      obtain ⟨h1, h2⟩ := cond_and h
      rcases List.mem_cons.1 he with rfl | he
      · rw [nblt, decide_eq_true_iff] at h1; exact h1
      · exact backE_ok h2 e he (by rw [bindsA_eq]; exact hb)
    | false =>
      simp only [hx, cond_false] at h
      rcases List.mem_cons.1 he with rfl | he
      · rw [hx] at hb; cases hb
      · exact backE_ok h e he (by rw [bindsA_eq]; exact hb)

theorem backO_ok : ∀ {l : List Oper} {i : Nat}, backO l i = true → ∀ (j : Nat) (o : Oper), l[j]? = some o → ∀ e ∈ o.after, Region.binds .any e = true → e.on < i + j
  | [], i, h, j, o, ho => by simp at ho
  | x :: l, i, h, j, o, ho => by
    simp only [backO] at h
    obtain ⟨h1, h2⟩ := cond_and h
    cases j with
    | zero =>
      simp at ho; subst ho
      intro e he hb
      exact backE_ok h1 e (by simpa using he) hb
    | succ j =>
      intro e he hb
      have := backO_ok h2 j o (by simpa using ho) e he hb
      omega

theorem maskE_ok : ∀ {l : List Edge} {r j : Nat}, (maskE l r).testBit j = true → r.testBit j = true ∨ ∃ e ∈ l, Region.binds .any e = true ∧ e.on = j
  | [], r, j, h => .inl h
  | x :: l, r, j, h => by
    simp only [maskE] at h
    cases hx : bindsA x with
    | true =>
      simp only [hx, cond_true, fN_eq] at h
      rcases maskE_ok h with h | ⟨e, he, h⟩
      · rw [lor_bit, pow_bit, Bool.or_eq_true, decide_eq_true_iff] at h
        rcases h with h | h
        · exact .inl h
        · exact .inr ⟨x, by simp, by rw [bindsA_eq]; exact hx, h⟩
      · exact .inr ⟨e, by simp [he], h⟩
    | false =>
      simp only [hx, cond_false] at h
      rcases maskE_ok h with h | ⟨e, he, h⟩
      · exact .inl h
      · exact .inr ⟨e, by simp [he], h⟩

theorem maskO_ok : ∀ {l : List Oper} {r j : Nat}, (maskO l r).testBit j = true → r.testBit j = true ∨ ∃ (k : Nat) (o : Oper), l[k]? = some o ∧ ∃ e ∈ o.after, Region.binds .any e = true ∧ e.on = j
  | [], r, j, h => .inl h
  | x :: l, r, j, h => by
    simp only [maskO, fN_eq] at h
    rcases maskO_ok h with h | ⟨k, o, ho, h⟩
    · rcases maskE_ok h with h | ⟨e, he, h⟩
      · exact .inl h
      · exact .inr ⟨0, x, by simp, e, by simpa using he, h⟩
    · exact .inr ⟨k + 1, o, by simpa using ho, h⟩

theorem guardO_ok {n : Nat} : ∀ {l : List Oper}, guardO n l = true → ∀ (j : Nat) (o : Oper), l[j]? = some o → ∀ i b, o.guard = some (i, b) → i < n
  | [], h, j, o, ho => by simp at ho
  | x :: l, h, j, o, ho => by
    intro i b hg
    simp only [guardO] at h
    have hx : guardO n l = true ∧ (∀ i b, x.guard = some (i, b) → i < n) := by
      cases hxg : x.guard with
      | none => simp only [hxg] at h; exact ⟨h, fun i b h => by cases h⟩
      | some q =>
        obtain ⟨i', b'⟩ := q
        simp only [hxg] at h
        obtain ⟨h1, h2⟩ := cond_and h
        rw [nblt, decide_eq_true_iff] at h1
        exact ⟨h2, fun i b h => by cases h; exact h1⟩
    cases j with
    | zero => simp at ho; subst ho; exact hx.2 i b hg
    | succ j => exact guardO_ok hx.1 j o (by simpa using ho) i b hg

/-- The operations but the last, and the last. -/
def splitL : List Oper → Option (List Oper × Oper)
  | [] => none
  | o :: os => match splitL os with
    | none => some ([], o)
    | some (l, z) => some (o :: l, z)

theorem splitL_ok : ∀ {l l' : List Oper} {z : Oper}, splitL l = some (l', z) → l = l' ++ [z]
  | [], l', z, h => by cases h
  | o :: os, l', z, h => by
    simp only [splitL] at h
    cases hs : splitL os with
    | none =>
      simp only [hs, Option.some.injEq, Prod.mk.injEq] at h
      obtain ⟨rfl, rfl⟩ := h
      cases os with
      | nil => rfl
      | cons p ps =>
        exfalso
        simp only [splitL] at hs
        cases h2 : splitL ps with
        | none => simp [h2] at hs
        | some q => obtain ⟨a, b⟩ := q; simp [h2] at hs
    | some q =>
      obtain ⟨a, b⟩ := q
      simp only [hs, Option.some.injEq, Prod.mk.injEq] at h
      obtain ⟨rfl, rfl⟩ := h
      rw [splitL_ok hs]; rfl

theorem lastZ_of {ops : Array Oper} {l' : List Oper} {z : Oper} (h : splitL ops.toList = some (l', z)) (h1 : backO ops.toList 0 = true) (h2 : Nat.beq (Nat.land (maskO ops.toList 0) (Nat.sub (Nat.pow 2 l'.length) 1)) (Nat.sub (Nat.pow 2 l'.length) 1) = true)
    (h3 : guardO l'.length l' = true) : LastZ ops l'.toArray l'.length ∧ ops[l'.length]? = some z := by
  have e := splitL_ok h
  have hsz : ops.size = l'.length + 1 := by rw [← Array.length_toList, e]; simp
  have hget : ∀ j, ops[j]? = (l' ++ [z])[j]? := fun j => by rw [← Array.getElem?_toList, e]
  have hback : ∀ (j : Nat) (o : Oper), ops[j]? = some o → ∀ e ∈ o.after, Region.binds .any e = true → e.on < j := fun j o ho e he hb => by
    have := backO_ok h1 j o (by rw [Array.getElem?_toList]; exact ho) e he hb
    omega
  refine ⟨⟨hsz, by simp, fun j hj => ?_, hback, fun j hj => ?_, fun j o hj ho i b hg => ?_⟩, by rw [hget]; simp⟩
  · rw [hget, List.getElem?_append_left hj]; simp
  · have hb : (Nat.land (maskO ops.toList 0) (Nat.sub (Nat.pow 2 l'.length) 1)).testBit j = true := by
      rw [Nat.eq_of_beq_eq_true h2]
      show (2 ^ l'.length - 1).testBit j = true
      rw [Nat.testBit_two_pow_sub_one]
      simpa using hj
    rw [land_bit, Bool.and_eq_true] at hb
    rcases maskO_ok hb.1 with h | ⟨k, o, ho, e, he, hbi, hon⟩
    · simp at h
    · rw [Array.getElem?_toList] at ho
      have := hback k o ho e he hbi
      exact ⟨k, o, by omega, ho, e, he, hbi, hon⟩
  · rw [hget, List.getElem?_append_left hj] at ho
    exact guardO_ok h3 j o ho i b hg

/- ### The region -/
def drawnB (C : Cx) (call : CallF) (nt h : Nat) (ops : Array Oper) (t : T AV) (m : Mem) : Option (T AV × Mem) := bif Nat.beq h 0 then drawn C call nt ops t m else drawnL C call nt h ops t m

theorem drawnB_ok {C : Cx} {G : Nat → Nat} {w0 : World} (ok : C.Fine G w0) {call : CallF} (hc : CallsOK G w0 C.P call) {ro : Option Nat} {nt h : Nat} (hnt : nt ≤ 1000000) : DrawAny G w0 C.P ro nt (drawnB C call nt h) := by
  intro ops t m t' m' e
  unfold drawnB at e
  cases hb : Nat.beq h 0 with
  | true => rw [hb] at e; exact drawn_ok ok hc hnt ops t m t' m' e
  | false => rw [hb] at e; exact drawnL_ok ok hc hnt ops t m t' m' e

/-- All others first, then the last, which panics. -/
def drawnP (C : Cx) (X : CallX) (nt h : Nat) (ops : Array Oper) (t : T AV) (m : Mem) : CodeR :=
  match splitL ops.toList with
  | none => none
  | some (l, z) => bif backO ops.toList 0 then (bif Nat.beq (Nat.land (maskO ops.toList 0) (Nat.sub (Nat.pow 2 l.length) 1)) (Nat.sub (Nat.pow 2 l.length) 1) then (bif guardO l.length l then
    (match drawnB C (retX X) nt h ⟨l⟩ t m with
    | none => none
    | some (t1, m1) => match wantA ops.toList t1 z.guard with
      | some true => match evOpX C X t1 m1 z.op with
        | some (false, v, m2) => some (.pan v, t1, m2)
        | _ => none
      | _ => none) else none) else none) else none

def drawH (C : Cx) (X : CallX) (nt f : Nat) : DrawF := fun id ops t m => fN (C.hint f id) fun h => match drawnB C (retX X) nt h ops t m with
  | some (t1, m1) => some (.nrm, t1, m1)
  | none => drawnP C X nt h ops t m

theorem drawnP_ok {C : Cx} {G : Nat → Nat} {w0 : World} (ok : C.Fine G w0) {X : CallX} (hX : XOK G w0 C.P X) {ro : Option Nat} {nt h : Nat} (hnt : nt ≤ 1000000) : DrawOK G w0 C.P ro nt (fun _ => drawnP C X nt h) := by
  intro id ops t m x t' m' e0 ρ a w D rt hd r
  have e : drawnP C X nt h ops t m = some (x, t', m') := e0
  clear e0
  unfold drawnP at e
  cases hs : splitL ops.toList with
  | none => simp [hs] at e
  | some q =>
    obtain ⟨l, z⟩ := q
    simp only [hs] at e
    obtain ⟨h1, e⟩ := cond_some e
    obtain ⟨h2, e⟩ := cond_some e
    obtain ⟨h3, e⟩ := cond_some e
    cases hb : drawnB C (retX X) nt h ⟨l⟩ t m with
    | none => simp [hb] at e
    | some tm =>
      obtain ⟨t1, m1⟩ := tm
      simp only [hb] at e
      cases hw : wantA ops.toList t1 z.guard with
      | none => simp [hw] at e
      | some b =>
        cases b with
        | false => simp [hw] at e
        | true =>
          simp only [hw] at e
          cases ho : evOpX C X t1 m1 z.op with
          | none => simp [ho] at e
          | some vm =>
            obtain ⟨b, v, m2⟩ := vm
            cases b with
            | true => simp [ho] at e
            | false =>
              simp only [ho, Option.some.injEq, Prod.mk.injEq] at e
              obtain ⟨rfl, rfl, rfl⟩ := e
              obtain ⟨hz, hlast⟩ := lastZ_of hs h1 h2 h3
              refine wpIn_region_any ok.mixed ?_
              have hany := drawnB_ok (ro := ro) ok hX.calls hnt ⟨l⟩ t m _ _ hb ρ a w D rt hd r
              have hfuel : ops.size = (⟨l⟩ : Array Oper).size + 1 := by rw [hz.size]; simp
              rw [hfuel]
              refine any_last hz _ _ (Array.replicate (⟨l⟩ : Array Oper).size false) a _ ⟨by simp, by simp, fun j hj => by rw [Array.getElem?_replicate, Array.getElem?_replicate, if_pos (by simpa using hj), if_pos (by simp at hj ⊢; omega)], by rw [Array.getElem?_replicate, if_pos (by simp)]⟩ (fun j o hj => ?_) (wpAnyIn_monoQ (fun e a1 w1 ⟨he, ρ1, k1, k2, k3, k4⟩ => ⟨he, ?_⟩) _ _ _ _ hany)
              · simp only [Array.getD_eq_getD_getElem?] at hj
                rw [Array.getElem?_replicate] at hj
                split at hj <;> simp at hj
              · unfold wpOpIn
                rw [hlast]
                simp only
                rw [wantA_ok k1 k1.size hw]
                simp only [if_true]
                refine wpIn_of_wp (evOpX_nd ho) <| evOpX_pan ok hX k1 k3 ho fun ρ2 w2 y dy r2 f2 => ⟨ρ2, ⟨y, dy, rfl⟩, k1.mono f2.ext, k2, r2, k4.trans f2⟩

theorem drawH_ok {C : Cx} {G : Nat → Nat} {w0 : World} (ok : C.Fine G w0) {X : CallX} (hX : XOK G w0 C.P X) {ro : Option Nat} {nt f : Nat} (hnt : nt ≤ 1000000) : DrawOK G w0 C.P ro nt (drawH C X nt f) := by
  intro id ops t m x t' m' e
  unfold drawH at e
  rw [fN_eq] at e
  cases hb : drawnB C (retX X) nt (C.hint f id) ops t m with
  | none =>
    simp only [hb] at e
    exact drawnP_ok ok hX hnt id ops t m x t' m' e
  | some tm =>
    obtain ⟨t1, m1⟩ := tm
    simp only [hb, Option.some.injEq, Prod.mk.injEq] at e
    obtain ⟨rfl, rfl, rfl⟩ := e
    intro ρ a w D rt hd r
    refine wpIn_region_any ok.mixed (wpAnyIn_monoQ (fun e a1 w1 ⟨he, ρ1, k⟩ => ⟨ρ1, he, k⟩) _ _ _ _ (drawnB_ok (ro := ro) ok hX.calls hnt ops t m _ _ hb ρ a w D rt hd r))
end
end Go.Ev
