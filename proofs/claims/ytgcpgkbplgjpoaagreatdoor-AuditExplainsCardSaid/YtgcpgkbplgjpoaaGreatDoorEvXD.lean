/-
  A part of the evaluator for closed runs: proved once over any program.
-/
import Derived.Test.YtgcpgkbplgjpoaaGreatDoorEvXC
set_option linter.unusedVariables false
set_option linter.unusedSimpArgs false
namespace Go.Ev
noncomputable section

/-! ### The check of a region with lights -/
def skipK {β : Type} : List Oper → Key → (Key → β) → β
  | [], k, c => c k
  | _ :: l, k, c => fKey (Key.succ k) fun k => skipK l k c

def isLight (R : Nat) (r : Rec) : Bool := bif Nat.ble 3 r.k then Nat.beq (Nat.land R r.b) 0 else false

def dropK {β : Type} (R : Nat) : List Rec → T AObj → (T AObj → β) → β
  | [], h, c => c h
  | r :: rs, h, c => bif isLight R r then T.putK r.key none h fun h => dropK R rs h c else dropK R rs h c

def readd {β : Type} (R : Nat) (h0 : T AObj) : List Rec → T AObj → (T AObj → β) → β
  | [], h, c => c h
  | r :: rs, h, c => bif isLight R r then T.putK r.key (T.get r.key h0) h fun h => readd R h0 rs h c else readd R h0 rs h c

def dropR {β : Type} (R pb : Nat) : List Rec → T AObj → (T AObj → β) → β
  | [], h, c => c h
  | r :: rs, h, c => bif Nat.ble 3 r.k then (bif (bif Nat.beq (Nat.land R r.b) 0 then false else Nat.blt r.b pb) then dropR R pb rs h c else T.putK r.key none h fun h => dropR R pb rs h c) else dropR R pb rs h c

def free (q : Key) (k : Nat) (key : Key) (N N' : T AObj) : Bool :=
  bif Nat.ble 3 k then !(Key.eqb q key) else (match T.get q N with
    | none => (match T.get q N' with
      | none => true
      | some _ => false)
    | some _ => false)

def prevD (R k : Nat) (key : Key) (N N' : T AObj) : List Rec → Bool
  | [] => true
  | r :: rs => bif Nat.beq (Nat.land R r.b) 0 then (bif (bif Nat.ble 3 r.k then (bif Nat.ble 2 k then free r.key k key N N' else true) else bif Nat.beq r.k 2 then (bif Nat.ble 3 k then free key r.k r.key r.N r.N' else true) else true) then prevD R k key N N' rs else false) else prevD R k key N N' rs

structure StL where
  k : Nat
  v : AV
  N : T AObj
  N' : T AObj
  key : Key
  m : Mem

def stepL (C : Cx) (call : CallF) (acc : List Rec) (R b hint : Nat) (kc : Key) (t : T AV) (m : Mem) (op : Op) : Option StL :=
  bif Nat.beq (Nat.land hint b) 0 then dropK R acc m.h fun Nh => match stepD C call t ⟨Nh, m.n⟩ op with
    | none => none
    | some (false, v, _) => some ⟨1, v, .leaf, .leaf, .h, m⟩
    | some (true, v, m1) => readd R m.h acc m1.h fun h => some ⟨2, v, Nh, m1.h, .h, ⟨h, m1.n⟩⟩
  else match lightA C t op kc with
    | some (v, ob) => T.putK kc (some ob) m.h fun h => some ⟨4, v, .leaf, .leaf, kc, ⟨h, m.n⟩⟩
    | none => match op with
      | .store ty a x => match evO C t a with
        | some (.ptr p _) => match T.get p m.h with
          | some o => T.putK p (some o) .leaf fun N => match evE C t ⟨N, m.n⟩ op with
            | some (v, m1) => match T.get p m1.h with
              | some o' => T.putK p (some o') m.h fun h => some ⟨3, v, N, m1.h, p, ⟨h, m.n⟩⟩
              | none => none
            | none => none
          | none => none
        | _ => none
      | _ => none

def runL (C : Cx) (call : CallF) (nt : Nat) (ops : List Oper) (hint : Nat) : List Oper → Nat → Nat → Key → List Rec → T AV → Mem → Option (List Rec × T AV × Mem × Key)
  | [], j, b, kc, acc, t, m => some (acc, t, m, kc)
  | o :: os, j, b, kc, acc, t, m => match edgeR acc j o.after.toList 0 with
    | none => none
    | some R => fN (Nat.lor (gM ops o.guard) (mks (opL o.op))) fun lk => fN (dM o.dst) fun dm => fN (Nat.succ j) fun j => fN (Nat.mul 2 b) fun b' => fKey (Key.succ kc) fun kc' => match wantA ops t o.guard with
      | none => none
      | some false => bif prevOK R lk dm false acc then (match putT nt t o.dst (.tup []) with
        | none => none
        | some t' => fN (cOf acc) fun c => fN (sOf acc) fun s => runL C call nt ops hint os j b' kc' (⟨o, b, R, lk, dm, 0, .tup [], t, m, c, s, .h, .leaf, .leaf⟩ :: acc) t' m) else none
      | some true => match stepL C call acc R b hint kc t m o.op with
        | none => none
        | some s => bif prevOK R lk dm (Nat.beq s.k 2) acc then (bif prevD R s.k s.key s.N s.N' acc then (match putT nt t o.dst s.v with
          | none => none
          | some t' => fN (bif Nat.beq s.k 2 then Nat.lor (cOf acc) b else cOf acc) fun c => fN (bif Nat.beq s.k 2 then Nat.lor (sOf acc) R else sOf acc) fun u =>
              runL C call nt ops hint os j b' kc' (⟨o, b, R, lk, dm, s.k, s.v, t, m, c, u, s.key, s.N, s.N'⟩ :: acc) t' s.m) else none) else none

def bndL : List Rec → Mem → List (Nat × Nat × Nat × Mem)
  | [], m => [(0, 0, 1, m)]
  | r :: acc, m => bif Nat.beq r.k 2 then fN (Nat.mul 2 r.b) fun pb => (r.c, r.s, pb, m) :: bndL acc r.m else bndL acc r.m

def rdAtL (C : Cx) (rs : List Rec) (r : Rec) (c : Nat) : List (Nat × Nat × Nat × Mem) → Bool
  | [] => true
  | (cp, sp, pb, mp) :: l => bif (bif Nat.beq (Nat.land r.R c) (Nat.land r.R cp) then (bif Nat.beq (Nat.land sp r.b) 0 then dropR r.R pb rs mp.h fun N => (match evP C r.t N r.o.op with
      | some v => AV.eqb v r.v
      | none => false) else true) else true) then rdAtL C rs r c l else false

def rdOKL (C : Cx) (rs : List Rec) (c : Nat) (B : List (Nat × Nat × Nat × Mem)) : List Rec → Bool
  | [] => true
  | r :: l => bif Nat.beq r.k 1 then (bif readsH r.o.op then (bif rdAtL C rs r c B then rdOKL C rs c B l else false) else rdOKL C rs c B l) else rdOKL C rs c B l

def drawnL (C : Cx) (call : CallF) (nt : Nat) (hint : Nat) (ops : Array Oper) (t : T AV) (m : Mem) : Option (T AV × Mem) :=
  skipK ops.toList m.n fun top => fKey (Key.succ top) fun n0 => match runL C call nt ops.toList hint ops.toList 0 1 m.n [] t ⟨m.h, n0⟩ with
    | none => none
    | some (rs, t', m', _) => fL (bndL rs m') fun B => bif rdOKL C rs (cOf rs) B rs then some (t', m') else none

/-! ### It is right -/
theorem skipK_eq {β : Type} : ∀ (l : List Oper) (k : Key) (c : Key → β), ∃ k', skipK l k c = c k' ∧ k'.toNat = k.toNat + l.length
  | [], k, c => ⟨k, rfl, by simp⟩
  | _ :: l, k, c => by
    obtain ⟨k', h1, h2⟩ := skipK_eq l k.succ c
    exact ⟨k', by simp only [skipK, fKey_eq]; exact h1, by rw [h2, Key.toNat_succ]; simp; omega⟩

/-- Memory without the lights that are not ordered ahead. -/
def dropd (R : Nat) : List Rec → T AObj → T AObj
  | [], h => h
  | r :: rs, h => if isLight R r = true then dropd R rs (T.put r.key none h) else dropd R rs h

theorem dropK_eq {β : Type} {R : Nat} : ∀ (l : List Rec) (h : T AObj) (c : T AObj → β), dropK R l h c = c (dropd R l h)
  | [], h, c => rfl
  | r :: rs, h, c => by
    simp only [dropK, dropd]
    cases isLight R r with
    | true => simp only [cond_true, T.putK_eq, if_true]; exact dropK_eq rs _ c
    | false => simp only [cond_false, Bool.false_eq_true, if_false]; exact dropK_eq rs _ c

theorem dropd_get {R : Nat} : ∀ (l : List Rec) (h : T AObj) (q : Key), T.get q (dropd R l h) = if ∃ r ∈ l, isLight R r = true ∧ r.key = q then none else T.get q h
  | [], h, q => by simp [dropd]
  | r :: rs, h, q => by
    simp only [dropd]
    by_cases c : isLight R r = true
    · rw [if_pos c, dropd_get rs _ q, T.get_put]
      by_cases e : q = r.key
      · rw [if_pos e, if_pos (⟨r, by simp, c, e.symm⟩ : ∃ r' ∈ r :: rs, isLight R r' = true ∧ r'.key = q)]
        split <;> rfl
      · rw [if_neg e]
        by_cases d : ∃ r ∈ rs, isLight R r = true ∧ r.key = q
        · obtain ⟨x, hx, h1⟩ := d
          rw [if_pos ⟨x, hx, h1⟩, if_pos ⟨x, by simp [hx], h1⟩]
        · rw [if_neg d, if_neg]
          rintro ⟨x, hx, h1, h2⟩
          rcases List.mem_cons.1 hx with rfl | hx
          · exact e h2.symm
          · exact d ⟨x, hx, h1, h2⟩
    · rw [if_neg c, dropd_get rs _ q]
      by_cases d : ∃ r ∈ rs, isLight R r = true ∧ r.key = q
      · obtain ⟨x, hx, h1⟩ := d
        rw [if_pos ⟨x, hx, h1⟩, if_pos ⟨x, by simp [hx], h1⟩]
      · rw [if_neg d, if_neg]
        rintro ⟨x, hx, h1, h2⟩
        rcases List.mem_cons.1 hx with rfl | hx
        · exact c h1
        · exact d ⟨x, hx, h1, h2⟩

def radd (R : Nat) (h0 : T AObj) : List Rec → T AObj → T AObj
  | [], h => h
  | r :: rs, h => if isLight R r = true then radd R h0 rs (T.put r.key (T.get r.key h0) h) else radd R h0 rs h

theorem readd_eq {β : Type} {R : Nat} {h0 : T AObj} : ∀ (l : List Rec) (h : T AObj) (c : T AObj → β), readd R h0 l h c = c (radd R h0 l h)
  | [], h, c => rfl
  | r :: rs, h, c => by
    simp only [readd, radd]
    cases isLight R r with
    | true => simp only [cond_true, T.putK_eq, if_true]; exact readd_eq rs _ c
    | false => simp only [cond_false, Bool.false_eq_true, if_false]; exact readd_eq rs _ c

theorem radd_get {R : Nat} {h0 : T AObj} : ∀ (l : List Rec) (h : T AObj) (q : Key), T.get q (radd R h0 l h) = if ∃ r ∈ l, isLight R r = true ∧ r.key = q then T.get q h0 else T.get q h
  | [], h, q => by simp [radd]
  | r :: rs, h, q => by
    simp only [radd]
    by_cases c : isLight R r = true
    · rw [if_pos c, radd_get rs _ q, T.get_put]
      by_cases e : q = r.key
      · rw [if_pos e, if_pos (⟨r, by simp, c, e.symm⟩ : ∃ r' ∈ r :: rs, isLight R r' = true ∧ r'.key = q), ← e]
        split <;> rfl
      · rw [if_neg e]
        by_cases d : ∃ r ∈ rs, isLight R r = true ∧ r.key = q
        · obtain ⟨x, hx, h1⟩ := d
          rw [if_pos ⟨x, hx, h1⟩, if_pos ⟨x, by simp [hx], h1⟩]
        · rw [if_neg d, if_neg]
          rintro ⟨x, hx, h1, h2⟩
          rcases List.mem_cons.1 hx with rfl | hx
          · exact e h2.symm
          · exact d ⟨x, hx, h1, h2⟩
    · rw [if_neg c, radd_get rs _ q]
      by_cases d : ∃ r ∈ rs, isLight R r = true ∧ r.key = q
      · obtain ⟨x, hx, h1⟩ := d
        rw [if_pos ⟨x, hx, h1⟩, if_pos ⟨x, by simp [hx], h1⟩]
      · rw [if_neg d, if_neg]
        rintro ⟨x, hx, h1, h2⟩
        rcases List.mem_cons.1 hx with rfl | hx
        · exact c h1
        · exact d ⟨x, hx, h1, h2⟩

def dropdR (R pb : Nat) : List Rec → T AObj → T AObj
  | [], h => h
  | r :: rs, h => if 3 ≤ r.k ∧ ¬ (Nat.beq (Nat.land R r.b) 0 = false ∧ r.b < pb) then dropdR R pb rs (T.put r.key none h) else dropdR R pb rs h

theorem dropR_eq {β : Type} {R pb : Nat} : ∀ (l : List Rec) (h : T AObj) (c : T AObj → β), dropR R pb l h c = c (dropdR R pb l h)
  | [], h, c => rfl
  | r :: rs, h, c => by
    simp only [dropR, dropdR]
    by_cases h3 : 3 ≤ r.k
    · have e3 : Nat.ble 3 r.k = true := Nat.ble_eq_true_of_le h3
      rw [e3]
      simp only [cond_true]
      cases hz : Nat.beq (Nat.land R r.b) 0 with
      | true =>
        simp only [cond_true, cond_false, T.putK_eq]
        rw [if_pos ⟨h3, fun h => by cases h.1⟩]
        exact dropR_eq rs _ c
      | false =>
        simp only [cond_false, nblt]
        by_cases hl : r.b < pb
        · simp only [hl, decide_true, cond_true]
          rw [if_neg (by simp [hl])]
          exact dropR_eq rs _ c
        · simp only [hl, decide_false, cond_false, T.putK_eq]
          rw [if_pos (by simp [h3, hl])]
          exact dropR_eq rs _ c
    · have e3 : Nat.ble 3 r.k = false := by
        cases h : Nat.ble 3 r.k with
        | false => rfl
        | true => exact absurd (Nat.le_of_ble_eq_true h) h3
      rw [e3]
      simp only [cond_false]
      rw [if_neg fun h => h3 h.1]
      exact dropR_eq rs _ c

theorem dropdR_get {R pb : Nat} : ∀ (l : List Rec) (h : T AObj) (q : Key) (o : AObj), T.get q (dropdR R pb l h) = some o → T.get q h = some o ∧ ∀ r ∈ l, 3 ≤ r.k → r.key = q → Nat.beq (Nat.land R r.b) 0 = false ∧ r.b < pb
  | [], h, q, o, e => ⟨e, fun r hr => by cases hr⟩
  | r :: rs, h, q, o, e => by
    simp only [dropdR] at e
    by_cases c : 3 ≤ r.k ∧ ¬ (Nat.beq (Nat.land R r.b) 0 = false ∧ r.b < pb)
    · rw [if_pos c] at e
      obtain ⟨h1, h2⟩ := dropdR_get rs _ q o e
      rw [T.get_put] at h1
      by_cases eq : q = r.key
      · rw [if_pos eq] at h1; cases h1
      · rw [if_neg eq] at h1
        refine ⟨h1, fun x hx h3 hk => ?_⟩
        rcases List.mem_cons.1 hx with rfl | hx
        · exact absurd hk.symm eq
        · exact h2 x hx h3 hk
    · rw [if_neg c] at e
      obtain ⟨h1, h2⟩ := dropdR_get rs _ q o e
      refine ⟨h1, fun x hx h3 hk => ?_⟩
      rcases List.mem_cons.1 hx with rfl | hx
      · exact Classical.byContradiction fun hn => c ⟨h3, hn⟩
      · exact h2 x hx h3 hk

/-- A store touches one block. -/
theorem storeA_one {P : Program} {m m' : Mem} {ty : TypeId} {p : Key} {off : Nat} {v : AV} (h : storeA P m ty (.ptr p off) v = some m') : m'.n = m.n ∧ (∃ o', m'.h = T.put p (some o') m.h) ∧ ∀ n', storeA P ⟨m.h, n'⟩ ty (.ptr p off) v = some ⟨m'.h, n'⟩ := by
  unfold storeA at h ⊢
  obtain ⟨s, hs, h⟩ := bind_some h
  obtain ⟨hc, h⟩ := cond_some h
  simp only [hs, Option.bind_some, hc, cond_true]
  cases hp : T.get p m.h with
  | none => simp [hp] at h
  | some o =>
    cases o <;> simp only [hp, reduceCtorEq] at h ⊢
    case cells u e fz l =>
      unfold storeRow at h ⊢
      simp only [hp] at h ⊢
      obtain ⟨hb, h⟩ := cond_some h
      simp only [fL_eq, T.putK_eq, Option.some.injEq] at h
      subst h
      exact ⟨rfl, ⟨_, rfl⟩, fun n' => by simp only [hb, cond_true, fL_eq, T.putK_eq]⟩
    case bytes u e fz n b =>
      obtain ⟨c, hc2, h⟩ := bind_some h
      simp only [fN_eq] at h
      unfold storeBytesA at h
      simp only [hp] at h
      obtain ⟨hb, h⟩ := cond_some h
      simp only [fN_eq, T.putK_eq, Option.some.injEq] at h
      subst h
      exact ⟨rfl, ⟨_, rfl⟩, fun n' => by simp only [hc2, Option.bind_some, fN_eq, storeBytesA, hp, hb, cond_true, T.putK_eq]⟩
end
end Go.Ev
