/-
  A part of the evaluator for closed runs: proved once over any program.
-/
import Derived.Test.YtgcpgkbplgjpoaaGreatDoorEvA
import Derived.Test.YtgcpgkbplgjpoaaGreatDoorEvB
import Derived.Orders
import Derived.Laws.Sem
import Derived.Laws.World
set_option linter.unusedVariables false
namespace Go.Ev

/-- A value whose addresses are names. -/
inductive AV where
  | bool (b : Bool)
  | int (k : IntKind) (n : Int)
  | str (n b : Nat)
  | nilP
  | ptr (p : Key) (off : Nat)
  | gptr (g off : Nat)
  | nilS
  | sl (p : Key) (off len cap : Nat)
  | slu (p : Key) (d len size : Nat)
  | nilM
  | map (p : Key)
  | fn (f : FuncId) (first cap : List AV)
  | nilF
  | iface (t : TypeId) (v : AV)
  | nilI
  | agg (l : List AV)
  | tup (l : List AV)
  deriving Inhabited

inductive AObj where
  /-- A row of cells: its first ones; 'none': there are no others; 'some size': it grew by append, elements of so many cells. -/
  | cells (u : Option Nat) (e : TypeId) (fz : Nat) (l : List AV)
  | bytes (u : Nat) (e : TypeId) (fz : Nat) (n b : Nat)
  | map (es : List (AV × AV × Nat)) (clk : Nat)
  | siter (n b pos : Nat)
  deriving Inhabited

/-- Names to blocks (and the room of a block that grew). -/
abbrev Env := Key → Option (Nat × Nat)

variable (G : Nat → Nat)

mutual
def den (ρ : Env) : AV → Option Value
  | .bool b => some (.bool b)
  | .int k n => some (.int k n)
  | .str n b => some (.string (mkB n b))
  | .nilP => some (.pointer none)
  | .ptr p off => match ρ p with
    | some (b, _) => some (.pointer (some ⟨b, off, none⟩))
    | none => none
  | .gptr g off => some (.pointer (some ⟨G g, off, none⟩))
  | .nilS => some (.slice none 0 0)
  | .sl p off len cap => match ρ p with
    | some (b, _) => some (.slice (some ⟨b, off, none⟩) len cap)
    | none => none
  | .slu p d len size => match ρ p with
    | some (b, κ) => if d + len ≤ κ then some (.slice (some ⟨b, d * size, none⟩) len (κ - d)) else none
    | none => none
  | .nilM => some (.map none)
  | .map p => match ρ p with
    | some (b, _) => some (.map (some b))
    | none => none
  | .fn f first cap => match denL ρ first, denL ρ cap with
    | some xs, some ys => some (.func (.func f) xs.toArray ys.toArray)
    | _, _ => none
  | .nilF => some .nilFunc
  | .iface t v => match den ρ v with
    | some x => some (.iface t x)
    | none => none
  | .nilI => some .nilIface
  | .agg l => match denL ρ l with
    | some xs => some (.agg xs.toArray)
    | none => none
  | .tup l => match denL ρ l with
    | some xs => some (.tuple xs.toArray)
    | none => none
def denL (ρ : Env) : List AV → Option (List Value)
  | [] => some []
  | v :: vs => match den ρ v, denL ρ vs with
    | some x, some xs => some (x :: xs)
    | _, _ => none
end

def Env.le (ρ ρ' : Env) : Prop := ∀ p x, ρ p = some x → ρ' p = some x
theorem Env.le_refl (ρ : Env) : ρ.le ρ := fun _ _ h => h
theorem Env.le_trans {a b c : Env} (h : a.le b) (k : b.le c) : a.le c := fun p x e => k p x (h p x e)

variable {G}
mutual
theorem den_mono {ρ ρ' : Env} (h : ρ.le ρ') : ∀ {v : AV} {x : Value}, den G ρ v = some x → den G ρ' v = some x
  | .bool b, x, e => e
  | .int k n, x, e => e
  | .str n b, x, e => e
  | .nilP, x, e => e
  | .ptr p off, x, e => by
    simp only [den] at e ⊢
    cases hp : ρ p with
    | none => simp [hp] at e
    | some y => rw [h _ _ hp]; simpa [hp] using e
  | .gptr g off, x, e => e
  | .nilS, x, e => e
  | .sl p off len cap, x, e => by
    simp only [den] at e ⊢
    cases hp : ρ p with
    | none => simp [hp] at e
    | some y => rw [h _ _ hp]; simpa [hp] using e
  | .slu p d len size, x, e => by
    simp only [den] at e ⊢
    cases hp : ρ p with
    | none => simp [hp] at e
    | some y => rw [h _ _ hp]; simpa [hp] using e
  | .nilM, x, e => e
  | .map p, x, e => by
    simp only [den] at e ⊢
    cases hp : ρ p with
    | none => simp [hp] at e
    | some y => rw [h _ _ hp]; simpa [hp] using e
  | .fn f first cap, x, e => by
    simp only [den] at e ⊢
    cases h1 : denL G ρ first with
    | none => simp [h1] at e
    | some xs =>
      cases h2 : denL G ρ cap with
      | none => simp [h1, h2] at e
      | some ys => rw [denL_mono h h1, denL_mono h h2]; simpa [h1, h2] using e
  | .nilF, x, e => e
  | .iface t v, x, e => by
    simp only [den] at e ⊢
    cases h1 : den G ρ v with
    | none => simp [h1] at e
    | some y => rw [den_mono h h1]; simpa [h1] using e
  | .nilI, x, e => e
  | .agg l, x, e => by
    simp only [den] at e ⊢
    cases h1 : denL G ρ l with
    | none => simp [h1] at e
    | some y => rw [denL_mono h h1]; simpa [h1] using e
  | .tup l, x, e => by
    simp only [den] at e ⊢
    cases h1 : denL G ρ l with
    | none => simp [h1] at e
    | some y => rw [denL_mono h h1]; simpa [h1] using e
theorem denL_mono {ρ ρ' : Env} (h : ρ.le ρ') : ∀ {l : List AV} {xs : List Value}, denL G ρ l = some xs → denL G ρ' l = some xs
  | [], xs, e => e
  | v :: vs, xs, e => by
    simp only [denL] at e ⊢
    cases h1 : den G ρ v with
    | none => simp [h1] at e
    | some y =>
      cases h2 : denL G ρ vs with
      | none => simp [h1, h2] at e
      | some ys => rw [den_mono h h1, denL_mono h h2]; simpa [h1, h2] using e
end

theorem denL_cons {ρ : Env} {v : AV} {l : List AV} {xs : List Value} : denL G ρ (v :: l) = some xs ↔ ∃ x ys, den G ρ v = some x ∧ denL G ρ l = some ys ∧ xs = x :: ys := by
  simp only [denL]
  cases den G ρ v <;> cases denL G ρ l <;> simp [eq_comm]

theorem denL_length {ρ : Env} : ∀ {l : List AV} {xs : List Value}, denL G ρ l = some xs → xs.length = l.length
  | [], xs, h => by simp [denL] at h; simp [h]
  | v :: l, xs, h => by
    obtain ⟨x, ys, _, h2, rfl⟩ := denL_cons.1 h
    simp [denL_length h2]

theorem denL_append {ρ : Env} : ∀ {l m : List AV} {xs ys : List Value}, denL G ρ l = some xs → denL G ρ m = some ys → denL G ρ (l ++ m) = some (xs ++ ys)
  | [], m, xs, ys, h, k => by simp [denL] at h; subst h; simpa using k
  | v :: l, m, xs, ys, h, k => by
    obtain ⟨x, zs, h1, h2, rfl⟩ := denL_cons.1 h
    exact denL_cons.2 ⟨x, zs ++ ys, h1, denL_append h2 k, rfl⟩

theorem denL_take {ρ : Env} : ∀ {l : List AV} {xs : List Value} (n : Nat), denL G ρ l = some xs → denL G ρ (l.take n) = some (xs.take n)
  | l, xs, 0, h => by simp [denL]
  | [], xs, n + 1, h => by simp [denL] at h; subst h; simp [denL]
  | v :: l, xs, n + 1, h => by
    obtain ⟨x, zs, h1, h2, rfl⟩ := denL_cons.1 h
    exact denL_cons.2 ⟨x, zs.take n, h1, denL_take n h2, rfl⟩

theorem denL_drop {ρ : Env} : ∀ {l : List AV} {xs : List Value} (n : Nat), denL G ρ l = some xs → denL G ρ (l.drop n) = some (xs.drop n)
  | l, xs, 0, h => by simpa using h
  | [], xs, n + 1, h => by simp [denL] at h; subst h; simp [denL]
  | v :: l, xs, n + 1, h => by
    obtain ⟨x, zs, h1, h2, rfl⟩ := denL_cons.1 h
    simpa using denL_drop n h2

theorem denL_get {ρ : Env} : ∀ {l : List AV} {xs : List Value} {n : Nat} {v : AV}, denL G ρ l = some xs → l[n]? = some v → ∃ x, xs[n]? = some x ∧ den G ρ v = some x
  | [], xs, n, v, h, k => by simp at k
  | u :: l, xs, 0, v, h, k => by
    obtain ⟨x, zs, h1, h2, rfl⟩ := denL_cons.1 h
    simp at k; subst k
    exact ⟨x, by simp, h1⟩
  | u :: l, xs, n + 1, v, h, k => by
    obtain ⟨x, zs, h1, h2, rfl⟩ := denL_cons.1 h
    simp at k
    obtain ⟨y, hy, hd⟩ := denL_get h2 k
    exact ⟨y, by simpa using hy, hd⟩

theorem denL_set {ρ : Env} : ∀ {l : List AV} {xs : List Value} {v : AV} {x : Value} (n : Nat), denL G ρ l = some xs → den G ρ v = some x → denL G ρ (l.set n v) = some (xs.set n x)
  | [], xs, v, x, n, h, k => by simp [denL] at h; subst h; simp [denL]
  | u :: l, xs, v, x, 0, h, k => by
    obtain ⟨y, zs, h1, h2, rfl⟩ := denL_cons.1 h
    exact denL_cons.2 ⟨x, zs, k, h2, rfl⟩
  | u :: l, xs, v, x, n + 1, h, k => by
    obtain ⟨y, zs, h1, h2, rfl⟩ := denL_cons.1 h
    exact denL_cons.2 ⟨y, zs.set n x, h1, denL_set n h2 k, rfl⟩

theorem denL_replicate {ρ : Env} {v : AV} {x : Value} (h : den G ρ v = some x) : ∀ n, denL G ρ (List.replicate n v) = some (List.replicate n x)
  | 0 => rfl
  | n + 1 => denL_cons.2 ⟨x, _, h, denL_replicate h n, rfl⟩

variable (G)
/-- The frozen cells of a row all lie below 'fz'. -/
def Fz (fz : Nat) (f : Nat × Nat) (size : Nat) : Prop := ∀ i, fz ≤ i → i < size → ¬ (f.1 ≤ i ∧ i < f.2)

def byteV (c : UInt8) : Value := .int .u8 c.toNat

def entryOK (ρ : Env) (a : AV × AV × Nat) (e : MapEntry) : Prop := den G ρ a.1 = some e.key ∧ den G ρ a.2.1 = some e.val ∧ a.2.2 = e.born

inductive All2 {α β : Type} (R : α → β → Prop) : List α → List β → Prop where
  | nil : All2 R [] []
  | cons {a b l m} : R a b → All2 R l m → All2 R (a :: l) (b :: m)

theorem All2.mono {α β : Type} {R S : α → β → Prop} (h : ∀ a b, R a b → S a b) {l : List α} {m : List β} (k : All2 R l m) : All2 S l m := by
  induction k with
  | nil => exact .nil
  | cons a _ ih => exact .cons (h _ _ a) ih

def ObjOK (ρ : Env) (κ : Nat) : AObj → Go.Obj → Prop
  | .cells u e fz l, x => ∃ c f xs, x = .cells c e f ∧ Fz fz f c.size ∧ denL G ρ l = some xs ∧ xs <+: c.toList ∧ (match u with | none => c.size = l.length | some s => c.size = κ * s)
  | .bytes u e fz n b, x => ∃ c f, x = .cells c e f ∧ Fz fz f c.size ∧ ((bytesL n b).map byteV) <+: c.toList ∧ (if u = 0 then c.size = n else c.size = κ) ∧ (u ≠ 2 → f.1 = f.2 ∨ f.2 ≤ fz)
  | .map es clk, x => ∃ l : List MapEntry, x = .map l.toArray clk ∧ All2 (entryOK G ρ) es l
  | .siter n b pos, x => x = .stringIter (mkB n b) pos

variable {G}
theorem ObjOK.mono {ρ ρ' : Env} (h : ρ.le ρ') {κ : Nat} {o : AObj} {x : Go.Obj} (k : ObjOK G ρ κ o x) : ObjOK G ρ' κ o x := by
  cases o with
  | cells u e fz l =>
    obtain ⟨c, f, xs, h1, h2, h3, h4, h5⟩ := k
    exact ⟨c, f, xs, h1, h2, denL_mono h h3, h4, h5⟩
  | bytes u e fz n b => exact k
  | map es clk =>
    obtain ⟨l, h1, h2⟩ := k
    exact ⟨l, h1, All2.mono (fun a b ⟨x, y, z⟩ => ⟨den_mono h x, den_mono h y, z⟩) h2⟩
  | siter n b pos => exact k

variable (G) (w0 : World)
structure RelH (ρ : Env) (h : T AObj) (n : Key) (w : World) : Prop where
  obj : ∀ p o, T.get p h = some o → ∃ b κ x, ρ p = some (b, κ) ∧ w.heap[b]? = some x ∧ w0.heap.size ≤ b ∧ ObjOK G ρ κ o x
  inj : ∀ p q o o' b κ κ', T.get p h = some o → T.get q h = some o' → ρ p = some (b, κ) → ρ q = some (b, κ') → p = q
  fresh : ∀ p : Key, n.toNat ≤ p.toNat → ρ p = none
  low : ∀ k, k < w0.heap.size → w.heap[k]? = w0.heap[k]?
  os : w.os = w0.os
  tape : w.tape = w0.tape
  output : w.output = w0.output
  size : w0.heap.size ≤ w.heap.size

def Own (ρ : Env) (h : T AObj) (b : Nat) : Prop := ∃ p o κ, T.get p h = some o ∧ ρ p = some (b, κ)

structure Fr (ρ : Env) (h : T AObj) (w : World) (ρ' : Env) (h' : T AObj) (w' : World) : Prop where
  ext : ρ.le ρ'
  size : w.heap.size ≤ w'.heap.size
  keep : ∀ b, b < w.heap.size → ¬ Own ρ h b → w'.heap[b]? = w.heap[b]?
  own : ∀ b, Own ρ' h' b → Own ρ h b ∨ w.heap.size ≤ b
  /-- New names lie above all old ones. -/
  news : ∀ p q : Key, ρ p = none → ρ' p ≠ none → ρ q ≠ none → q.toNat < p.toNat

variable {G} {w0}
theorem Fr.refl (ρ : Env) (h : T AObj) (w : World) : Fr ρ h w ρ h w := ⟨Env.le_refl _, Nat.le_refl _, fun _ _ _ => rfl, fun _ h => .inl h, fun _ _ h h' => absurd h h'⟩

theorem Fr.trans {ρ ρ1 ρ2 : Env} {h h1 h2 : T AObj} {w w1 w2 : World} (a : Fr ρ h w ρ1 h1 w1) (b : Fr ρ1 h1 w1 ρ2 h2 w2) : Fr ρ h w ρ2 h2 w2 where
  ext := Env.le_trans a.ext b.ext
  size := Nat.le_trans a.size b.size
  keep k hk hn := by
    rw [b.keep k (Nat.lt_of_lt_of_le hk a.size) (fun ho => (a.own k ho).elim hn (fun h => by omega)), a.keep k hk hn]
  own k hk := (b.own k hk).elim (fun h => a.own k h) (fun h => .inr (Nat.le_trans a.size h))
  news p q hp hp' hq := by
    cases h1 : ρ1 p with
    | none =>
      refine b.news p q h1 hp' ?_
      cases hqv : ρ q with
      | none => exact absurd hqv hq
      | some x => rw [a.ext q x hqv]; simp
    | some x => exact a.news p q hp (by rw [h1]; simp) hq

theorem Fr.drew {ρ : Env} {h : T AObj} {w : World} {n : Nat} : Fr ρ h w ρ h { w with drawn := n } :=
  ⟨Env.le_refl _, Nat.le_refl _, fun _ _ _ => rfl, fun _ h => .inl h, fun _ _ h h' => absurd h h'⟩

theorem RelH.drew {ρ : Env} {h : T AObj} {n : Key} {w : World} (r : RelH G w0 ρ h n w) (m : Nat) : RelH G w0 ρ h n { w with drawn := m } :=
  ⟨r.obj, r.inj, r.fresh, r.low, r.os, r.tape, r.output, r.size⟩

theorem RelH.lt {ρ : Env} {h : T AObj} {n : Key} {w : World} (r : RelH G w0 ρ h n w) {p : Key} {o : AObj} (hp : T.get p h = some o) :
    ∃ b κ x, ρ p = some (b, κ) ∧ w.heap[b]? = some x ∧ b < w.heap.size ∧ w0.heap.size ≤ b ∧ ObjOK G ρ κ o x := by
  obtain ⟨b, κ, x, h1, h2, h3, h4⟩ := r.obj p o hp
  exact ⟨b, κ, x, h1, h2, (Array.getElem?_eq_some_iff.1 h2).1, h3, h4⟩

/-- A block that is had is changed in place. -/
theorem RelH.update {ρ : Env} {h : T AObj} {n : Key} {w w' : World} (r : RelH G w0 ρ h n w) {p : Key} {o o' : AObj} {b κ : Nat} {x' : Go.Obj}
    (hp : T.get p h = some o) (hb : ρ p = some (b, κ)) (hx : w'.heap[b]? = some x') (ho : ObjOK G ρ κ o' x')
    (hk : ∀ k, k ≠ b → w'.heap[k]? = w.heap[k]?) (hs : w'.heap.size = w.heap.size) (h1 : w'.os = w.os) (h2 : w'.tape = w.tape) (h3 : w'.output = w.output) :
    RelH G w0 ρ (T.put p (some o') h) n w' ∧ Fr ρ h w ρ (T.put p (some o') h) w' := by
  obtain ⟨b', κ', x, e1, e2, e3, e4, e5⟩ := r.lt hp
  rw [hb] at e1
  obtain ⟨rfl, rfl⟩ : b = b' ∧ κ = κ' := by simpa using e1
  have hdom : ∀ q o1, T.get q (T.put p (some o') h) = some o1 → ∃ o2, T.get q h = some o2 := fun q o1 hq => by
    rw [T.get_put] at hq
    by_cases e : q = p
    · exact ⟨o, e ▸ hp⟩
    · rw [if_neg e] at hq; exact ⟨o1, hq⟩
  refine ⟨⟨?_, ?_, r.fresh, ?_, h1.trans r.os, h2.trans r.tape, h3.trans r.output, by rw [hs]; exact r.size⟩, ⟨Env.le_refl _, by omega, ?_, ?_, fun _ _ h h' => absurd h h'⟩⟩
  · intro q o1 hq
    rw [T.get_put] at hq
    by_cases e : q = p
    · rw [if_pos e] at hq
      obtain rfl : o' = o1 := by simpa using hq
      exact ⟨b, κ, x', e ▸ hb, hx, e4, ho⟩
    · rw [if_neg e] at hq
      obtain ⟨b1, κ1, x1, f1, f2, f3, f4⟩ := r.obj q o1 hq
      refine ⟨b1, κ1, x1, f1, ?_, f3, f4⟩
      rw [hk b1 (fun eb => e (r.inj q p o1 o b κ1 κ hq hp (by rw [f1, eb]) hb)), f2]
  · intro q1 q2 o1 o2 b1 κ1 κ2 g1 g2 g3 g4
    obtain ⟨o1', k1⟩ := hdom q1 o1 g1
    obtain ⟨o2', k2⟩ := hdom q2 o2 g2
    exact r.inj q1 q2 o1' o2' b1 κ1 κ2 k1 k2 g3 g4
  · intro k hk'
    rw [hk k (by omega)]; exact r.low k hk'
  · intro k _ hno
    exact hk k fun e => hno ⟨p, o, κ, hp, e ▸ hb⟩
  · rintro k ⟨q, o1, κ1, g1, g2⟩
    obtain ⟨o2, k2⟩ := hdom q o1 g1
    exact .inl ⟨q, o2, κ1, k2, g2⟩

def Env.add (ρ : Env) (n : Key) (x : Nat × Nat) : Env := fun p => if p = n then some x else ρ p

theorem Env.le_add {ρ : Env} {n : Key} {x : Nat × Nat} (h : ρ n = none) : ρ.le (ρ.add n x) := fun p y e => by
  unfold Env.add
  by_cases hp : p = n
  · subst hp; rw [h] at e; cases e
  · rw [if_neg hp]; exact e

theorem Env.add_self (ρ : Env) (n : Key) (x : Nat × Nat) : ρ.add n x n = some x := by simp [Env.add]

theorem Env.news_add {ρ : Env} {n : Key} {x : Nat × Nat} (hf : ∀ p : Key, n.toNat ≤ p.toNat → ρ p = none) (p q : Key) (hp : ρ p = none) (hp' : ρ.add n x p ≠ none) (hq : ρ q ≠ none) : q.toNat < p.toNat := by
  by_cases e : p = n
  · subst e
    rcases Nat.lt_or_ge q.toNat p.toNat with h | h
    · exact h
    · exact absurd (hf q h) hq
  · simp only [Env.add, if_neg e] at hp'
    exact absurd hp hp'

/-- A new block. -/
theorem RelH.alloc {ρ : Env} {h : T AObj} {n : Key} {w : World} (r : RelH G w0 ρ h n w) {o : AObj} {x : Go.Obj} {κ : Nat}
    (ho : ObjOK G (ρ.add n (w.heap.size, κ)) κ o x) :
    RelH G w0 (ρ.add n (w.heap.size, κ)) (T.put n (some o) h) n.succ (w.alloc x) ∧ Fr ρ h w (ρ.add n (w.heap.size, κ)) (T.put n (some o) h) (w.alloc x) := by
  have hn := r.fresh n (Nat.le_refl _)
  have hle := Env.le_add (x := (w.heap.size, κ)) hn
  have hold : ∀ k, k < w.heap.size → (w.alloc x).heap[k]? = w.heap[k]? := fun k hk => by
    show (w.heap.push x)[k]? = _
    rw [Array.getElem?_push, if_neg (by omega)]
  have hnew : (w.alloc x).heap[w.heap.size]? = some x := by
    show (w.heap.push x)[w.heap.size]? = _
    rw [Array.getElem?_push, if_pos rfl]
  refine ⟨⟨?_, ?_, ?_, ?_, r.os, r.tape, r.output, by rw [World.size_alloc]; exact Nat.le_succ_of_le r.size⟩, ⟨hle, by rw [World.size_alloc]; omega, fun b hb _ => hold b hb, ?_, Env.news_add r.fresh⟩⟩
  · intro q o1 hq
    rw [T.get_put] at hq
    by_cases e : q = n
    · rw [if_pos e] at hq
      obtain rfl : o = o1 := by simpa using hq
      exact ⟨w.heap.size, κ, x, by rw [e, Env.add_self], hnew, r.size, ho⟩
    · rw [if_neg e] at hq
      obtain ⟨b1, κ1, x1, f1, f2, f2', f3, f4⟩ := r.lt hq
      exact ⟨b1, κ1, x1, hle _ _ f1, by rw [hold b1 f2', f2], f3, f4.mono hle⟩
  · intro q1 q2 o1 o2 b κ1 κ2 g1 g2 g3 g4
    rw [T.get_put] at g1 g2
    by_cases e1 : q1 = n <;> by_cases e2 : q2 = n
    · rw [e1, e2]
    · rw [if_neg e2] at g2
      obtain ⟨b1, κ3, x1, f1, f2, f3, f4, f5⟩ := r.lt g2
      rw [e1, Env.add_self] at g3
      rw [hle _ _ f1] at g4
      simp at g3 g4; omega
    · rw [if_neg e1] at g1
      obtain ⟨b1, κ3, x1, f1, f2, f3, f4, f5⟩ := r.lt g1
      rw [e2, Env.add_self] at g4
      rw [hle _ _ f1] at g3
      simp at g3 g4; omega
    · rw [if_neg e1] at g1
      rw [if_neg e2] at g2
      simp only [Env.add, if_neg e1] at g3
      simp only [Env.add, if_neg e2] at g4
      exact r.inj q1 q2 o1 o2 b κ1 κ2 g1 g2 g3 g4
  · intro p hp
    rw [Key.toNat_succ] at hp
    have : p ≠ n := fun e => by subst e; omega
    simp only [Env.add, if_neg this]
    exact r.fresh p (by omega)
  · intro k hk
    rw [hold k (Nat.lt_of_lt_of_le hk r.size)]; exact r.low k hk
  · rintro b ⟨q, o1, κ1, g1, g2⟩
    rw [T.get_put] at g1
    by_cases e : q = n
    · rw [e, Env.add_self] at g2
      simp at g2; right; omega
    · rw [if_neg e] at g1
      simp only [Env.add, if_neg e] at g2
      exact .inl ⟨q, o1, κ1, g1, g2⟩

/-- A name is given up. -/
theorem RelH.drop {ρ : Env} {h : T AObj} {n : Key} {w : World} (r : RelH G w0 ρ h n w) (p : Key) :
    RelH G w0 ρ (T.put p none h) n w ∧ Fr ρ h w ρ (T.put p none h) w := by
  have hdom : ∀ q o, T.get q (T.put p none h) = some o → T.get q h = some o := fun q o hq => by
    rw [T.get_put] at hq
    by_cases e : q = p
    · rw [if_pos e] at hq; cases hq
    · rwa [if_neg e] at hq
  exact ⟨⟨fun q o hq => r.obj q o (hdom q o hq), fun q1 q2 o1 o2 b κ κ' g1 g2 => r.inj q1 q2 o1 o2 b κ κ' (hdom _ _ g1) (hdom _ _ g2), r.fresh, r.low, r.os, r.tape, r.output, r.size⟩,
    ⟨Env.le_refl _, Nat.le_refl _, fun _ _ _ => rfl, fun b ⟨q, o, κ, g1, g2⟩ => .inl ⟨q, o, κ, hdom q o g1, g2⟩, fun _ _ h h' => absurd h h'⟩⟩

/-- A block gets another name. -/
theorem RelH.rename {ρ : Env} {h : T AObj} {n : Key} {w : World} (r : RelH G w0 ρ h n w) {p : Key} {o : AObj} {b κ : Nat} (hp : T.get p h = some o) (hb : ρ p = some (b, κ)) :
    RelH G w0 (ρ.add n (b, κ)) (T.put n (some o) (T.put p none h)) n.succ w ∧ Fr ρ h w (ρ.add n (b, κ)) (T.put n (some o) (T.put p none h)) w := by
  have hn := r.fresh n (Nat.le_refl _)
  have hle := Env.le_add (x := (b, κ)) hn
  obtain ⟨b', κ', x, e1, e2, e3, e4, e5⟩ := r.lt hp
  rw [hb] at e1
  obtain ⟨rfl, rfl⟩ : b = b' ∧ κ = κ' := by simpa using e1
  have hdom : ∀ q o1, q ≠ n → T.get q (T.put n (some o) (T.put p none h)) = some o1 → T.get q h = some o1 ∧ q ≠ p := fun q o1 hq h1 => by
    rw [T.get_put, if_neg hq, T.get_put] at h1
    by_cases e : q = p
    · rw [if_pos e] at h1; cases h1
    · rw [if_neg e] at h1; exact ⟨h1, e⟩
  refine ⟨⟨?_, ?_, ?_, r.low, r.os, r.tape, r.output, r.size⟩, ⟨hle, Nat.le_refl _, fun _ _ _ => rfl, ?_, Env.news_add r.fresh⟩⟩
  · intro q o1 hq
    by_cases e : q = n
    · rw [e, T.get_put_same] at hq
      obtain rfl : o = o1 := by simpa using hq
      exact ⟨b, κ, x, by rw [e, Env.add_self], e2, e4, e5.mono hle⟩
    · obtain ⟨b1, κ1, x1, f1, f2, f3, f4⟩ := r.obj q o1 (hdom q o1 e hq).1
      exact ⟨b1, κ1, x1, hle _ _ f1, f2, f3, f4.mono hle⟩
  · intro q1 q2 o1 o2 b1 κ1 κ2 g1 g2 g3 g4
    by_cases a1 : q1 = n <;> by_cases a2 : q2 = n
    · rw [a1, a2]
    · obtain ⟨k2, hne⟩ := hdom q2 o2 a2 g2
      rw [a1, Env.add_self] at g3
      simp only [Env.add, if_neg a2] at g4
      obtain ⟨rfl, rfl⟩ : b = b1 ∧ κ = κ1 := by simpa using g3
      exact absurd (r.inj q2 p o2 o b κ2 κ k2 hp g4 hb) hne
    · obtain ⟨k1, hne⟩ := hdom q1 o1 a1 g1
      rw [a2, Env.add_self] at g4
      simp only [Env.add, if_neg a1] at g3
      obtain ⟨rfl, rfl⟩ : b = b1 ∧ κ = κ2 := by simpa using g4
      exact absurd (r.inj q1 p o1 o b κ1 κ k1 hp g3 hb) hne
    · simp only [Env.add, if_neg a1] at g3
      simp only [Env.add, if_neg a2] at g4
      exact r.inj q1 q2 o1 o2 b1 κ1 κ2 (hdom q1 o1 a1 g1).1 (hdom q2 o2 a2 g2).1 g3 g4
  · intro q hq
    rw [Key.toNat_succ] at hq
    have : q ≠ n := fun e => by subst e; omega
    simp only [Env.add, if_neg this]
    exact r.fresh q (by omega)
  · rintro k ⟨q, o1, κ1, g1, g2⟩
    by_cases e : q = n
    · rw [e, Env.add_self] at g2
      obtain ⟨rfl, rfl⟩ : b = k ∧ κ = κ1 := by simpa using g2
      exact .inl ⟨p, o, κ, hp, hb⟩
    · simp only [Env.add, if_neg e] at g2
      exact .inl ⟨q, o1, κ1, (hdom q o1 e g1).1, g2⟩
end Go.Ev
