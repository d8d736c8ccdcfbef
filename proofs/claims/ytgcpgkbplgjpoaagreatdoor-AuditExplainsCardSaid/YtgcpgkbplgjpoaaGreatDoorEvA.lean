/- A store by binary keys, for runs in the kernel: keys, a tree, reading, writing (each writing leaves the way to the place in normal form). -/
set_option linter.unusedVariables false
namespace Go.Ev

inductive Key where
  | h
  | o (k : Key)
  | i (k : Key)
  deriving DecidableEq, Inhabited

namespace Key
def toNat : Key → Nat
  | h => 1
  | o k => 2 * k.toNat
  | i k => 2 * k.toNat + 1

theorem toNat_pos (k : Key) : 0 < k.toNat := by
  induction k with
  | h => simp [toNat]
  | o k ih => simp only [toNat]; omega
  | i k ih => simp only [toNat]; omega

theorem toNat_inj : ∀ {a b : Key}, a.toNat = b.toNat → a = b
  | h, h, _ => rfl
  | h, o k, e => by have := toNat_pos k; simp only [toNat] at e; omega
  | h, i k, e => by have := toNat_pos k; simp only [toNat] at e; omega
  | o k, h, e => by have := toNat_pos k; simp only [toNat] at e; omega
  | i k, h, e => by have := toNat_pos k; simp only [toNat] at e; omega
  | o a, o b, e => by simp only [toNat] at e; exact congrArg o (toNat_inj (by omega))
  | i a, i b, e => by simp only [toNat] at e; exact congrArg i (toNat_inj (by omega))
  | o a, i b, e => by simp only [toNat] at e; omega
  | i a, o b, e => by simp only [toNat] at e; omega

noncomputable def succ (k : Key) : Key := Key.rec (o h) (fun k _ => i k) (fun _ ih => o ih) k

theorem succ_h : succ h = o h := rfl
theorem succ_o (k : Key) : succ (o k) = i k := rfl
theorem succ_i (k : Key) : succ (i k) = o (succ k) := rfl

theorem toNat_succ (k : Key) : k.succ.toNat = k.toNat + 1 := by
  induction k with
  | h => simp [succ_h, toNat]
  | o k _ => simp [succ_o, toNat]
  | i k ih => simp [succ_i, toNat, ih]; omega

/-- The key of a positive number below 2 ^ fuel. -/
noncomputable def ofN (fuel : Nat) : Nat → Key :=
  Nat.rec (motive := fun _ => Nat → Key) (fun _ => h) (fun _ ih n => Bool.rec (Bool.rec (i (ih (Nat.div n 2))) (o (ih (Nat.div n 2))) (Nat.beq (Nat.mod n 2) 0)) h (Nat.ble n 1)) fuel

theorem ofN_succ (f n : Nat) : ofN (f + 1) n = if n ≤ 1 then h else if n % 2 = 0 then o (ofN f (n / 2)) else i (ofN f (n / 2)) := by
  show (Bool.rec (motive := fun _ => Key) (Bool.rec (motive := fun _ => Key) (i (ofN f (Nat.div n 2))) (o (ofN f (Nat.div n 2))) (Nat.beq (Nat.mod n 2) 0)) h (Nat.ble n 1) : Key) = _
  by_cases h1 : n ≤ 1
  · rw [if_pos h1, show Nat.ble n 1 = true from by simpa using h1]
  · rw [if_neg h1, show Nat.ble n 1 = false from by
        cases hb : Nat.ble n 1
        · rfl
        · exact absurd (Nat.le_of_ble_eq_true hb) h1]
    by_cases h2 : n % 2 = 0
    · rw [if_pos h2, show Nat.beq (Nat.mod n 2) 0 = true from by rw [Nat.beq_eq]; exact h2]; rfl
    · rw [if_neg h2, show Nat.beq (Nat.mod n 2) 0 = false from by
        cases hb : Nat.beq (Nat.mod n 2) 0
        · rfl
        · exact absurd (Nat.eq_of_beq_eq_true hb) h2]; rfl

theorem toNat_ofN : ∀ (f n : Nat), 0 < n → n < 2 ^ f → (ofN f n).toNat = n
  | 0, n, h0, h1 => by simp at h1; omega
  | f + 1, n, h0, h1 => by
    rw [ofN_succ]
    by_cases a : n ≤ 1
    · rw [if_pos a]; simp [toNat]; omega
    · rw [if_neg a]
      have hb : n / 2 < 2 ^ f := by rw [Nat.pow_succ] at h1; omega
      have ih := toNat_ofN f (n / 2) (by omega) hb
      by_cases c : n % 2 = 0
      · rw [if_pos c]; simp only [toNat, ih]; omega
      · rw [if_neg c]; simp only [toNat, ih]; omega

/-- The key of slot t. -/
noncomputable def slot (t : Nat) : Key := ofN 20 (Nat.succ (Nat.succ t))

theorem slot_inj {s t : Nat} (hs : s < 1000000) (ht : t < 1000000) (e : slot s = slot t) : s = t := by
  have h1 := toNat_ofN 20 (s + 2) (by omega) (by omega)
  have h2 := toNat_ofN 20 (t + 2) (by omega) (by omega)
  have h3 : (ofN 20 (s + 2)).toNat = (ofN 20 (t + 2)).toNat := congrArg toNat e
  omega

/-- The key h is no slot's: the deferred calls are kept there. -/
theorem slot_ne_h {s : Nat} (hs : s < 1000000) : slot s ≠ .h := fun e => by
  have h1 := toNat_ofN 20 (s + 2) (by omega) (by omega)
  have h3 : (ofN 20 (s + 2)).toNat = toNat .h := congrArg toNat e
  simp only [toNat] at h3
  omega

noncomputable def eqb (a : Key) : Key → Bool :=
  Key.rec (fun b => Key.rec true (fun _ _ => false) (fun _ _ => false) b)
    (fun _ ih b => Key.rec false (fun b _ => ih b) (fun _ _ => false) b)
    (fun _ ih b => Key.rec false (fun _ _ => false) (fun b _ => ih b) b) a

theorem eqb_iff : ∀ (a b : Key), eqb a b = true ↔ a = b
  | h, h => by simp [eqb]
  | h, o k => by simp [eqb]
  | h, i k => by simp [eqb]
  | o k, h => by simp [eqb]
  | i k, h => by simp [eqb]
  | o a, o b => by
    show eqb a b = true ↔ _
    rw [eqb_iff a b]; simp
  | i a, i b => by
    show eqb a b = true ↔ _
    rw [eqb_iff a b]; simp
  | o a, i b => by simp [eqb]
  | i a, o b => by simp [eqb]
end Key

inductive T (α : Type) where
  | leaf
  | node (l : T α) (v : Option α) (r : T α)
  deriving Inhabited

namespace T
variable {α β : Type}

noncomputable def get (k : Key) : T α → Option α :=
  Key.rec (motive := fun _ => T α → Option α) (fun t => T.rec none (fun _ v _ _ _ => v) t)
    (fun _ ih t => T.rec none (fun l _ _ _ _ => ih l) t) (fun _ ih t => T.rec none (fun _ _ r _ _ => ih r) t) k

theorem get_leaf (k : Key) : get k (leaf : T α) = none := by cases k <;> rfl
theorem get_h (l r : T α) (v) : get .h (node l v r) = v := rfl
theorem get_o (l r : T α) (v k) : get (.o k) (node l v r) = get k l := rfl
theorem get_i (l r : T α) (v k) : get (.i k) (node l v r) = get k r := rfl

/-- Writing, handed on. -/
noncomputable def putK (k : Key) (x : Option α) : T α → (T α → β) → β :=
  Key.rec (motive := fun _ => T α → (T α → β) → β)
    (fun t c => T.rec (c (.node .leaf x .leaf)) (fun l _ r _ _ => c (.node l x r)) t)
    (fun _ ih t c => T.rec (ih .leaf (fun l => c (.node l none .leaf))) (fun l v r _ _ => ih l (fun l => c (.node l v r))) t)
    (fun _ ih t c => T.rec (ih .leaf (fun r => c (.node .leaf none r))) (fun l v r _ _ => ih r (fun r => c (.node l v r))) t) k

def put (k : Key) (x : Option α) (t : T α) : T α :=
  match k, t with
  | .h, .leaf => .node .leaf x .leaf
  | .h, .node l _ r => .node l x r
  | .o k, .leaf => .node (put k x .leaf) none .leaf
  | .o k, .node l v r => .node (put k x l) v r
  | .i k, .leaf => .node .leaf none (put k x .leaf)
  | .i k, .node l v r => .node l v (put k x r)

theorem putK_eq : ∀ (k : Key) (x : Option α) (t : T α) (c : T α → β), putK k x t c = c (put k x t)
  | .h, x, .leaf, c => rfl
  | .h, x, .node l v r, c => rfl
  | .o k, x, .leaf, c => by
    show putK k x .leaf (fun l => c (.node l none .leaf)) = _
    rw [putK_eq]; rfl
  | .o k, x, .node l v r, c => by
    show putK k x l (fun l => c (.node l v r)) = _
    rw [putK_eq]; rfl
  | .i k, x, .leaf, c => by
    show putK k x .leaf (fun r => c (.node .leaf none r)) = _
    rw [putK_eq]; rfl
  | .i k, x, .node l v r, c => by
    show putK k x r (fun r => c (.node l v r)) = _
    rw [putK_eq]; rfl

theorem get_put_same : ∀ (k : Key) (x : Option α) (t : T α), get k (put k x t) = x
  | .h, x, .leaf => rfl
  | .h, x, .node l v r => rfl
  | .o k, x, .leaf => get_put_same k x .leaf
  | .o k, x, .node l v r => get_put_same k x l
  | .i k, x, .leaf => get_put_same k x .leaf
  | .i k, x, .node l v r => get_put_same k x r

theorem get_put_ne : ∀ (k j : Key) (x : Option α) (t : T α), k ≠ j → get j (put k x t) = get j t
  | .h, .h, x, t, e => absurd rfl e
  | .h, .o j, x, .leaf, e => get_leaf j
  | .h, .i j, x, .leaf, e => get_leaf j
  | .h, .o j, x, .node l v r, e => rfl
  | .h, .i j, x, .node l v r, e => rfl
  | .o k, .h, x, .leaf, e => rfl
  | .o k, .h, x, .node l v r, e => rfl
  | .i k, .h, x, .leaf, e => rfl
  | .i k, .h, x, .node l v r, e => rfl
  | .o k, .o j, x, .leaf, e => (get_put_ne k j x .leaf fun h => e (h ▸ rfl)).trans (get_leaf j)
  | .o k, .o j, x, .node l v r, e => get_put_ne k j x l fun h => e (h ▸ rfl)
  | .i k, .i j, x, .leaf, e => (get_put_ne k j x .leaf fun h => e (h ▸ rfl)).trans (get_leaf j)
  | .i k, .i j, x, .node l v r, e => get_put_ne k j x r fun h => e (h ▸ rfl)
  | .o k, .i j, x, .leaf, e => get_leaf j
  | .o k, .i j, x, .node l v r, e => rfl
  | .i k, .o j, x, .leaf, e => get_leaf j
  | .i k, .o j, x, .node l v r, e => rfl

theorem get_put (k j : Key) (x : Option α) (t : T α) : get j (put k x t) = if j = k then x else get j t := by
  by_cases e : j = k
  · rw [if_pos e, e, get_put_same]
  · rw [if_neg e, get_put_ne _ _ _ _ (Ne.symm e)]
end T
end Go.Ev
