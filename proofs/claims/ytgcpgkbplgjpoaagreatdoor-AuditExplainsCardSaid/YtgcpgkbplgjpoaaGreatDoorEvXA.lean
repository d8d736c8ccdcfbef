/-
  A part of the evaluator for closed runs: proved once over any program.
-/
import Derived.Test.YtgcpgkbplgjpoaaGreatDoorEvX
set_option linter.unusedVariables false
set_option linter.unusedSimpArgs false
namespace Go.Ev
noncomputable section

/-! ### Memory as a function: frames -/
abbrev Hp := Key → Option AObj

structure RelF (G : Nat → Nat) (w0 : World) (ρ : Env) (f : Hp) (n : Key) (w : World) : Prop where
  obj : ∀ p o, f p = some o → ∃ b κ x, ρ p = some (b, κ) ∧ w.heap[b]? = some x ∧ w0.heap.size ≤ b ∧ ObjOK G ρ κ o x
  inj : ∀ p q o o' b κ κ', f p = some o → f q = some o' → ρ p = some (b, κ) → ρ q = some (b, κ') → p = q
  fresh : ∀ p : Key, n.toNat ≤ p.toNat → ρ p = none
  low : ∀ k, k < w0.heap.size → w.heap[k]? = w0.heap[k]?
  os : w.os = w0.os
  tape : w.tape = w0.tape
  output : w.output = w0.output
  size : w0.heap.size ≤ w.heap.size

def OwnF (ρ : Env) (f : Hp) (b : Nat) : Prop := ∃ p o κ, f p = some o ∧ ρ p = some (b, κ)

structure FrF (ρ : Env) (f : Hp) (w : World) (ρ' : Env) (f' : Hp) (w' : World) : Prop where
  ext : ρ.le ρ'
  size : w.heap.size ≤ w'.heap.size
  keep : ∀ b, b < w.heap.size → ¬ OwnF ρ f b → w'.heap[b]? = w.heap[b]?
  own : ∀ b, OwnF ρ' f' b → OwnF ρ f b ∨ w.heap.size ≤ b

variable {G : Nat → Nat} {w0 : World}

theorem FrF.refl (ρ : Env) (f : Hp) (w : World) : FrF ρ f w ρ f w := ⟨Env.le_refl _, Nat.le_refl _, fun _ _ _ => rfl, fun _ h => .inl h⟩

theorem FrF.trans {ρ ρ1 ρ2 : Env} {h h1 h2 : Hp} {w w1 w2 : World} (a : FrF ρ h w ρ1 h1 w1) (b : FrF ρ1 h1 w1 ρ2 h2 w2) : FrF ρ h w ρ2 h2 w2 where
  ext := Env.le_trans a.ext b.ext
  size := Nat.le_trans a.size b.size
  keep k hk hn := by
    rw [b.keep k (Nat.lt_of_lt_of_le hk a.size) (fun ho => (a.own k ho).elim hn (fun h => by omega)), a.keep k hk hn]
  own k hk := (b.own k hk).elim (fun h => a.own k h) (fun h => .inr (Nat.le_trans a.size h))

theorem RelH.toF {ρ : Env} {h : T AObj} {n : Key} {w : World} (r : RelH G w0 ρ h n w) : RelF G w0 ρ (fun p => T.get p h) n w :=
  ⟨r.obj, r.inj, r.fresh, r.low, r.os, r.tape, r.output, r.size⟩

/-- What a part of memory says. -/
theorem RelF.part {ρ : Env} {f : Hp} {n : Key} {w : World} (r : RelF G w0 ρ f n w) {N : T AObj} (hs : ∀ p o, T.get p N = some o → f p = some o) : RelH G w0 ρ N n w :=
  ⟨fun p o h => r.obj p o (hs p o h), fun p q o o' b κ κ' h1 h2 => r.inj p q o o' b κ κ' (hs p o h1) (hs q o' h2), r.fresh, r.low, r.os, r.tape, r.output, r.size⟩

theorem RelF.congr {ρ : Env} {f f' : Hp} {n : Key} {w : World} (r : RelF G w0 ρ f n w) (h : ∀ p, f' p = f p) : RelF G w0 ρ f' n w := by
  rw [show f' = f from funext h]; exact r

/-- The effect of a piece of work that touched only a part. -/
def eff (D : Key → Prop) (X : Key → Option AObj) (f : Hp) : Hp := fun q => open Classical in if D q then X q else f q

theorem frame_step {ρ ρ' : Env} {f : Hp} {n n' : Key} {w w' : World} {N N' : T AObj} (r : RelF G w0 ρ f n w) (hs : ∀ p o, T.get p N = some o → f p = some o)
    (r' : RelH G w0 ρ' N' n' w') (fr : Fr ρ N w ρ' N' w') :
    RelF G w0 ρ' (eff (fun q => T.get q N ≠ none ∨ T.get q N' ≠ none) (fun q => T.get q N') f) n' w' ∧ FrF ρ f w ρ' (eff (fun q => T.get q N ≠ none ∨ T.get q N' ≠ none) (fun q => T.get q N') f) w' := by
  have hout : ∀ q o, ¬ (T.get q N ≠ none ∨ T.get q N' ≠ none) → f q = some o → ∃ b κ x, ρ q = some (b, κ) ∧ ρ' q = some (b, κ) ∧ w.heap[b]? = some x ∧ w'.heap[b]? = some x ∧ b < w.heap.size ∧ ¬ Own ρ N b ∧ w0.heap.size ≤ b ∧ ObjOK G ρ κ o x := by
    intro q o hq hf
    obtain ⟨b, κ, x, h1, h2, h3, h4⟩ := r.obj q o hf
    have hb : b < w.heap.size := (Array.getElem?_eq_some_iff.1 h2).1
    have hno : ¬ Own ρ N b := fun ⟨p, o', κ', e1, e2⟩ => by
      have : p = q := r.inj p q o' o b κ' κ (hs p o' e1) hf e2 h1
      subst this
      exact hq (.inl (by rw [e1]; simp))
    exact ⟨b, κ, x, h1, fr.ext q _ h1, h2, by rw [fr.keep b hb hno, h2], hb, hno, h3, h4⟩
  have hdisj : ∀ q o p o' b κ κ', ¬ (T.get q N ≠ none ∨ T.get q N' ≠ none) → f q = some o → T.get p N' = some o' → ρ' q = some (b, κ) → ρ' p = some (b, κ') → False := by
    intro q o p o' b κ κ' hq hf hp h1 h2
    obtain ⟨b1, κ1, x, e1, e2, e3, e4, e5, e6, e7, e8⟩ := hout q o hq hf
    rw [e2] at h1
    simp only [Option.some.injEq, Prod.mk.injEq] at h1
    obtain ⟨rfl, rfl⟩ := h1
    rcases fr.own b1 ⟨p, o', κ', hp, h2⟩ with h | h
    · exact e6 h
    · omega
  refine ⟨⟨?_, ?_, r'.fresh, r'.low, r'.os, r'.tape, r'.output, r'.size⟩, ⟨fr.ext, fr.size, ?_, ?_⟩⟩
  · intro q o hq
    unfold eff at hq
    split at hq
    · exact r'.obj q o hq
    · rename_i hd
      obtain ⟨b, κ, x, e1, e2, e3, e4, e5, e6, e7, e8⟩ := hout q o hd hq
      exact ⟨b, κ, x, e2, e4, e7, e8.mono fr.ext⟩
  · intro p q o o' b κ κ' hp hq h1 h2
    unfold eff at hp hq
    split at hp
    · split at hq
      · exact r'.inj p q o o' b κ κ' hp hq h1 h2
      · rename_i hd; exact (hdisj q o' p o b κ' κ hd hq hp h2 h1).elim
    · rename_i hd
      split at hq
      · exact (hdisj p o q o' b κ κ' hd hp hq h1 h2).elim
      · rename_i hd2
        obtain ⟨b1, κ1, x, e1, e2, _⟩ := hout p o hd hp
        obtain ⟨b2, κ2, x2, g1, g2, _⟩ := hout q o' hd2 hq
        rw [e2] at h1
        rw [g2] at h2
        simp only [Option.some.injEq, Prod.mk.injEq] at h1 h2
        obtain ⟨rfl, rfl⟩ := h1
        obtain ⟨rfl, rfl⟩ := h2
        exact r.inj p q o o' _ _ _ hp hq e1 g1
  · intro b hb hno
    refine fr.keep b hb fun ⟨p, o, κ, h1, h2⟩ => hno ⟨p, o, κ, hs p o h1, h2⟩
  · rintro b ⟨p, o, κ, h1, h2⟩
    unfold eff at h1
    split at h1
    · rcases fr.own b ⟨p, o, κ, h1, h2⟩ with ⟨p', o', κ', g1, g2⟩ | h
      · exact .inl ⟨p', o', κ', hs p' o' g1, g2⟩
      · exact .inr h
    · rename_i hd
      obtain ⟨b1, κ1, x, e1, e2, _⟩ := hout p o hd h1
      rw [e2] at h2
      simp only [Option.some.injEq, Prod.mk.injEq] at h2
      obtain ⟨rfl, rfl⟩ := h2
      exact .inl ⟨p, o, _, h1, e1⟩

/-- A new block under a name that was kept free. -/
theorem light_step {ρ : Env} {f : Hp} {n key : Key} {w w' : World} {o : AObj} {b κ : Nat} {x : Go.Obj} (r : RelF G w0 ρ f n w) (hk : ρ key = none) (hn : key.toNat < n.toNat)
    (hb : w.heap.size ≤ b) (hx : w'.heap[b]? = some x) (ho : ObjOK G ρ κ o x) (hlow : ∀ k, k < w.heap.size → w'.heap[k]? = w.heap[k]?) (hs : w.heap.size ≤ w'.heap.size)
    (h1 : w'.os = w.os) (h2 : w'.tape = w.tape) (h3 : w'.output = w.output) :
    RelF G w0 (ρ.add key (b, κ)) (eff (fun q => q = key) (fun _ => some o) f) n w' ∧ FrF ρ f w (ρ.add key (b, κ)) (eff (fun q => q = key) (fun _ => some o) f) w' := by
  have hle := Env.le_add (x := (b, κ)) hk
  have hold : ∀ q o', q ≠ key → f q = some o' → ∃ b' κ' x', ρ q = some (b', κ') ∧ (ρ.add key (b, κ)) q = some (b', κ') ∧ b' < w.heap.size ∧ w'.heap[b']? = some x' ∧ w0.heap.size ≤ b' ∧ ObjOK G ρ κ' o' x' := by
    intro q o' hq hf
    obtain ⟨b', κ', x', e1, e2, e3, e4⟩ := r.obj q o' hf
    have hlt : b' < w.heap.size := (Array.getElem?_eq_some_iff.1 e2).1
    exact ⟨b', κ', x', e1, hle _ _ e1, hlt, by rw [hlow b' hlt, e2], e3, e4⟩
  refine ⟨⟨?_, ?_, ?_, ?_, h1.trans r.os, h2.trans r.tape, h3.trans r.output, Nat.le_trans r.size hs⟩, ⟨hle, hs, fun k hk _ => hlow k hk, ?_⟩⟩
  · intro q o' hq
    unfold eff at hq
    split at hq
    · rename_i e
      subst e
      simp only [Option.some.injEq] at hq; subst hq
      exact ⟨b, κ, x, Env.add_self _ _ _, hx, Nat.le_trans r.size hb, ho.mono hle⟩
    · rename_i e
      obtain ⟨b', κ', x', e1, e2, e3, e4, e5, e6⟩ := hold q o' e hq
      exact ⟨b', κ', x', e2, e4, e5, e6.mono hle⟩
  · intro p q o1 o2 b1 κ1 κ2 hp hq g1 g2
    unfold eff at hp hq
    split at hp <;> split at hq
    · rename_i e1 e2; rw [e1, e2]
    · rename_i e1 e2
      obtain ⟨b', κ', x', k1, k2, k3, _⟩ := hold q o2 e2 hq
      rw [e1, Env.add_self] at g1
      rw [k2] at g2
      simp at g1 g2; omega
    · rename_i e1 e2
      obtain ⟨b', κ', x', k1, k2, k3, _⟩ := hold p o1 e1 hp
      rw [e2, Env.add_self] at g2
      rw [k2] at g1
      simp at g1 g2; omega
    · rename_i e1 e2
      simp only [Env.add, if_neg e1] at g1
      simp only [Env.add, if_neg e2] at g2
      exact r.inj p q o1 o2 b1 κ1 κ2 hp hq g1 g2
  · intro p hp
    have : p ≠ key := fun e => by subst e; omega
    simp only [Env.add, if_neg this]
    exact r.fresh p hp
  · intro k hk'
    rw [hlow k (Nat.lt_of_lt_of_le hk' r.size)]; exact r.low k hk'
  · rintro c ⟨q, o1, κ1, g1, g2⟩
    unfold eff at g1
    split at g1
    · rename_i e
      rw [e, Env.add_self] at g2
      simp at g2; right; omega
    · rename_i e
      simp only [Env.add, if_neg e] at g2
      exact .inl ⟨q, o1, κ1, g1, g2⟩
end
end Go.Ev
