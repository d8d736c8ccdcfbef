/-
  A part of the evaluator for closed runs: proved once over any program.
-/
import Derived.Test.YtgcpgkbplgjpoaaGreatDoorEvJ
set_option linter.unusedVariables false
set_option linter.unusedSimpArgs false
namespace Go.Ev
noncomputable section

structure Mem where
  h : T AObj
  n : Key

/-! ### Stores -/
theorem oneCell_eq (v : Value) : v.oneCell' = true ↔ (∀ c, v ≠ .agg c) ∧ ∀ c, v ≠ .tuple c := by
  cases v <;> simp [Value.oneCell']

theorem run_stores (P : Program) (g o : Nat) (t : TypeId) (f : Nat × Nat) : ∀ (vs : List Value) (i : Nat) (c : Array Value) (w : World), w.heap[g]? = some (.cells c t f) →
    (∀ j, o + i ≤ j → j < c.size → ¬ (f.1 ≤ j ∧ j < f.2)) → o + i + vs.length ≤ c.size → (∀ v ∈ vs, v.oneCell' = true) →
    ∃ w' c', (storeCells ⟨g, o, none⟩ vs i).run P w = .ok () w' ∧ w'.heap[g]? = some (.cells c' t f) ∧ c'.toList = ow c.toList (o + i) vs ∧ (∀ k, k ≠ g → w'.heap[k]? = w.heap[k]?) ∧
      w'.heap.size = w.heap.size ∧ w'.os = w.os ∧ w'.tape = w.tape ∧ w'.output = w.output
  | [], i, c, w, hg, _, _, _ => ⟨w, c, rfl, hg, by rw [ow_nil], fun _ _ => rfl, rfl, rfl, rfl, rfl⟩
  | v :: vs, i, c, w, hg, hf, hl, h1 => by
    have hi : o + i < c.size := by simp at hl; omega
    have hc : w.cell? ⟨g, o + i, none⟩ = some c[o + i] := by rw [cell_of_row hg]; simp [hi]
    have hz : w.frozen? ⟨g, o + i, none⟩ = false := by
      have := hf (o + i) (Nat.le_refl _) hi
      simp only [World.frozen?, hg]
      simp at this ⊢
      intro hh; exact this hh
    have hst : (store ((⟨g, o, none⟩ : Addr).add i) v).run P w = .ok () (w.setCell ⟨g, o + i, none⟩ v) := by
      rw [add_plain, run_store P w _ v _ (h1 v (by simp))]
      simp [hc, hz]
    have hg' : (w.setCell ⟨g, o + i, none⟩ v).heap[g]? = some (.cells (c.setIfInBounds (o + i) v) t f) := by
      simp only [World.setCell, Array.getElem?_modify, if_pos, hg, Option.map_some]
      simp
    obtain ⟨w', c', r1, r2, r3, r4, r5, r6, r7, r8⟩ := run_stores P g o t f vs (i + 1) (c.setIfInBounds (o + i) v) (w.setCell ⟨g, o + i, none⟩ v) hg'
      (fun j hj hj' => hf j (by omega) (by simpa using hj')) (by simp at hl ⊢; omega) (fun u hu => h1 u (by simp [hu]))
    refine ⟨w', c', ?_, r2, ?_, ?_, ?_, r6, r7, r8⟩
    · simp only [storeCells, Sem.run_bind, hst, Result.andThen_ok, r1]
    · rw [r3, ow_cons]; simp; rfl
    · intro k hk
      rw [r4 k hk]
      simp only [World.setCell, Array.getElem?_modify]
      rw [if_neg (Ne.symm hk)]
    · rw [r5]; simp

def flat (v : AV) : Bool :=
  match v with
  | .agg _ | .tup _ => false
  | _ => true

def flats : List AV → Bool
  | [] => true
  | v :: vs => bif flat v then flats vs else false

theorem flat_ok {G : Nat → Nat} {ρ : Env} {v : AV} {x : Value} (h : flat v = true) (d : den G ρ v = some x) : x.oneCell' = true := by
  cases v <;> simp only [flat, Bool.false_eq_true] at h <;> simp only [den] at d <;> (repeat' split at d) <;> simp at d <;> subst d <;> rfl

theorem flats_ok {G : Nat → Nat} {ρ : Env} : ∀ {l : List AV} {xs : List Value}, flats l = true → denL G ρ l = some xs → ∀ x ∈ xs, x.oneCell' = true
  | [], xs, _, d, x, hx => by simp [denL] at d; subst d; cases hx
  | v :: l, xs, h, d, x, hx => by
    simp only [flats] at h
    cases hf : flat v with
    | false => simp [hf] at h
    | true =>
      simp [hf] at h
      obtain ⟨y, ys, d1, d2, rfl⟩ := denL_cons.1 d
      rcases List.mem_cons.1 hx with rfl | hx
      · exact flat_ok hf d1
      · exact flats_ok h d2 x hx

theorem prefix_ow {α : Type} {l m : List α} (h : l <+: m) {n : Nat} {vs : List α} (hn : n + vs.length ≤ l.length) : ow l n vs <+: ow m n vs := by
  have hm : l.length ≤ m.length := h.length_le
  rw [ow_eq _ _ _ hn, ow_eq _ _ _ (by omega)]
  obtain ⟨r, rfl⟩ := h
  refine ⟨r, ?_⟩
  rw [List.take_append_of_le_length (by omega), List.drop_append_of_le_length (by omega)]
  simp

/-- A row is written over from place 'off' on. -/
def storeRow (m : Mem) (p : Key) (off : Nat) (vs : List AV) : Option Mem :=
  match T.get p m.h with
  | some (.cells u e fz l) => bif Nat.ble fz off && (Nat.ble (Nat.add off vs.length) l.length && flats vs) then fL (ow l off vs) fun l => T.putK p (some (.cells u e fz l)) m.h fun h => some ⟨h, m.n⟩ else none
  | _ => none

theorem storeRow_ok {P : Program} {G : Nat → Nat} {w0 : World} {ρ : Env} {m m' : Mem} {w : World} (r : RelH G w0 ρ m.h m.n w) {p : Key} {off b κ : Nat} {vs : List AV} {ys : List Value} (e : storeRow m p off vs = some m')
    (hb : ρ p = some (b, κ)) (d : denL G ρ vs = some ys) : ∃ w', (storeCells ⟨b, off, none⟩ ys).run P w = .ok () w' ∧ RelH G w0 ρ m'.h m'.n w' ∧ Fr ρ m.h w ρ m'.h w' := by
  unfold storeRow at e
  cases hp : T.get p m.h with
  | none => simp [hp] at e
  | some o =>
    obtain ⟨b', κ', y, h1, h2, h3, h4, h5⟩ := r.lt hp
    rw [hb] at h1
    obtain ⟨rfl, rfl⟩ : b = b' ∧ κ = κ' := by simpa using h1
    cases o <;> simp only [hp, reduceCtorEq] at e
    rename_i u ty fz l
    obtain ⟨c, f, xs, rfl, hfz, hd, hpre, hsz⟩ := h5
    rw [nble, nble] at e
    by_cases c1 : fz ≤ off <;> by_cases c2 : off.add vs.length ≤ l.length <;> cases c3 : flats vs <;> simp only [c1, c2, c3, decide_true, decide_false, Bool.and_true, Bool.and_false, Bool.and_self, cond_true, cond_false, reduceCtorEq, fL_eq, T.putK_eq, Option.some.injEq] at e
    subst e
    have hlx := denL_length hd
    have hly := denL_length d
    have hle : xs.length ≤ c.size := by have := hpre.length_le; simpa using this
    have c2' : off + vs.length ≤ l.length := c2
    obtain ⟨w', c', r1, r2, r3, r4, r5, r6, r7, r8⟩ := run_stores P b off ty f ys 0 c w h2 (fun j hj hj' => hfz j (by omega) hj') (by omega) (flats_ok c3 d)
    have hcs : c'.size = c.size := by rw [← Array.length_toList, r3, ow_length, Array.length_toList]
    obtain ⟨q1, q2⟩ := r.update (w' := w') (o' := .cells u ty fz (ow l off vs)) (x' := .cells c' ty f) hp hb r2
      ⟨c', f, ow xs off ys, rfl, (by unfold Fz at hfz ⊢; rw [hcs]; exact hfz), denL_ow hd d, (by rw [r3]; exact prefix_ow hpre (by omega)), (by rw [hcs]; cases u <;> simp_all [ow_length])⟩ r4 r5 r6 r7 r8
    exact ⟨w', r1, q1, q2⟩

/-- Bytes written over bytes. -/
def spliceB (b off n c : Nat) : Nat := Nat.add (Nat.mod b (Nat.pow 256 off)) (Nat.add (Nat.mul (Nat.mod c (Nat.pow 256 n)) (Nat.pow 256 off)) (Nat.mul (Nat.div b (Nat.pow 256 (Nat.add off n))) (Nat.pow 256 (Nat.add off n))))

theorem splice_ok (N b off n c : Nat) (h : off + n ≤ N) : ow (bytesL N b) off (bytesL n c) = bytesL N (spliceB b off n c) := by
  rw [ow_eq _ _ _ (by simp; exact h), bytesL_take _ _ _ (by omega), length_bytesL, bytesL_drop, List.append_assoc, bytesL_append, bytesL_append]
  have e : off + (n + (N - (off + n))) = N := by omega
  rw [e]
  congr 1
  unfold spliceB
  have e1 : b / 256 ^ (off + n) * 256 ^ n * 256 ^ off = b / 256 ^ (off + n) * 256 ^ (off + n) := by
    rw [Nat.mul_assoc, ← Nat.pow_add, Nat.add_comm n off]
  show b % 256 ^ off + (c % 256 ^ n + b / 256 ^ (off + n) * 256 ^ n) * 256 ^ off = b % 256 ^ off + (c % 256 ^ n * 256 ^ off + b / 256 ^ (off + n) * 256 ^ (off + n))
  rw [Nat.add_mul, e1]

theorem map_ow {α β : Type} (f : α → β) : ∀ (l : List α) (n : Nat) (vs : List α), (ow l n vs).map f = ow (l.map f) n (vs.map f)
  | [], _, _ => by simp [ow]
  | a :: l, 0, [] => by simp [ow]
  | a :: l, 0, v :: vs => by simp [ow, map_ow f l 0 vs]
  | a :: l, n + 1, [] => by simp [ow]
  | a :: l, n + 1, v :: vs => by simp [ow, map_ow f l n (v :: vs)]

def storeBytesA (m : Mem) (p : Key) (off n c : Nat) : Option Mem :=
  match T.get p m.h with
  | some (.bytes u e fz k b) => bif Nat.ble fz off && Nat.ble (Nat.add off n) k then fN (spliceB b off n c) fun b => T.putK p (some (.bytes u e fz k b)) m.h fun h => some ⟨h, m.n⟩ else none
  | _ => none

theorem storeBytesA_ok {P : Program} {G : Nat → Nat} {w0 : World} {ρ : Env} {m m' : Mem} {w : World} (r : RelH G w0 ρ m.h m.n w) {p : Key} {off b κ n c : Nat} (e : storeBytesA m p off n c = some m')
    (hb : ρ p = some (b, κ)) : ∃ w', (storeCells ⟨b, off, none⟩ ((bytesL n c).map byteV)).run P w = .ok () w' ∧ RelH G w0 ρ m'.h m'.n w' ∧ Fr ρ m.h w ρ m'.h w' := by
  unfold storeBytesA at e
  cases hp : T.get p m.h with
  | none => simp [hp] at e
  | some o =>
    obtain ⟨b', κ', y, h1, h2, h3, h4, h5⟩ := r.lt hp
    rw [hb] at h1
    obtain ⟨rfl, rfl⟩ : b = b' ∧ κ = κ' := by simpa using h1
    cases o <;> simp only [hp, reduceCtorEq] at e
    rename_i u ty fz k bs
    obtain ⟨ca, f, rfl, hfz, hpre, hsz⟩ := h5
    rw [nble, nble] at e
    by_cases c1 : fz ≤ off <;> by_cases c2 : off.add n ≤ k <;> simp only [c1, c2, decide_true, decide_false, Bool.and_true, Bool.and_false, Bool.and_self, cond_true, cond_false, reduceCtorEq, fN_eq, T.putK_eq, Option.some.injEq] at e
    subst e
    have hle : k ≤ ca.size := by have := hpre.length_le; simpa using this
    have c2' : off + n ≤ k := c2
    obtain ⟨w', c', r1, r2, r3, r4, r5, r6, r7, r8⟩ := run_stores P b off ty f ((bytesL n c).map byteV) 0 ca w h2 (fun j hj hj' => hfz j (by omega) hj') (by simp; omega)
      (fun v hv => by obtain ⟨z, _, rfl⟩ := List.mem_map.1 hv; rfl)
    have hcs : c'.size = ca.size := by rw [← Array.length_toList, r3, ow_length, Array.length_toList]
    obtain ⟨q1, q2⟩ := r.update (w' := w') (o' := .bytes u ty fz k (spliceB bs off n c)) (x' := .cells c' ty f) hp hb r2
      ⟨c', f, rfl, (by unfold Fz at hfz ⊢; rw [hcs]; exact hfz), (by
        rw [r3, ← splice_ok _ _ _ _ _ c2', map_ow]
        exact prefix_ow hpre (by simp; omega)), (by rw [hcs]; exact hsz.1), hsz.2⟩ r4 r5 r6 r7 r8
    exact ⟨w', r1, q1, q2⟩

/-! ### New rows -/
def newA (m : Mem) (o : AObj) : Option (Key × Mem) := fKey (Key.succ m.n) fun k => T.putK m.n (some o) m.h fun h => some (m.n, ⟨h, k⟩)

theorem newA_ok {G : Nat → Nat} {w0 : World} {ρ : Env} {m m' : Mem} {w : World} (r : RelH G w0 ρ m.h m.n w) {o : AObj} {p : Key} (e : newA m o = some (p, m')) {x : Go.Obj} {κ : Nat}
    (ho : ObjOK G (ρ.add m.n (w.heap.size, κ)) κ o x) :
    (ρ.add m.n (w.heap.size, κ)) p = some (w.heap.size, κ) ∧ RelH G w0 (ρ.add m.n (w.heap.size, κ)) m'.h m'.n (w.alloc x) ∧ Fr ρ m.h w (ρ.add m.n (w.heap.size, κ)) m'.h (w.alloc x) := by
  simp only [newA, fKey_eq, T.putK_eq, Option.some.injEq, Prod.mk.injEq] at e
  obtain ⟨rfl, rfl⟩ := e
  obtain ⟨q1, q2⟩ := r.alloc ho
  exact ⟨Env.add_self _ _ _, q1, q2⟩

theorem run_newRow {P : Program} (e : TypeId) (c : Array Value) (w : World) : (newRow e c).run P w = .ok ⟨w.heap.size, 0, none⟩ (w.alloc (.cells c e)) := by
  simp [newRow, newObj, Sem.run]

theorem Fz_zero (fz n : Nat) : Fz fz (0, 0) n := fun i _ _ h => by omega

theorem cellsOK {G : Nat → Nat} {ρ : Env} {κ : Nat} {e : TypeId} {l : List AV} {xs : List Value} (d : denL G ρ l = some xs) : ObjOK G ρ κ (.cells none e 0 l) (.cells xs.toArray e) :=
  ⟨xs.toArray, (0, 0), xs, rfl, Fz_zero _ _, d, List.prefix_refl _, by simp [denL_length d]⟩

theorem bytesOK {G : Nat → Nat} {ρ : Env} {κ : Nat} {e : TypeId} {n b : Nat} {c : Array Value} (h : c.toList = (bytesL n b).map byteV) : ObjOK G ρ κ (.bytes 0 e 0 n b) (.cells c e) :=
  ⟨c, (0, 0), rfl, Fz_zero _ _, by rw [h]; exact List.prefix_refl _, by simp; rw [← Array.length_toList, h]; simp, fun _ => .inl rfl⟩

/-- What an operation does that writes. The post: the value, and memory. -/
def Does (G : Nat → Nat) (w0 : World) (P : Program) (s : Sem Value) (ρ : Env) (m : Mem) (w : World) (v : AV) (m' : Mem) : Prop :=
  ∃ ρ' w' x, s.run P w = .ok x w' ∧ den G ρ' v = some x ∧ RelH G w0 ρ' m'.h m'.n w' ∧ Fr ρ m.h w ρ' m'.h w'

def boxA (m : Mem) (e : TypeId) (v : AV) : Option (AV × Mem) := (newA m (.cells none e 0 (cellsOf' v))).bind fun r => some (.ptr r.1 0, r.2)

theorem newVar_ok {P : Program} {G : Nat → Nat} {w0 : World} {ρ : Env} {m m' : Mem} {w : World} (r : RelH G w0 ρ m.h m.n w) {e : TypeId} {v u : AV} {x : Value} (h : boxA m e v = some (u, m')) (d : den G ρ v = some x) :
    Does G w0 P (do pure (.pointer (some (← newVar e x)))) ρ m w u m' := by
  obtain ⟨⟨p, m1⟩, h1, h2⟩ := bind_some h
  simp only [Option.some.injEq, Prod.mk.injEq] at h2
  obtain ⟨rfl, rfl⟩ := h2
  have dl := cellsOf'_ok d
  obtain ⟨q1, q2, q3⟩ := newA_ok (κ := 0) r h1 (cellsOK (denL_mono (Env.le_add (r.fresh _ (Nat.le_refl _))) dl))
  refine ⟨_, _, .pointer (some ⟨w.heap.size, 0, none⟩), ?_, ?_, q2, q3⟩
  · simp [newVar, run_newRow]
  · simp [den, q1]
end
end Go.Ev
