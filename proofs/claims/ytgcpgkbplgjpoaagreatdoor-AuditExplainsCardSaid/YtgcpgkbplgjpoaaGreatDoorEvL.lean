/-
  A part of the evaluator for closed runs: proved once over any program.
-/
import Derived.Test.YtgcpgkbplgjpoaaGreatDoorEvK
set_option linter.unusedVariables false
set_option linter.unusedSimpArgs false
namespace Go.Ev
noncomputable section

/-! ### Slices that are made -/
def zrow {α : Type} (z : List α) : Nat → List α
  | 0 => []
  | n + 1 => z ++ zrow z n

theorem zrow_length {α : Type} (z : List α) (n : Nat) : (zrow z n).length = n * z.length := by
  induction n with
  | zero => simp [zrow]
  | succ n ih => simp [zrow, ih, Nat.succ_mul, Nat.add_comm]

theorem zrow_get {α : Type} (z : List α) (n i : Nat) (h : i < n * z.length) : (zrow z n)[i]? = z[i % z.length]? := by
  induction n generalizing i with
  | zero => simp at h
  | succ n ih =>
    simp only [zrow]
    by_cases c : i < z.length
    · rw [List.getElem?_append_left c, Nat.mod_eq_of_lt c]
    · rw [Nat.add_mul, Nat.one_mul] at h
      rw [List.getElem?_append_right (by omega), ih _ (by omega), show i % z.length = (i - z.length) % z.length from Nat.mod_eq_sub_mod (by omega)]

theorem denL_zrow {G : Nat → Nat} {ρ : Env} {z : List AV} {zs : List Value} (d : denL G ρ z = some zs) : ∀ n, denL G ρ (zrow z n) = some (zrow zs n)
  | 0 => rfl
  | n + 1 => denL_append d (denL_zrow d n)

/-- The model's own row of zeros is that list. -/
theorem range_zero (z : Array Value) (n s : Nat) (hs : z.size = s) : ((Array.range (n * s)).map (z[· % z.size]!)).toList = zrow z.toList n := by
  apply List.ext_getElem?
  intro i
  by_cases c : i < n * s
  · have hz : 0 < s := by
      rcases Nat.eq_zero_or_pos s with h | h
      · subst h; simp at c
      · exact h
    have hlt : i % z.size < z.size := Nat.mod_lt _ (by omega)
    rw [zrow_get _ _ _ (by rw [Array.length_toList, hs]; exact c)]
    simp [c, hlt, getElem!_pos]
  · have h2 : (zrow z.toList n).length ≤ i := by rw [zrow_length, Array.length_toList, hs]; omega
    rw [List.getElem?_eq_none h2, List.getElem?_eq_none (by simp; omega)]

theorem zeroCells_list (z : Array Value) (n : Nat) : (Builtin.zeroCells z n).toList = zrow z.toList n := range_zero z n z.size rfl

theorem and3 {a b c : Bool} (h : (a && (b && c)) = true) : a = true ∧ b = true ∧ c = true := by
  cases a <;> cases b <;> cases c <;> simp at h <;> exact ⟨rfl, rfl, rfl⟩
theorem cond_some {α : Type} {c : Bool} {x : Option α} {a : α} (h : (bif c then x else none) = some a) : c = true ∧ x = some a := by
  cases c
  · cases h
  · exact ⟨rfl, h⟩

def packL : List AV → Option Nat
  | [] => some 0
  | v :: l => match v with
    | .int k z => bif kindEq k .u8 then (match z with
      | .ofNat c => bif Nat.blt c 256 then (packL l).bind fun b => fN (Nat.add c (Nat.mul 256 b)) some else none
      | _ => none) else none
    | _ => none

theorem packL_ok {G : Nat → Nat} {ρ : Env} : ∀ {l : List AV} {b : Nat} {xs : List Value}, packL l = some b → denL G ρ l = some xs → xs = (bytesL l.length b).map byteV
  | [], b, xs, h, d => by simp [denL] at d; subst d; rfl
  | v :: l, b, xs, h, d => by
    obtain ⟨x, ys, d1, d2, rfl⟩ := denL_cons.1 d
    cases v <;> simp only [packL, reduceCtorEq] at h
    rename_i k z
    have hk := (cond_some h).1
    replace h := (cond_some h).2
    obtain rfl := kindEq_iff hk
    cases z <;> simp only [reduceCtorEq] at h
    rename_i c
    have hc := (cond_some h).1
    replace h := (cond_some h).2
    rw [nblt, decide_eq_true_iff] at hc
    obtain ⟨b', h1, h2⟩ := bind_some h
    simp only [fN_eq, Option.some.injEq] at h2; subst h2
    simp only [den, Option.some.injEq] at d1; subst d1
    have e : c.add (Nat.mul 256 b') = c + 256 * b' := rfl
    simp only [List.length_cons, bytesL, List.map_cons, e]
    rw [packL_ok h1 d2, show (c + 256 * b') / 256 = b' from by omega]
    congr 1
    have h0 : UInt8.ofNat (c + 256 * b') = UInt8.ofNat c := by rw [ofNat_eq]; omega
    rw [h0, byteV, toNat_byte, Nat.mod_eq_of_lt hc]
    rfl

/-- The row of a slice. -/
def rowA (P : Program) (m : Mem) (e : TypeId) (l : List AV) : Option (Key × Mem) :=
  bif isU8 P e then (packL l).bind fun b => fN l.length fun n => newA m (.bytes 0 e 0 n b) else newA m (.cells none e 0 l)

theorem rowA_ok {P : Program} {G : Nat → Nat} {w0 : World} {ρ : Env} {m m' : Mem} {w : World} (r : RelH G w0 ρ m.h m.n w) {e : TypeId} {l : List AV} {p : Key} {xs : List Value} (h : rowA P m e l = some (p, m')) (d : denL G ρ l = some xs) :
    ∃ ρ', ρ' p = some (w.heap.size, 0) ∧ RelH G w0 ρ' m'.h m'.n (w.alloc (.cells xs.toArray e)) ∧ Fr ρ m.h w ρ' m'.h (w.alloc (.cells xs.toArray e)) := by
  unfold rowA at h
  cases hu : isU8 P e with
  | true =>
    simp only [hu, cond_true] at h
    obtain ⟨b, h1, h2⟩ := bind_some h
    simp only [fN_eq] at h2
    exact ⟨_, newA_ok (κ := 0) r h2 (bytesOK (by simp [packL_ok h1 d]))⟩
  | false =>
    simp only [hu, cond_false] at h
    exact ⟨_, newA_ok (κ := 0) r h (cellsOK (denL_mono (Env.le_add (r.fresh _ (Nat.le_refl _))) d))⟩

def buildSliceA (P : Program) (m : Mem) (t : TypeId) (len : Nat) (ps : List (Nat × AV)) : Option (AV × Mem) :=
  match P.underlying t with
  | some (.slice e) => (sizeA P e).bind fun s => (zeroA P e).bind fun z =>
      bif Nat.beq (cellsOf' z).length s && (Nat.blt 0 s && Nat.ble (Nat.mul len s) 16777216) then
        (fillA (fun i => some (Nat.mul i s, s)) (zrow (cellsOf' z) len) ps).bind fun l => (rowA P m e l).bind fun r => some (.sl r.1 0 len len, r.2)
      else none
  | _ => none

theorem buildSlice_ok {P : Program} {G : Nat → Nat} {w0 : World} {ρ : Env} {m m' : Mem} {w : World} (r : RelH G w0 ρ m.h m.n w) {t : TypeId} {len : Nat} {ps : List (Nat × AV)} {qs : List (Nat × Value)} {u : AV}
    (h : buildSliceA P m t len ps = some (u, m')) (hq : All2 (fun (p : Nat × AV) (q : Nat × Value) => p.1 = q.1 ∧ den G ρ p.2 = some q.2) ps qs) :
    Does G w0 P (Instr.buildSlice t len qs.toArray) ρ m w u m' := by
  unfold buildSliceA at h
  cases hu : P.underlying t with
  | none => simp [hu] at h
  | some ty =>
    cases ty <;> simp only [hu, reduceCtorEq] at h
    rename_i e
    obtain ⟨s, hs, h⟩ := bind_some h
    obtain ⟨z, hz, h⟩ := bind_some h
    obtain ⟨hc, h⟩ := cond_some h
    obtain ⟨c1, c2, c3⟩ := and3 hc
    obtain ⟨l, hf, h⟩ := bind_some h
    obtain ⟨⟨p, m1⟩, hr, h⟩ := bind_some h
    simp only [Option.some.injEq, Prod.mk.injEq] at h
    obtain ⟨rfl, rfl⟩ := h
    rw [nbeq, decide_eq_true_iff] at c1
    rw [nblt, decide_eq_true_iff] at c2
    rw [nble, decide_eq_true_iff] at c3
    have c3' : len * s ≤ 16777216 := c3
    obtain ⟨zx, hzr, dz⟩ := zeroA_ok hz w
    have dc := cellsOf'_ok (dz G ρ)
    have hzs : zx.cells.size = s := by rw [← Array.length_toList, denL_length dc, c1]
    obtain ⟨ys, e1, e2⟩ := fill_ok hq (denL_zrow dc len) hf
    obtain ⟨ρ', q1, q2, q3⟩ := rowA_ok r hr e2
    simp only [Array.toArray_toList] at q2 q3
    refine ⟨ρ', _, .slice (some ⟨w.heap.size, 0, none⟩) len len, ?_, by simp [den, q1], q2, q3⟩
    have e3 : (Array.range (len * s)).map (zx.cells[· % zx.cells.size]!) = (zrow zx.cells.toList len).toArray := by
      apply Array.ext'; rw [range_zero _ _ _ hzs]
    have e1' : Instr.fill (fun i => some (i * s, s)) (zrow zx.cells.toList len).toArray qs = some ys := e1
    by_cases h0 : len * s = 0
    · have hl : len = 0 := by
        rcases Nat.mul_eq_zero.1 h0 with h | h
        · exact h
        · omega
      subst hl
      simp only [zrow] at e1'
      have e0 : ∀ f : Nat → Value, (Array.range (0 * s)).map f = #[] := fun f => by apply Array.ext'; simp
      simp only [Instr.buildSlice, Sem.run_bind, run_underlying hu, Result.andThen_ok, sizeA_ok hs, Sem.run_ite]
      rw [if_neg (by omega), if_pos h0]
      simp only [Sem.run_pure, Result.andThen_ok, e0, List.toList_toArray, e1', Sem.run_bind, run_newRow]
    · simp only [Instr.buildSlice, Sem.run_bind, run_underlying hu, Result.andThen_ok, sizeA_ok hs, Sem.run_ite]
      rw [if_neg (by omega), if_neg h0]
      simp only [Sem.run_bind, Sem.run_pure, hzr, Result.andThen_ok, e3, e1', List.toList_toArray, run_newRow]

def makeSliceA (P : Program) (m : Mem) (t : TypeId) (len cap : AV) : Option (AV × Mem) :=
  match P.underlying t with
  | some (.slice e) => (idx len).bind fun l => (idx cap).bind fun c => match P.info? e with
    | some i => (zeroA P e).bind fun z =>
      bif Nat.ble l c && (Nat.ble c 1000000 && (Nat.ble i.bytes 1000000 && Nat.beq (cellsOf' z).length i.size)) then
        (bif isU8 P e then (match z with
          | .int .u8 (.ofNat 0) => (newA m (.bytes 0 e 0 c 0)).bind fun r => some (.sl r.1 0 l c, r.2)
          | _ => none)
        else fL (zrow (cellsOf' z) c) fun row => (newA m (.cells none e 0 row)).bind fun r => some (.sl r.1 0 l c, r.2)) else none
    | none => none
  | _ => none

theorem wrap_i64 (n : Nat) (h : n ≤ 1000000) : IntKind.i64.wrap (n : Int) = n := wrap_small .i64 n (by simp [lim]; omega)

theorem bytesL_zero (n : Nat) : bytesL n 0 = List.replicate n 0 := by
  induction n with
  | zero => rfl
  | succ n ih => simp [bytesL, ih, List.replicate_succ]

theorem zrow_single {α : Type} (a : α) (n : Nat) : zrow [a] n = List.replicate n a := by
  induction n with
  | zero => rfl
  | succ n ih => simp [zrow, ih, List.replicate_succ]

theorem makeSlice_ok {P : Program} {G : Nat → Nat} {w0 : World} {ρ : Env} {m m' : Mem} {w : World} (r : RelH G w0 ρ m.h m.n w) {t : TypeId} {len cap u : AV} {L K : Value}
    (h : makeSliceA P m t len cap = some (u, m')) (dl : den G ρ len = some L) (dk : den G ρ cap = some K) :
    Does G w0 P (Instr.makeSlice t L K) ρ m w u m' := by
  unfold makeSliceA at h
  cases hu : P.underlying t with
  | none => simp [hu] at h
  | some ty =>
    cases ty <;> simp only [hu, reduceCtorEq] at h
    rename_i e
    obtain ⟨l, hl, h⟩ := bind_some h
    obtain ⟨c, hc, h⟩ := bind_some h
    obtain ⟨k1, rfl⟩ := idx_ok hl dl
    obtain ⟨k2, rfl⟩ := idx_ok hc dk
    cases hi : P.info? e with
    | none => simp [hi] at h
    | some i =>
      simp only [hi] at h
      obtain ⟨z, hz, h⟩ := bind_some h
      obtain ⟨hb, h⟩ := cond_some h
      obtain ⟨b1, b2, b34⟩ := and3 hb
      rw [Bool.and_eq_true] at b34
      obtain ⟨b3, b4⟩ := b34
      rw [nble, decide_eq_true_iff] at b1 b2 b3
      rw [nbeq, decide_eq_true_iff] at b4
      obtain ⟨zx, hzr, dz⟩ := zeroA_ok hz w
      have dc := cellsOf'_ok (dz G ρ)
      have hzs : zx.cells.size = i.size := by rw [← Array.length_toList, denL_length dc, b4]
      have hsz : sizeA P e = some i.size := by simp [sizeA, hi]
      have e3 : (Array.range (c * i.size)).map (zx.cells[· % zx.cells.size]!) = (zrow zx.cells.toList c).toArray := by
        apply Array.ext'; rw [range_zero _ _ _ hzs]
      have hw1 := wrap_i64 l (by omega)
      have hw2 := wrap_i64 c b2
      have hbig : ((i.bytes : Int) * (c : Int)) ≤ 2 ^ 48 := by
        have : i.bytes * c ≤ 1000000 * 1000000 := Nat.mul_le_mul b3 b2
        have h2 : ((i.bytes * c : Nat) : Int) ≤ ((1000000 * 1000000 : Nat) : Int) := by exact_mod_cast this
        rw [Int.natCast_mul] at h2
        omega
      have run : (Instr.makeSlice t (.int k1 (l : Int)) (.int k2 (c : Int))).run P w = .ok (.slice (some ⟨w.heap.size, 0, none⟩) l c) (w.alloc (.cells (zrow zx.cells.toList c).toArray e)) := by
        simp only [Instr.makeSlice, Sem.run_bind, run_underlying hu, Result.andThen_ok, asInt, asIntOf, Sem.run_pure, typeInfo, run_program, hi, hw1, hw2, Sem.run_ite]
        have hno : ¬ ((decide ((c : Int) < 0) || decide ((i.bytes : Int) * (c : Int) > 2 ^ 48)) || decide ((l : Int) < 0) || decide ((l : Int) > (c : Int))) = true := by
          simp; omega
        rw [if_neg hno]
        simp only [run_askRoom, Result.andThen_ok, Int.toNat_natCast, sizeA_ok hsz, Sem.run_bind]
        by_cases h0 : c * i.size = 0
        · have hz0 : zrow zx.cells.toList c = [] := by
            apply List.eq_nil_of_length_eq_zero
            rw [zrow_length, Array.length_toList, hzs]; exact h0
          have e0 : ∀ f : Nat → Value, (Array.range (c * i.size)).map f = #[] := fun f => by apply Array.ext'; simp [h0]
          rw [if_pos h0, hz0]
          simp only [Sem.run_pure, Result.andThen_ok, e0, run_newRow]
        · rw [if_neg h0]
          simp only [Sem.run_bind, hzr, Result.andThen_ok, Sem.run_pure, e3, run_newRow]
      cases hu8 : isU8 P e with
      | true =>
        simp only [hu8, cond_true] at h
        split at h
        · obtain ⟨⟨p, m1⟩, hr, h⟩ := bind_some h
          simp only [Option.some.injEq, Prod.mk.injEq] at h
          obtain ⟨rfl, rfl⟩ := h
          have dz' := dz G ρ
          simp only [den, Option.some.injEq] at dz'
          have ec : (zrow zx.cells.toList c).toArray.toList = (bytesL c 0).map byteV := by
            rw [← dz', bytesL_zero]
            show zrow [Value.int .u8 0] c = _
            rw [zrow_single]
            simp [byteV]
          obtain ⟨q1, q2, q3⟩ := newA_ok (κ := 0) r hr (bytesOK ec)
          exact ⟨_, _, _, run, by simp [den, q1], q2, q3⟩
        · cases h
      | false =>
        simp only [hu8, cond_false, fL_eq] at h
        obtain ⟨⟨p, m1⟩, hr, h⟩ := bind_some h
        simp only [Option.some.injEq, Prod.mk.injEq] at h
        obtain ⟨rfl, rfl⟩ := h
        obtain ⟨q1, q2, q3⟩ := newA_ok (κ := 0) r hr (cellsOK (denL_mono (Env.le_add (r.fresh _ (Nat.le_refl _))) (denL_zrow dc c)))
        exact ⟨_, _, _, run, by simp [den, q1], q2, q3⟩
end
end Go.Ev
