/- Texts as numbers: a text of n bytes is n and a number whose digits to the base 256 are the bytes. -/
set_option linter.unusedVariables false
namespace Go.Ev

def bytesL : Nat → Nat → List UInt8
  | 0, _ => []
  | n + 1, b => UInt8.ofNat b :: bytesL n (b / 256)

def mkB (n b : Nat) : ByteArray := ⟨(bytesL n b).toArray⟩

theorem ofNat_mod (b : Nat) : UInt8.ofNat (b % 256) = UInt8.ofNat b := by
  apply UInt8.toNat_inj.1; simp

theorem ofNat_eq {a b : Nat} : UInt8.ofNat a = UInt8.ofNat b ↔ a % 256 = b % 256 := by
  rw [← UInt8.toNat_inj]; simp

@[simp] theorem length_bytesL (n b : Nat) : (bytesL n b).length = n := by
  induction n generalizing b with
  | zero => rfl
  | succ n ih => simp [bytesL, ih]

theorem size_mkB (n b : Nat) : (mkB n b).size = n := by simp [mkB, ByteArray.size]

theorem bytesL_get? (n b i : Nat) (h : i < n) : (bytesL n b)[i]? = some (UInt8.ofNat (b / 256 ^ i)) := by
  induction n generalizing b i with
  | zero => omega
  | succ n ih =>
    cases i with
    | zero => simp [bytesL]
    | succ i =>
      simp only [bytesL, List.getElem?_cons_succ]
      rw [ih (b / 256) i (by omega), Nat.div_div_eq_div_mul, Nat.pow_succ, Nat.mul_comm]

theorem bytesL_drop (n b k : Nat) : (bytesL n b).drop k = bytesL (n - k) (b / 256 ^ k) := by
  induction k generalizing n b with
  | zero => simp
  | succ k ih =>
    cases n with
    | zero => simp [bytesL]
    | succ n =>
      simp only [bytesL, List.drop_succ_cons]
      rw [ih, Nat.div_div_eq_div_mul, Nat.pow_succ, Nat.mul_comm, show n + 1 - (k + 1) = n - k from by omega]

theorem bytesL_take (n b k : Nat) (h : k ≤ n) : (bytesL n b).take k = bytesL k b := by
  induction k generalizing n b with
  | zero => simp [bytesL]
  | succ k ih =>
    cases n with
    | zero => omega
    | succ n => simp only [bytesL, List.take_succ_cons]; rw [ih _ _ (by omega)]

theorem bytesL_append (n a m b : Nat) : bytesL n a ++ bytesL m b = bytesL (n + m) (a % 256 ^ n + b * 256 ^ n) := by
  induction n generalizing a with
  | zero => simp [bytesL, Nat.mod_one]
  | succ n ih =>
    rw [show n + 1 + m = (n + m) + 1 from by omega]
    simp only [bytesL, List.cons_append]
    rw [ih]
    have e1 : a % 256 ^ (n + 1) % 256 = a % 256 := by
      rw [Nat.pow_succ]; exact Nat.mod_mul_left_mod _ _ _
    have e2 : (a % 256 ^ (n + 1)) / 256 = a / 256 % 256 ^ n := by
      rw [Nat.pow_succ, Nat.mul_comm, Nat.mod_mul_right_div_self]
    have e3 : b * 256 ^ (n + 1) = 256 * (b * 256 ^ n) := by rw [Nat.pow_succ]; ac_rfl
    congr 1
    · rw [ofNat_eq, e3, Nat.add_mul_mod_self_left, e1]
    · rw [e3, Nat.add_mul_div_left _ _ (by omega), e2]

theorem bytesL_mod (n b : Nat) : bytesL n (b % 256 ^ n) = bytesL n b := by
  have h := bytesL_append n b 0 0
  simp [bytesL] at h
  exact h.symm

theorem bytesL_inj (n a b : Nat) : bytesL n a = bytesL n b ↔ a % 256 ^ n = b % 256 ^ n := by
  constructor
  · intro h
    induction n generalizing a b with
    | zero => simp [Nat.mod_one]
    | succ n ih =>
      simp only [bytesL, List.cons.injEq] at h
      have h1 := ofNat_eq.1 h.1
      have h2 := ih _ _ h.2
      have e2 : ∀ a : Nat, (a % 256 ^ (n + 1)) / 256 = a / 256 % 256 ^ n := fun a => by
        rw [Nat.pow_succ, Nat.mul_comm, Nat.mod_mul_right_div_self]
      have e1 : ∀ a : Nat, a % 256 ^ (n + 1) % 256 = a % 256 := fun a => by
        rw [Nat.pow_succ]; exact Nat.mod_mul_left_mod _ _ _
      have := e2 a; have := e2 b; have := e1 a; have := e1 b
      omega
  · intro h
    rw [← bytesL_mod n a, ← bytesL_mod n b, h]

/-- The number of a list of bytes. -/
def pack : List UInt8 → Nat
  | [] => 0
  | c :: l => c.toNat + 256 * pack l

theorem bytesL_pack (l : List UInt8) : bytesL l.length (pack l) = l := by
  induction l with
  | nil => rfl
  | cons c l ih =>
    have hc := c.toNat_lt
    simp only [List.length_cons, bytesL, pack]
    congr 1
    · rw [← UInt8.toNat_inj]; simp
    · rw [show (c.toNat + 256 * pack l) / 256 = pack l from by omega, ih]

theorem mkB_pack (s : ByteArray) : mkB s.size (pack s.data.toList) = s := by
  obtain ⟨⟨l⟩⟩ := s
  simp [mkB, ByteArray.size, bytesL_pack]

theorem mkB_inj (n a m b : Nat) : mkB n a = mkB m b ↔ n = m ∧ a % 256 ^ n = b % 256 ^ n := by
  constructor
  · intro h
    have hs : n = m := by have := congrArg ByteArray.size h; simpa [size_mkB] using this
    subst hs
    refine ⟨rfl, (bytesL_inj n a b).1 ?_⟩
    have := congrArg (fun s => s.data.toList) h
    simpa [mkB] using this
  · rintro ⟨rfl, h⟩
    simp only [mkB, (bytesL_inj n a b).2 h]

theorem mkB_get? (n b i : Nat) (h : i < n) : (mkB n b)[i]? = some (UInt8.ofNat (b / 256 ^ i)) := by
  have h1 : i < (mkB n b).size := by rw [size_mkB]; exact h
  have h2 := bytesL_get? n b i h
  rw [getElem?_pos (mkB n b) i h1]
  have h3 : (mkB n b)[i] = (bytesL n b)[i]'(by simpa using h) := by
    show (mkB n b).data[i] = _
    simp [mkB]
  rw [h3]
  rw [List.getElem?_eq_getElem (by simpa using h)] at h2
  exact h2

theorem toNat_byte (b : Nat) : ((UInt8.ofNat b).toNat) = b % 256 := by simp

theorem mkB_append (n a m b : Nat) : mkB n a ++ mkB m b = mkB (n + m) (a % 256 ^ n + b * 256 ^ n) := by
  apply ByteArray.ext
  simp [mkB, ← bytesL_append]

theorem mkB_extract (n b l h : Nat) (hl : l ≤ h) (hh : h ≤ n) : (mkB n b).extract l h = mkB (h - l) (b / 256 ^ l % 256 ^ (h - l)) := by
  apply ByteArray.ext
  rw [ByteArray.data_extract]
  simp only [mkB, bytesL_mod]
  rw [List.extract_toArray]
  congr 1
  rw [List.extract_eq_take_drop, bytesL_drop, bytesL_take _ _ _ (by omega)]

/-- One byte written. -/
def setByte (b i v : Nat) : Nat := b - (b / 256 ^ i % 256) * 256 ^ i + v * 256 ^ i

theorem bytesL_set (n b i v : Nat) (h : i < n) (hv : v < 256) : (bytesL n b).set i (UInt8.ofNat v) = bytesL n (setByte b i v) := by
  induction i generalizing n b with
  | zero =>
    cases n with
    | zero => omega
    | succ n =>
      simp only [bytesL, List.set_cons_zero, setByte, Nat.pow_zero, Nat.div_one, Nat.mul_one]
      congr 1
      · rw [ofNat_eq]; omega
      · congr 1; omega
  | succ i ih =>
    cases n with
    | zero => omega
    | succ n =>
      simp only [bytesL, List.set_cons_succ]
      rw [ih _ _ (by omega)]
      have e0 : b / 256 ^ (i + 1) = b / 256 / 256 ^ i := by rw [Nat.div_div_eq_div_mul, Nat.pow_succ, Nat.mul_comm]
      have e1 : ∀ x : Nat, x * 256 ^ (i + 1) = 256 * (x * 256 ^ i) := fun x => by rw [Nat.pow_succ]; ac_rfl
      have hle : (b / 256 / 256 ^ i % 256) * 256 ^ i ≤ b / 256 :=
        Nat.le_trans (Nat.mul_le_mul_right _ (Nat.mod_le _ _)) (Nat.div_mul_le_self _ _)
      unfold setByte
      rw [e0, e1, e1]
      generalize (b / 256 / 256 ^ i % 256) * 256 ^ i = x at *
      generalize v * 256 ^ i = y
      congr 1
      · rw [ofNat_eq]; omega
      · congr 1; omega
end Go.Ev
