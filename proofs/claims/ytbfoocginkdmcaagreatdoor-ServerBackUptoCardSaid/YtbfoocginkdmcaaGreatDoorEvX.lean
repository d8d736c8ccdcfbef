/-
  A region in drawn order that ends with a panic: the last operation waits for all others, and panics.
-/
import Derived.Test.YtbfoocginkdmcaaGreatDoorEvU
set_option linter.unusedVariables false
set_option linter.unusedSimpArgs false
namespace Go.Ev
noncomputable section

def TF : List Rec → T AV → Nat → T AV
  | [], t, _ => t
  | r :: acc, t, j => if j ≤ acc.length then TF acc r.t j else t
def MF : List Rec → Mem → Nat → Mem
  | [], m, _ => m
  | r :: acc, m, j => if j ≤ acc.length then MF acc r.m j else m

section
variable {C : Cx} {call : CallF} {nt : Nat} {ops : Array Oper} {t0 : T AV} {m0 : Mem}

theorem TF_len : ∀ {l : List Rec} {t : T AV}, TF l t l.length = t
  | [], t => rfl
  | r :: acc, t => by simp only [TF, List.length_cons]; rw [if_neg (by omega)]
theorem MF_len : ∀ {l : List Rec} {m : Mem}, MF l m l.length = m
  | [], m => rfl
  | r :: acc, m => by simp only [MF, List.length_cons]; rw [if_neg (by omega)]
theorem Good.zero : ∀ {l : List Rec} {t : T AV} {m : Mem}, Good C call nt ops t0 m0 l t m → TF l t 0 = t0 ∧ MF l m 0 = m0
  | [], t, m, g => g
  | r :: acc, t, m, g => by simp only [TF, MF]; rw [if_pos (by omega), if_pos (by omega)]; exact Good.zero g.2

theorem Good.get : ∀ {l : List Rec} {t : T AV} {m : Mem}, Good C call nt ops t0 m0 l t m → ∀ {i : Nat} {r : Rec}, recAt l i = some r →
    ∃ acc, acc.length = i ∧ RecOK C call nt ops r acc (TF l t (i + 1)) (MF l m (i + 1)) ∧ TF l t i = r.t ∧ MF l m i = r.m ∧ ∀ q, q < i → recAt acc q = recAt l q
  | [], t, m, g, i, r, h => by simp [recAt] at h
  | x :: acc, t, m, g, i, r, h => by
    simp only [recAt] at h
    by_cases c : i = acc.length
    · rw [if_pos c] at h
      cases h
      refine ⟨acc, c.symm, ?_, ?_, ?_, fun q hq => ?_⟩
      · simp only [TF, MF]
        rw [if_neg (by omega), if_neg (by omega)]
        exact g.1
      · simp only [TF]
        rw [if_pos (by omega), c]
        exact TF_len
      · simp only [MF]
        rw [if_pos (by omega), c]
        exact MF_len
      · simp only [recAt]; rw [if_neg (by omega)]
    · rw [if_neg c] at h
      have hlt := recAt_lt h
      obtain ⟨a, h1, h2, h3, h4, h5⟩ := Good.get g.2 h
      refine ⟨a, h1, ?_, ?_, ?_, fun q hq => ?_⟩
      · simp only [TF, MF]
        rw [if_pos (by omega), if_pos (by omega)]
        exact h2
      · simp only [TF]; rw [if_pos (by omega)]; exact h3
      · simp only [MF]; rw [if_pos (by omega)]; exact h4
      · simp only [recAt]; rw [if_neg (by omega)]; exact h5 q hq

theorem Good.cspec : ∀ {l : List Rec} {t : T AV} {m : Mem}, Good C call nt ops t0 m0 l t m → ∀ i, (cOf l).testBit i = true ↔ ∃ r, recAt l i = some r ∧ r.k = 2
  | [], t, m, g, i => by simp [cOf, recAt]
  | x :: acc, t, m, g, i => by
    have ih := Good.cspec g.2 i
    show x.c.testBit i = true ↔ _
    rw [g.1.c]
    simp only [recAt]
    by_cases hk : x.k = 2
    · rw [if_pos hk, lor_bit, g.1.b, pow_bit, Bool.or_eq_true, decide_eq_true_iff, ih]
      by_cases c : i = acc.length
      · rw [if_pos c]
        exact ⟨fun _ => ⟨x, rfl, hk⟩, fun _ => .inr c.symm⟩
      · rw [if_neg c]
        exact ⟨fun h => h.elim id (fun e => absurd e.symm c), .inl⟩
    · rw [if_neg hk, ih]
      by_cases c : i = acc.length
      · rw [if_pos c]
        refine ⟨fun ⟨r, h, _⟩ => ?_, fun ⟨r, h, h2⟩ => ?_⟩
        · have := recAt_lt h; omega
        · cases h; exact absurd h2 hk
      · rw [if_neg c]

theorem Good.sspec : ∀ {l : List Rec} {t : T AV} {m : Mem}, Good C call nt ops t0 m0 l t m → ∀ i, (sOf l).testBit i = true → ∃ q r, recAt l q = some r ∧ r.k = 2 ∧ r.R.testBit i = true
  | [], t, m, g, i, h => by simp [sOf] at h
  | x :: acc, t, m, g, i, h => by
    have ih := Good.sspec g.2 i
    have up : (sOf acc).testBit i = true → ∃ q r, recAt (x :: acc) q = some r ∧ r.k = 2 ∧ r.R.testBit i = true := fun h => by
      obtain ⟨q, r, h1, h2⟩ := ih h
      refine ⟨q, r, ?_, h2⟩
      have := recAt_lt h1
      simp only [recAt]; rw [if_neg (by omega)]; exact h1
    have h' : x.s.testBit i = true := h
    rw [g.1.s] at h'
    by_cases hk : x.k = 2
    · rw [if_pos hk, lor_bit, Bool.or_eq_true] at h'
      rcases h' with h' | h'
      · exact up h'
      · exact ⟨acc.length, x, by simp [recAt], hk, h'⟩
    · rw [if_neg hk] at h'
      exact up h'

theorem bnd_mem : ∀ {l : List Rec} {t : T AV} {m : Mem}, Good C call nt ops t0 m0 l t m → ∀ {p : Nat}, p ≤ l.length → (p = 0 ∨ (0 < p ∧ ∃ r, recAt l (p - 1) = some r ∧ r.k = 2)) →
    ∃ c s, (c, s, MF l m p) ∈ bnd l m ∧ (∀ i, c.testBit i = true ↔ i < p ∧ ∃ r, recAt l i = some r ∧ r.k = 2) ∧ (∀ i, s.testBit i = true → ∃ q r, q < p ∧ recAt l q = some r ∧ r.k = 2 ∧ r.R.testBit i = true)
  | [], t, m, g, p, hp, hb => by
    simp at hp; subst hp
    exact ⟨0, 0, by simp [bnd, MF], by simp, by simp⟩
  | x :: acc, t, m, g, p, hp, hb => by
    simp only [List.length_cons] at hp
    by_cases c : p = acc.length + 1
    · subst c
      have hk : x.k = 2 := by
        rcases hb with hb | ⟨_, r, h1, h2⟩
        · omega
        · simp only [recAt, Nat.add_sub_cancel] at h1
          simp at h1
          rw [h1]; exact h2
      refine ⟨x.c, x.s, ?_, fun i => ?_, fun i hi => ?_⟩
      · simp only [bnd, MF]
        rw [if_neg (by omega), hk]
        simp
      · have := Good.cspec (l := x :: acc) g i
        rw [show x.c = cOf (x :: acc) from rfl, this]
        constructor
        · rintro ⟨r, h, h2⟩
          exact ⟨recAt_lt h, r, h, h2⟩
        · exact fun h => h.2
      · obtain ⟨q, r, h1, h2⟩ := Good.sspec (l := x :: acc) g i hi
        exact ⟨q, r, recAt_lt h1, h1, h2⟩
    · have hp' : p ≤ acc.length := by omega
      have lift : ∀ q, q < p → recAt (x :: acc) q = recAt acc q := fun q hq => by simp only [recAt]; rw [if_neg (by omega)]
      obtain ⟨c', s', h1, h2, h3⟩ := bnd_mem g.2 hp' (by
        rcases hb with hb | ⟨h0, r, h1, h2⟩
        · exact .inl hb
        · refine .inr ⟨h0, r, ?_, h2⟩
          rw [← lift _ (by omega)]; exact h1)
      refine ⟨c', s', ?_, fun i => ?_, fun i hi => ?_⟩
      · simp only [bnd, MF]
        rw [if_pos hp']
        cases Nat.beq x.k 2 <;> simp [h1]
      · rw [h2]
        constructor
        · rintro ⟨hi, h⟩; rw [lift i hi]; exact ⟨hi, h⟩
        · rintro ⟨hi, h⟩; rw [lift i hi] at h; exact ⟨hi, h⟩
      · obtain ⟨q, r, hq, h⟩ := h3 i hi
        exact ⟨q, r, hq, by rw [lift q hq]; exact h⟩

theorem rdAt_ok {r : Rec} {c : Nat} : ∀ {B : List (Nat × Nat × Mem)}, rdAt C r c B = true → ∀ {cp sp : Nat} {mp : Mem}, (cp, sp, mp) ∈ B → cp ≠ r.c → Nat.land r.R c = Nat.land r.R cp → Nat.beq (Nat.land sp r.b) 0 = true → evP C r.t mp.h r.o.op = some r.v
  | [], h, cp, sp, mp, hm, h1, h2, h3 => by cases hm
  | (a, b, d) :: l, h, cp, sp, mp, hm, h1, h2, h3 => by
    simp only [rdAt] at h
    obtain ⟨h, hl⟩ := cond_and h
    rcases List.mem_cons.1 hm with e | hm
    · cases e
      have e1 : Nat.beq a r.c = false := by rw [nbeq]; simpa using h1
      have e2 : Nat.beq (Nat.land r.R c) (Nat.land r.R a) = true := by rw [nbeq]; simpa using h2
      simp only [e1, e2, h3, cond_true, cond_false] at h
      cases he : evP C r.t d.h r.o.op with
      | none => simp [he] at h
      | some v => simp only [he] at h; rw [AV.eqb_ok h]
    · exact rdAt_ok hl hm h1 h2 h3

theorem rdOK_ok {c : Nat} {B : List (Nat × Nat × Mem)} : ∀ {l : List Rec}, rdOK C c B l = true → ∀ {i : Nat} {r : Rec}, recAt l i = some r → r.k = 1 → readsH r.o.op = true → rdAt C r c B = true
  | [], h, i, r, hr, hk, hh => by simp [recAt] at hr
  | x :: l, h, i, r, hr, hk, hh => by
    have hd : rdOK C c B l = true ∧ (x.k = 1 → readsH x.o.op = true → rdAt C x c B = true) := by
      simp only [rdOK] at h
      cases h1 : Nat.beq x.k 1 with
      | false => simp only [h1, cond_false] at h; exact ⟨h, fun e => by rw [e] at h1; cases h1⟩
      | true =>
        cases h2 : readsH x.o.op with
        | false => simp only [h1, h2, cond_true, cond_false] at h; exact ⟨h, fun _ e => by cases e⟩
        | true =>
          simp only [h1, h2, cond_true] at h
          obtain ⟨h3, h4⟩ := cond_and h
          exact ⟨h4, fun _ _ => h3⟩
    simp only [recAt] at hr
    split at hr
    · cases hr; exact hd.2 hk hh
    · exact rdOK_ok hd.1 hr hk hh

/-- The run that passes the checks is a plan. -/
def plan_of {rs : List Rec} {t1 : T AV} {m1 : Mem} (g : Good C call nt ops t0 m0 rs t1 m1) (hn : rs.length = ops.size) (hrd : rdOK C (cOf rs) (bnd rs m1) rs = true) : Plan C call nt ops t0 m0 t1 m1 where
  Tf := TF rs t1
  M := MF rs m1
  R j i := ∃ r, recAt rs j = some r ∧ r.R.testBit i = true
  K j := match recAt rs j with | some r => r.k | none => 0
  V j := match recAt rs j with | some r => r.v | none => .nilP
  T0 := (Good.zero g).1
  M0 := (Good.zero g).2
  Tn := by rw [← hn]; exact TF_len
  Mn := by rw [← hn]; exact MF_len
  back j o ho e he hb := by
    obtain ⟨r, hr⟩ := recAt_some (l := rs) (i := j) (by rw [hn]; exact (Array.getElem?_eq_some_iff.1 ho).1)
    obtain ⟨acc, h1, h2, h3, h4, h5⟩ := Good.get g hr
    have ha := h2.at_
    rw [h1, ho] at ha
    cases ha
    have := h2.back e he hb
    omega
  reach j o i ho hR := by
    obtain ⟨r, hr, hb⟩ := hR
    obtain ⟨acc, h1, h2, h3, h4, h5⟩ := Good.get g hr
    have ha := h2.at_
    rw [h1, ho] at ha
    cases ha
    obtain ⟨e, he, hbe, h⟩ := h2.reach i hb
    refine ⟨e, he, hbe, ?_⟩
    rcases h with h | ⟨x, hx, hx2⟩
    · exact .inl h
    · have := recAt_lt hx
      exact .inr ⟨x, by rw [← h5 _ (by omega)]; exact hx, hx2⟩
  look1 i j oi oj hij hoi hoj := by
    have hj : j < rs.length := by rw [hn]; exact (Array.getElem?_eq_some_iff.1 hoj).1
    obtain ⟨r, hr⟩ := recAt_some hj
    obtain ⟨x, hx⟩ := recAt_some (l := rs) (i := i) (by omega)
    obtain ⟨acc, h1, h2, h3, h4, h5⟩ := Good.get g hr
    obtain ⟨acc', k1, k2, _, _, _⟩ := Good.get g hx
    have ha := h2.at_
    rw [h1, hoj] at ha
    cases ha
    have hb := k2.at_
    rw [k1, hoi] at hb
    cases hb
    rcases h2.prev i x (by rw [h5 i hij]; exact hx) with h | ⟨p1, p2, p3⟩
    · exact .inl ⟨r, hr, h⟩
    · refine .inr ⟨fun d hd => ⟨fun hm => ?_, fun e => ?_⟩, fun d hd hm => ?_, fun hk => ?_⟩
      · have := (p1 d (k2.dm d hd)).1
        rw [h2.lk d hm] at this; cases this
      · have := (p1 d (k2.dm d hd)).2
        rw [h2.dm d e] at this; cases this
      · have := p2 d (h2.dm d hd)
        rw [k2.lk d hm] at this; cases this
      · simp only [hr, hx] at hk
        exact p3 hk
  put j o ho := by
    obtain ⟨r, hr⟩ := recAt_some (l := rs) (i := j) (by rw [hn]; exact (Array.getElem?_eq_some_iff.1 ho).1)
    obtain ⟨acc, h1, h2, h3, h4, h5⟩ := Good.get g hr
    have ha := h2.at_
    rw [h1, ho] at ha
    cases ha
    simp only [hr]
    rw [h3]
    exact h2.put
  still j hj hk := by
    obtain ⟨r, hr⟩ := recAt_some (l := rs) (i := j) (by omega)
    obtain ⟨acc, h1, h2, h3, h4, h5⟩ := Good.get g hr
    simp only [hr] at hk
    rw [h4]
    exact h2.still hk
  kind j o ho := by
    have hjn : j < rs.length := by rw [hn]; exact (Array.getElem?_eq_some_iff.1 ho).1
    obtain ⟨r, hr⟩ := recAt_some hjn
    obtain ⟨acc, h1, h2, h3, h4, h5⟩ := Good.get g hr
    have ha := h2.at_
    rw [h1, ho] at ha
    cases ha
    simp only [hr]
    rw [h3]
    rcases h2.kind with ⟨a, b, c⟩ | ⟨a, b, c, d⟩ | ⟨a, b, c⟩
    · exact .inl ⟨a, b, c⟩
    · refine .inr (.inl ⟨a, b, fun p hp hpb hf1 hf2 => ?_⟩)
      have fin : evP C r.t (MF rs m1 p).h r.o.op = some r.v := by
        cases hread : readsH r.o.op with
        | false => rw [evP_indep hread (h' := r.m.h)]; exact d
        | true =>
          have hchk := rdOK_ok hrd hr b hread
          have hpb' : p = 0 ∨ (0 < p ∧ ∃ r, recAt rs (p - 1) = some r ∧ r.k = 2) := by
            rcases hpb with h | ⟨h0, hk⟩
            · exact .inl h
            · obtain ⟨x, hx⟩ := recAt_some (l := rs) (i := p - 1) (by omega)
              simp only [hx] at hk
              exact .inr ⟨h0, x, hx, hk⟩
          obtain ⟨c', s', hm, hc, hs⟩ := bnd_mem g (by rw [hn]; exact hp) hpb'
          by_cases e : c' = r.c
          · -- the same memory
            have hcj : ∀ i, c'.testBit i = true ↔ i < j ∧ ∃ r, recAt rs i = some r ∧ r.k = 2 := by
              intro i
              have hrc : r.c = cOf acc := by rw [h2.c, if_neg (by omega)]
              -- the records below
              have gen : ∀ (l : List Rec) (t : T AV) (m : Mem), Good C call nt ops t0 m0 l t m → ∀ j r, recAt l j = some r → ∀ i, (if r.k = 2 then True else r.c.testBit i = true ↔ i < j ∧ ∃ r, recAt l i = some r ∧ r.k = 2) := by
                intro l
                induction l with
                | nil => intro t m g j r h; simp [recAt] at h
                | cons x l ih =>
                  intro t m g j r h i
                  simp only [recAt] at h
                  split at h
                  · rename_i ej
                    cases h
                    split
                    · trivial
                    · rename_i hk
                      rw [g.1.c, if_neg hk, Good.cspec g.2 i]
                      subst ej
                      constructor
                      · rintro ⟨y, hy, hy2⟩
                        have := recAt_lt hy
                        refine ⟨this, y, ?_, hy2⟩
                        simp only [recAt]; rw [if_neg (by omega)]; exact hy
                      · rintro ⟨hi, y, hy, hy2⟩
                        simp only [recAt] at hy
                        rw [if_neg (by omega)] at hy
                        exact ⟨y, hy, hy2⟩
                  · have hlt := recAt_lt h
                    have := ih _ _ g.2 j r h i
                    split at this
                    · rename_i hk; rw [if_pos hk]; trivial
                    · rename_i hk
                      rw [if_neg hk, this]
                      constructor
                      · rintro ⟨hi, y, hy, hy2⟩
                        refine ⟨hi, y, ?_, hy2⟩
                        simp only [recAt]; rw [if_neg (by omega)]; exact hy
                      · rintro ⟨hi, y, hy, hy2⟩
                        simp only [recAt] at hy
                        rw [if_neg (by omega)] at hy
                        exact ⟨hi, y, hy, hy2⟩
              have := gen rs t1 m1 g j r hr i
              rw [if_neg (by omega)] at this
              rw [e]; exact this
            -- no chain between
            have hsame : ∀ i, (i < p ∧ ∃ r, recAt rs i = some r ∧ r.k = 2) ↔ (i < j ∧ ∃ r, recAt rs i = some r ∧ r.k = 2) := fun i => by rw [← hc, hcj]
            have still : ∀ i, i < rs.length → (∀ r, recAt rs i = some r → r.k ≠ 2) → MF rs m1 (i + 1) = MF rs m1 i := by
              intro i hi hk
              obtain ⟨x, hx⟩ := recAt_some hi
              obtain ⟨acc', k1, k2, k3, k4, k5⟩ := Good.get g hx
              rw [k4]
              exact k2.still (hk x hx)
            have walk : ∀ (d a : Nat), a + d ≤ rs.length → (∀ i, a ≤ i → i < a + d → ∀ r, recAt rs i = some r → r.k ≠ 2) → MF rs m1 (a + d) = MF rs m1 a := by
              intro d
              induction d with
              | zero => intro a _ _; rfl
              | succ d ih =>
                intro a ha hk
                rw [show a + (d + 1) = a + d + 1 from rfl, still (a + d) (by omega) (hk (a + d) (by omega) (by omega))]
                exact ih a (by omega) fun i h1 h2 => hk i h1 (by omega)
            have : MF rs m1 p = MF rs m1 j := by
              rcases Nat.le_total p j with hle | hle
              · have := walk (j - p) p (by omega) fun i i1 i2 x hx hk => by
                  have := ((hsame i).2 ⟨by omega, x, hx, hk⟩).1
                  omega
                rw [show p + (j - p) = j by omega] at this
                exact this.symm
              · have := walk (p - j) j (by rw [hn] at *; omega) fun i i1 i2 x hx hk => by
                  have := ((hsame i).1 ⟨by omega, x, hx, hk⟩).1
                  omega
                rw [show j + (p - j) = p by omega] at this
                exact this
            rw [this, h4]
            exact d
          · refine rdAt_ok hchk hm e ?_ ?_
            · apply Nat.eq_of_testBit_eq
              intro i
              rw [land_bit, land_bit]
              cases hRi : r.R.testBit i with
              | false => rfl
              | true =>
                simp only [Bool.true_and]
                have e1 := Good.cspec g i
                have e2 := hc i
                cases hci : c'.testBit i with
                | true =>
                  rw [hci] at e2
                  rw [e1.2 (e2.1 rfl).2]
                | false =>
                  cases hcf : (cOf rs).testBit i with
                  | false => rfl
                  | true =>
                    exfalso
                    obtain ⟨x, hx, hxk⟩ := e1.1 hcf
                    have hlt := recAt_lt hx
                    have hip : i < p := hf1 i (by omega) (by simp only [hx]; exact hxk) ⟨r, rfl, hRi⟩
                    have := e2.2 ⟨hip, x, hx, hxk⟩
                    rw [hci] at this; cases this
            · have hb := h2.b
              rw [h1] at hb
              cases hz : Nat.beq (Nat.land s' r.b) 0 with
              | true => rfl
              | false =>
                exfalso
                rw [hb] at hz
                obtain ⟨q, x, hq, hx, hxk, hxR⟩ := hs j (land_pow hz)
                exact hf2 q hq (by simp only [hx]; exact hxk) ⟨x, hx, hxR⟩
      rw [evOp_def]
      simp only [c, fin]
    · refine .inr (.inr ⟨a, b, ?_⟩)
      rw [h4]; exact c
end

/-- A region in drawn order, in the walk's words. -/
def DrawAny (G : Nat → Nat) (w0 : World) (P : Program) (ro : Option Nat) (nt : Nat) (dr : Array Oper → T AV → Mem → Option (T AV × Mem)) : Prop := ∀ ops t m t' m', dr ops t m = some (t', m') →
  ∀ ρ a w D, RelT G ρ t nt a → a.defers = D → RelH G w0 ρ m.h m.n w → wpAnyIn (FW ro) 0 P .any ops (fun e a' w' => e = .normal ∧ ∃ ρ', RelT G ρ' t' nt a' ∧ a'.defers = D ∧ RelH G w0 ρ' m'.h m'.n w' ∧ Fr ρ m.h w ρ' m'.h w') ops.size (Array.replicate ops.size false) a { w with drawn := w.drawn + 1 }

theorem drawn_ok {C : Cx} {G : Nat → Nat} {w0 : World} (ok : C.Fine G w0) {call : CallF} (hc : CallsOK G w0 C.P call) {ro : Option Nat} {nt : Nat} (hnt : nt ≤ 1000000) : DrawAny G w0 C.P ro nt (drawn C call nt) := by
  intro ops t m t' m' h0 ρ a w D rt hd r
  have h : drawn C call nt ops t m = some (t', m') := h0
  clear h0
  rw [drawn_def] at h
  cases hr : runD C call nt ops.toList ops.toList 0 1 [] t m with
  | none => simp [hr] at h
  | some res =>
    obtain ⟨rs, t1, m1⟩ := res
    simp only [hr, fL_eq] at h
    obtain ⟨hrd, h⟩ := cond_some h
    simp only [Option.some.injEq, Prod.mk.injEq] at h
    obtain ⟨rfl, rfl⟩ := h
    obtain ⟨hg, hlen⟩ := runD_ok (t0 := t) (m0 := m) ops.toList (acc := []) rfl rfl rfl ⟨rfl, rfl⟩ hr
    simp at hlen
    have pl := plan_of hg hlen hrd
    refine pl.any ok hc hnt (ρ0 := ρ) (wb := w) (fun ρ' a' w' h1 h2 h3 h4 => ⟨rfl, ρ', h1, h2, h3, h4⟩) ops.size _ 0 ρ a _ (by simp [Array.toList_replicate]) ⟨by simp, ?_, .inl rfl, by omega, ?_, ?_, ?_, ?_, rt.size, hd⟩
    · intro j hj hl
      simp [hj] at hl
    · intro i hi hk
      simp [hi]
    · rw [pl.M0]; exact r.drew _
    · rw [pl.M0]; exact Fr.drew
    · intro s hs j hj hw v hv
      have hkeep := pl.Tconst hnt hs (p := 0) (q := j) hj (by omega) fun y oy h1 h2 hoy hdy => by
        have := (hw y oy hoy hdy).2 h2
        have hy : y < ops.size := (Array.getElem?_eq_some_iff.1 hoy).1
        simp [hy] at this
      rw [hkeep, pl.T0] at hv
      exact rt.get s v hs hv
end
end Go.Ev
set_option linter.unusedVariables false
set_option linter.unusedSimpArgs false
namespace Go.Ev
noncomputable section

/- ### Memory as a function: frames -/
abbrev Hp := Key → Option AObj

structure RelF (G : Nat → Nat) (w0 : World) (ρ : Env) (f : Hp) (n : Key) (w : World) : Prop where
  obj : ∀ p o, f p = some o → ∃ b κ x, ρ p = some (b, κ) ∧ w.heap[b]? = some x ∧ w0.heap.size ≤ b ∧ ObjOK G ρ κ o x
  inj : ∀ p q o o' b κ κ', f p = some o → f q = some o' → ρ p = some (b, κ) → ρ q = some (b, κ') → p = q
  fresh : ∀ p : Key, n.toNat ≤ p.toNat → ρ p = none
  low : ∀ k, k < w0.heap.size → w.heap[k]? = w0.heap[k]?
  os : w.os = w0.os
  tape : w.tape = w0.tape
  output : w.output = w0.output
  size : w0.heap.size ≤ w.heap.size

def OwnF (ρ : Env) (f : Hp) (b : Nat) : Prop := ∃ p o κ, f p = some o ∧ ρ p = some (b, κ)

structure FrF (ρ : Env) (f : Hp) (w : World) (ρ' : Env) (f' : Hp) (w' : World) : Prop where
  ext : ρ.le ρ'
  size : w.heap.size ≤ w'.heap.size
  keep : ∀ b, b < w.heap.size → ¬ OwnF ρ f b → w'.heap[b]? = w.heap[b]?
  own : ∀ b, OwnF ρ' f' b → OwnF ρ f b ∨ w.heap.size ≤ b

variable {G : Nat → Nat} {w0 : World}

theorem FrF.refl (ρ : Env) (f : Hp) (w : World) : FrF ρ f w ρ f w := ⟨Env.le_refl _, Nat.le_refl _, fun _ _ _ => rfl, fun _ h => .inl h⟩

theorem FrF.trans {ρ ρ1 ρ2 : Env} {h h1 h2 : Hp} {w w1 w2 : World} (a : FrF ρ h w ρ1 h1 w1) (b : FrF ρ1 h1 w1 ρ2 h2 w2) : FrF ρ h w ρ2 h2 w2 where
  ext := Env.le_trans a.ext b.ext
  size := Nat.le_trans a.size b.size
  keep k hk hn := by
    rw [b.keep k (Nat.lt_of_lt_of_le hk a.size) (fun ho => (a.own k ho).elim hn (fun h => by omega)), a.keep k hk hn]
  own k hk := (b.own k hk).elim (fun h => a.own k h) (fun h => .inr (Nat.le_trans a.size h))

theorem RelH.toF {ρ : Env} {h : T AObj} {n : Key} {w : World} (r : RelH G w0 ρ h n w) : RelF G w0 ρ (fun p => T.get p h) n w :=
  ⟨r.obj, r.inj, r.fresh, r.low, r.os, r.tape, r.output, r.size⟩

/-- What a part of memory says. -/
theorem RelF.part {ρ : Env} {f : Hp} {n : Key} {w : World} (r : RelF G w0 ρ f n w) {N : T AObj} (hs : ∀ p o, T.get p N = some o → f p = some o) : RelH G w0 ρ N n w :=
  ⟨fun p o h => r.obj p o (hs p o h), fun p q o o' b κ κ' h1 h2 => r.inj p q o o' b κ κ' (hs p o h1) (hs q o' h2), r.fresh, r.low, r.os, r.tape, r.output, r.size⟩

theorem RelF.congr {ρ : Env} {f f' : Hp} {n : Key} {w : World} (r : RelF G w0 ρ f n w) (h : ∀ p, f' p = f p) : RelF G w0 ρ f' n w := by
  rw [show f' = f from funext h]; exact r

/-- The effect of a piece of work that touched only a part. -/
def eff (D : Key → Prop) (X : Key → Option AObj) (f : Hp) : Hp := fun q => open Classical in if D q then X q else f q

theorem frame_step {ρ ρ' : Env} {f : Hp} {n n' : Key} {w w' : World} {N N' : T AObj} (r : RelF G w0 ρ f n w) (hs : ∀ p o, T.get p N = some o → f p = some o)
    (r' : RelH G w0 ρ' N' n' w') (fr : Fr ρ N w ρ' N' w') :
    RelF G w0 ρ' (eff (fun q => T.get q N ≠ none ∨ T.get q N' ≠ none) (fun q => T.get q N') f) n' w' ∧ FrF ρ f w ρ' (eff (fun q => T.get q N ≠ none ∨ T.get q N' ≠ none) (fun q => T.get q N') f) w' := by
  have hout : ∀ q o, ¬ (T.get q N ≠ none ∨ T.get q N' ≠ none) → f q = some o → ∃ b κ x, ρ q = some (b, κ) ∧ ρ' q = some (b, κ) ∧ w.heap[b]? = some x ∧ w'.heap[b]? = some x ∧ b < w.heap.size ∧ ¬ Own ρ N b ∧ w0.heap.size ≤ b ∧ ObjOK G ρ κ o x := by
    intro q o hq hf
    obtain ⟨b, κ, x, h1, h2, h3, h4⟩ := r.obj q o hf
    have hb : b < w.heap.size := (Array.getElem?_eq_some_iff.1 h2).1
    have hno : ¬ Own ρ N b := fun ⟨p, o', κ', e1, e2⟩ => by
      have : p = q := r.inj p q o' o b κ' κ (hs p o' e1) hf e2 h1
      subst this
      exact hq (.inl (by rw [e1]; simp))
    exact ⟨b, κ, x, h1, fr.ext q _ h1, h2, by rw [fr.keep b hb hno, h2], hb, hno, h3, h4⟩
  have hdisj : ∀ q o p o' b κ κ', ¬ (T.get q N ≠ none ∨ T.get q N' ≠ none) → f q = some o → T.get p N' = some o' → ρ' q = some (b, κ) → ρ' p = some (b, κ') → False := by
    intro q o p o' b κ κ' hq hf hp h1 h2
    obtain ⟨b1, κ1, x, e1, e2, e3, e4, e5, e6, e7, e8⟩ := hout q o hq hf
    rw [e2] at h1
    simp only [Option.some.injEq, Prod.mk.injEq] at h1
    obtain ⟨rfl, rfl⟩ := h1
    rcases fr.own b1 ⟨p, o', κ', hp, h2⟩ with h | h
    · exact e6 h
    · omega
  refine ⟨⟨?_, ?_, r'.fresh, r'.low, r'.os, r'.tape, r'.output, r'.size⟩, ⟨fr.ext, fr.size, ?_, ?_⟩⟩
  · intro q o hq
    unfold eff at hq
    split at hq
    · exact r'.obj q o hq
    · rename_i hd
      obtain ⟨b, κ, x, e1, e2, e3, e4, e5, e6, e7, e8⟩ := hout q o hd hq
      exact ⟨b, κ, x, e2, e4, e7, e8.mono fr.ext⟩
  · intro p q o o' b κ κ' hp hq h1 h2
    unfold eff at hp hq
    split at hp
    · split at hq
      · exact r'.inj p q o o' b κ κ' hp hq h1 h2
      · rename_i hd; exact (hdisj q o' p o b κ' κ hd hq hp h2 h1).elim
    · rename_i hd
      split at hq
      · exact (hdisj p o q o' b κ κ' hd hp hq h1 h2).elim
      · rename_i hd2
        obtain ⟨b1, κ1, x, e1, e2, _⟩ := hout p o hd hp
        obtain ⟨b2, κ2, x2, g1, g2, _⟩ := hout q o' hd2 hq
        rw [e2] at h1
        rw [g2] at h2
        simp only [Option.some.injEq, Prod.mk.injEq] at h1 h2
        obtain ⟨rfl, rfl⟩ := h1
        obtain ⟨rfl, rfl⟩ := h2
        exact r.inj p q o o' _ _ _ hp hq e1 g1
  · intro b hb hno
    refine fr.keep b hb fun ⟨p, o, κ, h1, h2⟩ => hno ⟨p, o, κ, hs p o h1, h2⟩
  · rintro b ⟨p, o, κ, h1, h2⟩
    unfold eff at h1
    split at h1
    · rcases fr.own b ⟨p, o, κ, h1, h2⟩ with ⟨p', o', κ', g1, g2⟩ | h
      · exact .inl ⟨p', o', κ', hs p' o' g1, g2⟩
      · exact .inr h
    · rename_i hd
      obtain ⟨b1, κ1, x, e1, e2, _⟩ := hout p o hd h1
      rw [e2] at h2
      simp only [Option.some.injEq, Prod.mk.injEq] at h2
      obtain ⟨rfl, rfl⟩ := h2
      exact .inl ⟨p, o, _, h1, e1⟩

/-- A new block under a name that was kept free. -/
theorem light_step {ρ : Env} {f : Hp} {n key : Key} {w w' : World} {o : AObj} {b κ : Nat} {x : Go.Obj} (r : RelF G w0 ρ f n w) (hk : ρ key = none) (hn : key.toNat < n.toNat)
    (hb : w.heap.size ≤ b) (hx : w'.heap[b]? = some x) (ho : ObjOK G ρ κ o x) (hlow : ∀ k, k < w.heap.size → w'.heap[k]? = w.heap[k]?) (hs : w.heap.size ≤ w'.heap.size)
    (h1 : w'.os = w.os) (h2 : w'.tape = w.tape) (h3 : w'.output = w.output) :
    RelF G w0 (ρ.add key (b, κ)) (eff (fun q => q = key) (fun _ => some o) f) n w' ∧ FrF ρ f w (ρ.add key (b, κ)) (eff (fun q => q = key) (fun _ => some o) f) w' := by
  have hle := Env.le_add (x := (b, κ)) hk
  have hold : ∀ q o', q ≠ key → f q = some o' → ∃ b' κ' x', ρ q = some (b', κ') ∧ (ρ.add key (b, κ)) q = some (b', κ') ∧ b' < w.heap.size ∧ w'.heap[b']? = some x' ∧ w0.heap.size ≤ b' ∧ ObjOK G ρ κ' o' x' := by
    intro q o' hq hf
    obtain ⟨b', κ', x', e1, e2, e3, e4⟩ := r.obj q o' hf
    have hlt : b' < w.heap.size := (Array.getElem?_eq_some_iff.1 e2).1
    exact ⟨b', κ', x', e1, hle _ _ e1, hlt, by rw [hlow b' hlt, e2], e3, e4⟩
  refine ⟨⟨?_, ?_, ?_, ?_, h1.trans r.os, h2.trans r.tape, h3.trans r.output, Nat.le_trans r.size hs⟩, ⟨hle, hs, fun k hk _ => hlow k hk, ?_⟩⟩
  · intro q o' hq
    unfold eff at hq
    split at hq
    · rename_i e
      subst e
      simp only [Option.some.injEq] at hq; subst hq
      exact ⟨b, κ, x, Env.add_self _ _ _, hx, Nat.le_trans r.size hb, ho.mono hle⟩
    · rename_i e
      obtain ⟨b', κ', x', e1, e2, e3, e4, e5, e6⟩ := hold q o' e hq
      exact ⟨b', κ', x', e2, e4, e5, e6.mono hle⟩
  · intro p q o1 o2 b1 κ1 κ2 hp hq g1 g2
    unfold eff at hp hq
    split at hp <;> split at hq
    · rename_i e1 e2; rw [e1, e2]
    · rename_i e1 e2
      obtain ⟨b', κ', x', k1, k2, k3, _⟩ := hold q o2 e2 hq
      rw [e1, Env.add_self] at g1
      rw [k2] at g2
      simp at g1 g2; omega
    · rename_i e1 e2
      obtain ⟨b', κ', x', k1, k2, k3, _⟩ := hold p o1 e1 hp
      rw [e2, Env.add_self] at g2
      rw [k2] at g1
      simp at g1 g2; omega
    · rename_i e1 e2
      simp only [Env.add, if_neg e1] at g1
      simp only [Env.add, if_neg e2] at g2
      exact r.inj p q o1 o2 b1 κ1 κ2 hp hq g1 g2
  · intro p hp
    have : p ≠ key := fun e => by subst e; omega
    simp only [Env.add, if_neg this]
    exact r.fresh p hp
  · intro k hk'
    rw [hlow k (Nat.lt_of_lt_of_le hk' r.size)]; exact r.low k hk'
  · rintro c ⟨q, o1, κ1, g1, g2⟩
    unfold eff at g1
    split at g1
    · rename_i e
      rw [e, Env.add_self] at g2
      simp at g2; right; omega
    · rename_i e
      simp only [Env.add, if_neg e] at g2
      exact .inl ⟨q, o1, κ1, g1, g2⟩
end
end Go.Ev
set_option linter.unusedVariables false
set_option linter.unusedSimpArgs false
namespace Go.Ev
noncomputable section

/- ### New blocks in no order -/
def DenO (G : Nat → Nat) (ρ : Env) (ob : AObj) : Prop := ∀ ρ' κ x, ρ.le ρ' → ObjOK G ρ' κ ob x → ObjOK G ρ κ ob x

theorem DenO.cells {G : Nat → Nat} {ρ : Env} {u : Option Nat} {e : TypeId} {fz : Nat} {l : List AV} {ys : List Value} (d : denL G ρ l = some ys) : DenO G ρ (.cells u e fz l) := by
  rintro ρ' κ x hle ⟨c, f, xs, h1, h2, h3, h4, h5⟩
  rw [denL_mono hle d] at h3
  simp only [Option.some.injEq] at h3; subst h3
  exact ⟨c, f, _, h1, h2, d, h4, h5⟩

theorem DenO.bytes {G : Nat → Nat} {ρ : Env} {u : Nat} {e : TypeId} {fz n b : Nat} : DenO G ρ (.bytes u e fz n b) := fun ρ' κ x hle h => h

theorem newA_eq (h : T AObj) (k : Key) (o : AObj) : newA ⟨h, k⟩ o = some (k, ⟨T.put k (some o) h, k.succ⟩) := by
  simp [newA, fKey_eq, T.putK_eq]

def isAlloc (op : Op) : Bool :=
  match op with
  | .alloc _ | .box .. | .makeSlice .. | .buildSlice .. | .convert .. => true
  | _ => false

theorem light_shape {C : Cx} {G : Nat → Nat} {w0 : World} (ok : C.Fine G w0) {ρ : Env} {t : T AV} {nt : Nat} {a : Act} (rt : RelT G ρ t nt a) {key : Key} {op : Op} {v : AV} {m : Mem} (ha : isAlloc op = true)
    (h : evE C t ⟨.leaf, key⟩ op = some (v, m)) :
    ∃ ob fv, (∀ k, evE C t ⟨.leaf, k⟩ op = some (fv k, ⟨T.put k (some ob) .leaf, k.succ⟩)) ∧ (fv = (fun k => .ptr k 0) ∨ (∃ a b, fv = fun k => .sl k 0 a b) ∨ (∃ a b, fv = fun k => .slu k 0 a b)) ∧ DenO G ρ ob := by
  cases op <;> simp only [isAlloc, Bool.false_eq_true] at ha
  case alloc e =>
    simp only [evE] at h
    obtain ⟨z, hz, h⟩ := bind_some h
    obtain ⟨zx, hzr, dz⟩ := zeroA_ok hz w0
    exact ⟨_, _, fun k => by simp only [evE, hz, Option.bind_some, boxA, newA_eq]; rfl, .inl rfl, DenO.cells (cellsOf'_ok (dz G ρ))⟩
  case box e x =>
    simp only [evE] at h
    obtain ⟨z, hz, h⟩ := bind_some h
    exact ⟨_, _, fun k => by simp only [evE, hz, Option.bind_some, boxA, newA_eq]; rfl, .inl rfl, DenO.cells (cellsOf'_ok (evO_ok ok.toOk rt hz))⟩
  case convert s d x =>
    simp only [evE] at h
    obtain ⟨z, hz, h⟩ := bind_some h
    unfold convBA at h
    cases hs : C.P.underlying s with
    | none => simp [hs] at h
    | some ds =>
      cases hd : C.P.underlying d with
      | none => simp [hs, hd] at h
      | some dd =>
        cases dd <;> cases z <;> simp only [hs, hd, reduceCtorEq] at h
        obtain ⟨h8, h⟩ := cond_some h
        exact ⟨_, _, fun k => by simp only [evE, hz, Option.bind_some, convBA, hs, hd, h8, cond_true, newA_eq]; rfl, .inr (.inr ⟨_, _, rfl⟩), DenO.bytes⟩
  case buildSlice ty len parts =>
    simp only [evE] at h
    obtain ⟨ps, hp, h⟩ := bind_some h
    have hq := evParts_ok ok.toOk rt hp
    unfold buildSliceA at h
    cases hu : C.P.underlying ty with
    | none => simp [hu] at h
    | some d =>
      cases d <;> simp only [hu, reduceCtorEq] at h
      rename_i e
      obtain ⟨s, hs, h⟩ := bind_some h
      obtain ⟨z, hz, h⟩ := bind_some h
      obtain ⟨hc, h⟩ := cond_some h
      obtain ⟨l, hf, h⟩ := bind_some h
      obtain ⟨⟨p, m1⟩, hr, h⟩ := bind_some h
      obtain ⟨zx, hzr, dz⟩ := zeroA_ok hz w0
      have dc := cellsOf'_ok (dz G ρ)
      obtain ⟨ys, e1, e2⟩ := fill_ok hq (denL_zrow dc len) hf
      unfold rowA at hr
      cases h8 : isU8 C.P e with
      | true =>
        simp only [h8, cond_true] at hr
        obtain ⟨b, hb, hr⟩ := bind_some hr
        exact ⟨_, _, fun k => by simp only [evE, hp, Option.bind_some, buildSliceA, hu, hs, hz, hc, cond_true, hf, rowA, h8, hb, fN_eq, newA_eq]; rfl, .inr (.inl ⟨_, _, rfl⟩), DenO.bytes⟩
      | false =>
        exact ⟨_, _, fun k => by simp only [evE, hp, Option.bind_some, buildSliceA, hu, hs, hz, hc, cond_true, hf, rowA, h8, cond_false, newA_eq]; rfl, .inr (.inl ⟨_, _, rfl⟩), DenO.cells e2⟩
  case makeSlice ty x y =>
    simp only [evE] at h
    obtain ⟨vl, hvl, h⟩ := bind_some h
    obtain ⟨vc, hvc, h⟩ := bind_some h
    unfold makeSliceA at h
    cases hu : C.P.underlying ty with
    | none => simp [hu] at h
    | some d =>
      cases d <;> simp only [hu, reduceCtorEq] at h
      rename_i e
      obtain ⟨l, hl, h⟩ := bind_some h
      obtain ⟨c, hc, h⟩ := bind_some h
      cases hi : C.P.info? e with
      | none => simp [hi] at h
      | some i =>
        simp only [hi] at h
        obtain ⟨z, hz, h⟩ := bind_some h
        obtain ⟨hb, h⟩ := cond_some h
        obtain ⟨zx, hzr, dz⟩ := zeroA_ok hz w0
        have dc := cellsOf'_ok (dz G ρ)
        cases h8 : isU8 C.P e with
        | true =>
          simp only [h8, cond_true] at h
          split at h
          · exact ⟨_, _, fun k => by simp only [evE, hvl, hvc, Option.bind_some, makeSliceA, hu, hl, hc, hi, hz, hb, cond_true, h8, newA_eq]; rfl, .inr (.inl ⟨_, _, rfl⟩), DenO.bytes⟩
          · cases h
        | false =>
          simp only [h8, cond_false, fL_eq] at h
          exact ⟨_, _, fun k => by simp only [evE, hvl, hvc, Option.bind_some, makeSliceA, hu, hl, hc, hi, hz, hb, cond_true, h8, cond_false, fL_eq, newA_eq]; rfl, .inr (.inl ⟨_, _, rfl⟩), DenO.cells (denL_zrow dc c)⟩

def lightA (C : Cx) (t : T AV) (op : Op) (key : Key) : Option (AV × AObj) :=
  bif isAlloc op then (match evP C t .leaf op with
    | none => (match evE C t ⟨.leaf, key⟩ op with
      | some (v, m) => match T.get key m.h with
        | some o => some (v, o)
        | none => none
      | none => none)
    | some _ => none) else none

theorem light_ok {C : Cx} {G : Nat → Nat} {w0 : World} (ok : C.Fine G w0) {ρ : Env} {t : T AV} {nt : Nat} {a : Act} (rt : RelT G ρ t nt a) {f : Hp} {n key : Key} {w : World} (r : RelF G w0 ρ f n w)
    {o : Oper} {v : AV} {ob : AObj} (h : lightA C t o.op key = some (v, ob)) (hk : ρ key = none) (hn : key.toNat < n.toNat) :
    ∃ b κ w' nx x, (execOp a.eval o).run C.P w = .ok nx w' ∧ (nx = .value x ∨ (nx = .skip ∧ x = undef)) ∧ den G (ρ.add key (b, κ)) v = some x ∧
      RelF G w0 (ρ.add key (b, κ)) (eff (fun q => q = key) (fun _ => some ob) f) n w' ∧ FrF ρ f w (ρ.add key (b, κ)) (eff (fun q => q = key) (fun _ => some ob) f) w' := by
  unfold lightA at h
  obtain ⟨ha, h⟩ := cond_some h
  split at h
  · split at h
    · rename_i v0 m0 he
      cases hg : T.get key m0.h with
      | none => simp [hg] at h
      | some o0 =>
        simp only [hg, Option.some.injEq, Prod.mk.injEq] at h
        obtain ⟨rfl, rfl⟩ := h
        obtain ⟨ob, fv, h1, h2, h3⟩ := light_shape ok rt ha he
        rw [h1] at he
        simp only [Option.some.injEq, Prod.mk.injEq] at he
        obtain ⟨rfl, rfl⟩ := he
        simp only [T.get_put_same, Option.some.injEq] at hg
        subst hg
        -- the same, in a world of its own
        have okw : C.Ok G w := ⟨ok.glob, fun g off v hv => by
          obtain ⟨x, e1, e2, e3⟩ := ok.cell g off v hv
          refine ⟨x, e1, ?_, Nat.lt_of_lt_of_le e3 r.size⟩
          rw [← e2]
          unfold World.cell?
          rw [r.low _ e3]⟩
        have rw_ : RelH G w ρ .leaf n w := ⟨fun p o h => by simp [T.get_leaf] at h, fun p q o o' b κ κ' h => by simp [T.get_leaf] at h, r.fresh, fun _ _ => rfl, rfl, rfl, rfl, Nat.le_refl _⟩
        obtain ⟨ρ', w', nx, x, k1, k2, k3, k4, k5⟩ := evE_ok (m := ⟨.leaf, n⟩) okw rt rw_ (h1 n)
        obtain ⟨b, κ, X, g1, g2, g3, g4⟩ := k4.obj n ob (by simp [T.get_put_same])
        have hstep := light_step (key := key) r hk hn g3 g2 (h3 ρ' κ X k5.ext g4) k4.low k4.size k4.os k4.tape k4.output
        refine ⟨b, κ, w', nx, x, k1, k2, ?_, hstep.1, hstep.2⟩
        rcases h2 with rfl | ⟨c, d, rfl⟩ | ⟨c, d, rfl⟩
        · simp only [den, g1, Env.add_self] at k3 ⊢; exact k3
        · simp only [den, g1, Env.add_self] at k3 ⊢; exact k3
        · simp only [den, g1, Env.add_self] at k3 ⊢; exact k3
    · cases h
  · cases h
end
end Go.Ev
set_option linter.unusedVariables false
set_option linter.unusedSimpArgs false
namespace Go.Ev
noncomputable section

/- ### A region in drawn order, with new blocks in no order -/
structure PlanL (C : Cx) (call : CallF) (nt : Nat) (ops : Array Oper) (t0 : T AV) (f0 : Hp) (n0 : Key) (top : Key) (lo : Nat) (t1 : T AV) (f1 : Hp) (n1 : Key) where
  Tf : Nat → T AV
  F : Nat → Hp
  Nn : Nat → Key
  R : Nat → Nat → Prop
  K : Nat → Nat
  V : Nat → AV
  D : Nat → Key → Prop
  X : Nat → Key → Option AObj
  N : Nat → T AObj
  N' : Nat → T AObj
  key : Nat → Key
  T0 : Tf 0 = t0
  F0 : F 0 = f0
  N0 : Nn 0 = n0
  Tn : Tf ops.size = t1
  Fn : F ops.size = f1
  Nnn : Nn ops.size = n1
  lotop : lo ≤ top.toNat
  back : ∀ j o, ops[j]? = some o → ∀ e ∈ o.after, Region.binds .any e = true → e.on < j
  reach : ∀ j o i, ops[j]? = some o → R j i → ∃ e ∈ o.after, Region.binds .any e = true ∧ (i = e.on ∨ R e.on i)
  look1 : ∀ i j oi oj, i < j → ops[i]? = some oi → ops[j]? = some oj → R j i ∨ ((∀ d, oi.dst = some d → d ∉ looks ops.toList oj ∧ oj.dst ≠ some d) ∧ (∀ d, oj.dst = some d → d ∉ looks ops.toList oi) ∧ ¬ (K i = 2 ∧ K j = 2) ∧ (2 ≤ K i → 2 ≤ K j → ∀ q, D i q → D j q → False))
  keys : ∀ i j, i < j → j < ops.size → K i = 4 → K j = 4 → key i ≠ key j
  keyn : ∀ j, K j = 4 → (key j).toNat < top.toNat ∧ lo ≤ (key j).toNat
  put : ∀ j o, ops[j]? = some o → putT nt (Tf j) o.dst (V j) = some (Tf (j + 1))
  heap : ∀ j, j < ops.size → ∀ q, F (j + 1) q = open Classical in if 2 ≤ K j ∧ D j q then X j q else F j q
  cnt : ∀ j, j < ops.size → K j ≠ 2 → Nn (j + 1) = Nn j
  kind : ∀ j o, ops[j]? = some o →
    (wantA ops.toList (Tf j) o.guard = some false ∧ V j = .tup [] ∧ K j = 0) ∨
    (wantA ops.toList (Tf j) o.guard = some true ∧ K j = 1 ∧ ∀ p, p ≤ ops.size → (p = 0 ∨ (0 < p ∧ K (p - 1) = 2)) → (∀ i, i < ops.size → K i = 2 → R j i → i < p) → (∀ i, i < p → K i = 2 → ¬ R i j) →
      ∃ N : T AObj, (∀ q o, T.get q N = some o → (F p q = some o ∧ ∀ i, i < ops.size → 3 ≤ K i → D i q → R j i ∧ i < p) ∨ (F ops.size q = some o ∧ ∀ i, i < ops.size → 2 ≤ K i → D i q → R j i)) ∧ ∀ n, evOp C call (Tf j) ⟨N, n⟩ o.op = some (V j, ⟨N, n⟩)) ∨
    (wantA ops.toList (Tf j) o.guard = some true ∧ (K j = 2 ∨ K j = 3) ∧ (∀ q o, T.get q (N j) = some o → F j q = some o) ∧ (∀ q, D j q ↔ (T.get q (N j) ≠ none ∨ T.get q (N' j) ≠ none)) ∧ (∀ q, X j q = T.get q (N' j)) ∧
      (K j = 2 → evOp C call (Tf j) ⟨N j, Nn j⟩ o.op = some (V j, ⟨N' j, Nn (j + 1)⟩)) ∧ (K j = 3 → ∀ n, evOp C call (Tf j) ⟨N j, n⟩ o.op = some (V j, ⟨N' j, n⟩))) ∨
    (wantA ops.toList (Tf j) o.guard = some true ∧ K j = 4 ∧ (∀ q, D j q ↔ q = key j) ∧ ∃ ob, (∀ q, X j q = some ob) ∧ lightA C (Tf j) o.op (key j) = some (V j, ob))

section
variable {C : Cx} {G : Nat → Nat} {w0 : World} {call : CallF} {nt : Nat} {ops : Array Oper} {t0 t1 : T AV} {f0 f1 : Hp} {n0 n1 top : Key} {lo : Nat}

open Classical in
def Hf (pl : PlanL C call nt ops t0 f0 n0 top lo t1 f1 n1) (L : Nat → Bool) : Nat → Hp
  | 0 => pl.F 0
  | j + 1 => fun q => if L j = true ∧ 2 ≤ pl.K j ∧ pl.D j q then pl.X j q else Hf pl L j q

open Classical in
theorem Hf_succ (pl : PlanL C call nt ops t0 f0 n0 top lo t1 f1 n1) (L : Nat → Bool) (j : Nat) (q : Key) : Hf pl L (j + 1) q = if L j = true ∧ 2 ≤ pl.K j ∧ pl.D j q then pl.X j q else Hf pl L j q := rfl

theorem Hf_all (pl : PlanL C call nt ops t0 f0 n0 top lo t1 f1 n1) {L : Nat → Bool} : ∀ {j : Nat}, j ≤ ops.size → (∀ i, i < j → L i = true) → ∀ q, Hf pl L j q = pl.F j q
  | 0, hj, h, q => rfl
  | j + 1, hj, h, q => by
    rw [Hf_succ]
    rw [pl.heap j (by omega), Hf_all pl (by omega) fun i hi => h i (by omega)]
    by_cases c : 2 ≤ pl.K j ∧ pl.D j q
    · rw [if_pos ⟨h j (by omega), c⟩, if_pos c]
    · rw [if_neg fun c' => c c'.2, if_neg c]

theorem Hf_none (pl : PlanL C call nt ops t0 f0 n0 top lo t1 f1 n1) {L : Nat → Bool} : ∀ {j : Nat}, (∀ i, i < j → L i = false) → ∀ q, Hf pl L j q = pl.F 0 q
  | 0, h, q => rfl
  | j + 1, h, q => by
    rw [Hf_succ]
    rw [h j (by omega), if_neg (by simp), Hf_none pl (j := j) fun i hi => h i (by omega)]

theorem Hf_congr (pl : PlanL C call nt ops t0 f0 n0 top lo t1 f1 n1) {L L' : Nat → Bool} : ∀ {j : Nat}, (∀ i, i < j → L i = L' i) → ∀ q, Hf pl L j q = Hf pl L' j q
  | 0, h, q => rfl
  | j + 1, h, q => by
    rw [Hf_succ]
    rw [Hf_succ, h j (by omega), Hf_congr pl (j := j) fun i hi => h i (by omega)]

/-- One more. -/
theorem Hf_add (pl : PlanL C call nt ops t0 f0 n0 top lo t1 f1 n1) {L L' : Nat → Bool} {j : Nat} (hL : L j = false) (hL' : ∀ i, L' i = true ↔ i = j ∨ L i = true) {q : Key} :
    ∀ (d : Nat), (∀ i, j < i → i < j + 1 + d → L i = true → 2 ≤ pl.K i → 2 ≤ pl.K j → pl.D j q → pl.D i q → False) → Hf pl L' (j + 1 + d) q = open Classical in if 2 ≤ pl.K j ∧ pl.D j q then pl.X j q else Hf pl L (j + 1 + d) q
  | 0, h => by
    have hj : L' j = true := (hL' j).2 (.inl rfl)
    have hc : ∀ q, Hf pl L' j q = Hf pl L j q := Hf_congr pl fun i hi => by
      have := hL' i
      cases h1 : L' i <;> cases h2 : L i
      · rfl
      · rw [h1, h2] at this; simp at this
      · rw [h1, h2] at this; simp at this; omega
      · rfl
    rw [Nat.add_zero, Hf_succ, Hf_succ, hj, hL, hc]
    by_cases c : 2 ≤ pl.K j ∧ pl.D j q
    · rw [if_pos ⟨rfl, c⟩, if_pos c]
    · rw [if_neg fun c' => c c'.2, if_neg c, if_neg (fun c' => (by cases c'.1))]
  | d + 1, h => by
    have ih := Hf_add pl hL hL' (q := q) d fun i h1 h2 => h i h1 (by omega)
    have e : L' (j + 1 + d) = L (j + 1 + d) := by
      have := hL' (j + 1 + d)
      cases h1 : L' (j + 1 + d) <;> cases h2 : L (j + 1 + d)
      · rfl
      · rw [h1, h2] at this; simp at this
      · rw [h1, h2] at this; simp at this; omega
      · rfl
    show Hf pl L' (j + 1 + d + 1) q = _
    rw [show j + 1 + (d + 1) = j + 1 + d + 1 from rfl, Hf_succ, Hf_succ, e, ih]
    by_cases c : L (j + 1 + d) = true ∧ 2 ≤ pl.K (j + 1 + d) ∧ pl.D (j + 1 + d) q
    · rw [if_pos c, if_pos c, if_neg]
      rintro ⟨h1, h2⟩
      exact h (j + 1 + d) (by omega) (by omega) c.1 c.2.1 h1 h2 c.2.2
    · rw [if_neg c, if_neg c]

/-- Where nobody unlike touched, memory stands as in the order of the text. -/
theorem Hf_same (pl : PlanL C call nt ops t0 f0 n0 top lo t1 f1 n1) {L : Nat → Bool} {j : Nat} (hj : j ≤ ops.size) {q : Key} (h1 : ∀ i, i < j → L i = false → 2 ≤ pl.K i → ¬ pl.D i q) :
    ∀ (d : Nat), (∀ i, j ≤ i → i < j + d → L i = true → 2 ≤ pl.K i → ¬ pl.D i q) → Hf pl L (j + d) q = pl.F j q
  | 0, h2 => by
    have gen : ∀ m, m ≤ j → Hf pl L m q = pl.F m q := by
      intro m
      induction m with
      | zero => intro _; rfl
      | succ m ih =>
        intro hm
        rw [Hf_succ]
        rw [pl.heap m (by omega), ih (by omega)]
        cases hl : L m with
        | true =>
          by_cases c : 2 ≤ pl.K m ∧ pl.D m q
          · rw [if_pos ⟨rfl, c⟩, if_pos c]
          · rw [if_neg fun c' => c c'.2, if_neg c]
        | false =>
          rw [if_neg (fun c' => (by cases c'.1))]
          by_cases c : 2 ≤ pl.K m ∧ pl.D m q
          · exact (h1 m (by omega) hl c.1 c.2).elim
          · rw [if_neg c]
    exact gen j (Nat.le_refl _)
  | d + 1, h2 => by
    have ih := Hf_same pl hj h1 d fun i k1 k2 => h2 i k1 (by omega)
    show Hf pl L (j + d + 1) q = _
    rw [Hf_succ]
    rw [if_neg, ih]
    rintro ⟨k1, k2, k3⟩
    exact h2 (j + d) (by omega) (by omega) k1 k2 k3

structure InvL (pl : PlanL C call nt ops t0 f0 n0 top lo t1 f1 n1) (G : Nat → Nat) (w0 : World) (D : List Deferred) (ρ0 : Env) (wb : World) (listed : Array Bool) (p : Nat) (ρ : Env) (a : Act) (w : World) : Prop where
  size : listed.size = ops.size
  closed : ∀ j, j < ops.size → listed.getD j false = true → ∀ i, pl.R j i → listed.getD i false = true
  edge : p = 0 ∨ (0 < p ∧ pl.K (p - 1) = 2)
  le : p ≤ ops.size
  chain : ∀ i, i < ops.size → pl.K i = 2 → (listed.getD i false = true ↔ i < p)
  rh : RelF G w0 ρ (Hf pl (fun i => listed.getD i false) ops.size) (pl.Nn p) w
  fr : FrF ρ0 f0 wb ρ (Hf pl (fun i => listed.getD i false) ops.size) w
  news : ∀ q, ρ0 q = none → ρ q ≠ none → lo ≤ q.toNat
  topa : ρ top ≠ none
  free : ∀ i, i < ops.size → pl.K i = 4 → listed.getD i false = false → ρ (pl.key i) = none
  tmps : ∀ s, s < 1000000 → ∀ j, j ≤ ops.size → (∀ i o, ops[i]? = some o → o.dst = some s → (listed.getD i false = true ↔ i < j)) → ∀ v, T.get (Key.slot s) (pl.Tf j) = some v → den G ρ v = some (a.tmps.getD s undef)
  room : nt ≤ a.tmps.size
  defers : a.defers = D

theorem PlanL.Nconst (pl : PlanL C call nt ops t0 f0 n0 top lo t1 f1 n1) {p : Nat} : ∀ {q : Nat}, q ≤ ops.size → p ≤ q → (∀ i, p ≤ i → i < q → pl.K i ≠ 2) → pl.Nn p = pl.Nn q
  | 0, _, hp, _ => by
    have h0 : p = 0 := by omega
    rw [h0]
  | q + 1, hq, hp, h => by
    by_cases c : p = q + 1
    · rw [c]
    · rw [pl.cnt q (by omega) (h q (by omega) (by omega))]
      exact PlanL.Nconst pl (by omega) (by omega) fun i h1 h2 => h i h1 (by omega)

theorem PlanL.Tconst (pl : PlanL C call nt ops t0 f0 n0 top lo t1 f1 n1) (hnt : nt ≤ 1000000) {s : Nat} (hs : s < 1000000) {p : Nat} : ∀ {q : Nat}, q ≤ ops.size → p ≤ q → (∀ i o, p ≤ i → i < q → ops[i]? = some o → o.dst ≠ some s) → T.get (Key.slot s) (pl.Tf q) = T.get (Key.slot s) (pl.Tf p)
  | 0, _, hp, _ => by
    have h0 : p = 0 := by omega
    rw [h0]
  | q + 1, hq, hp, h => by
    by_cases c : p = q + 1
    · rw [c]
    · rw [← PlanL.Tconst pl hnt hs (q := q) (by omega) (by omega) fun i o h1 h2 => h i o h1 (by omega)]
      have hlt : q < ops.size := by omega
      have ho : ops[q]? = some ops[q] := by simp [hlt]
      have hput := pl.put q _ ho
      have hne := h q _ (by omega) (by omega) ho
      cases hd : ops[q].dst with
      | none => rw [hd] at hput; simp only [putT, Option.some.injEq] at hput; rw [hput]
      | some d =>
        rw [hd] at hput hne
        simp only [putT] at hput
        obtain ⟨hk, hput⟩ := cond_some hput
        rw [nblt, decide_eq_true_iff] at hk
        simp only [T.putK_eq, Option.some.injEq] at hput
        rw [← hput, T.get_put, if_neg]
        intro e
        exact hne (by rw [Key.slot_inj hs (by omega) e])

theorem PlanL.Tput (pl : PlanL C call nt ops t0 f0 n0 top lo t1 f1 n1) (hnt : nt ≤ 1000000) {j s : Nat} {o : Oper} (ho : ops[j]? = some o) (hd : o.dst = some s) : s < nt ∧ T.get (Key.slot s) (pl.Tf (j + 1)) = some (pl.V j) := by
  have hput := pl.put j o ho
  rw [hd] at hput
  simp only [putT] at hput
  obtain ⟨hk, hput⟩ := cond_some hput
  rw [nblt, decide_eq_true_iff] at hk
  simp only [T.putK_eq, Option.some.injEq] at hput
  exact ⟨hk, by rw [← hput, T.get_put, if_pos rfl]⟩

theorem light_nd {C : Cx} {t : T AV} {op : Op} {key : Key} {r : AV × AObj} (h : lightA C t op key = some r) : ∀ c, op ≠ .defer c := fun c hc => by
  subst hc
  simp [lightA, isAlloc] at h

theorem light_wp {P : Program} {o : Oper} {a : Act} {w w' : World} {nx : Next} {x : Value} {ro : Option Nat} {next : Act → World → Prop} {Q : Exit → Act → World → Prop} (hd : ∀ c, o.op ≠ .defer c) (h1 : (execOp a.eval o).run P w = .ok nx w') (h2 : nx = .value x ∨ (nx = .skip ∧ x = undef)) (k : next (a.put o.dst x) w') : o.wpIn (FW ro) 0 P a w next Q := by
  refine ⟨fun _ _ => trivial, ?_⟩
  rw [Oper.semAt_eq _ _ _ hd, h1]
  rcases h2 with rfl | ⟨rfl, rfl⟩
  · exact k
  · exact k
theorem PlanL.any (pl : PlanL C call nt ops t0 f0 n0 top lo t1 f1 n1) (ok : C.Fine G w0) (hc : CallsOK G w0 C.P call) (hnt : nt ≤ 1000000) {ro : Option Nat} {D : List Deferred} {Q : Exit → Act → World → Prop} {ρ0 : Env} {wb : World}
    (k : ∀ ρ' a' w', RelT G ρ' t1 nt a' → a'.defers = D → RelF G w0 ρ' f1 n1 w' → FrF ρ0 f0 wb ρ' f1 w' → (∀ q, ρ0 q = none → ρ' q ≠ none → lo ≤ q.toNat) → Q .normal a' w') :
    ∀ (fuel : Nat) (listed : Array Bool) (p : Nat) (ρ : Env) (a : Act) (w : World), listed.toList.count false = fuel → InvL pl G w0 D ρ0 wb listed p ρ a w → wpAnyIn (FW ro) 0 C.P .any ops Q fuel listed a w := by
  have fin : ∀ (listed : Array Bool) (p : Nat) (ρ : Env) (a : Act) (w : World), InvL pl G w0 D ρ0 wb listed p ρ a w → Region.ready .any ops listed = [] → (∀ i, i < ops.size → listed.getD i false = true) ∧ Q .normal a w := by
    intro listed p ρ a w I hr
    have all : ∀ i, i < ops.size → listed.getD i false = true := by
      intro i
      induction i using Nat.strongRecOn with
      | ind i ih =>
        intro hi
        cases hb : listed.getD i false with
        | true => rfl
        | false =>
          exfalso
          have hmem : i ∈ Region.ready .any ops listed := by
            rw [mem_ready]
            refine ⟨?_, ops[i], by simp [hi], fun e he hbi => ?_⟩
            · have hlt : i < listed.size := by rw [I.size]; exact hi
              simpa [hlt] using hb
            · have := pl.back i ops[i] (by simp [hi]) e he hbi
              exact ih e.on this (by omega)
          rw [hr] at hmem
          cases hmem
    refine ⟨all, ?_⟩
    have hn : pl.Nn p = n1 := by
      refine Eq.trans (pl.Nconst (Nat.le_refl _) I.le fun i h1 h2 h3 => ?_) pl.Nnn
      have := (I.chain i h2 h3).1 (all i h2)
      omega
    have hF : Hf pl (fun i => listed.getD i false) ops.size = f1 := by
      exact Eq.trans (funext fun q => Hf_all pl (Nat.le_refl _) all q) pl.Fn
    have hrh := I.rh
    have hfr := I.fr
    rw [hn, hF] at hrh
    rw [hF] at hfr
    refine k ρ a w ⟨fun s v hs hv => ?_, I.room⟩ I.defers hrh hfr I.news
    refine I.tmps s hs ops.size (Nat.le_refl _) (fun i o ho hd => ?_) v (by rw [pl.Tn]; exact hv)
    have hlt : i < ops.size := (Array.getElem?_eq_some_iff.1 ho).1
    exact ⟨fun _ => hlt, fun _ => all i hlt⟩
  intro fuel
  induction fuel with
  | zero =>
    intro listed p ρ a w hcnt I
    have hr : Region.ready .any ops listed = [] := by
      cases h : Region.ready .any ops listed with
      | nil => rfl
      | cons x xs =>
        exfalso
        have hm : x ∈ Region.ready .any ops listed := by rw [h]; simp
        rw [mem_ready] at hm
        obtain ⟨hf, o, ho, _⟩ := hm
        have hlt : x < ops.size := (Array.getElem?_eq_some_iff.1 ho).1
        have hlt' : x < listed.size := by rw [I.size]; exact hlt
        have hf' : listed[x] = false := by simpa [hlt'] using hf
        have hmem : false ∈ listed.toList := by
          rw [← hf']; simp
        have : 0 < listed.toList.count false := List.count_pos_iff.2 hmem
        omega
    exact ⟨hr, (fin listed p ρ a w I hr).2⟩
  | succ fuel ih =>
    intro listed p ρ a w hcnt I
    refine ⟨fun hr => (fin listed p ρ a w I hr).2, fun i hi => ?_⟩
    rw [mem_ready] at hi
    obtain ⟨hf, o, ho, hpre⟩ := hi
    have hlt : i < ops.size := (Array.getElem?_eq_some_iff.1 ho).1
    have hlt' : i < listed.size := by rw [I.size]; exact hlt
    have hnot : listed.getD i false = false := by simpa [hlt'] using hf
    have hreach : ∀ x, pl.R i x → listed.getD x false = true := by
      intro x hx
      obtain ⟨e, he, hb, h⟩ := pl.reach i o x ho hx
      rcases h with rfl | h
      · exact hpre e he hb
      · exact I.closed e.on (by have := pl.back i o ho e he hb; omega) (hpre e he hb) x h
    have hunreach : ∀ y, y < ops.size → listed.getD y false = true → ¬ pl.R y i := by
      intro y hy hl hr
      have := I.closed y hy hl i hr
      rw [hnot] at this; cases this
    have hcnt' : (listed.setIfInBounds i true).toList.count false = fuel := by
      have h1 : listed.toList[i]? = some false := by
        rw [Array.getElem?_toList, Array.getElem?_eq_getElem hlt']
        congr 1
        simpa [hlt'] using hf
      have := count_set h1
      rw [Array.toList_setIfInBounds]
      omega
    have closed' : ∀ j, j < ops.size → (listed.setIfInBounds i true).getD j false = true → ∀ x, pl.R j x → (listed.setIfInBounds i true).getD x false = true := by
      intro j hj hl x hx
      rw [getD_set hlt'] at hl ⊢
      rcases hl with rfl | hl
      · exact .inr (hreach x hx)
      · exact .inr (I.closed j hj hl x hx)
    have hlook : ∀ s, s < 1000000 → s ∈ looks ops.toList o → ∀ v, T.get (Key.slot s) (pl.Tf i) = some v → den G ρ v = some (a.tmps.getD s undef) := by
      intro s hs hm
      refine I.tmps s hs i (by omega) fun x ox hox hdx => ?_
      have hx : x < ops.size := (Array.getElem?_eq_some_iff.1 hox).1
      rcases Nat.lt_trichotomy x i with h | rfl | h
      · refine ⟨fun _ => h, fun _ => ?_⟩
        rcases pl.look1 x i ox o h hox ho with hr | ⟨h1, _⟩
        · exact hreach x hr
        · exact absurd hm (h1 s hdx).1
      · exact ⟨fun h => (by rw [hnot] at h; cases h), fun h => absurd h (Nat.lt_irrefl _)⟩
      · refine ⟨fun hl => ?_, fun h' => by omega⟩
        exfalso
        rcases pl.look1 i x o ox h ho hox with hr | ⟨_, h2, _⟩
        · exact hunreach x hx hl hr
        · exact h2 s hdx hm
    have rt : RelT G ρ (restr (pl.Tf i) (looks ops.toList o)) nt a := ⟨fun s v hs hv => by
      obtain ⟨h1, h2⟩ := restr_get hs hv
      exact hlook s hs h1 v h2, I.room⟩
    have hag : Agree (restr (pl.Tf i) (looks ops.toList o)) (pl.Tf i) (looks ops.toList o) := restr_agree
    have hag1 := hag.sub (m := gT ops.toList o.guard) (by intro s hs; simp [looks, hs])
    have hag2 := hag.sub (m := tmpsOf o.op.operands.toList) (by intro s hs; simp [looks, hs])
    have tmps' : ∀ {ρ' : Env} {x : Value}, ρ.le ρ' → den G ρ' (pl.V i) = some x → ∀ s, s < 1000000 → ∀ j, j ≤ ops.size → (∀ y oy, ops[y]? = some oy → oy.dst = some s → ((listed.setIfInBounds i true).getD y false = true ↔ y < j)) → ∀ v, T.get (Key.slot s) (pl.Tf j) = some v → den G ρ' v = some ((a.put o.dst x).tmps.getD s undef) := by
      intro ρ' x hle dx s hs j hj hw v hv
      by_cases hd : o.dst = some s
      · have hij : i < j := (hw i o ho hd).1 (by rw [getD_set hlt']; exact .inl rfl)
        obtain ⟨hs', hput⟩ := pl.Tput hnt ho hd
        have hkeep := pl.Tconst hnt hs (p := i + 1) (q := j) hj (by omega) fun y oy h1 h2 hoy hdy => by
          have hl := (hw y oy hoy hdy).2 h2
          rw [getD_set hlt'] at hl
          have hy : y < ops.size := (Array.getElem?_eq_some_iff.1 hoy).1
          rcases hl with rfl | hl
          · omega
          · rcases pl.look1 i y o oy (by omega) ho hoy with hr | ⟨h3, _⟩
            · exact hunreach y hy hl hr
            · exact (h3 s hd).2 hdy
        rw [hkeep, hput] at hv
        simp only [Option.some.injEq] at hv; subst hv
        rw [dx, hd]
        have hroom := I.room
        simp [Act.put, Nat.lt_of_lt_of_le hs' hroom]
      · have e1 := I.tmps s hs j hj (fun y oy hoy hdy => by
          rw [← hw y oy hoy hdy, getD_set hlt']
          refine ⟨.inr, fun hh => hh.elim (fun hy => ?_) id⟩
          subst hy
          rw [ho] at hoy
          cases hoy
          exact absurd hdy hd) v hv
        rw [den_mono hle e1]
        cases hdd : o.dst with
        | none => rfl
        | some d =>
          have hne : d ≠ s := fun e => hd (by rw [hdd, e])
          simp [Act.put, Array.getElem?_setIfInBounds_ne hne]
    have room' : ∀ x, nt ≤ (a.put o.dst x).tmps.size := by
      intro x
      have := I.room
      cases o.dst <;> simpa [Act.put] using this
    have defers' : ∀ x, (a.put o.dst x).defers = D := by
      intro x
      have := I.defers
      cases o.dst <;> simpa [Act.put] using this
    have chain1 : pl.K i ≠ 2 → ∀ y, y < ops.size → pl.K y = 2 → ((listed.setIfInBounds i true).getD y false = true ↔ y < p) := by
      intro hk y hy hky
      rw [getD_set hlt', ← I.chain y hy hky]
      constructor
      · rintro (rfl | h)
        · exact absurd hky hk
        · exact h
      · exact .inr
    have hL' : ∀ y, (listed.setIfInBounds i true).getD y false = true ↔ y = i ∨ listed.getD y false = true := fun y => getD_set hlt'
    have free' : ∀ {ρ' : Env}, (∀ q, q.toNat < top.toNat → ρ q = none → (pl.K i = 4 → q ≠ pl.key i) → ρ' q = none) → ∀ y, y < ops.size → pl.K y = 4 → (listed.setIfInBounds i true).getD y false = false → ρ' (pl.key y) = none := by
      intro ρ' hρ y hy hky hl
      have hyi : y ≠ i := fun e => by
        have := (hL' y).2 (.inl e)
        rw [hl] at this; cases this
      have hln : listed.getD y false = false := by
        cases h : listed.getD y false with
        | false => rfl
        | true =>
          have := (hL' y).2 (.inr h)
          rw [hl] at this; cases this
      refine hρ _ (pl.keyn y hky).1 (I.free y hy hky hln) fun hki e => ?_
      rcases Nat.lt_or_gt_of_ne hyi with h | h
      · exact pl.keys y i h hlt hky hki e
      · exact pl.keys i y h hy hki hky e.symm
    -- who is apart
    have before : ∀ y, y < i → listed.getD y false = false → 2 ≤ pl.K y → 2 ≤ pl.K i → ∀ q, pl.D y q → pl.D i q → False := by
      intro y hy hl h1 h2 q d1 d2
      have hy' : y < ops.size := by omega
      rcases pl.look1 y i ops[y] o hy (by simp [hy']) ho with hr | ⟨_, _, _, h3⟩
      · have := hreach y hr
        rw [hl] at this; cases this
      · exact h3 h1 h2 q d1 d2
    have behind : ∀ y, i < y → y < ops.size → listed.getD y false = true → 2 ≤ pl.K y → 2 ≤ pl.K i → ∀ q, pl.D y q → pl.D i q → False := by
      intro y hy hy' hl h1 h2 q d1 d2
      rcases pl.look1 i y o ops[y] hy ho (by simp [hy']) with hr | ⟨_, _, _, h3⟩
      · exact hunreach y hy' hl hr
      · exact h3 h2 h1 q d2 d1
    have heap' : ∀ q, Hf pl (fun y => (listed.setIfInBounds i true).getD y false) ops.size q = open Classical in if 2 ≤ pl.K i ∧ pl.D i q then pl.X i q else Hf pl (fun y => listed.getD y false) ops.size q := by
      intro q
      have := Hf_add pl (L := fun y => listed.getD y false) (L' := fun y => (listed.setIfInBounds i true).getD y false) (j := i) hnot hL' (q := q) (ops.size - (i + 1)) fun y h1 h2 h3 h4 h5 h6 h7 => behind y h1 (by omega) h3 h4 h5 q h7 h6
      rw [show i + 1 + (ops.size - (i + 1)) = ops.size by omega] at this
      exact this
    have here : ∀ q, 2 ≤ pl.K i → pl.D i q → Hf pl (fun y => listed.getD y false) ops.size q = pl.F i q := by
      intro q hk hq
      have := Hf_same pl (L := fun y => listed.getD y false) (j := i) (by omega) (q := q) (fun y hy hl hky hd => before y hy hl hky hk q hd hq) (ops.size - i) fun y h1 h2 h3 h4 h5 => by
        rcases Nat.lt_or_ge i y with h | h
        · exact behind y h (by omega) h3 h4 hk q h5 hq
        · have : y = i := by omega
          subst this
          rw [hnot] at h3; cases h3
      rw [show i + (ops.size - i) = ops.size by omega] at this
      exact this
    have sameHeap : pl.K i < 2 → Hf pl (fun y => (listed.setIfInBounds i true).getD y false) ops.size = Hf pl (fun y => listed.getD y false) ops.size := by
      intro hk
      funext q
      rw [heap' q, if_neg fun h => by omega]
    have ht : top.toNat < (pl.Nn p).toNat := by
      rcases Nat.lt_or_ge top.toNat (pl.Nn p).toNat with h | h
      · exact h
      · exact absurd (I.rh.fresh top h) I.topa
    unfold wpOpIn
    simp only [ho]
    rcases pl.kind i o ho with ⟨hw, hv, hk⟩ | ⟨hw, hk, he⟩ | ⟨hw, hk, hN, hD, hX, he2, he3⟩ | ⟨hw, hk, hD, ob, hX, he⟩
    · rw [← wantA_congr hag1] at hw
      rw [wantA_ok rt rt.size hw]
      simp only [Bool.false_eq_true, if_false]
      have hs := sameHeap (by omega)
      refine ⟨fun _ _ => trivial, ih _ p ρ _ w hcnt' ⟨by simp [I.size], closed', I.edge, I.le, chain1 (by omega), by rw [hs]; exact I.rh, by rw [hs]; exact I.fr, I.news, I.topa, free' fun q _ h _ => h, ?_, room' _, defers' _⟩⟩
      exact tmps' (Env.le_refl _) (by rw [hv]; rfl)
    · rw [← wantA_congr hag1] at hw
      rw [wantA_ok rt rt.size hw]
      simp only [if_true]
      obtain ⟨N, hN, hev⟩ := he p I.le I.edge (fun y hy hky hr => (I.chain y hy hky).1 (hreach y hr)) (fun y hy hky hr => hunreach y (by have := I.le; omega) ((I.chain y (by have := I.le; omega) hky).2 hy) hr)
      have hsub : ∀ q o', T.get q N = some o' → Hf pl (fun y => listed.getD y false) ops.size q = some o' := by
        intro q o' hq
        rcases hN q o' hq with ⟨hF, hlight⟩ | ⟨hF, hown⟩
        rotate_left
        · rw [← hF]
          exact Hf_same pl (L := fun y => listed.getD y false) (j := ops.size) (Nat.le_refl _) (q := q) (fun y hy hl hky hd => by
            have := hreach y (hown y hy hky hd)
            rw [hl] at this; cases this) 0 fun y h1 h2 => absurd h2 (by omega)
        rw [← hF]
        have := Hf_same pl (L := fun y => listed.getD y false) (j := p) I.le (q := q) (fun y hy hl hky hd => ?_) (ops.size - p) fun y h1 h2 h3 h4 h5 => ?_
        · rw [show p + (ops.size - p) = ops.size by have := I.le; omega] at this
          exact this
        · have hy' : y < ops.size := by have := I.le; omega
          by_cases h2 : pl.K y = 2
          · have := (I.chain y hy' h2).2 hy
            rw [hl] at this; cases this
          · have := hreach y (hlight y hy' (by omega) hd).1
            rw [hl] at this; cases this
        · have hy' : y < ops.size := by have := I.le; omega
          by_cases h2 : pl.K y = 2
          · have := (I.chain y hy' h2).1 h3
            omega
          · have := (hlight y hy' (by omega) h5).2
            omega
      have hev' := hev (pl.Nn p)
      rw [← evOp_congr hag2] at hev'
      have hs := sameHeap (by omega)
      refine evOp_wp ok hc rt (I.rh.part hsub) hev' fun ρ' w' x dx r' f' => ?_
      obtain ⟨g1, g2⟩ := frame_step I.rh hsub r' f'
      have hid : eff (fun q => T.get q N ≠ none ∨ T.get q N ≠ none) (fun q => T.get q N) (Hf pl (fun y => listed.getD y false) ops.size) = Hf pl (fun y => listed.getD y false) ops.size := by
        funext q
        unfold eff
        split
        · rename_i h
          cases hg : T.get q N with
          | none => rw [hg] at h; simp at h
          | some o' => first | exact (hsub q o' hg).symm | exact hg.trans (hsub q o' hg).symm
        · rfl
      rw [hid] at g1 g2
      have hnews : ∀ q, ρ q = none → ρ' q ≠ none → top.toNat < q.toNat := fun q h1 h2 => f'.news q top h1 h2 I.topa
      refine ih _ p ρ' _ w' hcnt' ⟨by simp [I.size], closed', I.edge, I.le, chain1 (by omega), by rw [hs]; exact g1, by rw [hs]; exact I.fr.trans g2, ?_, ?_, ?_, tmps' f'.ext dx, room' _, defers' _⟩
      · intro q h1 h2
        cases h : ρ q with
        | none => have := hnews q h h2; have := pl.lotop; omega
        | some x => exact I.news q h1 (by rw [h]; simp)
      · cases h : ρ top with
        | none => exact absurd h I.topa
        | some x => rw [f'.ext _ _ h]; simp
      · refine free' fun q hq h _ => ?_
        cases h' : ρ' q with
        | none => rfl
        | some x => have := hnews q h (by rw [h']; simp); omega
    · rw [← wantA_congr hag1] at hw
      rw [wantA_ok rt rt.size hw]
      simp only [if_true]
      have hk2 : 2 ≤ pl.K i := by omega
      have hsub : ∀ q o', T.get q (pl.N i) = some o' → Hf pl (fun y => listed.getD y false) ops.size q = some o' := by
        intro q o' hq
        rw [here q hk2 ((hD q).2 (.inl (by rw [hq]; simp)))]
        exact hN q o' hq
      have heff : ∀ f : Hp, eff (fun q => T.get q (pl.N i) ≠ none ∨ T.get q (pl.N' i) ≠ none) (fun q => T.get q (pl.N' i)) f = fun q => open Classical in if 2 ≤ pl.K i ∧ pl.D i q then pl.X i q else f q := by
        intro f
        funext q
        unfold eff
        by_cases c : pl.D i q
        · rw [if_pos ((hD q).1 c), if_pos ⟨hk2, c⟩, hX]
        · rw [if_neg fun h => c ((hD q).2 h), if_neg fun h => c h.2]
      have hH : (fun q => open Classical in if 2 ≤ pl.K i ∧ pl.D i q then pl.X i q else Hf pl (fun y => listed.getD y false) ops.size q) = Hf pl (fun y => (listed.setIfInBounds i true).getD y false) ops.size := funext fun q => (heap' q).symm
      -- the counter
      have step : ∀ (n' : Key) (p' : Nat), evOp C call (pl.Tf i) ⟨pl.N i, pl.Nn p⟩ o.op = some (pl.V i, ⟨pl.N' i, n'⟩) → n' = pl.Nn p' → (p' = 0 ∨ (0 < p' ∧ pl.K (p' - 1) = 2)) → p' ≤ ops.size →
          (∀ y, y < ops.size → pl.K y = 2 → ((listed.setIfInBounds i true).getD y false = true ↔ y < p')) → o.wpIn (FW ro) 0 C.P a w (wpAnyIn (FW ro) 0 C.P .any ops Q fuel (listed.setIfInBounds i true)) Q := by
        intro n' p' hev hn' he1 he2 hch
        rw [← evOp_congr hag2] at hev
        refine evOp_wp ok hc rt (I.rh.part hsub) hev fun ρ' w' x dx r' f' => ?_
        obtain ⟨g1, g2⟩ := frame_step I.rh hsub r' f'
        rw [heff, hH] at g1 g2
        have hnews : ∀ q, ρ q = none → ρ' q ≠ none → top.toNat < q.toNat := fun q h1 h2 => f'.news q top h1 h2 I.topa
        refine ih _ p' ρ' _ w' hcnt' ⟨by simp [I.size], closed', he1, he2, hch, by rw [← hn']; exact g1, I.fr.trans g2, ?_, ?_, ?_, tmps' f'.ext dx, room' _, defers' _⟩
        · intro q h1 h2
          cases h : ρ q with
          | none => have := hnews q h h2; have := pl.lotop; omega
          | some x => exact I.news q h1 (by rw [h]; simp)
        · cases h : ρ top with
          | none => exact absurd h I.topa
          | some x => rw [f'.ext _ _ h]; simp
        · refine free' fun q hq h _ => ?_
          cases h' : ρ' q with
          | none => rfl
          | some x => have := hnews q h (by rw [h']; simp); omega
      rcases hk with hk | hk
      · have hpi : p ≤ i := by
          rcases Nat.lt_or_ge i p with h | h
          · have := (I.chain i hlt hk).2 h
            rw [hnot] at this; cases this
          · exact h
        have hbefore : ∀ y, y < i → pl.K y = 2 → listed.getD y false = true := by
          intro y hy hky
          have hy' : y < ops.size := by omega
          rcases pl.look1 y i ops[y] o hy (by simp [hy']) ho with hr | ⟨_, _, h3, _⟩
          · exact hreach y hr
          · exact absurd ⟨hky, hk⟩ h3
        have hNn : pl.Nn p = pl.Nn i := pl.Nconst (by omega) hpi fun y h1 h2 hky => by
          have := (I.chain y (by omega) hky).1 (hbefore y h2 hky)
          omega
        have hev := he2 hk
        rw [← hNn] at hev
        refine step _ (i + 1) hev rfl (.inr ⟨by omega, by simpa using hk⟩) (by omega) ?_
        intro y hy hky
        rw [getD_set hlt']
        constructor
        · rintro (rfl | h)
          · omega
          · have := (I.chain y hy hky).1 h
            omega
        · intro h
          by_cases e : y = i
          · exact .inl e
          · exact .inr (hbefore y (by omega) hky)
      · exact step _ p (he3 hk (pl.Nn p)) rfl I.edge I.le (chain1 (by omega))
    · rw [← wantA_congr hag1] at hw
      rw [wantA_ok rt rt.size hw]
      simp only [if_true]
      have hfree := I.free i hlt hk hnot
      have hkn := (pl.keyn i hk)
      have hl : lightA C (restr (pl.Tf i) (looks ops.toList o)) o.op (pl.key i) = some (pl.V i, ob) := by
        rw [← he]
        unfold lightA
        rw [evP_congr hag2, evE_congr hag2]
      obtain ⟨b, κ, w', nx, x, k1, k2, k3, k4, k5⟩ := light_ok ok rt I.rh hl hfree (by omega)
      refine light_wp (light_nd hl) k1 k2 ?_
      have hH : eff (fun q => q = pl.key i) (fun _ => some ob) (Hf pl (fun y => listed.getD y false) ops.size) = Hf pl (fun y => (listed.setIfInBounds i true).getD y false) ops.size := by
        funext q
        rw [heap' q]
        unfold eff
        by_cases c : q = pl.key i
        · rw [if_pos c, if_pos ⟨by omega, (hD q).2 c⟩, hX]
        · rw [if_neg c, if_neg fun h => c ((hD q).1 h.2)]
      rw [hH] at k4 k5
      refine ih _ p _ _ w' hcnt' ⟨by simp [I.size], closed', I.edge, I.le, chain1 (by omega), k4, I.fr.trans k5, ?_, ?_, ?_, tmps' k5.ext k3, room' _, defers' _⟩
      · intro q h1 h2
        by_cases c : q = pl.key i
        · rw [c]; exact hkn.2
        · simp only [Env.add, if_neg c] at h2
          exact I.news q h1 h2
      · have : top ≠ pl.key i := fun e => by have h1 := hkn.1; have h2 := congrArg Key.toNat e; omega
        simp only [Env.add, if_neg this]
        exact I.topa
      · refine free' fun q hq h hne => ?_
        simp only [Env.add, if_neg (hne hk)]
        exact h
end
end
end Go.Ev
set_option linter.unusedVariables false
set_option linter.unusedSimpArgs false
namespace Go.Ev
noncomputable section

/- ### The check of a region with lights -/
def skipK {β : Type} : List Oper → Key → (Key → β) → β
  | [], k, c => c k
  | _ :: l, k, c => fKey (Key.succ k) fun k => skipK l k c

def isLight (R : Nat) (r : Rec) : Bool := bif Nat.ble 3 r.k then Nat.beq (Nat.land R r.b) 0 else false

def dropK {β : Type} (R : Nat) : List Rec → T AObj → (T AObj → β) → β
  | [], h, c => c h
  | r :: rs, h, c => bif isLight R r then T.putK r.key none h fun h => dropK R rs h c else dropK R rs h c

def readd {β : Type} (R : Nat) (h0 : T AObj) : List Rec → T AObj → (T AObj → β) → β
  | [], h, c => c h
  | r :: rs, h, c => bif isLight R r then T.putK r.key (T.get r.key h0) h fun h => readd R h0 rs h c else readd R h0 rs h c

def dropR {β : Type} (R pb : Nat) : List Rec → T AObj → (T AObj → β) → β
  | [], h, c => c h
  | r :: rs, h, c => bif Nat.ble 3 r.k then (bif (bif Nat.beq (Nat.land R r.b) 0 then false else Nat.blt r.b pb) then dropR R pb rs h c else T.putK r.key none h fun h => dropR R pb rs h c) else dropR R pb rs h c

def free (q : Key) (k : Nat) (key : Key) (N N' : T AObj) : Bool :=
  bif Nat.ble 3 k then !(Key.eqb q key) else (match T.get q N with
    | none => (match T.get q N' with
      | none => true
      | some _ => false)
    | some _ => false)

def prevD (R k : Nat) (key : Key) (N N' : T AObj) : List Rec → Bool
  | [] => true
  | r :: rs => bif Nat.beq (Nat.land R r.b) 0 then (bif (bif Nat.ble 3 r.k then (bif Nat.ble 2 k then free r.key k key N N' else true) else bif Nat.beq r.k 2 then (bif Nat.ble 3 k then free key r.k r.key r.N r.N' else true) else true) then prevD R k key N N' rs else false) else prevD R k key N N' rs

structure StL where
  k : Nat
  v : AV
  N : T AObj
  N' : T AObj
  key : Key
  m : Mem

def stepL (C : Cx) (call : CallF) (acc : List Rec) (R b hint : Nat) (kc : Key) (t : T AV) (m : Mem) (op : Op) : Option StL :=
  bif Nat.beq (Nat.land hint b) 0 then dropK R acc m.h fun Nh => match stepD C call t ⟨Nh, m.n⟩ op with
    | none => none
    | some (false, v, _) => some ⟨1, v, .leaf, .leaf, .h, m⟩
    | some (true, v, m1) => readd R m.h acc m1.h fun h => some ⟨2, v, Nh, m1.h, .h, ⟨h, m1.n⟩⟩
  else match lightA C t op kc with
    | some (v, ob) => T.putK kc (some ob) m.h fun h => some ⟨4, v, .leaf, .leaf, kc, ⟨h, m.n⟩⟩
    | none => match op with
      | .store ty a x => match evO C t a with
        | some (.ptr p _) => match T.get p m.h with
          | some o => T.putK p (some o) .leaf fun N => match evE C t ⟨N, m.n⟩ op with
            | some (v, m1) => match T.get p m1.h with
              | some o' => T.putK p (some o') m.h fun h => some ⟨3, v, N, m1.h, p, ⟨h, m.n⟩⟩
              | none => none
            | none => none
          | none => none
        | _ => none
      | _ => none

def runL (C : Cx) (call : CallF) (nt : Nat) (ops : List Oper) (hint : Nat) : List Oper → Nat → Nat → Key → List Rec → T AV → Mem → Option (List Rec × T AV × Mem × Key)
  | [], j, b, kc, acc, t, m => some (acc, t, m, kc)
  | o :: os, j, b, kc, acc, t, m => match edgeR acc j o.after.toList 0 with
    | none => none
    | some R => fN (Nat.lor (gM ops o.guard) (mks (opL o.op))) fun lk => fN (dM o.dst) fun dm => fN (Nat.succ j) fun j => fN (Nat.mul 2 b) fun b' => fKey (Key.succ kc) fun kc' => match wantA ops t o.guard with
      | none => none
      | some false => bif prevOK R lk dm false acc then (match putT nt t o.dst (.tup []) with
        | none => none
        | some t' => fN (cOf acc) fun c => fN (sOf acc) fun s => runL C call nt ops hint os j b' kc' (⟨o, b, R, lk, dm, 0, .tup [], t, m, c, s, .h, .leaf, .leaf⟩ :: acc) t' m) else none
      | some true => match stepL C call acc R b hint kc t m o.op with
        | none => none
        | some s => bif prevOK R lk dm (Nat.beq s.k 2) acc then (bif prevD R s.k s.key s.N s.N' acc then (match putT nt t o.dst s.v with
          | none => none
          | some t' => fN (bif Nat.beq s.k 2 then Nat.lor (cOf acc) b else cOf acc) fun c => fN (bif Nat.beq s.k 2 then Nat.lor (sOf acc) R else sOf acc) fun u =>
              runL C call nt ops hint os j b' kc' (⟨o, b, R, lk, dm, s.k, s.v, t, m, c, u, s.key, s.N, s.N'⟩ :: acc) t' s.m) else none) else none

def bndL : List Rec → Mem → List (Nat × Nat × Nat × Mem)
  | [], m => [(0, 0, 1, m)]
  | r :: acc, m => bif Nat.beq r.k 2 then fN (Nat.mul 2 r.b) fun pb => (r.c, r.s, pb, m) :: bndL acc r.m else bndL acc r.m

/-- All that touch a block are ordered ahead. -/
def ownR (R : Nat) (key : Key) : List Rec → Bool
  | [] => true
  | z :: l => bif Nat.ble 2 z.k then (bif (bif Nat.beq (Nat.land R z.b) 0 then free key z.k z.key z.N z.N' else true) then ownR R key l else false) else ownR R key l

/-- New blocks that all who touch them leave behind ahead of a read. -/
def addR {β : Type} (R : Nat) (mf : T AObj) (rs : List Rec) : List Rec → T AObj → (T AObj → β) → β
  | [], h, c => c h
  | x :: l, h, c => bif Nat.beq x.k 4 then (bif ownR R x.key rs then (match T.get x.key mf with
    | some o => T.putK x.key (some o) h fun h => addR R mf rs l h c
    | none => addR R mf rs l h c) else addR R mf rs l h c) else addR R mf rs l h c

def rdAtL (C : Cx) (rs : List Rec) (mf : T AObj) (r : Rec) (c : Nat) : List (Nat × Nat × Nat × Mem) → Bool
  | [] => true
  | (cp, sp, pb, mp) :: l => bif (bif Nat.beq (Nat.land r.R c) (Nat.land r.R cp) then (bif Nat.beq (Nat.land sp r.b) 0 then dropR r.R pb rs mp.h fun N => (match evP C r.t N r.o.op with
      | some v => AV.eqb v r.v
      | none => addR r.R mf rs rs N fun N => (match evP C r.t N r.o.op with
        | some v => AV.eqb v r.v
        | none => false)) else true) else true) then rdAtL C rs mf r c l else false

def rdOKL (C : Cx) (rs : List Rec) (mf : T AObj) (c : Nat) (B : List (Nat × Nat × Nat × Mem)) : List Rec → Bool
  | [] => true
  | r :: l => bif Nat.beq r.k 1 then (bif readsH r.o.op then (bif rdAtL C rs mf r c B then rdOKL C rs mf c B l else false) else rdOKL C rs mf c B l) else rdOKL C rs mf c B l

def drawnL (C : Cx) (call : CallF) (nt : Nat) (hint : Nat) (ops : Array Oper) (t : T AV) (m : Mem) : Option (T AV × Mem) :=
  skipK ops.toList m.n fun top => fKey (Key.succ top) fun n0 => match runL C call nt ops.toList hint ops.toList 0 1 m.n [] t ⟨m.h, n0⟩ with
    | none => none
    | some (rs, t', m', _) => fL (bndL rs m') fun B => bif rdOKL C rs m'.h (cOf rs) B rs then some (t', m') else none

/- ### It is right -/
theorem skipK_eq {β : Type} : ∀ (l : List Oper) (k : Key) (c : Key → β), ∃ k', skipK l k c = c k' ∧ k'.toNat = k.toNat + l.length
  | [], k, c => ⟨k, rfl, by simp⟩
  | _ :: l, k, c => by
    obtain ⟨k', h1, h2⟩ := skipK_eq l k.succ c
    exact ⟨k', by simp only [skipK, fKey_eq]; exact h1, by rw [h2, Key.toNat_succ]; simp; omega⟩

/-- Memory without the lights that are not ordered ahead. -/
def dropd (R : Nat) : List Rec → T AObj → T AObj
  | [], h => h
  | r :: rs, h => if isLight R r = true then dropd R rs (T.put r.key none h) else dropd R rs h

theorem dropK_eq {β : Type} {R : Nat} : ∀ (l : List Rec) (h : T AObj) (c : T AObj → β), dropK R l h c = c (dropd R l h)
  | [], h, c => rfl
  | r :: rs, h, c => by
    simp only [dropK, dropd]
    cases isLight R r with
    | true => simp only [cond_true, T.putK_eq, if_true]; exact dropK_eq rs _ c
    | false => simp only [cond_false, Bool.false_eq_true, if_false]; exact dropK_eq rs _ c

theorem dropd_get {R : Nat} : ∀ (l : List Rec) (h : T AObj) (q : Key), T.get q (dropd R l h) = if ∃ r ∈ l, isLight R r = true ∧ r.key = q then none else T.get q h
  | [], h, q => by simp [dropd]
  | r :: rs, h, q => by
    simp only [dropd]
    by_cases c : isLight R r = true
    · rw [if_pos c, dropd_get rs _ q, T.get_put]
      by_cases e : q = r.key
      · rw [if_pos e, if_pos (⟨r, by simp, c, e.symm⟩ : ∃ r' ∈ r :: rs, isLight R r' = true ∧ r'.key = q)]
        split <;> rfl
      · rw [if_neg e]
        by_cases d : ∃ r ∈ rs, isLight R r = true ∧ r.key = q
        · obtain ⟨x, hx, h1⟩ := d
          rw [if_pos ⟨x, hx, h1⟩, if_pos ⟨x, by simp [hx], h1⟩]
        · rw [if_neg d, if_neg]
          rintro ⟨x, hx, h1, h2⟩
          rcases List.mem_cons.1 hx with rfl | hx
          · exact e h2.symm
          · exact d ⟨x, hx, h1, h2⟩
    · rw [if_neg c, dropd_get rs _ q]
      by_cases d : ∃ r ∈ rs, isLight R r = true ∧ r.key = q
      · obtain ⟨x, hx, h1⟩ := d
        rw [if_pos ⟨x, hx, h1⟩, if_pos ⟨x, by simp [hx], h1⟩]
      · rw [if_neg d, if_neg]
        rintro ⟨x, hx, h1, h2⟩
        rcases List.mem_cons.1 hx with rfl | hx
        · exact c h1
        · exact d ⟨x, hx, h1, h2⟩

def radd (R : Nat) (h0 : T AObj) : List Rec → T AObj → T AObj
  | [], h => h
  | r :: rs, h => if isLight R r = true then radd R h0 rs (T.put r.key (T.get r.key h0) h) else radd R h0 rs h

theorem readd_eq {β : Type} {R : Nat} {h0 : T AObj} : ∀ (l : List Rec) (h : T AObj) (c : T AObj → β), readd R h0 l h c = c (radd R h0 l h)
  | [], h, c => rfl
  | r :: rs, h, c => by
    simp only [readd, radd]
    cases isLight R r with
    | true => simp only [cond_true, T.putK_eq, if_true]; exact readd_eq rs _ c
    | false => simp only [cond_false, Bool.false_eq_true, if_false]; exact readd_eq rs _ c

theorem radd_get {R : Nat} {h0 : T AObj} : ∀ (l : List Rec) (h : T AObj) (q : Key), T.get q (radd R h0 l h) = if ∃ r ∈ l, isLight R r = true ∧ r.key = q then T.get q h0 else T.get q h
  | [], h, q => by simp [radd]
  | r :: rs, h, q => by
    simp only [radd]
    by_cases c : isLight R r = true
    · rw [if_pos c, radd_get rs _ q, T.get_put]
      by_cases e : q = r.key
      · rw [if_pos e, if_pos (⟨r, by simp, c, e.symm⟩ : ∃ r' ∈ r :: rs, isLight R r' = true ∧ r'.key = q), ← e]
        split <;> rfl
      · rw [if_neg e]
        by_cases d : ∃ r ∈ rs, isLight R r = true ∧ r.key = q
        · obtain ⟨x, hx, h1⟩ := d
          rw [if_pos ⟨x, hx, h1⟩, if_pos ⟨x, by simp [hx], h1⟩]
        · rw [if_neg d, if_neg]
          rintro ⟨x, hx, h1, h2⟩
          rcases List.mem_cons.1 hx with rfl | hx
          · exact e h2.symm
          · exact d ⟨x, hx, h1, h2⟩
    · rw [if_neg c, radd_get rs _ q]
      by_cases d : ∃ r ∈ rs, isLight R r = true ∧ r.key = q
      · obtain ⟨x, hx, h1⟩ := d
        rw [if_pos ⟨x, hx, h1⟩, if_pos ⟨x, by simp [hx], h1⟩]
      · rw [if_neg d, if_neg]
        rintro ⟨x, hx, h1, h2⟩
        rcases List.mem_cons.1 hx with rfl | hx
        · exact c h1
        · exact d ⟨x, hx, h1, h2⟩

def dropdR (R pb : Nat) : List Rec → T AObj → T AObj
  | [], h => h
  | r :: rs, h => if 3 ≤ r.k ∧ ¬ (Nat.beq (Nat.land R r.b) 0 = false ∧ r.b < pb) then dropdR R pb rs (T.put r.key none h) else dropdR R pb rs h

theorem dropR_eq {β : Type} {R pb : Nat} : ∀ (l : List Rec) (h : T AObj) (c : T AObj → β), dropR R pb l h c = c (dropdR R pb l h)
  | [], h, c => rfl
  | r :: rs, h, c => by
    simp only [dropR, dropdR]
    by_cases h3 : 3 ≤ r.k
    · have e3 : Nat.ble 3 r.k = true := Nat.ble_eq_true_of_le h3
      rw [e3]
      simp only [cond_true]
      cases hz : Nat.beq (Nat.land R r.b) 0 with
      | true =>
        simp only [cond_true, cond_false, T.putK_eq]
        rw [if_pos ⟨h3, fun h => by cases h.1⟩]
        exact dropR_eq rs _ c
      | false =>
        simp only [cond_false, nblt]
        by_cases hl : r.b < pb
        · simp only [hl, decide_true, cond_true]
          rw [if_neg (by simp [hl])]
          exact dropR_eq rs _ c
        · simp only [hl, decide_false, cond_false, T.putK_eq]
          rw [if_pos (by simp [h3, hl])]
          exact dropR_eq rs _ c
    · have e3 : Nat.ble 3 r.k = false := by
        cases h : Nat.ble 3 r.k with
        | false => rfl
        | true => exact absurd (Nat.le_of_ble_eq_true h) h3
      rw [e3]
      simp only [cond_false]
      rw [if_neg fun h => h3 h.1]
      exact dropR_eq rs _ c

theorem dropdR_get {R pb : Nat} : ∀ (l : List Rec) (h : T AObj) (q : Key) (o : AObj), T.get q (dropdR R pb l h) = some o → T.get q h = some o ∧ ∀ r ∈ l, 3 ≤ r.k → r.key = q → Nat.beq (Nat.land R r.b) 0 = false ∧ r.b < pb
  | [], h, q, o, e => ⟨e, fun r hr => by cases hr⟩
  | r :: rs, h, q, o, e => by
    simp only [dropdR] at e
    by_cases c : 3 ≤ r.k ∧ ¬ (Nat.beq (Nat.land R r.b) 0 = false ∧ r.b < pb)
    · rw [if_pos c] at e
      obtain ⟨h1, h2⟩ := dropdR_get rs _ q o e
      rw [T.get_put] at h1
      by_cases eq : q = r.key
      · rw [if_pos eq] at h1; cases h1
      · rw [if_neg eq] at h1
        refine ⟨h1, fun x hx h3 hk => ?_⟩
        rcases List.mem_cons.1 hx with rfl | hx
        · exact absurd hk.symm eq
        · exact h2 x hx h3 hk
    · rw [if_neg c] at e
      obtain ⟨h1, h2⟩ := dropdR_get rs _ q o e
      refine ⟨h1, fun x hx h3 hk => ?_⟩
      rcases List.mem_cons.1 hx with rfl | hx
      · exact Classical.byContradiction fun hn => c ⟨h3, hn⟩
      · exact h2 x hx h3 hk

/-- A store touches one block. -/
theorem storeA_one {P : Program} {m m' : Mem} {ty : TypeId} {p : Key} {off : Nat} {v : AV} (h : storeA P m ty (.ptr p off) v = some m') : m'.n = m.n ∧ (∃ o', m'.h = T.put p (some o') m.h) ∧ ∀ n', storeA P ⟨m.h, n'⟩ ty (.ptr p off) v = some ⟨m'.h, n'⟩ := by
  unfold storeA at h ⊢
  obtain ⟨s, hs, h⟩ := bind_some h
  obtain ⟨hc, h⟩ := cond_some h
  simp only [hs, Option.bind_some, hc, cond_true]
  cases hp : T.get p m.h with
  | none => simp [hp] at h
  | some o =>
    cases o <;> simp only [hp, reduceCtorEq] at h ⊢
    case cells u e fz l =>
      unfold storeRow at h ⊢
      simp only [hp] at h ⊢
      obtain ⟨hb, h⟩ := cond_some h
      simp only [fL_eq, T.putK_eq, Option.some.injEq] at h
      subst h
      exact ⟨rfl, ⟨_, rfl⟩, fun n' => by simp only [hb, cond_true, fL_eq, T.putK_eq]⟩
    case bytes u e fz n b =>
      obtain ⟨c, hc2, h⟩ := bind_some h
      simp only [fN_eq] at h
      unfold storeBytesA at h
      simp only [hp] at h
      obtain ⟨hb, h⟩ := cond_some h
      simp only [fN_eq, T.putK_eq, Option.some.injEq] at h
      subst h
      exact ⟨rfl, ⟨_, rfl⟩, fun n' => by simp only [hc2, Option.bind_some, fN_eq, storeBytesA, hp, hb, cond_true, T.putK_eq]⟩
end
end Go.Ev
set_option linter.unusedVariables false
set_option linter.unusedSimpArgs false
namespace Go.Ev
noncomputable section

/- ### The check of a region with lights is right -/
def DL (r : Rec) (q : Key) : Prop := if r.k = 4 then q = r.key else (T.get q r.N ≠ none ∨ T.get q r.N' ≠ none)
def XL (r : Rec) (m : Mem) (q : Key) : Option AObj := if r.k = 4 then T.get r.key m.h else T.get q r.N'

structure RecOKL (C : Cx) (call : CallF) (nt : Nat) (ops : Array Oper) (lo : Nat) (r : Rec) (acc : List Rec) (t : T AV) (m : Mem) : Prop where
  at_ : ops[acc.length]? = some r.o
  b : r.b = Nat.pow 2 acc.length
  back : ∀ e ∈ r.o.after, Region.binds .any e = true → e.on < acc.length
  reach : ∀ i, r.R.testBit i = true → ∃ e ∈ r.o.after, Region.binds .any e = true ∧ (i = e.on ∨ ∃ x, recAt acc e.on = some x ∧ x.R.testBit i = true)
  lk : ∀ s ∈ looks ops.toList r.o, r.lk.testBit s = true
  dm : ∀ d, r.o.dst = some d → r.dm.testBit d = true
  prev : ∀ i x, recAt acc i = some x → r.R.testBit i = true ∨ ((∀ s, x.dm.testBit s = true → r.lk.testBit s = false ∧ r.dm.testBit s = false) ∧ (∀ s, r.dm.testBit s = true → x.lk.testBit s = false) ∧ ¬ (x.k = 2 ∧ r.k = 2))
  prevd : ∀ i x, recAt acc i = some x → r.R.testBit i = true ∨ (2 ≤ x.k → 2 ≤ r.k → ∀ q, DL x q → DL r q → False)
  put : putT nt r.t r.o.dst r.v = some t
  one : 3 ≤ r.k → ∀ q, DL r q → q = r.key
  heap : ∀ q, T.get q m.h = open Classical in if 2 ≤ r.k ∧ DL r q then XL r m q else T.get q r.m.h
  cnt : r.k ≠ 2 → m.n = r.m.n
  keyn : r.k = 4 → r.key.toNat = lo + acc.length
  c : r.c = if r.k = 2 then Nat.lor (cOf acc) r.b else cOf acc
  s : r.s = if r.k = 2 then Nat.lor (sOf acc) r.R else sOf acc
  kind : (wantA ops.toList r.t r.o.guard = some false ∧ r.v = .tup [] ∧ r.k = 0) ∨
    (wantA ops.toList r.t r.o.guard = some true ∧ r.k = 1 ∧ isCall r.o.op = none ∧ ∃ Nh, evP C r.t Nh r.o.op = some r.v) ∨
    (wantA ops.toList r.t r.o.guard = some true ∧ (r.k = 2 ∨ r.k = 3) ∧ (∀ q o, T.get q r.N = some o → T.get q r.m.h = some o) ∧
      (r.k = 2 → evOp C call r.t ⟨r.N, r.m.n⟩ r.o.op = some (r.v, ⟨r.N', m.n⟩)) ∧ (r.k = 3 → ∀ n, evOp C call r.t ⟨r.N, n⟩ r.o.op = some (r.v, ⟨r.N', n⟩))) ∨
    (wantA ops.toList r.t r.o.guard = some true ∧ r.k = 4 ∧ ∃ ob, T.get r.key m.h = some ob ∧ lightA C r.t r.o.op r.key = some (r.v, ob))

def GoodL (C : Cx) (call : CallF) (nt : Nat) (ops : Array Oper) (lo : Nat) (t0 : T AV) (m0 : Mem) : List Rec → T AV → Mem → Prop
  | [], t, m => t = t0 ∧ m = m0
  | r :: acc, t, m => RecOKL C call nt ops lo r acc t m ∧ GoodL C call nt ops lo t0 m0 acc r.t r.m

section
variable {C : Cx} {call : CallF} {nt : Nat} {ops : Array Oper} {lo : Nat} {t0 : T AV} {m0 : Mem}

theorem GoodL.bits {t : T AV} {m : Mem} : ∀ {acc : List Rec} {t : T AV} {m : Mem}, GoodL C call nt ops lo t0 m0 acc t m → ∀ i x, recAt acc i = some x → x.b = Nat.pow 2 i
  | [], t, m, g, i, x, h => by simp [recAt] at h
  | r :: acc, t, m, g, i, x, h => by
    simp only [recAt] at h
    split at h
    · rename_i c; cases h; rw [c]; exact g.1.b
    · exact GoodL.bits (t := t) (m := m) g.2 i x h

theorem GoodL.zero : ∀ {l : List Rec} {t : T AV} {m : Mem}, GoodL C call nt ops lo t0 m0 l t m → TF l t 0 = t0 ∧ MF l m 0 = m0
  | [], t, m, g => g
  | r :: acc, t, m, g => by simp only [TF, MF]; rw [if_pos (by omega), if_pos (by omega)]; exact GoodL.zero g.2

theorem GoodL.get : ∀ {l : List Rec} {t : T AV} {m : Mem}, GoodL C call nt ops lo t0 m0 l t m → ∀ {i : Nat} {r : Rec}, recAt l i = some r →
    ∃ acc, acc.length = i ∧ RecOKL C call nt ops lo r acc (TF l t (i + 1)) (MF l m (i + 1)) ∧ TF l t i = r.t ∧ MF l m i = r.m ∧ ∀ q, q < i → recAt acc q = recAt l q
  | [], t, m, g, i, r, h => by simp [recAt] at h
  | x :: acc, t, m, g, i, r, h => by
    simp only [recAt] at h
    by_cases c : i = acc.length
    · rw [if_pos c] at h
      cases h
      refine ⟨acc, c.symm, ?_, ?_, ?_, fun q hq => ?_⟩
      · simp only [TF, MF]
        rw [if_neg (by omega), if_neg (by omega)]
        exact g.1
      · simp only [TF]
        rw [if_pos (by omega), c]
        exact TF_len
      · simp only [MF]
        rw [if_pos (by omega), c]
        exact MF_len
      · simp only [recAt]; rw [if_neg (by omega)]
    · rw [if_neg c] at h
      have hlt := recAt_lt h
      obtain ⟨a, h1, h2, h3, h4, h5⟩ := GoodL.get g.2 h
      refine ⟨a, h1, ?_, ?_, ?_, fun q hq => ?_⟩
      · simp only [TF, MF]
        rw [if_pos (by omega), if_pos (by omega)]
        exact h2
      · simp only [TF]; rw [if_pos (by omega)]; exact h3
      · simp only [MF]; rw [if_pos (by omega)]; exact h4
      · simp only [recAt]; rw [if_neg (by omega)]; exact h5 q hq

theorem GoodL.cspec : ∀ {l : List Rec} {t : T AV} {m : Mem}, GoodL C call nt ops lo t0 m0 l t m → ∀ i, (cOf l).testBit i = true ↔ ∃ r, recAt l i = some r ∧ r.k = 2
  | [], t, m, g, i => by simp [cOf, recAt]
  | x :: acc, t, m, g, i => by
    have ih := GoodL.cspec g.2 i
    show x.c.testBit i = true ↔ _
    rw [g.1.c]
    simp only [recAt]
    by_cases hk : x.k = 2
    · rw [if_pos hk, lor_bit, g.1.b, pow_bit, Bool.or_eq_true, decide_eq_true_iff, ih]
      by_cases c : i = acc.length
      · rw [if_pos c]
        exact ⟨fun _ => ⟨x, rfl, hk⟩, fun _ => .inr c.symm⟩
      · rw [if_neg c]
        exact ⟨fun h => h.elim id (fun e => absurd e.symm c), .inl⟩
    · rw [if_neg hk, ih]
      by_cases c : i = acc.length
      · rw [if_pos c]
        refine ⟨fun ⟨r, h, _⟩ => ?_, fun ⟨r, h, h2⟩ => ?_⟩
        · have := recAt_lt h; omega
        · cases h; exact absurd h2 hk
      · rw [if_neg c]

theorem GoodL.sspec : ∀ {l : List Rec} {t : T AV} {m : Mem}, GoodL C call nt ops lo t0 m0 l t m → ∀ i, (sOf l).testBit i = true → ∃ q r, recAt l q = some r ∧ r.k = 2 ∧ r.R.testBit i = true
  | [], t, m, g, i, h => by simp [sOf] at h
  | x :: acc, t, m, g, i, h => by
    have ih := GoodL.sspec g.2 i
    have up : (sOf acc).testBit i = true → ∃ q r, recAt (x :: acc) q = some r ∧ r.k = 2 ∧ r.R.testBit i = true := fun h => by
      obtain ⟨q, r, h1, h2⟩ := ih h
      refine ⟨q, r, ?_, h2⟩
      have := recAt_lt h1
      simp only [recAt]; rw [if_neg (by omega)]; exact h1
    have h' : x.s.testBit i = true := h
    rw [g.1.s] at h'
    by_cases hk : x.k = 2
    · rw [if_pos hk, lor_bit, Bool.or_eq_true] at h'
      rcases h' with h' | h'
      · exact up h'
      · exact ⟨acc.length, x, by simp [recAt], hk, h'⟩
    · rw [if_neg hk] at h'
      exact up h'

theorem bndL_mem : ∀ {l : List Rec} {t : T AV} {m : Mem}, GoodL C call nt ops lo t0 m0 l t m → ∀ {p : Nat}, p ≤ l.length → (p = 0 ∨ (0 < p ∧ ∃ r, recAt l (p - 1) = some r ∧ r.k = 2)) →
    ∃ c s, (c, s, Nat.pow 2 p, MF l m p) ∈ bndL l m ∧ (∀ i, c.testBit i = true ↔ i < p ∧ ∃ r, recAt l i = some r ∧ r.k = 2) ∧ (∀ i, s.testBit i = true → ∃ q r, q < p ∧ recAt l q = some r ∧ r.k = 2 ∧ r.R.testBit i = true)
  | [], t, m, g, p, hp, hb => by
    simp at hp; subst hp
    exact ⟨0, 0, by simp [bndL, MF], by simp, by simp⟩
  | x :: acc, t, m, g, p, hp, hb => by
    simp only [List.length_cons] at hp
    by_cases c : p = acc.length + 1
    · subst c
      have hk : x.k = 2 := by
        rcases hb with hb | ⟨_, r, h1, h2⟩
        · omega
        · simp only [recAt, Nat.add_sub_cancel] at h1
          simp at h1
          rw [h1]; exact h2
      refine ⟨x.c, x.s, ?_, fun i => ?_, fun i hi => ?_⟩
      · simp only [bndL, MF, fN_eq]
        rw [if_neg (by omega), hk, g.1.b]
        have : Nat.mul 2 (Nat.pow 2 acc.length) = Nat.pow 2 (acc.length + 1) := by show 2 * 2 ^ acc.length = 2 ^ (acc.length + 1); rw [Nat.pow_succ]; omega
        rw [this]
        simp
      · have := GoodL.cspec (l := x :: acc) g i
        rw [show x.c = cOf (x :: acc) from rfl, this]
        constructor
        · rintro ⟨r, h, h2⟩
          exact ⟨recAt_lt h, r, h, h2⟩
        · exact fun h => h.2
      · obtain ⟨q, r, h1, h2⟩ := GoodL.sspec (l := x :: acc) g i hi
        exact ⟨q, r, recAt_lt h1, h1, h2⟩
    · have hp' : p ≤ acc.length := by omega
      have lift : ∀ q, q < p → recAt (x :: acc) q = recAt acc q := fun q hq => by simp only [recAt]; rw [if_neg (by omega)]
      obtain ⟨c', s', h1, h2, h3⟩ := bndL_mem g.2 hp' (by
        rcases hb with hb | ⟨h0, r, h1, h2⟩
        · exact .inl hb
        · refine .inr ⟨h0, r, ?_, h2⟩
          rw [← lift _ (by omega)]; exact h1)
      refine ⟨c', s', ?_, fun i => ?_, fun i hi => ?_⟩
      · simp only [bndL, MF, fN_eq]
        rw [if_pos hp']
        cases Nat.beq x.k 2 with
        | true => exact List.mem_cons_of_mem _ h1
        | false => exact h1
      · rw [h2]
        constructor
        · rintro ⟨hi, h⟩; rw [lift i hi]; exact ⟨hi, h⟩
        · rintro ⟨hi, h⟩; rw [lift i hi] at h; exact ⟨hi, h⟩
      · obtain ⟨q, r, hq, h⟩ := h3 i hi
        exact ⟨q, r, hq, by rw [lift q hq]; exact h⟩


theorem mem_recAt : ∀ {l : List Rec} {x : Rec}, x ∈ l → ∃ i, recAt l i = some x
  | [], x, h => by cases h
  | r :: l, x, h => by
    rcases List.mem_cons.1 h with rfl | h
    · exact ⟨l.length, by simp [recAt]⟩
    · obtain ⟨i, hi⟩ := mem_recAt h
      have := recAt_lt hi
      exact ⟨i, by simp only [recAt]; rw [if_neg (by omega)]; exact hi⟩

theorem stepD_ok {t : T AV} {m m1 : Mem} {op : Op} {ch : Bool} {v : AV} (hs : stepD C call t m op = some (ch, v, m1)) :
    (ch = true → evOp C call t m op = some (v, m1)) ∧ (ch = false → isCall op = none ∧ evP C t m.h op = some v ∧ m1 = m) := by
  rw [stepD_def] at hs
  cases hi : isCall op with
  | some c =>
    simp only [hi] at hs
    cases he : evOp C call t m op with
    | none => simp [he] at hs
    | some vm =>
      simp only [he, Option.some.injEq, Prod.mk.injEq] at hs
      obtain ⟨rfl, rfl, rfl⟩ := hs
      exact ⟨fun _ => rfl, fun h => by cases h⟩
  | none =>
    simp only [hi] at hs
    cases he : evP C t m.h op with
    | some u =>
      simp only [he, Option.some.injEq, Prod.mk.injEq] at hs
      obtain ⟨rfl, rfl, rfl⟩ := hs
      exact ⟨fun h => (by cases h), fun _ => ⟨rfl, rfl, rfl⟩⟩
    | none =>
      simp only [he] at hs
      cases he' : evE C t m op with
      | none => simp [he'] at hs
      | some vm =>
        simp only [he', Option.some.injEq, Prod.mk.injEq] at hs
        obtain ⟨rfl, rfl, rfl⟩ := hs
        refine ⟨fun _ => ?_, fun h => by cases h⟩
        rw [evOp_def]
        simp only [hi, he, he']

theorem stepL_ok {acc : List Rec} {R b hint : Nat} {kc : Key} {t : T AV} {m : Mem} {op : Op} {st : StL} (h : stepL C call acc R b hint kc t m op = some st) :
    (st.k = 1 ∧ st.m = m ∧ isCall op = none ∧ ∃ Nh, evP C t Nh op = some st.v) ∨
    (st.k = 2 ∧ st.N = dropd R acc m.h ∧ evOp C call t ⟨st.N, m.n⟩ op = some (st.v, ⟨st.N', st.m.n⟩) ∧ st.m.h = radd R m.h acc st.N') ∨
    (st.k = 3 ∧ st.m.n = m.n ∧ ∃ o o', T.get st.key m.h = some o ∧ (∀ q, T.get q st.N = if q = st.key then some o else none) ∧ (∀ q, T.get q st.N' = if q = st.key then some o' else none) ∧ st.m.h = T.put st.key (some o') m.h ∧ ∀ n, evOp C call t ⟨st.N, n⟩ op = some (st.v, ⟨st.N', n⟩)) ∨
    (st.k = 4 ∧ st.key = kc ∧ ∃ ob, st.m = ⟨T.put kc (some ob) m.h, m.n⟩ ∧ lightA C t op kc = some (st.v, ob)) := by
  unfold stepL at h
  cases hz : Nat.beq (Nat.land hint b) 0 with
  | true =>
    simp only [hz, cond_true, dropK_eq] at h
    cases hs : stepD C call t ⟨dropd R acc m.h, m.n⟩ op with
    | none => simp [hs] at h
    | some res =>
      obtain ⟨ch, v, m1⟩ := res
      obtain ⟨h1, h2⟩ := stepD_ok hs
      cases ch with
      | false =>
        simp only [hs, Option.some.injEq] at h
        subst h
        obtain ⟨g1, g2, g3⟩ := h2 rfl
        exact .inl ⟨rfl, rfl, g1, _, g2⟩
      | true =>
        simp only [hs, readd_eq, Option.some.injEq] at h
        subst h
        exact .inr (.inl ⟨rfl, rfl, h1 rfl, rfl⟩)
  | false =>
    simp only [hz, cond_false] at h
    cases hl : lightA C t op kc with
    | some vo =>
      obtain ⟨v, ob⟩ := vo
      simp only [hl, T.putK_eq, Option.some.injEq] at h
      subst h
      exact .inr (.inr (.inr ⟨rfl, rfl, ob, rfl, rfl⟩))
    | none =>
      simp only [hl] at h
      cases op <;> simp only [reduceCtorEq] at h
      rename_i ty a x
      cases ha : evO C t a with
      | none => simp [ha] at h
      | some av =>
        cases av <;> simp only [ha, reduceCtorEq] at h
        rename_i p off
        cases hp : T.get p m.h with
        | none => simp [hp] at h
        | some o =>
          simp only [hp, T.putK_eq] at h
          cases he : evE C t ⟨T.put p (some o) .leaf, m.n⟩ (.store ty a x) with
          | none => simp [he] at h
          | some vm =>
            obtain ⟨v, m1⟩ := vm
            simp only [he] at h
            cases hq : T.get p m1.h with
            | none => simp [hq] at h
            | some o' =>
              simp only [hq, Option.some.injEq] at h
              subst h
              simp only [evE, ha, Option.bind_some] at he
              obtain ⟨xv, hx, he⟩ := bind_some he
              unfold unitA at he
              obtain ⟨m2, hm2, he⟩ := bind_some he
              simp only [Option.some.injEq, Prod.mk.injEq] at he
              obtain ⟨rfl, rfl⟩ := he
              obtain ⟨k1, ⟨o2, k2⟩, k3⟩ := storeA_one hm2
              have ho : o2 = o' := by
                rw [k2, T.get_put, if_pos rfl] at hq
                simpa using hq
              subst ho
              refine .inr (.inr (.inl ⟨rfl, rfl, o, o2, hp, fun q => ?_, fun q => ?_, rfl, fun n => ?_⟩))
              · show T.get q (T.put p (some o) .leaf) = _
                rw [T.get_put]
                by_cases e : q = p
                · rw [if_pos e, if_pos e]
                · rw [if_neg e, if_neg e, T.get_leaf]
              · show T.get q m2.h = _
                rw [k2, T.get_put]
                by_cases e : q = p
                · rw [if_pos e, if_pos e]
                · rw [if_neg e, if_neg e]
                  show T.get q (T.put p (some o) .leaf) = none
                  rw [T.get_put, if_neg e, T.get_leaf]
              · rw [evOp_def]
                simp only [isCall, evP, evE, ha, hx, Option.bind_some, unitA, k3 n]

theorem isLight_iff {R : Nat} {x : Rec} (h : isLight R x = true) : 3 ≤ x.k ∧ Nat.beq (Nat.land R x.b) 0 = true := by
  unfold isLight at h
  obtain ⟨h1, h2⟩ := cond_and h
  exact ⟨Nat.le_of_ble_eq_true h1, h2⟩

theorem ble_false {a b : Nat} (h : Nat.ble a b = false) : b < a := by
  rcases Nat.lt_or_ge b a with h' | h'
  · exact h'
  · rw [Nat.ble_eq_true_of_le h'] at h; cases h

theorem free_ok {q : Key} {k : Nat} {key : Key} {N N' : T AObj} (h : free q k key N N' = true) : (3 ≤ k → q ≠ key) ∧ (k < 3 → T.get q N = none ∧ T.get q N' = none) := by
  unfold free at h
  cases hk : Nat.ble 3 k with
  | true =>
    simp only [hk, cond_true] at h
    have h3 : 3 ≤ k := Nat.le_of_ble_eq_true hk
    refine ⟨fun _ e => ?_, fun h => by omega⟩
    have : Key.eqb q key = true := (Key.eqb_iff _ _).2 e
    rw [this] at h; cases h
  | false =>
    simp only [hk, cond_false] at h
    have := ble_false hk
    refine ⟨fun h => by omega, fun _ => ?_⟩
    cases h1 : T.get q N with
    | some _ => simp [h1] at h
    | none =>
      cases h2 : T.get q N' with
      | some _ => simp [h1, h2] at h
      | none => exact ⟨rfl, rfl⟩

theorem prevD_ok {R k : Nat} {key : Key} {N N' : T AObj} {rr : Rec} (e1 : rr.k = k) (e2 : rr.key = key) (e3 : rr.N = N) (e4 : rr.N' = N') (one : 3 ≤ k → ∀ q, DL rr q → q = key) :
    ∀ {acc : List Rec}, (∀ i x, recAt acc i = some x → x.b = Nat.pow 2 i) → (∀ x ∈ acc, 3 ≤ x.k → ∀ q, DL x q → q = x.key) → (∀ i x, recAt acc i = some x → R.testBit i = true ∨ ¬ (x.k = 2 ∧ k = 2)) → prevD R k key N N' acc = true →
    ∀ i x, recAt acc i = some x → R.testBit i = true ∨ (2 ≤ x.k → 2 ≤ k → ∀ q, DL x q → DL rr q → False)
  | [], hb, ho, hp, h, i, x, hx => by simp [recAt] at hx
  | r :: acc, hb, ho, hp, h, i, x, hx => by
    have up : ∀ i x, recAt acc i = some x → recAt (r :: acc) i = some x := fun i x h => by
      simp only [recAt]
      have := recAt_lt h
      rw [if_neg (by omega)]; exact h
    have ih := prevD_ok (acc := acc) e1 e2 e3 e4 one (fun i x h => hb i x (up i x h)) (fun x hx => ho x (by simp [hx])) (fun i x h => hp i x (up i x h))
    have hr : r.b = Nat.pow 2 acc.length := hb acc.length r (by simp [recAt])
    have hx' := hx
    simp only [recAt] at hx
    simp only [prevD] at h
    cases hz : Nat.beq (Nat.land R r.b) 0 with
    | false =>
      simp only [hz, cond_false] at h
      split at hx
      · rename_i c
        left
        rw [hr] at hz
        rw [c]
        exact land_pow hz
      · exact ih h i x hx
    | true =>
      simp only [hz, cond_true] at h
      obtain ⟨ha, h⟩ := cond_and h
      split at hx
      · cases hx
        rcases hp i r hx' with hbit | hnn
        · exact .inl hbit
        · right
          intro h2 h2' q d1 d2
          cases h3 : Nat.ble 3 r.k with
          | true =>
            simp only [h3, cond_true, Nat.ble_eq_true_of_le h2'] at ha
            have := ho r (by simp) (Nat.le_of_ble_eq_true h3) q d1
            subst this
            obtain ⟨f1, f2⟩ := free_ok ha
            rcases Nat.lt_or_ge k 3 with hk | hk
            · obtain ⟨g1, g2⟩ := f2 hk
              unfold DL at d2
              rw [if_neg (by omega), e3, e4, g1, g2] at d2
              simp at d2
            · exact f1 hk (one hk _ d2)
          | false =>
            have hlt := ble_false h3
            have hr2 : r.k = 2 := by omega
            have hk3 : 3 ≤ k := by omega
            have e2' : Nat.beq r.k 2 = true := by rw [hr2]; rfl
            simp only [h3, cond_false, e2', cond_true, Nat.ble_eq_true_of_le hk3] at ha
            obtain ⟨g1, g2⟩ := (free_ok ha).2 (by omega)
            have := one hk3 q d2
            subst this
            unfold DL at d1
            rw [if_neg (by omega), g1, g2] at d1
            simp at d1
      · exact ih h i x hx

theorem GoodL.one : ∀ {acc : List Rec} {t : T AV} {m : Mem}, GoodL C call nt ops lo t0 m0 acc t m → ∀ x ∈ acc, 3 ≤ x.k → ∀ q, DL x q → q = x.key
  | [], t, m, g, x, hx => by cases hx
  | r :: acc, t, m, g, x, hx => by
    rcases List.mem_cons.1 hx with rfl | hx
    · exact g.1.one
    · exact GoodL.one g.2 x hx

theorem prevD_free {R k : Nat} {key : Key} {N N' : T AObj} : ∀ {acc : List Rec}, prevD R k key N N' acc = true → ∀ x ∈ acc, isLight R x = true → 2 ≤ k → free x.key k key N N' = true
  | [], h, x, hx, hl, hk => by cases hx
  | r :: acc, h, x, hx, hl, hk => by
    simp only [prevD] at h
    rcases List.mem_cons.1 hx with rfl | hx
    · obtain ⟨h3, hz⟩ := isLight_iff hl
      simp only [hz, cond_true, Nat.ble_eq_true_of_le h3, Nat.ble_eq_true_of_le hk] at h
      exact (cond_and h).1
    · refine prevD_free ?_ x hx hl hk
      cases hz : Nat.beq (Nat.land R r.b) 0 with
      | true => simp only [hz, cond_true] at h; exact (cond_and h).2
      | false => simp only [hz, cond_false] at h; exact h

theorem heapL {acc : List Rec} {R : Nat} {kc : Key} {t : T AV} {m : Mem} {op : Op} {st : StL} {rr : Rec} (ek : rr.k = st.k) (ekey : rr.key = st.key) (eN : rr.N = st.N) (eN' : rr.N' = st.N') (em : rr.m = m)
    (hk : (st.k = 1 ∧ st.m = m ∧ isCall op = none ∧ ∃ Nh, evP C t Nh op = some st.v) ∨
    (st.k = 2 ∧ st.N = dropd R acc m.h ∧ evOp C call t ⟨st.N, m.n⟩ op = some (st.v, ⟨st.N', st.m.n⟩) ∧ st.m.h = radd R m.h acc st.N') ∨
    (st.k = 3 ∧ st.m.n = m.n ∧ ∃ o o', T.get st.key m.h = some o ∧ (∀ q, T.get q st.N = if q = st.key then some o else none) ∧ (∀ q, T.get q st.N' = if q = st.key then some o' else none) ∧ st.m.h = T.put st.key (some o') m.h ∧ ∀ n, evOp C call t ⟨st.N, n⟩ op = some (st.v, ⟨st.N', n⟩)) ∨
    (st.k = 4 ∧ st.key = kc ∧ ∃ ob, st.m = ⟨T.put kc (some ob) m.h, m.n⟩ ∧ lightA C t op kc = some (st.v, ob)))
    (hf : ∀ x ∈ acc, isLight R x = true → 2 ≤ st.k → free x.key st.k st.key st.N st.N' = true) (q : Key) :
    T.get q st.m.h = open Classical in if 2 ≤ rr.k ∧ DL rr q then XL rr st.m q else T.get q rr.m.h := by
  rw [em, ek]
  rcases hk with ⟨k, k2, _⟩ | ⟨k, k2, k3, k4⟩ | ⟨k, k2, o1, o2, k3, k4, k5, k6, k7⟩ | ⟨k, k2, ob, k3, k4⟩
  · rw [if_neg (by omega), k2]
  · have hDL : DL rr q ↔ (T.get q st.N ≠ none ∨ T.get q st.N' ≠ none) := by unfold DL; rw [if_neg (by omega), eN, eN']
    have hXL : XL rr st.m q = T.get q st.N' := by unfold XL; rw [if_neg (by omega), eN']
    rw [hXL, k4, radd_get]
    by_cases hdr : ∃ r ∈ acc, isLight R r = true ∧ r.key = q
    · rw [if_pos hdr, if_neg]
      rintro ⟨_, hq⟩
      obtain ⟨x, hx, hli, hxk⟩ := hdr
      obtain ⟨g1, g2⟩ := (free_ok (hf x hx hli (by omega))).2 (by omega)
      rw [hxk] at g1 g2
      rw [hDL, g1, g2] at hq
      simp at hq
    · rw [if_neg hdr]
      have hN : T.get q st.N = T.get q m.h := by rw [k2, dropd_get, if_neg hdr]
      by_cases hq : DL rr q
      · rw [if_pos ⟨by omega, hq⟩]
      · rw [if_neg fun h => hq h.2]
        have hq' : ¬ (T.get q st.N ≠ none ∨ T.get q st.N' ≠ none) := fun h => hq (hDL.2 h)
        have e1 : T.get q st.N = none := Classical.byContradiction fun h => hq' (.inl h)
        have e2 : T.get q st.N' = none := Classical.byContradiction fun h => hq' (.inr h)
        rw [e2, ← hN, e1]
  · have hDL : DL rr q ↔ q = st.key := by
      unfold DL
      rw [if_neg (by omega), eN, eN', k4, k5]
      by_cases e : q = st.key
      · simp [e]
      · simp [e]
    have hXL : XL rr st.m q = T.get q st.N' := by unfold XL; rw [if_neg (by omega), eN']
    rw [hXL, k6, T.get_put, k5]
    by_cases e : q = st.key
    · rw [if_pos e, if_pos ⟨by omega, hDL.2 e⟩, if_pos e]
    · rw [if_neg e, if_neg fun h => e (hDL.1 h.2)]
  · have hDL : DL rr q ↔ q = kc := by unfold DL; rw [if_pos (by omega), ekey, k2]
    have hXL : XL rr st.m q = some ob := by unfold XL; rw [if_pos (by omega), ekey, k2, k3]; simp only; rw [T.get_put, if_pos rfl]
    rw [hXL, k3]
    simp only
    rw [T.get_put]
    by_cases e : q = kc
    · rw [if_pos e, if_pos ⟨by omega, hDL.2 e⟩]
    · rw [if_neg e, if_neg fun h => e (hDL.1 h.2)]

theorem runL_ok {hint : Nat} : ∀ (l : List Oper) {j b : Nat} {kc kc' : Key} {acc rs : List Rec} {t t' : T AV} {m m' : Mem}, j = acc.length → b = Nat.pow 2 acc.length → kc.toNat = lo + acc.length → ops.toList.drop acc.length = l → GoodL C call nt ops lo t0 m0 acc t m →
    runL C call nt ops.toList hint l j b kc acc t m = some (rs, t', m', kc') → GoodL C call nt ops lo t0 m0 rs t' m' ∧ rs.length = acc.length + l.length
  | [], j, b, kc, kc', acc, rs, t, t', m, m', hj, hb, hkc, hl, g, h => by
    simp only [runL, Option.some.injEq, Prod.mk.injEq] at h
    obtain ⟨rfl, rfl, rfl, rfl⟩ := h
    exact ⟨g, by simp⟩
  | o :: os, j, b, kc, kc', acc, rs, t, t', m, m', hj, hb, hkc, hl, g, h => by
    have ho : ops[acc.length]? = some o := by
      rw [← Array.getElem?_toList]
      have := congrArg (fun l => l[0]?) hl
      simpa using this
    have hl' : ops.toList.drop (acc.length + 1) = os := by
      have := congrArg List.tail hl
      simpa using this
    have hbits := GoodL.bits (t := t) (m := m) g
    have hone := GoodL.one g
    simp only [runL] at h
    cases hR : edgeR acc j o.after.toList 0 with
    | none => simp [hR] at h
    | some R =>
      simp only [hR, fN_eq, fKey_eq] at h
      obtain ⟨hback, hreach⟩ := edgeR_ok hj hbits hR
      have back : ∀ e ∈ o.after, Region.binds .any e = true → e.on < acc.length := fun e he hbi => by rw [← hj]; exact hback e (by simpa using he) hbi
      have reach : ∀ i, R.testBit i = true → ∃ e ∈ o.after, Region.binds .any e = true ∧ (i = e.on ∨ ∃ x, recAt acc e.on = some x ∧ x.R.testBit i = true) := fun i hi => by
        rcases hreach i hi with h | ⟨e, he, h⟩
        · simp at h
        · exact ⟨e, by simpa using he, h⟩
      have hnext : ∀ (r : Rec) (t1 : T AV) (m1 : Mem), r.t = t → r.m = m → RecOKL C call nt ops lo r acc t1 m1 → runL C call nt ops.toList hint os (Nat.succ j) (Nat.mul 2 b) (Key.succ kc) (r :: acc) t1 m1 = some (rs, t', m', kc') → GoodL C call nt ops lo t0 m0 rs t' m' ∧ rs.length = acc.length + (o :: os).length := by
        intro r t1 m1 et em hr h
        have := runL_ok os (acc := r :: acc) (by simp [hj]) (by simp [hb]; show 2 * 2 ^ acc.length = 2 ^ (acc.length + 1); rw [Nat.pow_succ]; omega) (by rw [Key.toNat_succ, hkc]; simp; omega) (by simp only [List.length_cons]; exact hl') ⟨hr, by rw [et, em]; exact g⟩ h
        exact ⟨this.1, by rw [this.2]; simp; omega⟩
      cases hw : wantA ops.toList t o.guard with
      | none => simp [hw] at h
      | some w =>
        cases w with
        | false =>
          simp only [hw] at h
          obtain ⟨hp, h⟩ := cond_some h
          cases hput : putT nt t o.dst (.tup []) with
          | none => simp [hput] at h
          | some t1 =>
            simp only [hput] at h
            exact hnext _ _ _ rfl rfl ⟨ho, hb, back, reach, fun s hs => looks_bit hs, fun d hd => dM_bit hd, prevOK_ok (k := 0) (by omega) hbits hp, fun i x hx => .inr fun h1 h2 => by simp at h2, hput, fun h => by simp at h, fun q => by rw [if_neg (by simp)], fun _ => rfl, fun h => by simp at h, rfl, rfl, .inl ⟨hw, rfl, rfl⟩⟩ h
        | true =>
          simp only [hw] at h
          cases hs : stepL C call acc R b hint kc t m o.op with
          | none => simp [hs] at h
          | some st =>
            simp only [hs] at h
            obtain ⟨hp, h⟩ := cond_some h
            obtain ⟨hd, h⟩ := cond_some h
            cases hput : putT nt t o.dst st.v with
            | none => simp [hput] at h
            | some t1 =>
              simp only [hput] at h
              have hprev := prevOK_ok (R := R) (k := st.k) (ch := Nat.beq st.k 2) (fun e => by rw [e]; rfl) hbits hp
              have hc : (bif Nat.beq st.k 2 then Nat.lor (cOf acc) b else cOf acc) = if st.k = 2 then Nat.lor (cOf acc) b else cOf acc := by
                rw [nbeq]; by_cases e : st.k = 2 <;> simp [e]
              have hcs : (bif Nat.beq st.k 2 then Nat.lor (sOf acc) R else sOf acc) = if st.k = 2 then Nat.lor (sOf acc) R else sOf acc := by
                rw [nbeq]; by_cases e : st.k = 2 <;> simp [e]
              have hkinds := stepL_ok hs
              have hone' : 3 ≤ st.k → ∀ q, DL ⟨o, b, R, Nat.lor (gM ops.toList o.guard) (mks (opL o.op)), dM o.dst, st.k, st.v, t, m, bif Nat.beq st.k 2 then Nat.lor (cOf acc) b else cOf acc, bif Nat.beq st.k 2 then Nat.lor (sOf acc) R else sOf acc, st.key, st.N, st.N'⟩ q → q = st.key := by
                intro h3 q hq
                unfold DL at hq
                simp only at hq
                rcases hkinds with ⟨k, _⟩ | ⟨k, _⟩ | ⟨k, k2, o1, o2, k3, k4, k5, k6, k7⟩ | ⟨k, _⟩
                · omega
                · omega
                · rw [if_neg (by omega), k4, k5] at hq
                  by_cases e : q = st.key
                  · exact e
                  · rw [if_neg e, if_neg e] at hq; simp at hq
                · rw [if_pos k] at hq; exact hq
              have hpd := prevD_ok (rr := ⟨o, b, R, Nat.lor (gM ops.toList o.guard) (mks (opL o.op)), dM o.dst, st.k, st.v, t, m, bif Nat.beq st.k 2 then Nat.lor (cOf acc) b else cOf acc, bif Nat.beq st.k 2 then Nat.lor (sOf acc) R else sOf acc, st.key, st.N, st.N'⟩) rfl rfl rfl rfl hone' hbits hone (fun i x hx => (hprev i x hx).imp id fun h => h.2.2) hd
              refine hnext _ _ _ rfl rfl ⟨ho, hb, back, reach, fun s hs => looks_bit hs, fun d hd => dM_bit hd, hprev, hpd, hput, hone', ?_, ?_, ?_, hc, hcs, ?_⟩ h
              · exact heapL rfl rfl rfl rfl rfl hkinds (fun x hx h1 h2 => prevD_free hd x hx h1 h2)
              · intro hk
                rcases hkinds with ⟨k, k2, _⟩ | ⟨k, k2, k3, k4⟩ | ⟨k, k2, o1, o2, k3, k4, k5, k6, k7⟩ | ⟨k, k2, ob, k3, k4⟩
                · rw [k2]
                · exact absurd k hk
                · exact k2
                · rw [k3]
              · intro hk
                rcases hkinds with ⟨k, k2, _⟩ | ⟨k, k2, k3, k4⟩ | ⟨k, k2, o1, o2, k3, k4, k5, k6, k7⟩ | ⟨k, k2, ob, k3, k4⟩
                · simp only at hk; omega
                · simp only at hk; omega
                · simp only at hk; omega
                · simp only [k2]; exact hkc
              · rcases hkinds with ⟨k, k2, k3, k4⟩ | ⟨k, k2, k3, k4⟩ | ⟨k, k2, o1, o2, k3, k4, k5, k6, k7⟩ | ⟨k, k2, ob, k3, k4⟩
                · exact .inr (.inl ⟨hw, k, k3, k4⟩)
                · refine .inr (.inr (.inl ⟨hw, .inl k, fun q o1 hq => ?_, fun _ => k3, fun h => by simp only at h; omega⟩))
                  simp only [k2, dropd_get] at hq
                  split at hq
                  · cases hq
                  · exact hq
                · refine .inr (.inr (.inl ⟨hw, .inr k, fun q o3 hq => ?_, fun h => by simp only at h; omega, fun _ => k7⟩))
                  simp only [k4] at hq
                  split at hq
                  · rename_i e; rw [e, k3]; exact hq
                  · cases hq
                · refine .inr (.inr (.inr ⟨hw, k, ob, ?_, by simp only [k2]; exact k4⟩))
                  simp only [k2, k3]
                  rw [T.get_put, if_pos rfl]

end
end
end Go.Ev
set_option linter.unusedVariables false
set_option linter.unusedSimpArgs false
namespace Go.Ev
noncomputable section
section
variable {C : Cx} {call : CallF} {nt : Nat} {ops : Array Oper} {lo : Nat} {t0 : T AV} {m0 : Mem}

theorem ownR_ok {R : Nat} {key : Key} : ∀ {l : List Rec}, ownR R key l = true → ∀ z ∈ l, 2 ≤ z.k → (3 ≤ z.k → ∀ q, DL z q → q = z.key) → DL z key → Nat.beq (Nat.land R z.b) 0 = false
  | [], h, z, hz, _, _, _ => by cases hz
  | x :: l, h, z, hz, hk, ho, hd => by
    simp only [ownR] at h
    rcases List.mem_cons.1 hz with rfl | hz
    · rw [Nat.ble_eq_true_of_le hk] at h
      simp only [cond_true] at h
      have h := (cond_and h).1
      cases hb : Nat.beq (Nat.land R z.b) 0 with
      | false => rfl
      | true =>
        exfalso
        simp only [hb, cond_true] at h
        obtain ⟨f1, f2⟩ := free_ok h
        rcases Nat.lt_or_ge z.k 3 with c | c
        · obtain ⟨g1, g2⟩ := f2 c
          unfold DL at hd
          rw [if_neg (by omega), g1, g2] at hd
          simp at hd
        · exact f1 c (ho c _ hd)
    · refine ownR_ok ?_ z hz hk ho hd
      cases hb : Nat.ble 2 x.k with
      | true => simp only [hb, cond_true] at h; exact (cond_and h).2
      | false => simp only [hb, cond_false] at h; exact h

theorem addR_ok {R : Nat} {mf : T AObj} {rs : List Rec} : ∀ (l : List Rec) (h : T AObj), ∃ N, (∀ {β : Type} (c : T AObj → β), addR R mf rs l h c = c N) ∧ ∀ q o, T.get q N = some o → T.get q h = some o ∨ (T.get q mf = some o ∧ ownR R q rs = true)
  | [], h => ⟨h, fun c => rfl, fun q o e => .inl e⟩
  | x :: l, h => by
    cases h1 : Nat.beq x.k 4 with
    | false =>
      obtain ⟨N, e1, e2⟩ := addR_ok l h
      exact ⟨N, fun c => by simp only [addR, h1, cond_false]; exact e1 c, e2⟩
    | true =>
      cases h2 : ownR R x.key rs with
      | false =>
        obtain ⟨N, e1, e2⟩ := addR_ok l h
        exact ⟨N, fun c => by simp only [addR, h1, h2, cond_true, cond_false]; exact e1 c, e2⟩
      | true =>
        cases h3 : T.get x.key mf with
        | none =>
          obtain ⟨N, e1, e2⟩ := addR_ok l h
          exact ⟨N, fun c => by simp only [addR, h1, h2, h3, cond_true]; exact e1 c, e2⟩
        | some o =>
          obtain ⟨N, e1, e2⟩ := addR_ok l (T.put x.key (some o) h)
          refine ⟨N, fun c => by simp only [addR, h1, h2, h3, cond_true, T.putK_eq]; exact e1 c, fun q o' e => ?_⟩
          rcases e2 q o' e with e | e
          · rw [T.get_put] at e
            by_cases eq : q = x.key
            · rw [if_pos eq] at e
              rw [eq]
              exact .inr ⟨h3.trans e, h2⟩
            · rw [if_neg eq] at e
              exact .inl e
          · exact .inr e

theorem rdAtL_ok {rs : List Rec} {mf : T AObj} {r : Rec} {c : Nat} : ∀ {B : List (Nat × Nat × Nat × Mem)}, rdAtL C rs mf r c B = true → ∀ {cp sp pb : Nat} {mp : Mem}, (cp, sp, pb, mp) ∈ B → Nat.land r.R c = Nat.land r.R cp → Nat.beq (Nat.land sp r.b) 0 = true →
    ∃ N, (∀ q o, T.get q N = some o → T.get q (dropdR r.R pb rs mp.h) = some o ∨ (T.get q mf = some o ∧ ownR r.R q rs = true)) ∧ evP C r.t N r.o.op = some r.v
  | [], h, cp, sp, pb, mp, hm, h2, h3 => by cases hm
  | (a, b, pc, d) :: l, h, cp, sp, pb, mp, hm, h2, h3 => by
    simp only [rdAtL] at h
    obtain ⟨h, hl⟩ := cond_and h
    rcases List.mem_cons.1 hm with e | hm
    · cases e
      have e2 : Nat.beq (Nat.land r.R c) (Nat.land r.R a) = true := by rw [nbeq]; simpa using h2
      simp only [e2, h3, cond_true, dropR_eq] at h
      cases he : evP C r.t (dropdR r.R pc rs d.h) r.o.op with
      | some v => simp only [he] at h; exact ⟨_, fun q o e => .inl e, by rw [he, AV.eqb_ok h]⟩
      | none =>
        simp only [he] at h
        obtain ⟨N, e1, e3⟩ := addR_ok (R := r.R) (mf := mf) (rs := rs) rs (dropdR r.R pc rs d.h)
        rw [e1] at h
        cases hn : evP C r.t N r.o.op with
        | none => simp [hn] at h
        | some v => simp only [hn] at h; exact ⟨N, e3, by rw [hn, AV.eqb_ok h]⟩
    · exact rdAtL_ok hl hm h2 h3

theorem rdOKL_ok {rs : List Rec} {mf : T AObj} {c : Nat} {B : List (Nat × Nat × Nat × Mem)} : ∀ {l : List Rec}, rdOKL C rs mf c B l = true → ∀ {i : Nat} {r : Rec}, recAt l i = some r → r.k = 1 → readsH r.o.op = true → rdAtL C rs mf r c B = true
  | [], h, i, r, hr, hk, hh => by simp [recAt] at hr
  | x :: l, h, i, r, hr, hk, hh => by
    have hd : rdOKL C rs mf c B l = true ∧ (x.k = 1 → readsH x.o.op = true → rdAtL C rs mf x c B = true) := by
      simp only [rdOKL] at h
      cases h1 : Nat.beq x.k 1 with
      | false => simp only [h1, cond_false] at h; exact ⟨h, fun e => by rw [e] at h1; cases h1⟩
      | true =>
        cases h2 : readsH x.o.op with
        | false => simp only [h1, h2, cond_true, cond_false] at h; exact ⟨h, fun _ e => by cases e⟩
        | true =>
          simp only [h1, h2, cond_true] at h
          obtain ⟨h3, h4⟩ := cond_and h
          exact ⟨h4, fun _ _ => h3⟩
    simp only [recAt] at hr
    split at hr
    · cases hr; exact hd.2 hk hh
    · exact rdOKL_ok hd.1 hr hk hh

theorem recAt_mem : ∀ {l : List Rec} {i : Nat} {x : Rec}, recAt l i = some x → x ∈ l
  | [], i, x, h => by simp [recAt] at h
  | r :: l, i, x, h => by
    simp only [recAt] at h
    split at h
    · cases h; simp
    · exact List.mem_cons_of_mem _ (recAt_mem h)

theorem pow_lt_pow {a b : Nat} (h : Nat.pow 2 a < Nat.pow 2 b) : a < b := by
  rcases Nat.lt_or_ge a b with h' | h'
  · exact h'
  · have : (2 : Nat) ^ b ≤ 2 ^ a := Nat.pow_le_pow_right (by omega) h'
    have h2 : (2 : Nat) ^ a < 2 ^ b := h
    omega

theorem skipK_all : ∀ (l : List Oper) (k : Key), ∃ k' : Key, k'.toNat = k.toNat + l.length ∧ ∀ {β : Type} (c : Key → β), skipK l k c = c k'
  | [], k => ⟨k, by simp, fun c => rfl⟩
  | _ :: l, k => by
    obtain ⟨k', h1, h2⟩ := skipK_all l k.succ
    exact ⟨k', by rw [h1, Key.toNat_succ]; simp; omega, fun c => by simp only [skipK, fKey_eq]; exact h2 c⟩

def planL_of {rs : List Rec} {t1 : T AV} {m1 : Mem} {top : Key} (g : GoodL C call nt ops lo t0 m0 rs t1 m1) (hn : rs.length = ops.size) (hrd : rdOKL C rs m1.h (cOf rs) (bndL rs m1) rs = true)
    (htop : top.toNat = lo + ops.size) : PlanL C call nt ops t0 (fun q => T.get q m0.h) m0.n top lo t1 (fun q => T.get q m1.h) m1.n where
  Tf := TF rs t1
  F j q := T.get q (MF rs m1 j).h
  Nn j := (MF rs m1 j).n
  R j i := ∃ r, recAt rs j = some r ∧ r.R.testBit i = true
  K j := match recAt rs j with | some r => r.k | none => 0
  V j := match recAt rs j with | some r => r.v | none => .nilP
  D j q := match recAt rs j with | some r => DL r q | none => False
  X j q := match recAt rs j with | some r => XL r (MF rs m1 (j + 1)) q | none => none
  N j := match recAt rs j with | some r => r.N | none => .leaf
  N' j := match recAt rs j with | some r => r.N' | none => .leaf
  key j := match recAt rs j with | some r => r.key | none => .h
  T0 := (GoodL.zero g).1
  F0 := by funext q; rw [(GoodL.zero g).2]
  N0 := by rw [(GoodL.zero g).2]
  Tn := by rw [← hn]; exact TF_len
  Fn := by funext q; rw [← hn, MF_len]
  Nnn := by rw [← hn, MF_len]
  lotop := by omega
  back j o ho e he hb := by
    obtain ⟨r, hr⟩ := recAt_some (l := rs) (i := j) (by rw [hn]; exact (Array.getElem?_eq_some_iff.1 ho).1)
    obtain ⟨acc, h1, h2, h3, h4, h5⟩ := GoodL.get g hr
    have ha := h2.at_
    rw [h1, ho] at ha
    cases ha
    have := h2.back e he hb
    omega
  reach j o i ho hR := by
    obtain ⟨r, hr, hb⟩ := hR
    obtain ⟨acc, h1, h2, h3, h4, h5⟩ := GoodL.get g hr
    have ha := h2.at_
    rw [h1, ho] at ha
    cases ha
    obtain ⟨e, he, hbe, h⟩ := h2.reach i hb
    refine ⟨e, he, hbe, ?_⟩
    rcases h with h | ⟨x, hx, hx2⟩
    · exact .inl h
    · have := recAt_lt hx
      exact .inr ⟨x, by rw [← h5 _ (by omega)]; exact hx, hx2⟩
  look1 i j oi oj hij hoi hoj := by
    have hj : j < rs.length := by rw [hn]; exact (Array.getElem?_eq_some_iff.1 hoj).1
    obtain ⟨r, hr⟩ := recAt_some hj
    obtain ⟨x, hx⟩ := recAt_some (l := rs) (i := i) (by omega)
    obtain ⟨acc, h1, h2, h3, h4, h5⟩ := GoodL.get g hr
    obtain ⟨acc', k1, k2, _, _, _⟩ := GoodL.get g hx
    have ha := h2.at_
    rw [h1, hoj] at ha
    cases ha
    have hb := k2.at_
    rw [k1, hoi] at hb
    cases hb
    have hx' : recAt acc i = some x := by rw [h5 i hij]; exact hx
    rcases h2.prev i x hx' with h | ⟨p1, p2, p3⟩
    · exact .inl ⟨r, hr, h⟩
    · rcases h2.prevd i x hx' with h | p4
      · exact .inl ⟨r, hr, h⟩
      · refine .inr ⟨fun d hd => ⟨fun hm => ?_, fun e => ?_⟩, fun d hd hm => ?_, fun hk => ?_, ?_⟩
        · have := (p1 d (k2.dm d hd)).1
          rw [h2.lk d hm] at this; cases this
        · have := (p1 d (k2.dm d hd)).2
          rw [h2.dm d e] at this; cases this
        · have := p2 d (h2.dm d hd)
          rw [k2.lk d hm] at this; cases this
        · simp only [hr, hx] at hk
          exact p3 hk
        · simp only [hr, hx]
          exact p4
  keys i j hij hj hki hkj := by
    obtain ⟨r, hr⟩ := recAt_some (l := rs) (i := j) (by omega)
    obtain ⟨x, hx⟩ := recAt_some (l := rs) (i := i) (by omega)
    obtain ⟨acc, h1, h2, _⟩ := GoodL.get g hr
    obtain ⟨acc', k1, k2, _⟩ := GoodL.get g hx
    simp only [hr] at hkj
    simp only [hx] at hki
    simp only [hr, hx]
    intro e
    have e1 := h2.keyn hkj
    have e2 := k2.keyn hki
    rw [e] at e2
    omega
  keyn j hk := by
    cases hr : recAt rs j with
    | none => simp only [hr] at hk; omega
    | some r =>
      obtain ⟨acc, h1, h2, _⟩ := GoodL.get g hr
      simp only [hr] at hk ⊢
      have := h2.keyn hk
      have hlt := recAt_lt hr
      omega
  put j o ho := by
    obtain ⟨r, hr⟩ := recAt_some (l := rs) (i := j) (by rw [hn]; exact (Array.getElem?_eq_some_iff.1 ho).1)
    obtain ⟨acc, h1, h2, h3, h4, h5⟩ := GoodL.get g hr
    have ha := h2.at_
    rw [h1, ho] at ha
    cases ha
    simp only [hr]
    rw [h3]
    exact h2.put
  heap j hj q := by
    obtain ⟨r, hr⟩ := recAt_some (l := rs) (i := j) (by omega)
    obtain ⟨acc, h1, h2, h3, h4, h5⟩ := GoodL.get g hr
    have e := h2.heap q
    rw [← h4] at e
    by_cases c : 2 ≤ r.k ∧ DL r q
    · rw [if_pos c] at e
      rw [if_pos (by simp only [hr]; exact c)]
      simp only [hr]
      exact e
    · rw [if_neg c] at e
      rw [if_neg (by simp only [hr]; exact c)]
      exact e
  cnt j hj hk := by
    obtain ⟨r, hr⟩ := recAt_some (l := rs) (i := j) (by omega)
    obtain ⟨acc, h1, h2, h3, h4, h5⟩ := GoodL.get g hr
    simp only [hr] at hk
    rw [h4]
    exact h2.cnt hk
  kind j o ho := by
    have hjn : j < rs.length := by rw [hn]; exact (Array.getElem?_eq_some_iff.1 ho).1
    obtain ⟨r, hr⟩ := recAt_some hjn
    obtain ⟨acc, h1, h2, h3, h4, h5⟩ := GoodL.get g hr
    have ha := h2.at_
    rw [h1, ho] at ha
    cases ha
    simp only [hr]
    rw [h3]
    rcases h2.kind with ⟨a, b, c⟩ | ⟨a, b, c, Nh, d⟩ | ⟨a, b, c, d, e⟩ | ⟨a, b, ob, c, d⟩
    · exact .inl ⟨a, b, c⟩
    · refine .inr (.inl ⟨a, b, fun p hp hpb hf1 hf2 => ?_⟩)
      cases hread : readsH r.o.op with
      | false =>
        refine ⟨.leaf, fun q o h => by simp [T.get_leaf] at h, fun n => ?_⟩
        rw [evOp_def]
        simp only [c]
        rw [evP_indep hread (h' := Nh), d]
      | true =>
        have hchk := rdOKL_ok hrd hr b hread
        have hpb' : p = 0 ∨ (0 < p ∧ ∃ r, recAt rs (p - 1) = some r ∧ r.k = 2) := by
          rcases hpb with h | ⟨h0, hk⟩
          · exact .inl h
          · obtain ⟨x, hx⟩ := recAt_some (l := rs) (i := p - 1) (by omega)
            simp only [hx] at hk
            exact .inr ⟨h0, x, hx, hk⟩
        obtain ⟨c', s', hm, hc, hs⟩ := bndL_mem g (by rw [hn]; exact hp) hpb'
        have hb := h2.b
        rw [h1] at hb
        have hev := rdAtL_ok hchk hm (by
          apply Nat.eq_of_testBit_eq
          intro i
          rw [land_bit, land_bit]
          cases hRi : r.R.testBit i with
          | false => rfl
          | true =>
            simp only [Bool.true_and]
            have e1 := GoodL.cspec g i
            have e2 := hc i
            cases hci : c'.testBit i with
            | true =>
              rw [hci] at e2
              rw [e1.2 (e2.1 rfl).2]
            | false =>
              cases hcf : (cOf rs).testBit i with
              | false => rfl
              | true =>
                exfalso
                obtain ⟨x, hx, hxk⟩ := e1.1 hcf
                have hlt := recAt_lt hx
                have hip : i < p := hf1 i (by omega) (by simp only [hx]; exact hxk) ⟨r, rfl, hRi⟩
                have := e2.2 ⟨hip, x, hx, hxk⟩
                rw [hci] at this; cases this) (by
          cases hz : Nat.beq (Nat.land s' r.b) 0 with
          | true => rfl
          | false =>
            exfalso
            rw [hb] at hz
            obtain ⟨q, x, hq, hx, hxk, hxR⟩ := hs j (land_pow hz)
            exact hf2 q hq (by simp only [hx]; exact hxk) ⟨x, hx, hxR⟩)
        obtain ⟨N, hN, hev⟩ := hev
        refine ⟨N, fun q o hq => ?_, fun n => ?_⟩
        rotate_left
        · rw [evOp_def]
          simp only [c]
          rw [hev]
        · rcases hN q o hq with hq | ⟨hq, hown⟩
          rotate_left
          · right
            refine ⟨?_, fun i hi hk hd => ?_⟩
            · rw [← hn, MF_len]; exact hq
            · cases hx : recAt rs i with
              | none => simp only [hx] at hd
              | some x =>
                simp only [hx] at hd hk
                have hxm := recAt_mem hx
                have z1 := ownR_ok hown x hxm hk (GoodL.one g x hxm) hd
                have hxb := GoodL.bits (t := t1) (m := m1) g i x hx
                rw [hxb] at z1
                exact ⟨r, rfl, land_pow z1⟩
          left
          obtain ⟨e1, e2⟩ := dropdR_get rs _ q o hq
          refine ⟨e1, fun i hi hk hd => ?_⟩
          cases hx : recAt rs i with
          | none => simp only [hx] at hd
          | some x =>
            simp only [hx] at hd hk
            have hxm := recAt_mem hx
            have hkey := GoodL.one g x hxm hk q hd
            obtain ⟨z1, z2⟩ := e2 x hxm hk hkey.symm
            have hxb := GoodL.bits (t := t1) (m := m1) g i x hx
            rw [hxb] at z1 z2
            exact ⟨⟨r, rfl, land_pow z1⟩, pow_lt_pow z2⟩
    · refine .inr (.inr (.inl ⟨a, b, fun q o hq => ?_, fun q => ?_, fun q => ?_, ?_, e⟩))
      · rw [h4]; exact c q o hq
      · unfold DL; rw [if_neg (by omega)]
      · unfold XL; rw [if_neg (by omega)]
      · intro hk
        rw [h4]
        exact d hk
    · refine .inr (.inr (.inr ⟨a, b, fun q => ?_, ob, fun q => ?_, d⟩))
      · unfold DL; rw [if_pos b]
      · unfold XL; rw [if_pos b]; exact c
end

theorem drawnL_ok {C : Cx} {G : Nat → Nat} {w0 : World} (ok : C.Fine G w0) {call : CallF} (hc : CallsOK G w0 C.P call) {ro : Option Nat} {nt hint : Nat} (hnt : nt ≤ 1000000) : DrawAny G w0 C.P ro nt (drawnL C call nt hint) := by
  intro ops t m t' m' h0 ρ a w D rt hd r
  have h : drawnL C call nt hint ops t m = some (t', m') := h0
  clear h0
  unfold drawnL at h
  obtain ⟨top, htop, hskip⟩ := skipK_all ops.toList m.n
  rw [hskip] at h
  simp only [fKey_eq] at h
  cases hr : runL C call nt ops.toList hint ops.toList 0 1 m.n [] t ⟨m.h, top.succ⟩ with
  | none => simp [hr] at h
  | some res =>
    obtain ⟨rs, t1, m1, kc⟩ := res
    simp only [hr, fL_eq] at h
    obtain ⟨hrd, h⟩ := cond_some h
    simp only [Option.some.injEq, Prod.mk.injEq] at h
    obtain ⟨rfl, rfl⟩ := h
    obtain ⟨hg, hlen⟩ := runL_ok (t0 := t) (m0 := ⟨m.h, top.succ⟩) (lo := m.n.toNat) ops.toList (acc := []) rfl rfl (by simp) rfl ⟨rfl, rfl⟩ hr
    simp at hlen htop
    have pl := planL_of hg hlen hrd htop
    -- the last kept name is used
    have hnone := r.fresh top (by omega)
    have hle := Env.le_add (x := ((0 : Nat), (0 : Nat))) hnone
    have hnt' : ∀ q o, T.get q m.h = some o → q ≠ top := fun q o hq e => by
      obtain ⟨b, κ, x, e1, _⟩ := r.obj q o hq
      rw [e, hnone] at e1; cases e1
    have rf : RelF G w0 (ρ.add top (0, 0)) (fun q => T.get q m.h) top.succ w := ⟨fun p o hp => by
        obtain ⟨b, κ, x, e1, e2, e3, e4⟩ := r.obj p o hp
        exact ⟨b, κ, x, hle _ _ e1, e2, e3, e4.mono hle⟩, fun p q o o' b κ κ' hp hq e1 e2 => by
        simp only [Env.add, if_neg (hnt' p o hp)] at e1
        simp only [Env.add, if_neg (hnt' q o' hq)] at e2
        exact r.inj p q o o' b κ κ' hp hq e1 e2, fun p hp => by
        rw [Key.toNat_succ] at hp
        have : p ≠ top := fun e => by rw [e] at hp; omega
        simp only [Env.add, if_neg this]
        exact r.fresh p (by omega), r.low, r.os, r.tape, r.output, r.size⟩
    have fr0 : FrF ρ (fun q => T.get q m.h) w (ρ.add top (0, 0)) (fun q => T.get q m.h) w := ⟨hle, Nat.le_refl _, fun _ _ _ => rfl, fun b ⟨p, o, κ, e1, e2⟩ => by
      simp only [Env.add, if_neg (hnt' p o e1)] at e2
      exact .inl ⟨p, o, κ, e1, e2⟩⟩
    refine pl.any ok hc hnt (ρ0 := ρ) (wb := w) (fun ρ' a' w' h1 h2 h3 h4 h5 => ⟨rfl, ρ', h1, h2, ⟨h3.obj, h3.inj, h3.fresh, h3.low, h3.os, h3.tape, h3.output, h3.size⟩, ⟨h4.ext, h4.size, h4.keep, h4.own, fun p q e1 e2 e3 => (Nat.lt_or_ge q.toNat m.n.toNat).elim (fun h => Nat.lt_of_lt_of_le h (h5 p e1 e2)) (fun h => absurd (r.fresh q h) e3)⟩⟩) ops.size _ 0 (ρ.add top (0, 0)) a _ (by simp [Array.toList_replicate])
      ⟨by simp, ?_, .inl rfl, by omega, ?_, ?_, ?_, ?_, ?_, ?_, ?_, rt.size, hd⟩
    · intro j hj hl
      simp [hj] at hl
    · intro i hi hk
      simp [hi]
    · have e : Hf pl (fun i => (Array.replicate ops.size false).getD i false) ops.size = fun q => T.get q m.h := by
        exact Eq.trans (funext fun q => Hf_none pl (L := fun i => (Array.replicate ops.size false).getD i false) (j := ops.size) (fun i hi => by simp [hi]) q) pl.F0
      rw [e, pl.N0]
      exact ⟨rf.obj, rf.inj, rf.fresh, rf.low, rf.os, rf.tape, rf.output, rf.size⟩
    · have e : Hf pl (fun i => (Array.replicate ops.size false).getD i false) ops.size = fun q => T.get q m.h := by
        exact Eq.trans (funext fun q => Hf_none pl (L := fun i => (Array.replicate ops.size false).getD i false) (j := ops.size) (fun i hi => by simp [hi]) q) pl.F0
      rw [e]
      exact ⟨fr0.ext, fr0.size, fr0.keep, fr0.own⟩
    · intro q e1 e2
      by_cases c : q = top
      · rw [c]; omega
      · simp only [Env.add, if_neg c] at e2
        exact absurd e1 e2
    · rw [Env.add_self]; simp
    · intro i hi hk hl
      have hk1 := (pl.keyn i hk).1
      have : pl.key i ≠ top := fun e => by have := congrArg Key.toNat e; omega
      simp only [Env.add, if_neg this]
      exact r.fresh _ (pl.keyn i hk).2
    · intro s hs j hj hw v hv
      have hkeep := pl.Tconst hnt hs (p := 0) (q := j) hj (by omega) fun y oy h1 h2 hoy hdy => by
        have := (hw y oy hoy hdy).2 h2
        have hy : y < ops.size := (Array.getElem?_eq_some_iff.1 hoy).1
        simp [hy] at this
      rw [hkeep, pl.T0] at hv
      exact den_mono hle (rt.get s v hs hv)
end
end Go.Ev

set_option linter.unusedVariables false
set_option linter.unusedSimpArgs false
namespace Go.Ev
noncomputable section

theorem letsOut_mono {Q Q' : Exit → Act → World → Prop} (h : ∀ e a w, e ≠ .normal → Q e a w → Q' e a w) (l : LetsOut Q) : LetsOut Q' := by
  obtain ⟨a, w, q⟩ := l
  exact ⟨a, w, h _ _ _ (by simp) q⟩

theorem wpIn_monoQ {F : Fence} {n : Nat} {P : Program} {o : Oper} {a : Act} {w : World} {K K' : Act → World → Prop} {Q Q' : Exit → Act → World → Prop} (hK : ∀ a w, K a w → K' a w) (hQ : ∀ e a w, e ≠ .normal → Q e a w → Q' e a w)
    (hh : o.wpIn F n P a w K Q) : o.wpIn F n P a w K' Q' := by
  unfold Oper.wpIn at *
  refine ⟨hh.1, ?_⟩
  have hh := hh.2
  generalize (o.semAt F.round a.eval).run P w = r at *
  cases r with
  | ok x w' =>
    cases x <;> simp only [Oper.uponIn] at hh ⊢ <;>
      first
        | exact hK _ _ hh
        | exact ⟨hh.1, CallsIn.mono hh.2 (fun e w'' he => by cases e <;> first | exact hK _ _ he | exact hQ _ _ _ (by simp) he | exact letsOut_mono hQ he)⟩
        | exact ⟨hh.1, RowsIn.mono hh.2 (fun _ _ he => hK _ _ he)⟩
        | exact ⟨hh.1, RoundIn.mono hh.2 (fun e w'' he => by cases e <;> first | exact hK _ _ he | exact hQ _ _ _ (by simp) he | exact letsOut_mono hQ he)⟩
  | halt x w' => cases x <;> simp only [Oper.uponIn] at hh ⊢ <;> first | exact hQ _ _ _ (by simp) hh | exact hh

theorem wpOpIn_monoQ {F : Fence} {n : Nat} {P : Program} {ops ops' : Array Oper} {i : Nat} {a : Act} {w : World} {K K' : Act → World → Prop} {Q Q' : Exit → Act → World → Prop} {o : Oper} (ho : ops[i]? = some o) (ho' : ops'[i]? = some o)
    (hg : Region.wanted o (yielded ops a.tmps) = Region.wanted o (yielded ops' a.tmps)) (hK : ∀ a w, K a w → K' a w) (hQ : ∀ e a w, e ≠ .normal → Q e a w → Q' e a w)
    (hh : wpOpIn F n P ops Q i K a w) : wpOpIn F n P ops' Q' i K' a w := by
  unfold wpOpIn at *
  simp only [ho, ho', hg] at hh ⊢
  split
  · rename_i hw
    simp only [hw, if_true] at hh
    exact wpIn_monoQ hK hQ hh
  · rename_i hw
    simp only [hw] at hh
    exact ⟨hh.1, hK _ _ hh.2⟩

theorem wpAnyIn_monoQ {F : Fence} {n : Nat} {P : Program} {md : Region.Mode} {ops : Array Oper} {Q Q' : Exit → Act → World → Prop} (h : ∀ e a w, Q e a w → Q' e a w) : ∀ (fuel : Nat) (l : Array Bool) (a : Act) (w : World), wpAnyIn F n P md ops Q fuel l a w → wpAnyIn F n P md ops Q' fuel l a w
  | 0, l, a, w, hh => ⟨hh.1, h _ _ _ hh.2⟩
  | fuel + 1, l, a, w, hh => ⟨fun h0 => h _ _ _ (hh.1 h0), fun i hi => by
      obtain ⟨_, o, ho, _⟩ := mem_ready.1 hi
      exact wpOpIn_monoQ ho ho rfl (fun a w => wpAnyIn_monoQ h fuel _ a w) (fun e a w _ => h e a w) (hh.2 i hi)⟩

/-- The last operation, n, waits for all others. -/
structure LastZ (ops ops' : Array Oper) (n : Nat) : Prop where
  size : ops.size = n + 1
  size' : ops'.size = n
  same : ∀ j, j < n → ops'[j]? = ops[j]?
  back : ∀ (j : Nat) (o : Oper), ops[j]? = some o → ∀ e ∈ o.after, Region.binds .any e = true → e.on < j
  succ : ∀ j, j < n → ∃ (k : Nat) (o : Oper), j < k ∧ ops[k]? = some o ∧ ∃ e ∈ o.after, Region.binds .any e = true ∧ e.on = j
  guard : ∀ (j : Nat) (o : Oper), j < n → ops[j]? = some o → ∀ i b, o.guard = some (i, b) → i < n

structure Two (n : Nat) (l l' : Array Bool) : Prop where
  size : l.size = n + 1
  size' : l'.size = n
  same : ∀ j, j < n → l'[j]? = l[j]?
  last : l[n]? = some false

theorem Two.getD {n : Nat} {l l' : Array Bool} (t : Two n l l') {j : Nat} (h : j < n) (d : Bool) : l'.getD j d = l.getD j d := by
  simp only [Array.getD_eq_getD_getElem?, t.same j h]

theorem Two.set {n : Nat} {l l' : Array Bool} (t : Two n l l') {i : Nat} (h : i < n) : Two n (l.setIfInBounds i true) (l'.setIfInBounds i true) := by
  refine ⟨by simp [t.size], by simp [t.size'], fun j hj => ?_, ?_⟩
  · rw [Array.getElem?_setIfInBounds, Array.getElem?_setIfInBounds, t.same j hj, t.size, t.size']
    by_cases c : i = j
    · simp [c, hj]; omega
    · simp [c]
  · rw [Array.getElem?_setIfInBounds, if_neg (by omega), t.last]

theorem getD_lt {l : Array Bool} {j : Nat} (h : j < l.size) (d d' : Bool) : l.getD j d = l.getD j d' := by
  simp [Array.getD_eq_getD_getElem?, h]

theorem LastZ.ready {ops ops' : Array Oper} {n : Nat} (z : LastZ ops ops' n) {l l' : Array Bool} (t : Two n l l') {i : Nat} (hi : i < n) : i ∈ Region.ready .any ops l ↔ i ∈ Region.ready .any ops' l' := by
  rw [mem_ready, mem_ready, t.getD hi, z.same i hi]
  constructor
  · rintro ⟨h1, o, ho, h2⟩
    refine ⟨h1, o, ho, fun e he hb => ?_⟩
    rw [t.getD (by have := z.back i o ho e he hb; omega)]
    exact h2 e he hb
  · rintro ⟨h1, o, ho, h2⟩
    refine ⟨h1, o, ho, fun e he hb => ?_⟩
    have := h2 e he hb
    rw [t.getD (by have := z.back i o ho e he hb; omega)] at this
    exact this

def Closed (ops : Array Oper) (l : Array Bool) : Prop := ∀ (j : Nat) (o : Oper), l.getD j false = true → ops[j]? = some o → ∀ e ∈ o.after, Region.binds .any e = true → l.getD e.on false = true

theorem LastZ.lastReady {ops ops' : Array Oper} {n : Nat} (z : LastZ ops ops' n) {l l' : Array Bool} (t : Two n l l') (c : Closed ops l) (h : n ∈ Region.ready .any ops l) : ∀ (d j : Nat), j + d = n → j < n → l.getD j false = true := by
  obtain ⟨_, o, ho, h2⟩ := mem_ready.1 h
  intro d
  induction d using Nat.strongRecOn with
  | ind d ih =>
    intro j hd hj
    obtain ⟨k, p, hk, hp, e, he, hb, hon⟩ := z.succ j hj
    have hkn : k < n + 1 := by have := (Array.getElem?_eq_some_iff.1 hp).1; rw [z.size] at this; exact this
    by_cases hkn' : k = n
    · subst hkn'
      rw [ho] at hp; cases hp
      rw [← hon]; exact h2 e he hb
    · have hl := ih (n - k) (by omega) k (by omega) (by omega)
      rw [← hon]
      exact c k p hl hp e he hb

theorem LastZ.all {ops ops' : Array Oper} {n : Nat} (z : LastZ ops ops' n) {l l' : Array Bool} (t : Two n l l') (h : Region.ready .any ops' l' = []) : ∀ j, j < n → l.getD j false = true := by
  intro j
  induction j using Nat.strongRecOn with
  | ind j ih =>
    intro hj
    cases hb : l.getD j false with
    | true => rfl
    | false =>
      exfalso
      have hm : j ∈ Region.ready .any ops' l' := by
        rw [← z.ready t hj, mem_ready]
        have hlt : j < ops.size := by rw [z.size]; omega
        refine ⟨by rw [getD_lt (by rw [t.size]; omega) true false]; exact hb, ops[j], by simp [hlt], fun e he hbi => ?_⟩
        have := z.back j ops[j] (by simp [hlt]) e he hbi
        exact ih e.on this (by omega)
      rw [h] at hm
      cases hm

theorem any_last {F : Fence} {k : Nat} {P : Program} {ops ops' : Array Oper} {n : Nat} (z : LastZ ops ops' n) {Q : Exit → Act → World → Prop} :
    ∀ (fuel : Nat) (l l' : Array Bool) (a : Act) (w : World), Two n l l' → Closed ops l →
    wpAnyIn F k P .any ops' (fun e a w => e = .normal ∧ wpOpIn F k P ops Q n (fun _ _ => False) a w) fuel l' a w → wpAnyIn F k P .any ops Q (fuel + 1) l a w := by
  have hend : ∀ (fuel : Nat) (l l' : Array Bool) (a : Act) (w : World), Two n l l' → Closed ops l → Region.ready .any ops' l' = [] → wpOpIn F k P ops Q n (fun _ _ => False) a w → wpAnyIn F k P .any ops Q (fuel + 1) l a w := by
    intro fuel l l' a w t c hr hz
    have hall := z.all t hr
    refine ⟨fun h0 => ?_, fun i hi => ?_⟩
    · exfalso
      have hlt : n < ops.size := by rw [z.size]; omega
      have hm : n ∈ Region.ready .any ops l := by
        rw [mem_ready]
        refine ⟨by simp [Array.getD_eq_getD_getElem?, t.last], ops[n], by simp [hlt], fun e he hb => ?_⟩
        exact hall e.on (z.back n _ (by simp [hlt]) e he hb)
      rw [h0] at hm
      cases hm
    · have hin : i = n := by
        obtain ⟨h1, o, ho, _⟩ := mem_ready.1 hi
        have hlt : i < n + 1 := by have := (Array.getElem?_eq_some_iff.1 ho).1; rw [z.size] at this; exact this
        rcases Nat.lt_or_ge i n with h | h
        · have := hall i h
          rw [getD_lt (by rw [t.size]; omega) false true, h1] at this
          cases this
        · omega
      subst hin
      obtain ⟨_, o, ho, _⟩ := mem_ready.1 hi
      exact wpOpIn_monoQ ho ho rfl (fun _ _ h => h.elim) (fun _ _ _ _ h => h) hz
  intro fuel
  induction fuel with
  | zero => intro l l' a w t c h; exact hend 0 l l' a w t c h.1 h.2.2
  | succ fuel ih =>
    intro l l' a w t c h
    by_cases hr : Region.ready .any ops' l' = []
    · exact hend _ l l' a w t c hr (h.1 hr).2
    · obtain ⟨x, hx⟩ := List.exists_mem_of_ne_nil _ hr
      have hxn : x < n := by
        obtain ⟨_, o, ho, _⟩ := mem_ready.1 hx
        have := (Array.getElem?_eq_some_iff.1 ho).1; rw [z.size'] at this; exact this
      have hx' := (z.ready t hxn).2 hx
      refine ⟨fun h0 => (by rw [h0] at hx'; cases hx'), fun i hi => ?_⟩
      have hin : i < n := by
        obtain ⟨h1, o, ho, _⟩ := mem_ready.1 hi
        have hlt : i < n + 1 := by have := (Array.getElem?_eq_some_iff.1 ho).1; rw [z.size] at this; exact this
        rcases Nat.lt_or_ge i n with h | h
        · exact h
        · exfalso
          have e : i = n := by omega
          subst e
          have := z.lastReady t c hi (i - x) x (by omega) hxn
          rw [getD_lt (by rw [t.size]; omega) false true, (mem_ready.1 hx').1] at this
          cases this
      have hi' := (z.ready t hin).1 hi
      obtain ⟨hu, o, ho, hpre⟩ := mem_ready.1 hi
      have hc' : Closed ops (l.setIfInBounds i true) := by
        intro j p hl hp e he hb
        have hset : ∀ q, (l.setIfInBounds i true).getD q false = true ↔ (q = i ∨ l.getD q false = true) := fun q => by
          rw [Array.getD_eq_getD_getElem?, Array.getElem?_setIfInBounds, t.size, if_pos (show i < n + 1 by omega)]
          by_cases c : i = q
          · simp [c]
          · rw [if_neg c, ← Array.getD_eq_getD_getElem?]
            exact ⟨.inr, fun h => h.elim (fun h => absurd h.symm c) id⟩
        rw [hset] at hl ⊢
        right
        rcases hl with rfl | hl
        · rw [ho] at hp; cases hp
          exact hpre e he hb
        · exact c j p hl hp e he hb
      have ho' : ops'[i]? = some o := by rw [z.same i hin, ho]
      refine wpOpIn_monoQ ho' ho ?_ (fun a w hk => ih _ _ a w (t.set hin) hc' hk) (fun e a w hne hq => absurd hq.1 hne) (h.2 i hi')
      unfold Region.wanted
      cases hg : o.guard with
      | none => rfl
      | some jb =>
        obtain ⟨j, b⟩ := jb
        have hj := z.guard i o hin ho j b hg
        show (yielded ops' a.tmps j == some b) = (yielded ops a.tmps j == some b)
        unfold yielded
        rw [z.same j hj]

/- ### The check -/
def backE (j : Nat) : List Edge → Bool
  | [] => true
  | e :: es => bif bindsA e then (bif Nat.blt e.on j then backE j es else false) else backE j es
def maskE : List Edge → Nat → Nat
  | [], r => r
  | e :: es, r => bif bindsA e then fN (Nat.lor r (Nat.pow 2 e.on)) fun r => maskE es r else maskE es r
def backO : List Oper → Nat → Bool
  | [], _ => true
  | o :: os, j => bif backE j o.after.toList then backO os (Nat.succ j) else false
def maskO : List Oper → Nat → Nat
  | [], r => r
  | o :: os, r => fN (maskE o.after.toList r) fun r => maskO os r
def guardO (n : Nat) : List Oper → Bool
  | [] => true
  | o :: os => match o.guard with
    | none => guardO n os
    | some (i, _) => bif Nat.blt i n then guardO n os else false

theorem backE_ok {j : Nat} : ∀ {l : List Edge}, backE j l = true → ∀ e ∈ l, Region.binds .any e = true → e.on < j
  | [], h, e, he, hb => by cases he
  | x :: l, h, e, he, hb => by
    simp only [backE] at h
    rw [bindsA_eq] at hb
    cases hx : bindsA x with
    | true =>
      simp only [hx, cond_true] at h
      obtain ⟨h1, h2⟩ := cond_and h
      rcases List.mem_cons.1 he with rfl | he
      · rw [nblt, decide_eq_true_iff] at h1; exact h1
      · exact backE_ok h2 e he (by rw [bindsA_eq]; exact hb)
    | false =>
      simp only [hx, cond_false] at h
      rcases List.mem_cons.1 he with rfl | he
      · rw [hx] at hb; cases hb
      · exact backE_ok h e he (by rw [bindsA_eq]; exact hb)

theorem backO_ok : ∀ {l : List Oper} {i : Nat}, backO l i = true → ∀ (j : Nat) (o : Oper), l[j]? = some o → ∀ e ∈ o.after, Region.binds .any e = true → e.on < i + j
  | [], i, h, j, o, ho => by simp at ho
  | x :: l, i, h, j, o, ho => by
    simp only [backO] at h
    obtain ⟨h1, h2⟩ := cond_and h
    cases j with
    | zero =>
      simp at ho; subst ho
      intro e he hb
      exact backE_ok h1 e (by simpa using he) hb
    | succ j =>
      intro e he hb
      have := backO_ok h2 j o (by simpa using ho) e he hb
      omega

theorem maskE_ok : ∀ {l : List Edge} {r j : Nat}, (maskE l r).testBit j = true → r.testBit j = true ∨ ∃ e ∈ l, Region.binds .any e = true ∧ e.on = j
  | [], r, j, h => .inl h
  | x :: l, r, j, h => by
    simp only [maskE] at h
    cases hx : bindsA x with
    | true =>
      simp only [hx, cond_true, fN_eq] at h
      rcases maskE_ok h with h | ⟨e, he, h⟩
      · rw [lor_bit, pow_bit, Bool.or_eq_true, decide_eq_true_iff] at h
        rcases h with h | h
        · exact .inl h
        · exact .inr ⟨x, by simp, by rw [bindsA_eq]; exact hx, h⟩
      · exact .inr ⟨e, by simp [he], h⟩
    | false =>
      simp only [hx, cond_false] at h
      rcases maskE_ok h with h | ⟨e, he, h⟩
      · exact .inl h
      · exact .inr ⟨e, by simp [he], h⟩

theorem maskO_ok : ∀ {l : List Oper} {r j : Nat}, (maskO l r).testBit j = true → r.testBit j = true ∨ ∃ (k : Nat) (o : Oper), l[k]? = some o ∧ ∃ e ∈ o.after, Region.binds .any e = true ∧ e.on = j
  | [], r, j, h => .inl h
  | x :: l, r, j, h => by
    simp only [maskO, fN_eq] at h
    rcases maskO_ok h with h | ⟨k, o, ho, h⟩
    · rcases maskE_ok h with h | ⟨e, he, h⟩
      · exact .inl h
      · exact .inr ⟨0, x, by simp, e, by simpa using he, h⟩
    · exact .inr ⟨k + 1, o, by simpa using ho, h⟩

theorem guardO_ok {n : Nat} : ∀ {l : List Oper}, guardO n l = true → ∀ (j : Nat) (o : Oper), l[j]? = some o → ∀ i b, o.guard = some (i, b) → i < n
  | [], h, j, o, ho => by simp at ho
  | x :: l, h, j, o, ho => by
    intro i b hg
    simp only [guardO] at h
    have hx : guardO n l = true ∧ (∀ i b, x.guard = some (i, b) → i < n) := by
      cases hxg : x.guard with
      | none => simp only [hxg] at h; exact ⟨h, fun i b h => by cases h⟩
      | some q =>
        obtain ⟨i', b'⟩ := q
        simp only [hxg] at h
        obtain ⟨h1, h2⟩ := cond_and h
        rw [nblt, decide_eq_true_iff] at h1
        exact ⟨h2, fun i b h => by cases h; exact h1⟩
    cases j with
    | zero => simp at ho; subst ho; exact hx.2 i b hg
    | succ j => exact guardO_ok hx.1 j o (by simpa using ho) i b hg

/-- The operations but the last, and the last. -/
def splitL : List Oper → Option (List Oper × Oper)
  | [] => none
  | o :: os => match splitL os with
    | none => some ([], o)
    | some (l, z) => some (o :: l, z)

theorem splitL_ok : ∀ {l l' : List Oper} {z : Oper}, splitL l = some (l', z) → l = l' ++ [z]
  | [], l', z, h => by cases h
  | o :: os, l', z, h => by
    simp only [splitL] at h
    cases hs : splitL os with
    | none =>
      simp only [hs, Option.some.injEq, Prod.mk.injEq] at h
      obtain ⟨rfl, rfl⟩ := h
      cases os with
      | nil => rfl
      | cons p ps =>
        exfalso
        simp only [splitL] at hs
        cases h2 : splitL ps with
        | none => simp [h2] at hs
        | some q => obtain ⟨a, b⟩ := q; simp [h2] at hs
    | some q =>
      obtain ⟨a, b⟩ := q
      simp only [hs, Option.some.injEq, Prod.mk.injEq] at h
      obtain ⟨rfl, rfl⟩ := h
      rw [splitL_ok hs]; rfl

theorem lastZ_of {ops : Array Oper} {l' : List Oper} {z : Oper} (h : splitL ops.toList = some (l', z)) (h1 : backO ops.toList 0 = true) (h2 : Nat.beq (Nat.land (maskO ops.toList 0) (Nat.sub (Nat.pow 2 l'.length) 1)) (Nat.sub (Nat.pow 2 l'.length) 1) = true)
    (h3 : guardO l'.length l' = true) : LastZ ops l'.toArray l'.length ∧ ops[l'.length]? = some z := by
  have e := splitL_ok h
  have hsz : ops.size = l'.length + 1 := by rw [← Array.length_toList, e]; simp
  have hget : ∀ j, ops[j]? = (l' ++ [z])[j]? := fun j => by rw [← Array.getElem?_toList, e]
  have hback : ∀ (j : Nat) (o : Oper), ops[j]? = some o → ∀ e ∈ o.after, Region.binds .any e = true → e.on < j := fun j o ho e he hb => by
    have := backO_ok h1 j o (by rw [Array.getElem?_toList]; exact ho) e he hb
    omega
  refine ⟨⟨hsz, by simp, fun j hj => ?_, hback, fun j hj => ?_, fun j o hj ho i b hg => ?_⟩, by rw [hget]; simp⟩
  · rw [hget, List.getElem?_append_left hj]; simp
  · have hb : (Nat.land (maskO ops.toList 0) (Nat.sub (Nat.pow 2 l'.length) 1)).testBit j = true := by
      rw [Nat.eq_of_beq_eq_true h2]
      show (2 ^ l'.length - 1).testBit j = true
      rw [Nat.testBit_two_pow_sub_one]
      simpa using hj
    rw [land_bit, Bool.and_eq_true] at hb
    rcases maskO_ok hb.1 with h | ⟨k, o, ho, e, he, hbi, hon⟩
    · simp at h
    · rw [Array.getElem?_toList] at ho
      have := hback k o ho e he hbi
      exact ⟨k, o, by omega, ho, e, he, hbi, hon⟩
  · rw [hget, List.getElem?_append_left hj] at ho
    exact guardO_ok h3 j o ho i b hg

/- ### The region -/
def drawnB (C : Cx) (call : CallF) (nt h : Nat) (ops : Array Oper) (t : T AV) (m : Mem) : Option (T AV × Mem) := bif Nat.beq h 0 then drawn C call nt ops t m else drawnL C call nt h ops t m

theorem drawnB_ok {C : Cx} {G : Nat → Nat} {w0 : World} (ok : C.Fine G w0) {call : CallF} (hc : CallsOK G w0 C.P call) {ro : Option Nat} {nt h : Nat} (hnt : nt ≤ 1000000) : DrawAny G w0 C.P ro nt (drawnB C call nt h) := by
  intro ops t m t' m' e
  unfold drawnB at e
  cases hb : Nat.beq h 0 with
  | true => rw [hb] at e; exact drawn_ok ok hc hnt ops t m t' m' e
  | false => rw [hb] at e; exact drawnL_ok ok hc hnt ops t m t' m' e

/-- All others first, then the last, which panics. -/
def drawnP (C : Cx) (X : CallX) (nt h : Nat) (ops : Array Oper) (t : T AV) (m : Mem) : CodeR :=
  match splitL ops.toList with
  | none => none
  | some (l, z) => bif backO ops.toList 0 then (bif Nat.beq (Nat.land (maskO ops.toList 0) (Nat.sub (Nat.pow 2 l.length) 1)) (Nat.sub (Nat.pow 2 l.length) 1) then (bif guardO l.length l then
    (match drawnB C (retX X) nt h ⟨l⟩ t m with
    | none => none
    | some (t1, m1) => match wantA ops.toList t1 z.guard with
      | some true => match evOpX C X t1 m1 z.op with
        | some (false, v, m2) => some (.pan v, t1, m2)
        | _ => none
      | _ => none) else none) else none) else none

def drawH (C : Cx) (X : CallX) (nt f : Nat) : DrawF := fun id ops t m => fN (C.hint f id) fun h => match drawnB C (retX X) nt h ops t m with
  | some (t1, m1) => some (.nrm, t1, m1)
  | none => drawnP C X nt h ops t m

theorem drawnP_ok {C : Cx} {G : Nat → Nat} {w0 : World} (ok : C.Fine G w0) {X : CallX} (hX : XOK G w0 C.P X) {ro : Option Nat} {nt h : Nat} (hnt : nt ≤ 1000000) : DrawOK G w0 C.P ro nt (fun _ => drawnP C X nt h) := by
  intro id ops t m x t' m' e0 ρ a w D rt hd r
  have e : drawnP C X nt h ops t m = some (x, t', m') := e0
  clear e0
  unfold drawnP at e
  cases hs : splitL ops.toList with
  | none => simp [hs] at e
  | some q =>
    obtain ⟨l, z⟩ := q
    simp only [hs] at e
    obtain ⟨h1, e⟩ := cond_some e
    obtain ⟨h2, e⟩ := cond_some e
    obtain ⟨h3, e⟩ := cond_some e
    cases hb : drawnB C (retX X) nt h ⟨l⟩ t m with
    | none => simp [hb] at e
    | some tm =>
      obtain ⟨t1, m1⟩ := tm
      simp only [hb] at e
      cases hw : wantA ops.toList t1 z.guard with
      | none => simp [hw] at e
      | some b =>
        cases b with
        | false => simp [hw] at e
        | true =>
          simp only [hw] at e
          cases ho : evOpX C X t1 m1 z.op with
          | none => simp [ho] at e
          | some vm =>
            obtain ⟨b, v, m2⟩ := vm
            cases b with
            | true => simp [ho] at e
            | false =>
              simp only [ho, Option.some.injEq, Prod.mk.injEq] at e
              obtain ⟨rfl, rfl, rfl⟩ := e
              obtain ⟨hz, hlast⟩ := lastZ_of hs h1 h2 h3
              refine wpIn_region_any ok.mixed ?_
              have hany := drawnB_ok (ro := ro) ok hX.calls hnt ⟨l⟩ t m _ _ hb ρ a w D rt hd r
              have hfuel : ops.size = (⟨l⟩ : Array Oper).size + 1 := by rw [hz.size]; simp
              rw [hfuel]
              refine any_last hz _ _ (Array.replicate (⟨l⟩ : Array Oper).size false) a _ ⟨by simp, by simp, fun j hj => by rw [Array.getElem?_replicate, Array.getElem?_replicate, if_pos (by simpa using hj), if_pos (by simp at hj ⊢; omega)], by rw [Array.getElem?_replicate, if_pos (by simp)]⟩ (fun j o hj => ?_) (wpAnyIn_monoQ (fun e a1 w1 ⟨he, ρ1, k1, k2, k3, k4⟩ => ⟨he, ?_⟩) _ _ _ _ hany)
              · simp only [Array.getD_eq_getD_getElem?] at hj
                rw [Array.getElem?_replicate] at hj
                split at hj <;> simp at hj
              · unfold wpOpIn
                rw [hlast]
                simp only
                rw [wantA_ok k1 k1.size hw]
                simp only [if_true]
                refine wpIn_of_wp (evOpX_nd ho) <| evOpX_pan ok hX k1 k3 ho fun ρ2 w2 y dy r2 f2 => ⟨ρ2, ⟨y, dy, rfl⟩, k1.mono f2.ext, k2, r2, k4.trans f2⟩

theorem drawH_ok {C : Cx} {G : Nat → Nat} {w0 : World} (ok : C.Fine G w0) {X : CallX} (hX : XOK G w0 C.P X) {ro : Option Nat} {nt f : Nat} (hnt : nt ≤ 1000000) : DrawOK G w0 C.P ro nt (drawH C X nt f) := by
  intro id ops t m x t' m' e
  unfold drawH at e
  rw [fN_eq] at e
  cases hb : drawnB C (retX X) nt (C.hint f id) ops t m with
  | none =>
    simp only [hb] at e
    exact drawnP_ok ok hX hnt id ops t m x t' m' e
  | some tm =>
    obtain ⟨t1, m1⟩ := tm
    simp only [hb, Option.some.injEq, Prod.mk.injEq] at e
    obtain ⟨rfl, rfl, rfl⟩ := e
    intro ρ a w D rt hd r
    refine wpIn_region_any ok.mixed (wpAnyIn_monoQ (fun e a1 w1 ⟨he, ρ1, k⟩ => ⟨ρ1, he, k⟩) _ _ _ _ (drawnB_ok (ro := ro) ok hX.calls hnt ops t m _ _ hb ρ a w D rt hd r))
end
end Go.Ev
