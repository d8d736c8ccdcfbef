/-
  A part of the evaluator for closed runs: proved once over any program.
-/
import Derived.Test.YtgcpgkbplgjpoaaGreatDoorEvW
set_option linter.unusedVariables false
set_option linter.unusedSimpArgs false
namespace Go.Ev
noncomputable section

def TF : List Rec → T AV → Nat → T AV
  | [], t, _ => t
  | r :: acc, t, j => if j ≤ acc.length then TF acc r.t j else t
def MF : List Rec → Mem → Nat → Mem
  | [], m, _ => m
  | r :: acc, m, j => if j ≤ acc.length then MF acc r.m j else m

section
variable {C : Cx} {call : CallF} {nt : Nat} {ops : Array Oper} {t0 : T AV} {m0 : Mem}

theorem TF_len : ∀ {l : List Rec} {t : T AV}, TF l t l.length = t
  | [], t => rfl
  | r :: acc, t => by simp only [TF, List.length_cons]; rw [if_neg (by omega)]
theorem MF_len : ∀ {l : List Rec} {m : Mem}, MF l m l.length = m
  | [], m => rfl
  | r :: acc, m => by simp only [MF, List.length_cons]; rw [if_neg (by omega)]
theorem Good.zero : ∀ {l : List Rec} {t : T AV} {m : Mem}, Good C call nt ops t0 m0 l t m → TF l t 0 = t0 ∧ MF l m 0 = m0
  | [], t, m, g => g
  | r :: acc, t, m, g => by simp only [TF, MF]; rw [if_pos (by omega), if_pos (by omega)]; exact Good.zero g.2

theorem Good.get : ∀ {l : List Rec} {t : T AV} {m : Mem}, Good C call nt ops t0 m0 l t m → ∀ {i : Nat} {r : Rec}, recAt l i = some r →
    ∃ acc, acc.length = i ∧ RecOK C call nt ops r acc (TF l t (i + 1)) (MF l m (i + 1)) ∧ TF l t i = r.t ∧ MF l m i = r.m ∧ ∀ q, q < i → recAt acc q = recAt l q
  | [], t, m, g, i, r, h => by simp [recAt] at h
  | x :: acc, t, m, g, i, r, h => by
    simp only [recAt] at h
    by_cases c : i = acc.length
    · rw [if_pos c] at h
      cases h
      refine ⟨acc, c.symm, ?_, ?_, ?_, fun q hq => ?_⟩
      · simp only [TF, MF]
        rw [if_neg (by omega), if_neg (by omega)]
        exact g.1
      · simp only [TF]
        rw [if_pos (by omega), c]
        exact TF_len
      · simp only [MF]
        rw [if_pos (by omega), c]
        exact MF_len
      · simp only [recAt]; rw [if_neg (by omega)]
    · rw [if_neg c] at h
      have hlt := recAt_lt h
      obtain ⟨a, h1, h2, h3, h4, h5⟩ := Good.get g.2 h
      refine ⟨a, h1, ?_, ?_, ?_, fun q hq => ?_⟩
      · simp only [TF, MF]
        rw [if_pos (by omega), if_pos (by omega)]
        exact h2
      · simp only [TF]; rw [if_pos (by omega)]; exact h3
      · simp only [MF]; rw [if_pos (by omega)]; exact h4
      · simp only [recAt]; rw [if_neg (by omega)]; exact h5 q hq

theorem Good.cspec : ∀ {l : List Rec} {t : T AV} {m : Mem}, Good C call nt ops t0 m0 l t m → ∀ i, (cOf l).testBit i = true ↔ ∃ r, recAt l i = some r ∧ r.k = 2
  | [], t, m, g, i => by simp [cOf, recAt]
  | x :: acc, t, m, g, i => by
    have ih := Good.cspec g.2 i
    show x.c.testBit i = true ↔ _
    rw [g.1.c]
    simp only [recAt]
    by_cases hk : x.k = 2
    · rw [if_pos hk, lor_bit, g.1.b, pow_bit, Bool.or_eq_true, decide_eq_true_iff, ih]
      by_cases c : i = acc.length
      · rw [if_pos c]
        exact ⟨fun _ => ⟨x, rfl, hk⟩, fun _ => .inr c.symm⟩
      · rw [if_neg c]
        exact ⟨fun h => h.elim id (fun e => absurd e.symm c), .inl⟩
    · rw [if_neg hk, ih]
      by_cases c : i = acc.length
      · rw [if_pos c]
        refine ⟨fun ⟨r, h, _⟩ => ?_, fun ⟨r, h, h2⟩ => ?_⟩
        · have := recAt_lt h; omega
        · cases h; exact absurd h2 hk
      · rw [if_neg c]

theorem Good.sspec : ∀ {l : List Rec} {t : T AV} {m : Mem}, Good C call nt ops t0 m0 l t m → ∀ i, (sOf l).testBit i = true → ∃ q r, recAt l q = some r ∧ r.k = 2 ∧ r.R.testBit i = true
  | [], t, m, g, i, h => by simp [sOf] at h
  | x :: acc, t, m, g, i, h => by
    have ih := Good.sspec g.2 i
    have up : (sOf acc).testBit i = true → ∃ q r, recAt (x :: acc) q = some r ∧ r.k = 2 ∧ r.R.testBit i = true := fun h => by
      obtain ⟨q, r, h1, h2⟩ := ih h
      refine ⟨q, r, ?_, h2⟩
      have := recAt_lt h1
      simp only [recAt]; rw [if_neg (by omega)]; exact h1
    have h' : x.s.testBit i = true := h
    rw [g.1.s] at h'
    by_cases hk : x.k = 2
    · rw [if_pos hk, lor_bit, Bool.or_eq_true] at h'
      rcases h' with h' | h'
      · exact up h'
      · exact ⟨acc.length, x, by simp [recAt], hk, h'⟩
    · rw [if_neg hk] at h'
      exact up h'

theorem bnd_mem : ∀ {l : List Rec} {t : T AV} {m : Mem}, Good C call nt ops t0 m0 l t m → ∀ {p : Nat}, p ≤ l.length → (p = 0 ∨ (0 < p ∧ ∃ r, recAt l (p - 1) = some r ∧ r.k = 2)) →
    ∃ c s, (c, s, MF l m p) ∈ bnd l m ∧ (∀ i, c.testBit i = true ↔ i < p ∧ ∃ r, recAt l i = some r ∧ r.k = 2) ∧ (∀ i, s.testBit i = true → ∃ q r, q < p ∧ recAt l q = some r ∧ r.k = 2 ∧ r.R.testBit i = true)
  | [], t, m, g, p, hp, hb => by
    simp at hp; subst hp
    exact ⟨0, 0, by simp [bnd, MF], by simp, by simp⟩
  | x :: acc, t, m, g, p, hp, hb => by
    simp only [List.length_cons] at hp
    by_cases c : p = acc.length + 1
    · subst c
      have hk : x.k = 2 := by
        rcases hb with hb | ⟨_, r, h1, h2⟩
        · omega
        · simp only [recAt, Nat.add_sub_cancel] at h1
          simp at h1
          rw [h1]; exact h2
      refine ⟨x.c, x.s, ?_, fun i => ?_, fun i hi => ?_⟩
      · simp only [bnd, MF]
        rw [if_neg (by omega), hk]
        simp
      · have := Good.cspec (l := x :: acc) g i
        rw [show x.c = cOf (x :: acc) from rfl, this]
        constructor
        · rintro ⟨r, h, h2⟩
          exact ⟨recAt_lt h, r, h, h2⟩
        · exact fun h => h.2
      · obtain ⟨q, r, h1, h2⟩ := Good.sspec (l := x :: acc) g i hi
        exact ⟨q, r, recAt_lt h1, h1, h2⟩
    · have hp' : p ≤ acc.length := by omega
      have lift : ∀ q, q < p → recAt (x :: acc) q = recAt acc q := fun q hq => by simp only [recAt]; rw [if_neg (by omega)]
      obtain ⟨c', s', h1, h2, h3⟩ := bnd_mem g.2 hp' (by
        rcases hb with hb | ⟨h0, r, h1, h2⟩
        · exact .inl hb
        · refine .inr ⟨h0, r, ?_, h2⟩
          rw [← lift _ (by omega)]; exact h1)
      refine ⟨c', s', ?_, fun i => ?_, fun i hi => ?_⟩
      · simp only [bnd, MF]
        rw [if_pos hp']
        cases Nat.beq x.k 2 <;> simp [h1]
      · rw [h2]
        constructor
        · rintro ⟨hi, h⟩; rw [lift i hi]; exact ⟨hi, h⟩
        · rintro ⟨hi, h⟩; rw [lift i hi] at h; exact ⟨hi, h⟩
      · obtain ⟨q, r, hq, h⟩ := h3 i hi
        exact ⟨q, r, hq, by rw [lift q hq]; exact h⟩

theorem rdAt_ok {r : Rec} {c : Nat} : ∀ {B : List (Nat × Nat × Mem)}, rdAt C r c B = true → ∀ {cp sp : Nat} {mp : Mem}, (cp, sp, mp) ∈ B → cp ≠ r.c → Nat.land r.R c = Nat.land r.R cp → Nat.beq (Nat.land sp r.b) 0 = true → evP C r.t mp.h r.o.op = some r.v
  | [], h, cp, sp, mp, hm, h1, h2, h3 => by cases hm
  | (a, b, d) :: l, h, cp, sp, mp, hm, h1, h2, h3 => by
    simp only [rdAt] at h
    obtain ⟨h, hl⟩ := cond_and h
    rcases List.mem_cons.1 hm with e | hm
    · cases e
      have e1 : Nat.beq a r.c = false := by rw [nbeq]; simpa using h1
      have e2 : Nat.beq (Nat.land r.R c) (Nat.land r.R a) = true := by rw [nbeq]; simpa using h2
      simp only [e1, e2, h3, cond_true, cond_false] at h
      cases he : evP C r.t d.h r.o.op with
      | none => simp [he] at h
      | some v => simp only [he] at h; rw [AV.eqb_ok h]
    · exact rdAt_ok hl hm h1 h2 h3

theorem rdOK_ok {c : Nat} {B : List (Nat × Nat × Mem)} : ∀ {l : List Rec}, rdOK C c B l = true → ∀ {i : Nat} {r : Rec}, recAt l i = some r → r.k = 1 → readsH r.o.op = true → rdAt C r c B = true
  | [], h, i, r, hr, hk, hh => by simp [recAt] at hr
  | x :: l, h, i, r, hr, hk, hh => by
    have hd : rdOK C c B l = true ∧ (x.k = 1 → readsH x.o.op = true → rdAt C x c B = true) := by
      simp only [rdOK] at h
      cases h1 : Nat.beq x.k 1 with
      | false => simp only [h1, cond_false] at h; exact ⟨h, fun e => by rw [e] at h1; cases h1⟩
      | true =>
        cases h2 : readsH x.o.op with
        | false => simp only [h1, h2, cond_true, cond_false] at h; exact ⟨h, fun _ e => by cases e⟩
        | true =>
          simp only [h1, h2, cond_true] at h
          obtain ⟨h3, h4⟩ := cond_and h
          exact ⟨h4, fun _ _ => h3⟩
    simp only [recAt] at hr
    split at hr
    · cases hr; exact hd.2 hk hh
    · exact rdOK_ok hd.1 hr hk hh

/-- The run that passes the checks is a plan. -/
def plan_of {rs : List Rec} {t1 : T AV} {m1 : Mem} (g : Good C call nt ops t0 m0 rs t1 m1) (hn : rs.length = ops.size) (hrd : rdOK C (cOf rs) (bnd rs m1) rs = true) : Plan C call nt ops t0 m0 t1 m1 where
  Tf := TF rs t1
  M := MF rs m1
  R j i := ∃ r, recAt rs j = some r ∧ r.R.testBit i = true
  K j := match recAt rs j with | some r => r.k | none => 0
  V j := match recAt rs j with | some r => r.v | none => .nilP
  T0 := (Good.zero g).1
  M0 := (Good.zero g).2
  Tn := by rw [← hn]; exact TF_len
  Mn := by rw [← hn]; exact MF_len
  back j o ho e he hb := by
    obtain ⟨r, hr⟩ := recAt_some (l := rs) (i := j) (by rw [hn]; exact (Array.getElem?_eq_some_iff.1 ho).1)
    obtain ⟨acc, h1, h2, h3, h4, h5⟩ := Good.get g hr
    have ha := h2.at_
    rw [h1, ho] at ha
    cases ha
    have := h2.back e he hb
    omega
  reach j o i ho hR := by
    obtain ⟨r, hr, hb⟩ := hR
    obtain ⟨acc, h1, h2, h3, h4, h5⟩ := Good.get g hr
    have ha := h2.at_
    rw [h1, ho] at ha
    cases ha
    obtain ⟨e, he, hbe, h⟩ := h2.reach i hb
    refine ⟨e, he, hbe, ?_⟩
    rcases h with h | ⟨x, hx, hx2⟩
    · exact .inl h
    · have := recAt_lt hx
      exact .inr ⟨x, by rw [← h5 _ (by omega)]; exact hx, hx2⟩
  look1 i j oi oj hij hoi hoj := by
    have hj : j < rs.length := by rw [hn]; exact (Array.getElem?_eq_some_iff.1 hoj).1
    obtain ⟨r, hr⟩ := recAt_some hj
    obtain ⟨x, hx⟩ := recAt_some (l := rs) (i := i) (by omega)
    obtain ⟨acc, h1, h2, h3, h4, h5⟩ := Good.get g hr
    obtain ⟨acc', k1, k2, _, _, _⟩ := Good.get g hx
    have ha := h2.at_
    rw [h1, hoj] at ha
    cases ha
    have hb := k2.at_
    rw [k1, hoi] at hb
    cases hb
    rcases h2.prev i x (by rw [h5 i hij]; exact hx) with h | ⟨p1, p2, p3⟩
    · exact .inl ⟨r, hr, h⟩
    · refine .inr ⟨fun d hd => ⟨fun hm => ?_, fun e => ?_⟩, fun d hd hm => ?_, fun hk => ?_⟩
      · have := (p1 d (k2.dm d hd)).1
        rw [h2.lk d hm] at this; cases this
      · have := (p1 d (k2.dm d hd)).2
        rw [h2.dm d e] at this; cases this
      · have := p2 d (h2.dm d hd)
        rw [k2.lk d hm] at this; cases this
      · simp only [hr, hx] at hk
        exact p3 hk
  put j o ho := by
    obtain ⟨r, hr⟩ := recAt_some (l := rs) (i := j) (by rw [hn]; exact (Array.getElem?_eq_some_iff.1 ho).1)
    obtain ⟨acc, h1, h2, h3, h4, h5⟩ := Good.get g hr
    have ha := h2.at_
    rw [h1, ho] at ha
    cases ha
    simp only [hr]
    rw [h3]
    exact h2.put
  still j hj hk := by
    obtain ⟨r, hr⟩ := recAt_some (l := rs) (i := j) (by omega)
    obtain ⟨acc, h1, h2, h3, h4, h5⟩ := Good.get g hr
    simp only [hr] at hk
    rw [h4]
    exact h2.still hk
  kind j o ho := by
    have hjn : j < rs.length := by rw [hn]; exact (Array.getElem?_eq_some_iff.1 ho).1
    obtain ⟨r, hr⟩ := recAt_some hjn
    obtain ⟨acc, h1, h2, h3, h4, h5⟩ := Good.get g hr
    have ha := h2.at_
    rw [h1, ho] at ha
    cases ha
    simp only [hr]
    rw [h3]
    rcases h2.kind with ⟨a, b, c⟩ | ⟨a, b, c, d⟩ | ⟨a, b, c⟩
    · exact .inl ⟨a, b, c⟩
    · refine .inr (.inl ⟨a, b, fun p hp hpb hf1 hf2 => ?_⟩)
      have fin : evP C r.t (MF rs m1 p).h r.o.op = some r.v := by
        cases hread : readsH r.o.op with
        | false => rw [evP_indep hread (h' := r.m.h)]; exact d
        | true =>
          have hchk := rdOK_ok hrd hr b hread
          have hpb' : p = 0 ∨ (0 < p ∧ ∃ r, recAt rs (p - 1) = some r ∧ r.k = 2) := by
            rcases hpb with h | ⟨h0, hk⟩
            · exact .inl h
            · obtain ⟨x, hx⟩ := recAt_some (l := rs) (i := p - 1) (by omega)
              simp only [hx] at hk
              exact .inr ⟨h0, x, hx, hk⟩
          obtain ⟨c', s', hm, hc, hs⟩ := bnd_mem g (by rw [hn]; exact hp) hpb'
          by_cases e : c' = r.c
          · -- the same memory
            have hcj : ∀ i, c'.testBit i = true ↔ i < j ∧ ∃ r, recAt rs i = some r ∧ r.k = 2 := by
              intro i
              have hrc : r.c = cOf acc := by rw [h2.c, if_neg (by omega)]
              -- the records below
              have gen : ∀ (l : List Rec) (t : T AV) (m : Mem), Good C call nt ops t0 m0 l t m → ∀ j r, recAt l j = some r → ∀ i, (if r.k = 2 then True else r.c.testBit i = true ↔ i < j ∧ ∃ r, recAt l i = some r ∧ r.k = 2) := by
                intro l
                induction l with
                | nil => intro t m g j r h; simp [recAt] at h
                | cons x l ih =>
                  intro t m g j r h i
                  simp only [recAt] at h
                  split at h
                  · rename_i ej
                    cases h
                    split
                    · trivial
                    · rename_i hk
                      rw [g.1.c, if_neg hk, Good.cspec g.2 i]
                      subst ej
                      constructor
                      · rintro ⟨y, hy, hy2⟩
                        have := recAt_lt hy
                        refine ⟨this, y, ?_, hy2⟩
                        simp only [recAt]; rw [if_neg (by omega)]; exact hy
                      · rintro ⟨hi, y, hy, hy2⟩
                        simp only [recAt] at hy
                        rw [if_neg (by omega)] at hy
                        exact ⟨y, hy, hy2⟩
                  · have hlt := recAt_lt h
                    have := ih _ _ g.2 j r h i
                    split at this
                    · rename_i hk; rw [if_pos hk]; trivial
                    · rename_i hk
                      rw [if_neg hk, this]
                      constructor
                      · rintro ⟨hi, y, hy, hy2⟩
                        refine ⟨hi, y, ?_, hy2⟩
                        simp only [recAt]; rw [if_neg (by omega)]; exact hy
                      · rintro ⟨hi, y, hy, hy2⟩
                        simp only [recAt] at hy
                        rw [if_neg (by omega)] at hy
                        exact ⟨hi, y, hy, hy2⟩
              have := gen rs t1 m1 g j r hr i
              rw [if_neg (by omega)] at this
              rw [e]; exact this
            -- no chain between
            have hsame : ∀ i, (i < p ∧ ∃ r, recAt rs i = some r ∧ r.k = 2) ↔ (i < j ∧ ∃ r, recAt rs i = some r ∧ r.k = 2) := fun i => by rw [← hc, hcj]
            have still : ∀ i, i < rs.length → (∀ r, recAt rs i = some r → r.k ≠ 2) → MF rs m1 (i + 1) = MF rs m1 i := by
              intro i hi hk
              obtain ⟨x, hx⟩ := recAt_some hi
              obtain ⟨acc', k1, k2, k3, k4, k5⟩ := Good.get g hx
              rw [k4]
              exact k2.still (hk x hx)
            have walk : ∀ (d a : Nat), a + d ≤ rs.length → (∀ i, a ≤ i → i < a + d → ∀ r, recAt rs i = some r → r.k ≠ 2) → MF rs m1 (a + d) = MF rs m1 a := by
              intro d
              induction d with
              | zero => intro a _ _; rfl
              | succ d ih =>
                intro a ha hk
                rw [show a + (d + 1) = a + d + 1 from rfl, still (a + d) (by omega) (hk (a + d) (by omega) (by omega))]
                exact ih a (by omega) fun i h1 h2 => hk i h1 (by omega)
            have : MF rs m1 p = MF rs m1 j := by
              rcases Nat.le_total p j with hle | hle
              · have := walk (j - p) p (by omega) fun i i1 i2 x hx hk => by
                  have := ((hsame i).2 ⟨by omega, x, hx, hk⟩).1
                  omega
                rw [show p + (j - p) = j by omega] at this
                exact this.symm
              · have := walk (p - j) j (by rw [hn] at *; omega) fun i i1 i2 x hx hk => by
                  have := ((hsame i).1 ⟨by omega, x, hx, hk⟩).1
                  omega
                rw [show j + (p - j) = p by omega] at this
                exact this
            rw [this, h4]
            exact d
          · refine rdAt_ok hchk hm e ?_ ?_
            · apply Nat.eq_of_testBit_eq
              intro i
              rw [land_bit, land_bit]
              cases hRi : r.R.testBit i with
              | false => rfl
              | true =>
                simp only [Bool.true_and]
                have e1 := Good.cspec g i
                have e2 := hc i
                cases hci : c'.testBit i with
                | true =>
                  rw [hci] at e2
                  rw [e1.2 (e2.1 rfl).2]
                | false =>
                  cases hcf : (cOf rs).testBit i with
                  | false => rfl
                  | true =>
                    exfalso
                    obtain ⟨x, hx, hxk⟩ := e1.1 hcf
                    have hlt := recAt_lt hx
                    have hip : i < p := hf1 i (by omega) (by simp only [hx]; exact hxk) ⟨r, rfl, hRi⟩
                    have := e2.2 ⟨hip, x, hx, hxk⟩
                    rw [hci] at this; cases this
            · have hb := h2.b
              rw [h1] at hb
              cases hz : Nat.beq (Nat.land s' r.b) 0 with
              | true => rfl
              | false =>
                exfalso
                rw [hb] at hz
                obtain ⟨q, x, hq, hx, hxk, hxR⟩ := hs j (land_pow hz)
                exact hf2 q hq (by simp only [hx]; exact hxk) ⟨x, hx, hxR⟩
      unfold evOp
      simp only [c, fin]
    · refine .inr (.inr ⟨a, b, ?_⟩)
      rw [h4]; exact c
end

theorem drawn_ok {C : Cx} {G : Nat → Nat} {w0 : World} (ok : C.Fine G w0) {call : CallF} (hc : CallsOK G w0 C.P call) {nt : Nat} (hnt : nt ≤ 1000000) : DrawOK G w0 C.P nt (fun _ => drawn C call nt) := by
  intro id ops t m t' m' h0 ρ a w D rt hd r
  have h : drawn C call nt ops t m = some (t', m') := h0
  clear h0
  unfold drawn at h
  cases hr : runD C call nt ops.toList ops.toList 0 1 [] t m with
  | none => simp [hr] at h
  | some res =>
    obtain ⟨rs, t1, m1⟩ := res
    simp only [hr, fL_eq] at h
    obtain ⟨hrd, h⟩ := cond_some h
    simp only [Option.some.injEq, Prod.mk.injEq] at h
    obtain ⟨rfl, rfl⟩ := h
    obtain ⟨hg, hlen⟩ := runD_ok (t0 := t) (m0 := m) ops.toList (acc := []) rfl rfl rfl ⟨rfl, rfl⟩ hr
    simp at hlen
    have pl := plan_of hg hlen hrd
    refine wp_region_any ok.mixed ?_
    refine pl.any ok hc hnt (ρ0 := ρ) (wb := w) (fun ρ' a' w' h1 h2 h3 h4 => ⟨rfl, ρ', h1, h2, h3, h4⟩) ops.size _ 0 ρ a _ (by simp [Array.toList_replicate]) ⟨by simp, ?_, .inl rfl, by omega, ?_, ?_, ?_, ?_, rt.size, hd⟩
    · intro j hj hl
      simp [hj] at hl
    · intro i hi hk
      simp [hi]
    · rw [pl.M0]; exact r.drew _
    · rw [pl.M0]; exact Fr.drew
    · intro s hs j hj hw v hv
      have hkeep := pl.Tconst hnt hs (p := 0) (q := j) hj (by omega) fun y oy h1 h2 hoy hdy => by
        have := (hw y oy hoy hdy).2 h2
        have hy : y < ops.size := (Array.getElem?_eq_some_iff.1 hoy).1
        simp [hy] at this
      rw [hkeep, pl.T0] at hv
      exact rt.get s v hs hv
end
end Go.Ev
