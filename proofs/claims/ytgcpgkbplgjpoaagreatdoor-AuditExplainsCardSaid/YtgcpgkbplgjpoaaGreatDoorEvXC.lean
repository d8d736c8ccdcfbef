/-
  A part of the evaluator for closed runs: proved once over any program.
-/
import Derived.Test.YtgcpgkbplgjpoaaGreatDoorEvXB
set_option linter.unusedVariables false
set_option linter.unusedSimpArgs false
namespace Go.Ev
noncomputable section

/-! ### A region in drawn order, with new blocks in no order -/
structure PlanL (C : Cx) (call : CallF) (nt : Nat) (ops : Array Oper) (t0 : T AV) (f0 : Hp) (n0 : Key) (top : Key) (lo : Nat) (t1 : T AV) (f1 : Hp) (n1 : Key) where
  Tf : Nat → T AV
  F : Nat → Hp
  Nn : Nat → Key
  R : Nat → Nat → Prop
  K : Nat → Nat
  V : Nat → AV
  D : Nat → Key → Prop
  X : Nat → Key → Option AObj
  N : Nat → T AObj
  N' : Nat → T AObj
  key : Nat → Key
  T0 : Tf 0 = t0
  F0 : F 0 = f0
  N0 : Nn 0 = n0
  Tn : Tf ops.size = t1
  Fn : F ops.size = f1
  Nnn : Nn ops.size = n1
  lotop : lo ≤ top.toNat
  back : ∀ j o, ops[j]? = some o → ∀ e ∈ o.after, Region.binds .any e = true → e.on < j
  reach : ∀ j o i, ops[j]? = some o → R j i → ∃ e ∈ o.after, Region.binds .any e = true ∧ (i = e.on ∨ R e.on i)
  look1 : ∀ i j oi oj, i < j → ops[i]? = some oi → ops[j]? = some oj → R j i ∨ ((∀ d, oi.dst = some d → d ∉ looks ops.toList oj ∧ oj.dst ≠ some d) ∧ (∀ d, oj.dst = some d → d ∉ looks ops.toList oi) ∧ ¬ (K i = 2 ∧ K j = 2) ∧ (2 ≤ K i → 2 ≤ K j → ∀ q, D i q → D j q → False))
  keys : ∀ i j, i < j → j < ops.size → K i = 4 → K j = 4 → key i ≠ key j
  keyn : ∀ j, K j = 4 → (key j).toNat < top.toNat ∧ lo ≤ (key j).toNat
  put : ∀ j o, ops[j]? = some o → putT nt (Tf j) o.dst (V j) = some (Tf (j + 1))
  heap : ∀ j, j < ops.size → ∀ q, F (j + 1) q = open Classical in if 2 ≤ K j ∧ D j q then X j q else F j q
  cnt : ∀ j, j < ops.size → K j ≠ 2 → Nn (j + 1) = Nn j
  kind : ∀ j o, ops[j]? = some o →
    (wantA ops.toList (Tf j) o.guard = some false ∧ V j = .tup [] ∧ K j = 0) ∨
    (wantA ops.toList (Tf j) o.guard = some true ∧ K j = 1 ∧ ∀ p, p ≤ ops.size → (p = 0 ∨ (0 < p ∧ K (p - 1) = 2)) → (∀ i, i < ops.size → K i = 2 → R j i → i < p) → (∀ i, i < p → K i = 2 → ¬ R i j) →
      ∃ N : T AObj, (∀ q o, T.get q N = some o → F p q = some o ∧ ∀ i, i < ops.size → 3 ≤ K i → D i q → R j i ∧ i < p) ∧ ∀ n, evOp C call (Tf j) ⟨N, n⟩ o.op = some (V j, ⟨N, n⟩)) ∨
    (wantA ops.toList (Tf j) o.guard = some true ∧ (K j = 2 ∨ K j = 3) ∧ (∀ q o, T.get q (N j) = some o → F j q = some o) ∧ (∀ q, D j q ↔ (T.get q (N j) ≠ none ∨ T.get q (N' j) ≠ none)) ∧ (∀ q, X j q = T.get q (N' j)) ∧
      (K j = 2 → evOp C call (Tf j) ⟨N j, Nn j⟩ o.op = some (V j, ⟨N' j, Nn (j + 1)⟩)) ∧ (K j = 3 → ∀ n, evOp C call (Tf j) ⟨N j, n⟩ o.op = some (V j, ⟨N' j, n⟩))) ∨
    (wantA ops.toList (Tf j) o.guard = some true ∧ K j = 4 ∧ (∀ q, D j q ↔ q = key j) ∧ ∃ ob, (∀ q, X j q = some ob) ∧ lightA C (Tf j) o.op (key j) = some (V j, ob))

section
variable {C : Cx} {G : Nat → Nat} {w0 : World} {call : CallF} {nt : Nat} {ops : Array Oper} {t0 t1 : T AV} {f0 f1 : Hp} {n0 n1 top : Key} {lo : Nat}

open Classical in
def Hf (pl : PlanL C call nt ops t0 f0 n0 top lo t1 f1 n1) (L : Nat → Bool) : Nat → Hp
  | 0 => pl.F 0
  | j + 1 => fun q => if L j = true ∧ 2 ≤ pl.K j ∧ pl.D j q then pl.X j q else Hf pl L j q

open Classical in
theorem Hf_succ (pl : PlanL C call nt ops t0 f0 n0 top lo t1 f1 n1) (L : Nat → Bool) (j : Nat) (q : Key) : Hf pl L (j + 1) q = if L j = true ∧ 2 ≤ pl.K j ∧ pl.D j q then pl.X j q else Hf pl L j q := rfl

theorem Hf_all (pl : PlanL C call nt ops t0 f0 n0 top lo t1 f1 n1) {L : Nat → Bool} : ∀ {j : Nat}, j ≤ ops.size → (∀ i, i < j → L i = true) → ∀ q, Hf pl L j q = pl.F j q
  | 0, hj, h, q => rfl
  | j + 1, hj, h, q => by
    rw [Hf_succ]
    rw [pl.heap j (by omega), Hf_all pl (by omega) fun i hi => h i (by omega)]
    by_cases c : 2 ≤ pl.K j ∧ pl.D j q
    · rw [if_pos ⟨h j (by omega), c⟩, if_pos c]
    · rw [if_neg fun c' => c c'.2, if_neg c]

theorem Hf_none (pl : PlanL C call nt ops t0 f0 n0 top lo t1 f1 n1) {L : Nat → Bool} : ∀ {j : Nat}, (∀ i, i < j → L i = false) → ∀ q, Hf pl L j q = pl.F 0 q
  | 0, h, q => rfl
  | j + 1, h, q => by
    rw [Hf_succ]
    rw [h j (by omega), if_neg (by simp), Hf_none pl (j := j) fun i hi => h i (by omega)]

theorem Hf_congr (pl : PlanL C call nt ops t0 f0 n0 top lo t1 f1 n1) {L L' : Nat → Bool} : ∀ {j : Nat}, (∀ i, i < j → L i = L' i) → ∀ q, Hf pl L j q = Hf pl L' j q
  | 0, h, q => rfl
  | j + 1, h, q => by
    rw [Hf_succ]
    rw [Hf_succ, h j (by omega), Hf_congr pl (j := j) fun i hi => h i (by omega)]

/-- One more. -/
theorem Hf_add (pl : PlanL C call nt ops t0 f0 n0 top lo t1 f1 n1) {L L' : Nat → Bool} {j : Nat} (hL : L j = false) (hL' : ∀ i, L' i = true ↔ i = j ∨ L i = true) {q : Key} :
    ∀ (d : Nat), (∀ i, j < i → i < j + 1 + d → L i = true → 2 ≤ pl.K i → 2 ≤ pl.K j → pl.D j q → pl.D i q → False) → Hf pl L' (j + 1 + d) q = open Classical in if 2 ≤ pl.K j ∧ pl.D j q then pl.X j q else Hf pl L (j + 1 + d) q
  | 0, h => by
    have hj : L' j = true := (hL' j).2 (.inl rfl)
    have hc : ∀ q, Hf pl L' j q = Hf pl L j q := Hf_congr pl fun i hi => by
      have := hL' i
      cases h1 : L' i <;> cases h2 : L i
      · rfl
      · rw [h1, h2] at this; simp at this
      · rw [h1, h2] at this; simp at this; omega
      · rfl
    rw [Nat.add_zero, Hf_succ, Hf_succ, hj, hL, hc]
    by_cases c : 2 ≤ pl.K j ∧ pl.D j q
    · rw [if_pos ⟨rfl, c⟩, if_pos c]
    · rw [if_neg fun c' => c c'.2, if_neg c, if_neg (fun c' => (by cases c'.1))]
  | d + 1, h => by
    have ih := Hf_add pl hL hL' (q := q) d fun i h1 h2 => h i h1 (by omega)
    have e : L' (j + 1 + d) = L (j + 1 + d) := by
      have := hL' (j + 1 + d)
      cases h1 : L' (j + 1 + d) <;> cases h2 : L (j + 1 + d)
      · rfl
      · rw [h1, h2] at this; simp at this
      · rw [h1, h2] at this; simp at this; omega
      · rfl
    show Hf pl L' (j + 1 + d + 1) q = _
    rw [show j + 1 + (d + 1) = j + 1 + d + 1 from rfl, Hf_succ, Hf_succ, e, ih]
    by_cases c : L (j + 1 + d) = true ∧ 2 ≤ pl.K (j + 1 + d) ∧ pl.D (j + 1 + d) q
    · rw [if_pos c, if_pos c, if_neg]
      rintro ⟨h1, h2⟩
      exact h (j + 1 + d) (by omega) (by omega) c.1 c.2.1 h1 h2 c.2.2
    · rw [if_neg c, if_neg c]

/-- Where nobody unlike touched, memory stands as in the order of the text. -/
theorem Hf_same (pl : PlanL C call nt ops t0 f0 n0 top lo t1 f1 n1) {L : Nat → Bool} {j : Nat} (hj : j ≤ ops.size) {q : Key} (h1 : ∀ i, i < j → L i = false → 2 ≤ pl.K i → ¬ pl.D i q) :
    ∀ (d : Nat), (∀ i, j ≤ i → i < j + d → L i = true → 2 ≤ pl.K i → ¬ pl.D i q) → Hf pl L (j + d) q = pl.F j q
  | 0, h2 => by
    have gen : ∀ m, m ≤ j → Hf pl L m q = pl.F m q := by
      intro m
      induction m with
      | zero => intro _; rfl
      | succ m ih =>
        intro hm
        rw [Hf_succ]
        rw [pl.heap m (by omega), ih (by omega)]
        cases hl : L m with
        | true =>
          by_cases c : 2 ≤ pl.K m ∧ pl.D m q
          · rw [if_pos ⟨rfl, c⟩, if_pos c]
          · rw [if_neg fun c' => c c'.2, if_neg c]
        | false =>
          rw [if_neg (fun c' => (by cases c'.1))]
          by_cases c : 2 ≤ pl.K m ∧ pl.D m q
          · exact (h1 m (by omega) hl c.1 c.2).elim
          · rw [if_neg c]
    exact gen j (Nat.le_refl _)
  | d + 1, h2 => by
    have ih := Hf_same pl hj h1 d fun i k1 k2 => h2 i k1 (by omega)
    show Hf pl L (j + d + 1) q = _
    rw [Hf_succ]
    rw [if_neg, ih]
    rintro ⟨k1, k2, k3⟩
    exact h2 (j + d) (by omega) (by omega) k1 k2 k3

structure InvL (pl : PlanL C call nt ops t0 f0 n0 top lo t1 f1 n1) (G : Nat → Nat) (w0 : World) (D : List Deferred) (ρ0 : Env) (wb : World) (listed : Array Bool) (p : Nat) (ρ : Env) (a : Act) (w : World) : Prop where
  size : listed.size = ops.size
  closed : ∀ j, j < ops.size → listed.getD j false = true → ∀ i, pl.R j i → listed.getD i false = true
  edge : p = 0 ∨ (0 < p ∧ pl.K (p - 1) = 2)
  le : p ≤ ops.size
  chain : ∀ i, i < ops.size → pl.K i = 2 → (listed.getD i false = true ↔ i < p)
  rh : RelF G w0 ρ (Hf pl (fun i => listed.getD i false) ops.size) (pl.Nn p) w
  fr : FrF ρ0 f0 wb ρ (Hf pl (fun i => listed.getD i false) ops.size) w
  news : ∀ q, ρ0 q = none → ρ q ≠ none → lo ≤ q.toNat
  topa : ρ top ≠ none
  free : ∀ i, i < ops.size → pl.K i = 4 → listed.getD i false = false → ρ (pl.key i) = none
  tmps : ∀ s, s < 1000000 → ∀ j, j ≤ ops.size → (∀ i o, ops[i]? = some o → o.dst = some s → (listed.getD i false = true ↔ i < j)) → ∀ v, T.get (Key.slot s) (pl.Tf j) = some v → den G ρ v = some (a.tmps.getD s undef)
  room : nt ≤ a.tmps.size
  defers : a.defers = D

theorem PlanL.Nconst (pl : PlanL C call nt ops t0 f0 n0 top lo t1 f1 n1) {p : Nat} : ∀ {q : Nat}, q ≤ ops.size → p ≤ q → (∀ i, p ≤ i → i < q → pl.K i ≠ 2) → pl.Nn p = pl.Nn q
  | 0, _, hp, _ => by
    have h0 : p = 0 := by omega
    rw [h0]
  | q + 1, hq, hp, h => by
    by_cases c : p = q + 1
    · rw [c]
    · rw [pl.cnt q (by omega) (h q (by omega) (by omega))]
      exact PlanL.Nconst pl (by omega) (by omega) fun i h1 h2 => h i h1 (by omega)

theorem PlanL.Tconst (pl : PlanL C call nt ops t0 f0 n0 top lo t1 f1 n1) (hnt : nt ≤ 1000000) {s : Nat} (hs : s < 1000000) {p : Nat} : ∀ {q : Nat}, q ≤ ops.size → p ≤ q → (∀ i o, p ≤ i → i < q → ops[i]? = some o → o.dst ≠ some s) → T.get (Key.slot s) (pl.Tf q) = T.get (Key.slot s) (pl.Tf p)
  | 0, _, hp, _ => by
    have h0 : p = 0 := by omega
    rw [h0]
  | q + 1, hq, hp, h => by
    by_cases c : p = q + 1
    · rw [c]
    · rw [← PlanL.Tconst pl hnt hs (q := q) (by omega) (by omega) fun i o h1 h2 => h i o h1 (by omega)]
      have hlt : q < ops.size := by omega
      have ho : ops[q]? = some ops[q] := by simp [hlt]
      have hput := pl.put q _ ho
      have hne := h q _ (by omega) (by omega) ho
      cases hd : ops[q].dst with
      | none => rw [hd] at hput; simp only [putT, Option.some.injEq] at hput; rw [hput]
      | some d =>
        rw [hd] at hput hne
        simp only [putT] at hput
        obtain ⟨hk, hput⟩ := cond_some hput
        rw [nblt, decide_eq_true_iff] at hk
        simp only [T.putK_eq, Option.some.injEq] at hput
        rw [← hput, T.get_put, if_neg]
        intro e
        exact hne (by rw [Key.slot_inj hs (by omega) e])

theorem PlanL.Tput (pl : PlanL C call nt ops t0 f0 n0 top lo t1 f1 n1) (hnt : nt ≤ 1000000) {j s : Nat} {o : Oper} (ho : ops[j]? = some o) (hd : o.dst = some s) : s < nt ∧ T.get (Key.slot s) (pl.Tf (j + 1)) = some (pl.V j) := by
  have hput := pl.put j o ho
  rw [hd] at hput
  simp only [putT] at hput
  obtain ⟨hk, hput⟩ := cond_some hput
  rw [nblt, decide_eq_true_iff] at hk
  simp only [T.putK_eq, Option.some.injEq] at hput
  exact ⟨hk, by rw [← hput, T.get_put, if_pos rfl]⟩

theorem light_wp {P : Program} {o : Oper} {a : Act} {w w' : World} {nx : Next} {x : Value} {next : Act → World → Prop} {Q : Exit → Act → World → Prop} (h1 : (execOp a.eval o).run P w = .ok nx w') (h2 : nx = .value x ∨ (nx = .skip ∧ x = undef)) (k : next (a.put o.dst x) w') : o.wp P a w next Q := by
  unfold Oper.wp
  rw [h1]
  rcases h2 with rfl | ⟨rfl, rfl⟩
  · exact k
  · exact k
theorem PlanL.any (pl : PlanL C call nt ops t0 f0 n0 top lo t1 f1 n1) (ok : C.Fine G w0) (hc : CallsOK G w0 C.P call) (hnt : nt ≤ 1000000) {D : List Deferred} {Q : Exit → Act → World → Prop} {ρ0 : Env} {wb : World}
    (k : ∀ ρ' a' w', RelT G ρ' t1 nt a' → a'.defers = D → RelF G w0 ρ' f1 n1 w' → FrF ρ0 f0 wb ρ' f1 w' → (∀ q, ρ0 q = none → ρ' q ≠ none → lo ≤ q.toNat) → Q .normal a' w') :
    ∀ (fuel : Nat) (listed : Array Bool) (p : Nat) (ρ : Env) (a : Act) (w : World), listed.toList.count false = fuel → InvL pl G w0 D ρ0 wb listed p ρ a w → wpAny C.P .any ops Q fuel listed a w := by
  have fin : ∀ (listed : Array Bool) (p : Nat) (ρ : Env) (a : Act) (w : World), InvL pl G w0 D ρ0 wb listed p ρ a w → Region.ready .any ops listed = [] → (∀ i, i < ops.size → listed.getD i false = true) ∧ Q .normal a w := by
    intro listed p ρ a w I hr
    have all : ∀ i, i < ops.size → listed.getD i false = true := by
      intro i
      induction i using Nat.strongRecOn with
      | ind i ih =>
        intro hi
        cases hb : listed.getD i false with
        | true => rfl
        | false =>
          exfalso
          have hmem : i ∈ Region.ready .any ops listed := by
            rw [mem_ready]
            refine ⟨?_, ops[i], by simp [hi], fun e he hbi => ?_⟩
            · have hlt : i < listed.size := by rw [I.size]; exact hi
              simpa [hlt] using hb
            · have := pl.back i ops[i] (by simp [hi]) e he hbi
              exact ih e.on this (by omega)
          rw [hr] at hmem
          cases hmem
    refine ⟨all, ?_⟩
    have hn : pl.Nn p = n1 := by
      refine Eq.trans (pl.Nconst (Nat.le_refl _) I.le fun i h1 h2 h3 => ?_) pl.Nnn
      have := (I.chain i h2 h3).1 (all i h2)
      omega
    have hF : Hf pl (fun i => listed.getD i false) ops.size = f1 := by
      exact Eq.trans (funext fun q => Hf_all pl (Nat.le_refl _) all q) pl.Fn
    have hrh := I.rh
    have hfr := I.fr
    rw [hn, hF] at hrh
    rw [hF] at hfr
    refine k ρ a w ⟨fun s v hs hv => ?_, I.room⟩ I.defers hrh hfr I.news
    refine I.tmps s hs ops.size (Nat.le_refl _) (fun i o ho hd => ?_) v (by rw [pl.Tn]; exact hv)
    have hlt : i < ops.size := (Array.getElem?_eq_some_iff.1 ho).1
    exact ⟨fun _ => hlt, fun _ => all i hlt⟩
  intro fuel
  induction fuel with
  | zero =>
    intro listed p ρ a w hcnt I
    have hr : Region.ready .any ops listed = [] := by
      cases h : Region.ready .any ops listed with
      | nil => rfl
      | cons x xs =>
        exfalso
        have hm : x ∈ Region.ready .any ops listed := by rw [h]; simp
        rw [mem_ready] at hm
        obtain ⟨hf, o, ho, _⟩ := hm
        have hlt : x < ops.size := (Array.getElem?_eq_some_iff.1 ho).1
        have hlt' : x < listed.size := by rw [I.size]; exact hlt
        have hf' : listed[x] = false := by simpa [hlt'] using hf
        have hmem : false ∈ listed.toList := by
          rw [← hf']; simp
        have : 0 < listed.toList.count false := List.count_pos_iff.2 hmem
        omega
    exact ⟨hr, (fin listed p ρ a w I hr).2⟩
  | succ fuel ih =>
    intro listed p ρ a w hcnt I
    refine ⟨fun hr => (fin listed p ρ a w I hr).2, fun i hi => ?_⟩
    rw [mem_ready] at hi
    obtain ⟨hf, o, ho, hpre⟩ := hi
    have hlt : i < ops.size := (Array.getElem?_eq_some_iff.1 ho).1
    have hlt' : i < listed.size := by rw [I.size]; exact hlt
    have hnot : listed.getD i false = false := by simpa [hlt'] using hf
    have hreach : ∀ x, pl.R i x → listed.getD x false = true := by
      intro x hx
      obtain ⟨e, he, hb, h⟩ := pl.reach i o x ho hx
      rcases h with rfl | h
      · exact hpre e he hb
      · exact I.closed e.on (by have := pl.back i o ho e he hb; omega) (hpre e he hb) x h
    have hunreach : ∀ y, y < ops.size → listed.getD y false = true → ¬ pl.R y i := by
      intro y hy hl hr
      have := I.closed y hy hl i hr
      rw [hnot] at this; cases this
    have hcnt' : (listed.setIfInBounds i true).toList.count false = fuel := by
      have h1 : listed.toList[i]? = some false := by
        rw [Array.getElem?_toList, Array.getElem?_eq_getElem hlt']
        congr 1
        simpa [hlt'] using hf
      have := count_set h1
      rw [Array.toList_setIfInBounds]
      omega
    have closed' : ∀ j, j < ops.size → (listed.setIfInBounds i true).getD j false = true → ∀ x, pl.R j x → (listed.setIfInBounds i true).getD x false = true := by
      intro j hj hl x hx
      rw [getD_set hlt'] at hl ⊢
      rcases hl with rfl | hl
      · exact .inr (hreach x hx)
      · exact .inr (I.closed j hj hl x hx)
    have hlook : ∀ s, s < 1000000 → s ∈ looks ops.toList o → ∀ v, T.get (Key.slot s) (pl.Tf i) = some v → den G ρ v = some (a.tmps.getD s undef) := by
      intro s hs hm
      refine I.tmps s hs i (by omega) fun x ox hox hdx => ?_
      have hx : x < ops.size := (Array.getElem?_eq_some_iff.1 hox).1
      rcases Nat.lt_trichotomy x i with h | rfl | h
      · refine ⟨fun _ => h, fun _ => ?_⟩
        rcases pl.look1 x i ox o h hox ho with hr | ⟨h1, _⟩
        · exact hreach x hr
        · exact absurd hm (h1 s hdx).1
      · exact ⟨fun h => (by rw [hnot] at h; cases h), fun h => absurd h (Nat.lt_irrefl _)⟩
      · refine ⟨fun hl => ?_, fun h' => by omega⟩
        exfalso
        rcases pl.look1 i x o ox h ho hox with hr | ⟨_, h2, _⟩
        · exact hunreach x hx hl hr
        · exact h2 s hdx hm
    have rt : RelT G ρ (restr (pl.Tf i) (looks ops.toList o)) nt a := ⟨fun s v hs hv => by
      obtain ⟨h1, h2⟩ := restr_get hs hv
      exact hlook s hs h1 v h2, I.room⟩
    have hag : Agree (restr (pl.Tf i) (looks ops.toList o)) (pl.Tf i) (looks ops.toList o) := restr_agree
    have hag1 := hag.sub (m := gT ops.toList o.guard) (by intro s hs; simp [looks, hs])
    have hag2 := hag.sub (m := tmpsOf o.op.operands.toList) (by intro s hs; simp [looks, hs])
    have tmps' : ∀ {ρ' : Env} {x : Value}, ρ.le ρ' → den G ρ' (pl.V i) = some x → ∀ s, s < 1000000 → ∀ j, j ≤ ops.size → (∀ y oy, ops[y]? = some oy → oy.dst = some s → ((listed.setIfInBounds i true).getD y false = true ↔ y < j)) → ∀ v, T.get (Key.slot s) (pl.Tf j) = some v → den G ρ' v = some ((a.put o.dst x).tmps.getD s undef) := by
      intro ρ' x hle dx s hs j hj hw v hv
      by_cases hd : o.dst = some s
      · have hij : i < j := (hw i o ho hd).1 (by rw [getD_set hlt']; exact .inl rfl)
        obtain ⟨hs', hput⟩ := pl.Tput hnt ho hd
        have hkeep := pl.Tconst hnt hs (p := i + 1) (q := j) hj (by omega) fun y oy h1 h2 hoy hdy => by
          have hl := (hw y oy hoy hdy).2 h2
          rw [getD_set hlt'] at hl
          have hy : y < ops.size := (Array.getElem?_eq_some_iff.1 hoy).1
          rcases hl with rfl | hl
          · omega
          · rcases pl.look1 i y o oy (by omega) ho hoy with hr | ⟨h3, _⟩
            · exact hunreach y hy hl hr
            · exact (h3 s hd).2 hdy
        rw [hkeep, hput] at hv
        simp only [Option.some.injEq] at hv; subst hv
        rw [dx, hd]
        have hroom := I.room
        simp [Act.put, Nat.lt_of_lt_of_le hs' hroom]
      · have e1 := I.tmps s hs j hj (fun y oy hoy hdy => by
          rw [← hw y oy hoy hdy, getD_set hlt']
          refine ⟨.inr, fun hh => hh.elim (fun hy => ?_) id⟩
          subst hy
          rw [ho] at hoy
          cases hoy
          exact absurd hdy hd) v hv
        rw [den_mono hle e1]
        cases hdd : o.dst with
        | none => rfl
        | some d =>
          have hne : d ≠ s := fun e => hd (by rw [hdd, e])
          simp [Act.put, Array.getElem?_setIfInBounds_ne hne]
    have room' : ∀ x, nt ≤ (a.put o.dst x).tmps.size := by
      intro x
      have := I.room
      cases o.dst <;> simpa [Act.put] using this
    have defers' : ∀ x, (a.put o.dst x).defers = D := by
      intro x
      have := I.defers
      cases o.dst <;> simpa [Act.put] using this
    have chain1 : pl.K i ≠ 2 → ∀ y, y < ops.size → pl.K y = 2 → ((listed.setIfInBounds i true).getD y false = true ↔ y < p) := by
      intro hk y hy hky
      rw [getD_set hlt', ← I.chain y hy hky]
      constructor
      · rintro (rfl | h)
        · exact absurd hky hk
        · exact h
      · exact .inr
    have hL' : ∀ y, (listed.setIfInBounds i true).getD y false = true ↔ y = i ∨ listed.getD y false = true := fun y => getD_set hlt'
    have free' : ∀ {ρ' : Env}, (∀ q, q.toNat < top.toNat → ρ q = none → (pl.K i = 4 → q ≠ pl.key i) → ρ' q = none) → ∀ y, y < ops.size → pl.K y = 4 → (listed.setIfInBounds i true).getD y false = false → ρ' (pl.key y) = none := by
      intro ρ' hρ y hy hky hl
      have hyi : y ≠ i := fun e => by
        have := (hL' y).2 (.inl e)
        rw [hl] at this; cases this
      have hln : listed.getD y false = false := by
        cases h : listed.getD y false with
        | false => rfl
        | true =>
          have := (hL' y).2 (.inr h)
          rw [hl] at this; cases this
      refine hρ _ (pl.keyn y hky).1 (I.free y hy hky hln) fun hki e => ?_
      rcases Nat.lt_or_gt_of_ne hyi with h | h
      · exact pl.keys y i h hlt hky hki e
      · exact pl.keys i y h hy hki hky e.symm
    -- who is apart
    have before : ∀ y, y < i → listed.getD y false = false → 2 ≤ pl.K y → 2 ≤ pl.K i → ∀ q, pl.D y q → pl.D i q → False := by
      intro y hy hl h1 h2 q d1 d2
      have hy' : y < ops.size := by omega
      rcases pl.look1 y i ops[y] o hy (by simp [hy']) ho with hr | ⟨_, _, _, h3⟩
      · have := hreach y hr
        rw [hl] at this; cases this
      · exact h3 h1 h2 q d1 d2
    have behind : ∀ y, i < y → y < ops.size → listed.getD y false = true → 2 ≤ pl.K y → 2 ≤ pl.K i → ∀ q, pl.D y q → pl.D i q → False := by
      intro y hy hy' hl h1 h2 q d1 d2
      rcases pl.look1 i y o ops[y] hy ho (by simp [hy']) with hr | ⟨_, _, _, h3⟩
      · exact hunreach y hy' hl hr
      · exact h3 h2 h1 q d2 d1
    have heap' : ∀ q, Hf pl (fun y => (listed.setIfInBounds i true).getD y false) ops.size q = open Classical in if 2 ≤ pl.K i ∧ pl.D i q then pl.X i q else Hf pl (fun y => listed.getD y false) ops.size q := by
      intro q
      have := Hf_add pl (L := fun y => listed.getD y false) (L' := fun y => (listed.setIfInBounds i true).getD y false) (j := i) hnot hL' (q := q) (ops.size - (i + 1)) fun y h1 h2 h3 h4 h5 h6 h7 => behind y h1 (by omega) h3 h4 h5 q h7 h6
      rw [show i + 1 + (ops.size - (i + 1)) = ops.size by omega] at this
      exact this
    have here : ∀ q, 2 ≤ pl.K i → pl.D i q → Hf pl (fun y => listed.getD y false) ops.size q = pl.F i q := by
      intro q hk hq
      have := Hf_same pl (L := fun y => listed.getD y false) (j := i) (by omega) (q := q) (fun y hy hl hky hd => before y hy hl hky hk q hd hq) (ops.size - i) fun y h1 h2 h3 h4 h5 => by
        rcases Nat.lt_or_ge i y with h | h
        · exact behind y h (by omega) h3 h4 hk q h5 hq
        · have : y = i := by omega
          subst this
          rw [hnot] at h3; cases h3
      rw [show i + (ops.size - i) = ops.size by omega] at this
      exact this
    have sameHeap : pl.K i < 2 → Hf pl (fun y => (listed.setIfInBounds i true).getD y false) ops.size = Hf pl (fun y => listed.getD y false) ops.size := by
      intro hk
      funext q
      rw [heap' q, if_neg fun h => by omega]
    have ht : top.toNat < (pl.Nn p).toNat := by
      rcases Nat.lt_or_ge top.toNat (pl.Nn p).toNat with h | h
      · exact h
      · exact absurd (I.rh.fresh top h) I.topa
    unfold wpOp
    simp only [ho]
    rcases pl.kind i o ho with ⟨hw, hv, hk⟩ | ⟨hw, hk, he⟩ | ⟨hw, hk, hN, hD, hX, he2, he3⟩ | ⟨hw, hk, hD, ob, hX, he⟩
    · rw [← wantA_congr hag1] at hw
      rw [wantA_ok rt rt.size hw]
      simp only [Bool.false_eq_true, if_false]
      have hs := sameHeap (by omega)
      refine ih _ p ρ _ w hcnt' ⟨by simp [I.size], closed', I.edge, I.le, chain1 (by omega), by rw [hs]; exact I.rh, by rw [hs]; exact I.fr, I.news, I.topa, free' fun q _ h _ => h, ?_, room' _, defers' _⟩
      exact tmps' (Env.le_refl _) (by rw [hv]; rfl)
    · rw [← wantA_congr hag1] at hw
      rw [wantA_ok rt rt.size hw]
      simp only [if_true]
      left
      obtain ⟨N, hN, hev⟩ := he p I.le I.edge (fun y hy hky hr => (I.chain y hy hky).1 (hreach y hr)) (fun y hy hky hr => hunreach y (by have := I.le; omega) ((I.chain y (by have := I.le; omega) hky).2 hy) hr)
      have hsub : ∀ q o', T.get q N = some o' → Hf pl (fun y => listed.getD y false) ops.size q = some o' := by
        intro q o' hq
        obtain ⟨hF, hlight⟩ := hN q o' hq
        rw [← hF]
        have := Hf_same pl (L := fun y => listed.getD y false) (j := p) I.le (q := q) (fun y hy hl hky hd => ?_) (ops.size - p) fun y h1 h2 h3 h4 h5 => ?_
        · rw [show p + (ops.size - p) = ops.size by have := I.le; omega] at this
          exact this
        · have hy' : y < ops.size := by have := I.le; omega
          by_cases h2 : pl.K y = 2
          · have := (I.chain y hy' h2).2 hy
            rw [hl] at this; cases this
          · have := hreach y (hlight y hy' (by omega) hd).1
            rw [hl] at this; cases this
        · have hy' : y < ops.size := by have := I.le; omega
          by_cases h2 : pl.K y = 2
          · have := (I.chain y hy' h2).1 h3
            omega
          · have := (hlight y hy' (by omega) h5).2
            omega
      have hev' := hev (pl.Nn p)
      rw [← evOp_congr hag2] at hev'
      have hs := sameHeap (by omega)
      refine evOp_wp ok hc rt (I.rh.part hsub) hev' fun ρ' w' x dx r' f' => ?_
      obtain ⟨g1, g2⟩ := frame_step I.rh hsub r' f'
      have hid : eff (fun q => T.get q N ≠ none ∨ T.get q N ≠ none) (fun q => T.get q N) (Hf pl (fun y => listed.getD y false) ops.size) = Hf pl (fun y => listed.getD y false) ops.size := by
        funext q
        unfold eff
        split
        · rename_i h
          cases hg : T.get q N with
          | none => rw [hg] at h; simp at h
          | some o' => first | exact (hsub q o' hg).symm | exact hg.trans (hsub q o' hg).symm
        · rfl
      rw [hid] at g1 g2
      have hnews : ∀ q, ρ q = none → ρ' q ≠ none → top.toNat < q.toNat := fun q h1 h2 => f'.news q top h1 h2 I.topa
      refine ih _ p ρ' _ w' hcnt' ⟨by simp [I.size], closed', I.edge, I.le, chain1 (by omega), by rw [hs]; exact g1, by rw [hs]; exact I.fr.trans g2, ?_, ?_, ?_, tmps' f'.ext dx, room' _, defers' _⟩
      · intro q h1 h2
        cases h : ρ q with
        | none => have := hnews q h h2; have := pl.lotop; omega
        | some x => exact I.news q h1 (by rw [h]; simp)
      · cases h : ρ top with
        | none => exact absurd h I.topa
        | some x => rw [f'.ext _ _ h]; simp
      · refine free' fun q hq h _ => ?_
        cases h' : ρ' q with
        | none => rfl
        | some x => have := hnews q h (by rw [h']; simp); omega
    · rw [← wantA_congr hag1] at hw
      rw [wantA_ok rt rt.size hw]
      simp only [if_true]
      left
      have hk2 : 2 ≤ pl.K i := by omega
      have hsub : ∀ q o', T.get q (pl.N i) = some o' → Hf pl (fun y => listed.getD y false) ops.size q = some o' := by
        intro q o' hq
        rw [here q hk2 ((hD q).2 (.inl (by rw [hq]; simp)))]
        exact hN q o' hq
      have heff : ∀ f : Hp, eff (fun q => T.get q (pl.N i) ≠ none ∨ T.get q (pl.N' i) ≠ none) (fun q => T.get q (pl.N' i)) f = fun q => open Classical in if 2 ≤ pl.K i ∧ pl.D i q then pl.X i q else f q := by
        intro f
        funext q
        unfold eff
        by_cases c : pl.D i q
        · rw [if_pos ((hD q).1 c), if_pos ⟨hk2, c⟩, hX]
        · rw [if_neg fun h => c ((hD q).2 h), if_neg fun h => c h.2]
      have hH : (fun q => open Classical in if 2 ≤ pl.K i ∧ pl.D i q then pl.X i q else Hf pl (fun y => listed.getD y false) ops.size q) = Hf pl (fun y => (listed.setIfInBounds i true).getD y false) ops.size := funext fun q => (heap' q).symm
      -- the counter
      have step : ∀ (n' : Key) (p' : Nat), evOp C call (pl.Tf i) ⟨pl.N i, pl.Nn p⟩ o.op = some (pl.V i, ⟨pl.N' i, n'⟩) → n' = pl.Nn p' → (p' = 0 ∨ (0 < p' ∧ pl.K (p' - 1) = 2)) → p' ≤ ops.size →
          (∀ y, y < ops.size → pl.K y = 2 → ((listed.setIfInBounds i true).getD y false = true ↔ y < p')) → o.wp C.P a w (wpAny C.P .any ops Q fuel (listed.setIfInBounds i true)) Q := by
        intro n' p' hev hn' he1 he2 hch
        rw [← evOp_congr hag2] at hev
        refine evOp_wp ok hc rt (I.rh.part hsub) hev fun ρ' w' x dx r' f' => ?_
        obtain ⟨g1, g2⟩ := frame_step I.rh hsub r' f'
        rw [heff, hH] at g1 g2
        have hnews : ∀ q, ρ q = none → ρ' q ≠ none → top.toNat < q.toNat := fun q h1 h2 => f'.news q top h1 h2 I.topa
        refine ih _ p' ρ' _ w' hcnt' ⟨by simp [I.size], closed', he1, he2, hch, by rw [← hn']; exact g1, I.fr.trans g2, ?_, ?_, ?_, tmps' f'.ext dx, room' _, defers' _⟩
        · intro q h1 h2
          cases h : ρ q with
          | none => have := hnews q h h2; have := pl.lotop; omega
          | some x => exact I.news q h1 (by rw [h]; simp)
        · cases h : ρ top with
          | none => exact absurd h I.topa
          | some x => rw [f'.ext _ _ h]; simp
        · refine free' fun q hq h _ => ?_
          cases h' : ρ' q with
          | none => rfl
          | some x => have := hnews q h (by rw [h']; simp); omega
      rcases hk with hk | hk
      · have hpi : p ≤ i := by
          rcases Nat.lt_or_ge i p with h | h
          · have := (I.chain i hlt hk).2 h
            rw [hnot] at this; cases this
          · exact h
        have hbefore : ∀ y, y < i → pl.K y = 2 → listed.getD y false = true := by
          intro y hy hky
          have hy' : y < ops.size := by omega
          rcases pl.look1 y i ops[y] o hy (by simp [hy']) ho with hr | ⟨_, _, h3, _⟩
          · exact hreach y hr
          · exact absurd ⟨hky, hk⟩ h3
        have hNn : pl.Nn p = pl.Nn i := pl.Nconst (by omega) hpi fun y h1 h2 hky => by
          have := (I.chain y (by omega) hky).1 (hbefore y h2 hky)
          omega
        have hev := he2 hk
        rw [← hNn] at hev
        refine step _ (i + 1) hev rfl (.inr ⟨by omega, by simpa using hk⟩) (by omega) ?_
        intro y hy hky
        rw [getD_set hlt']
        constructor
        · rintro (rfl | h)
          · omega
          · have := (I.chain y hy hky).1 h
            omega
        · intro h
          by_cases e : y = i
          · exact .inl e
          · exact .inr (hbefore y (by omega) hky)
      · exact step _ p (he3 hk (pl.Nn p)) rfl I.edge I.le (chain1 (by omega))
    · rw [← wantA_congr hag1] at hw
      rw [wantA_ok rt rt.size hw]
      simp only [if_true]
      left
      have hfree := I.free i hlt hk hnot
      have hkn := (pl.keyn i hk)
      have hl : lightA C (restr (pl.Tf i) (looks ops.toList o)) o.op (pl.key i) = some (pl.V i, ob) := by
        rw [← he]
        unfold lightA
        rw [evP_congr hag2, evE_congr hag2]
      obtain ⟨b, κ, w', nx, x, k1, k2, k3, k4, k5⟩ := light_ok ok rt I.rh hl hfree (by omega)
      refine light_wp k1 k2 ?_
      have hH : eff (fun q => q = pl.key i) (fun _ => some ob) (Hf pl (fun y => listed.getD y false) ops.size) = Hf pl (fun y => (listed.setIfInBounds i true).getD y false) ops.size := by
        funext q
        rw [heap' q]
        unfold eff
        by_cases c : q = pl.key i
        · rw [if_pos c, if_pos ⟨by omega, (hD q).2 c⟩, hX]
        · rw [if_neg c, if_neg fun h => c ((hD q).1 h.2)]
      rw [hH] at k4 k5
      refine ih _ p _ _ w' hcnt' ⟨by simp [I.size], closed', I.edge, I.le, chain1 (by omega), k4, I.fr.trans k5, ?_, ?_, ?_, tmps' k5.ext k3, room' _, defers' _⟩
      · intro q h1 h2
        by_cases c : q = pl.key i
        · rw [c]; exact hkn.2
        · simp only [Env.add, if_neg c] at h2
          exact I.news q h1 h2
      · have : top ≠ pl.key i := fun e => by have h1 := hkn.1; have h2 := congrArg Key.toNat e; omega
        simp only [Env.add, if_neg this]
        exact I.topa
      · refine free' fun q hq h hne => ?_
        simp only [Env.add, if_neg (hne hk)]
        exact h
end
end
end Go.Ev
