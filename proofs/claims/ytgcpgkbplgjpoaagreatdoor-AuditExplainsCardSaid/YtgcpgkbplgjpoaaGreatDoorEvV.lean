/-
  A part of the evaluator for closed runs: proved once over any program.
-/
import Derived.Test.YtgcpgkbplgjpoaaGreatDoorEvU
set_option linter.unusedVariables false
set_option linter.unusedSimpArgs false
namespace Go.Ev
noncomputable section

/-! ### A region in drawn order -/
def restr (t : T AV) : List Nat → T AV
  | [] => .leaf
  | s :: l => bif Nat.blt s 1000000 then T.put (Key.slot s) (T.get (Key.slot s) t) (restr t l) else restr t l

theorem restr_get {t : T AV} : ∀ {l : List Nat} {i : Nat} {v : AV}, i < 1000000 → T.get (Key.slot i) (restr t l) = some v → i ∈ l ∧ T.get (Key.slot i) t = some v
  | [], i, v, hi, h => by simp [restr, T.get_leaf] at h
  | s :: l, i, v, hi, h => by
    simp only [restr, nblt] at h
    by_cases c : s < 1000000
    · simp only [c, decide_true, cond_true, T.get_put] at h
      by_cases e : Key.slot i = Key.slot s
      · obtain rfl := Key.slot_inj hi c e
        simp at h
        exact ⟨by simp, h⟩
      · rw [if_neg e] at h
        obtain ⟨h1, h2⟩ := restr_get hi h
        exact ⟨by simp [h1], h2⟩
    · simp only [c, decide_false, cond_false] at h
      obtain ⟨h1, h2⟩ := restr_get hi h
      exact ⟨by simp [h1], h2⟩

theorem restr_agree {t : T AV} : ∀ {l : List Nat}, Agree (restr t l) t l
  | [], s, hs, _ => by simp at hs
  | x :: l, s, hs, hlt => by
    simp only [restr, nblt]
    by_cases c : x < 1000000
    · simp only [c, decide_true, cond_true, T.get_put]
      by_cases e : Key.slot s = Key.slot x
      · rw [if_pos e, e]
      · rw [if_neg e]
        rcases List.mem_cons.1 hs with rfl | h
        · exact absurd rfl e
        · exact restr_agree s h hlt
    · simp only [c, decide_false, cond_false]
      rcases List.mem_cons.1 hs with rfl | h
      · exact absurd hlt c
      · exact restr_agree s h hlt

def gT (ops : List Oper) (g : Option (Nat × Bool)) : List Nat :=
  match g with
  | none => []
  | some (j, _) => match nth ops j with
    | some o => match o.dst with
      | some d => [d]
      | none => []
    | none => []

theorem wantA_congr {ops : List Oper} {t t' : T AV} {g : Option (Nat × Bool)} (h : Agree t t' (gT ops g)) : wantA ops t g = wantA ops t' g := by
  cases g with
  | none => rfl
  | some jb =>
    obtain ⟨j, b⟩ := jb
    simp only [wantA]
    simp only [gT] at h
    cases hn : nth ops j with
    | none => rfl
    | some o =>
      simp only [hn] at h
      cases hd : o.dst with
      | none => simp only [hd]
      | some d =>
        simp only [hd] at h ⊢
        by_cases c : d < 1000000
        · rw [h d (by simp) c]
        · have : Nat.blt d 1000000 = false := by rw [nblt, decide_eq_false_iff_not]; exact c
          rw [this]; rfl

def looks (ops : List Oper) (o : Oper) : List Nat := gT ops o.guard ++ tmpsOf o.op.operands.toList

/-- What a check of a region's run in the order of its text gives. -/
structure Plan (C : Cx) (call : CallF) (nt : Nat) (ops : Array Oper) (t0 : T AV) (m0 : Mem) (t1 : T AV) (m1 : Mem) where
  Tf : Nat → T AV
  M : Nat → Mem
  R : Nat → Nat → Prop
  K : Nat → Nat
  V : Nat → AV
  T0 : Tf 0 = t0
  M0 : M 0 = m0
  Tn : Tf ops.size = t1
  Mn : M ops.size = m1
  back : ∀ j o, ops[j]? = some o → ∀ e ∈ o.after, Region.binds .any e = true → e.on < j
  reach : ∀ j o i, ops[j]? = some o → R j i → ∃ e ∈ o.after, Region.binds .any e = true ∧ (i = e.on ∨ R e.on i)
  look1 : ∀ i j oi oj, i < j → ops[i]? = some oi → ops[j]? = some oj → R j i ∨ ((∀ d, oi.dst = some d → d ∉ looks ops.toList oj ∧ oj.dst ≠ some d) ∧ (∀ d, oj.dst = some d → d ∉ looks ops.toList oi) ∧ ¬ (K i = 2 ∧ K j = 2))
  put : ∀ j o, ops[j]? = some o → putT nt (Tf j) o.dst (V j) = some (Tf (j + 1))
  still : ∀ j, j < ops.size → K j ≠ 2 → M (j + 1) = M j
  kind : ∀ j o, ops[j]? = some o →
    (wantA ops.toList (Tf j) o.guard = some false ∧ V j = .tup [] ∧ K j = 0) ∨
    (wantA ops.toList (Tf j) o.guard = some true ∧ K j = 1 ∧ ∀ p, p ≤ ops.size → (p = 0 ∨ (0 < p ∧ K (p - 1) = 2)) → (∀ i, i < ops.size → K i = 2 → R j i → i < p) → (∀ i, i < p → K i = 2 → ¬ R i j) → evOp C call (Tf j) (M p) o.op = some (V j, M p)) ∨
    (wantA ops.toList (Tf j) o.guard = some true ∧ K j = 2 ∧ evOp C call (Tf j) (M j) o.op = some (V j, M (j + 1)))

theorem count_set : ∀ {l : List Bool} {i : Nat}, l[i]? = some false → (l.set i true).count false + 1 = l.count false
  | [], i, h => by simp at h
  | b :: l, 0, h => by simp at h; subst h; simp
  | b :: l, i + 1, h => by
    simp at h
    have := count_set h
    cases b <;> simp at * <;> omega

section
variable {C : Cx} {G : Nat → Nat} {w0 : World} {call : CallF} {nt : Nat} {ops : Array Oper} {t0 t1 : T AV} {m0 m1 : Mem}

structure Inv (pl : Plan C call nt ops t0 m0 t1 m1) (G : Nat → Nat) (w0 : World) (D : List Deferred) (ρ0 : Env) (wb : World) (listed : Array Bool) (p : Nat) (ρ : Env) (a : Act) (w : World) : Prop where
  size : listed.size = ops.size
  closed : ∀ j, j < ops.size → listed.getD j false = true → ∀ i, pl.R j i → listed.getD i false = true
  edge : p = 0 ∨ (0 < p ∧ pl.K (p - 1) = 2)
  le : p ≤ ops.size
  chain : ∀ i, i < ops.size → pl.K i = 2 → (listed.getD i false = true ↔ i < p)
  rh : RelH G w0 ρ (pl.M p).h (pl.M p).n w
  fr : Fr ρ0 m0.h wb ρ (pl.M p).h w
  tmps : ∀ s, s < 1000000 → ∀ j, j ≤ ops.size → (∀ i o, ops[i]? = some o → o.dst = some s → (listed.getD i false = true ↔ i < j)) → ∀ v, T.get (Key.slot s) (pl.Tf j) = some v → den G ρ v = some (a.tmps.getD s undef)
  room : nt ≤ a.tmps.size
  defers : a.defers = D

theorem Plan.Mconst (pl : Plan C call nt ops t0 m0 t1 m1) {p : Nat} : ∀ {q : Nat}, q ≤ ops.size → p ≤ q → (∀ i, p ≤ i → i < q → pl.K i ≠ 2) → pl.M p = pl.M q
  | 0, _, hp, _ => by
    have h0 : p = 0 := by omega
    rw [h0]
  | q + 1, hq, hp, h => by
    by_cases c : p = q + 1
    · rw [c]
    · rw [pl.still q (by omega) (h q (by omega) (by omega))]
      exact Plan.Mconst pl (by omega) (by omega) fun i h1 h2 => h i h1 (by omega)

/-- A slot keeps its value while nobody writes it. -/
theorem Plan.Tconst (pl : Plan C call nt ops t0 m0 t1 m1) (hnt : nt ≤ 1000000) {s : Nat} (hs : s < 1000000) {p : Nat} : ∀ {q : Nat}, q ≤ ops.size → p ≤ q → (∀ i o, p ≤ i → i < q → ops[i]? = some o → o.dst ≠ some s) → T.get (Key.slot s) (pl.Tf q) = T.get (Key.slot s) (pl.Tf p)
  | 0, _, hp, _ => by
    have h0 : p = 0 := by omega
    rw [h0]
  | q + 1, hq, hp, h => by
    by_cases c : p = q + 1
    · rw [c]
    · rw [← Plan.Tconst pl hnt hs (q := q) (by omega) (by omega) fun i o h1 h2 => h i o h1 (by omega)]
      have hlt : q < ops.size := by omega
      have ho : ops[q]? = some ops[q] := by simp [hlt]
      have hput := pl.put q _ ho
      have hne := h q _ (by omega) (by omega) ho
      cases hd : ops[q].dst with
      | none => rw [hd] at hput; simp only [putT, Option.some.injEq] at hput; rw [hput]
      | some d =>
        rw [hd] at hput hne
        simp only [putT] at hput
        obtain ⟨hk, hput⟩ := cond_some hput
        rw [nblt, decide_eq_true_iff] at hk
        simp only [T.putK_eq, Option.some.injEq] at hput
        rw [← hput, T.get_put, if_neg]
        intro e
        exact hne (by rw [Key.slot_inj hs (by omega) e])

theorem Plan.Tput (pl : Plan C call nt ops t0 m0 t1 m1) (hnt : nt ≤ 1000000) {j s : Nat} {o : Oper} (ho : ops[j]? = some o) (hd : o.dst = some s) : s < nt ∧ T.get (Key.slot s) (pl.Tf (j + 1)) = some (pl.V j) := by
  have hput := pl.put j o ho
  rw [hd] at hput
  simp only [putT] at hput
  obtain ⟨hk, hput⟩ := cond_some hput
  rw [nblt, decide_eq_true_iff] at hk
  simp only [T.putK_eq, Option.some.injEq] at hput
  exact ⟨hk, by rw [← hput, T.get_put, if_pos rfl]⟩

theorem getD_set {listed : Array Bool} {i j : Nat} (hi : i < listed.size) : (listed.setIfInBounds i true).getD j false = true ↔ j = i ∨ listed.getD j false = true := by
  by_cases c : i = j
  · subst c; simp [hi]
  · simp only [Array.getD_eq_getD_getElem?, Array.getElem?_setIfInBounds_ne c]
    constructor
    · exact .inr
    · rintro (h | h)
      · exact absurd h.symm c
      · exact h

theorem Plan.any (pl : Plan C call nt ops t0 m0 t1 m1) (ok : C.Fine G w0) (hc : CallsOK G w0 C.P call) (hnt : nt ≤ 1000000) {D : List Deferred} {Q : Exit → Act → World → Prop} {ρ0 : Env} {wb : World}
    (k : ∀ ρ' a' w', RelT G ρ' t1 nt a' → a'.defers = D → RelH G w0 ρ' m1.h m1.n w' → Fr ρ0 m0.h wb ρ' m1.h w' → Q .normal a' w') :
    ∀ (fuel : Nat) (listed : Array Bool) (p : Nat) (ρ : Env) (a : Act) (w : World), listed.toList.count false = fuel → Inv pl G w0 D ρ0 wb listed p ρ a w → wpAny C.P .any ops Q fuel listed a w := by
  have fin : ∀ (listed : Array Bool) (p : Nat) (ρ : Env) (a : Act) (w : World), Inv pl G w0 D ρ0 wb listed p ρ a w → Region.ready .any ops listed = [] → (∀ i, i < ops.size → listed.getD i false = true) ∧ Q .normal a w := by
    intro listed p ρ a w I hr
    have all : ∀ i, i < ops.size → listed.getD i false = true := by
      intro i
      induction i using Nat.strongRecOn with
      | ind i ih =>
        intro hi
        cases hb : listed.getD i false with
        | true => rfl
        | false =>
          exfalso
          have hmem : i ∈ Region.ready .any ops listed := by
            rw [mem_ready]
            refine ⟨?_, ops[i], by simp [hi], fun e he hbi => ?_⟩
            · have hlt : i < listed.size := by rw [I.size]; exact hi
              simpa [hlt] using hb
            · have := pl.back i ops[i] (by simp [hi]) e he hbi
              exact ih e.on this (by omega)
          rw [hr] at hmem
          cases hmem
    refine ⟨all, ?_⟩
    have hp : pl.M p = m1 := by
      refine Eq.trans (pl.Mconst (Nat.le_refl _) I.le fun i h1 h2 h3 => ?_) pl.Mn
      have := (I.chain i h2 h3).1 (all i h2)
      omega
    have hrh := I.rh
    have hfr := I.fr
    rw [hp] at hrh hfr
    refine k ρ a w ⟨fun s v hs hv => ?_, I.room⟩ I.defers hrh hfr
    refine I.tmps s hs ops.size (Nat.le_refl _) (fun i o ho hd => ?_) v (by rw [pl.Tn]; exact hv)
    have hlt : i < ops.size := (Array.getElem?_eq_some_iff.1 ho).1
    exact ⟨fun _ => hlt, fun _ => all i hlt⟩
  intro fuel
  induction fuel with
  | zero =>
    intro listed p ρ a w hcnt I
    have hr : Region.ready .any ops listed = [] := by
      cases h : Region.ready .any ops listed with
      | nil => rfl
      | cons x xs =>
        exfalso
        have hm : x ∈ Region.ready .any ops listed := by rw [h]; simp
        rw [mem_ready] at hm
        obtain ⟨hf, o, ho, _⟩ := hm
        have hlt : x < ops.size := (Array.getElem?_eq_some_iff.1 ho).1
        have hlt' : x < listed.size := by rw [I.size]; exact hlt
        have hf' : listed[x] = false := by simpa [hlt'] using hf
        have hmem : false ∈ listed.toList := by
          rw [← hf']; simp
        have : 0 < listed.toList.count false := List.count_pos_iff.2 hmem
        omega
    exact ⟨hr, (fin listed p ρ a w I hr).2⟩
  | succ fuel ih =>
    intro listed p ρ a w hcnt I
    refine ⟨fun hr => (fin listed p ρ a w I hr).2, fun i hi => ?_⟩
    rw [mem_ready] at hi
    obtain ⟨hf, o, ho, hpre⟩ := hi
    have hlt : i < ops.size := (Array.getElem?_eq_some_iff.1 ho).1
    have hlt' : i < listed.size := by rw [I.size]; exact hlt
    have hnot : listed.getD i false = false := by simpa [hlt'] using hf
    -- what is reached is listed
    have hreach : ∀ x, pl.R i x → listed.getD x false = true := by
      intro x hx
      obtain ⟨e, he, hb, h⟩ := pl.reach i o x ho hx
      rcases h with rfl | h
      · exact hpre e he hb
      · exact I.closed e.on (by have := pl.back i o ho e he hb; omega) (hpre e he hb) x h
    -- nobody listed reaches it
    have hunreach : ∀ y, y < ops.size → listed.getD y false = true → ¬ pl.R y i := by
      intro y hy hl hr
      have := I.closed y hy hl i hr
      rw [hnot] at this; cases this
    have hcnt' : (listed.setIfInBounds i true).toList.count false = fuel := by
      have h1 : listed.toList[i]? = some false := by
        rw [Array.getElem?_toList, Array.getElem?_eq_getElem hlt']
        congr 1
        simpa [hlt'] using hf
      have := count_set h1
      rw [Array.toList_setIfInBounds]
      omega
    have closed' : ∀ j, j < ops.size → (listed.setIfInBounds i true).getD j false = true → ∀ x, pl.R j x → (listed.setIfInBounds i true).getD x false = true := by
      intro j hj hl x hx
      rw [getD_set hlt'] at hl ⊢
      rcases hl with rfl | hl
      · exact .inr (hreach x hx)
      · exact .inr (I.closed j hj hl x hx)
    -- the values that it looks at
    have hlook : ∀ s, s < 1000000 → s ∈ looks ops.toList o → ∀ v, T.get (Key.slot s) (pl.Tf i) = some v → den G ρ v = some (a.tmps.getD s undef) := by
      intro s hs hm
      refine I.tmps s hs i (by omega) fun x ox hox hdx => ?_
      have hx : x < ops.size := (Array.getElem?_eq_some_iff.1 hox).1
      rcases Nat.lt_trichotomy x i with h | rfl | h
      · refine ⟨fun _ => h, fun _ => ?_⟩
        rcases pl.look1 x i ox o h hox ho with hr | ⟨h1, _⟩
        · exact hreach x hr
        · exact absurd hm (h1 s hdx).1
      · exact ⟨fun h => (by rw [hnot] at h; cases h), fun h => absurd h (Nat.lt_irrefl _)⟩
      · refine ⟨fun hl => ?_, fun h' => by omega⟩
        exfalso
        rcases pl.look1 i x o ox h ho hox with hr | ⟨_, h2, _⟩
        · exact hunreach x hx hl hr
        · exact h2 s hdx hm
    have rt : RelT G ρ (restr (pl.Tf i) (looks ops.toList o)) nt a := ⟨fun s v hs hv => by
      obtain ⟨h1, h2⟩ := restr_get hs hv
      exact hlook s hs h1 v h2, I.room⟩
    have hag : Agree (restr (pl.Tf i) (looks ops.toList o)) (pl.Tf i) (looks ops.toList o) := restr_agree
    have hag1 := hag.sub (m := gT ops.toList o.guard) (by intro s hs; simp [looks, hs])
    have hag2 := hag.sub (m := tmpsOf o.op.operands.toList) (by intro s hs; simp [looks, hs])
    -- the next state
    have tmps' : ∀ {ρ' : Env} {x : Value}, ρ.le ρ' → den G ρ' (pl.V i) = some x → ∀ s, s < 1000000 → ∀ j, j ≤ ops.size → (∀ y oy, ops[y]? = some oy → oy.dst = some s → ((listed.setIfInBounds i true).getD y false = true ↔ y < j)) → ∀ v, T.get (Key.slot s) (pl.Tf j) = some v → den G ρ' v = some ((a.put o.dst x).tmps.getD s undef) := by
      intro ρ' x hle dx s hs j hj hw v hv
      by_cases hd : o.dst = some s
      · have hij : i < j := (hw i o ho hd).1 (by rw [getD_set hlt']; exact .inl rfl)
        obtain ⟨hs', hput⟩ := pl.Tput hnt ho hd
        have hkeep := pl.Tconst hnt hs (p := i + 1) (q := j) hj (by omega) fun y oy h1 h2 hoy hdy => by
          have hl := (hw y oy hoy hdy).2 h2
          rw [getD_set hlt'] at hl
          have hy : y < ops.size := (Array.getElem?_eq_some_iff.1 hoy).1
          rcases hl with rfl | hl
          · omega
          · rcases pl.look1 i y o oy (by omega) ho hoy with hr | ⟨h3, _⟩
            · exact hunreach y hy hl hr
            · exact (h3 s hd).2 hdy
        rw [hkeep, hput] at hv
        simp only [Option.some.injEq] at hv; subst hv
        rw [dx, hd]
        have hroom := I.room
        simp [Act.put, Nat.lt_of_lt_of_le hs' hroom]
      · have e1 := I.tmps s hs j hj (fun y oy hoy hdy => by
          rw [← hw y oy hoy hdy, getD_set hlt']
          refine ⟨.inr, fun hh => hh.elim (fun hy => ?_) id⟩
          subst hy
          rw [ho] at hoy
          cases hoy
          exact absurd hdy hd) v hv
        rw [den_mono hle e1]
        cases hdd : o.dst with
        | none => rfl
        | some d =>
          have hne : d ≠ s := fun e => hd (by rw [hdd, e])
          simp [Act.put, Array.getElem?_setIfInBounds_ne hne]
    have room' : ∀ x, nt ≤ (a.put o.dst x).tmps.size := by
      intro x
      have := I.room
      cases o.dst <;> simpa [Act.put] using this
    have defers' : ∀ x, (a.put o.dst x).defers = D := by
      intro x
      have := I.defers
      cases o.dst <;> simpa [Act.put] using this
    have chain1 : pl.K i ≠ 2 → ∀ y, y < ops.size → pl.K y = 2 → ((listed.setIfInBounds i true).getD y false = true ↔ y < p) := by
      intro hk y hy hky
      rw [getD_set hlt', ← I.chain y hy hky]
      constructor
      · rintro (rfl | h)
        · exact absurd hky hk
        · exact h
      · exact .inr
    unfold wpOp
    simp only [ho]
    rcases pl.kind i o ho with ⟨hw, hv, hk⟩ | ⟨hw, hk, he⟩ | ⟨hw, hk, he⟩
    · rw [← wantA_congr hag1] at hw
      rw [wantA_ok rt rt.size hw]
      simp only [Bool.false_eq_true, if_false]
      refine ih _ p ρ _ w hcnt' ⟨by simp [I.size], closed', I.edge, I.le, chain1 (by omega), I.rh, I.fr, ?_, room' _, defers' _⟩
      exact tmps' (Env.le_refl _) (by rw [hv]; rfl)
    · rw [← wantA_congr hag1] at hw
      rw [wantA_ok rt rt.size hw]
      simp only [if_true]
      left
      have hev := he p I.le I.edge (fun y hy hky hr => (I.chain y hy hky).1 (hreach y hr)) (fun y hy hky hr => hunreach y (by have := I.le; omega) ((I.chain y (by have := I.le; omega) hky).2 hy) hr)
      rw [← evOp_congr hag2] at hev
      refine evOp_wp ok hc rt I.rh hev fun ρ' w' x dx r' f' => ?_
      exact ih _ p ρ' _ w' hcnt' ⟨by simp [I.size], closed', I.edge, I.le, chain1 (by omega), r', I.fr.trans f', tmps' f'.ext dx, room' _, defers' _⟩
    · rw [← wantA_congr hag1] at hw
      rw [wantA_ok rt rt.size hw]
      simp only [if_true]
      left
      have hpi : p ≤ i := by
        rcases Nat.lt_or_ge i p with h | h
        · have := (I.chain i hlt hk).2 h
          rw [hnot] at this; cases this
        · exact h
      have hbefore : ∀ y, y < i → pl.K y = 2 → listed.getD y false = true := by
        intro y hy hky
        have hy' : y < ops.size := by omega
        rcases pl.look1 y i ops[y] o hy (by simp [hy']) ho with hr | ⟨_, _, h3⟩
        · exact hreach y hr
        · exact absurd ⟨hky, hk⟩ h3
      have hM : pl.M p = pl.M i := pl.Mconst (by omega) hpi fun y h1 h2 hky => by
        have := (I.chain y (by omega) hky).1 (hbefore y h2 hky)
        omega
      rw [← hM, ← evOp_congr hag2] at he
      refine evOp_wp ok hc rt I.rh he fun ρ' w' x dx r' f' => ?_
      refine ih _ (i + 1) ρ' _ w' hcnt' ⟨by simp [I.size], closed', .inr ⟨by omega, by simpa using hk⟩, by omega, ?_, r', I.fr.trans f', tmps' f'.ext dx, room' _, defers' _⟩
      intro y hy hky
      rw [getD_set hlt']
      constructor
      · rintro (rfl | h)
        · omega
        · have := (I.chain y hy hky).1 h
          omega
      · intro h
        by_cases e : y = i
        · exact .inl e
        · exact .inr (hbefore y (by omega) hky)
end
end
end Go.Ev
