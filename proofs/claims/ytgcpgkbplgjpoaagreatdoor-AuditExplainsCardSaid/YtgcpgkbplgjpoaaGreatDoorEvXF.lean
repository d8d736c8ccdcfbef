/-
  A part of the evaluator for closed runs: proved once over any program.
-/
import Derived.Test.YtgcpgkbplgjpoaaGreatDoorEvXE
set_option linter.unusedVariables false
set_option linter.unusedSimpArgs false
namespace Go.Ev
noncomputable section
section
variable {C : Cx} {call : CallF} {nt : Nat} {ops : Array Oper} {lo : Nat} {t0 : T AV} {m0 : Mem}

theorem rdAtL_ok {rs : List Rec} {r : Rec} {c : Nat} : ∀ {B : List (Nat × Nat × Nat × Mem)}, rdAtL C rs r c B = true → ∀ {cp sp pb : Nat} {mp : Mem}, (cp, sp, pb, mp) ∈ B → Nat.land r.R c = Nat.land r.R cp → Nat.beq (Nat.land sp r.b) 0 = true → evP C r.t (dropdR r.R pb rs mp.h) r.o.op = some r.v
  | [], h, cp, sp, pb, mp, hm, h2, h3 => by cases hm
  | (a, b, pc, d) :: l, h, cp, sp, pb, mp, hm, h2, h3 => by
    simp only [rdAtL] at h
    obtain ⟨h, hl⟩ := cond_and h
    rcases List.mem_cons.1 hm with e | hm
    · cases e
      have e2 : Nat.beq (Nat.land r.R c) (Nat.land r.R a) = true := by rw [nbeq]; simpa using h2
      simp only [e2, h3, cond_true, dropR_eq] at h
      cases he : evP C r.t (dropdR r.R pc rs d.h) r.o.op with
      | none => simp [he] at h
      | some v => simp only [he] at h; rw [AV.eqb_ok h]
    · exact rdAtL_ok hl hm h2 h3

theorem rdOKL_ok {rs : List Rec} {c : Nat} {B : List (Nat × Nat × Nat × Mem)} : ∀ {l : List Rec}, rdOKL C rs c B l = true → ∀ {i : Nat} {r : Rec}, recAt l i = some r → r.k = 1 → readsH r.o.op = true → rdAtL C rs r c B = true
  | [], h, i, r, hr, hk, hh => by simp [recAt] at hr
  | x :: l, h, i, r, hr, hk, hh => by
    have hd : rdOKL C rs c B l = true ∧ (x.k = 1 → readsH x.o.op = true → rdAtL C rs x c B = true) := by
      simp only [rdOKL] at h
      cases h1 : Nat.beq x.k 1 with
      | false => simp only [h1, cond_false] at h; exact ⟨h, fun e => by rw [e] at h1; cases h1⟩
      | true =>
        cases h2 : readsH x.o.op with
        | false => simp only [h1, h2, cond_true, cond_false] at h; exact ⟨h, fun _ e => by cases e⟩
        | true =>
          simp only [h1, h2, cond_true] at h
          obtain ⟨h3, h4⟩ := cond_and h
          exact ⟨h4, fun _ _ => h3⟩
    simp only [recAt] at hr
    split at hr
    · cases hr; exact hd.2 hk hh
    · exact rdOKL_ok hd.1 hr hk hh

theorem recAt_mem : ∀ {l : List Rec} {i : Nat} {x : Rec}, recAt l i = some x → x ∈ l
  | [], i, x, h => by simp [recAt] at h
  | r :: l, i, x, h => by
    simp only [recAt] at h
    split at h
    · cases h; simp
    · exact List.mem_cons_of_mem _ (recAt_mem h)

theorem pow_lt_pow {a b : Nat} (h : Nat.pow 2 a < Nat.pow 2 b) : a < b := by
  rcases Nat.lt_or_ge a b with h' | h'
  · exact h'
  · have : (2 : Nat) ^ b ≤ 2 ^ a := Nat.pow_le_pow_right (by omega) h'
    have h2 : (2 : Nat) ^ a < 2 ^ b := h
    omega

theorem skipK_all : ∀ (l : List Oper) (k : Key), ∃ k' : Key, k'.toNat = k.toNat + l.length ∧ ∀ {β : Type} (c : Key → β), skipK l k c = c k'
  | [], k => ⟨k, by simp, fun c => rfl⟩
  | _ :: l, k => by
    obtain ⟨k', h1, h2⟩ := skipK_all l k.succ
    exact ⟨k', by rw [h1, Key.toNat_succ]; simp; omega, fun c => by simp only [skipK, fKey_eq]; exact h2 c⟩

def planL_of {rs : List Rec} {t1 : T AV} {m1 : Mem} {top : Key} (g : GoodL C call nt ops lo t0 m0 rs t1 m1) (hn : rs.length = ops.size) (hrd : rdOKL C rs (cOf rs) (bndL rs m1) rs = true)
    (htop : top.toNat = lo + ops.size) : PlanL C call nt ops t0 (fun q => T.get q m0.h) m0.n top lo t1 (fun q => T.get q m1.h) m1.n where
  Tf := TF rs t1
  F j q := T.get q (MF rs m1 j).h
  Nn j := (MF rs m1 j).n
  R j i := ∃ r, recAt rs j = some r ∧ r.R.testBit i = true
  K j := match recAt rs j with | some r => r.k | none => 0
  V j := match recAt rs j with | some r => r.v | none => .nilP
  D j q := match recAt rs j with | some r => DL r q | none => False
  X j q := match recAt rs j with | some r => XL r (MF rs m1 (j + 1)) q | none => none
  N j := match recAt rs j with | some r => r.N | none => .leaf
  N' j := match recAt rs j with | some r => r.N' | none => .leaf
  key j := match recAt rs j with | some r => r.key | none => .h
  T0 := (GoodL.zero g).1
  F0 := by funext q; rw [(GoodL.zero g).2]
  N0 := by rw [(GoodL.zero g).2]
  Tn := by rw [← hn]; exact TF_len
  Fn := by funext q; rw [← hn, MF_len]
  Nnn := by rw [← hn, MF_len]
  lotop := by omega
  back j o ho e he hb := by
    obtain ⟨r, hr⟩ := recAt_some (l := rs) (i := j) (by rw [hn]; exact (Array.getElem?_eq_some_iff.1 ho).1)
    obtain ⟨acc, h1, h2, h3, h4, h5⟩ := GoodL.get g hr
    have ha := h2.at_
    rw [h1, ho] at ha
    cases ha
    have := h2.back e he hb
    omega
  reach j o i ho hR := by
    obtain ⟨r, hr, hb⟩ := hR
    obtain ⟨acc, h1, h2, h3, h4, h5⟩ := GoodL.get g hr
    have ha := h2.at_
    rw [h1, ho] at ha
    cases ha
    obtain ⟨e, he, hbe, h⟩ := h2.reach i hb
    refine ⟨e, he, hbe, ?_⟩
    rcases h with h | ⟨x, hx, hx2⟩
    · exact .inl h
    · have := recAt_lt hx
      exact .inr ⟨x, by rw [← h5 _ (by omega)]; exact hx, hx2⟩
  look1 i j oi oj hij hoi hoj := by
    have hj : j < rs.length := by rw [hn]; exact (Array.getElem?_eq_some_iff.1 hoj).1
    obtain ⟨r, hr⟩ := recAt_some hj
    obtain ⟨x, hx⟩ := recAt_some (l := rs) (i := i) (by omega)
    obtain ⟨acc, h1, h2, h3, h4, h5⟩ := GoodL.get g hr
    obtain ⟨acc', k1, k2, _, _, _⟩ := GoodL.get g hx
    have ha := h2.at_
    rw [h1, hoj] at ha
    cases ha
    have hb := k2.at_
    rw [k1, hoi] at hb
    cases hb
    have hx' : recAt acc i = some x := by rw [h5 i hij]; exact hx
    rcases h2.prev i x hx' with h | ⟨p1, p2, p3⟩
    · exact .inl ⟨r, hr, h⟩
    · rcases h2.prevd i x hx' with h | p4
      · exact .inl ⟨r, hr, h⟩
      · refine .inr ⟨fun d hd => ⟨fun hm => ?_, fun e => ?_⟩, fun d hd hm => ?_, fun hk => ?_, ?_⟩
        · have := (p1 d (k2.dm d hd)).1
          rw [h2.lk d hm] at this; cases this
        · have := (p1 d (k2.dm d hd)).2
          rw [h2.dm d e] at this; cases this
        · have := p2 d (h2.dm d hd)
          rw [k2.lk d hm] at this; cases this
        · simp only [hr, hx] at hk
          exact p3 hk
        · simp only [hr, hx]
          exact p4
  keys i j hij hj hki hkj := by
    obtain ⟨r, hr⟩ := recAt_some (l := rs) (i := j) (by omega)
    obtain ⟨x, hx⟩ := recAt_some (l := rs) (i := i) (by omega)
    obtain ⟨acc, h1, h2, _⟩ := GoodL.get g hr
    obtain ⟨acc', k1, k2, _⟩ := GoodL.get g hx
    simp only [hr] at hkj
    simp only [hx] at hki
    simp only [hr, hx]
    intro e
    have e1 := h2.keyn hkj
    have e2 := k2.keyn hki
    rw [e] at e2
    omega
  keyn j hk := by
    cases hr : recAt rs j with
    | none => simp only [hr] at hk; omega
    | some r =>
      obtain ⟨acc, h1, h2, _⟩ := GoodL.get g hr
      simp only [hr] at hk ⊢
      have := h2.keyn hk
      have hlt := recAt_lt hr
      omega
  put j o ho := by
    obtain ⟨r, hr⟩ := recAt_some (l := rs) (i := j) (by rw [hn]; exact (Array.getElem?_eq_some_iff.1 ho).1)
    obtain ⟨acc, h1, h2, h3, h4, h5⟩ := GoodL.get g hr
    have ha := h2.at_
    rw [h1, ho] at ha
    cases ha
    simp only [hr]
    rw [h3]
    exact h2.put
  heap j hj q := by
    obtain ⟨r, hr⟩ := recAt_some (l := rs) (i := j) (by omega)
    obtain ⟨acc, h1, h2, h3, h4, h5⟩ := GoodL.get g hr
    have e := h2.heap q
    rw [← h4] at e
    by_cases c : 2 ≤ r.k ∧ DL r q
    · rw [if_pos c] at e
      rw [if_pos (by simp only [hr]; exact c)]
      simp only [hr]
      exact e
    · rw [if_neg c] at e
      rw [if_neg (by simp only [hr]; exact c)]
      exact e
  cnt j hj hk := by
    obtain ⟨r, hr⟩ := recAt_some (l := rs) (i := j) (by omega)
    obtain ⟨acc, h1, h2, h3, h4, h5⟩ := GoodL.get g hr
    simp only [hr] at hk
    rw [h4]
    exact h2.cnt hk
  kind j o ho := by
    have hjn : j < rs.length := by rw [hn]; exact (Array.getElem?_eq_some_iff.1 ho).1
    obtain ⟨r, hr⟩ := recAt_some hjn
    obtain ⟨acc, h1, h2, h3, h4, h5⟩ := GoodL.get g hr
    have ha := h2.at_
    rw [h1, ho] at ha
    cases ha
    simp only [hr]
    rw [h3]
    rcases h2.kind with ⟨a, b, c⟩ | ⟨a, b, c, Nh, d⟩ | ⟨a, b, c, d, e⟩ | ⟨a, b, ob, c, d⟩
    · exact .inl ⟨a, b, c⟩
    · refine .inr (.inl ⟨a, b, fun p hp hpb hf1 hf2 => ?_⟩)
      cases hread : readsH r.o.op with
      | false =>
        refine ⟨.leaf, fun q o h => by simp [T.get_leaf] at h, fun n => ?_⟩
        unfold evOp
        simp only [c]
        rw [evP_indep hread (h' := Nh), d]
      | true =>
        have hchk := rdOKL_ok hrd hr b hread
        have hpb' : p = 0 ∨ (0 < p ∧ ∃ r, recAt rs (p - 1) = some r ∧ r.k = 2) := by
          rcases hpb with h | ⟨h0, hk⟩
          · exact .inl h
          · obtain ⟨x, hx⟩ := recAt_some (l := rs) (i := p - 1) (by omega)
            simp only [hx] at hk
            exact .inr ⟨h0, x, hx, hk⟩
        obtain ⟨c', s', hm, hc, hs⟩ := bndL_mem g (by rw [hn]; exact hp) hpb'
        have hb := h2.b
        rw [h1] at hb
        have hev := rdAtL_ok hchk hm (by
          apply Nat.eq_of_testBit_eq
          intro i
          rw [land_bit, land_bit]
          cases hRi : r.R.testBit i with
          | false => rfl
          | true =>
            simp only [Bool.true_and]
            have e1 := GoodL.cspec g i
            have e2 := hc i
            cases hci : c'.testBit i with
            | true =>
              rw [hci] at e2
              rw [e1.2 (e2.1 rfl).2]
            | false =>
              cases hcf : (cOf rs).testBit i with
              | false => rfl
              | true =>
                exfalso
                obtain ⟨x, hx, hxk⟩ := e1.1 hcf
                have hlt := recAt_lt hx
                have hip : i < p := hf1 i (by omega) (by simp only [hx]; exact hxk) ⟨r, rfl, hRi⟩
                have := e2.2 ⟨hip, x, hx, hxk⟩
                rw [hci] at this; cases this) (by
          cases hz : Nat.beq (Nat.land s' r.b) 0 with
          | true => rfl
          | false =>
            exfalso
            rw [hb] at hz
            obtain ⟨q, x, hq, hx, hxk, hxR⟩ := hs j (land_pow hz)
            exact hf2 q hq (by simp only [hx]; exact hxk) ⟨x, hx, hxR⟩)
        refine ⟨dropdR r.R (Nat.pow 2 p) rs (MF rs m1 p).h, fun q o hq => ?_, fun n => ?_⟩
        rotate_left
        · unfold evOp
          simp only [c]
          rw [hev]
        · obtain ⟨e1, e2⟩ := dropdR_get rs _ q o hq
          refine ⟨e1, fun i hi hk hd => ?_⟩
          cases hx : recAt rs i with
          | none => simp only [hx] at hd
          | some x =>
            simp only [hx] at hd hk
            have hxm := recAt_mem hx
            have hkey := GoodL.one g x hxm hk q hd
            obtain ⟨z1, z2⟩ := e2 x hxm hk hkey.symm
            have hxb := GoodL.bits (t := t1) (m := m1) g i x hx
            rw [hxb] at z1 z2
            exact ⟨⟨r, rfl, land_pow z1⟩, pow_lt_pow z2⟩
    · refine .inr (.inr (.inl ⟨a, b, fun q o hq => ?_, fun q => ?_, fun q => ?_, ?_, e⟩))
      · rw [h4]; exact c q o hq
      · unfold DL; rw [if_neg (by omega)]
      · unfold XL; rw [if_neg (by omega)]
      · intro hk
        rw [h4]
        exact d hk
    · refine .inr (.inr (.inr ⟨a, b, fun q => ?_, ob, fun q => ?_, d⟩))
      · unfold DL; rw [if_pos b]
      · unfold XL; rw [if_pos b]; exact c
end

theorem drawnL_ok {C : Cx} {G : Nat → Nat} {w0 : World} (ok : C.Fine G w0) {call : CallF} (hc : CallsOK G w0 C.P call) {nt hint : Nat} (hnt : nt ≤ 1000000) : DrawOK G w0 C.P nt (fun _ => drawnL C call nt hint) := by
  intro id ops t m t' m' h0 ρ a w D rt hd r
  have h : drawnL C call nt hint ops t m = some (t', m') := h0
  clear h0
  unfold drawnL at h
  obtain ⟨top, htop, hskip⟩ := skipK_all ops.toList m.n
  rw [hskip] at h
  simp only [fKey_eq] at h
  cases hr : runL C call nt ops.toList hint ops.toList 0 1 m.n [] t ⟨m.h, top.succ⟩ with
  | none => simp [hr] at h
  | some res =>
    obtain ⟨rs, t1, m1, kc⟩ := res
    simp only [hr, fL_eq] at h
    obtain ⟨hrd, h⟩ := cond_some h
    simp only [Option.some.injEq, Prod.mk.injEq] at h
    obtain ⟨rfl, rfl⟩ := h
    obtain ⟨hg, hlen⟩ := runL_ok (t0 := t) (m0 := ⟨m.h, top.succ⟩) (lo := m.n.toNat) ops.toList (acc := []) rfl rfl (by simp) rfl ⟨rfl, rfl⟩ hr
    simp at hlen htop
    have pl := planL_of hg hlen hrd htop
    -- the last kept name is used
    have hnone := r.fresh top (by omega)
    have hle := Env.le_add (x := ((0 : Nat), (0 : Nat))) hnone
    have hnt' : ∀ q o, T.get q m.h = some o → q ≠ top := fun q o hq e => by
      obtain ⟨b, κ, x, e1, _⟩ := r.obj q o hq
      rw [e, hnone] at e1; cases e1
    have rf : RelF G w0 (ρ.add top (0, 0)) (fun q => T.get q m.h) top.succ w := ⟨fun p o hp => by
        obtain ⟨b, κ, x, e1, e2, e3, e4⟩ := r.obj p o hp
        exact ⟨b, κ, x, hle _ _ e1, e2, e3, e4.mono hle⟩, fun p q o o' b κ κ' hp hq e1 e2 => by
        simp only [Env.add, if_neg (hnt' p o hp)] at e1
        simp only [Env.add, if_neg (hnt' q o' hq)] at e2
        exact r.inj p q o o' b κ κ' hp hq e1 e2, fun p hp => by
        rw [Key.toNat_succ] at hp
        have : p ≠ top := fun e => by rw [e] at hp; omega
        simp only [Env.add, if_neg this]
        exact r.fresh p (by omega), r.low, r.os, r.tape, r.output, r.size⟩
    have fr0 : FrF ρ (fun q => T.get q m.h) w (ρ.add top (0, 0)) (fun q => T.get q m.h) w := ⟨hle, Nat.le_refl _, fun _ _ _ => rfl, fun b ⟨p, o, κ, e1, e2⟩ => by
      simp only [Env.add, if_neg (hnt' p o e1)] at e2
      exact .inl ⟨p, o, κ, e1, e2⟩⟩
    refine wp_region_any ok.mixed ?_
    refine pl.any ok hc hnt (ρ0 := ρ) (wb := w) (fun ρ' a' w' h1 h2 h3 h4 h5 => ⟨rfl, ρ', h1, h2, ⟨h3.obj, h3.inj, h3.fresh, h3.low, h3.os, h3.tape, h3.output, h3.size⟩, ⟨h4.ext, h4.size, h4.keep, h4.own, fun p q e1 e2 e3 => (Nat.lt_or_ge q.toNat m.n.toNat).elim (fun h => Nat.lt_of_lt_of_le h (h5 p e1 e2)) (fun h => absurd (r.fresh q h) e3)⟩⟩) ops.size _ 0 (ρ.add top (0, 0)) a _ (by simp [Array.toList_replicate])
      ⟨by simp, ?_, .inl rfl, by omega, ?_, ?_, ?_, ?_, ?_, ?_, ?_, rt.size, hd⟩
    · intro j hj hl
      simp [hj] at hl
    · intro i hi hk
      simp [hi]
    · have e : Hf pl (fun i => (Array.replicate ops.size false).getD i false) ops.size = fun q => T.get q m.h := by
        exact Eq.trans (funext fun q => Hf_none pl (L := fun i => (Array.replicate ops.size false).getD i false) (j := ops.size) (fun i hi => by simp [hi]) q) pl.F0
      rw [e, pl.N0]
      exact ⟨rf.obj, rf.inj, rf.fresh, rf.low, rf.os, rf.tape, rf.output, rf.size⟩
    · have e : Hf pl (fun i => (Array.replicate ops.size false).getD i false) ops.size = fun q => T.get q m.h := by
        exact Eq.trans (funext fun q => Hf_none pl (L := fun i => (Array.replicate ops.size false).getD i false) (j := ops.size) (fun i hi => by simp [hi]) q) pl.F0
      rw [e]
      exact ⟨fr0.ext, fr0.size, fr0.keep, fr0.own⟩
    · intro q e1 e2
      by_cases c : q = top
      · rw [c]; omega
      · simp only [Env.add, if_neg c] at e2
        exact absurd e1 e2
    · rw [Env.add_self]; simp
    · intro i hi hk hl
      have hk1 := (pl.keyn i hk).1
      have : pl.key i ≠ top := fun e => by have := congrArg Key.toNat e; omega
      simp only [Env.add, if_neg this]
      exact r.fresh _ (pl.keyn i hk).2
    · intro s hs j hj hw v hv
      have hkeep := pl.Tconst hnt hs (p := 0) (q := j) hj (by omega) fun y oy h1 h2 hoy hdy => by
        have := (hw y oy hoy hdy).2 h2
        have hy : y < ops.size := (Array.getElem?_eq_some_iff.1 hoy).1
        simp [hy] at this
      rw [hkeep, pl.T0] at hv
      exact den_mono hle (rt.get s v hs hv)
end
end Go.Ev
