/-
  A part of the evaluator for closed runs: proved once over any program.
-/
import Derived.Test.YtgcpgkbplgjpoaaGreatDoorEvN
set_option linter.unusedVariables false
set_option linter.unusedSimpArgs false
namespace Go.Ev
noncomputable section

theorem T.put_put {α : Type} : ∀ (k : Key) (x y : Option α) (t : T α), T.put k x (T.put k y t) = T.put k x t
  | .h, x, y, .leaf => rfl
  | .h, x, y, .node l v r => rfl
  | .o k, x, y, .leaf => by simp only [T.put]; rw [T.put_put]
  | .o k, x, y, .node l v r => by simp only [T.put]; rw [T.put_put]
  | .i k, x, y, .leaf => by simp only [T.put]; rw [T.put_put]
  | .i k, x, y, .node l v r => by simp only [T.put]; rw [T.put_put]

theorem zeroA_all {P : Program} {t : TypeId} {v : AV} (h : zeroA P t = some v) : ∃ x, (∀ w, (zeroValue t).run P w = .ok x w) ∧ ∀ G ρ, den G ρ v = some x := by
  unfold zeroA at h
  cases hi : P.info? t with
  | none => simp [hi] at h
  | some i =>
    cases hz : i.zero with
    | none => simp [hi, hz] at h
    | some x =>
      simp [hi, hz] at h
      exact ⟨x, fun w => by simp [zeroValue, typeInfo, hi, hz], fun G ρ => cv_ok h⟩

/-- In place, under another name; what was there beyond is forgotten. -/
theorem inplace {P : Program} {G : Nat → Nat} {w0 : World} {ρ : Env} {m : Mem} {w : World} (r : RelH G w0 ρ m.h m.n w) {p : Key} {o o' : AObj} {b κ : Nat} {c : Array Value} {ty : TypeId} {f : Nat × Nat} (hp : T.get p m.h = some o) (hb : ρ p = some (b, κ))
    (hx : w.heap[b]? = some (.cells c ty f)) {off : Nat} {vs : List Value} (hf : ∀ j, off ≤ j → j < c.size → ¬ (f.1 ≤ j ∧ j < f.2)) (hl : off + vs.length ≤ c.size) (h1 : ∀ v ∈ vs, v.oneCell' = true)
    (ho : ∀ c' : Array Value, c'.toList = ow c.toList off vs → ObjOK G ρ κ o' (.cells c' ty f)) :
    ∃ w', (storeCells ⟨b, off, none⟩ vs).run P w = .ok () w' ∧ RelH G w0 (ρ.add m.n (b, κ)) (T.put m.n (some o') (T.put p none m.h)) m.n.succ w' ∧ Fr ρ m.h w (ρ.add m.n (b, κ)) (T.put m.n (some o') (T.put p none m.h)) w' := by
  obtain ⟨w', c', r1, r2, r3, r4, r5, r6, r7, r8⟩ := run_stores P b off ty f vs 0 c w hx (fun j hj => hf j (by omega)) (by omega) h1
  obtain ⟨q1, q2⟩ := r.update (w' := w') (o' := o') (x' := .cells c' ty f) hp hb r2 (ho c' r3) r4 r5 r6 r7 r8
  obtain ⟨q3, q4⟩ := q1.rename (T.get_put_same _ _ _) hb
  rw [T.put_put] at q3 q4
  exact ⟨w', r1, q3, q2.trans q4⟩

theorem fr_drew {ρ ρ' : Env} {h h' : T AObj} {w w' : World} (a : Fr ρ h { w with drawn := w.drawn + 1 } ρ' h' w') : Fr ρ h w ρ' h' w' := (Fr.drew (n := w.drawn + 1)).trans a

theorem prefix_take {α : Type} {l m : List α} (h : l <+: m) {n : Nat} (hn : n ≤ l.length) : m.take n = l.take n := by
  obtain ⟨r, rfl⟩ := h
  rw [List.take_append_of_le_length hn]

set_option maxHeartbeats 1000000 in
theorem append_ok {C : Cx} {G : Nat → Nat} {w0 : World} (ok : C.Ok G w0) {ρ : Env} {m m' : Mem} {w : World} (r : RelH G w0 ρ m.h m.n w) {t0 t1 ty : TypeId} {ts : List TypeId} {x y u : AV} {X Y : Value}
    (h : appendA C m t0 t1 x y = some (u, m')) (dx : den G ρ x = some X) (dy : den G ρ y = some Y) :
    Does G w0 C.P (Builtin.append_ (t0 :: t1 :: ts).toArray ty #[X, Y]) ρ m w u m' := by
  unfold appendA at h
  cases hu : C.P.underlying t0 with
  | none => simp [hu] at h
  | some d0 =>
    cases d0 <;> simp only [hu, reduceCtorEq] at h
    rename_i e
    obtain ⟨s, hs, hh⟩ := bind_some h; replace h := hh; clear hh
    cases hinfo : C.P.info? e with
    | none => simp [hinfo] at h
    | some i =>
      simp only [hinfo] at h
      obtain ⟨z, hz, hh⟩ := bind_some h; replace h := hh; clear hh
      obtain ⟨hb, hh⟩ := cond_some h; replace h := hh; clear hh
      obtain ⟨hi, b2, b3⟩ := and3 hb
      rw [nble, decide_eq_true_iff] at b2
      rw [nbeq, decide_eq_true_iff] at b3
      obtain ⟨zx, hzr, dz⟩ := zeroA_all hz
      have dc := cellsOf'_ok (dz G ρ)
      have hzs : zx.cells.size = s := by rw [← Array.length_toList, denL_length dc, b3]
      have hzl : zx.cells.toList.length = s := by rw [Array.length_toList, hzs]
      have grow := fun (base : Option Addr) (sLen sCap n : Nat) (N O : List Value) (hN : SrcOK C.P w s n Y N) (hO : ∀ d, (Builtin.firstCells s sLen (.slice base sLen sCap)).run C.P { w with drawn := d } = .ok O.toArray { w with drawn := d }) (hc : ¬ sLen + n ≤ sCap) (hb : sLen + n ≤ 1000000) =>
        append_grow (ts := ts) (ty := ty) (w := w) (base := base) (sLen := sLen) (sCap := sCap) (n := n) (X := Y) (N := N.toArray) (O := O.toArray) hu hs hi hinfo hzr hzs (hN.1 w.drawn) hc hb b2 hO hN.2
      cases hu8 : isU8 C.P e with
      | true =>
        simp only [hu8, cond_true] at h
        have hs1 := (cond_some h).1
        replace h := (cond_some h).2
        rw [nbeq, decide_eq_true_iff] at hs1
        subst hs1
        obtain ⟨⟨n, c⟩, hsrc, hh⟩ := bind_some h; replace h := hh; clear hh
        simp only [fN_eq] at h
        have hN := srcB_ok (P := C.P) r hsrc dy
        have hyl : ((bytesL n c).map byteV).length = n := by simp
        cases x <;> simp only [reduceCtorEq] at h
        case nilS =>
          simp only [den, Option.some.injEq] at dx; subst dx
          rw [nbeq] at h
          by_cases hn : n = 0
          · simp only [hn, decide_true, cond_true, Option.some.injEq, Prod.mk.injEq] at h
            obtain ⟨rfl, rfl⟩ := h
            subst hn
            refine ⟨ρ, w, .slice none 0 0, ?_, rfl, r, Fr.refl _ _ _⟩
            exact append_in (N := #[]) (w' := w) hu hs hi (hN.1 w.drawn) (by omega) (hN.2 w.drawn) rfl
          · simp only [hn, decide_false, cond_false] at h
            have hb := (cond_some h).1
            replace h := (cond_some h).2
            rw [nble, decide_eq_true_iff] at hb
            obtain ⟨κ, hk, run⟩ := grow none 0 0 n _ [] hN (fun d => rfl) (by omega) (by omega)
            simp only [Nat.zero_add] at run hk
            refine grownB_ok (R := zrow zx.cells.toList (κ - n)) r h hk ?_ (by simp) run
            rw [zrow_length, hzl]; omega
        case sl p off len cap =>
          obtain ⟨b, κ0, hpb, rfl⟩ := den_sl dx
          rw [nble] at h
          by_cases hc : len.add n ≤ cap
          · simp only [hc, decide_true, cond_true] at h
            obtain ⟨m1, hst, hh⟩ := bind_some h; replace h := hh; clear hh
            simp only [Option.some.injEq, Prod.mk.injEq] at h
            obtain ⟨rfl, rfl⟩ := h
            obtain ⟨w', r1, r2, r3⟩ := storeBytesA_ok (P := C.P) r hst hpb
            refine ⟨ρ, w', .slice (some ⟨b, off, none⟩) (len + n) cap, ?_, ?_, r2, r3⟩
            · refine append_in (N := ((bytesL n c).map byteV).toArray) (w' := w') hu hs hi (hN.1 w.drawn) hc (hN.2 w.drawn) ?_
              simp only [add_plain, Nat.mul_one]
              exact r1
            · simp [den, hpb]
          · simp only [hc, decide_false, cond_false] at h
            have hb := (cond_some h).1
            replace h := (cond_some h).2
            rw [nble, decide_eq_true_iff] at hb
            obtain ⟨⟨ol, oc⟩, ho, hh⟩ := bind_some h; replace h := hh; clear hh
            simp only [fN_eq] at h
            have hO := srcB_ok (P := C.P) r ho dx
            have e1 : ol = len := by
              simp only [srcB] at ho
              cases hp : T.get p m.h with
              | none => simp [hp] at ho
              | some o =>
                cases o <;> simp only [hp, reduceCtorEq] at ho
                have := (cond_some ho).2
                simp only [fN_eq, Option.some.injEq, Prod.mk.injEq] at this
                exact this.1.symm
            subst e1
            obtain ⟨κ, hk, run⟩ := grow (some ⟨b, off, none⟩) ol cap n _ _ hN hO.2 hc hb
            refine grownB_ok (R := zrow zx.cells.toList (κ - (ol + n))) r h hk ?_ (by
              simp
              rw [← List.append_assoc, ← List.map_append, bytesL_append]; rfl) run
            rw [zrow_length, hzl]
            show ol + n + _ = _
            omega
        case slu p dd len sz =>
          rw [nbeq] at h
          by_cases hn : n = 0
          · simp only [hn, decide_true, cond_true, Option.some.injEq, Prod.mk.injEq] at h
            obtain ⟨rfl, rfl⟩ := h
            subst hn
            obtain ⟨b, κ0, hpb, hk, rfl⟩ := den_slu dx
            refine ⟨ρ, w, .slice (some ⟨b, dd * sz, none⟩) len (κ0 - dd), ?_, dx, r, Fr.refl _ _ _⟩
            exact append_in (N := #[]) (w' := w) hu hs hi (hN.1 w.drawn) (by omega) (hN.2 w.drawn) rfl
          · simp only [hn, decide_false, cond_false] at h
            cases hp : T.get p m.h with
            | none => simp [hp] at h
            | some o =>
              cases o <;> simp only [hp, reduceCtorEq] at h
              rename_i uu oty fz k bs
              have hcnd := (cond_some h).1
              replace h := (cond_some h).2
              simp only [Bool.and_eq_true, nbeq, nble, nblt, decide_eq_true_iff] at hcnd
              obtain ⟨g0, g2, g3, g4, g5, g6, g7⟩ := hcnd
              subst g2 g3 g4
              simp only [fN_eq, fKey_eq, T.putK_eq, Option.some.injEq, Prod.mk.injEq] at h
              obtain ⟨rfl, rfl⟩ := h
              obtain ⟨b, κ0, yo, h1, h2, h3, h4, h5⟩ := r.lt hp
              obtain ⟨ca, f, rfl, hfz, hpre, hsz⟩ := h5
              obtain ⟨b', κ', h1', hk, rfl⟩ := den_slu dx
              rw [h1] at h1'
              obtain ⟨rfl, rfl⟩ : b = b' ∧ κ0 = κ' := by simpa using h1'
              rw [if_neg (by omega : ¬ uu = 0)] at hsz
              obtain ⟨hsz, hstr⟩ := hsz
              have enew : ((bytesL (len + n) (Nat.add (Nat.mod bs (Nat.pow 256 len)) (Nat.mul (Nat.mod c (Nat.pow 256 n)) (Nat.pow 256 len)))).map byteV) = (bytesL len bs).map byteV ++ (bytesL n c).map byteV := by
                rw [← List.map_append, ← bytesL_mod n c, bytesL_append]; rfl
              have ptake : ca.toList.take len = (bytesL len bs).map byteV := by
                rw [prefix_take hpre (by simp; exact g6), ← List.map_take, bytesL_take _ _ _ g6]
              by_cases hfit : len + n ≤ κ0
              · have hroom : len + n ≤ ca.size := by rw [hsz]; exact hfit
                obtain ⟨w', q1, q2, q3⟩ := inplace (P := C.P) (o' := .bytes uu oty fz (len + n) (Nat.add (Nat.mod bs (Nat.pow 256 len)) (Nat.mul (Nat.mod c (Nat.pow 256 n)) (Nat.pow 256 len)))) (off := len) (vs := (bytesL n c).map byteV) r hp h1 h2 (fun j hj hj' => hfz j (Nat.le_trans g5 hj) hj') (by rw [hyl]; exact hroom)
                  (fun v hv => by obtain ⟨q, _, rfl⟩ := List.mem_map.1 hv; rfl)
                  (fun c' hc' => ⟨c', f, rfl, by unfold Fz at hfz ⊢; rw [show c'.size = ca.size from by rw [← Array.length_toList, hc', ow_length, Array.length_toList]]; exact hfz, by
                    rw [hc', ow_eq _ _ _ (by rw [hyl]; simpa using hroom), ptake, enew]
                    exact List.prefix_append _ _, by
                    rw [if_neg (by omega : ¬ uu = 0)]
                    rw [← Array.length_toList, hc', ow_length, Array.length_toList, hsz], hstr⟩)
                refine ⟨_, w', .slice (some ⟨b, 0 * 1, none⟩) (len + n) (κ0 - 0), ?_, ?_, q2, q3⟩
                · refine append_in (N := ((bytesL n c).map byteV).toArray) (w' := w') hu hs hi (hN.1 w.drawn) (by omega) (hN.2 w.drawn) ?_
                  simp only [add_plain, Nat.mul_one, Nat.zero_add]
                  exact q1
                · simp only [den, Env.add_self]
                  rw [if_pos (by show 0 + (len + n) ≤ κ0; omega)]
                  rfl
              · obtain ⟨q1, q2⟩ := r.drop p
                have hO : ∀ d, (Builtin.firstCells 1 len (.slice (some ⟨b, 0 * 1, none⟩) len (κ0 - 0))).run C.P { w with drawn := d } = .ok ((bytesL len bs).map byteV).toArray { w with drawn := d } := fun d => by
                  have := byte_cells (P := C.P) (w := { w with drawn := d }) (off := 0) (len := len) h2 hpre (by omega)
                  simp only [Builtin.firstCells, Nat.mul_one]
                  rw [this, bytesL_mod]
                  simp
                obtain ⟨κ, hk', run⟩ := grow (some ⟨b, 0 * 1, none⟩) len (κ0 - 0) n _ _ hN hO (by omega) g7
                have q1d : RelH G w0 ρ (T.put p none m.h) m.n { w with drawn := w.drawn + 1 } := q1.drewn
                obtain ⟨q3, q4⟩ := q1d.alloc (o := .bytes uu oty fz (len + n) (Nat.add (Nat.mod bs (Nat.pow 256 len)) (Nat.mul (Nat.mod c (Nat.pow 256 n)) (Nat.pow 256 len)))) (κ := κ) (x := .cells (((bytesL len bs).map byteV).toArray ++ ((bytesL n c).map byteV).toArray ++ (zrow zx.cells.toList (κ - (len + n))).toArray) oty)
                  ⟨_, (0, 0), rfl, Fz_zero _ _, by rw [enew]; simp, by
                    rw [if_neg (by omega : ¬ uu = 0)]
                    simp only [Array.size_append, List.size_toArray, zrow_length, hzl, List.length_map, length_bytesL]
                    omega, fun _ => .inl rfl⟩
                refine ⟨_, _, _, run, ?_, q3, q2.trans (fr_drew q4)⟩
                simp only [den, Env.add_self]
                rw [if_pos (by show 0 + (len + n) ≤ κ; omega)]
                simp
      | false =>
        simp only [hu8, cond_false] at h
        obtain ⟨⟨n, l⟩, hsrc, hh⟩ := bind_some h; replace h := hh; clear hh
        simp only [fN_eq, fL_eq] at h
        obtain ⟨ys, dl, hlen, hN⟩ := srcC_ok ok r hsrc dy
        have hyl := denL_length dl
        cases x <;> simp only [reduceCtorEq] at h
        case nilS =>
          simp only [den, Option.some.injEq] at dx; subst dx
          rw [nbeq] at h
          by_cases hn : n = 0
          · simp only [hn, decide_true, cond_true, Option.some.injEq, Prod.mk.injEq] at h
            obtain ⟨rfl, rfl⟩ := h
            subst hn
            refine ⟨ρ, w, .slice none 0 0, ?_, rfl, r, Fr.refl _ _ _⟩
            exact append_in (N := ys.toArray) (w' := w) hu hs hi (hN.1 w.drawn) (by omega) (hN.2 w.drawn) rfl
          · simp only [hn, decide_false, cond_false] at h
            obtain ⟨hb, hh⟩ := cond_some h; replace h := hh; clear hh
            rw [nble, decide_eq_true_iff] at hb
            obtain ⟨κ, hk, run⟩ := grow none 0 0 n ys [] hN (fun d => rfl) (by omega) (by omega)
            simp only [Nat.zero_add] at run hk
            refine grownC_ok (R := zrow zx.cells.toList (κ - n)) r h dl hk ?_ (by simp) run
            rw [zrow_length, hzl, hyl, hlen, ← Nat.add_mul]
            congr 1; omega
        case sl p off len cap =>
          obtain ⟨b, κ0, hpb, rfl⟩ := den_sl dx
          rw [nble] at h
          by_cases hc : len.add n ≤ cap
          · simp only [hc, decide_true, cond_true] at h
            obtain ⟨m1, hst, hh⟩ := bind_some h; replace h := hh; clear hh
            simp only [Option.some.injEq, Prod.mk.injEq] at h
            obtain ⟨rfl, rfl⟩ := h
            obtain ⟨w', r1, r2, r3⟩ := storeRow_ok (P := C.P) r hst hpb dl
            refine ⟨ρ, w', .slice (some ⟨b, off, none⟩) (len + n) cap, ?_, ?_, r2, r3⟩
            · refine append_in (N := ys.toArray) (w' := w') hu hs hi (hN.1 w.drawn) hc (hN.2 w.drawn) ?_
              simp only [add_plain]
              exact r1
            · simp [den, hpb]
          · simp only [hc, decide_false, cond_false] at h
            obtain ⟨hb, hh⟩ := cond_some h; replace h := hh; clear hh
            rw [nble, decide_eq_true_iff] at hb
            obtain ⟨⟨ol, oc⟩, ho, hh⟩ := bind_some h; replace h := hh; clear hh
            simp only [fL_eq, fN_eq] at h
            obtain ⟨os, dol, holen, hO⟩ := srcC_ok ok r ho dx
            have e1 : ol = len := by
              simp only [srcC] at ho
              obtain ⟨_, _, ho⟩ := bind_some ho
              simp only [Option.some.injEq, Prod.mk.injEq] at ho
              exact ho.1.symm
            subst e1
            obtain ⟨κ, hk, run⟩ := grow (some ⟨b, off, none⟩) ol cap n ys os hN hO.2 hc hb
            refine grownC_ok (R := zrow zx.cells.toList (κ - (ol + n))) r h (denL_append dol dl) hk ?_ (by simp) run
            rw [zrow_length, hzl, List.length_append, denL_length dol, hyl, hlen, holen, ← Nat.add_mul, ← Nat.add_mul]
            congr 1; omega
        case slu p dd len sz =>
          rw [nbeq] at h
          by_cases hn : n = 0
          · simp only [hn, decide_true, cond_true, Option.some.injEq, Prod.mk.injEq] at h
            obtain ⟨rfl, rfl⟩ := h
            subst hn
            obtain ⟨b, κ0, hpb, hk, rfl⟩ := den_slu dx
            have hys : ys = [] := List.eq_nil_of_length_eq_zero (by rw [hyl, hlen]; simp)
            subst hys
            refine ⟨ρ, w, .slice (some ⟨b, dd * sz, none⟩) len (κ0 - dd), ?_, dx, r, Fr.refl _ _ _⟩
            exact append_in (N := #[]) (w' := w) hu hs hi (hN.1 w.drawn) (by omega) (hN.2 w.drawn) rfl
          · simp only [hn, decide_false, cond_false] at h
            cases hp : T.get p m.h with
            | none => simp [hp] at h
            | some o =>
              cases o <;> simp only [hp, reduceCtorEq] at h
              rename_i us oty fz k
              cases us <;> simp only [reduceCtorEq] at h
              rename_i s'
              have hcnd := (cond_some h).1
              replace h := (cond_some h).2
              simp only [Bool.and_eq_true, nbeq, nble, decide_eq_true_iff] at hcnd
              obtain ⟨g1, g2, g3, g4, g5, g6, g7, g8⟩ := hcnd
              subst g1 g2 g3 g4
              obtain ⟨kt, hkt, hh⟩ := bind_some h; replace h := hh; clear hh
              simp only [fL_eq, fN_eq, fKey_eq, T.putK_eq, Option.some.injEq, Prod.mk.injEq] at h
              obtain ⟨rfl, rfl⟩ := h
              obtain ⟨_, rfl⟩ := takeN_eq hkt
              obtain ⟨b, κ0, yo, h1, h2, h3, h4, h5⟩ := r.lt hp
              obtain ⟨c, f, xs, rfl, hfz, hd, hpre, hsz⟩ := h5
              obtain ⟨b', κ', h1', hk, rfl⟩ := den_slu dx
              rw [h1] at h1'
              obtain ⟨rfl, rfl⟩ : b = b' ∧ κ0 = κ' := by simpa using h1'
              have hxl := denL_length hd
              simp only at hsz
              have g6' : len * sz ≤ k.length := g6
              have dnew : denL G ρ (k.take (len * sz) ++ l) = some (xs.take (len * sz) ++ ys) := denL_append (denL_take _ hd) dl
              by_cases hfit : len + n ≤ κ0
              · have hroom : len * sz + n * sz ≤ c.size := by rw [hsz, ← Nat.add_mul]; exact Nat.mul_le_mul_right _ hfit
                obtain ⟨w', q1, q2, q3⟩ := inplace (P := C.P) (o' := .cells (some sz) oty fz (k.take (len * sz) ++ l)) (off := len * sz) (vs := ys) r hp h1 h2 (fun j hj hj' => hfz j (Nat.le_trans g5 hj) hj') (by rw [hyl, hlen]; exact hroom) (flats_ok g8 dl)
                  (fun c' hc' => ⟨c', f, _, rfl, by unfold Fz at hfz ⊢; rw [show c'.size = c.size from by rw [← Array.length_toList, hc', ow_length, Array.length_toList]]; exact hfz, dnew, by
                    rw [hc', ow_eq _ _ _ (by rw [hyl, hlen]; simpa using hroom)]
                    rw [prefix_take hpre (by rw [hxl]; exact g6')]
                    exact List.prefix_append _ _, by
                    show c'.size = _
                    rw [← Array.length_toList, hc', ow_length, Array.length_toList, hsz]⟩)
                refine ⟨_, w', .slice (some ⟨b, 0 * sz, none⟩) (len + n) (κ0 - 0), ?_, ?_, q2, q3⟩
                · refine append_in (N := ys.toArray) (w' := w') hu hs hi (hN.1 w.drawn) (by omega) (hN.2 w.drawn) ?_
                  simp only [add_plain, Nat.zero_mul, Nat.zero_add]
                  exact q1
                · simp only [den, Env.add_self]
                  rw [if_pos (by show 0 + (len + n) ≤ κ0; omega)]
                  rfl
              · obtain ⟨q1, q2⟩ := r.drop p
                have hO : ∀ d, (Builtin.firstCells sz len (.slice (some ⟨b, 0 * sz, none⟩) len (κ0 - 0))).run C.P { w with drawn := d } = .ok (xs.take (len * sz)).toArray { w with drawn := d } := fun d => by
                  have := run_loadCells_list (P := C.P) { w with drawn := d } ⟨b, 0 * sz, none⟩ (xs.take (len * sz)) (fun j v hj => by
                    rw [add_plain, Nat.zero_mul, Nat.zero_add, cell_of_row (w := { w with drawn := d }) h2, ← Array.getElem?_toList]
                    apply prefix_get hpre
                    rw [List.getElem?_take] at hj
                    split at hj
                    · exact hj
                    · cases hj)
                  rw [List.length_take, Nat.min_eq_left (by rw [hxl]; exact g6')] at this
                  simpa only [Builtin.firstCells] using this
                obtain ⟨κ, hk', run⟩ := grow (some ⟨b, 0 * sz, none⟩) len (κ0 - 0) n ys (xs.take (len * sz)) hN hO (by omega) g7
                have q1d : RelH G w0 ρ (T.put p none m.h) m.n { w with drawn := w.drawn + 1 } := q1.drewn
                have hle := Env.le_add (x := (w.heap.size, κ)) (r.fresh _ (Nat.le_refl _))
                obtain ⟨q3, q4⟩ := q1d.alloc (o := .cells (some sz) oty fz (k.take (len * sz) ++ l)) (κ := κ) (x := .cells ((xs.take (len * sz)).toArray ++ ys.toArray ++ (zrow zx.cells.toList (κ - (len + n))).toArray) oty)
                  ⟨_, (0, 0), xs.take (len * sz) ++ ys, rfl, Fz_zero _ _, denL_mono hle dnew, by simp, by
                    show Array.size _ = _
                    simp only [Array.size_append, List.size_toArray, zrow_length, hzl, List.length_take, hyl, hlen]
                    rw [Nat.min_eq_left (by rw [hxl]; exact g6'), ← Nat.add_mul, ← Nat.add_mul]
                    congr 1; omega⟩
                refine ⟨_, _, _, run, ?_, q3, q2.trans (fr_drew q4)⟩
                simp only [den, Env.add_self]
                rw [if_pos (by show 0 + (len + n) ≤ κ; omega)]
                simp
end
end Go.Ev
