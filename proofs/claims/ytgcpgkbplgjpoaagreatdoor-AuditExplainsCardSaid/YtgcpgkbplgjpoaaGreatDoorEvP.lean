/-
  A part of the evaluator for closed runs: proved once over any program.
-/
import Derived.Test.YtgcpgkbplgjpoaaGreatDoorEvO
set_option linter.unusedVariables false
set_option linter.unusedSimpArgs false
namespace Go.Ev
noncomputable section

/-! ### Maps made and written -/
def makeMapA (m : Mem) : Option (AV × Mem) := (newA m (.map [] 0)).bind fun r => some (.map r.1, r.2)

theorem makeMap_ok {P : Program} {G : Nat → Nat} {w0 : World} {ρ : Env} {m m' : Mem} {w : World} (r : RelH G w0 ρ m.h m.n w) {t : TypeId} {u : AV} (h : makeMapA m = some (u, m')) :
    Does G w0 P (Instr.makeMap t none) ρ m w u m' := by
  obtain ⟨⟨p, m1⟩, hr, h⟩ := bind_some h
  simp only [Option.some.injEq, Prod.mk.injEq] at h
  obtain ⟨rfl, rfl⟩ := h
  obtain ⟨q1, q2, q3⟩ := newA_ok (κ := 0) r hr (x := .map #[] 0) ⟨[], rfl, .nil⟩
  exact ⟨_, _, .map (some w.heap.size), by simp [Instr.makeMap], by simp [den, q1], q2, q3⟩

/-- One entry put. -/
def putE (k v : AV) : List (AV × AV × Nat) → Nat → List (AV × AV × Nat)
  | [], _ => []
  | e :: es, 0 => (k, v, e.2.2) :: es
  | e :: es, n + 1 => e :: putE k v es n

theorem putE_ok {G : Nat → Nat} {ρ : Env} {k v : AV} {K V : Value} (dk : den G ρ k = some K) (dv : den G ρ v = some V) : ∀ {es : List (AV × AV × Nat)} {l : List MapEntry} {i : Nat}, All2 (entryOK G ρ) es l →
    All2 (entryOK G ρ) (putE k v es i) (l.modify i fun e => { e with key := K, val := V })
  | [], _, i, .nil => by cases i <;> exact .nil
  | _ :: _, _ :: _, 0, .cons e hr => .cons ⟨dk, dv, e.2.2⟩ hr
  | _ :: _, _ :: _, i + 1, .cons e hr => .cons e (putE_ok dk dv hr)

theorem All2.append {α β : Type} {R : α → β → Prop} {l l' : List α} {m m' : List β} (h : All2 R l m) (k : All2 R l' m') : All2 R (l ++ l') (m ++ m') := by
  induction h with
  | nil => exact k
  | cons a _ ih => exact .cons a ih

theorem sameBits_of_sameNow {kd : TypeDesc} {X Y : Value} (h : Instr.sameNow kd X Y = some true) : Instr.sameBits 10000 Y X = true := by
  unfold Instr.sameNow at h
  split at h
  · split at h
    · rename_i hk; subst hk; simp at h; subst h; simp [Instr.sameBits]
    · cases h
  · rename_i a b
    simp only [Option.some.injEq] at h
    have h1 : a.toList = b.toList := by simpa [beq_toListBytes] using h
    simp [Instr.sameBits, beq_toListBytes, h1]
  · simp at h; subst h; simp [Instr.sameBits]
  · cases h

theorem findNow_key {kd : TypeDesc} {K : Value} : ∀ {l : List MapEntry} {i j : Nat} {V : Value}, Instr.findNow kd K l i = some (some (i + j, V)) → ∃ e, l[j]? = some e ∧ Instr.sameNow kd K e.key = some true
  | [], i, j, V, h => by simp [Instr.findNow] at h
  | e :: l, i, j, V, h => by
    simp only [Instr.findNow] at h
    split at h
    · simp at h
      obtain ⟨h1, _⟩ := h
      obtain rfl : j = 0 := by omega
      exact ⟨e, by simp, by assumption⟩
    · cases j with
      | zero =>
        exfalso
        have : ∀ (l : List MapEntry) (a b : Nat) V, b < a → Instr.findNow kd K l a ≠ some (some (b, V)) := fun l => by
          induction l with
          | nil => intro a b V _ hh; simp [Instr.findNow] at hh
          | cons x l ih =>
            intro a b V hlt hh
            simp only [Instr.findNow] at hh
            split at hh
            · simp at hh; omega
            · exact ih (a + 1) b V (by omega) hh
            · cases hh
        exact this l (i + 1) (i + 0) V (by omega) h
      | succ j =>
        rw [show i + (j + 1) = i + 1 + j from by omega] at h
        obtain ⟨x, h1, h2⟩ := findNow_key h
        exact ⟨x, by simpa using h1, h2⟩
    · cases h

def mapUpdA (P : Program) (m : Mem) (t : TypeId) (x k v : AV) : Option Mem :=
  match mapTy P t, x with
  | some (_, _, kd), .map p => match T.get p m.h with
    | some (.map es clk) => match findA kd k es 0 with
      | some (some (i, _, _)) => fL (putE k v es i) fun es => T.putK p (some (.map es clk)) m.h fun h => some ⟨h, m.n⟩
      | some none => fL (es ++ [(k, v, clk)]) fun es => fN (Nat.succ clk) fun c => T.putK p (some (.map es c)) m.h fun h => some ⟨h, m.n⟩
      | none => none
    | _ => none
  | _, _ => none

theorem setObj_run {P : Program} {w : World} {b : Nat} {x y : Go.Obj} (hb : w.heap[b]? = some x) (hn : ∀ c e f, x ≠ .cells c e f) : (setObj b y).run P w = .ok () { w with heap := w.heap.setIfInBounds b y } := by
  cases x <;> first | exact absurd rfl (hn _ _ _) | simp [setObj, Sem.run, hb]

theorem setObj_rel {G : Nat → Nat} {w0 : World} {ρ : Env} {h : T AObj} {n : Key} {w : World} (r : RelH G w0 ρ h n w) {p : Key} {o o' : AObj} {b κ : Nat} {y : Go.Obj} (hp : T.get p h = some o) (hb : ρ p = some (b, κ)) (ho : ObjOK G ρ κ o' y) :
    RelH G w0 ρ (T.put p (some o') h) n { w with heap := w.heap.setIfInBounds b y } ∧ Fr ρ h w ρ (T.put p (some o') h) { w with heap := w.heap.setIfInBounds b y } := by
  obtain ⟨b', κ', x, h1, h2, h3, h4, h5⟩ := r.lt hp
  rw [hb] at h1
  obtain ⟨rfl, rfl⟩ : b = b' ∧ κ = κ' := by simpa using h1
  exact r.update hp hb (x' := y) (by simp [h3]) ho (fun k hk => by simp [Array.getElem?_setIfInBounds, Ne.symm hk]) (by simp) rfl rfl rfl

theorem mapUpd_ok {P : Program} {G : Nat → Nat} {w0 : World} {ρ : Env} {m m' : Mem} {w : World} (r : RelH G w0 ρ m.h m.n w) {t : TypeId} {x k v : AV} {X K V : Value} (h : mapUpdA P m t x k v = some m')
    (dx : den G ρ x = some X) (dk : den G ρ k = some K) (dv : den G ρ v = some V) : ∃ w', (Instr.mapUpdate t X K V).run P w = .ok () w' ∧ RelH G w0 ρ m'.h m'.n w' ∧ Fr ρ m.h w ρ m'.h w' := by
  unfold mapUpdA at h
  cases hm : mapTy P t with
  | none => simp [hm] at h
  | some ked =>
    obtain ⟨kt, et, kd⟩ := ked
    obtain ⟨u1, u2, hpl⟩ := mapTy_ok hm
    cases x <;> simp only [hm, reduceCtorEq] at h
    rename_i p
    cases hp : T.get p m.h with
    | none => simp [hp] at h
    | some o =>
      cases o <;> simp only [hp, reduceCtorEq] at h
      rename_i es clk
      obtain ⟨b, κ, y, h1, h2, h3, h4, h5⟩ := r.lt hp
      obtain ⟨l, rfl, hl⟩ := h5
      obtain ⟨b', κ', h1', rfl⟩ := den_map dx
      rw [h1] at h1'
      obtain ⟨rfl, rfl⟩ : b = b' ∧ κ = κ' := by simpa using h1'
      have hget : (getObj b).run P w = .ok (.map l.toArray clk) w := by simp [getObj, Sem.run, h2]
      have hn : ∀ c e f, (Go.Obj.map l.toArray clk) ≠ .cells c e f := fun _ _ _ => by simp
      cases hf : findA kd k es 0 with
      | none => simp [hf] at h
      | some res =>
        rcases findA_ok dk hf hl with ⟨rfl, g⟩ | ⟨j, a, v', A, V', rfl, ga, gv, gk, g⟩
        · simp only [hf, fL_eq, fN_eq, T.putK_eq, Option.some.injEq] at h; subst h
          have hnew : ObjOK G ρ κ (.map (es ++ [(k, v, clk)]) (Nat.succ clk)) (.map (l.toArray.push { key := K, val := V, born := clk }) (clk + 1)) :=
            ⟨l ++ [{ key := K, val := V, born := clk }], by simp, hl.append (.cons ⟨dk, dv, rfl⟩ .nil)⟩
          obtain ⟨q1, q2⟩ := setObj_rel r hp h1 hnew
          refine ⟨_, ?_, q1, q2⟩
          simp only [Instr.mapUpdate, Sem.run_bind, run_underlying u1, Result.andThen_ok, hget, checkKey_plain u2 hpl, Instr.findKey, run_underlying u2, List.toList_toArray, g, Sem.run_pure]
          exact setObj_run h2 hn
        · simp only [hf, fL_eq, fN_eq, T.putK_eq, Option.some.injEq] at h; subst h
          rw [Nat.zero_add] at g
          obtain ⟨e0, ge, gs⟩ := findNow_key (i := 0) (by rw [Nat.zero_add]; exact g)
          have hstay : ∀ w, (Instr.keyThatStays (((l.toArray[j]?).map (·.key)).getD K) K).run P w = .ok K w := fun w => by
            have : ((l.toArray[j]?).map (·.key)).getD K = e0.key := by simp [ge]
            rw [this]
            simp [Instr.keyThatStays, sameBits_of_sameNow gs]
          have hnew : ObjOK G ρ κ (.map (putE k v es (0 + j)) clk) (.map (l.toArray.modify j fun e => { e with key := K, val := V }) clk) :=
            ⟨l.modify j fun e => { e with key := K, val := V }, by simp, by rw [Nat.zero_add]; exact putE_ok dk dv hl⟩
          obtain ⟨q1, q2⟩ := setObj_rel r hp h1 hnew
          refine ⟨_, ?_, q1, q2⟩
          simp only [Instr.mapUpdate, Sem.run_bind, run_underlying u1, Result.andThen_ok, hget, checkKey_plain u2 hpl, Instr.findKey, run_underlying u2, List.toList_toArray, g, Sem.run_pure, hstay]
          exact setObj_run h2 hn

/-! ### Stores -/
def storeA (P : Program) (m : Mem) (t : TypeId) (a v : AV) : Option Mem :=
  (sizeA P t).bind fun s => bif Nat.beq (cellsOf' v).length s then
    (match a with
    | .ptr p off => match T.get p m.h with
      | some (.cells ..) => storeRow m p off (cellsOf' v)
      | some (.bytes ..) => (packL (cellsOf' v)).bind fun b => fN s fun n => storeBytesA m p off n b
      | _ => none
    | _ => none) else none

theorem store_ok {P : Program} {G : Nat → Nat} {w0 : World} {ρ : Env} {m m' : Mem} {w : World} (r : RelH G w0 ρ m.h m.n w) {t : TypeId} {a v : AV} {A V : Value} (h : storeA P m t a v = some m')
    (da : den G ρ a = some A) (dv : den G ρ v = some V) : ∃ w', (Instr.storeAt t A V).run P w = .ok () w' ∧ RelH G w0 ρ m'.h m'.n w' ∧ Fr ρ m.h w ρ m'.h w' := by
  unfold storeA at h
  obtain ⟨s, hs, h⟩ := bind_some h
  obtain ⟨hc, h⟩ := cond_some h
  rw [nbeq, decide_eq_true_iff] at hc
  have dc := cellsOf'_ok dv
  have hlen : V.cells.size = s := by rw [← Array.length_toList, denL_length dc, hc]
  have fin : ∀ {b off : Nat} {w' : World}, A = .pointer (some ⟨b, off, none⟩) → (storeCells ⟨b, off, none⟩ V.cells.toList).run P w = .ok () w' → (Instr.storeAt t A V).run P w = .ok () w' := fun e hr => by
    subst e
    simp only [Instr.storeAt, Instr.sureAddr, Sem.run_bind, Sem.run_pure, Result.andThen_ok, storeVar, sizeA_ok hs, Sem.run_ite]
    rw [if_neg (by simp [hlen])]
    exact hr
  match a, h, da with
  | .ptr p off, h, da =>
    obtain ⟨b, κ, hb, rfl⟩ := den_ptr da
    cases hp : T.get p m.h with
    | none => simp [hp] at h
    | some o =>
      cases o <;> simp only [hp, reduceCtorEq] at h
      case cells =>
        obtain ⟨w', r1, r2, r3⟩ := storeRow_ok (P := P) r h hb dc
        exact ⟨w', fin rfl r1, r2, r3⟩
      case bytes =>
        obtain ⟨bb, hpk, hh⟩ := bind_some h; replace h := hh; clear hh
        simp only [fN_eq] at h
        have e := packL_ok hpk dc
        rw [hc] at e
        obtain ⟨w', r1, r2, r3⟩ := storeBytesA_ok (P := P) r h hb
        rw [← e] at r1
        exact ⟨w', fin rfl r1, r2, r3⟩

/-! ### copy -/
def copyA (C : Cx) (m : Mem) (t0 : TypeId) (x y : AV) : Option (AV × Mem) :=
  match C.P.underlying t0 with
  | some (.slice e) => (sizeA C.P e).bind fun s => bif isU8 C.P e then
      (bif Nat.beq s 1 then (srcB m.h y).bind fun nc => (match x with
      | .nilS => some (.int .i64 (.ofNat 0), m)
      | .sl p off len _ => fN (bif Nat.ble nc.1 len then nc.1 else len) fun n => fN nc.2 fun c => (storeBytesA m p off n c).bind fun m => some (.int .i64 (.ofNat n), m)
      | .slu p d len sz => bif Nat.beq sz 1 then fN (bif Nat.ble nc.1 len then nc.1 else len) fun n => fN nc.2 fun c => (storeBytesA m p d n c).bind fun m => some (.int .i64 (.ofNat n), m) else none
      | _ => none) else none)
    else none
  | _ => none

theorem bytesL_take' {n m b : Nat} (h : n ≤ m) : ((bytesL m b).map byteV).take n = (bytesL n b).map byteV := by rw [← List.map_take, bytesL_take _ _ _ h]

theorem srcB_take {P : Program} {G : Nat → Nat} {w0 : World} {ρ : Env} {h : T AObj} {k : Key} {w : World} (r : RelH G w0 ρ h k w) {x : AV} {X : Value} {n c j : Nat} (e : srcB h x = some (n, c)) (d : den G ρ x = some X) (hj : j ≤ n) :
    (Builtin.firstCells 1 j X).run P w = .ok ((bytesL j c).map byteV).toArray w := by
  cases x <;> simp only [srcB, reduceCtorEq, Option.some.injEq, Prod.mk.injEq] at e
  case str m b =>
    obtain ⟨rfl, rfl⟩ := e
    simp only [den, Option.some.injEq] at d; subst d
    simp only [Builtin.firstCells, Sem.run_pure]
    congr 1
    rw [mkB_extract _ _ _ _ (Nat.zero_le _) hj]
    apply Array.ext'
    simp [mkB, bytesL_mod, byteV]
  case nilS =>
    obtain ⟨rfl, rfl⟩ := e
    simp only [den, Option.some.injEq] at d; subst d
    obtain rfl : j = 0 := by omega
    rfl
  case sl p off len cap =>
    cases hp : T.get p h with
    | none => simp [hp] at e
    | some o =>
      cases o <;> simp only [hp, reduceCtorEq] at e
      rename_i u ty fz nn b
      have hc := (cond_some e).1
      replace e := (cond_some e).2
      rw [nble, decide_eq_true_iff] at hc
      have hc' : off + len ≤ nn := hc
      simp only [fN_eq, Option.some.injEq, Prod.mk.injEq] at e
      obtain ⟨rfl, rfl⟩ := e
      obtain ⟨bk, κ, h1, rfl⟩ := den_sl d
      obtain ⟨b', κ', y, g1, g2, g3, g4, g5⟩ := r.lt hp
      rw [h1] at g1
      obtain ⟨rfl, rfl⟩ : bk = b' ∧ κ = κ' := by simpa using g1
      obtain ⟨ca, f, rfl, _, hpre, _⟩ := g5
      have := byte_cells (P := P) (off := off) (len := j) g2 hpre (by omega)
      simp only [Builtin.firstCells, Nat.mul_one]
      have e1 : (bytesL j (b / 256 ^ off % 256 ^ len)).map byteV = (bytesL j (b / 256 ^ off)).map byteV := by rw [← bytesL_take' hj, bytesL_mod, bytesL_take' hj]
      rw [this, bytesL_mod]
      exact congrArg (fun l => Result.ok l.toArray w) e1.symm
  case slu p dd len sz =>
    cases hp : T.get p h with
    | none => simp [hp] at e
    | some o =>
      cases o <;> simp only [hp, reduceCtorEq] at e
      rename_i u ty fz nn b
      have hc := (cond_some e).1
      replace e := (cond_some e).2
      rw [Bool.and_eq_true, nble, decide_eq_true_iff, nbeq, decide_eq_true_iff] at hc
      obtain ⟨rfl, hc⟩ := hc
      have hc' : dd + len ≤ nn := hc
      simp only [fN_eq, Option.some.injEq, Prod.mk.injEq] at e
      obtain ⟨rfl, rfl⟩ := e
      obtain ⟨bk, κ, h1, hk, rfl⟩ := den_slu d
      obtain ⟨b', κ', y, g1, g2, g3, g4, g5⟩ := r.lt hp
      rw [h1] at g1
      obtain ⟨rfl, rfl⟩ : bk = b' ∧ κ = κ' := by simpa using g1
      obtain ⟨ca, f, rfl, _, hpre, _⟩ := g5
      have := byte_cells (P := P) (off := dd) (len := j) g2 hpre (by omega)
      simp only [Builtin.firstCells, Nat.mul_one]
      have e1 : (bytesL j (b / 256 ^ dd % 256 ^ len)).map byteV = (bytesL j (b / 256 ^ dd)).map byteV := by rw [← bytesL_take' hj, bytesL_mod, bytesL_take' hj]
      rw [this, bytesL_mod]
      exact congrArg (fun l => Result.ok l.toArray w) e1.symm

theorem copy_ok {C : Cx} {G : Nat → Nat} {w0 : World} {ρ : Env} {m m' : Mem} {w : World} (r : RelH G w0 ρ m.h m.n w) {t0 ty : TypeId} {ts : List TypeId} {x y u : AV} {X Y : Value}
    (h : copyA C m t0 x y = some (u, m')) (dx : den G ρ x = some X) (dy : den G ρ y = some Y) : Does G w0 C.P (Builtin.copy_ (t0 :: ts).toArray ty #[X, Y]) ρ m w u m' := by
  unfold copyA at h
  cases hu : C.P.underlying t0 with
  | none => simp [hu] at h
  | some d0 =>
    cases d0 <;> simp only [hu, reduceCtorEq] at h
    rename_i e
    obtain ⟨s, hs, hh⟩ := bind_some h; replace h := hh; clear hh
    have hu8 := (cond_some h).1
    replace h := (cond_some h).2
    have hs1 := (cond_some h).1
    replace h := (cond_some h).2
    rw [nbeq, decide_eq_true_iff] at hs1; subst hs1
    obtain ⟨⟨n, c⟩, hsrc, hh⟩ := bind_some h; replace h := hh; clear hh
    have hN := srcB_ok (P := C.P) r hsrc dy
    have hlen := hN.1 w.drawn
    simp only [fN_eq] at h
    have mn : ∀ len, (bif n.ble len then n else len) = min n len := fun len => by
      rw [nble]; by_cases c : n ≤ len <;> simp [c] <;> omega
    match x, h, dx with
    | .nilS, h, dx =>
      simp only [Option.some.injEq, Prod.mk.injEq] at h
      obtain ⟨rfl, rfl⟩ := h
      simp only [den, Option.some.injEq] at dx; subst dx
      refine ⟨ρ, w, goInt 0, ?_, rfl, r, Fr.refl _ _ _⟩
      have hf := srcB_take (P := C.P) r hsrc dy (Nat.zero_le n)
      have e0 : Nat.min n 0 = 0 := Nat.min_zero n
      simp [Builtin.copy_, run_underlying hu, hlen, sizeA_ok hs, e0, hf]
    | .sl p off len cap, h, dx =>
      simp only [mn] at h
      obtain ⟨m1, hst, hh⟩ := bind_some h; replace h := hh; clear hh
      simp only [Option.some.injEq, Prod.mk.injEq] at h
      obtain ⟨rfl, rfl⟩ := h
      obtain ⟨b, κ, hb, rfl⟩ := den_sl dx
      obtain ⟨w', r1, r2, r3⟩ := storeBytesA_ok (P := C.P) r hst hb
      refine ⟨ρ, w', goInt ((min n len : Nat) : Int), ?_, rfl, r2, r3⟩
      have hf := srcB_take (P := C.P) r hsrc dy (Nat.min_le_left n len)
      have e0 : Nat.min n len = min n len := rfl
      simp [Builtin.copy_, run_underlying hu, hlen, sizeA_ok hs, e0, hf, r1]
    | .slu p dd len sz, h, dx =>
      have hsz := (cond_some h).1
      replace h := (cond_some h).2
      rw [nbeq, decide_eq_true_iff] at hsz; subst hsz
      simp only [mn] at h
      obtain ⟨m1, hst, hh⟩ := bind_some h; replace h := hh; clear hh
      simp only [Option.some.injEq, Prod.mk.injEq] at h
      obtain ⟨rfl, rfl⟩ := h
      obtain ⟨b, κ, hb, hk, rfl⟩ := den_slu dx
      obtain ⟨w', r1, r2, r3⟩ := storeBytesA_ok (P := C.P) r hst hb
      refine ⟨ρ, w', goInt ((min n len : Nat) : Int), ?_, rfl, r2, r3⟩
      have hf := srcB_take (P := C.P) r hsrc dy (Nat.min_le_left n len)
      have e0 : Nat.min n len = min n len := rfl
      simp [Builtin.copy_, run_underlying hu, hlen, sizeA_ok hs, e0, hf, r1]
end
end Go.Ev
