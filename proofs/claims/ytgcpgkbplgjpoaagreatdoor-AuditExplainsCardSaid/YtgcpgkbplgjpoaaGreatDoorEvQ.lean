/-
  A part of the evaluator for closed runs: proved once over any program.
-/
import Derived.Test.YtgcpgkbplgjpoaaGreatDoorEvP
set_option linter.unusedVariables false
set_option linter.unusedSimpArgs false
namespace Go.Ev
noncomputable section

/-! ### A text's bytes, in new memory -/
def convBA (P : Program) (m : Mem) (s d : TypeId) (v : AV) : Option (AV × Mem) :=
  match P.underlying s, P.underlying d, v with
  | some _, some (.slice e), .str n b => bif isU8 P e then (newA m (.bytes 2 e 0 n b)).bind fun r => some (.slu r.1 0 n 1, r.2) else none
  | _, _, _ => none

theorem freeze_new (w : World) (c : Array Value) (e : TypeId) (n : Nat) : (w.alloc (.cells c e)).freeze ⟨w.heap.size, n, none⟩ 1 = w.alloc (.cells c e (n, n + 1)) := by
  simp only [World.freeze, World.alloc]
  rw [if_neg (by omega)]
  congr 1
  apply Array.ext_getElem?
  intro i
  rw [Array.getElem?_modify]
  by_cases h : w.heap.size = i
  · subst h; simp
  · rw [if_neg h]; simp [Array.getElem?_push, Ne.symm h]

theorem convB_ok {P : Program} {G : Nat → Nat} {w0 : World} {ρ : Env} {m m' : Mem} {w : World} (r : RelH G w0 ρ m.h m.n w) {s d : TypeId} {v u : AV} {x : Value} (h : convBA P m s d v = some (u, m')) (dx : den G ρ v = some x) :
    Does G w0 P (convert s d x) ρ m w u m' := by
  unfold convBA at h
  cases hs : P.underlying s with
  | none => simp [hs] at h
  | some ds =>
    cases hd : P.underlying d with
    | none => simp [hs, hd] at h
    | some dd =>
      cases dd <;> cases v <;> simp only [hs, hd, reduceCtorEq] at h
      rename_i e n b
      have hu8 := isU8_ok (cond_some h).1
      replace h := (cond_some h).2
      obtain ⟨⟨p, m1⟩, hr, hh⟩ := bind_some h; replace h := hh; clear hh
      simp only [Option.some.injEq, Prod.mk.injEq] at h
      obtain ⟨rfl, rfl⟩ := h
      simp only [den, Option.some.injEq] at dx; subst dx
      let κ := (Question.appendCap n 0 e).cut (w.tape w.drawn (Question.appendCap n 0 e))
      have hk : n ≤ κ := by simp [κ, Question.cut]
      have rd := r.drewn
      let c : Array Value := ((bytesL n b).map byteV).toArray ++ Array.replicate (κ - n) (.int .u8 0)
      have hcs : c.size = κ := by simp [c]; omega
      obtain ⟨q1, q2, q3⟩ := newA_ok (κ := κ) rd hr (x := .cells c e (κ, κ + 1)) ⟨c, (κ, κ + 1), rfl, fun i _ hi h => by rw [hcs] at hi; omega, by simp [c], by simp [hcs], fun h => absurd rfl h⟩
      refine ⟨_, _, .slice (some ⟨w.heap.size, 0, none⟩) n κ, ?_, ?_, q2, fr_drew q3⟩
      · have e1 : (mkB n b).data.map (fun b => Value.int .u8 b.toNat) = ((bytesL n b).map byteV).toArray := by
          apply Array.ext'; simp [mkB, byteV]
        have conv : (convert s d (.string (mkB n b))).run P w = (Conv.stringToBytes e (mkB n b)).run P w := by
          cases ds <;> simp [convert, run_underlying hs, run_underlying hd, run_underlying hu8]
        rw [conv]
        simp only [Conv.stringToBytes, Sem.run_bind, run_choose, Question.forced, Bool.false_eq_true, if_false, size_mkB, Result.andThen_ok, run_newRow, e1]
        simp only [markStringish, Sem.run_bind, run_shape, Result.andThen_ok]
        have hsh : (World.alloc { w with drawn := w.drawn + 1 } (.cells c e)).shape? w.heap.size = some (e, κ) := by
          simp [World.shape?, World.alloc, hcs]
        show ((Sem.run P _ (World.alloc { w with drawn := w.drawn + 1 } (.cells c e))).andThen _) = _
        have : (World.alloc { w with drawn := w.drawn + 1 } (.cells c e)).shape? ({ w with drawn := w.drawn + 1 } : World).heap.size = some (e, κ) := hsh
        rw [this]
        simp only [run_freeze, Result.andThen_ok]
        have hf := freeze_new { w with drawn := w.drawn + 1 } c e κ
        rw [hf]
        rfl
      · have q1' : (ρ.add m.n (w.heap.size, κ)) p = some (w.heap.size, κ) := q1
        simp only [den]
        rw [show ({ w with drawn := w.drawn + 1 } : World).heap.size = w.heap.size from rfl, q1']
        simp [hk]

/-! ### strings.Builder's text -/
def sliceDataA (v : AV) : Option AV :=
  match v with
  | .nilS => some .nilP
  | .sl p off _ (_ + 1) => some (.ptr p off)
  | .slu p d (_ + 1) s => fN (Nat.mul d s) fun o => some (.ptr p o)
  | _ => none

theorem sliceData_ok {P : Program} {G : Nat → Nat} {ρ : Env} {w : World} {v u : AV} {x : Value} {ts : Array TypeId} {ty : TypeId} (h : sliceDataA v = some u) (d : den G ρ v = some x) :
    ∃ y, (Builtin.unsafeSliceData_ ts ty #[x]).run P w = .ok y w ∧ den G ρ u = some y := by
  cases v <;> simp only [sliceDataA, reduceCtorEq] at h
  case nilS =>
    simp only [Option.some.injEq] at h; subst h
    simp only [den, Option.some.injEq] at d; subst d
    exact ⟨.pointer none, rfl, rfl⟩
  case sl p off len cap =>
    cases cap <;> simp only [reduceCtorEq, Option.some.injEq] at h
    subst h
    obtain ⟨b, κ, hb, rfl⟩ := den_sl d
    exact ⟨.pointer (some ⟨b, off, none⟩), rfl, by simp [den, hb]⟩
  case slu p dd len s =>
    cases len <;> simp only [reduceCtorEq, fN_eq, Option.some.injEq] at h
    subst h
    obtain ⟨b, κ, hb, hk, rfl⟩ := den_slu d
    refine ⟨.pointer (some ⟨b, dd * s, none⟩), ?_, by simp [den, hb]⟩
    obtain ⟨c, hc⟩ : ∃ c, κ - dd = c + 1 := ⟨κ - dd - 1, by omega⟩
    rw [hc]; rfl

def maxN (a b : Nat) : Nat := bif Nat.ble a b then b else a
theorem maxN_eq (a b : Nat) : maxN a b = max a b := by
  unfold maxN; rw [nble]; by_cases h : a ≤ b <;> simp [h] <;> omega

def strAtA (P : Program) (m : Mem) (pt : TypeId) (v n : AV) : Option (AV × Mem) :=
  match n with
  | .int _ (.ofNat 0) => match v with
    | .nilP => some (.str 0 0, m)
    | .ptr .. => some (.str 0 0, m)
    | _ => none
  | .int _ (.ofNat (k + 1)) => match v with
    | .ptr p off => match P.underlying pt, T.get p m.h with
      | some (.pointer e), some (.bytes u ty fz nn b) =>
        bif Nat.ble (Nat.succ k) 1000000 && (Nat.ble (Nat.add off (Nat.succ k)) nn && (Nat.beq (P.underlyingId ty) (P.underlyingId e) && (Nat.beq (P.cellsOf ty) 1 && Nat.blt u 2))) then
          fN (Nat.mod (Nat.div b (Nat.pow 256 off)) (Nat.pow 256 (Nat.succ k))) fun c => fN (maxN fz (Nat.add off (Nat.succ k))) fun fz => T.putK p (some (.bytes u ty fz nn b)) m.h fun h => some (.str (Nat.succ k) c, ⟨h, m.n⟩)
        else none
      | _, _ => none
    | _ => none
  | _ => none

theorem loadBytes_run {P : Program} (b off : Nat) (w : World) : ∀ (l : List UInt8) (i : Nat) (acc : ByteArray), (∀ j c, l[j]? = some c → w.cell? ⟨b, off + i + j, none⟩ = some (byteV c)) →
    (loadBytes ⟨b, off + i, none⟩ acc l.length).run P w = .ok (acc ++ ⟨l.toArray⟩) w
  | [], i, acc, h => by
    simp [loadBytes]
    apply ByteArray.ext; simp
  | c :: l, i, acc, h => by
    have h0 := h 0 c (by simp)
    simp only [Nat.add_zero] at h0
    simp only [List.length_cons, loadBytes, Sem.run_bind, run_load, h0, Result.andThen_ok, byteV]
    rw [add_plain, show off + i + 1 = off + (i + 1) from by omega]
    rw [loadBytes_run b off w l (i + 1) _ (fun j d hj => by
      have := h (j + 1) d (by simpa using hj)
      rwa [show off + i + (j + 1) = off + (i + 1) + j from by omega] at this)]
    congr 1
    apply ByteArray.ext
    simp

theorem depth_pos (P : Program) : ∃ d, P.depth = d + 2 := ⟨2 * (P.types.size + Made.depth), rfl⟩

theorem strAt_ok {P : Program} {G : Nat → Nat} {w0 : World} {ρ : Env} {m m' : Mem} {w : World} (r : RelH G w0 ρ m.h m.n w) {pt ty : TypeId} {ts : List TypeId} {v n u : AV} {x y : Value} (h : strAtA P m pt v n = some (u, m'))
    (dx : den G ρ v = some x) (dy : den G ρ n = some y) : Does G w0 P (Builtin.unsafeString_ (pt :: ts).toArray ty #[x, y]) ρ m w u m' := by
  unfold strAtA at h
  cases n <;> simp only [reduceCtorEq] at h
  rename_i k z
  simp only [den, Option.some.injEq] at dy; subst dy
  have hmax : IntKind.i64.max = 9223372036854775807 := by decide
  cases z with
  | negSucc z => cases h
  | ofNat z =>
  cases z with
  | zero =>
    simp only at h
    have e0 : ((Int.ofNat 0) : Int) = 0 := rfl
    match v, h, dx with
    | .nilP, h, dx =>
      simp only [Option.some.injEq, Prod.mk.injEq] at h
      obtain ⟨rfl, rfl⟩ := h
      rw [den_nilP dx]
      refine ⟨ρ, w, .string .empty, ?_, rfl, r, Fr.refl _ _ _⟩
      change Sem.run P (asInt (.int k 0) >>= _) w = _
      simp [asInt, asIntOf, hmax]
    | .ptr p off, h, dx =>
      simp only [Option.some.injEq, Prod.mk.injEq] at h
      obtain ⟨rfl, rfl⟩ := h
      obtain ⟨b, κ, hb, rfl⟩ := den_ptr dx
      refine ⟨ρ, w, .string .empty, ?_, rfl, r, Fr.refl _ _ _⟩
      change Sem.run P (asInt (.int k 0) >>= _) w = _
      simp [asInt, asIntOf, hmax]
  | succ q =>
    simp only at h
    match v, h, dx with
    | .ptr p off, h, dx =>
      simp only at h
      obtain ⟨bk, κ, hb, rfl⟩ := den_ptr dx
      cases hu : P.underlying pt with
      | none => simp [hu] at h
      | some dpt =>
        cases hp : T.get p m.h with
        | none => cases dpt <;> simp [hu, hp] at h
        | some o =>
          cases dpt <;> cases o <;> simp only [hu, hp, reduceCtorEq] at h
          rename_i e uu oty fz nn b
          have hcnd := (cond_some h).1
          replace h := (cond_some h).2
          simp only [Bool.and_eq_true, nbeq, nble, nblt, decide_eq_true_iff] at hcnd
          obtain ⟨g1, g2, g3, g4, g5⟩ := hcnd
          have g2' : off + (q + 1) ≤ nn := g2
          simp only [fN_eq, T.putK_eq, Option.some.injEq, Prod.mk.injEq] at h
          obtain ⟨rfl, rfl⟩ := h
          obtain ⟨b', κ', yo, h1, h2, h3, h4, h5⟩ := r.lt hp
          rw [hb] at h1
          obtain ⟨rfl, rfl⟩ : bk = b' ∧ κ = κ' := by simpa using h1
          obtain ⟨ca, f, rfl, hfz, hpre, hsz, hstr⟩ := h5
          have hstr := hstr (by omega)
          have hle : nn ≤ ca.size := by have := hpre.length_le; simpa using this
          have hload := loadBytes_run (P := P) bk off w (bytesL (q + 1) (b / 256 ^ off)) 0 .empty (fun j c hj => by
            rw [Nat.add_zero, cell_of_row h2, ← Array.getElem?_toList]
            apply prefix_get hpre
            have hjl : j < q + 1 := by
              rcases Nat.lt_or_ge j (q + 1) with h' | h'
              · exact h'
              · simp [List.getElem?_eq_none, h'] at hj
            rw [bytesL_get? _ _ _ hjl] at hj
            rw [List.getElem?_map, bytesL_get? _ _ _ (by omega)]
            rw [Nat.div_div_eq_div_mul, ← Nat.pow_add] at hj
            simp only [Option.some.injEq] at hj
            simp only [Option.map_some, hj])
          simp only [length_bytesL, Nat.add_zero] at hload
          have hstrv : ByteArray.empty ++ ⟨(bytesL (q + 1) (b / 256 ^ off)).toArray⟩ = mkB (q + 1) (b / 256 ^ off % 256 ^ (q + 1)) := by
            apply ByteArray.ext; simp [mkB, bytesL_mod]
          rw [hstrv] at hload
          have hvar : (variablesAt ⟨bk, off, none⟩ e (q + 1)).run P w = .ok true w := by
            obtain ⟨dp, hdp⟩ := depth_pos P
            have hsh : w.shape? bk = some (oty, ca.size) := by simp [World.shape?, h2]
            simp only [variablesAt, Sem.run_bind, run_program, Result.andThen_ok, run_shape, hsh, Sem.run_pure, hdp]
            have : liesAt P (dp + 2) oty (ca.size / P.cellsOf oty) off e (q + 1) = true := by
              simp only [liesAt, hdp, rowAt, g4, sameLayout]
              simp [g3]
              left; left; omega
            rw [this]
          have hw' : ∃ f', (w.freeze ⟨bk, off, none⟩ (q + 1)).heap[bk]? = some (.cells ca oty f') ∧ (f'.1 = f'.2 ∨ f'.2 ≤ max fz (off + (q + 1))) := by
            simp only [World.freeze]
            rw [if_neg (by omega)]
            simp only [Array.getElem?_modify, if_pos, h2, Option.map_some]
            refine ⟨_, rfl, .inr ?_⟩
            by_cases hfe : f.1 = f.2
            · simp [hfe]; omega
            · simp [hfe]
              rcases hstr with h | h
              · exact absurd h hfe
              · omega
          obtain ⟨f', hf1, hf2⟩ := hw'
          have hother : ∀ k, k ≠ bk → (w.freeze ⟨bk, off, none⟩ (q + 1)).heap[k]? = w.heap[k]? := fun k hk => by
            simp only [World.freeze]
            rw [if_neg (by omega)]
            simp only [Array.getElem?_modify]
            rw [if_neg (Ne.symm hk)]
          have hrest : (w.freeze ⟨bk, off, none⟩ (q + 1)).heap.size = w.heap.size ∧ (w.freeze ⟨bk, off, none⟩ (q + 1)).os = w.os ∧ (w.freeze ⟨bk, off, none⟩ (q + 1)).tape = w.tape ∧ (w.freeze ⟨bk, off, none⟩ (q + 1)).output = w.output := by
            simp only [World.freeze]
            rw [if_neg (by omega)]
            simp
          obtain ⟨q1, q2⟩ := r.update (w' := w.freeze ⟨bk, off, none⟩ (q + 1)) (o' := .bytes uu oty (max fz (off + (q + 1))) nn b) (x' := .cells ca oty f') hp hb hf1
            ⟨ca, f', rfl, fun i hi hi' hh => by rcases hf2 with h | h <;> omega, hpre, hsz, fun _ => hf2⟩ hother hrest.1 hrest.2.1 hrest.2.2.1 hrest.2.2.2
          rw [maxN_eq]
          refine ⟨ρ, _, .string (mkB (q + 1) (b / 256 ^ off % 256 ^ (q + 1))), ?_, rfl, q1, q2⟩
          have hk0 : ¬ (Int.ofNat (q + 1) < 0) := by simp; omega
          have hk1 : ¬ (Int.ofNat (q + 1) > IntKind.i64.max) := by rw [hmax]; simp; omega
          have hk2 : ¬ (Int.ofNat (q + 1) = 0) := by simp; omega
          change Sem.run P (asInt (.int k (Int.ofNat (q + 1))) >>= _) w = _
          simp only [asInt, asIntOf, Sem.run_bind, Sem.run_pure, Result.andThen_ok, List.size_toArray, List.length_cons, List.getElem?_toArray, List.getElem?_cons_zero, Sem.run_ite]
          rw [if_neg hk0, if_neg hk1, if_neg hk2]
          simp only [elemOf, Sem.run_bind, run_underlying hu, Result.andThen_ok, Sem.run_pure]
          have ek : (Int.ofNat (q + 1)).toNat = q + 1 := rfl
          rw [ek, hvar]
          simp only [Result.andThen_ok, if_true, Sem.run_bind, hload, run_freeze, Sem.run_pure]

/-! ### delete, clear -/
def delE : List (AV × AV × Nat) → Nat → List (AV × AV × Nat)
  | [], _ => []
  | _ :: es, 0 => es
  | e :: es, n + 1 => e :: delE es n

theorem delE_ok {G : Nat → Nat} {ρ : Env} : ∀ {es : List (AV × AV × Nat)} {l : List MapEntry} {i : Nat}, All2 (entryOK G ρ) es l → All2 (entryOK G ρ) (delE es i) (l.eraseIdx i)
  | [], _, i, .nil => by cases i <;> exact .nil
  | _ :: _, _ :: _, 0, .cons e hr => hr
  | _ :: _, _ :: _, i + 1, .cons e hr => .cons e (delE_ok hr)

def delA (P : Program) (m : Mem) (t : TypeId) (x k : AV) : Option Mem :=
  match mapTy P t, x with
  | some (_, _, kd), .map p => match T.get p m.h with
    | some (.map es clk) => match findA kd k es 0 with
      | some (some (i, _, _)) => fL (delE es i) fun es => T.putK p (some (.map es clk)) m.h fun h => some ⟨h, m.n⟩
      | some none => T.putK p (some (.map es clk)) m.h fun h => some ⟨h, m.n⟩
      | none => none
    | _ => none
  | _, _ => none

theorem del_ok {P : Program} {G : Nat → Nat} {w0 : World} {ρ : Env} {m m' : Mem} {w : World} (r : RelH G w0 ρ m.h m.n w) {t ty : TypeId} {ts : List TypeId} {x k : AV} {X K : Value} (h : delA P m t x k = some m')
    (dx : den G ρ x = some X) (dk : den G ρ k = some K) : ∃ w', (Builtin.delete_ (t :: ts).toArray ty #[X, K]).run P w = .ok (.tuple #[]) w' ∧ RelH G w0 ρ m'.h m'.n w' ∧ Fr ρ m.h w ρ m'.h w' := by
  unfold delA at h
  cases hm : mapTy P t with
  | none => simp [hm] at h
  | some ked =>
    obtain ⟨kt, et, kd⟩ := ked
    obtain ⟨u1, u2, hpl⟩ := mapTy_ok hm
    cases x <;> simp only [hm, reduceCtorEq] at h
    rename_i p
    cases hp : T.get p m.h with
    | none => simp [hp] at h
    | some o =>
      cases o <;> simp only [hp, reduceCtorEq] at h
      rename_i es clk
      obtain ⟨b, κ, y, h1, h2, h3, h4, h5⟩ := r.lt hp
      obtain ⟨l, rfl, hl⟩ := h5
      obtain ⟨b', κ', h1', rfl⟩ := den_map dx
      rw [h1] at h1'
      obtain ⟨rfl, rfl⟩ : b = b' ∧ κ = κ' := by simpa using h1'
      have hget : (getObj b).run P w = .ok (.map l.toArray clk) w := by simp [getObj, Sem.run, h2]
      have hn : ∀ c e f, (Go.Obj.map l.toArray clk) ≠ .cells c e f := fun _ _ _ => by simp
      cases hf : findA kd k es 0 with
      | none => simp [hf] at h
      | some res =>
        rcases findA_ok dk hf hl with ⟨rfl, g⟩ | ⟨j, a, v', A, V', rfl, ga, gv, gk, g⟩
        · simp only [hf, T.putK_eq, Option.some.injEq] at h; subst h
          obtain ⟨q1, q2⟩ := setObj_rel r hp h1 (o' := .map es clk) (y := .map l.toArray clk) ⟨l, rfl, hl⟩
          refine ⟨_, ?_, q1, q2⟩
          simp [Builtin.delete_, run_underlying u1, hget, checkKey_plain u2 hpl, Instr.findKey, run_underlying u2, g, setObj_run h2 hn]
        · simp only [hf, fL_eq, T.putK_eq, Option.some.injEq] at h; subst h
          rw [Nat.zero_add] at g
          obtain ⟨q1, q2⟩ := setObj_rel r hp h1 (o' := .map (delE es (0 + j)) clk) (y := .map (l.toArray.eraseIdxIfInBounds j) clk) ⟨l.eraseIdx j, by simp, by rw [Nat.zero_add]; exact delE_ok hl⟩
          refine ⟨_, ?_, q1, q2⟩
          simp [Builtin.delete_, run_underlying u1, hget, checkKey_plain u2 hpl, Instr.findKey, run_underlying u2, g, setObj_run h2 hn]
end
end Go.Ev
