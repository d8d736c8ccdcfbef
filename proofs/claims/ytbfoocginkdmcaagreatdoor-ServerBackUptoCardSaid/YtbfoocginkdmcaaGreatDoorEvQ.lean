/-
  A part of the evaluator for closed runs: proved once over any program.
-/
import Derived.Test.YtbfoocginkdmcaaGreatDoorEvM
import Derived.LoopN
import Derived.Scope
import Derived.Laws.Externs
import Derived.Lib.Bytealg
import Derived.RangeFuncLeaves
import Derived.OrdersIn
import Derived.LoopNIn
set_option linter.unusedVariables false
set_option linter.unusedSimpArgs false
namespace Go.Ev
noncomputable section

/- ### A text's bytes, in new memory -/
def convBA (P : Program) (m : Mem) (s d : TypeId) (v : AV) : Option (AV × Mem) :=
  match P.underlying s, P.underlying d, v with
  | some _, some (.slice e), .str n b => bif isU8 P e then (newA m (.bytes 2 e 0 n b)).bind fun r => some (.slu r.1 0 n 1, r.2) else none
  | _, _, _ => none

theorem freeze_new (w : World) (c : Array Value) (e : TypeId) (n : Nat) : (w.alloc (.cells c e)).freeze ⟨w.heap.size, n, none⟩ 1 = w.alloc (.cells c e (n, n + 1)) := by
  simp only [World.freeze, World.alloc]
  rw [if_neg (by omega)]
  congr 1
  apply Array.ext_getElem?
  intro i
  rw [Array.getElem?_modify]
  by_cases h : w.heap.size = i
  · subst h; simp
  · rw [if_neg h]; simp [Array.getElem?_push, Ne.symm h]

theorem convB_ok {P : Program} {G : Nat → Nat} {w0 : World} {ρ : Env} {m m' : Mem} {w : World} (r : RelH G w0 ρ m.h m.n w) {s d : TypeId} {v u : AV} {x : Value} (h : convBA P m s d v = some (u, m')) (dx : den G ρ v = some x) :
    Does G w0 P (convert s d x) ρ m w u m' := by
  unfold convBA at h
  cases hs : P.underlying s with
  | none => simp [hs] at h
  | some ds =>
    cases hd : P.underlying d with
    | none => simp [hs, hd] at h
    | some dd =>
      cases dd <;> cases v <;> simp only [hs, hd, reduceCtorEq] at h
      rename_i e n b
      have hu8 := isU8_ok (cond_some h).1
      replace h := (cond_some h).2
      obtain ⟨⟨p, m1⟩, hr, hh⟩ := bind_some h; replace h := hh; clear hh
      simp only [Option.some.injEq, Prod.mk.injEq] at h
      obtain ⟨rfl, rfl⟩ := h
      simp only [den, Option.some.injEq] at dx; subst dx
      let κ := (Question.appendCap n 0 e).cut (w.tape w.drawn (Question.appendCap n 0 e))
      have hk : n ≤ κ := by simp [κ, Question.cut]
      have rd := r.drewn
      let c : Array Value := ((bytesL n b).map byteV).toArray ++ Array.replicate (κ - n) (.int .u8 0)
      have hcs : c.size = κ := by simp [c]; omega
      obtain ⟨q1, q2, q3⟩ := newA_ok (κ := κ) rd hr (x := .cells c e (κ, κ + 1)) ⟨c, (κ, κ + 1), rfl, fun i _ hi h => by rw [hcs] at hi; omega, by simp [c], by simp [hcs], fun h => absurd rfl h⟩
      refine ⟨_, _, .slice (some ⟨w.heap.size, 0, none⟩) n κ, ?_, ?_, q2, fr_drew q3⟩
      · have e1 : (mkB n b).data.map (fun b => Value.int .u8 b.toNat) = ((bytesL n b).map byteV).toArray := by
          apply Array.ext'; simp [mkB, byteV]
        have conv : (convert s d (.string (mkB n b))).run P w = (Conv.stringToBytes e (mkB n b)).run P w := by
          cases ds <;> simp [convert, run_underlying hs, run_underlying hd, run_underlying hu8]
        rw [conv]
        simp only [Conv.stringToBytes, Sem.run_bind, run_choose, Question.forced, Bool.false_eq_true, if_false, size_mkB, Result.andThen_ok, run_newRow, e1]
        simp only [markStringish, Sem.run_bind, run_shape, Result.andThen_ok]
        have hsh : (World.alloc { w with drawn := w.drawn + 1 } (.cells c e)).shape? w.heap.size = some (e, κ) := by
          simp [World.shape?, World.alloc, hcs]
        show ((Sem.run P _ (World.alloc { w with drawn := w.drawn + 1 } (.cells c e))).andThen _) = _
        have : (World.alloc { w with drawn := w.drawn + 1 } (.cells c e)).shape? ({ w with drawn := w.drawn + 1 } : World).heap.size = some (e, κ) := hsh
        rw [this]
        simp only [run_freeze, Result.andThen_ok]
        have hf := freeze_new { w with drawn := w.drawn + 1 } c e κ
        rw [hf]
        rfl
      · have q1' : (ρ.add m.n (w.heap.size, κ)) p = some (w.heap.size, κ) := q1
        simp only [den]
        rw [show ({ w with drawn := w.drawn + 1 } : World).heap.size = w.heap.size from rfl, q1']
        simp [hk]

/- ### strings.Builder's text -/
def sliceDataA (v : AV) : Option AV :=
  match v with
  | .nilS => some .nilP
  | .sl p off _ (_ + 1) => some (.ptr p off)
  | .slu p d (_ + 1) s => fN (Nat.mul d s) fun o => some (.ptr p o)
  | _ => none

theorem sliceData_ok {P : Program} {G : Nat → Nat} {ρ : Env} {w : World} {v u : AV} {x : Value} {ts : Array TypeId} {ty : TypeId} (h : sliceDataA v = some u) (d : den G ρ v = some x) :
    ∃ y, (Builtin.unsafeSliceData_ ts ty #[x]).run P w = .ok y w ∧ den G ρ u = some y := by
  cases v <;> simp only [sliceDataA, reduceCtorEq] at h
  case nilS =>
    simp only [Option.some.injEq] at h; subst h
    simp only [den, Option.some.injEq] at d; subst d
    exact ⟨.pointer none, rfl, rfl⟩
  case sl p off len cap =>
    cases cap <;> simp only [reduceCtorEq, Option.some.injEq] at h
    subst h
    obtain ⟨b, κ, hb, rfl⟩ := den_sl d
    exact ⟨.pointer (some ⟨b, off, none⟩), rfl, by simp [den, hb]⟩
  case slu p dd len s =>
    cases len <;> simp only [reduceCtorEq, fN_eq, Option.some.injEq] at h
    subst h
    obtain ⟨b, κ, hb, hk, rfl⟩ := den_slu d
    refine ⟨.pointer (some ⟨b, dd * s, none⟩), ?_, by simp [den, hb]⟩
    obtain ⟨c, hc⟩ : ∃ c, κ - dd = c + 1 := ⟨κ - dd - 1, by omega⟩
    rw [hc]; rfl

def maxN (a b : Nat) : Nat := bif Nat.ble a b then b else a
theorem maxN_eq (a b : Nat) : maxN a b = max a b := by
  unfold maxN; rw [nble]; by_cases h : a ≤ b <;> simp [h] <;> omega

def strAtA (P : Program) (m : Mem) (pt : TypeId) (v n : AV) : Option (AV × Mem) :=
  match n with
  | .int _ (.ofNat 0) => match v with
    | .nilP => some (.str 0 0, m)
    | .ptr .. => some (.str 0 0, m)
    | _ => none
  | .int _ (.ofNat (k + 1)) => match v with
    | .ptr p off => match P.underlying pt, T.get p m.h with
      | some (.pointer e), some (.bytes u ty fz nn b) =>
        bif Nat.ble (Nat.succ k) 1000000 && (Nat.ble (Nat.add off (Nat.succ k)) nn && (Nat.beq (P.underlyingId ty) (P.underlyingId e) && (Nat.beq (P.cellsOf ty) 1 && Nat.blt u 2))) then
          fN (Nat.mod (Nat.div b (Nat.pow 256 off)) (Nat.pow 256 (Nat.succ k))) fun c => fN (maxN fz (Nat.add off (Nat.succ k))) fun fz => T.putK p (some (.bytes u ty fz nn b)) m.h fun h => some (.str (Nat.succ k) c, ⟨h, m.n⟩)
        else none
      | _, _ => none
    | _ => none
  | _ => none

theorem loadBytes_run {P : Program} (b off : Nat) (w : World) : ∀ (l : List UInt8) (i : Nat) (acc : ByteArray), (∀ j c, l[j]? = some c → w.cell? ⟨b, off + i + j, none⟩ = some (byteV c)) →
    (loadBytes ⟨b, off + i, none⟩ acc l.length).run P w = .ok (acc ++ ⟨l.toArray⟩) w
  | [], i, acc, h => by
    simp [loadBytes]
    apply ByteArray.ext; simp
  | c :: l, i, acc, h => by
    have h0 := h 0 c (by simp)
    simp only [Nat.add_zero] at h0
    simp only [List.length_cons, loadBytes, Sem.run_bind, run_load, h0, Result.andThen_ok, byteV]
    rw [add_plain, show off + i + 1 = off + (i + 1) from by omega]
    rw [loadBytes_run b off w l (i + 1) _ (fun j d hj => by
      have := h (j + 1) d (by simpa using hj)
      rwa [show off + i + (j + 1) = off + (i + 1) + j from by omega] at this)]
    congr 1
    apply ByteArray.ext
    simp

theorem depth_pos (P : Program) : ∃ d, P.depth = d + 2 := ⟨2 * (P.types.size + Made.depth), rfl⟩

theorem strAt_ok {P : Program} {G : Nat → Nat} {w0 : World} {ρ : Env} {m m' : Mem} {w : World} (r : RelH G w0 ρ m.h m.n w) {pt ty : TypeId} {ts : List TypeId} {v n u : AV} {x y : Value} (h : strAtA P m pt v n = some (u, m'))
    (dx : den G ρ v = some x) (dy : den G ρ n = some y) : Does G w0 P (Builtin.unsafeString_ (pt :: ts).toArray ty #[x, y]) ρ m w u m' := by
  unfold strAtA at h
  cases n <;> simp only [reduceCtorEq] at h
  rename_i k z
  simp only [den, Option.some.injEq] at dy; subst dy
  have hmax : IntKind.i64.max = 9223372036854775807 := by decide
  cases z with
  | negSucc z => cases h
  | ofNat z =>
  cases z with
  | zero =>
    simp only at h
    have e0 : ((Int.ofNat 0) : Int) = 0 := rfl
    match v, h, dx with
    | .nilP, h, dx =>
      simp only [Option.some.injEq, Prod.mk.injEq] at h
      obtain ⟨rfl, rfl⟩ := h
      rw [den_nilP dx]
      refine ⟨ρ, w, .string .empty, ?_, rfl, r, Fr.refl _ _ _⟩
      change Sem.run P (asInt (.int k 0) >>= _) w = _
      simp [asInt, asIntOf, hmax]
    | .ptr p off, h, dx =>
      simp only [Option.some.injEq, Prod.mk.injEq] at h
      obtain ⟨rfl, rfl⟩ := h
      obtain ⟨b, κ, hb, rfl⟩ := den_ptr dx
      refine ⟨ρ, w, .string .empty, ?_, rfl, r, Fr.refl _ _ _⟩
      change Sem.run P (asInt (.int k 0) >>= _) w = _
      simp [asInt, asIntOf, hmax]
  | succ q =>
    simp only at h
    match v, h, dx with
    | .ptr p off, h, dx =>
      simp only at h
      obtain ⟨bk, κ, hb, rfl⟩ := den_ptr dx
      cases hu : P.underlying pt with
      | none => simp [hu] at h
      | some dpt =>
        cases hp : T.get p m.h with
        | none => cases dpt <;> simp [hu, hp] at h
        | some o =>
          cases dpt <;> cases o <;> simp only [hu, hp, reduceCtorEq] at h
          rename_i e uu oty fz nn b
          have hcnd := (cond_some h).1
          replace h := (cond_some h).2
          simp only [Bool.and_eq_true, nbeq, nble, nblt, decide_eq_true_iff] at hcnd
          obtain ⟨g1, g2, g3, g4, g5⟩ := hcnd
          have g2' : off + (q + 1) ≤ nn := g2
          simp only [fN_eq, T.putK_eq, Option.some.injEq, Prod.mk.injEq] at h
          obtain ⟨rfl, rfl⟩ := h
          obtain ⟨b', κ', yo, h1, h2, h3, h4, h5⟩ := r.lt hp
          rw [hb] at h1
          obtain ⟨rfl, rfl⟩ : bk = b' ∧ κ = κ' := by simpa using h1
          obtain ⟨ca, f, rfl, hfz, hpre, hsz, hstr⟩ := h5
          have hstr := hstr (by omega)
          have hle : nn ≤ ca.size := by have := hpre.length_le; simpa using this
          have hload := loadBytes_run (P := P) bk off w (bytesL (q + 1) (b / 256 ^ off)) 0 .empty (fun j c hj => by
            rw [Nat.add_zero, cell_of_row h2, ← Array.getElem?_toList]
            apply prefix_get hpre
            have hjl : j < q + 1 := by
              rcases Nat.lt_or_ge j (q + 1) with h' | h'
              · exact h'
              · simp [List.getElem?_eq_none, h'] at hj
            rw [bytesL_get? _ _ _ hjl] at hj
            rw [List.getElem?_map, bytesL_get? _ _ _ (by omega)]
            rw [Nat.div_div_eq_div_mul, ← Nat.pow_add] at hj
            simp only [Option.some.injEq] at hj
            simp only [Option.map_some, hj])
          simp only [length_bytesL, Nat.add_zero] at hload
          have hstrv : ByteArray.empty ++ ⟨(bytesL (q + 1) (b / 256 ^ off)).toArray⟩ = mkB (q + 1) (b / 256 ^ off % 256 ^ (q + 1)) := by
            apply ByteArray.ext; simp [mkB, bytesL_mod]
          rw [hstrv] at hload
          have hvar : (variablesAt ⟨bk, off, none⟩ e (q + 1)).run P w = .ok true w := by
            obtain ⟨dp, hdp⟩ := depth_pos P
            have hsh : w.shape? bk = some (oty, ca.size) := by simp [World.shape?, h2]
            simp only [variablesAt, Sem.run_bind, run_program, Result.andThen_ok, run_shape, hsh, Sem.run_pure, hdp]
            have : liesAt P (dp + 2) oty (ca.size / P.cellsOf oty) off e (q + 1) = true := by
              simp only [liesAt, hdp, rowAt, g4, sameLayout]
              simp [g3]
              left; left; omega
            rw [this]
          have hw' : ∃ f', (w.freeze ⟨bk, off, none⟩ (q + 1)).heap[bk]? = some (.cells ca oty f') ∧ (f'.1 = f'.2 ∨ f'.2 ≤ max fz (off + (q + 1))) := by
            simp only [World.freeze]
            rw [if_neg (by omega)]
            simp only [Array.getElem?_modify, if_pos, h2, Option.map_some]
            refine ⟨_, rfl, .inr ?_⟩
            by_cases hfe : f.1 = f.2
            · simp [hfe]; omega
            · simp [hfe]
              rcases hstr with h | h
              · exact absurd h hfe
              · omega
          obtain ⟨f', hf1, hf2⟩ := hw'
          have hother : ∀ k, k ≠ bk → (w.freeze ⟨bk, off, none⟩ (q + 1)).heap[k]? = w.heap[k]? := fun k hk => by
            simp only [World.freeze]
            rw [if_neg (by omega)]
            simp only [Array.getElem?_modify]
            rw [if_neg (Ne.symm hk)]
          have hrest : (w.freeze ⟨bk, off, none⟩ (q + 1)).heap.size = w.heap.size ∧ (w.freeze ⟨bk, off, none⟩ (q + 1)).os = w.os ∧ (w.freeze ⟨bk, off, none⟩ (q + 1)).tape = w.tape ∧ (w.freeze ⟨bk, off, none⟩ (q + 1)).output = w.output := by
            simp only [World.freeze]
            rw [if_neg (by omega)]
            simp
          obtain ⟨q1, q2⟩ := r.update (w' := w.freeze ⟨bk, off, none⟩ (q + 1)) (o' := .bytes uu oty (max fz (off + (q + 1))) nn b) (x' := .cells ca oty f') hp hb hf1
            ⟨ca, f', rfl, fun i hi hi' hh => by rcases hf2 with h | h <;> omega, hpre, hsz, fun _ => hf2⟩ hother hrest.1 hrest.2.1 hrest.2.2.1 hrest.2.2.2
          rw [maxN_eq]
          refine ⟨ρ, _, .string (mkB (q + 1) (b / 256 ^ off % 256 ^ (q + 1))), ?_, rfl, q1, q2⟩
          have hk0 : ¬ (Int.ofNat (q + 1) < 0) := by simp; omega
          have hk1 : ¬ (Int.ofNat (q + 1) > IntKind.i64.max) := by rw [hmax]; simp; omega
          have hk2 : ¬ (Int.ofNat (q + 1) = 0) := by simp; omega
          change Sem.run P (asInt (.int k (Int.ofNat (q + 1))) >>= _) w = _
          simp only [asInt, asIntOf, Sem.run_bind, Sem.run_pure, Result.andThen_ok, List.size_toArray, List.length_cons, List.getElem?_toArray, List.getElem?_cons_zero, Sem.run_ite]
          rw [if_neg hk0, if_neg hk1, if_neg hk2]
          simp only [elemOf, Sem.run_bind, run_underlying hu, Result.andThen_ok, Sem.run_pure]
          have ek : (Int.ofNat (q + 1)).toNat = q + 1 := rfl
          rw [ek, hvar]
          simp only [Result.andThen_ok, if_true, Sem.run_bind, hload, run_freeze, Sem.run_pure]

/- ### delete, clear -/
def delE : List (AV × AV × Nat) → Nat → List (AV × AV × Nat)
  | [], _ => []
  | _ :: es, 0 => es
  | e :: es, n + 1 => e :: delE es n

theorem delE_ok {G : Nat → Nat} {ρ : Env} : ∀ {es : List (AV × AV × Nat)} {l : List MapEntry} {i : Nat}, All2 (entryOK G ρ) es l → All2 (entryOK G ρ) (delE es i) (l.eraseIdx i)
  | [], _, i, .nil => by cases i <;> exact .nil
  | _ :: _, _ :: _, 0, .cons e hr => hr
  | _ :: _, _ :: _, i + 1, .cons e hr => .cons e (delE_ok hr)

def delA (P : Program) (m : Mem) (t : TypeId) (x k : AV) : Option Mem :=
  match mapTy P t, x with
  | some (_, _, kd), .map p => match T.get p m.h with
    | some (.map es clk) => match findA kd k es 0 with
      | some (some (i, _, _)) => fL (delE es i) fun es => T.putK p (some (.map es clk)) m.h fun h => some ⟨h, m.n⟩
      | some none => T.putK p (some (.map es clk)) m.h fun h => some ⟨h, m.n⟩
      | none => none
    | _ => none
  | _, _ => none

theorem del_ok {P : Program} {G : Nat → Nat} {w0 : World} {ρ : Env} {m m' : Mem} {w : World} (r : RelH G w0 ρ m.h m.n w) {t ty : TypeId} {ts : List TypeId} {x k : AV} {X K : Value} (h : delA P m t x k = some m')
    (dx : den G ρ x = some X) (dk : den G ρ k = some K) : ∃ w', (Builtin.delete_ (t :: ts).toArray ty #[X, K]).run P w = .ok (.tuple #[]) w' ∧ RelH G w0 ρ m'.h m'.n w' ∧ Fr ρ m.h w ρ m'.h w' := by
  unfold delA at h
  cases hm : mapTy P t with
  | none => simp [hm] at h
  | some ked =>
    obtain ⟨kt, et, kd⟩ := ked
    obtain ⟨u1, u2, hpl⟩ := mapTy_ok hm
    cases x <;> simp only [hm, reduceCtorEq] at h
    rename_i p
    cases hp : T.get p m.h with
    | none => simp [hp] at h
    | some o =>
      cases o <;> simp only [hp, reduceCtorEq] at h
      rename_i es clk
      obtain ⟨b, κ, y, h1, h2, h3, h4, h5⟩ := r.lt hp
      obtain ⟨l, rfl, hl⟩ := h5
      obtain ⟨b', κ', h1', rfl⟩ := den_map dx
      rw [h1] at h1'
      obtain ⟨rfl, rfl⟩ : b = b' ∧ κ = κ' := by simpa using h1'
      have hget : (getObj b).run P w = .ok (.map l.toArray clk) w := by simp [getObj, Sem.run, h2]
      have hn : ∀ c e f, (Go.Obj.map l.toArray clk) ≠ .cells c e f := fun _ _ _ => by simp
      cases hf : findA kd k es 0 with
      | none => simp [hf] at h
      | some res =>
        rcases findA_ok dk hf hl with ⟨rfl, g⟩ | ⟨j, a, v', A, V', rfl, ga, gv, gk, g⟩
        · simp only [hf, T.putK_eq, Option.some.injEq] at h; subst h
          obtain ⟨q1, q2⟩ := setObj_rel r hp h1 (o' := .map es clk) (y := .map l.toArray clk) ⟨l, rfl, hl⟩
          refine ⟨_, ?_, q1, q2⟩
          simp [Builtin.delete_, run_underlying u1, hget, checkKey_plain u2 hpl, Instr.findKey, run_underlying u2, g, setObj_run h2 hn]
        · simp only [hf, fL_eq, T.putK_eq, Option.some.injEq] at h; subst h
          rw [Nat.zero_add] at g
          obtain ⟨q1, q2⟩ := setObj_rel r hp h1 (o' := .map (delE es (0 + j)) clk) (y := .map (l.toArray.eraseIdxIfInBounds j) clk) ⟨l.eraseIdx j, by simp, by rw [Nat.zero_add]; exact delE_ok hl⟩
          refine ⟨_, ?_, q1, q2⟩
          simp [Builtin.delete_, run_underlying u1, hget, checkKey_plain u2 hpl, Instr.findKey, run_underlying u2, g, setObj_run h2 hn]
end
end Go.Ev
set_option linter.unusedVariables false
set_option linter.unusedSimpArgs false
namespace Go.Ev
noncomputable section

def unitA (m : Option Mem) : Option (AV × Mem) := m.bind fun m => some (.tup [], m)

/-- What an operation yields and does that makes or writes memory. -/
def evE (C : Cx) (t : T AV) (m : Mem) (op : Op) : Option (AV × Mem) :=
  match op with
  | .alloc e => (zeroA C.P e).bind fun z => boxA m e z
  | .box e x => (evO C t x).bind fun v => boxA m e v
  | .buildSlice ty len parts => (evParts C t parts.toList).bind fun ps => buildSliceA C.P m ty len ps
  | .store ty a x => (evO C t a).bind fun a => (evO C t x).bind fun v => unitA (storeA C.P m ty a v)
  | .makeMap _ none => makeMapA m
  | .makeSlice ty l c => (evO C t l).bind fun l => (evO C t c).bind fun c => makeSliceA C.P m ty l c
  | .mapUpdate ty x k v | .insert ty x k v => (evO C t x).bind fun x => (evO C t k).bind fun k => (evO C t v).bind fun v => unitA (mapUpdA C.P m ty x k v)
  | .convert s d x => (evO C t x).bind fun v => convBA C.P m s d v
  | .range ty x => (evO C t x).bind fun v => rangeA C.P m ty v
  | .next x b => (evO C t x).bind fun v => nextA m v b
  | .entry x => (evO C t x).bind fun v => entryA m v
  | .call c => match c.callee with
    | .builtin .append => match c.args.toList, c.argTypes.toList with
      | [x, y], t0 :: t1 :: _ => (evO C t x).bind fun x => (evO C t y).bind fun y => appendX C m t0 t1 x y
      | _, _ => none
    | .builtin .copy => match c.args.toList, c.argTypes.toList with
      | [x, y], t0 :: _ => (evO C t x).bind fun x => (evO C t y).bind fun y => copyA C m t0 x y
      | _, _ => none
    | .builtin .delete => match c.args.toList, c.argTypes.toList with
      | [x, y], t0 :: _ => (evO C t x).bind fun x => (evO C t y).bind fun y => unitA (delA C.P m t0 x y)
      | _, _ => none
    | .builtin .clear => match c.args.toList, c.argTypes.toList with
      | [x], t0 :: _ => (evO C t x).bind fun x => unitA (clearA C.P m t0 x)
      | _, _ => none
    | .builtin .unsafeSliceData => match c.args.toList with
      | [x] => (evO C t x).bind fun x => (sliceDataA x).bind fun v => some (v, m)
      | _ => none
    | .builtin .unsafeString => match c.args.toList, c.argTypes.toList with
      | [x, y], t0 :: _ => (evO C t x).bind fun x => (evO C t y).bind fun y => strAtA C.P m t0 x y
      | _, _ => none
    | _ => none
  | _ => none

/-- What an operation does. -/
def OpDoes (G : Nat → Nat) (w0 : World) (P : Program) (s : Sem Next) (ρ : Env) (m : Mem) (w : World) (v : AV) (m' : Mem) : Prop :=
  ∃ ρ' w' nx x, s.run P w = .ok nx w' ∧ (nx = .value x ∨ (nx = .skip ∧ x = undef)) ∧ den G ρ' v = some x ∧ RelH G w0 ρ' m'.h m'.n w' ∧ Fr ρ m.h w ρ' m'.h w'

theorem Does.op {G : Nat → Nat} {w0 : World} {P : Program} {s : Sem Value} {ρ : Env} {m m' : Mem} {w : World} {v : AV} (h : Does G w0 P s ρ m w v m') : OpDoes G w0 P (do pure (.value (← s))) ρ m w v m' := by
  obtain ⟨ρ', w', x, h1, h2, h3, h4⟩ := h
  exact ⟨ρ', w', .value x, x, by simp only [Sem.run_bind, h1, Result.andThen_ok, Sem.run_pure], .inl rfl, h2, h3, h4⟩

theorem evE_ok {C : Cx} {G : Nat → Nat} {w0 : World} (ok : C.Ok G w0) {ρ : Env} {t : T AV} {nt : Nat} {a : Act} (rt : RelT G ρ t nt a) {m m' : Mem} {w : World} (r : RelH G w0 ρ m.h m.n w) {o : Oper} {v : AV}
    (e : evE C t m o.op = some (v, m')) : OpDoes G w0 C.P (execOp a.eval o) ρ m w v m' := by
  obtain ⟨dst, op, type, pos, after, guard⟩ := o
  have unit : ∀ {s : Sem Unit} {q : Option Mem}, unitA q = some (v, m') → (∀ m1, q = some m1 → ∃ w', s.run C.P w = .ok () w' ∧ RelH G w0 ρ m1.h m1.n w' ∧ Fr ρ m.h w ρ m1.h w') →
      OpDoes G w0 C.P (do s; pure .skip) ρ m w v m' := fun h k => by
    obtain ⟨m1, h1, h2⟩ := bind_some h
    simp only [Option.some.injEq, Prod.mk.injEq] at h2
    obtain ⟨rfl, rfl⟩ := h2
    obtain ⟨w', r1, r2, r3⟩ := k _ h1
    exact ⟨ρ, w', .skip, .tuple #[], by simp only [Sem.run_bind, r1, Result.andThen_ok, Sem.run_pure], .inr ⟨rfl, rfl⟩, rfl, r2, r3⟩
  cases op <;> simp only [evE, reduceCtorEq] at e
  case alloc ty =>
    obtain ⟨z, h1, h2⟩ := bind_some e
    obtain ⟨x, hx, dz⟩ := zeroA_all h1
    obtain ⟨ρ', w', y, r1, r2⟩ := newVar_ok (P := C.P) r h2 (dz G ρ)
    show OpDoes G w0 C.P (do pure (.value (← Instr.alloc ty true (.tuple #[])))) ρ m w v m'
    refine Does.op (s := Instr.alloc ty true (.tuple #[])) ⟨ρ', w', y, ?_, r2⟩
    simp only [Instr.alloc, Sem.run_bind, hx, Result.andThen_ok]
    exact r1
  case box ty x =>
    obtain ⟨z, h1, h2⟩ := bind_some e
    show OpDoes G w0 C.P (do pure (.value (← Instr.box ty (a.eval x)))) ρ m w v m'
    exact Does.op (newVar_ok (P := C.P) r h2 (evO_ok ok rt h1))
  case buildSlice ty len parts =>
    obtain ⟨ps, h1, h2⟩ := bind_some e
    obtain ⟨ρ', w', x, r1, r2⟩ := buildSlice_ok (P := C.P) r h2 (evParts_ok ok rt h1)
    have lift : ∀ {s : Sem Value}, s.run C.P w = .ok x w' → (do pure (Next.value (← s)) : Sem Next).run C.P w = .ok (.value x) w' := fun hs => by simp only [Sem.run_bind, hs, Result.andThen_ok, Sem.run_pure]
    refine ⟨ρ', w', .value x, x, lift ?_, .inl rfl, r2⟩
    rw [← r1]
    congr 2
    apply Array.ext'
    simp
  case store ty x y =>
    obtain ⟨A, h1, h2⟩ := bind_some e
    obtain ⟨V, h3, h4⟩ := bind_some h2
    show OpDoes G w0 C.P (do Instr.storeAt ty (a.eval x) (a.eval y); pure .skip) ρ m w v m'
    exact unit (s := Instr.storeAt ty (a.eval x) (a.eval y)) h4 fun m1 hm => store_ok r hm (evO_ok ok rt h1) (evO_ok ok rt h3)
  case makeMap ty res =>
    cases res <;> simp only [reduceCtorEq] at e
    show OpDoes G w0 C.P (do pure (.value (← Instr.makeMap ty none))) ρ m w v m'
    exact Does.op (s := Instr.makeMap ty none) (makeMap_ok r e)
  case makeSlice ty l c =>
    obtain ⟨A, h1, h2⟩ := bind_some e
    obtain ⟨V, h3, h4⟩ := bind_some h2
    show OpDoes G w0 C.P (do pure (.value (← Instr.makeSlice ty (a.eval l) (a.eval c)))) ρ m w v m'
    exact Does.op (makeSlice_ok r h4 (evO_ok ok rt h1) (evO_ok ok rt h3))
  case mapUpdate ty x k y =>
    obtain ⟨A, h1, h2⟩ := bind_some e
    obtain ⟨K, h3, h4⟩ := bind_some h2
    obtain ⟨V, h5, h6⟩ := bind_some h4
    show OpDoes G w0 C.P (do Instr.mapUpdate ty (a.eval x) (a.eval k) (a.eval y); pure .skip) ρ m w v m'
    exact unit (s := Instr.mapUpdate ty (a.eval x) (a.eval k) (a.eval y)) h6 fun m1 hm => mapUpd_ok r hm (evO_ok ok rt h1) (evO_ok ok rt h3) (evO_ok ok rt h5)
  case insert ty x k y =>
    obtain ⟨A, h1, h2⟩ := bind_some e
    obtain ⟨K, h3, h4⟩ := bind_some h2
    obtain ⟨V, h5, h6⟩ := bind_some h4
    show OpDoes G w0 C.P (do Instr.mapUpdate ty (a.eval x) (a.eval k) (a.eval y); pure .skip) ρ m w v m'
    exact unit (s := Instr.mapUpdate ty (a.eval x) (a.eval k) (a.eval y)) h6 fun m1 hm => mapUpd_ok r hm (evO_ok ok rt h1) (evO_ok ok rt h3) (evO_ok ok rt h5)
  case convert s d x =>
    obtain ⟨A, h1, h2⟩ := bind_some e
    show OpDoes G w0 C.P (do pure (.value (← convert s d (a.eval x)))) ρ m w v m'
    exact Does.op (convB_ok r h2 (evO_ok ok rt h1))
  case range ty x =>
    obtain ⟨A, h1, h2⟩ := bind_some e
    show OpDoes G w0 C.P (do pure (.value (← Instr.range ty (a.eval x)))) ρ m w v m'
    exact Does.op (range_ok r h2 (evO_ok ok rt h1))
  case next x b =>
    obtain ⟨A, h1, h2⟩ := bind_some e
    show OpDoes G w0 C.P (do pure (.value (← Instr.next (a.eval x) b type))) ρ m w v m'
    exact Does.op (next_ok r h2 (evO_ok ok rt h1))
  case entry x =>
    obtain ⟨A, h1, h2⟩ := bind_some e
    show OpDoes G w0 C.P (do pure (.value (← Instr.entry (a.eval x)))) ρ m w v m'
    exact Does.op (entry_ok r h2 (evO_ok ok rt h1))
  case call c =>
    obtain ⟨callee, args, argTypes⟩ := c
    cases callee <;> simp only [reduceCtorEq] at e
    rename_i bi
    have two : ∀ {x y : Operand}, args.toList = [x, y] → args.map a.eval = #[a.eval x, a.eval y] := fun h => by
      rw [list2 h]; simp
    have ty1 : ∀ {t0 : TypeId} {ts : List TypeId}, argTypes.toList = t0 :: ts → argTypes = (t0 :: ts).toArray := fun h => Array.ext' (by simpa using h)
    have lift : ∀ {b : Builtin} {s : Sem Value}, (∀ cs, builtin b argTypes type cs (args.map a.eval) = (do pure (.value (← s)))) → Does G w0 C.P s ρ m w v m' →
        OpDoes G w0 C.P (execOp a.eval ⟨dst, .call ⟨.builtin b, args, argTypes⟩, type, pos, after, guard⟩) ρ m w v m' := fun hb hd => by
      obtain ⟨ρ', w', nx, x, g1, g2⟩ := Does.op hd
      refine ⟨ρ', w', nx, x, ?_, g2⟩
      simp only [execOp, resolve, Sem.run_bind, Sem.run_pure, Result.andThen_ok, invoke, hb]
      simp only [Sem.run_bind, Sem.run_pure] at g1
      exact g1
    cases bi <;> simp only [reduceCtorEq] at e
    case append =>
      split at e
      · rename_i x y t0 t1 ts ha ht
        obtain ⟨A, h1, h2⟩ := bind_some e
        obtain ⟨B, h3, h4⟩ := bind_some h2
        have hd := appendX_ok (ts := ts) (ty := type) ok r h4 (evO_ok ok rt h1) (evO_ok ok rt h3)
        rw [← ty1 ht, ← two ha] at hd
        exact lift (fun _ => rfl) hd
      · cases e
    case copy =>
      split at e
      · rename_i x y t0 ts ha ht
        obtain ⟨A, h1, h2⟩ := bind_some e
        obtain ⟨B, h3, h4⟩ := bind_some h2
        have hd := copy_ok (ts := ts) (ty := type) r h4 (evO_ok ok rt h1) (evO_ok ok rt h3)
        rw [← ty1 ht, ← two ha] at hd
        exact lift (fun _ => rfl) hd
      · cases e
    case delete =>
      split at e
      · rename_i x y t0 ts ha ht
        obtain ⟨A, h1, h2⟩ := bind_some e
        obtain ⟨B, h3, h4⟩ := bind_some h2
        obtain ⟨m1, h5, h6⟩ := bind_some h4
        simp only [Option.some.injEq, Prod.mk.injEq] at h6
        obtain ⟨rfl, rfl⟩ := h6
        obtain ⟨w', r1, r2, r3⟩ := del_ok (ts := ts) (ty := type) r h5 (evO_ok ok rt h1) (evO_ok ok rt h3)
        rw [← ty1 ht, ← two ha] at r1
        exact lift (fun _ => rfl) ⟨ρ, w', _, r1, rfl, r2, r3⟩
      · cases e
    case clear =>
      split at e
      · rename_i x t0 ts ha ht
        obtain ⟨A, h1, h2⟩ := bind_some e
        obtain ⟨m1, h5, h6⟩ := bind_some h2
        simp only [Option.some.injEq, Prod.mk.injEq] at h6
        obtain ⟨rfl, rfl⟩ := h6
        obtain ⟨w', r1, r2, r3⟩ := clear_ok (ts := ts) (ty := type) r h5 (evO_ok ok rt h1)
        have e1 : args.map a.eval = #[a.eval x] := by rw [list1 ha]; simp
        rw [← ty1 ht, ← e1] at r1
        exact lift (fun _ => rfl) ⟨ρ, w', _, r1, rfl, r2, r3⟩
      · cases e
    case unsafeSliceData =>
      split at e
      · rename_i x ha
        obtain ⟨A, h1, h2⟩ := bind_some e
        obtain ⟨B, h3, h4⟩ := bind_some h2
        simp only [Option.some.injEq, Prod.mk.injEq] at h4
        obtain ⟨rfl, rfl⟩ := h4
        obtain ⟨y, r1, r2⟩ := sliceData_ok (P := C.P) (w := w) (ts := argTypes) (ty := type) h3 (evO_ok ok rt h1)
        have e1 : args.map a.eval = #[a.eval x] := by rw [list1 ha]; simp
        rw [← e1] at r1
        exact lift (fun _ => rfl) ⟨ρ, w, y, r1, r2, r, Fr.refl _ _ _⟩
      · cases e
    case unsafeString =>
      split at e
      · rename_i x y t0 ts ha ht
        obtain ⟨A, h1, h2⟩ := bind_some e
        obtain ⟨B, h3, h4⟩ := bind_some h2
        have hd := strAt_ok (ts := ts) (ty := type) r h4 (evO_ok ok rt h1) (evO_ok ok rt h3)
        rw [← ty1 ht, ← two ha] at hd
        exact lift (fun _ => rfl) hd
      · cases e
end
end Go.Ev
set_option linter.unusedVariables false
set_option linter.unusedSimpArgs false
namespace Go.Ev
noncomputable section

/- ### The same again, so made that the kernel copies little: what varies comes last -/
def evOk (x : Operand) : Cx → T AV → Option AV :=
  match x with
  | .tmp i => fun _ t => bif Nat.blt i 1000000 then T.get (Key.slot i) t else none
  | .const v => fun _ _ => cv v
  | .global g => fun C _ => bif Nat.blt g C.ng then some (.gptr g 0) else none
  | .func f => fun _ _ => some (.fn f [] [])

theorem evOk_eq (x : Operand) (C : Cx) (t : T AV) : evOk x C t = evO C t x := by cases x <;> rfl

def callPk (c : Call) (C : Cx) (t : T AV) (h : T AObj) : Option AV :=
  match c.callee with
  | .builtin .len => match c.args.toList, c.argTypes.toList with
    | [x], ty :: _ => (evO C t x).bind fun v => lenA C.P h ty v
    | _, _ => none
  | .builtin .cap => match c.args.toList, c.argTypes.toList with
    | [x], ty :: _ => (evO C t x).bind fun v => capA C.P ty v
    | _, _ => none
  | .builtin .max => match c.args.toList with
    | [x, y] => (evO C t x).bind fun v => (evO C t y).bind fun u => mm true v u
    | _ => none
  | .builtin .min => match c.args.toList with
    | [x, y] => (evO C t x).bind fun v => (evO C t y).bind fun u => mm false v u
    | _ => none
  | _ => none

def evPk (op : Op) : Cx → T AV → T AObj → Option AV :=
  match op with
  | .move x => fun C t _ => evOk x C t
  | .assign x => fun C t _ => evOk x C t
  | .pick c a b => fun C t _ => match evOk c C t with
    | some (.bool true) => evOk a C t
    | some (.bool false) => evOk b C t
    | _ => none
  | .load ty a => fun C t h => (evOk a C t).bind fun v => loadA C h ty v
  | .nilCheck x => fun C t _ => (evOk x C t).bind fun v => bif notNil v then some v else none
  | .binOp op ty x y _ => fun C t _ => (evOk x C t).bind fun a => (evOk y C t).bind fun b => bif guardB C.P ty x y a b then binA C.P op ty a b else none
  | .unOp op _ x => fun C t _ => (evOk x C t).bind fun a => unA op a
  | .convert s d x => fun C t h => (evOk x C t).bind fun a => convA C h s d a
  | .makeInterface ty x => fun C t _ => (evOk x C t).bind fun a => mkIfA C.P ty a
  | .typeAssert x _ ty okb => fun C t _ => (evOk x C t).bind fun v => assertA C.P v ty okb
  | .makeFunc fn first cap => match fn with
    | .func f => fun C t _ => (evOs C t first.toList).bind fun l => (evOs C t cap.toList).bind fun m => some (.fn f l m)
    | _ => fun _ _ _ => none
  | .slice ty x lo hi mx => match mx with
    | none => fun C t _ => (evOk x C t).bind fun v => (optA C t lo).bind fun l => (optA C t hi).bind fun m => sliceA C.P ty v l m
    | some mx => fun C t _ => (evOk x C t).bind fun v => (optA C t lo).bind fun l => (optA C t hi).bind fun m => (evOk mx C t).bind fun c => slice3A C.P ty v l m c
  | .fieldAddr s x f => fun C t _ => (evOk x C t).bind fun v => fieldAtA C.P s v f
  | .field s x f => fun C t _ => (evOk x C t).bind fun v => fieldA C.P s v f
  | .indexAddr ty x i => fun C t _ => (evOk x C t).bind fun v => (evOk i C t).bind fun i => indexAtA C.P ty v i
  | .index ty x i => fun C t _ => (evOk x C t).bind fun v => (evOk i C t).bind fun i => indexA C.P ty v i
  | .lookup ty m k ok => fun C t h => (evOk m C t).bind fun m => (evOk k C t).bind fun k => lookA C.P h ty m k ok
  | .extract x i => fun C t _ => (evOk x C t).bind fun v => extractA v i
  | .build ty parts => fun C t _ => (evParts C t parts.toList).bind fun ps => buildA C.P ty ps
  | .call c => callPk c
  | _ => fun _ _ _ => none

theorem evPk_eq (op : Op) (C : Cx) (t : T AV) (h : T AObj) : evPk op C t h = evP C t h op := by
  cases op <;> simp only [evPk, evP, evOk_eq]
  case pick c a b =>
    cases evO C t c with
    | none => rfl
    | some v => cases v with
      | bool b => cases b <;> rfl
      | _ => rfl
  case makeFunc fn first cap => cases fn <;> rfl
  case slice ty x lo hi mx => cases mx <;> simp only [evOk_eq]
  case call c => rfl

def callEk (c : Call) (C : Cx) (t : T AV) (m : Mem) : Option (AV × Mem) :=
  match c.callee with
  | .builtin .append => match c.args.toList, c.argTypes.toList with
    | [x, y], t0 :: t1 :: _ => (evO C t x).bind fun x => (evO C t y).bind fun y => appendX C m t0 t1 x y
    | _, _ => none
  | .builtin .copy => match c.args.toList, c.argTypes.toList with
    | [x, y], t0 :: _ => (evO C t x).bind fun x => (evO C t y).bind fun y => copyA C m t0 x y
    | _, _ => none
  | .builtin .delete => match c.args.toList, c.argTypes.toList with
    | [x, y], t0 :: _ => (evO C t x).bind fun x => (evO C t y).bind fun y => unitA (delA C.P m t0 x y)
    | _, _ => none
  | .builtin .clear => match c.args.toList, c.argTypes.toList with
    | [x], t0 :: _ => (evO C t x).bind fun x => unitA (clearA C.P m t0 x)
    | _, _ => none
  | .builtin .unsafeSliceData => match c.args.toList with
    | [x] => (evO C t x).bind fun x => (sliceDataA x).bind fun v => some (v, m)
    | _ => none
  | .builtin .unsafeString => match c.args.toList, c.argTypes.toList with
    | [x, y], t0 :: _ => (evO C t x).bind fun x => (evO C t y).bind fun y => strAtA C.P m t0 x y
    | _, _ => none
  | _ => none

def evEk (op : Op) : Cx → T AV → Mem → Option (AV × Mem) :=
  match op with
  | .alloc e => fun C _ m => (zeroA C.P e).bind fun z => boxA m e z
  | .box e x => fun C t m => (evOk x C t).bind fun v => boxA m e v
  | .buildSlice ty len parts => fun C t m => (evParts C t parts.toList).bind fun ps => buildSliceA C.P m ty len ps
  | .store ty a x => fun C t m => (evOk a C t).bind fun a => (evOk x C t).bind fun v => unitA (storeA C.P m ty a v)
  | .makeMap _ r => match r with
    | none => fun _ _ m => makeMapA m
    | some _ => fun _ _ _ => none
  | .makeSlice ty l c => fun C t m => (evOk l C t).bind fun l => (evOk c C t).bind fun c => makeSliceA C.P m ty l c
  | .mapUpdate ty x k v => fun C t m => (evOk x C t).bind fun x => (evOk k C t).bind fun k => (evOk v C t).bind fun v => unitA (mapUpdA C.P m ty x k v)
  | .insert ty x k v => fun C t m => (evOk x C t).bind fun x => (evOk k C t).bind fun k => (evOk v C t).bind fun v => unitA (mapUpdA C.P m ty x k v)
  | .convert s d x => fun C t m => (evOk x C t).bind fun v => convBA C.P m s d v
  | .range ty x => fun C t m => (evOk x C t).bind fun v => rangeA C.P m ty v
  | .next x b => fun C t m => (evOk x C t).bind fun v => nextA m v b
  | .entry x => fun C t m => (evOk x C t).bind fun v => entryA m v
  | .call c => callEk c
  | _ => fun _ _ _ => none

theorem evEk_eq (op : Op) (C : Cx) (t : T AV) (m : Mem) : evEk op C t m = evE C t m op := by
  cases op <;> simp only [evEk, evE, evOk_eq]
  case makeMap ty r => cases r <;> rfl
  case call c => rfl
end
end Go.Ev
set_option linter.unusedVariables false
set_option linter.unusedSimpArgs false
namespace Go.Ev
noncomputable section

/- ### Calls -/
/-- What calls answer: of functions; of the yields of loops over functions. -/
structure CallF where
  fn : FuncId → List AV → Mem → Option (AV × Mem)
  yld : Key → List AV → Mem → Option (AV × Mem)

/-- The fence that asks nothing; in a round of the loop 'ro'. -/
def FW (ro : Option Nat) : Fence := { Fence.wide with round := ro }

/-- What is known of a call: it returns, with this value and this memory. -/
def CallOK (G : Nat → Nat) (w0 : World) (P : Program) (f : FuncId) (args : List AV) (m : Mem) (v : AV) (m' : Mem) : Prop :=
  ∀ ρ w xs, denL G ρ args = some xs → RelH G w0 ρ m.h m.n w → Calls P f xs.toArray w fun e w' => ∃ ρ' x, e = .returned x ∧ den G ρ' v = some x ∧ RelH G w0 ρ' m'.h m'.n w' ∧ Fr ρ m.h w ρ' m'.h w'

/-- What is known of a yield: a round is made. -/
def YldOK (G : Nat → Nat) (w0 : World) (P : Program) (p : Key) (args : List AV) (m : Mem) (v : AV) (m' : Mem) : Prop :=
  ∀ ρ w xs b κ, ρ p = some (b, κ) → denL G ρ args = some xs → RelH G w0 ρ m.h m.n w → ∃ f tmps assign body, (Instr.yield b xs.toArray).run P w = .ok (.round b f tmps assign body) w ∧
    RoundIn Fence.wide 0 P b f tmps assign body w fun e w' => ∃ ρ' x, e = .returned x ∧ den G ρ' v = some x ∧ RelH G w0 ρ' m'.h m'.n w' ∧ Fr ρ m.h w ρ' m'.h w'

structure CallsOK (G : Nat → Nat) (w0 : World) (P : Program) (call : CallF) : Prop where
  fn : ∀ f args m v m', call.fn f args m = some (v, m') → CallOK G w0 P f args m v m'
  yld : ∀ p args m v m', call.yld p args m = some (v, m') → YldOK G w0 P p args m v m'

def Ext.sem : Ext → Array Value → Sem Value
  | .same => Extern.AbiNoEscape.same
  | .indexByte => Extern.BytealgIndexByte.indexByte
  | .count => Extern.BytealgCount.count
  | .clone => Extern.MapsClone.clone

structure Cx.Fine (C : Cx) (G : Nat → Nat) (w0 : World) : Prop extends C.Ok G w0 where
  mixed : C.P.follows .mixedOrders = true
  name : ∀ (f : Nat) (fn : Func), C.P.funcs[f]? = some fn → (fn.name == "runtime.NumGoroutine") = false
  extern : ∀ f k, C.ext f = some k → ∀ args w, (callFunc f args).run C.P w = ((k.sem args).run C.P w).andThen fun v w' => .ok (.value v) w'

def idxB (b c : Nat) : Nat → Nat → Option Nat
  | 0, _ => none
  | n + 1, i => bif Nat.beq (Nat.mod b 256) c then some i else idxB (Nat.div b 256) c n (Nat.succ i)

def cntB (c : Nat) : Nat → Nat → Nat → Nat
  | 0, _, k => k
  | n + 1, b, k => bif Nat.beq (Nat.mod b 256) c then fN (Nat.succ k) fun k => cntB c n (Nat.div b 256) k else cntB c n (Nat.div b 256) k

def extA (k : Ext) (args : List AV) : Option AV :=
  match k with
  | .same => match args with
    | [x] => some x
    | _ => none
  | .indexByte => match args with
    | [.str n b, .int .u8 (.ofNat c)] => bif Nat.blt c 256 then (match idxB b c n 0 with
      | some i => fN i fun i => some (.int .i64 (.ofNat i))
      | none => some (.int .i64 (.negSucc 0))) else none
    | _ => none
  | .count => match args with
    | [.str n b, .int .u8 (.ofNat c)] => bif Nat.blt c 256 then fN (cntB c n b 0) fun i => some (.int .i64 (.ofNat i)) else none
    | _ => none
  | .clone => none

theorem idxB_ok (c : Nat) (hc : c < 256) : ∀ (n b i : Nat), idxB b c n i = (match ((List.range n).find? fun j => UInt8.ofNat (b / 256 ^ j) == UInt8.ofNat c) with | some j => some (i + j) | none => none)
  | 0, b, i => rfl
  | n + 1, b, i => by
    simp only [idxB, nbeq]
    rw [List.range_succ_eq_map, List.find?_cons]
    simp only [Nat.pow_zero, Nat.div_one]
    have e : (UInt8.ofNat b == UInt8.ofNat c) = decide (b.mod 256 = c) := by
      rw [Bool.eq_iff_iff, beq_iff_eq, ofNat_eq, decide_eq_true_iff, Nat.mod_eq_of_lt hc]; rfl
    rw [e]
    by_cases h : b.mod 256 = c
    · simp [h]
    · simp only [h, decide_false, cond_false]
      rw [idxB_ok c hc n, List.find?_map]
      have e2 : ((fun j => UInt8.ofNat (b / 256 ^ j) == UInt8.ofNat c) ∘ Nat.succ) = fun j => UInt8.ofNat ((b.div 256) / 256 ^ j) == UInt8.ofNat c := by
        funext j
        simp only [Function.comp]
        have : b / 256 ^ (j.succ) = (b.div 256) / 256 ^ j := by
          show _ = b / 256 / 256 ^ j
          rw [Nat.div_div_eq_div_mul, Nat.pow_succ, Nat.mul_comm]
        rw [this]
      rw [e2]
      cases (List.range n).find? fun j => UInt8.ofNat ((b.div 256) / 256 ^ j) == UInt8.ofNat c with
      | none => rfl
      | some j => simp; omega

theorem cntB_ok (c : Nat) (hc : c < 256) : ∀ (n b k : Nat), cntB c n b k = k + (bytesL n b).count (UInt8.ofNat c)
  | 0, b, k => rfl
  | n + 1, b, k => by
    simp only [cntB, nbeq, fN_eq, bytesL]
    have e : (UInt8.ofNat b == UInt8.ofNat c) = decide (b.mod 256 = c) := by
      rw [Bool.eq_iff_iff, beq_iff_eq, ofNat_eq, decide_eq_true_iff, Nat.mod_eq_of_lt hc]; rfl
    rw [List.count_cons, e]
    by_cases h : b.mod 256 = c
    · simp only [h, decide_true, cond_true, if_true]; rw [cntB_ok c hc n]; show k + 1 + List.count _ (bytesL n (b / 256)) = _; omega
    · simp only [h, decide_false, cond_false, Bool.false_eq_true, if_false]; rw [cntB_ok c hc n]; rfl

theorem toUInt8_ofNat (c : Nat) : (Int.toNat (Int.ofNat c)).toUInt8 = UInt8.ofNat c := rfl

theorem extA_ok {P : Program} {G : Nat → Nat} {ρ : Env} {k : Ext} {args : List AV} {v : AV} {xs : List Value} (h : extA k args = some v) (d : denL G ρ args = some xs) (w : World) :
    ∃ x, (k.sem xs.toArray).run P w = .ok x w ∧ den G ρ v = some x := by
  cases k with
  | clone => simp [extA] at h
  | same =>
    simp only [extA] at h
    split at h
    · simp at h; subst h
      obtain ⟨x, ys, d1, d2, rfl⟩ := denL_cons.1 d
      simp [denL] at d2; subst d2
      exact ⟨x, rfl, d1⟩
    · cases h
  | indexByte =>
    simp only [extA] at h
    split at h
    · rename_i n b c
      obtain ⟨hc, h⟩ := cond_some h
      rw [nblt, decide_eq_true_iff] at hc
      obtain ⟨x, ys, d1, d2, rfl⟩ := denL_cons.1 d
      obtain ⟨y, zs, d3, d4, rfl⟩ := denL_cons.1 d2
      simp [denL] at d4; subst d4
      simp only [den, Option.some.injEq] at d1 d3; subst d1 d3
      refine ⟨_, run_indexByte_string (P := P) (mkB n b) (Int.ofNat c) w, ?_⟩
      rw [toUInt8_ofNat]
      unfold firstIdx
      rw [size_mkB]
      have e : (List.range n).find? (fun i => (mkB n b)[i]! == UInt8.ofNat c) = (List.range n).find? (fun j => UInt8.ofNat (b / 256 ^ j) == UInt8.ofNat c) := by
        have : ∀ l : List Nat, (∀ i ∈ l, i < n) → l.find? (fun i => (mkB n b)[i]! == UInt8.ofNat c) = l.find? (fun j => UInt8.ofNat (b / 256 ^ j) == UInt8.ofNat c) := fun l => by
          induction l with
          | nil => intro _; rfl
          | cons a l ih =>
            intro hl
            have ha : a < n := hl a (by simp)
            have e1 : (mkB n b)[a]! = UInt8.ofNat (b / 256 ^ a) := by
              have h1 := mkB_get? n b a ha
              rw [getElem!_def, h1]
            rw [List.find?_cons, List.find?_cons, e1, ih fun i hi => hl i (by simp [hi])]
        exact this _ fun i hi => List.mem_range.1 hi
      rw [e]
      have hi := idxB_ok c hc n b 0
      rw [hi] at h
      cases hf : (List.range n).find? fun j => UInt8.ofNat (b / 256 ^ j) == UInt8.ofNat c with
      | none => simp only [hf, Option.some.injEq] at h; subst h; rfl
      | some j => simp only [hf, fN_eq, Nat.zero_add, Option.some.injEq] at h; subst h; rfl
    · cases h
  | count =>
    simp only [extA] at h
    split at h
    · rename_i n b c
      obtain ⟨hc, h⟩ := cond_some h
      rw [nblt, decide_eq_true_iff] at hc
      obtain ⟨x, ys, d1, d2, rfl⟩ := denL_cons.1 d
      obtain ⟨y, zs, d3, d4, rfl⟩ := denL_cons.1 d2
      simp [denL] at d4; subst d4
      simp only [den, Option.some.injEq] at d1 d3; subst d1 d3
      simp only [fN_eq, Option.some.injEq] at h; subst h
      refine ⟨_, Lib.run_countString (P := P) (mkB n b) (Int.ofNat c) w, ?_⟩
      rw [toUInt8_ofNat, cntB_ok c hc]
      simp [den, Lib.countByte, mkB]
    · cases h

def fnOf (P : Program) (f : FuncId) : Option (Func × Code) :=
  match nth P.funcs.toList f with
  | some fn => match fn.body with
    | some c => some (fn, c)
    | none => none
  | none => none

theorem fnOf_ok {P : Program} {f : FuncId} {fn : Func} {c : Code} (h : fnOf P f = some (fn, c)) : P.funcs[f]? = some fn ∧ fn.body = some c := by
  unfold fnOf at h
  rw [nth_eq] at h
  cases hf : P.funcs.toList[f]? with
  | none => simp [hf] at h
  | some g =>
    cases hb : g.body with
    | none => simp [hf, hb] at h
    | some d => simp [hf, hb] at h; obtain ⟨rfl, rfl⟩ := h; exact ⟨by rw [← Array.getElem?_toList]; exact hf, hb⟩

/-- A function is called. -/
def cloneA (args : List AV) (m : Mem) : Option (AV × Mem) :=
  match args with
  | [.iface t (.map p)] => match T.get p m.h with
    | some (.map es clk) => (newA m (.map es clk)).bind fun r => some (.iface t (.map r.1), r.2)
    | _ => none
  | _ => none

def extM (k : Ext) (args : List AV) (m : Mem) : Option (AV × Mem) :=
  match k with
  | .clone => cloneA args m
  | _ => (extA k args).bind fun v => some (v, m)

theorem clone_ok {P : Program} {G : Nat → Nat} {w0 : World} {ρ : Env} {args : List AV} {m m' : Mem} {v : AV} {xs : List Value} {w : World} (r : RelH G w0 ρ m.h m.n w) (h : cloneA args m = some (v, m')) (d : denL G ρ args = some xs) :
    Does G w0 P (Extern.MapsClone.clone xs.toArray) ρ m w v m' := by
  unfold cloneA at h
  split at h
  · rename_i t p
    obtain ⟨x, ys, d1, d2, rfl⟩ := denL_cons.1 d
    simp only [denL, Option.some.injEq] at d2; subst d2
    split at h
    · rename_i es clk hp
      obtain ⟨b, κ, X, h1, h2, h3, l, h4, h5⟩ := r.obj p _ hp
      subst h4
      obtain ⟨⟨q, m1⟩, hr, h⟩ := bind_some h
      simp only [Option.some.injEq, Prod.mk.injEq] at h
      obtain ⟨rfl, rfl⟩ := h
      have hle := Env.le_add (x := (w.heap.size, 0)) (r.fresh m.n (Nat.le_refl _))
      obtain ⟨q1, q2, q3⟩ := newA_ok (κ := 0) r hr (x := .map l.toArray clk) (ObjOK.mono (κ := 0) (o := .map es clk) hle ⟨l, rfl, h5⟩)
      simp only [den, h1, Option.map_some, Option.some.injEq] at d1
      subst d1
      refine ⟨_, _, .iface t (.map (some w.heap.size)), ?_, by simp [den, q1], q2, q3⟩
      have hg : (getObj b).run P w = .ok (.map l.toArray clk) w := by simp [getObj, Sem.run, h2]
      have e : Extern.MapsClone.clone [Value.iface t (.map (some b))].toArray = (getObj b >>= fun o => match o with
        | .map entries clock => (do pure (.iface t (.map (some (← newObj (.map entries clock))))))
        | _ => stuck "maps.clone: a map expected") := rfl
      rw [e]
      simp only [Sem.run_bind, hg, Result.andThen_ok, newObj, Sem.run, Sem.run_pure]
      rfl
    · cases h
  · cases h

theorem extM_ok {P : Program} {G : Nat → Nat} {w0 : World} {ρ : Env} {k : Ext} {args : List AV} {m m' : Mem} {v : AV} {xs : List Value} {w : World} (r : RelH G w0 ρ m.h m.n w) (h : extM k args m = some (v, m')) (d : denL G ρ args = some xs) :
    Does G w0 P (k.sem xs.toArray) ρ m w v m' := by
  have plain : (extA k args).bind (fun v => some (v, m)) = some (v, m') → Does G w0 P (k.sem xs.toArray) ρ m w v m' := fun h => by
    obtain ⟨u, h5, h6⟩ := bind_some h
    simp only [Option.some.injEq, Prod.mk.injEq] at h6
    obtain ⟨rfl, rfl⟩ := h6
    obtain ⟨x, g1, g2⟩ := extA_ok (P := P) h5 d w
    exact ⟨ρ, w, x, g1, g2, r, Fr.refl _ _ _⟩
  cases k
  case clone => exact clone_ok r h d
  all_goals exact plain h

def callA (C : Cx) (call : CallF) (f : FuncId) (args : List AV) (m : Mem) : Option (AV × Mem) :=
  match C.ext f with
  | some k => extM k args m
  | none => match fnOf C.P f with
    | some _ => call.fn f args m
    | none => none

def isCall (op : Op) : Option Call :=
  match op with
  | .call c => match c.callee with
    | .value _ => some c
    | _ => none
  | _ => none

/-- Any operation. -/
def evOp (C : Cx) (call : CallF) (t : T AV) (m : Mem) (op : Op) : Option (AV × Mem) :=
  match isCall op with
  | some c => match c.callee with
    | .value f => (evO C t f).bind fun fv => (evOs C t c.args.toList).bind fun args => match fv with
      | .fn g first cap => fL (first ++ (args ++ cap)) fun args => callA C call g args m
      | .yld p => call.yld p args m
      | _ => none
    | _ => none
  | none => match evPk op C t m.h with
    | some v => some (v, m)
    | none => evEk op C t m

theorem evOp_def (C : Cx) (call : CallF) (t : T AV) (m : Mem) (op : Op) : evOp C call t m op = match isCall op with
  | some c => match c.callee with
    | .value f => (evO C t f).bind fun fv => (evOs C t c.args.toList).bind fun args => match fv with
      | .fn g first cap => fL (first ++ (args ++ cap)) fun args => callA C call g args m
      | .yld p => call.yld p args m
      | _ => none
    | _ => none
  | none => match evP C t m.h op with
    | some v => some (v, m)
    | none => evE C t m op := by
  unfold evOp
  rw [evPk_eq, evEk_eq]
end
end Go.Ev
set_option linter.unusedVariables false
set_option linter.unusedSimpArgs false
namespace Go.Ev
noncomputable section

theorem RelT.mono {G : Nat → Nat} {ρ ρ' : Env} {t : T AV} {nt : Nat} {a : Act} (r : RelT G ρ t nt a) (h : ρ.le ρ') : RelT G ρ' t nt a := ⟨fun i v hi e => den_mono h (r.get i v hi e), r.size⟩

def putT (nt : Nat) (t : T AV) (dst : Option Tmp) (v : AV) : Option (T AV) :=
  match dst with
  | none => some t
  | some d => bif Nat.blt d nt then T.putK (Key.slot d) (some v) t some else none

theorem putT_ok {G : Nat → Nat} {ρ : Env} {t t' : T AV} {nt : Nat} {a : Act} (hnt : nt ≤ 1000000) (r : RelT G ρ t nt a) {dst : Option Tmp} {v : AV} {x : Value} (h : putT nt t dst v = some t') (d : den G ρ v = some x) :
    RelT G ρ t' nt (a.put dst x) := by
  cases dst with
  | none => simp [putT] at h; subst h; exact r
  | some k =>
    simp only [putT] at h
    obtain ⟨hk, h⟩ := cond_some h
    rw [nblt, decide_eq_true_iff] at hk
    simp only [T.putK_eq, Option.some.injEq] at h; subst h
    have hsz := r.size
    refine ⟨fun i u hi e => ?_, by simpa [Act.put] using r.size⟩
    rw [T.get_put] at e
    by_cases c : Key.slot i = Key.slot k
    · rw [if_pos c] at e
      obtain rfl := Key.slot_inj hi (by omega) c
      simp at e; subst e
      rw [d]
      simp [Act.put, Nat.lt_of_lt_of_le hk hsz]
    · rw [if_neg c] at e
      have hne : k ≠ i := fun e => c (by rw [e])
      rw [r.get i u hi e]
      simp [Act.put, Array.getElem?_setIfInBounds_ne hne]

def wantA (ops : List Oper) (t : T AV) (g : Option (Nat × Bool)) : Option Bool :=
  match g with
  | none => some true
  | some (j, b) => match nth ops j with
    | some o => match o.dst with
      | some d => bif Nat.blt d 1000000 then (match T.get (Key.slot d) t with
        | some (.bool c) => fB (bif b then c else !c) some
        | some (.tup []) => some false
        | _ => none) else none
      | none => none
    | none => none

theorem wantA_ok {G : Nat → Nat} {ρ : Env} {t : T AV} {nt : Nat} {a : Act} (r : RelT G ρ t nt a) (hs : nt ≤ a.tmps.size) {ops : Array Oper} {o : Oper} {b : Bool} (h : wantA ops.toList t o.guard = some b) : Region.wanted o (yielded ops a.tmps) = b := by
  unfold Region.wanted
  cases hg : o.guard with
  | none => simp [hg, wantA] at h; subst h; rfl
  | some jb =>
    obtain ⟨j, w⟩ := jb
    show (yielded ops a.tmps j == some w) = b
    simp only [hg, wantA, nth_eq] at h
    cases ho : ops.toList[j]? with
    | none => simp [ho] at h
    | some oj =>
      cases hd : oj.dst with
      | none => simp [ho, hd] at h
      | some d =>
        simp only [ho, hd] at h
        obtain ⟨hl, h⟩ := cond_some h
        rw [nblt, decide_eq_true_iff] at hl
        have ho' : ops[j]? = some oj := by rw [← Array.getElem?_toList]; exact ho
        cases hv : T.get (Key.slot d) t with
        | none => simp [hv] at h
        | some v =>
          have dv := r.get d v hl hv
          have hy : ∀ x, a.tmps.getD d undef = x → (∀ c, x ≠ .bool c) → yielded ops a.tmps j = none := fun x hx hn => by
            unfold yielded
            simp only [ho', Option.bind_some, hd]
            cases hh : a.tmps[d]? with
            | none => rfl
            | some z =>
              have : a.tmps.getD d undef = z := by simp [hh]
              rw [this] at hx; subst hx
              cases z <;> first | rfl | exact absurd rfl (hn _)
          cases v <;> simp only [hv, reduceCtorEq] at h
          case bool c =>
            simp only [fB_eq, Option.some.injEq] at h
            simp only [den, Option.some.injEq] at dv
            have : yielded ops a.tmps j = some c := by
              unfold yielded
              simp only [ho', Option.bind_some, hd]
              cases hh : a.tmps[d]? with
              | none =>
                have : a.tmps.getD d undef = undef := by simp [hh]
                rw [this] at dv; cases dv
              | some z =>
                have : a.tmps.getD d undef = z := by simp [hh]
                rw [this] at dv; subst dv; rfl
            rw [this, ← h]
            cases w <;> cases c <;> rfl
          case tup l =>
            cases l with
            | cons _ _ => simp at h
            | nil =>
              simp only [Option.some.injEq] at h; subst h
              simp only [den, denL, Option.some.injEq] at dv
              rw [hy _ rfl (by rw [← dv]; simp)]
              rfl

theorem isCall_some {op : Op} {c : Call} (h : isCall op = some c) : op = .call c ∧ ∃ f, c.callee = .value f := by
  cases op <;> simp only [isCall, reduceCtorEq] at h
  rename_i d
  split at h
  · rename_i f hf
    simp at h; subst h
    exact ⟨rfl, f, hf⟩
  · cases h

/-- One operation, in the walk's words. -/
theorem evOp_wp0 {C : Cx} {G : Nat → Nat} {w0 : World} (ok : C.Fine G w0) {call : CallF} (hc : CallsOK G w0 C.P call) (hy : ∀ p a m, call.yld p a m = none) {ρ : Env} {t : T AV} {nt : Nat} {a : Act} (rt : RelT G ρ t nt a) {m m' : Mem} {w : World} (r : RelH G w0 ρ m.h m.n w)
    {o : Oper} {v : AV} (e : evOp C call t m o.op = some (v, m')) {next : Act → World → Prop} {Q : Exit → Act → World → Prop}
    (k : ∀ ρ' w' x, den G ρ' v = some x → RelH G w0 ρ' m'.h m'.n w' → Fr ρ m.h w ρ' m'.h w' → next (a.put o.dst x) w') : o.wp C.P a w next Q := by
  unfold Oper.wp
  rw [evOp_def] at e
  cases hi : isCall o.op with
  | none =>
    simp only [hi] at e
    cases hp : evP C t m.h o.op with
    | some u =>
      simp only [hp, Option.some.injEq, Prod.mk.injEq] at e
      obtain ⟨rfl, rfl⟩ := e
      obtain ⟨x, h1, h2⟩ := evP_ok ok.toOk rt r hp
      rw [h1]
      exact k ρ w x h2 r (Fr.refl _ _ _)
    | none =>
      simp only [hp] at e
      obtain ⟨ρ', w', nx, x, h1, h2, h3, h4, h5⟩ := evE_ok ok.toOk rt r e
      rw [h1]
      rcases h2 with rfl | ⟨rfl, rfl⟩
      · exact k ρ' w' x h3 h4 h5
      · exact k ρ' w' undef h3 h4 h5
  | some c =>
    obtain ⟨ho, f, hf⟩ := isCall_some hi
    simp only [hi, hf] at e
    obtain ⟨fv, h1, h2⟩ := bind_some e
    obtain ⟨args, h3, h4⟩ := bind_some h2
    cases fv <;> simp only [reduceCtorEq, hy] at h4
    rename_i g first cap
    simp only [fL_eq] at h4
    have df := evO_ok ok.toOk rt h1
    obtain ⟨xs, ys, d1, d2, ef⟩ := den_fn df
    have da := evOs_ok ok.toOk rt h3
    have dall := denL_append d1 (denL_append da d2)
    have hres : (execOp a.eval o).run C.P w = (callFunc g (xs ++ (c.args.toList.map a.eval ++ ys)).toArray).run C.P w := by
      obtain ⟨dst, op, type, pos, after, guard⟩ := o
      simp only at ho; subst ho
      obtain ⟨callee, cargs, ats⟩ := c
      simp only at hf; subst hf
      simp only [execOp, resolve, ef, Deferred.ofValue, Sem.run_bind, Sem.run_pure, Result.andThen_ok, invoke]
      congr 2
      apply Array.ext'
      simp
    rw [hres]
    unfold callA at h4
    cases hx : C.ext g with
    | some q =>
      simp only [hx] at h4
      obtain ⟨ρ', w', x, g1, g2, g3, g4⟩ := extM_ok (P := C.P) r h4 dall
      rw [ok.extern g q hx, g1]
      exact k ρ' w' x g2 g3 g4
    | none =>
      simp only [hx] at h4
      cases hfn : fnOf C.P g with
      | none => simp [hfn] at h4
      | some fc =>
        obtain ⟨fn, cd⟩ := fc
        simp only [hfn] at h4
        obtain ⟨g1, g2⟩ := fnOf_ok hfn
        have hname : fn.name ≠ "runtime.NumGoroutine" := by simpa using ok.name g fn g1
        have henter : (callFunc g (xs ++ (c.args.toList.map a.eval ++ ys)).toArray).run C.P w = .ok (.enter g (xs ++ (c.args.toList.map a.eval ++ ys)).toArray) w := by
          simp [callFunc, g1, hname, g2]
        rw [henter]
        refine (hc.fn g _ m v m' h4 ρ w _ dall r).mono fun e w' ⟨ρ', x, he, hd, hr, hfr⟩ => ?_
        subst he
        exact k ρ' w' x hd hr hfr


theorem rowsIn_FW {ro : Option Nat} {P : Program} {row : String} {args : Array Value} {w : World} {R : Value → World → Prop} (h : Rows P row args w R) : RowsIn (FW ro) 0 P row args w R :=
  fun c cs _ => let ⟨v, w', r, s⟩ := h c cs; ⟨v, w', r, stepsIn_wide.2 s⟩

theorem uponIn_of_upon {ro : Option Nat} {P : Program} {o : Oper} {a : Act} {next : Act → World → Prop} {Q : Exit → Act → World → Prop} {r : Result Next} (h : o.upon P a next Q r) : o.uponIn (FW ro) 0 P a next Q r := by
  unfold Oper.upon at h
  split at h
  · exact h
  · exact h
  · exact h
  · exact ⟨fun hh => (by simp [FW, Fence.wide] at hh), callsIn_wide.2 h⟩
  · exact ⟨fun hh => (by simp [FW, Fence.wide] at hh), rowsIn_FW h⟩
  · exact h
  · exact h.elim

theorem wpIn_of_wp {ro : Option Nat} {P : Program} {o : Oper} {a : Act} {w : World} {next : Act → World → Prop} {Q : Exit → Act → World → Prop} (hd : ∀ c, o.op ≠ .defer c) (h : o.wp P a w next Q) : o.wpIn (FW ro) 0 P a w next Q :=
  ⟨fun _ _ => trivial, by rw [Oper.semAt_eq _ _ _ hd]; exact uponIn_of_upon h⟩

def noY (call : CallF) : CallF := ⟨call.fn, fun _ _ _ => none⟩

theorem evOp_cases {C : Cx} {call : CallF} {t : T AV} {m : Mem} {op : Op} {v : AV} {m' : Mem} (h : evOp C call t m op = some (v, m')) :
    evOp C (noY call) t m op = some (v, m') ∨ ∃ c f p args, isCall op = some c ∧ c.callee = .value f ∧ evO C t f = some (.yld p) ∧ evOs C t c.args.toList = some args ∧ call.yld p args m = some (v, m') := by
  rw [evOp_def] at h ⊢
  cases hi : isCall op with
  | none => left; simp only [hi] at h; exact h
  | some c =>
    obtain ⟨ho, f, hf⟩ := isCall_some hi
    simp only [hi, hf] at h ⊢
    obtain ⟨fv, h1, h2⟩ := bind_some h
    obtain ⟨args, h3, h4⟩ := bind_some h2
    cases fv <;> simp only [reduceCtorEq] at h4
    case fn g first cap =>
      left
      simp only [h1, h3, Option.bind_some]
      exact h4
    case yld p => exact .inr ⟨c, f, p, args, rfl, hf, h1, h3, h4⟩

theorem den_yld {G : Nat → Nat} {ρ : Env} {p : Key} {x : Value} (h : den G ρ (.yld p) = some x) : ∃ b κ, ρ p = some (b, κ) ∧ x = .func (.yield b) #[] #[] := by
  simp only [den] at h
  cases hp : ρ p with
  | none => simp [hp] at h
  | some q => obtain ⟨b, κ⟩ := q; simp [hp] at h; exact ⟨b, κ, rfl, h.symm⟩

theorem evOp_nd {C : Cx} {call : CallF} {t : T AV} {m : Mem} {op : Op} {r : AV × Mem} (h : evOp C call t m op = some r) : ∀ c, op ≠ .defer c := fun c hc => by
  subst hc
  rw [evOp_def] at h
  simp [isCall, evP, evE] at h

theorem CallsOK.noY {G : Nat → Nat} {w0 : World} {P : Program} {call : CallF} (h : CallsOK G w0 P call) : CallsOK G w0 P (Go.Ev.noY call) := ⟨h.fn, fun p args m v m' e => by cases e⟩

/-- One operation, in the walk's words. -/
theorem evOp_wp {C : Cx} {G : Nat → Nat} {w0 : World} (ok : C.Fine G w0) {call : CallF} (hc : CallsOK G w0 C.P call) {ρ : Env} {t : T AV} {nt : Nat} {a : Act} (rt : RelT G ρ t nt a) {m m' : Mem} {w : World} (r : RelH G w0 ρ m.h m.n w)
    {o : Oper} {v : AV} (e : evOp C call t m o.op = some (v, m')) {ro : Option Nat} {next : Act → World → Prop} {Q : Exit → Act → World → Prop}
    (k : ∀ ρ' w' x, den G ρ' v = some x → RelH G w0 ρ' m'.h m'.n w' → Fr ρ m.h w ρ' m'.h w' → next (a.put o.dst x) w') : o.wpIn (FW ro) 0 C.P a w next Q := by
  rcases evOp_cases e with e' | ⟨c, f, p, args, hi, hf, h1, h3, h4⟩
  · exact wpIn_of_wp (evOp_nd e) (evOp_wp0 ok hc.noY (fun _ _ _ => rfl) rt r e' k)
  · obtain ⟨b, κ, hb, ef⟩ := den_yld (evO_ok ok.toOk rt h1)
    have da := evOs_ok ok.toOk rt h3
    obtain ⟨fn, tmps, as, bd, g1, g2⟩ := hc.yld p args m v m' h4 ρ w _ b κ hb da r
    refine ⟨fun _ _ => trivial, ?_⟩
    rw [Oper.semAt_eq _ _ _ (evOp_nd e)]
    have ho := (isCall_some hi).1
    have hres : (execOp a.eval o).run C.P w = (Instr.yield b (c.args.toList.map a.eval).toArray).run C.P w := by
      obtain ⟨dst, op, type, pos, after, guard⟩ := o
      simp only at ho; subst ho
      obtain ⟨callee, cargs, ats⟩ := c
      simp only at hf; subst hf
      simp only [execOp, resolve, ef, Deferred.ofValue, Sem.run_bind, Sem.run_pure, Result.andThen_ok, invoke]
      congr 2
      apply Array.ext'
      simp
    rw [hres, g1]
    refine ⟨fun hh => (by simp [FW, Fence.wide] at hh), ?_⟩
    refine RoundIn.mono (F := Fence.wide) (n := 0) g2 fun e w' ⟨ρ', x, he, hd, hr, hfr⟩ => ?_
    subst he
    exact k ρ' w' x hd hr hfr

/- ### Calls that may panic -/
structure CallX where
  fn : FuncId → List AV → Mem → Option (Bool × AV × Mem)
  yld : Key → List AV → Mem → Option (AV × Mem)

def retOf : Option (Bool × AV × Mem) → Option (AV × Mem)
  | some (true, v, m) => some (v, m)
  | _ => none

def retX (X : CallX) : CallF := ⟨fun f args m => retOf (X.fn f args m), X.yld⟩

/-- A chain of panics of one entry. -/
def one (x : Value) : List PanicEntry := [{ v := x, recovered := false }]

/-- What is known of a call that panics. -/
def PanOK (G : Nat → Nat) (w0 : World) (P : Program) (f : FuncId) (args : List AV) (m : Mem) (v : AV) (m' : Mem) : Prop :=
  ∀ ρ w xs, denL G ρ args = some xs → RelH G w0 ρ m.h m.n w → Calls P f xs.toArray w fun e w' => ∃ ρ' x, e = .panicked (one x) ∧ den G ρ' v = some x ∧ RelH G w0 ρ' m'.h m'.n w' ∧ Fr ρ m.h w ρ' m'.h w'

structure XOK (G : Nat → Nat) (w0 : World) (P : Program) (X : CallX) : Prop where
  ret : ∀ f args m v m', X.fn f args m = some (true, v, m') → CallOK G w0 P f args m v m'
  pan : ∀ f args m v m', X.fn f args m = some (false, v, m') → PanOK G w0 P f args m v m'
  yld : ∀ p args m v m', X.yld p args m = some (v, m') → YldOK G w0 P p args m v m'

theorem retOf_some {r : Option (Bool × AV × Mem)} {v : AV} {m : Mem} (h : retOf r = some (v, m)) : r = some (true, v, m) := by
  match r, h with
  | some (true, u, k), h => simp only [retOf, Option.some.injEq, Prod.mk.injEq] at h; obtain ⟨rfl, rfl⟩ := h; rfl
  | some (false, u, k), h => simp [retOf] at h
  | none, h => simp [retOf] at h

theorem XOK.calls {G : Nat → Nat} {w0 : World} {P : Program} {X : CallX} (h : XOK G w0 P X) : CallsOK G w0 P (retX X) := ⟨fun f args m v m' e => h.ret f args m v m' (retOf_some e), h.yld⟩

def callX (C : Cx) (X : CallX) (f : FuncId) (args : List AV) (m : Mem) : Option (Bool × AV × Mem) :=
  match C.ext f with
  | some k => match extM k args m with
    | some (v, m) => some (true, v, m)
    | none => none
  | none => match fnOf C.P f with
    | some _ => X.fn f args m
    | none => none

def panA (C : Cx) (t : T AV) (m : Mem) (op : Op) : Option (Bool × AV × Mem) :=
  match op with
  | .panic x => match evO C t x with
    | some (.iface ty v) => some (false, .iface ty v, m)
    | _ => none
  | _ => none

/-- Any operation, a panic too. -/
def evOpX (C : Cx) (X : CallX) (t : T AV) (m : Mem) (op : Op) : Option (Bool × AV × Mem) :=
  match isCall op with
  | some c => match c.callee with
    | .value f => (evO C t f).bind fun fv => (evOs C t c.args.toList).bind fun args => match fv with
      | .fn g first cap => fL (first ++ (args ++ cap)) fun args => callX C X g args m
      | .yld p => match X.yld p args m with
        | some (v, m) => some (true, v, m)
        | none => none
      | _ => none
    | _ => none
  | none => match evPk op C t m.h with
    | some v => some (true, v, m)
    | none => match evEk op C t m with
      | some (v, m) => some (true, v, m)
      | none => panA C t m op

theorem evOpX_def (C : Cx) (X : CallX) (t : T AV) (m : Mem) (op : Op) : evOpX C X t m op = match isCall op with
  | some c => match c.callee with
    | .value f => (evO C t f).bind fun fv => (evOs C t c.args.toList).bind fun args => match fv with
      | .fn g first cap => fL (first ++ (args ++ cap)) fun args => callX C X g args m
      | .yld p => match X.yld p args m with
        | some (v, m) => some (true, v, m)
        | none => none
      | _ => none
    | _ => none
  | none => match evP C t m.h op with
    | some v => some (true, v, m)
    | none => match evE C t m op with
      | some (v, m) => some (true, v, m)
      | none => panA C t m op := by
  unfold evOpX
  rw [evPk_eq, evEk_eq]

theorem callX_ret {C : Cx} {X : CallX} {f : FuncId} {args : List AV} {m m' : Mem} {v : AV} (h : callX C X f args m = some (true, v, m')) : callA C (retX X) f args m = some (v, m') := by
  unfold callX at h
  unfold callA
  cases he : C.ext f with
  | some k =>
    simp only [he] at h
    cases hk : extM k args m with
    | none => simp [hk] at h
    | some r => obtain ⟨u, q⟩ := r; simp only [hk, Option.some.injEq, Prod.mk.injEq, true_and] at h; obtain ⟨rfl, rfl⟩ := h; exact hk
  | none =>
    simp only [he] at h
    cases hf : fnOf C.P f with
    | none => simp [hf] at h
    | some r => simp only [hf] at h; simp only [retX, h, retOf]

theorem evOpX_ret {C : Cx} {X : CallX} {t : T AV} {m m' : Mem} {op : Op} {v : AV} (h : evOpX C X t m op = some (true, v, m')) : evOp C (retX X) t m op = some (v, m') := by
  rw [evOpX_def] at h
  rw [evOp_def]
  cases hi : isCall op with
  | some c =>
    simp only [hi] at h
    obtain ⟨ho, f, hf⟩ := isCall_some hi
    simp only [hf] at h ⊢
    obtain ⟨fv, h1, h2⟩ := bind_some h
    obtain ⟨args, h3, h4⟩ := bind_some h2
    simp only [h1, h3, Option.bind_some]
    cases fv <;> simp only [reduceCtorEq] at h4
    case fn g first cap =>
      simp only [fL_eq] at h4 ⊢
      exact callX_ret h4
    case yld p =>
      show X.yld p args m = some (v, m')
      cases hy : X.yld p args m with
      | none => simp [hy] at h4
      | some q => obtain ⟨u, q⟩ := q; simp only [hy, Option.some.injEq, Prod.mk.injEq, true_and] at h4; obtain ⟨rfl, rfl⟩ := h4; rfl
  | none =>
    simp only [hi] at h
    cases hp : evP C t m.h op with
    | some u => simp only [hp, Option.some.injEq, Prod.mk.injEq, true_and] at h; obtain ⟨rfl, rfl⟩ := h; rfl
    | none =>
      simp only [hp] at h
      cases he : evE C t m op with
      | some r => obtain ⟨u, q⟩ := r; simp only [he, Option.some.injEq, Prod.mk.injEq, true_and] at h; obtain ⟨rfl, rfl⟩ := h; rfl
      | none =>
        simp only [he] at h
        unfold panA at h
        split at h
        · split at h <;> simp at h
        · simp at h

theorem evOpX_pan {C : Cx} {G : Nat → Nat} {w0 : World} (ok : C.Fine G w0) {X : CallX} (hX : XOK G w0 C.P X) {ρ : Env} {t : T AV} {nt : Nat} {a : Act} (rt : RelT G ρ t nt a) {m m' : Mem} {w : World} (r : RelH G w0 ρ m.h m.n w)
    {o : Oper} {v : AV} (e : evOpX C X t m o.op = some (false, v, m')) {next : Act → World → Prop} {Q : Exit → Act → World → Prop}
    (k : ∀ ρ' w' x, den G ρ' v = some x → RelH G w0 ρ' m'.h m'.n w' → Fr ρ m.h w ρ' m'.h w' → Q (.panic (one x)) a w') : o.wp C.P a w next Q := by
  unfold Oper.wp
  rw [evOpX_def] at e
  cases hi : isCall o.op with
  | none =>
    simp only [hi] at e
    cases hp : evP C t m.h o.op with
    | some u => simp [hp] at e
    | none =>
      simp only [hp] at e
      cases he : evE C t m o.op with
      | some q => obtain ⟨u, q⟩ := q; simp [he] at e
      | none =>
        simp only [he] at e
        unfold panA at e
        split at e
        · rename_i x hop
          split at e
          · rename_i ty u hx
            simp only [Option.some.injEq, Prod.mk.injEq, true_and] at e
            obtain ⟨rfl, rfl⟩ := e
            have dx := evO_ok ok.toOk rt hx
            obtain ⟨y, hy, hv⟩ : ∃ y, den G ρ u = some y ∧ a.eval x = .iface ty y := by
              simp only [den] at dx
              cases hu : den G ρ u with
              | none => simp [hu] at dx
              | some y => simp [hu] at dx; exact ⟨y, rfl, dx.symm⟩
            have hres : (execOp a.eval o).run C.P w = .halt (.panic (.iface ty y)) w := by
              obtain ⟨dst, op, type, pos, after, guard⟩ := o
              simp only at hop; subst hop
              simp only [execOp, hv, Instr.panic, Sem.run_bind, run_goPanic]
              rfl
            rw [hres]
            exact k ρ w _ (by rw [← hv]; exact dx) r (Fr.refl _ _ _)
          · simp at e
        · simp at e
  | some c =>
    obtain ⟨ho, f, hf⟩ := isCall_some hi
    simp only [hi, hf] at e
    obtain ⟨fv, h1, h2⟩ := bind_some e
    obtain ⟨args, h3, h4⟩ := bind_some h2
    have hfv : ∃ g first cap, fv = .fn g first cap := by
      cases fv <;> simp only [reduceCtorEq] at h4
      case fn g first cap => exact ⟨g, first, cap, rfl⟩
      case yld p =>
        cases hy : X.yld p args m with
        | none => simp [hy] at h4
        | some q => obtain ⟨u, q⟩ := q; simp [hy] at h4
    obtain ⟨g, first, cap, rfl⟩ := hfv
    simp only [fL_eq] at h4
    have df := evO_ok ok.toOk rt h1
    obtain ⟨xs, ys, d1, d2, ef⟩ := den_fn df
    have da := evOs_ok ok.toOk rt h3
    have dall := denL_append d1 (denL_append da d2)
    have hres : (execOp a.eval o).run C.P w = (callFunc g (xs ++ (c.args.toList.map a.eval ++ ys)).toArray).run C.P w := by
      obtain ⟨dst, op, type, pos, after, guard⟩ := o
      simp only at ho; subst ho
      obtain ⟨callee, cargs, ats⟩ := c
      simp only at hf; subst hf
      simp only [execOp, resolve, ef, Deferred.ofValue, Sem.run_bind, Sem.run_pure, Result.andThen_ok, invoke]
      congr 2
      apply Array.ext'
      simp
    rw [hres]
    unfold callX at h4
    cases hx : C.ext g with
    | some q =>
      simp only [hx] at h4
      cases hk : extM q (first ++ (args ++ cap)) m with
      | none => simp [hk] at h4
      | some q2 => obtain ⟨u, q3⟩ := q2; simp [hk] at h4
    | none =>
      simp only [hx] at h4
      cases hfn : fnOf C.P g with
      | none => simp [hfn] at h4
      | some fc =>
        obtain ⟨fn, cd⟩ := fc
        simp only [hfn] at h4
        obtain ⟨g1, g2⟩ := fnOf_ok hfn
        have hname : fn.name ≠ "runtime.NumGoroutine" := by simpa using ok.name g fn g1
        have henter : (callFunc g (xs ++ (c.args.toList.map a.eval ++ ys)).toArray).run C.P w = .ok (.enter g (xs ++ (c.args.toList.map a.eval ++ ys)).toArray) w := by
          simp [callFunc, g1, hname, g2]
        rw [henter]
        refine (hX.pan g _ m v m' h4 ρ w _ dall r).mono fun e w' ⟨ρ', x, he, hd, hr, hfr⟩ => ?_
        subst he
        exact k ρ' w' x hd hr hfr

theorem evOpX_nd {C : Cx} {X : CallX} {t : T AV} {m : Mem} {op : Op} {r : Bool × AV × Mem} (h : evOpX C X t m op = some r) : ∀ c, op ≠ .defer c := fun c hc => by
  subst hc
  rw [evOpX_def] at h
  simp [isCall, evP, evE, panA] at h

/- ### Deferred calls -/
inductive DefL (P : Program) (G : Nat → Nat) (ρ : Env) : List AV → List Deferred → Prop where
  | nil : DefL P G ρ [] []
  | cons {g : FuncId} {args cap : List AV} {xs ys : List Value} {l : List AV} {ds : List Deferred} (h1 : denL G ρ args = some xs) (h2 : denL G ρ cap = some ys) (h : DefL P G ρ l ds) :
    DefL P G ρ (.fn g args cap :: l) ({ target := .fn (.func g) ys.toArray, args := xs.toArray } :: ds)
  | mark {p : Key} {b κ : Nat} {l : List AV} {ds : List Deferred} (h1 : ρ p = some (b, κ)) (h : DefL P G ρ l ds) : DefL P G ρ (.yld p :: l) ({ target := .collected b, args := #[] } :: ds)

theorem DefL.mono {P : Program} {G : Nat → Nat} {ρ ρ' : Env} (hl : ρ.le ρ') {l : List AV} {ds : List Deferred} (h : DefL P G ρ l ds) : DefL P G ρ' l ds := by
  induction h with
  | nil => exact .nil
  | cons h1 h2 _ ih => exact .cons (denL_mono hl h1) (denL_mono hl h2) ih
  | mark h1 _ ih => exact .mark (hl _ _ h1) ih

def dlist : Option AV → List AV
  | some (.tup l) => l
  | _ => []

def DefR (P : Program) (G : Nat → Nat) (ρ : Env) (t : T AV) (ds : List Deferred) : Prop := DefL P G ρ (dlist (T.get .h t)) ds

theorem DefR.mono {P : Program} {G : Nat → Nat} {ρ ρ' : Env} (hl : ρ.le ρ') {t : T AV} {ds : List Deferred} (h : DefR P G ρ t ds) : DefR P G ρ' t ds := DefL.mono hl h

theorem put_defers {a : Act} {dst : Option Tmp} {x : Value} : (a.put dst x).defers = a.defers := by cases dst <;> rfl

theorem putT_h {nt : Nat} (hnt : nt ≤ 1000000) {t t' : T AV} {dst : Option Tmp} {v : AV} (h : putT nt t dst v = some t') : T.get .h t' = T.get .h t := by
  cases dst with
  | none => simp only [putT, Option.some.injEq] at h; rw [h]
  | some k =>
    simp only [putT] at h
    obtain ⟨hk, h⟩ := cond_some h
    rw [nblt, decide_eq_true_iff] at hk
    simp only [T.putK_eq, Option.some.injEq] at h
    rw [← h, T.get_put, if_neg]
    exact fun e => Key.slot_ne_h (by omega) e.symm

theorem DefR.putT {P : Program} {G : Nat → Nat} {ρ : Env} {nt : Nat} (hnt : nt ≤ 1000000) {t t' : T AV} {dst : Option Tmp} {v : AV} (h : Go.Ev.putT nt t dst v = some t') {ds : List Deferred} (d : DefR P G ρ t ds) : DefR P G ρ t' ds := by
  unfold DefR at d ⊢
  rw [putT_h hnt h]; exact d

theorem RelT.put_h {G : Nat → Nat} {ρ : Env} {t : T AV} {nt : Nat} {a : Act} (r : RelT G ρ t nt a) (x : Option AV) {b : Act} (hb : b.tmps = a.tmps) : RelT G ρ (T.put .h x t) nt b :=
  ⟨fun i v hi e => by
    rw [T.get_put, if_neg (Key.slot_ne_h hi)] at e
    rw [hb]; exact r.get i v hi e, by rw [hb]; exact r.size⟩

/-- A call is put off. -/
def pushA (C : Cx) (t : T AV) (op : Op) : Option (T AV) :=
  match op with
  | .defer c => match c.callee with
    | .value f => (evO C t f).bind fun fv => (evOs C t c.args.toList).bind fun args => match fv with
      | .fn g first cap => fL (first ++ args) fun args => T.putK .h (some (.tup (.fn g args cap :: dlist (T.get .h t)))) t some
      | _ => none
    | _ => none
  | _ => none

theorem pushA_wp {C : Cx} {G : Nat → Nat} {w0 : World} (ok : C.Fine G w0) {ρ : Env} {t t1 : T AV} {nt : Nat} {a : Act} (rt : RelT G ρ t nt a) (hd : DefR C.P G ρ t a.defers) {w : World}
    {o : Oper} (e : pushA C t o.op = some t1) {next : Act → World → Prop} {Q : Exit → Act → World → Prop}
    (k : ∀ ds, DefR C.P G ρ t1 ds → RelT G ρ t1 nt { a with defers := ds } → next ({ a with defers := ds }.put o.dst undef) w) : o.wpIn (FW none) 0 C.P a w next Q := by
  refine ⟨fun _ _ => trivial, ?_⟩
  rw [show (FW none).round = none from rfl, Oper.semAt_none]
  unfold pushA at e
  split at e
  · rename_i c hop
    split at e
    · rename_i f hf
      obtain ⟨fv, h1, h2⟩ := bind_some e
      obtain ⟨args, h3, h4⟩ := bind_some h2
      cases fv <;> simp only [reduceCtorEq] at h4
      rename_i g first cap
      simp only [fL_eq, T.putK_eq, Option.some.injEq] at h4
      subst h4
      have df := evO_ok ok.toOk rt h1
      obtain ⟨xs, ys, d1, d2, ef⟩ := den_fn df
      have da := evOs_ok ok.toOk rt h3
      have hres : (execOp a.eval o).run C.P w = .ok (.defer { target := .fn (.func g) ys.toArray, args := (xs ++ c.args.toList.map a.eval).toArray }) w := by
        obtain ⟨dst, op, type, pos, after, guard⟩ := o
        simp only at hop; subst hop
        obtain ⟨callee, cargs, ats⟩ := c
        simp only at hf; subst hf
        simp only [execOp, resolve, ef, Deferred.ofValue, Sem.run_bind, Sem.run_pure, Result.andThen_ok]
        congr 3
        apply Array.ext'
        simp
      rw [hres]
      refine k _ ?_ (rt.put_h _ rfl)
      unfold DefR
      rw [T.get_put, if_pos rfl]
      exact .cons (denL_append d1 da) d2 hd
    · simp at e
  · simp at e

/- ### Code -/
inductive Ex where
  | nrm
  | exit (id : Nat)
  | ret
  | pan (v : AV)

def ExR (G : Nat → Nat) (ρ : Env) : Ex → Exit → Prop
  | .nrm, e => e = .normal
  | .exit id, e => e = .exit id
  | .ret, e => e = .ret
  | .pan v, e => ∃ x, den G ρ v = some x ∧ e = .panic (one x)

abbrev CodeR := Option (Ex × T AV × Mem)
abbrev DrawF := Nat → Array Oper → T AV → Mem → CodeR

/-- Where code is run: in a function, or in a round; what a loop over a function does. -/
structure Rn where
  top : Bool
  rf : Operand → Array Tmp → Code → Code → T AV → Mem → CodeR

/-- The operations of a region, one behind the other. -/
def evOps (C : Cx) (X : CallX) (top : Bool) (nt : Nat) (ops : List Oper) : List Oper → T AV → Mem → CodeR
  | [], t, m => some (.nrm, t, m)
  | o :: os, t, m => match wantA ops t o.guard with
    | some true => match evOpX C X t m o.op with
      | some (true, v, m) => match putT nt t o.dst v with
        | some t => evOps C X top nt ops os t m
        | none => none
      | some (false, v, m) => some (.pan v, t, m)
      | none => bif top then (match pushA C t o.op with
        | some t => match putT nt t o.dst (.tup []) with
          | some t => evOps C X top nt ops os t m
          | none => none
        | none => none) else none
    | some false => match putT nt t o.dst (.tup []) with
      | some t => evOps C X top nt ops os t m
      | none => none
    | none => none

theorem evOps_ok {C : Cx} {G : Nat → Nat} {w0 : World} (ok : C.Fine G w0) {X : CallX} (hX : XOK G w0 C.P X) {ro : Option Nat} {top : Bool} (htop : top = true → ro = none) {nt : Nat} (hnt : nt ≤ 1000000) {ops : Array Oper} {Q : Exit → Act → World → Prop} :
    ∀ (l : List Oper) (i : Nat), ops.toList.drop i = l → ∀ {ρ : Env} {t t' : T AV} {a : Act} {m m' : Mem} {w : World} {x : Ex}, RelT G ρ t nt a → DefR C.P G ρ t a.defers → RelH G w0 ρ m.h m.n w → evOps C X top nt ops.toList l t m = some (x, t', m') →
    (∀ ρ' e a' w', ExR G ρ' x e → RelT G ρ' t' nt a' → DefR C.P G ρ' t' a'.defers → RelH G w0 ρ' m'.h m'.n w' → Fr ρ m.h w ρ' m'.h w' → Q e a' w') → wpOpsIn (FW ro) 0 C.P ops Q (List.range' i l.length) a w
  | [], i, hl, ρ, t, t', a, m, m', w, x, rt, hd, r, e, k => by
    simp only [evOps, Option.some.injEq, Prod.mk.injEq] at e
    obtain ⟨rfl, rfl, rfl⟩ := e
    exact k ρ _ a w rfl rt hd r (Fr.refl _ _ _)
  | o :: os, i, hl, ρ, t, t', a, m, m', w, x, rt, hd, r, e, k => by
    have hi : ops[i]? = some o := by
      rw [← Array.getElem?_toList]
      have := congrArg (fun l => l[0]?) hl
      simpa using this
    have hl' : ops.toList.drop (i + 1) = os := by
      have := congrArg List.tail hl
      simpa using this
    simp only [List.length_cons, List.range'_succ, wpOpsIn, hi]
    simp only [evOps] at e
    cases hw : wantA ops.toList t o.guard with
    | none => simp [hw] at e
    | some b =>
      rw [wantA_ok rt rt.size hw]
      cases b with
      | true =>
        simp only [hw] at e
        simp only [if_true]
        cases ho : evOpX C X t m o.op with
        | none =>
          simp only [ho] at e
          obtain ⟨ht, e⟩ := cond_some e
          obtain rfl := htop ht
          cases hps : pushA C t o.op with
          | none => simp [hps] at e
          | some t1 =>
            simp only [hps] at e
            cases hp : putT nt t1 o.dst (.tup []) with
            | none => simp [hp] at e
            | some t2 =>
              simp only [hp] at e
              refine pushA_wp ok rt hd hps fun ds h1 h2 => ?_
              exact evOps_ok ok hX htop hnt os (i + 1) hl' (putT_ok hnt h2 hp (x := undef) rfl) (by rw [put_defers]; exact h1.putT hnt hp) r e k
        | some vm =>
          obtain ⟨b, v, m1⟩ := vm
          cases b with
          | true =>
            simp only [ho] at e
            cases hp : putT nt t o.dst v with
            | none => simp [hp] at e
            | some t1 =>
              simp only [hp] at e
              refine evOp_wp ok hX.calls rt r (evOpX_ret ho) fun ρ1 w1 x dx r1 f1 => ?_
              exact evOps_ok ok hX htop hnt os (i + 1) hl' (putT_ok hnt (rt.mono f1.ext) hp dx) (by rw [put_defers]; exact (hd.mono f1.ext).putT hnt hp) r1 e fun ρ2 e2 a2 w2 he2 rt2 hd2 r2 f2 => k ρ2 e2 a2 w2 he2 rt2 hd2 r2 (f1.trans f2)
          | false =>
            simp only [ho, Option.some.injEq, Prod.mk.injEq] at e
            obtain ⟨rfl, rfl, rfl⟩ := e
            exact wpIn_of_wp (evOpX_nd ho) <| evOpX_pan ok hX rt r ho fun ρ1 w1 x dx r1 f1 => k ρ1 _ a w1 ⟨x, dx, rfl⟩ (rt.mono f1.ext) (hd.mono f1.ext) r1 f1
      | false =>
        simp only [hw] at e
        simp only [Bool.false_eq_true, if_false]
        cases hp : putT nt t o.dst (.tup []) with
        | none => simp [hp] at e
        | some t1 =>
          simp only [hp] at e
          exact ⟨fun _ _ => trivial, evOps_ok ok hX htop hnt os (i + 1) hl' (putT_ok hnt rt hp (x := undef) rfl) (by rw [put_defers]; exact hd.putT hnt hp) r e k⟩

def iter (f : T AV → Mem → CodeR) : Nat → T AV → Mem → CodeR
  | 0, _, _ => none
  | n + 1, t, m => match f t m with
    | some (.nrm, t, m) => iter f n t m
    | r => r

def evC (C : Cx) (X : CallX) (R : Rn) (dr : DrawF) (nt rounds : Nat) : Code → T AV → Mem → CodeR
  | .skip, t, m => some (.nrm, t, m)
  | .label _, t, m => some (.nrm, t, m)
  | .region id ops draw, t, m => bif draw then (match dr id ops t m with
      | some (x, t1, m) => T.putK .h (T.get .h t) t1 fun t1 => some (x, t1, m)
      | none => none)
    else evOps C X R.top nt ops.toList ops.toList t m
  | .seq x y, t, m => match evC C X R dr nt rounds x t m with
    | some (.nrm, t, m) => evC C X R dr nt rounds y t m
    | r => r
  | .cond c x y, t, m => match evO C t c with
    | some (.bool true) => evC C X R dr nt rounds x t m
    | some (.bool false) => evC C X R dr nt rounds y t m
    | _ => none
  | .block id x, t, m => match evC C X R dr nt rounds x t m with
    | some (.exit j, t, m) => bif Nat.beq j id then some (.nrm, t, m) else some (.exit j, t, m)
    | r => r
  | .loop x, t, m => iter (evC C X R dr nt rounds x) rounds t m
  | .scope x, t, m => bif R.top then evC C X R dr nt rounds x t m else none
  | .rangeFunc g ps as bd, t, m => R.rf g ps as bd t m
  | .exit id, t, m => some (.exit id, t, m)
  | .ret, t, m => some (.ret, t, m)
  | _, _, _ => none

/-- What is known of a piece of code. -/
def CodeOK (G : Nat → Nat) (w0 : World) (P : Program) (ro : Option Nat) (nt : Nat) (c : Code) (t : T AV) (m : Mem) (x : Ex) (t' : T AV) (m' : Mem) : Prop :=
  ∀ ρ a w, RelT G ρ t nt a → DefR P G ρ t a.defers → RelH G w0 ρ m.h m.n w → c.wpIn (FW ro) 0 P (fun e a' w' => ∃ ρ', ExR G ρ' x e ∧ RelT G ρ' t' nt a' ∧ DefR P G ρ' t' a'.defers ∧ RelH G w0 ρ' m'.h m'.n w' ∧ Fr ρ m.h w ρ' m'.h w') a w

def DrawOK (G : Nat → Nat) (w0 : World) (P : Program) (ro : Option Nat) (nt : Nat) (dr : DrawF) : Prop := ∀ id ops t m x t' m', dr id ops t m = some (x, t', m') →
  ∀ ρ a w D, RelT G ρ t nt a → a.defers = D → RelH G w0 ρ m.h m.n w → (Code.region id ops true).wpIn (FW ro) 0 P (fun e a' w' => ∃ ρ', ExR G ρ' x e ∧ RelT G ρ' t' nt a' ∧ a'.defers = D ∧ RelH G w0 ρ' m'.h m'.n w' ∧ Fr ρ m.h w ρ' m'.h w') a w

structure RnOK (G : Nat → Nat) (w0 : World) (P : Program) (ro : Option Nat) (nt : Nat) (R : Rn) : Prop where
  top : R.top = true → ro = none
  rf : ∀ g ps as bd t m x t' m', R.rf g ps as bd t m = some (x, t', m') → CodeOK G w0 P ro nt (.rangeFunc g ps as bd) t m x t' m'

theorem rounds_mono {F : Fence} {k : Nat} {P : Program} {c : Code} {Q Q' : Exit → Act → World → Prop} (h : ∀ e a w, Q e a w → Q' e a w) : ∀ n a w, Code.roundsIn F k P c Q n a w → Code.roundsIn F k P c Q' n a w
  | 0, a, w, k => k
  | n + 1, a, w, k => by
    rw [roundsIn_succ] at k ⊢
    refine wpIn_mono k fun e a w hq => ?_
    cases e <;> first | exact rounds_mono h n a w hq | exact h _ _ _ hq

theorem evC_ok {C : Cx} {G : Nat → Nat} {w0 : World} (ok : C.Fine G w0) {X : CallX} (hX : XOK G w0 C.P X) {ro : Option Nat} {nt rounds : Nat} (hnt : nt ≤ 1000000) {R : Rn} (hR : RnOK G w0 C.P ro nt R) {dr : DrawF} (hdr : DrawOK G w0 C.P ro nt dr) :
    ∀ (c : Code) {t t' : T AV} {m m' : Mem} {x : Ex}, evC C X R dr nt rounds c t m = some (x, t', m') → CodeOK G w0 C.P ro nt c t m x t' m' := by
  intro c
  induction c with
  | skip =>
    intro t t' m m' x e ρ a w rt hd r
    simp only [evC, Option.some.injEq, Prod.mk.injEq] at e
    obtain ⟨rfl, rfl, rfl⟩ := e
    exact wpIn_skip ⟨ρ, rfl, rt, hd, r, Fr.refl _ _ _⟩
  | label l =>
    intro t t' m m' x e ρ a w rt hd r
    simp only [evC, Option.some.injEq, Prod.mk.injEq] at e
    obtain ⟨rfl, rfl, rfl⟩ := e
    exact wpIn_label ⟨ρ, rfl, rt, hd, r, Fr.refl _ _ _⟩
  | exit id =>
    intro t t' m m' x e ρ a w rt hd r
    simp only [evC, Option.some.injEq, Prod.mk.injEq] at e
    obtain ⟨rfl, rfl, rfl⟩ := e
    exact wpIn_exit ⟨ρ, rfl, rt, hd, r, Fr.refl _ _ _⟩
  | ret =>
    intro t t' m m' x e ρ a w rt hd r
    simp only [evC, Option.some.injEq, Prod.mk.injEq] at e
    obtain ⟨rfl, rfl, rfl⟩ := e
    exact wpIn_ret ⟨ρ, rfl, rt, hd, r, Fr.refl _ _ _⟩
  | region id ops draw =>
    intro t t' m m' x e
    simp only [evC] at e
    cases draw with
    | true =>
      simp only [cond_true] at e
      cases h : dr id ops t m with
      | none => simp [h] at e
      | some tm =>
        obtain ⟨x1, t1, m1⟩ := tm
        simp only [h, T.putK_eq, Option.some.injEq, Prod.mk.injEq] at e
        obtain ⟨rfl, rfl, rfl⟩ := e
        intro ρ a w rt hd r
        refine wpIn_mono (hdr id ops t m _ _ _ h ρ a w _ rt rfl r) fun e a1 w1 ⟨ρ1, he, h1, h2, h3, h4⟩ => ?_
        refine ⟨ρ1, he, h1.put_h _ rfl, ?_, h3, h4⟩
        rw [h2]
        have := hd.mono h4.ext
        unfold DefR at this ⊢
        rw [T.get_put, if_pos rfl]; exact this
    | false =>
      simp only [cond_false] at e
      intro ρ a w rt hd r
      refine wpIn_region ?_
      have := evOps_ok ok hX hR.top hnt (Q := fun e a' w' => ∃ ρ', ExR G ρ' x e ∧ RelT G ρ' t' nt a' ∧ DefR C.P G ρ' t' a'.defers ∧ RelH G w0 ρ' m'.h m'.n w' ∧ Fr ρ m.h w ρ' m'.h w') ops.toList 0 (by simp) rt hd r e fun ρ' e a' w' h0 h1 h2 h3 h4 => ⟨ρ', h0, h1, h2, h3, h4⟩
      rw [← List.range_eq_range'] at this
      simpa using this
  | seq p q ih1 ih2 =>
    intro t t' m m' x e ρ a w rt hd r
    simp only [evC] at e
    cases h : evC C X R dr nt rounds p t m with
    | none => simp [h] at e
    | some res =>
      obtain ⟨x1, t1, m1⟩ := res
      refine wpIn_seq (wpIn_mono (ih1 h ρ a w rt hd r) fun ex a1 w1 hh => ?_)
      obtain ⟨ρ1, he, h1, h2, h3, h4⟩ := hh
      cases x1 with
      | nrm =>
        simp only [ExR] at he; subst he
        simp only [h] at e
        exact wpIn_mono (ih2 e ρ1 a1 w1 h1 h2 h3) fun e a2 w2 ⟨ρ2, he, g1, g2, g3, g4⟩ => ⟨ρ2, he, g1, g2, g3, h4.trans g4⟩
      | exit id =>
        simp only [h, Option.some.injEq, Prod.mk.injEq] at e
        obtain ⟨rfl, rfl, rfl⟩ := e
        have he' := he
        simp only [ExR] at he; subst he
        exact ⟨ρ1, he', h1, h2, h3, h4⟩
      | ret =>
        simp only [h, Option.some.injEq, Prod.mk.injEq] at e
        obtain ⟨rfl, rfl, rfl⟩ := e
        have he' := he
        simp only [ExR] at he; subst he
        exact ⟨ρ1, he', h1, h2, h3, h4⟩
      | pan v =>
        simp only [h, Option.some.injEq, Prod.mk.injEq] at e
        obtain ⟨rfl, rfl, rfl⟩ := e
        have he' := he
        obtain ⟨y, hy, rfl⟩ := he
        exact ⟨ρ1, he', h1, h2, h3, h4⟩
  | cond c p q ih1 ih2 =>
    intro t t' m m' x e ρ a w rt hd r
    simp only [evC] at e
    cases h : evO C t c with
    | none => simp [h] at e
    | some v =>
      have dv := evO_ok ok.toOk rt h
      cases v <;> simp only [h, reduceCtorEq] at e
      rename_i b
      simp only [den, Option.some.injEq] at dv
      cases b with
      | true => exact wpIn_cond_true dv.symm (ih1 e ρ a w rt hd r)
      | false => exact wpIn_cond_false dv.symm (ih2 e ρ a w rt hd r)
  | block id p ih =>
    intro t t' m m' x e ρ a w rt hd r
    simp only [evC] at e
    cases h : evC C X R dr nt rounds p t m with
    | none => simp [h] at e
    | some res =>
      obtain ⟨x1, t1, m1⟩ := res
      refine wpIn_block (wpIn_mono (ih h ρ a w rt hd r) fun ex a1 w1 hh => ?_)
      obtain ⟨ρ1, he, h1, h2, h3, h4⟩ := hh
      have he' := he
      cases x1 with
      | nrm =>
        simp only [h, Option.some.injEq, Prod.mk.injEq] at e
        obtain ⟨rfl, rfl, rfl⟩ := e
        simp only [ExR] at he; subst he
        exact ⟨ρ1, he', h1, h2, h3, h4⟩
      | ret =>
        simp only [h, Option.some.injEq, Prod.mk.injEq] at e
        obtain ⟨rfl, rfl, rfl⟩ := e
        simp only [ExR] at he; subst he
        exact ⟨ρ1, he', h1, h2, h3, h4⟩
      | pan v =>
        simp only [h, Option.some.injEq, Prod.mk.injEq] at e
        obtain ⟨rfl, rfl, rfl⟩ := e
        obtain ⟨y, hy, rfl⟩ := he
        exact ⟨ρ1, he', h1, h2, h3, h4⟩
      | exit j =>
        simp only [ExR] at he; subst he
        simp only [h, nbeq] at e
        by_cases c : j = id
        · simp only [c, decide_true, cond_true, Option.some.injEq, Prod.mk.injEq] at e
          obtain ⟨rfl, rfl, rfl⟩ := e
          show Exit.inBlock id _ (Exit.exit j) a1 w1
          rw [c]
          simp only [Exit.inBlock, if_true]
          exact ⟨ρ1, rfl, h1, h2, h3, h4⟩
        · simp only [c, decide_false, cond_false, Option.some.injEq, Prod.mk.injEq] at e
          obtain ⟨rfl, rfl, rfl⟩ := e
          show Exit.inBlock id _ (Exit.exit j) a1 w1
          simp only [Exit.inBlock, if_neg c]
          exact ⟨ρ1, rfl, h1, h2, h3, h4⟩
  | loop p ih =>
    intro t t' m m' x e ρ a w rt hd r
    simp only [evC] at e
    refine wpIn_loop_rounds rounds ?_
    have key : ∀ n (ρ : Env) (t : T AV) (m : Mem) (a : Act) (w : World), RelT G ρ t nt a → DefR C.P G ρ t a.defers → RelH G w0 ρ m.h m.n w → iter (evC C X R dr nt rounds p) n t m = some (x, t', m') →
        Code.roundsIn (FW ro) 0 C.P p (fun e a' w' => ∃ ρ', ExR G ρ' x e ∧ RelT G ρ' t' nt a' ∧ DefR C.P G ρ' t' a'.defers ∧ RelH G w0 ρ' m'.h m'.n w' ∧ Fr ρ m.h w ρ' m'.h w') n a w := by
      intro n
      induction n with
      | zero => intro ρ t m a w rt hd r e; simp [iter] at e
      | succ n ihn =>
        intro ρ t m a w rt hd r e
        simp only [iter] at e
        rw [roundsIn_succ]
        cases h : evC C X R dr nt rounds p t m with
        | none => simp [h] at e
        | some res =>
          obtain ⟨x1, t1, m1⟩ := res
          refine wpIn_mono (ih h ρ a w rt hd r) fun ex a1 w1 hh => ?_
          obtain ⟨ρ1, he, h1, h2, h3, h4⟩ := hh
          have he' := he
          cases x1 with
          | nrm =>
            simp only [h] at e
            simp only [ExR] at he; subst he
            have := ihn ρ1 t1 m1 a1 w1 h1 h2 h3 e
            exact rounds_mono (fun e a2 w2 ⟨ρ2, he, g1, g2, g3, g4⟩ => ⟨ρ2, he, g1, g2, g3, h4.trans g4⟩) _ _ _ this
          | exit id =>
            simp only [h, Option.some.injEq, Prod.mk.injEq] at e
            obtain ⟨rfl, rfl, rfl⟩ := e
            simp only [ExR] at he; subst he
            exact ⟨ρ1, he', h1, h2, h3, h4⟩
          | ret =>
            simp only [h, Option.some.injEq, Prod.mk.injEq] at e
            obtain ⟨rfl, rfl, rfl⟩ := e
            simp only [ExR] at he; subst he
            exact ⟨ρ1, he', h1, h2, h3, h4⟩
          | pan v =>
            simp only [h, Option.some.injEq, Prod.mk.injEq] at e
            obtain ⟨rfl, rfl, rfl⟩ := e
            obtain ⟨y, hy, rfl⟩ := he
            exact ⟨ρ1, he', h1, h2, h3, h4⟩
    exact key rounds ρ t m a w rt hd r e
  | scope p ih =>
    intro t t' m m' x e ρ a w rt hd r
    simp only [evC] at e
    obtain ⟨ht, e⟩ := cond_some e
    obtain rfl := hR.top ht
    refine wpIn_wide.2 (wp_scope_straight (wp_mono (wpIn_wide.1 (ih e ρ a w rt hd r)) fun ex a1 w1 hh => ?_))
    obtain ⟨ρ1, he, rest⟩ := hh
    have he' := he
    cases x with
    | pan v => obtain ⟨y, hy, rfl⟩ := he; exact ⟨ρ1, he', rest⟩
    | nrm => simp only [ExR] at he; subst he; exact ⟨ρ1, he', rest⟩
    | ret => simp only [ExR] at he; subst he; exact ⟨ρ1, he', rest⟩
    | exit id => simp only [ExR] at he; subst he; exact ⟨ρ1, he', rest⟩
  | rangeFunc f ps as bd _ _ => intro t t' m m' x e; exact hR.rf f ps as bd t m x t' m' e
  | goto l => intro t t' m m' x e; simp [evC] at e
  | refuse s => intro t t' m m' x e; simp [evC] at e
/- ### Code again, by the recursor -/
def thenK (r : CodeR) (k : T AV → Mem → CodeR) : CodeR :=
  match r with
  | some (.nrm, t, m) => k t m
  | r => r

def blockK (id : Nat) (r : CodeR) : CodeR :=
  match r with
  | some (.exit j, t, m) => bif Nat.beq j id then some (.nrm, t, m) else some (.exit j, t, m)
  | r => r

def stepO (o : Oper) (k : T AV → Mem → CodeR) (C : Cx) (X : CallX) (top : Bool) (nt : Nat) (ops : List Oper) (t : T AV) (m : Mem) : CodeR :=
  match wantA ops t o.guard with
  | some true => match evOpX C X t m o.op with
    | some (true, v, m) => match putT nt t o.dst v with
      | some t => k t m
      | none => none
    | some (false, v, m) => some (.pan v, t, m)
    | none => bif top then (match pushA C t o.op with
      | some t => match putT nt t o.dst (.tup []) with
        | some t => k t m
        | none => none
      | none => none) else none
  | some false => match putT nt t o.dst (.tup []) with
    | some t => k t m
    | none => none
  | none => none

def evOpsK (l : List Oper) : Cx → CallX → Bool → Nat → List Oper → T AV → Mem → CodeR :=
  List.rec (motive := fun _ => Cx → CallX → Bool → Nat → List Oper → T AV → Mem → CodeR) (fun _ _ _ _ _ t m => some (.nrm, t, m))
    (fun o _ ih C X top nt ops t m => stepO o (ih C X top nt ops) C X top nt ops t m) l

theorem evOpsK_eq (C : Cx) (X : CallX) (top : Bool) (nt : Nat) (ops : List Oper) : ∀ (l : List Oper) (t : T AV) (m : Mem), evOpsK l C X top nt ops t m = evOps C X top nt ops l t m
  | [], t, m => rfl
  | o :: l, t, m => by
    have ih : evOpsK l C X top nt ops = evOps C X top nt ops l := funext fun t => funext fun m => evOpsK_eq C X top nt ops l t m
    show stepO o (evOpsK l C X top nt ops) C X top nt ops t m = _
    rw [ih]
    simp only [stepO, evOps]

def regK (id : Nat) (ops : Array Oper) (draw : Bool) (C : Cx) (X : CallX) (top : Bool) (dr : DrawF) (nt : Nat) (t : T AV) (m : Mem) : CodeR :=
  bif draw then (match dr id ops t m with
    | some (x, t1, m) => T.putK .h (T.get .h t) t1 fun t1 => some (x, t1, m)
    | none => none)
  else evOpsK ops.toList C X top nt ops.toList t m

def condK (v : Option AV) (x y : CodeR) : CodeR :=
  match v with
  | some (.bool true) => x
  | some (.bool false) => y
  | _ => none

def evCk (c : Code) : Cx → CallX → Rn → DrawF → Nat → Nat → T AV → Mem → CodeR :=
  Code.rec (motive := fun _ => Cx → CallX → Rn → DrawF → Nat → Nat → T AV → Mem → CodeR)
    (fun _ _ _ _ _ _ t m => some (.nrm, t, m))
    (fun id ops draw C X R dr nt _ t m => regK id ops draw C X R.top dr nt t m)
    (fun _ _ x y C X R dr nt rounds t m => thenK (x C X R dr nt rounds t m) fun t m => y C X R dr nt rounds t m)
    (fun c _ _ x y C X R dr nt rounds t m => condK (evOk c C t) (x C X R dr nt rounds t m) (y C X R dr nt rounds t m))
    (fun id _ x C X R dr nt rounds t m => blockK id (x C X R dr nt rounds t m))
    (fun _ x C X R dr nt rounds t m => iter (x C X R dr nt rounds) rounds t m)
    (fun g ps a b _ _ _ _ R _ _ _ t m => R.rf g ps a b t m)
    (fun id _ _ _ _ _ _ t m => some (.exit id, t, m))
    (fun _ x C X R dr nt rounds t m => bif R.top then x C X R dr nt rounds t m else none)
    (fun _ _ _ _ _ _ _ t m => some (.nrm, t, m))
    (fun _ _ _ _ _ _ _ _ _ => none)
    (fun _ _ _ _ _ _ t m => some (.ret, t, m))
    (fun _ _ _ _ _ _ _ _ _ => none) c

theorem evCk_eq (C : Cx) (X : CallX) (R : Rn) (dr : DrawF) (nt rounds : Nat) (c : Code) : ∀ (t : T AV) (m : Mem), evCk c C X R dr nt rounds t m = evC C X R dr nt rounds c t m := by
  induction c with
  | skip => intro t m; rfl
  | region id ops draw =>
    intro t m
    show regK id ops draw C X R.top dr nt t m = _
    simp only [regK, evC, evOpsK_eq]
  | seq x y ih1 ih2 =>
    intro t m
    show thenK (evCk x C X R dr nt rounds t m) (fun t m => evCk y C X R dr nt rounds t m) = _
    simp only [ih1, ih2, thenK, evC]
  | cond c x y ih1 ih2 =>
    intro t m
    show condK (evOk c C t) (evCk x C X R dr nt rounds t m) (evCk y C X R dr nt rounds t m) = _
    simp only [ih1, ih2, condK, evC, evOk_eq]
  | block id x ih =>
    intro t m
    show blockK id (evCk x C X R dr nt rounds t m) = _
    simp only [ih, blockK, evC]
  | loop x ih =>
    intro t m
    show iter (evCk x C X R dr nt rounds) rounds t m = _
    rw [show evCk x C X R dr nt rounds = evC C X R dr nt rounds x from funext fun t => funext fun m => ih t m]
    rfl
  | rangeFunc f ps a b _ _ => intro t m; rfl
  | exit id => intro t m; rfl
  | scope x ih =>
    intro t m
    show (bif R.top then evCk x C X R dr nt rounds t m else none) = _
    rw [ih]; rfl
  | label l => intro t m; rfl
  | goto l => intro t m; rfl
  | ret => intro t m; rfl
  | refuse w => intro t m; rfl
end
end Go.Ev
