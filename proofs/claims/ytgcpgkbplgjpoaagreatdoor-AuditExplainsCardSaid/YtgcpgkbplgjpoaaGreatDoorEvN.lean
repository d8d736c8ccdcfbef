/-
  A part of the evaluator for closed runs: proved once over any program.
-/
import Derived.Test.YtgcpgkbplgjpoaaGreatDoorEvM
set_option linter.unusedVariables false
set_option linter.unusedSimpArgs false
namespace Go.Ev
noncomputable section

/-! ### append, abstractly -/
/-- Bytes of a text or of a slice of bytes. -/
def srcB (h : T AObj) (x : AV) : Option (Nat × Nat) :=
  match x with
  | .str n b => some (n, b)
  | .nilS => some (0, 0)
  | .sl p off len _ => match T.get p h with
    | some (.bytes _ _ _ n b) => bif Nat.ble (Nat.add off len) n then fN (Nat.mod (Nat.div b (Nat.pow 256 off)) (Nat.pow 256 len)) fun c => some (len, c) else none
    | _ => none
  | .slu p d len sz => match T.get p h with
    | some (.bytes _ _ _ n b) => bif Nat.beq sz 1 && Nat.ble (Nat.add d len) n then fN (Nat.mod (Nat.div b (Nat.pow 256 d)) (Nat.pow 256 len)) fun c => some (len, c) else none
    | _ => none
  | _ => none

theorem byte_cells {w : World} {b off n bs len : Nat} {c : Array Value} {ty : TypeId} {f : Nat × Nat} (hb : w.heap[b]? = some (.cells c ty f)) (hpre : ((bytesL n bs).map byteV) <+: c.toList) (hle : off + len ≤ n) {P : Program} :
    (loadCells ⟨b, off, none⟩ len).run P w = .ok ((bytesL len (bs / 256 ^ off % 256 ^ len)).map byteV).toArray w := by
  have hl := run_loadCells_list (P := P) w ⟨b, off, none⟩ ((bytesL len (bs / 256 ^ off)).map byteV) (fun j y hj => by
    rw [add_plain, cell_of_row hb, ← Array.getElem?_toList]
    apply prefix_get hpre
    simp only [List.getElem?_map] at hj ⊢
    have hjl : j < len := by
      rcases Nat.lt_or_ge j len with h' | h'
      · exact h'
      · simp [List.getElem?_eq_none, h'] at hj
    rw [bytesL_get? _ _ _ hjl] at hj
    rw [bytesL_get? _ _ _ (by omega)]
    rw [Nat.div_div_eq_div_mul, ← Nat.pow_add] at hj
    simpa using hj)
  simp only [List.length_map, length_bytesL] at hl
  rw [bytesL_mod]
  exact hl

/-- What the model takes of a source. -/
def SrcOK (P : Program) (w : World) (s n : Nat) (X : Value) (N : List Value) : Prop :=
  (∀ d, (Builtin.lenOf X).run P { w with drawn := d } = .ok n { w with drawn := d }) ∧ ∀ d, (Builtin.firstCells s n X).run P { w with drawn := d } = .ok N.toArray { w with drawn := d }

theorem srcB_ok {P : Program} {G : Nat → Nat} {w0 : World} {ρ : Env} {h : T AObj} {k : Key} {w : World} (r : RelH G w0 ρ h k w) {x : AV} {X : Value} {n c : Nat} (e : srcB h x = some (n, c)) (d : den G ρ x = some X) :
    SrcOK P w 1 n X ((bytesL n c).map byteV) := by
  have mem : ∀ (p : Key) (off len cap bk κ : Nat) (nn b : Nat) (u : Nat) (ty : TypeId) (fz : Nat), T.get p h = some (.bytes u ty fz nn b) → ρ p = some (bk, κ) → off + len ≤ nn →
      SrcOK P w 1 len (.slice (some ⟨bk, off, none⟩) len cap) ((bytesL len (b / 256 ^ off % 256 ^ len)).map byteV) := fun p off len cap bk κ nn b u ty fz hp hb hle => by
    obtain ⟨b', κ', y, h1, h2, h3, h4, h5⟩ := r.lt hp
    rw [hb] at h1
    obtain ⟨rfl, rfl⟩ : bk = b' ∧ κ = κ' := by simpa using h1
    obtain ⟨ca, f, rfl, _, hpre, _⟩ := h5
    refine ⟨fun d => rfl, fun d => ?_⟩
    simp only [Builtin.firstCells, Nat.mul_one]
    exact byte_cells (w := { w with drawn := d }) h2 hpre hle
  cases x <;> simp only [srcB, reduceCtorEq, Option.some.injEq, Prod.mk.injEq] at e
  case str m b =>
    obtain ⟨rfl, rfl⟩ := e
    simp only [den, Option.some.injEq] at d; subst d
    refine ⟨fun d => by simp [Builtin.lenOf, size_mkB], fun d => ?_⟩
    simp only [Builtin.firstCells, Sem.run_pure]
    congr 1
    rw [mkB_extract _ _ _ _ (Nat.zero_le _) (Nat.le_refl _)]
    apply Array.ext'
    simp [mkB, bytesL_mod, byteV]
  case nilS =>
    obtain ⟨rfl, rfl⟩ := e
    simp only [den, Option.some.injEq] at d; subst d
    exact ⟨fun d => rfl, fun d => rfl⟩
  case sl p off len cap =>
    cases hp : T.get p h with
    | none => simp [hp] at e
    | some o =>
      cases o <;> simp only [hp, reduceCtorEq] at e
      rename_i u ty fz nn b
      have hc := (cond_some e).1
      replace e := (cond_some e).2
      rw [nble, decide_eq_true_iff] at hc
      simp only [fN_eq, Option.some.injEq, Prod.mk.injEq] at e
      obtain ⟨rfl, rfl⟩ := e
      obtain ⟨bk, κ, h1, rfl⟩ := den_sl d
      exact mem p off len cap bk κ nn b u ty fz hp h1 hc
  case slu p dd len sz =>
    cases hp : T.get p h with
    | none => simp [hp] at e
    | some o =>
      cases o <;> simp only [hp, reduceCtorEq] at e
      rename_i u ty fz nn b
      have hc := (cond_some e).1
      replace e := (cond_some e).2
      rw [Bool.and_eq_true, nble, decide_eq_true_iff, nbeq, decide_eq_true_iff] at hc
      obtain ⟨rfl, hc⟩ := hc
      simp only [fN_eq, Option.some.injEq, Prod.mk.injEq] at e
      obtain ⟨rfl, rfl⟩ := e
      obtain ⟨bk, κ, h1, hk, rfl⟩ := den_slu d
      rw [Nat.mul_one]
      exact mem p dd len (κ - dd) bk κ nn b u ty fz hp h1 hc

/-- The cells of a slice. -/
def srcC (C : Cx) (h : T AObj) (s : Nat) (x : AV) : Option (Nat × List AV) :=
  match x with
  | .nilS => some (0, [])
  | .sl p off len _ => (rows C h (.ptr p off) (Nat.mul len s)).bind fun l => some (len, l)
  | .slu p d len sz => (rows C h (.ptr p (Nat.mul d sz)) (Nat.mul len s)).bind fun l => some (len, l)
  | _ => none

theorem srcC_ok {C : Cx} {G : Nat → Nat} {w0 : World} (ok : C.Ok G w0) {ρ : Env} {h : T AObj} {k : Key} {w : World} (r : RelH G w0 ρ h k w) {s n : Nat} {x : AV} {l : List AV} {X : Value} (e : srcC C h s x = some (n, l)) (d : den G ρ x = some X) :
    ∃ xs, denL G ρ l = some xs ∧ l.length = n * s ∧ SrcOK C.P w s n X xs := by
  have mem : ∀ (p : Key) (off len cap bk κ : Nat) (m : List AV), rows C h (.ptr p off) (len * s) = some m → ρ p = some (bk, κ) → ∃ xs, denL G ρ m = some xs ∧ m.length = len * s ∧ SrcOK C.P w s len (.slice (some ⟨bk, off, none⟩) len cap) xs := fun p off len cap bk κ m hm hb => by
    obtain ⟨b', off', xs, g1, g2, g3, g4⟩ := rows_ok ok r hm
    obtain ⟨b2, κ2, g5, g6⟩ := den_ptr g1
    rw [hb] at g5
    obtain ⟨rfl, rfl⟩ : bk = b2 ∧ κ = κ2 := by simpa using g5
    obtain ⟨rfl, rfl⟩ : b' = bk ∧ off' = off := by simpa using g6
    refine ⟨xs, g2, g3, fun d => rfl, fun d => ?_⟩
    have := run_loadCells_list (P := C.P) { w with drawn := d } ⟨b', off', none⟩ xs (fun j v hj => by rw [add_plain]; exact g4 j v hj)
    rw [denL_length g2, g3] at this
    simpa only [Builtin.firstCells] using this
  cases x <;> simp only [srcC, reduceCtorEq, Option.some.injEq, Prod.mk.injEq] at e
  case nilS =>
    obtain ⟨rfl, rfl⟩ := e
    simp only [den, Option.some.injEq] at d; subst d
    exact ⟨[], rfl, by simp, fun d => rfl, fun d => rfl⟩
  case sl p off len cap =>
    obtain ⟨m, hm, e⟩ := bind_some e
    simp only [Option.some.injEq, Prod.mk.injEq] at e
    obtain ⟨rfl, rfl⟩ := e
    obtain ⟨bk, κ, h1, rfl⟩ := den_sl d
    exact mem p off len cap bk κ m hm h1
  case slu p dd len sz =>
    obtain ⟨m, hm, e⟩ := bind_some e
    simp only [Option.some.injEq, Prod.mk.injEq] at e
    obtain ⟨rfl, rfl⟩ := e
    obtain ⟨bk, κ, h1, hk, rfl⟩ := den_slu d
    exact mem p (dd * sz) len (κ - dd) bk κ m hm h1

theorem RelH.drewn {G : Nat → Nat} {w0 : World} {ρ : Env} {h : T AObj} {n : Key} {w : World} (r : RelH G w0 ρ h n w) : RelH G w0 ρ h n { w with drawn := w.drawn + 1 } := r.drew _

/-- A block that grew by append: the new block's name and memory. -/
def grownC (m : Mem) (e : TypeId) (s : Nat) (l : List AV) (len : Nat) : Option (AV × Mem) := (newA m (.cells (some s) e 0 l)).bind fun r => some (.slu r.1 0 len s, r.2)
def grownB (m : Mem) (e : TypeId) (n b : Nat) : Option (AV × Mem) := (newA m (.bytes 1 e 0 n b)).bind fun r => some (.slu r.1 0 n 1, r.2)

theorem grownC_ok {P : Program} {G : Nat → Nat} {w0 : World} {ρ : Env} {m m' : Mem} {w : World} (r : RelH G w0 ρ m.h m.n w) {e : TypeId} {s len κ : Nat} {l : List AV} {xs R : List Value} {u : AV} (h : grownC m e s l len = some (u, m')) (d : denL G ρ l = some xs)
    (hk : len ≤ κ) (hsz : xs.length + R.length = κ * s) {sem : Sem Value} {c : Array Value} (hc : c.toList = xs ++ R) (run : sem.run P w = .ok (.slice (some ⟨w.heap.size, 0, none⟩) len κ) ({ w with drawn := w.drawn + 1 }.alloc (.cells c e))) :
    Does G w0 P sem ρ m w u m' := by
  obtain ⟨⟨p, m1⟩, hr, h⟩ := bind_some h
  simp only [Option.some.injEq, Prod.mk.injEq] at h
  obtain ⟨rfl, rfl⟩ := h
  have rd := r.drewn
  have hle := Env.le_add (x := (w.heap.size, κ)) (r.fresh _ (Nat.le_refl _))
  obtain ⟨q1, q2, q3⟩ := newA_ok (κ := κ) rd hr (x := .cells c e) ⟨c, (0, 0), xs, rfl, Fz_zero _ _, denL_mono hle d, by rw [hc]; exact List.prefix_append _ _, by rw [← Array.length_toList, hc, List.length_append, hsz]⟩
  refine ⟨_, _, _, run, ?_, q2, Fr.trans (Fr.drew (n := w.drawn + 1)) q3⟩
  have q1' : (ρ.add m.n (w.heap.size, κ)) p = some (w.heap.size, κ) := q1
  simp only [den]
  rw [show ({ w with drawn := w.drawn + 1 } : World).heap.size = w.heap.size from rfl, q1']
  simp [hk]

theorem grownB_ok {P : Program} {G : Nat → Nat} {w0 : World} {ρ : Env} {m m' : Mem} {w : World} (r : RelH G w0 ρ m.h m.n w) {e : TypeId} {n b κ : Nat} {R : List Value} {u : AV} (h : grownB m e n b = some (u, m'))
    (hk : n ≤ κ) (hsz : n + R.length = κ) {sem : Sem Value} {c : Array Value} (hc : c.toList = (bytesL n b).map byteV ++ R) (run : sem.run P w = .ok (.slice (some ⟨w.heap.size, 0, none⟩) n κ) ({ w with drawn := w.drawn + 1 }.alloc (.cells c e))) :
    Does G w0 P sem ρ m w u m' := by
  obtain ⟨⟨p, m1⟩, hr, h⟩ := bind_some h
  simp only [Option.some.injEq, Prod.mk.injEq] at h
  obtain ⟨rfl, rfl⟩ := h
  have rd := r.drewn
  obtain ⟨q1, q2, q3⟩ := newA_ok (κ := κ) rd hr (x := .cells c e) ⟨c, (0, 0), rfl, Fz_zero _ _, by rw [hc]; exact List.prefix_append _ _, by simp; rw [← Array.length_toList, hc]; simp; exact hsz, fun _ => .inl rfl⟩
  refine ⟨_, _, _, run, ?_, q2, Fr.trans (Fr.drew (n := w.drawn + 1)) q3⟩
  have q1' : (ρ.add m.n (w.heap.size, κ)) p = some (w.heap.size, κ) := q1
  simp only [den]
  rw [show ({ w with drawn := w.drawn + 1 } : World).heap.size = w.heap.size from rfl, q1']
  simp [hk]

/-- append onto a slice: in place, or grown. -/
def appendA (C : Cx) (m : Mem) (t0 t1 : TypeId) (x y : AV) : Option (AV × Mem) :=
  match C.P.underlying t0 with
  | some (.slice e) => (sizeA C.P e).bind fun s => match C.P.info? e with
    | some i => (zeroA C.P e).bind fun z =>
      bif notInt C.P t1 && (Nat.ble i.bytes 1000000 && Nat.beq (cellsOf' z).length s) then
        (bif isU8 C.P e then
          bif Nat.beq s 1 then (srcB m.h y).bind fun nc => fN nc.1 fun n => fN nc.2 fun c =>
          (match x with
          | .nilS => bif Nat.beq n 0 then some (.nilS, m) else bif Nat.ble n 1000000 then grownB m e n c else none
          | .sl p off len cap => bif Nat.ble (Nat.add len n) cap then (storeBytesA m p (Nat.add off len) n c).bind fun m => fN (Nat.add len n) fun k => some (.sl p off k cap, m)
            else bif Nat.ble (Nat.add len n) 1000000 then (srcB m.h x).bind fun ob => fN (Nat.add (Nat.mod ob.2 (Nat.pow 256 len)) (Nat.mul c (Nat.pow 256 len))) fun b => fN (Nat.add len n) fun k => grownB m e k b else none
          | .slu p d len sz => bif Nat.beq n 0 then some (.slu p d len sz, m) else
            (match T.get p m.h with
            | some (.bytes u ty fz k b) => bif Nat.blt 0 u && (Nat.beq d 0 && (Nat.beq sz 1 && (Nat.beq ty e && (Nat.ble fz len && (Nat.ble len k && Nat.ble (Nat.add len n) 1000000))))) then
                fN (Nat.add (Nat.mod b (Nat.pow 256 len)) (Nat.mul (Nat.mod c (Nat.pow 256 n)) (Nat.pow 256 len))) fun b => fN (Nat.add len n) fun k => fN fz fun fz => fN u fun u =>
                T.putK p none m.h fun h => fKey (Key.succ m.n) fun nk => T.putK m.n (some (.bytes u e fz k b)) h fun h => some (.slu m.n 0 k 1, ⟨h, nk⟩) else none
            | _ => none)
          | _ => none) else none
        else
          (srcC C m.h s y).bind fun nl => fN nl.1 fun n => fL nl.2 fun l =>
          (match x with
          | .nilS => bif Nat.beq n 0 then some (.nilS, m) else bif Nat.ble n 1000000 then grownC m e s l n else none
          | .sl p off len cap => bif Nat.ble (Nat.add len n) cap then (storeRow m p (Nat.add off (Nat.mul len s)) l).bind fun m => fN (Nat.add len n) fun k => some (.sl p off k cap, m)
            else bif Nat.ble (Nat.add len n) 1000000 then (srcC C m.h s x).bind fun ol => fL (ol.2 ++ l) fun l => fN (Nat.add len n) fun k => grownC m e s l k else none
          | .slu p d len sz => bif Nat.beq n 0 then some (.slu p d len sz, m) else
            (match T.get p m.h with
            | some (.cells (some s') ty fz k) => bif Nat.beq s' s && (Nat.beq d 0 && (Nat.beq sz s && (Nat.beq ty e && (Nat.ble fz (Nat.mul len s) && (Nat.ble (Nat.mul len s) k.length && (Nat.ble (Nat.add len n) 1000000 && flats l)))))) then
                (takeN (Nat.mul len s) k).bind fun k => fL (k ++ l) fun l => fN (Nat.add len n) fun k => fN fz fun fz =>
                T.putK p none m.h fun h => fKey (Key.succ m.n) fun nk => T.putK m.n (some (.cells (some s) e fz l)) h fun h => some (.slu m.n 0 k s, ⟨h, nk⟩) else none
            | _ => none)
          | _ => none)) else none
    | none => none
  | _ => none
end
end Go.Ev
