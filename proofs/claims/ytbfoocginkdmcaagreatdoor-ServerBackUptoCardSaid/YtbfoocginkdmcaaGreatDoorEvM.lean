/-
  A part of the evaluator for closed runs: proved once over any program.
-/
import Derived.Test.YtbfoocginkdmcaaGreatDoorEvH
import Derived.Laws.RangeString
import Derived.Laws.IdiomRangeMap
import Derived.Maps.RangeRun
set_option linter.unusedVariables false
set_option linter.unusedSimpArgs false
namespace Go.Ev
noncomputable section

/- ### append -/
theorem growBy_le (n : Nat) : ∀ (k c : Nat), Builtin.growBy n k c ≤ max c (n + (n + 768) / 4)
  | 0, c => by simp [Builtin.growBy]; omega
  | k + 1, c => by
    simp only [Builtin.growBy]
    split
    · omega
    · have := growBy_le n k (c + (c + 768) / 4); omega

theorem nextcap_le (n c : Nat) (h : c < n) : Builtin.nextslicecap n c ≤ 2 * n + 192 := by
  unfold Builtin.nextslicecap
  split
  · omega
  · split
    · omega
    · have := growBy_le n 4 c; omega

def notInt (P : Program) (t : TypeId) : Bool :=
  match P.underlying t with
  | some (.int _) => false
  | some _ => true
  | none => false

theorem notInt_ok {P : Program} {t : TypeId} (h : notInt P t = true) : ∃ d, P.underlying t = some d ∧ (match d with | .int _ => true | _ => false) = false := by
  unfold notInt at h
  cases hu : P.underlying t with
  | none => simp [hu] at h
  | some d => exact ⟨d, rfl, by cases d <;> first | rfl | (simp [hu] at h)⟩

section
variable {P : Program} {t0 t1 ty e : TypeId} {ts : List TypeId} {w : World} {s : Nat} {base : Option Addr} {sLen sCap n : Nat} {X : Value} {N : Array Value}

theorem append_in (hu : P.underlying t0 = some (.slice e)) (hs : sizeA P e = some s) (hi : notInt P t1 = true) (hl : (Builtin.lenOf X).run P w = .ok n w) (hc : sLen + n ≤ sCap)
    (hN : (Builtin.firstCells s n X).run P w = .ok N w) {w' : World} (hst : (match base with | some a => storeCells (a.add (sLen * s)) N.toList | none => pure () : Sem Unit).run P w = .ok () w') :
    (Builtin.append_ (t0 :: t1 :: ts).toArray ty #[.slice base sLen sCap, X]).run P w = .ok (.slice base (sLen + n) sCap) w' := by
  obtain ⟨d1, hd1, hm1⟩ := notInt_ok hi
  cases d1 <;> first | (simp at hm1; done) | skip
  all_goals
   simp only [Builtin.append_, List.size_toArray, List.length_cons, List.length_nil, List.getElem?_toArray, List.getElem?_cons_zero, List.getElem?_cons_succ, Sem.run_bind, run_underlying hu, run_underlying hd1, Result.andThen_ok, sizeA_ok hs, Sem.run_pure, hm1, Bool.false_eq_true, if_false, hl, Sem.run_ite, Bool.not_false, if_true]
   rw [if_pos hc]
   simp only [Sem.run_bind, hN, Result.andThen_ok]
   cases base with
   | none => simp at hst; subst hst; simp
   | some a => simp only at hst; simp [hst]

theorem append_grow (hu : P.underlying t0 = some (.slice e)) (hs : sizeA P e = some s) (hi : notInt P t1 = true) {i : TypeInfo} (hinfo : P.info? e = some i) {z : Value} (hz : ∀ w, (zeroValue e).run P w = .ok z w) (hzs : z.cells.size = s)
    (hl : (Builtin.lenOf X).run P w = .ok n w) (hc : ¬ sLen + n ≤ sCap) (hb1 : sLen + n ≤ 1000000) (hb2 : i.bytes ≤ 1000000) {O : Array Value}
    (hO : ∀ d, (Builtin.firstCells s sLen (.slice base sLen sCap)).run P { w with drawn := d } = .ok O { w with drawn := d }) (hN : ∀ d, (Builtin.firstCells s n X).run P { w with drawn := d } = .ok N { w with drawn := d }) :
    ∃ κ, sLen + n ≤ κ ∧ (Builtin.append_ (t0 :: t1 :: ts).toArray ty #[.slice base sLen sCap, X]).run P w =
      .ok (.slice (some ⟨w.heap.size, 0, none⟩) (sLen + n) κ) ({ w with drawn := w.drawn + 1 }.alloc (.cells (O ++ N ++ (zrow z.cells.toList (κ - (sLen + n))).toArray) e)) := by
  obtain ⟨d1, hd1, hm1⟩ := notInt_ok hi
  have hmax : IntKind.i64.max = 9223372036854775807 := by decide
  have hno : ¬ (((sLen + n : Nat) : Int) > IntKind.i64.max ∧ (False ∨ i.bytes = 0)) := by
    rw [hmax]; omega
  have hnc : Builtin.nextslicecap (sLen + n) sCap * i.bytes ≤ 2 ^ 48 := by
    have h1 := nextcap_le (sLen + n) sCap (by omega)
    have h2 : Builtin.nextslicecap (sLen + n) sCap * i.bytes ≤ 2000192 * 1000000 := Nat.mul_le_mul (by omega) hb2
    omega
  refine ⟨(Question.appendCap (sLen + n) sCap e).cut (w.tape w.drawn (Question.appendCap (sLen + n) sCap e)), by simp [Question.cut], ?_⟩
  generalize hκ : (Question.appendCap (sLen + n) sCap e).cut (w.tape w.drawn (Question.appendCap (sLen + n) sCap e)) = κ
  have ezr : Builtin.zeroCells z.cells (κ - (sLen + n)) = (zrow z.cells.toList (κ - (sLen + n))).toArray := by
    apply Array.ext'; rw [zeroCells_list]
  cases d1 <;> first | (simp at hm1; done) | skip
  all_goals
   simp only [Builtin.append_, List.size_toArray, List.length_cons, List.length_nil, List.getElem?_toArray, List.getElem?_cons_zero, List.getElem?_cons_succ, Sem.run_bind, run_underlying hu, run_underlying hd1, Result.andThen_ok, sizeA_ok hs, Sem.run_pure, hm1, Bool.false_eq_true, if_false, hl, Sem.run_ite, Bool.not_false, if_true]
   rw [if_neg hc]
   simp only [Sem.run_bind, typeInfo, run_program, Result.andThen_ok, hinfo, Sem.run_pure, Sem.run_ite]
   rw [if_neg hno, if_neg (by omega)]
   simp only [Result.andThen_ok, run_choose, Question.forced, Bool.false_eq_true, if_false, hκ, run_askRoom, hO, hN, hz, ezr, run_newRow]
end
end
end Go.Ev
set_option linter.unusedVariables false
set_option linter.unusedSimpArgs false
namespace Go.Ev
noncomputable section

/- ### append, abstractly -/
/-- Bytes of a text or of a slice of bytes. -/
def srcB (h : T AObj) (x : AV) : Option (Nat × Nat) :=
  match x with
  | .str n b => some (n, b)
  | .nilS => some (0, 0)
  | .slz .. => some (0, 0)
  | .sl p off len _ => match T.get p h with
    | some (.bytes _ _ _ n b) => bif Nat.ble (Nat.add off len) n then fN (Nat.mod (Nat.div b (Nat.pow 256 off)) (Nat.pow 256 len)) fun c => some (len, c) else none
    | some (.cells _ _ _ l) => (takeN len (List.drop off l)).bind fun l => (packL l).bind fun c => some (len, c)
    | _ => none
  | .slu p d len sz => match T.get p h with
    | some (.bytes _ _ _ n b) => bif Nat.beq sz 1 && Nat.ble (Nat.add d len) n then fN (Nat.mod (Nat.div b (Nat.pow 256 d)) (Nat.pow 256 len)) fun c => some (len, c) else none
    | _ => none
  | _ => none

theorem byte_cells {w : World} {b off n bs len : Nat} {c : Array Value} {ty : TypeId} {f : Nat × Nat} (hb : w.heap[b]? = some (.cells c ty f)) (hpre : ((bytesL n bs).map byteV) <+: c.toList) (hle : off + len ≤ n) {P : Program} :
    (loadCells ⟨b, off, none⟩ len).run P w = .ok ((bytesL len (bs / 256 ^ off % 256 ^ len)).map byteV).toArray w := by
  have hl := run_loadCells_list (P := P) w ⟨b, off, none⟩ ((bytesL len (bs / 256 ^ off)).map byteV) (fun j y hj => by
    rw [add_plain, cell_of_row hb, ← Array.getElem?_toList]
    apply prefix_get hpre
    simp only [List.getElem?_map] at hj ⊢
    have hjl : j < len := by
      rcases Nat.lt_or_ge j len with h' | h'
      · exact h'
      · simp [List.getElem?_eq_none, h'] at hj
    rw [bytesL_get? _ _ _ hjl] at hj
    rw [bytesL_get? _ _ _ (by omega)]
    rw [Nat.div_div_eq_div_mul, ← Nat.pow_add] at hj
    simpa using hj)
  simp only [List.length_map, length_bytesL] at hl
  rw [bytesL_mod]
  exact hl

/-- Bytes that lie one in a cell. -/
theorem pack_cells {P : Program} {G : Nat → Nat} {ρ : Env} {w : World} {b off len κ : Nat} {u : Option Nat} {ty : TypeId} {fz cc : Nat} {l l1 : List AV} {x : Go.Obj} (hb : w.heap[b]? = some x) (ho : ObjOK G ρ κ (.cells u ty fz l) x)
    (e1 : takeN len (List.drop off l) = some l1) (e2 : packL l1 = some cc) {j : Nat} (hj : j ≤ len) : (loadCells ⟨b, off, none⟩ j).run P w = .ok ((bytesL j cc).map byteV).toArray w := by
  obtain ⟨c, f, xs, rfl, _, hl, hpre, _⟩ := ho
  obtain ⟨g1, g2⟩ := takeN_eq e1
  have hd := denL_take len (denL_drop off hl)
  rw [← g2] at hd
  have hx := packL_ok e2 hd
  have hlen : l1.length = len := by rw [g2, List.length_take]; omega
  rw [hlen] at hx
  have hl' := run_loadCells_list (P := P) w ⟨b, off, none⟩ ((bytesL j cc).map byteV) (fun i y hi => by
    rw [add_plain, cell_of_row hb, ← Array.getElem?_toList]
    have hij : i < j := by
      have := (List.getElem?_eq_some_iff.1 hi).1
      simp at this; omega
    have hi' : ((bytesL len cc).map byteV)[i]? = some y := by
      rw [← hi, List.getElem?_map, List.getElem?_map, bytesL_get? _ _ _ (by omega), bytesL_get? _ _ _ hij]
    rw [← hx, List.getElem?_take_of_lt (by omega), List.getElem?_drop] at hi'
    exact prefix_get hpre hi')
  simp only [List.length_map, length_bytesL] at hl'
  exact hl'

/-- What the model takes of a source. -/
def SrcOK (P : Program) (w : World) (s n : Nat) (X : Value) (N : List Value) : Prop :=
  (∀ d, (Builtin.lenOf X).run P { w with drawn := d } = .ok n { w with drawn := d }) ∧ ∀ d, (Builtin.firstCells s n X).run P { w with drawn := d } = .ok N.toArray { w with drawn := d }

theorem srcB_ok {P : Program} {G : Nat → Nat} {w0 : World} {ρ : Env} {h : T AObj} {k : Key} {w : World} (r : RelH G w0 ρ h k w) {x : AV} {X : Value} {n c : Nat} (e : srcB h x = some (n, c)) (d : den G ρ x = some X) :
    SrcOK P w 1 n X ((bytesL n c).map byteV) := by
  have mem : ∀ (p : Key) (off len cap bk κ : Nat) (nn b : Nat) (u : Nat) (ty : TypeId) (fz : Nat), T.get p h = some (.bytes u ty fz nn b) → ρ p = some (bk, κ) → off + len ≤ nn →
      SrcOK P w 1 len (.slice (some ⟨bk, off, none⟩) len cap) ((bytesL len (b / 256 ^ off % 256 ^ len)).map byteV) := fun p off len cap bk κ nn b u ty fz hp hb hle => by
    obtain ⟨b', κ', y, h1, h2, h3, h4, h5⟩ := r.lt hp
    rw [hb] at h1
    obtain ⟨rfl, rfl⟩ : bk = b' ∧ κ = κ' := by simpa using h1
    obtain ⟨ca, f, rfl, _, hpre, _⟩ := h5
    refine ⟨fun d => rfl, fun d => ?_⟩
    simp only [Builtin.firstCells, Nat.mul_one]
    exact byte_cells (w := { w with drawn := d }) h2 hpre hle
  cases x <;> simp only [srcB, reduceCtorEq, Option.some.injEq, Prod.mk.injEq] at e
  case str m b =>
    obtain ⟨rfl, rfl⟩ := e
    simp only [den, Option.some.injEq] at d; subst d
    refine ⟨fun d => by simp [Builtin.lenOf, size_mkB], fun d => ?_⟩
    simp only [Builtin.firstCells, Sem.run_pure]
    congr 1
    rw [mkB_extract _ _ _ _ (Nat.zero_le _) (Nat.le_refl _)]
    apply Array.ext'
    simp [mkB, bytesL_mod, byteV]
  case nilS =>
    obtain ⟨rfl, rfl⟩ := e
    simp only [den, Option.some.injEq] at d; subst d
    exact ⟨fun d => rfl, fun d => rfl⟩
  case slz p dd o sz =>
    obtain ⟨rfl, rfl⟩ := e
    obtain ⟨b, κ, _, _, rfl⟩ := den_slz d
    exact ⟨fun d => rfl, fun d => rfl⟩
  case sl p off len cap =>
    cases hp : T.get p h with
    | none => simp [hp] at e
    | some o =>
      cases o <;> simp only [hp, reduceCtorEq] at e
      case cells u ty fz l =>
        obtain ⟨l1, e1, e⟩ := bind_some e
        obtain ⟨cc, e2, e⟩ := bind_some e
        simp only [Option.some.injEq, Prod.mk.injEq] at e
        obtain ⟨rfl, rfl⟩ := e
        obtain ⟨bk, κ, h1, rfl⟩ := den_sl d
        obtain ⟨b', κ', y, g1, g2, g3, g4, g5⟩ := r.lt hp
        rw [h1] at g1
        obtain ⟨rfl, rfl⟩ : bk = b' ∧ κ = κ' := by simpa using g1
        refine ⟨fun d => rfl, fun d => ?_⟩
        simp only [Builtin.firstCells, Nat.mul_one]
        exact pack_cells (w := { w with drawn := d }) g2 g5 e1 e2 (Nat.le_refl _)
      rename_i u ty fz nn b
      have hc := (cond_some e).1
      replace e := (cond_some e).2
      rw [nble, decide_eq_true_iff] at hc
      simp only [fN_eq, Option.some.injEq, Prod.mk.injEq] at e
      obtain ⟨rfl, rfl⟩ := e
      obtain ⟨bk, κ, h1, rfl⟩ := den_sl d
      exact mem p off len cap bk κ nn b u ty fz hp h1 hc
  case slu p dd len sz =>
    cases hp : T.get p h with
    | none => simp [hp] at e
    | some o =>
      cases o <;> simp only [hp, reduceCtorEq] at e
      rename_i u ty fz nn b
      have hc := (cond_some e).1
      replace e := (cond_some e).2
      rw [Bool.and_eq_true, nble, decide_eq_true_iff, nbeq, decide_eq_true_iff] at hc
      obtain ⟨rfl, hc⟩ := hc
      simp only [fN_eq, Option.some.injEq, Prod.mk.injEq] at e
      obtain ⟨rfl, rfl⟩ := e
      obtain ⟨bk, κ, h1, hk, rfl⟩ := den_slu d
      rw [Nat.mul_one]
      exact mem p dd len (κ - dd) bk κ nn b u ty fz hp h1 hc

/-- The cells of a slice. -/
def srcC (C : Cx) (h : T AObj) (s : Nat) (x : AV) : Option (Nat × List AV) :=
  match x with
  | .nilS => some (0, [])
  | .sl p off len _ => (rows C h (.ptr p off) (Nat.mul len s)).bind fun l => some (len, l)
  | .slu p d len sz => (rows C h (.ptr p (Nat.mul d sz)) (Nat.mul len s)).bind fun l => some (len, l)
  | _ => none

theorem srcC_ok {C : Cx} {G : Nat → Nat} {w0 : World} (ok : C.Ok G w0) {ρ : Env} {h : T AObj} {k : Key} {w : World} (r : RelH G w0 ρ h k w) {s n : Nat} {x : AV} {l : List AV} {X : Value} (e : srcC C h s x = some (n, l)) (d : den G ρ x = some X) :
    ∃ xs, denL G ρ l = some xs ∧ l.length = n * s ∧ SrcOK C.P w s n X xs := by
  have mem : ∀ (p : Key) (off len cap bk κ : Nat) (m : List AV), rows C h (.ptr p off) (len * s) = some m → ρ p = some (bk, κ) → ∃ xs, denL G ρ m = some xs ∧ m.length = len * s ∧ SrcOK C.P w s len (.slice (some ⟨bk, off, none⟩) len cap) xs := fun p off len cap bk κ m hm hb => by
    obtain ⟨b', off', xs, g1, g2, g3, g4⟩ := rows_ok ok r hm
    obtain ⟨b2, κ2, g5, g6⟩ := den_ptr g1
    rw [hb] at g5
    obtain ⟨rfl, rfl⟩ : bk = b2 ∧ κ = κ2 := by simpa using g5
    obtain ⟨rfl, rfl⟩ : b' = bk ∧ off' = off := by simpa using g6
    refine ⟨xs, g2, g3, fun d => rfl, fun d => ?_⟩
    have := run_loadCells_list (P := C.P) { w with drawn := d } ⟨b', off', none⟩ xs (fun j v hj => by rw [add_plain]; exact g4 j v hj)
    rw [denL_length g2, g3] at this
    simpa only [Builtin.firstCells] using this
  cases x <;> simp only [srcC, reduceCtorEq, Option.some.injEq, Prod.mk.injEq] at e
  case nilS =>
    obtain ⟨rfl, rfl⟩ := e
    simp only [den, Option.some.injEq] at d; subst d
    exact ⟨[], rfl, by simp, fun d => rfl, fun d => rfl⟩
  case sl p off len cap =>
    obtain ⟨m, hm, e⟩ := bind_some e
    simp only [Option.some.injEq, Prod.mk.injEq] at e
    obtain ⟨rfl, rfl⟩ := e
    obtain ⟨bk, κ, h1, rfl⟩ := den_sl d
    exact mem p off len cap bk κ m hm h1
  case slu p dd len sz =>
    obtain ⟨m, hm, e⟩ := bind_some e
    simp only [Option.some.injEq, Prod.mk.injEq] at e
    obtain ⟨rfl, rfl⟩ := e
    obtain ⟨bk, κ, h1, hk, rfl⟩ := den_slu d
    exact mem p (dd * sz) len (κ - dd) bk κ m hm h1

theorem RelH.drewn {G : Nat → Nat} {w0 : World} {ρ : Env} {h : T AObj} {n : Key} {w : World} (r : RelH G w0 ρ h n w) : RelH G w0 ρ h n { w with drawn := w.drawn + 1 } := r.drew _

/-- A block that grew by append: the new block's name and memory. -/
def grownC (m : Mem) (e : TypeId) (s : Nat) (l : List AV) (len : Nat) : Option (AV × Mem) := (newA m (.cells (some s) e 0 l)).bind fun r => some (.slu r.1 0 len s, r.2)
def grownB (m : Mem) (e : TypeId) (n b : Nat) : Option (AV × Mem) := (newA m (.bytes 1 e 0 n b)).bind fun r => some (.slu r.1 0 n 1, r.2)

theorem grownC_ok {P : Program} {G : Nat → Nat} {w0 : World} {ρ : Env} {m m' : Mem} {w : World} (r : RelH G w0 ρ m.h m.n w) {e : TypeId} {s len κ : Nat} {l : List AV} {xs R : List Value} {u : AV} (h : grownC m e s l len = some (u, m')) (d : denL G ρ l = some xs)
    (hk : len ≤ κ) (hsz : xs.length + R.length = κ * s) {sem : Sem Value} {c : Array Value} (hc : c.toList = xs ++ R) (run : sem.run P w = .ok (.slice (some ⟨w.heap.size, 0, none⟩) len κ) ({ w with drawn := w.drawn + 1 }.alloc (.cells c e))) :
    Does G w0 P sem ρ m w u m' := by
  obtain ⟨⟨p, m1⟩, hr, h⟩ := bind_some h
  simp only [Option.some.injEq, Prod.mk.injEq] at h
  obtain ⟨rfl, rfl⟩ := h
  have rd := r.drewn
  have hle := Env.le_add (x := (w.heap.size, κ)) (r.fresh _ (Nat.le_refl _))
  obtain ⟨q1, q2, q3⟩ := newA_ok (κ := κ) rd hr (x := .cells c e) ⟨c, (0, 0), xs, rfl, Fz_zero _ _, denL_mono hle d, by rw [hc]; exact List.prefix_append _ _, by rw [← Array.length_toList, hc, List.length_append, hsz]⟩
  refine ⟨_, _, _, run, ?_, q2, Fr.trans (Fr.drew (n := w.drawn + 1)) q3⟩
  have q1' : (ρ.add m.n (w.heap.size, κ)) p = some (w.heap.size, κ) := q1
  simp only [den]
  rw [show ({ w with drawn := w.drawn + 1 } : World).heap.size = w.heap.size from rfl, q1']
  simp [hk]

theorem grownB_ok {P : Program} {G : Nat → Nat} {w0 : World} {ρ : Env} {m m' : Mem} {w : World} (r : RelH G w0 ρ m.h m.n w) {e : TypeId} {n b κ : Nat} {R : List Value} {u : AV} (h : grownB m e n b = some (u, m'))
    (hk : n ≤ κ) (hsz : n + R.length = κ) {sem : Sem Value} {c : Array Value} (hc : c.toList = (bytesL n b).map byteV ++ R) (run : sem.run P w = .ok (.slice (some ⟨w.heap.size, 0, none⟩) n κ) ({ w with drawn := w.drawn + 1 }.alloc (.cells c e))) :
    Does G w0 P sem ρ m w u m' := by
  obtain ⟨⟨p, m1⟩, hr, h⟩ := bind_some h
  simp only [Option.some.injEq, Prod.mk.injEq] at h
  obtain ⟨rfl, rfl⟩ := h
  have rd := r.drewn
  obtain ⟨q1, q2, q3⟩ := newA_ok (κ := κ) rd hr (x := .cells c e) ⟨c, (0, 0), rfl, Fz_zero _ _, by rw [hc]; exact List.prefix_append _ _, by simp; rw [← Array.length_toList, hc]; simp; exact hsz, fun _ => .inl rfl⟩
  refine ⟨_, _, _, run, ?_, q2, Fr.trans (Fr.drew (n := w.drawn + 1)) q3⟩
  have q1' : (ρ.add m.n (w.heap.size, κ)) p = some (w.heap.size, κ) := q1
  simp only [den]
  rw [show ({ w with drawn := w.drawn + 1 } : World).heap.size = w.heap.size from rfl, q1']
  simp [hk]

/-- append onto a slice: in place, or grown. -/
def appendA (C : Cx) (m : Mem) (t0 t1 : TypeId) (x y : AV) : Option (AV × Mem) :=
  match C.P.underlying t0 with
  | some (.slice e) => (sizeA C.P e).bind fun s => match C.P.info? e with
    | some i => (zeroA C.P e).bind fun z =>
      bif notInt C.P t1 && (Nat.ble i.bytes 1000000 && Nat.beq (cellsOf' z).length s) then
        (bif isU8 C.P e then
          bif Nat.beq s 1 then (srcB m.h y).bind fun nc => fN nc.1 fun n => fN nc.2 fun c =>
          (match x with
          | .nilS => bif Nat.beq n 0 then some (.nilS, m) else bif Nat.ble n 1000000 then grownB m e n c else none
          | .sl p off len cap => bif Nat.ble (Nat.add len n) cap then (storeBytesA m p (Nat.add off len) n c).bind fun m => fN (Nat.add len n) fun k => some (.sl p off k cap, m)
            else bif Nat.ble (Nat.add len n) 1000000 then (srcB m.h x).bind fun ob => fN (Nat.add (Nat.mod ob.2 (Nat.pow 256 len)) (Nat.mul c (Nat.pow 256 len))) fun b => fN (Nat.add len n) fun k => grownB m e k b else none
          | .slu p d len sz => bif Nat.beq n 0 then some (.slu p d len sz, m) else
            (match T.get p m.h with
            | some (.bytes u ty fz k b) => bif Nat.blt 0 u && (Nat.beq d 0 && (Nat.beq sz 1 && (Nat.beq ty e && (Nat.ble fz len && (Nat.ble len k && Nat.ble (Nat.add len n) 1000000))))) then
                fN (Nat.add (Nat.mod b (Nat.pow 256 len)) (Nat.mul (Nat.mod c (Nat.pow 256 n)) (Nat.pow 256 len))) fun b => fN (Nat.add len n) fun k => fN fz fun fz => fN u fun u =>
                T.putK p none m.h fun h => fKey (Key.succ m.n) fun nk => T.putK m.n (some (.bytes u e fz k b)) h fun h => some (.slu m.n 0 k 1, ⟨h, nk⟩) else none
            | _ => none)
          | _ => none) else none
        else
          (srcC C m.h s y).bind fun nl => fN nl.1 fun n => fL nl.2 fun l =>
          (match x with
          | .nilS => bif Nat.beq n 0 then some (.nilS, m) else bif Nat.ble n 1000000 then grownC m e s l n else none
          | .sl p off len cap => bif Nat.ble (Nat.add len n) cap then (storeRow m p (Nat.add off (Nat.mul len s)) l).bind fun m => fN (Nat.add len n) fun k => some (.sl p off k cap, m)
            else bif Nat.ble (Nat.add len n) 1000000 then (srcC C m.h s x).bind fun ol => fL (ol.2 ++ l) fun l => fN (Nat.add len n) fun k => grownC m e s l k else none
          | .slu p d len sz => bif Nat.beq n 0 then some (.slu p d len sz, m) else
            (match T.get p m.h with
            | some (.cells (some s') ty fz k) => bif Nat.beq s' s && (Nat.beq d 0 && (Nat.beq sz s && (Nat.beq ty e && (Nat.ble fz (Nat.mul len s) && (Nat.ble (Nat.mul len s) k.length && (Nat.ble (Nat.add len n) 1000000 && flats l)))))) then
                (takeN (Nat.mul len s) k).bind fun k => fL (k ++ l) fun l => fN (Nat.add len n) fun k => fN fz fun fz =>
                T.putK p none m.h fun h => fKey (Key.succ m.n) fun nk => T.putK m.n (some (.cells (some s) e fz l)) h fun h => some (.slu m.n 0 k s, ⟨h, nk⟩) else none
            | _ => none)
          | _ => none)) else none
    | none => none
  | _ => none
end
end Go.Ev
set_option linter.unusedVariables false
set_option linter.unusedSimpArgs false
namespace Go.Ev
noncomputable section

theorem T.put_put {α : Type} : ∀ (k : Key) (x y : Option α) (t : T α), T.put k x (T.put k y t) = T.put k x t
  | .h, x, y, .leaf => rfl
  | .h, x, y, .node l v r => rfl
  | .o k, x, y, .leaf => by simp only [T.put]; rw [T.put_put]
  | .o k, x, y, .node l v r => by simp only [T.put]; rw [T.put_put]
  | .i k, x, y, .leaf => by simp only [T.put]; rw [T.put_put]
  | .i k, x, y, .node l v r => by simp only [T.put]; rw [T.put_put]

theorem zeroA_all {P : Program} {t : TypeId} {v : AV} (h : zeroA P t = some v) : ∃ x, (∀ w, (zeroValue t).run P w = .ok x w) ∧ ∀ G ρ, den G ρ v = some x := by
  unfold zeroA at h
  cases hi : P.info? t with
  | none => simp [hi] at h
  | some i =>
    cases hz : i.zero with
    | none => simp [hi, hz] at h
    | some x =>
      simp [hi, hz] at h
      exact ⟨x, fun w => by simp [zeroValue, typeInfo, hi, hz], fun G ρ => cv_ok h⟩

/-- In place, under another name; what was there beyond is forgotten. -/
theorem inplace {P : Program} {G : Nat → Nat} {w0 : World} {ρ : Env} {m : Mem} {w : World} (r : RelH G w0 ρ m.h m.n w) {p : Key} {o o' : AObj} {b κ : Nat} {c : Array Value} {ty : TypeId} {f : Nat × Nat} (hp : T.get p m.h = some o) (hb : ρ p = some (b, κ))
    (hx : w.heap[b]? = some (.cells c ty f)) {off : Nat} {vs : List Value} (hf : ∀ j, off ≤ j → j < c.size → ¬ (f.1 ≤ j ∧ j < f.2)) (hl : off + vs.length ≤ c.size) (h1 : ∀ v ∈ vs, v.oneCell' = true)
    (ho : ∀ c' : Array Value, c'.toList = ow c.toList off vs → ObjOK G ρ κ o' (.cells c' ty f)) :
    ∃ w', (storeCells ⟨b, off, none⟩ vs).run P w = .ok () w' ∧ RelH G w0 (ρ.add m.n (b, κ)) (T.put m.n (some o') (T.put p none m.h)) m.n.succ w' ∧ Fr ρ m.h w (ρ.add m.n (b, κ)) (T.put m.n (some o') (T.put p none m.h)) w' := by
  obtain ⟨w', c', r1, r2, r3, r4, r5, r6, r7, r8⟩ := run_stores P b off ty f vs 0 c w hx (fun j hj => hf j (by omega)) (by omega) h1
  obtain ⟨q1, q2⟩ := r.update (w' := w') (o' := o') (x' := .cells c' ty f) hp hb r2 (ho c' r3) r4 r5 r6 r7 r8
  obtain ⟨q3, q4⟩ := q1.rename (T.get_put_same _ _ _) hb
  rw [T.put_put] at q3 q4
  exact ⟨w', r1, q3, q2.trans q4⟩

theorem fr_drew {ρ ρ' : Env} {h h' : T AObj} {w w' : World} (a : Fr ρ h { w with drawn := w.drawn + 1 } ρ' h' w') : Fr ρ h w ρ' h' w' := (Fr.drew (n := w.drawn + 1)).trans a

theorem prefix_take {α : Type} {l m : List α} (h : l <+: m) {n : Nat} (hn : n ≤ l.length) : m.take n = l.take n := by
  obtain ⟨r, rfl⟩ := h
  rw [List.take_append_of_le_length hn]

set_option maxHeartbeats 1000000 in
theorem append_ok {C : Cx} {G : Nat → Nat} {w0 : World} (ok : C.Ok G w0) {ρ : Env} {m m' : Mem} {w : World} (r : RelH G w0 ρ m.h m.n w) {t0 t1 ty : TypeId} {ts : List TypeId} {x y u : AV} {X Y : Value}
    (h : appendA C m t0 t1 x y = some (u, m')) (dx : den G ρ x = some X) (dy : den G ρ y = some Y) :
    Does G w0 C.P (Builtin.append_ (t0 :: t1 :: ts).toArray ty #[X, Y]) ρ m w u m' := by
  unfold appendA at h
  cases hu : C.P.underlying t0 with
  | none => simp [hu] at h
  | some d0 =>
    cases d0 <;> simp only [hu, reduceCtorEq] at h
    rename_i e
    obtain ⟨s, hs, hh⟩ := bind_some h; replace h := hh; clear hh
    cases hinfo : C.P.info? e with
    | none => simp [hinfo] at h
    | some i =>
      simp only [hinfo] at h
      obtain ⟨z, hz, hh⟩ := bind_some h; replace h := hh; clear hh
      obtain ⟨hb, hh⟩ := cond_some h; replace h := hh; clear hh
      obtain ⟨hi, b2, b3⟩ := and3 hb
      rw [nble, decide_eq_true_iff] at b2
      rw [nbeq, decide_eq_true_iff] at b3
      obtain ⟨zx, hzr, dz⟩ := zeroA_all hz
      have dc := cellsOf'_ok (dz G ρ)
      have hzs : zx.cells.size = s := by rw [← Array.length_toList, denL_length dc, b3]
      have hzl : zx.cells.toList.length = s := by rw [Array.length_toList, hzs]
      have grow := fun (base : Option Addr) (sLen sCap n : Nat) (N O : List Value) (hN : SrcOK C.P w s n Y N) (hO : ∀ d, (Builtin.firstCells s sLen (.slice base sLen sCap)).run C.P { w with drawn := d } = .ok O.toArray { w with drawn := d }) (hc : ¬ sLen + n ≤ sCap) (hb : sLen + n ≤ 1000000) =>
        append_grow (ts := ts) (ty := ty) (w := w) (base := base) (sLen := sLen) (sCap := sCap) (n := n) (X := Y) (N := N.toArray) (O := O.toArray) hu hs hi hinfo hzr hzs (hN.1 w.drawn) hc hb b2 hO hN.2
      cases hu8 : isU8 C.P e with
      | true =>
        simp only [hu8, cond_true] at h
        have hs1 := (cond_some h).1
        replace h := (cond_some h).2
        rw [nbeq, decide_eq_true_iff] at hs1
        subst hs1
        obtain ⟨⟨n, c⟩, hsrc, hh⟩ := bind_some h; replace h := hh; clear hh
        simp only [fN_eq] at h
        have hN := srcB_ok (P := C.P) r hsrc dy
        have hyl : ((bytesL n c).map byteV).length = n := by simp
        cases x <;> simp only [reduceCtorEq] at h
        case nilS =>
          simp only [den, Option.some.injEq] at dx; subst dx
          rw [nbeq] at h
          by_cases hn : n = 0
          · simp only [hn, decide_true, cond_true, Option.some.injEq, Prod.mk.injEq] at h
            obtain ⟨rfl, rfl⟩ := h
            subst hn
            refine ⟨ρ, w, .slice none 0 0, ?_, rfl, r, Fr.refl _ _ _⟩
            exact append_in (N := #[]) (w' := w) hu hs hi (hN.1 w.drawn) (by omega) (hN.2 w.drawn) rfl
          · simp only [hn, decide_false, cond_false] at h
            have hb := (cond_some h).1
            replace h := (cond_some h).2
            rw [nble, decide_eq_true_iff] at hb
            obtain ⟨κ, hk, run⟩ := grow none 0 0 n _ [] hN (fun d => rfl) (by omega) (by omega)
            simp only [Nat.zero_add] at run hk
            refine grownB_ok (R := zrow zx.cells.toList (κ - n)) r h hk ?_ (by simp) run
            rw [zrow_length, hzl]; omega
        case sl p off len cap =>
          obtain ⟨b, κ0, hpb, rfl⟩ := den_sl dx
          rw [nble] at h
          by_cases hc : len.add n ≤ cap
          · simp only [hc, decide_true, cond_true] at h
            obtain ⟨m1, hst, hh⟩ := bind_some h; replace h := hh; clear hh
            simp only [Option.some.injEq, Prod.mk.injEq] at h
            obtain ⟨rfl, rfl⟩ := h
            obtain ⟨w', r1, r2, r3⟩ := storeBytesA_ok (P := C.P) r hst hpb
            refine ⟨ρ, w', .slice (some ⟨b, off, none⟩) (len + n) cap, ?_, ?_, r2, r3⟩
            · refine append_in (N := ((bytesL n c).map byteV).toArray) (w' := w') hu hs hi (hN.1 w.drawn) hc (hN.2 w.drawn) ?_
              simp only [add_plain, Nat.mul_one]
              exact r1
            · simp [den, hpb]
          · simp only [hc, decide_false, cond_false] at h
            have hb := (cond_some h).1
            replace h := (cond_some h).2
            rw [nble, decide_eq_true_iff] at hb
            obtain ⟨⟨ol, oc⟩, ho, hh⟩ := bind_some h; replace h := hh; clear hh
            simp only [fN_eq] at h
            have hO := srcB_ok (P := C.P) r ho dx
            have e1 : ol = len := by
              simp only [srcB] at ho
              cases hp : T.get p m.h with
              | none => simp [hp] at ho
              | some o =>
                cases o <;> simp only [hp, reduceCtorEq] at ho
                case cells u ty fz l =>
                  obtain ⟨l1, _, ho⟩ := bind_some ho
                  obtain ⟨cc, _, ho⟩ := bind_some ho
                  simp only [Option.some.injEq, Prod.mk.injEq] at ho
                  exact ho.1.symm
                have := (cond_some ho).2
                simp only [fN_eq, Option.some.injEq, Prod.mk.injEq] at this
                exact this.1.symm
            subst e1
            obtain ⟨κ, hk, run⟩ := grow (some ⟨b, off, none⟩) ol cap n _ _ hN hO.2 hc hb
            refine grownB_ok (R := zrow zx.cells.toList (κ - (ol + n))) r h hk ?_ (by
              simp
              rw [← List.append_assoc, ← List.map_append, bytesL_append]; rfl) run
            rw [zrow_length, hzl]
            show ol + n + _ = _
            omega
        case slu p dd len sz =>
          rw [nbeq] at h
          by_cases hn : n = 0
          · simp only [hn, decide_true, cond_true, Option.some.injEq, Prod.mk.injEq] at h
            obtain ⟨rfl, rfl⟩ := h
            subst hn
            obtain ⟨b, κ0, hpb, hk, rfl⟩ := den_slu dx
            refine ⟨ρ, w, .slice (some ⟨b, dd * sz, none⟩) len (κ0 - dd), ?_, dx, r, Fr.refl _ _ _⟩
            exact append_in (N := #[]) (w' := w) hu hs hi (hN.1 w.drawn) (by omega) (hN.2 w.drawn) rfl
          · simp only [hn, decide_false, cond_false] at h
            cases hp : T.get p m.h with
            | none => simp [hp] at h
            | some o =>
              cases o <;> simp only [hp, reduceCtorEq] at h
              rename_i uu oty fz k bs
              have hcnd := (cond_some h).1
              replace h := (cond_some h).2
              simp only [Bool.and_eq_true, nbeq, nble, nblt, decide_eq_true_iff] at hcnd
              obtain ⟨g0, g2, g3, g4, g5, g6, g7⟩ := hcnd
              subst g2 g3 g4
              simp only [fN_eq, fKey_eq, T.putK_eq, Option.some.injEq, Prod.mk.injEq] at h
              obtain ⟨rfl, rfl⟩ := h
              obtain ⟨b, κ0, yo, h1, h2, h3, h4, h5⟩ := r.lt hp
              obtain ⟨ca, f, rfl, hfz, hpre, hsz⟩ := h5
              obtain ⟨b', κ', h1', hk, rfl⟩ := den_slu dx
              rw [h1] at h1'
              obtain ⟨rfl, rfl⟩ : b = b' ∧ κ0 = κ' := by simpa using h1'
              rw [if_neg (by omega : ¬ uu = 0)] at hsz
              obtain ⟨hsz, hstr⟩ := hsz
              have enew : ((bytesL (len + n) (Nat.add (Nat.mod bs (Nat.pow 256 len)) (Nat.mul (Nat.mod c (Nat.pow 256 n)) (Nat.pow 256 len)))).map byteV) = (bytesL len bs).map byteV ++ (bytesL n c).map byteV := by
                rw [← List.map_append, ← bytesL_mod n c, bytesL_append]; rfl
              have ptake : ca.toList.take len = (bytesL len bs).map byteV := by
                rw [prefix_take hpre (by simp; exact g6), ← List.map_take, bytesL_take _ _ _ g6]
              by_cases hfit : len + n ≤ κ0
              · have hroom : len + n ≤ ca.size := by rw [hsz]; exact hfit
                obtain ⟨w', q1, q2, q3⟩ := inplace (P := C.P) (o' := .bytes uu oty fz (len + n) (Nat.add (Nat.mod bs (Nat.pow 256 len)) (Nat.mul (Nat.mod c (Nat.pow 256 n)) (Nat.pow 256 len)))) (off := len) (vs := (bytesL n c).map byteV) r hp h1 h2 (fun j hj hj' => hfz j (Nat.le_trans g5 hj) hj') (by rw [hyl]; exact hroom)
                  (fun v hv => by obtain ⟨q, _, rfl⟩ := List.mem_map.1 hv; rfl)
                  (fun c' hc' => ⟨c', f, rfl, by unfold Fz at hfz ⊢; rw [show c'.size = ca.size from by rw [← Array.length_toList, hc', ow_length, Array.length_toList]]; exact hfz, by
                    rw [hc', ow_eq _ _ _ (by rw [hyl]; simpa using hroom), ptake, enew]
                    exact List.prefix_append _ _, by
                    rw [if_neg (by omega : ¬ uu = 0)]
                    rw [← Array.length_toList, hc', ow_length, Array.length_toList, hsz], hstr⟩)
                refine ⟨_, w', .slice (some ⟨b, 0 * 1, none⟩) (len + n) (κ0 - 0), ?_, ?_, q2, q3⟩
                · refine append_in (N := ((bytesL n c).map byteV).toArray) (w' := w') hu hs hi (hN.1 w.drawn) (by omega) (hN.2 w.drawn) ?_
                  simp only [add_plain, Nat.mul_one, Nat.zero_add]
                  exact q1
                · simp only [den, Env.add_self]
                  rw [if_pos (by show 0 + (len + n) ≤ κ0; omega)]
                  rfl
              · obtain ⟨q1, q2⟩ := r.drop p
                have hO : ∀ d, (Builtin.firstCells 1 len (.slice (some ⟨b, 0 * 1, none⟩) len (κ0 - 0))).run C.P { w with drawn := d } = .ok ((bytesL len bs).map byteV).toArray { w with drawn := d } := fun d => by
                  have := byte_cells (P := C.P) (w := { w with drawn := d }) (off := 0) (len := len) h2 hpre (by omega)
                  simp only [Builtin.firstCells, Nat.mul_one]
                  rw [this, bytesL_mod]
                  simp
                obtain ⟨κ, hk', run⟩ := grow (some ⟨b, 0 * 1, none⟩) len (κ0 - 0) n _ _ hN hO (by omega) g7
                have q1d : RelH G w0 ρ (T.put p none m.h) m.n { w with drawn := w.drawn + 1 } := q1.drewn
                obtain ⟨q3, q4⟩ := q1d.alloc (o := .bytes uu oty fz (len + n) (Nat.add (Nat.mod bs (Nat.pow 256 len)) (Nat.mul (Nat.mod c (Nat.pow 256 n)) (Nat.pow 256 len)))) (κ := κ) (x := .cells (((bytesL len bs).map byteV).toArray ++ ((bytesL n c).map byteV).toArray ++ (zrow zx.cells.toList (κ - (len + n))).toArray) oty)
                  ⟨_, (0, 0), rfl, Fz_zero _ _, by rw [enew]; simp, by
                    rw [if_neg (by omega : ¬ uu = 0)]
                    simp only [Array.size_append, List.size_toArray, zrow_length, hzl, List.length_map, length_bytesL]
                    omega, fun _ => .inl rfl⟩
                refine ⟨_, _, _, run, ?_, q3, q2.trans (fr_drew q4)⟩
                simp only [den, Env.add_self]
                rw [if_pos (by show 0 + (len + n) ≤ κ; omega)]
                simp
      | false =>
        simp only [hu8, cond_false] at h
        obtain ⟨⟨n, l⟩, hsrc, hh⟩ := bind_some h; replace h := hh; clear hh
        simp only [fN_eq, fL_eq] at h
        obtain ⟨ys, dl, hlen, hN⟩ := srcC_ok ok r hsrc dy
        have hyl := denL_length dl
        cases x <;> simp only [reduceCtorEq] at h
        case nilS =>
          simp only [den, Option.some.injEq] at dx; subst dx
          rw [nbeq] at h
          by_cases hn : n = 0
          · simp only [hn, decide_true, cond_true, Option.some.injEq, Prod.mk.injEq] at h
            obtain ⟨rfl, rfl⟩ := h
            subst hn
            refine ⟨ρ, w, .slice none 0 0, ?_, rfl, r, Fr.refl _ _ _⟩
            exact append_in (N := ys.toArray) (w' := w) hu hs hi (hN.1 w.drawn) (by omega) (hN.2 w.drawn) rfl
          · simp only [hn, decide_false, cond_false] at h
            obtain ⟨hb, hh⟩ := cond_some h; replace h := hh; clear hh
            rw [nble, decide_eq_true_iff] at hb
            obtain ⟨κ, hk, run⟩ := grow none 0 0 n ys [] hN (fun d => rfl) (by omega) (by omega)
            simp only [Nat.zero_add] at run hk
            refine grownC_ok (R := zrow zx.cells.toList (κ - n)) r h dl hk ?_ (by simp) run
            rw [zrow_length, hzl, hyl, hlen, ← Nat.add_mul]
            congr 1; omega
        case sl p off len cap =>
          obtain ⟨b, κ0, hpb, rfl⟩ := den_sl dx
          rw [nble] at h
          by_cases hc : len.add n ≤ cap
          · simp only [hc, decide_true, cond_true] at h
            obtain ⟨m1, hst, hh⟩ := bind_some h; replace h := hh; clear hh
            simp only [Option.some.injEq, Prod.mk.injEq] at h
            obtain ⟨rfl, rfl⟩ := h
            obtain ⟨w', r1, r2, r3⟩ := storeRow_ok (P := C.P) r hst hpb dl
            refine ⟨ρ, w', .slice (some ⟨b, off, none⟩) (len + n) cap, ?_, ?_, r2, r3⟩
            · refine append_in (N := ys.toArray) (w' := w') hu hs hi (hN.1 w.drawn) hc (hN.2 w.drawn) ?_
              simp only [add_plain]
              exact r1
            · simp [den, hpb]
          · simp only [hc, decide_false, cond_false] at h
            obtain ⟨hb, hh⟩ := cond_some h; replace h := hh; clear hh
            rw [nble, decide_eq_true_iff] at hb
            obtain ⟨⟨ol, oc⟩, ho, hh⟩ := bind_some h; replace h := hh; clear hh
            simp only [fL_eq, fN_eq] at h
            obtain ⟨os, dol, holen, hO⟩ := srcC_ok ok r ho dx
            have e1 : ol = len := by
              simp only [srcC] at ho
              obtain ⟨_, _, ho⟩ := bind_some ho
              simp only [Option.some.injEq, Prod.mk.injEq] at ho
              exact ho.1.symm
            subst e1
            obtain ⟨κ, hk, run⟩ := grow (some ⟨b, off, none⟩) ol cap n ys os hN hO.2 hc hb
            refine grownC_ok (R := zrow zx.cells.toList (κ - (ol + n))) r h (denL_append dol dl) hk ?_ (by simp) run
            rw [zrow_length, hzl, List.length_append, denL_length dol, hyl, hlen, holen, ← Nat.add_mul, ← Nat.add_mul]
            congr 1; omega
        case slu p dd len sz =>
          rw [nbeq] at h
          by_cases hn : n = 0
          · simp only [hn, decide_true, cond_true, Option.some.injEq, Prod.mk.injEq] at h
            obtain ⟨rfl, rfl⟩ := h
            subst hn
            obtain ⟨b, κ0, hpb, hk, rfl⟩ := den_slu dx
            have hys : ys = [] := List.eq_nil_of_length_eq_zero (by rw [hyl, hlen]; simp)
            subst hys
            refine ⟨ρ, w, .slice (some ⟨b, dd * sz, none⟩) len (κ0 - dd), ?_, dx, r, Fr.refl _ _ _⟩
            exact append_in (N := #[]) (w' := w) hu hs hi (hN.1 w.drawn) (by omega) (hN.2 w.drawn) rfl
          · simp only [hn, decide_false, cond_false] at h
            cases hp : T.get p m.h with
            | none => simp [hp] at h
            | some o =>
              cases o <;> simp only [hp, reduceCtorEq] at h
              rename_i us oty fz k
              cases us <;> simp only [reduceCtorEq] at h
              rename_i s'
              have hcnd := (cond_some h).1
              replace h := (cond_some h).2
              simp only [Bool.and_eq_true, nbeq, nble, decide_eq_true_iff] at hcnd
              obtain ⟨g1, g2, g3, g4, g5, g6, g7, g8⟩ := hcnd
              subst g1 g2 g3 g4
              obtain ⟨kt, hkt, hh⟩ := bind_some h; replace h := hh; clear hh
              simp only [fL_eq, fN_eq, fKey_eq, T.putK_eq, Option.some.injEq, Prod.mk.injEq] at h
              obtain ⟨rfl, rfl⟩ := h
              obtain ⟨_, rfl⟩ := takeN_eq hkt
              obtain ⟨b, κ0, yo, h1, h2, h3, h4, h5⟩ := r.lt hp
              obtain ⟨c, f, xs, rfl, hfz, hd, hpre, hsz⟩ := h5
              obtain ⟨b', κ', h1', hk, rfl⟩ := den_slu dx
              rw [h1] at h1'
              obtain ⟨rfl, rfl⟩ : b = b' ∧ κ0 = κ' := by simpa using h1'
              have hxl := denL_length hd
              simp only at hsz
              have g6' : len * sz ≤ k.length := g6
              have dnew : denL G ρ (k.take (len * sz) ++ l) = some (xs.take (len * sz) ++ ys) := denL_append (denL_take _ hd) dl
              by_cases hfit : len + n ≤ κ0
              · have hroom : len * sz + n * sz ≤ c.size := by rw [hsz, ← Nat.add_mul]; exact Nat.mul_le_mul_right _ hfit
                obtain ⟨w', q1, q2, q3⟩ := inplace (P := C.P) (o' := .cells (some sz) oty fz (k.take (len * sz) ++ l)) (off := len * sz) (vs := ys) r hp h1 h2 (fun j hj hj' => hfz j (Nat.le_trans g5 hj) hj') (by rw [hyl, hlen]; exact hroom) (flats_ok g8 dl)
                  (fun c' hc' => ⟨c', f, _, rfl, by unfold Fz at hfz ⊢; rw [show c'.size = c.size from by rw [← Array.length_toList, hc', ow_length, Array.length_toList]]; exact hfz, dnew, by
                    rw [hc', ow_eq _ _ _ (by rw [hyl, hlen]; simpa using hroom)]
                    rw [prefix_take hpre (by rw [hxl]; exact g6')]
                    exact List.prefix_append _ _, by
                    show c'.size = _
                    rw [← Array.length_toList, hc', ow_length, Array.length_toList, hsz]⟩)
                refine ⟨_, w', .slice (some ⟨b, 0 * sz, none⟩) (len + n) (κ0 - 0), ?_, ?_, q2, q3⟩
                · refine append_in (N := ys.toArray) (w' := w') hu hs hi (hN.1 w.drawn) (by omega) (hN.2 w.drawn) ?_
                  simp only [add_plain, Nat.zero_mul, Nat.zero_add]
                  exact q1
                · simp only [den, Env.add_self]
                  rw [if_pos (by show 0 + (len + n) ≤ κ0; omega)]
                  rfl
              · obtain ⟨q1, q2⟩ := r.drop p
                have hO : ∀ d, (Builtin.firstCells sz len (.slice (some ⟨b, 0 * sz, none⟩) len (κ0 - 0))).run C.P { w with drawn := d } = .ok (xs.take (len * sz)).toArray { w with drawn := d } := fun d => by
                  have := run_loadCells_list (P := C.P) { w with drawn := d } ⟨b, 0 * sz, none⟩ (xs.take (len * sz)) (fun j v hj => by
                    rw [add_plain, Nat.zero_mul, Nat.zero_add, cell_of_row (w := { w with drawn := d }) h2, ← Array.getElem?_toList]
                    apply prefix_get hpre
                    rw [List.getElem?_take] at hj
                    split at hj
                    · exact hj
                    · cases hj)
                  rw [List.length_take, Nat.min_eq_left (by rw [hxl]; exact g6')] at this
                  simpa only [Builtin.firstCells] using this
                obtain ⟨κ, hk', run⟩ := grow (some ⟨b, 0 * sz, none⟩) len (κ0 - 0) n ys (xs.take (len * sz)) hN hO (by omega) g7
                have q1d : RelH G w0 ρ (T.put p none m.h) m.n { w with drawn := w.drawn + 1 } := q1.drewn
                have hle := Env.le_add (x := (w.heap.size, κ)) (r.fresh _ (Nat.le_refl _))
                obtain ⟨q3, q4⟩ := q1d.alloc (o := .cells (some sz) oty fz (k.take (len * sz) ++ l)) (κ := κ) (x := .cells ((xs.take (len * sz)).toArray ++ ys.toArray ++ (zrow zx.cells.toList (κ - (len + n))).toArray) oty)
                  ⟨_, (0, 0), xs.take (len * sz) ++ ys, rfl, Fz_zero _ _, denL_mono hle dnew, by simp, by
                    show Array.size _ = _
                    simp only [Array.size_append, List.size_toArray, zrow_length, hzl, List.length_take, hyl, hlen]
                    rw [Nat.min_eq_left (by rw [hxl]; exact g6'), ← Nat.add_mul, ← Nat.add_mul]
                    congr 1; omega⟩
                refine ⟨_, _, _, run, ?_, q3, q2.trans (fr_drew q4)⟩
                simp only [den, Env.add_self]
                rw [if_pos (by show 0 + (len + n) ≤ κ; omega)]
                simp

/-- append of so many zeros onto nothing. -/
def appendZ (C : Cx) (m : Mem) (t0 t1 : TypeId) (x y : AV) : Option (AV × Mem) :=
  match x, y with
  | .nilS, .int _ (.ofNat n) => match C.P.underlying t1 with
    | some (.int _) => match C.P.underlying t0 with
      | some (.slice e) => (sizeA C.P e).bind fun s => match C.P.info? e with
        | some i => (zeroA C.P e).bind fun z => bif Nat.blt 0 n && (Nat.ble n 1000000 && (Nat.ble i.bytes 1000000 && (Nat.blt 0 s && (Nat.beq (cellsOf' z).length s && !(isU8 C.P e))))) then
            fL (zrow (cellsOf' z) n) fun l => grownC m e s l n else none
        | none => none
      | _ => none
    | _ => none
  | _, _ => none

theorem appendZ_ok {C : Cx} {G : Nat → Nat} {w0 : World} (ok : C.Ok G w0) {ρ : Env} {m m' : Mem} {w : World} (r : RelH G w0 ρ m.h m.n w) {t0 t1 ty : TypeId} {ts : List TypeId} {x y u : AV} {X Y : Value}
    (h : appendZ C m t0 t1 x y = some (u, m')) (dx : den G ρ x = some X) (dy : den G ρ y = some Y) :
    Does G w0 C.P (Builtin.append_ (t0 :: t1 :: ts).toArray ty #[X, Y]) ρ m w u m' := by
  unfold appendZ at h
  split at h
  case h_2 => cases h
  case h_1 k n =>
  simp only [den, Option.some.injEq] at dx dy; subst dx dy
  cases hu1 : C.P.underlying t1 with
  | none => simp [hu1] at h
  | some d1 =>
  cases d1 <;> simp only [hu1, reduceCtorEq] at h
  rename_i k1
  cases hu : C.P.underlying t0 with
  | none => simp [hu] at h
  | some d0 =>
  cases d0 <;> simp only [hu, reduceCtorEq] at h
  rename_i e
  obtain ⟨s, hs, hh⟩ := bind_some h; replace h := hh; clear hh
  cases hinfo : C.P.info? e with
  | none => simp [hinfo] at h
  | some i =>
  simp only [hinfo] at h
  obtain ⟨z, hz, hh⟩ := bind_some h; replace h := hh; clear hh
  obtain ⟨hb, hh⟩ := cond_some h; replace h := hh; clear hh
  simp only [Bool.and_eq_true, nblt, nble, nbeq, decide_eq_true_iff] at hb
  obtain ⟨b0, b1, b2, b4, b3, b5⟩ := hb
  rw [fL_eq] at h
  obtain ⟨zx, hzr, dz⟩ := zeroA_all hz
  have dc := cellsOf'_ok (dz G ρ)
  have hzs : zx.cells.size = s := by rw [← Array.length_toList, denL_length dc, b3]
  have hzl : zx.cells.toList.length = s := by rw [Array.length_toList, hzs]
  have hmax : IntKind.i64.max = 9223372036854775807 := by decide
  have hw : IntKind.i64.wrap (Int.ofNat n) = (n : Int) := wrap_i64 n b1
  have hnc : Builtin.nextslicecap (0 + n) 0 * i.bytes ≤ 2 ^ 48 := by
    have h1 := nextcap_le (0 + n) 0 (by omega)
    have h2 : Builtin.nextslicecap (0 + n) 0 * i.bytes ≤ 2000192 * 1000000 := Nat.mul_le_mul (by omega) b2
    omega
  have hnb : n * i.bytes ≤ 1000000 * 1000000 := Nat.mul_le_mul b1 b2
  have hnb' : ¬ ((n : Int) * (i.bytes : Int) > 2 ^ 48) := by
    rw [← Int.natCast_mul]; omega
  have hns : ¬ n * s = 0 := Nat.mul_ne_zero (by omega) (by omega)
  have hneg : ¬ ((n : Int) < 0) := by omega
  have hno : ¬ (((0 + n : Nat) : Int) > IntKind.i64.max ∧ (True ∨ i.bytes = 0)) := by
    rw [hmax]; omega
  have ezr : ∀ j, Builtin.zeroCells zx.cells j = (zrow zx.cells.toList j).toArray := fun j => by
    apply Array.ext'; rw [zeroCells_list]
  refine grownC_ok (κ := (Question.appendCap (0 + n) 0 e).cut (w.tape w.drawn (Question.appendCap (0 + n) 0 e))) (R := zrow zx.cells.toList ((Question.appendCap (0 + n) 0 e).cut (w.tape w.drawn (Question.appendCap (0 + n) 0 e)) - n)) r h (denL_zrow dc n) (by simp [Question.cut]) ?_ (c := (zrow zx.cells.toList n).toArray ++ (zrow zx.cells.toList ((Question.appendCap (0 + n) 0 e).cut (w.tape w.drawn (Question.appendCap (0 + n) 0 e)) - n)).toArray) (by simp) ?_
  · rw [zrow_length, zrow_length, hzl, ← Nat.add_mul]
    congr 1
    have : n ≤ (Question.appendCap (0 + n) 0 e).cut (w.tape w.drawn (Question.appendCap (0 + n) 0 e)) := by simp [Question.cut]
    omega
  generalize hκ : (Question.appendCap (0 + n) 0 e).cut (w.tape w.drawn (Question.appendCap (0 + n) 0 e)) = κ
  have has : asInt (Value.int k (Int.ofNat n)) = pure (Int.ofNat n) := rfl
  simp only [Builtin.append_, List.size_toArray, List.length_cons, List.length_nil, List.getElem?_toArray, List.getElem?_cons_zero, List.getElem?_cons_succ, Sem.run_bind, run_underlying hu, run_underlying hu1, Result.andThen_ok, sizeA_ok hs, Sem.run_pure, if_true, Sem.run_ite, has, hw, hneg, if_false,
    typeInfo, run_program, hinfo, hnb', Int.toNat_natCast, Bool.not_true, Bool.false_eq_true]
  rw [if_neg (by omega : ¬ 0 + n ≤ 0)]
  rw [if_neg hno, if_neg (by omega)]
  simp only [Result.andThen_ok, run_choose, Question.forced, Bool.false_eq_true, if_false, hκ, run_askRoom, hns, hzr, ezr, run_newRow, Builtin.firstCells, Sem.run_pure, Sem.run_bind, Sem.run_ite, Nat.zero_add, Array.empty_append]
  simp only [Nat.zero_add] at hκ
  rw [hκ]

def appendX (C : Cx) (m : Mem) (t0 t1 : TypeId) (x y : AV) : Option (AV × Mem) :=
  match appendA C m t0 t1 x y with
  | some r => some r
  | none => appendZ C m t0 t1 x y

theorem appendX_ok {C : Cx} {G : Nat → Nat} {w0 : World} (ok : C.Ok G w0) {ρ : Env} {m m' : Mem} {w : World} (r : RelH G w0 ρ m.h m.n w) {t0 t1 ty : TypeId} {ts : List TypeId} {x y u : AV} {X Y : Value}
    (h : appendX C m t0 t1 x y = some (u, m')) (dx : den G ρ x = some X) (dy : den G ρ y = some Y) :
    Does G w0 C.P (Builtin.append_ (t0 :: t1 :: ts).toArray ty #[X, Y]) ρ m w u m' := by
  unfold appendX at h
  cases ha : appendA C m t0 t1 x y with
  | some q => rw [ha] at h; simp only [Option.some.injEq] at h; subst h; exact append_ok ok r ha dx dy
  | none => rw [ha] at h; exact appendZ_ok ok r h dx dy
end
end Go.Ev
set_option linter.unusedVariables false
set_option linter.unusedSimpArgs false
namespace Go.Ev
noncomputable section

/- ### Maps made and written -/
def makeMapA (m : Mem) : Option (AV × Mem) := (newA m (.map [] 0)).bind fun r => some (.map r.1, r.2)

theorem makeMap_ok {P : Program} {G : Nat → Nat} {w0 : World} {ρ : Env} {m m' : Mem} {w : World} (r : RelH G w0 ρ m.h m.n w) {t : TypeId} {u : AV} (h : makeMapA m = some (u, m')) :
    Does G w0 P (Instr.makeMap t none) ρ m w u m' := by
  obtain ⟨⟨p, m1⟩, hr, h⟩ := bind_some h
  simp only [Option.some.injEq, Prod.mk.injEq] at h
  obtain ⟨rfl, rfl⟩ := h
  obtain ⟨q1, q2, q3⟩ := newA_ok (κ := 0) r hr (x := .map #[] 0) ⟨[], rfl, .nil⟩
  exact ⟨_, _, .map (some w.heap.size), by simp [Instr.makeMap], by simp [den, q1], q2, q3⟩

/-- One entry put. -/
def putE (k v : AV) : List (AV × AV × Nat) → Nat → List (AV × AV × Nat)
  | [], _ => []
  | e :: es, 0 => (k, v, e.2.2) :: es
  | e :: es, n + 1 => e :: putE k v es n

theorem putE_ok {G : Nat → Nat} {ρ : Env} {k v : AV} {K V : Value} (dk : den G ρ k = some K) (dv : den G ρ v = some V) : ∀ {es : List (AV × AV × Nat)} {l : List MapEntry} {i : Nat}, All2 (entryOK G ρ) es l →
    All2 (entryOK G ρ) (putE k v es i) (l.modify i fun e => { e with key := K, val := V })
  | [], _, i, .nil => by cases i <;> exact .nil
  | _ :: _, _ :: _, 0, .cons e hr => .cons ⟨dk, dv, e.2.2⟩ hr
  | _ :: _, _ :: _, i + 1, .cons e hr => .cons e (putE_ok dk dv hr)

theorem All2.append {α β : Type} {R : α → β → Prop} {l l' : List α} {m m' : List β} (h : All2 R l m) (k : All2 R l' m') : All2 R (l ++ l') (m ++ m') := by
  induction h with
  | nil => exact k
  | cons a _ ih => exact .cons a ih

theorem sameBits_of_sameNow {kd : TypeDesc} {X Y : Value} (h : Instr.sameNow kd X Y = some true) : Instr.sameBits 10000 Y X = true := by
  unfold Instr.sameNow at h
  split at h
  · split at h
    · rename_i hk; subst hk; simp at h; subst h; simp [Instr.sameBits]
    · cases h
  · rename_i a b
    simp only [Option.some.injEq] at h
    have h1 : a.toList = b.toList := by simpa [beq_toListBytes] using h
    simp [Instr.sameBits, beq_toListBytes, h1]
  · simp at h; subst h; simp [Instr.sameBits]
  · cases h

theorem findNow_key {kd : TypeDesc} {K : Value} : ∀ {l : List MapEntry} {i j : Nat} {V : Value}, Instr.findNow kd K l i = some (some (i + j, V)) → ∃ e, l[j]? = some e ∧ Instr.sameNow kd K e.key = some true
  | [], i, j, V, h => by simp [Instr.findNow] at h
  | e :: l, i, j, V, h => by
    simp only [Instr.findNow] at h
    split at h
    · simp at h
      obtain ⟨h1, _⟩ := h
      obtain rfl : j = 0 := by omega
      exact ⟨e, by simp, by assumption⟩
    · cases j with
      | zero =>
        exfalso
        have : ∀ (l : List MapEntry) (a b : Nat) V, b < a → Instr.findNow kd K l a ≠ some (some (b, V)) := fun l => by
          induction l with
          | nil => intro a b V _ hh; simp [Instr.findNow] at hh
          | cons x l ih =>
            intro a b V hlt hh
            simp only [Instr.findNow] at hh
            split at hh
            · simp at hh; omega
            · exact ih (a + 1) b V (by omega) hh
            · cases hh
        exact this l (i + 1) (i + 0) V (by omega) h
      | succ j =>
        rw [show i + (j + 1) = i + 1 + j from by omega] at h
        obtain ⟨x, h1, h2⟩ := findNow_key h
        exact ⟨x, by simpa using h1, h2⟩
    · cases h

def mapUpdA (P : Program) (m : Mem) (t : TypeId) (x k v : AV) : Option Mem :=
  match mapTy P t, x with
  | some (_, _, kd), .map p => match T.get p m.h with
    | some (.map es clk) => match findA kd k es 0 with
      | some (some (i, _, _)) => fL (putE k v es i) fun es => T.putK p (some (.map es clk)) m.h fun h => some ⟨h, m.n⟩
      | some none => fL (es ++ [(k, v, clk)]) fun es => fN (Nat.succ clk) fun c => T.putK p (some (.map es c)) m.h fun h => some ⟨h, m.n⟩
      | none => none
    | _ => none
  | _, _ => none

theorem setObj_run {P : Program} {w : World} {b : Nat} {x y : Go.Obj} (hb : w.heap[b]? = some x) (hn : ∀ c e f, x ≠ .cells c e f) : (setObj b y).run P w = .ok () { w with heap := w.heap.setIfInBounds b y } := by
  cases x <;> first | exact absurd rfl (hn _ _ _) | simp [setObj, Sem.run, hb]

theorem setObj_rel {G : Nat → Nat} {w0 : World} {ρ : Env} {h : T AObj} {n : Key} {w : World} (r : RelH G w0 ρ h n w) {p : Key} {o o' : AObj} {b κ : Nat} {y : Go.Obj} (hp : T.get p h = some o) (hb : ρ p = some (b, κ)) (ho : ObjOK G ρ κ o' y) :
    RelH G w0 ρ (T.put p (some o') h) n { w with heap := w.heap.setIfInBounds b y } ∧ Fr ρ h w ρ (T.put p (some o') h) { w with heap := w.heap.setIfInBounds b y } := by
  obtain ⟨b', κ', x, h1, h2, h3, h4, h5⟩ := r.lt hp
  rw [hb] at h1
  obtain ⟨rfl, rfl⟩ : b = b' ∧ κ = κ' := by simpa using h1
  exact r.update hp hb (x' := y) (by simp [h3]) ho (fun k hk => by simp [Array.getElem?_setIfInBounds, Ne.symm hk]) (by simp) rfl rfl rfl

theorem mapUpd_ok {P : Program} {G : Nat → Nat} {w0 : World} {ρ : Env} {m m' : Mem} {w : World} (r : RelH G w0 ρ m.h m.n w) {t : TypeId} {x k v : AV} {X K V : Value} (h : mapUpdA P m t x k v = some m')
    (dx : den G ρ x = some X) (dk : den G ρ k = some K) (dv : den G ρ v = some V) : ∃ w', (Instr.mapUpdate t X K V).run P w = .ok () w' ∧ RelH G w0 ρ m'.h m'.n w' ∧ Fr ρ m.h w ρ m'.h w' := by
  unfold mapUpdA at h
  cases hm : mapTy P t with
  | none => simp [hm] at h
  | some ked =>
    obtain ⟨kt, et, kd⟩ := ked
    obtain ⟨u1, u2, hpl⟩ := mapTy_ok hm
    cases x <;> simp only [hm, reduceCtorEq] at h
    rename_i p
    cases hp : T.get p m.h with
    | none => simp [hp] at h
    | some o =>
      cases o <;> simp only [hp, reduceCtorEq] at h
      rename_i es clk
      obtain ⟨b, κ, y, h1, h2, h3, h4, h5⟩ := r.lt hp
      obtain ⟨l, rfl, hl⟩ := h5
      obtain ⟨b', κ', h1', rfl⟩ := den_map dx
      rw [h1] at h1'
      obtain ⟨rfl, rfl⟩ : b = b' ∧ κ = κ' := by simpa using h1'
      have hget : (getObj b).run P w = .ok (.map l.toArray clk) w := by simp [getObj, Sem.run, h2]
      have hn : ∀ c e f, (Go.Obj.map l.toArray clk) ≠ .cells c e f := fun _ _ _ => by simp
      cases hf : findA kd k es 0 with
      | none => simp [hf] at h
      | some res =>
        rcases findA_ok dk hf hl with ⟨rfl, g⟩ | ⟨j, a, v', A, V', rfl, ga, gv, gk, g⟩
        · simp only [hf, fL_eq, fN_eq, T.putK_eq, Option.some.injEq] at h; subst h
          have hnew : ObjOK G ρ κ (.map (es ++ [(k, v, clk)]) (Nat.succ clk)) (.map (l.toArray.push { key := K, val := V, born := clk }) (clk + 1)) :=
            ⟨l ++ [{ key := K, val := V, born := clk }], by simp, hl.append (.cons ⟨dk, dv, rfl⟩ .nil)⟩
          obtain ⟨q1, q2⟩ := setObj_rel r hp h1 hnew
          refine ⟨_, ?_, q1, q2⟩
          simp only [Instr.mapUpdate, Sem.run_bind, run_underlying u1, Result.andThen_ok, hget, checkKey_plain u2 hpl, Instr.findKey, run_underlying u2, List.toList_toArray, g, Sem.run_pure]
          exact setObj_run h2 hn
        · simp only [hf, fL_eq, fN_eq, T.putK_eq, Option.some.injEq] at h; subst h
          rw [Nat.zero_add] at g
          obtain ⟨e0, ge, gs⟩ := findNow_key (i := 0) (by rw [Nat.zero_add]; exact g)
          have hstay : ∀ w, (Instr.keyThatStays (((l.toArray[j]?).map (·.key)).getD K) K).run P w = .ok K w := fun w => by
            have : ((l.toArray[j]?).map (·.key)).getD K = e0.key := by simp [ge]
            rw [this]
            simp [Instr.keyThatStays, sameBits_of_sameNow gs]
          have hnew : ObjOK G ρ κ (.map (putE k v es (0 + j)) clk) (.map (l.toArray.modify j fun e => { e with key := K, val := V }) clk) :=
            ⟨l.modify j fun e => { e with key := K, val := V }, by simp, by rw [Nat.zero_add]; exact putE_ok dk dv hl⟩
          obtain ⟨q1, q2⟩ := setObj_rel r hp h1 hnew
          refine ⟨_, ?_, q1, q2⟩
          simp only [Instr.mapUpdate, Sem.run_bind, run_underlying u1, Result.andThen_ok, hget, checkKey_plain u2 hpl, Instr.findKey, run_underlying u2, List.toList_toArray, g, Sem.run_pure, hstay]
          exact setObj_run h2 hn

/- ### Stores -/
def storeA (P : Program) (m : Mem) (t : TypeId) (a v : AV) : Option Mem :=
  (sizeA P t).bind fun s => bif Nat.beq (cellsOf' v).length s then
    (match a with
    | .ptr p off => match T.get p m.h with
      | some (.cells ..) => storeRow m p off (cellsOf' v)
      | some (.bytes ..) => (packL (cellsOf' v)).bind fun b => fN s fun n => storeBytesA m p off n b
      | _ => none
    | _ => none) else none

theorem store_ok {P : Program} {G : Nat → Nat} {w0 : World} {ρ : Env} {m m' : Mem} {w : World} (r : RelH G w0 ρ m.h m.n w) {t : TypeId} {a v : AV} {A V : Value} (h : storeA P m t a v = some m')
    (da : den G ρ a = some A) (dv : den G ρ v = some V) : ∃ w', (Instr.storeAt t A V).run P w = .ok () w' ∧ RelH G w0 ρ m'.h m'.n w' ∧ Fr ρ m.h w ρ m'.h w' := by
  unfold storeA at h
  obtain ⟨s, hs, h⟩ := bind_some h
  obtain ⟨hc, h⟩ := cond_some h
  rw [nbeq, decide_eq_true_iff] at hc
  have dc := cellsOf'_ok dv
  have hlen : V.cells.size = s := by rw [← Array.length_toList, denL_length dc, hc]
  have fin : ∀ {b off : Nat} {w' : World}, A = .pointer (some ⟨b, off, none⟩) → (storeCells ⟨b, off, none⟩ V.cells.toList).run P w = .ok () w' → (Instr.storeAt t A V).run P w = .ok () w' := fun e hr => by
    subst e
    simp only [Instr.storeAt, Instr.sureAddr, Sem.run_bind, Sem.run_pure, Result.andThen_ok, storeVar, sizeA_ok hs, Sem.run_ite]
    rw [if_neg (by simp [hlen])]
    exact hr
  match a, h, da with
  | .ptr p off, h, da =>
    obtain ⟨b, κ, hb, rfl⟩ := den_ptr da
    cases hp : T.get p m.h with
    | none => simp [hp] at h
    | some o =>
      cases o <;> simp only [hp, reduceCtorEq] at h
      case cells =>
        obtain ⟨w', r1, r2, r3⟩ := storeRow_ok (P := P) r h hb dc
        exact ⟨w', fin rfl r1, r2, r3⟩
      case bytes =>
        obtain ⟨bb, hpk, hh⟩ := bind_some h; replace h := hh; clear hh
        simp only [fN_eq] at h
        have e := packL_ok hpk dc
        rw [hc] at e
        obtain ⟨w', r1, r2, r3⟩ := storeBytesA_ok (P := P) r h hb
        rw [← e] at r1
        exact ⟨w', fin rfl r1, r2, r3⟩

/- ### copy -/
/-- Bytes as cells. -/
def unpk : Nat → Nat → List AV
  | 0, _ => []
  | n + 1, c => fN (Nat.mod c 256) fun x => fN (Nat.div c 256) fun c' => .int .u8 (.ofNat x) :: unpk n c'

theorem unpk_ok {G : Nat → Nat} {ρ : Env} : ∀ n c, denL G ρ (unpk n c) = some ((bytesL n c).map byteV)
  | 0, c => rfl
  | n + 1, c => by
    simp only [unpk, fN_eq, bytesL, List.map_cons]
    refine denL_cons.2 ⟨_, _, ?_, unpk_ok n _, rfl⟩
    simp only [den, byteV]
    have : (UInt8.ofNat c).toNat = Nat.mod c 256 := by simp [UInt8.toNat_ofNat]; rfl
    rw [this]; rfl

/-- Bytes are stored, into a block of bytes or of cells. -/
def storeXA (m : Mem) (p : Key) (off n c : Nat) : Option Mem :=
  match T.get p m.h with
  | some (.cells ..) => fL (unpk n c) fun l => storeRow m p off l
  | _ => storeBytesA m p off n c

theorem storeXA_ok {P : Program} {G : Nat → Nat} {w0 : World} {ρ : Env} {m m' : Mem} {w : World} (r : RelH G w0 ρ m.h m.n w) {p : Key} {off b κ n c : Nat} (e : storeXA m p off n c = some m')
    (hb : ρ p = some (b, κ)) : ∃ w', (storeCells ⟨b, off, none⟩ ((bytesL n c).map byteV)).run P w = .ok () w' ∧ RelH G w0 ρ m'.h m'.n w' ∧ Fr ρ m.h w ρ m'.h w' := by
  unfold storeXA at e
  split at e
  · rw [fL_eq] at e
    exact storeRow_ok r e hb (unpk_ok n c)
  · exact storeBytesA_ok r e hb

def copyA (C : Cx) (m : Mem) (t0 : TypeId) (x y : AV) : Option (AV × Mem) :=
  match C.P.underlying t0 with
  | some (.slice e) => (sizeA C.P e).bind fun s => bif isU8 C.P e then
      (bif Nat.beq s 1 then (srcB m.h y).bind fun nc => (match x with
      | .nilS => some (.int .i64 (.ofNat 0), m)
      | .sl p off len _ => fN (bif Nat.ble nc.1 len then nc.1 else len) fun n => fN nc.2 fun c => (storeXA m p off n c).bind fun m => some (.int .i64 (.ofNat n), m)
      | .slu p d len sz => bif Nat.beq sz 1 then fN (bif Nat.ble nc.1 len then nc.1 else len) fun n => fN nc.2 fun c => (storeXA m p d n c).bind fun m => some (.int .i64 (.ofNat n), m) else none
      | _ => none) else none)
    else none
  | _ => none

theorem bytesL_take' {n m b : Nat} (h : n ≤ m) : ((bytesL m b).map byteV).take n = (bytesL n b).map byteV := by rw [← List.map_take, bytesL_take _ _ _ h]

theorem srcB_take {P : Program} {G : Nat → Nat} {w0 : World} {ρ : Env} {h : T AObj} {k : Key} {w : World} (r : RelH G w0 ρ h k w) {x : AV} {X : Value} {n c j : Nat} (e : srcB h x = some (n, c)) (d : den G ρ x = some X) (hj : j ≤ n) :
    (Builtin.firstCells 1 j X).run P w = .ok ((bytesL j c).map byteV).toArray w := by
  cases x <;> simp only [srcB, reduceCtorEq, Option.some.injEq, Prod.mk.injEq] at e
  case str m b =>
    obtain ⟨rfl, rfl⟩ := e
    simp only [den, Option.some.injEq] at d; subst d
    simp only [Builtin.firstCells, Sem.run_pure]
    congr 1
    rw [mkB_extract _ _ _ _ (Nat.zero_le _) hj]
    apply Array.ext'
    simp [mkB, bytesL_mod, byteV]
  case nilS =>
    obtain ⟨rfl, rfl⟩ := e
    simp only [den, Option.some.injEq] at d; subst d
    obtain rfl : j = 0 := by omega
    rfl
  case slz p dd o sz =>
    obtain ⟨rfl, rfl⟩ := e
    obtain ⟨b, κ, _, _, rfl⟩ := den_slz d
    obtain rfl : j = 0 := by omega
    rfl
  case sl p off len cap =>
    cases hp : T.get p h with
    | none => simp [hp] at e
    | some o =>
      cases o <;> simp only [hp, reduceCtorEq] at e
      case cells u ty fz l =>
        obtain ⟨l1, e1, e⟩ := bind_some e
        obtain ⟨cc, e2, e⟩ := bind_some e
        simp only [Option.some.injEq, Prod.mk.injEq] at e
        obtain ⟨rfl, rfl⟩ := e
        obtain ⟨bk, κ, h1, rfl⟩ := den_sl d
        obtain ⟨b', κ', y, g1, g2, g3, g4, g5⟩ := r.lt hp
        rw [h1] at g1
        obtain ⟨rfl, rfl⟩ : bk = b' ∧ κ = κ' := by simpa using g1
        simp only [Builtin.firstCells, Nat.mul_one]
        exact pack_cells g2 g5 e1 e2 hj
      rename_i u ty fz nn b
      have hc := (cond_some e).1
      replace e := (cond_some e).2
      rw [nble, decide_eq_true_iff] at hc
      have hc' : off + len ≤ nn := hc
      simp only [fN_eq, Option.some.injEq, Prod.mk.injEq] at e
      obtain ⟨rfl, rfl⟩ := e
      obtain ⟨bk, κ, h1, rfl⟩ := den_sl d
      obtain ⟨b', κ', y, g1, g2, g3, g4, g5⟩ := r.lt hp
      rw [h1] at g1
      obtain ⟨rfl, rfl⟩ : bk = b' ∧ κ = κ' := by simpa using g1
      obtain ⟨ca, f, rfl, _, hpre, _⟩ := g5
      have := byte_cells (P := P) (off := off) (len := j) g2 hpre (by omega)
      simp only [Builtin.firstCells, Nat.mul_one]
      have e1 : (bytesL j (b / 256 ^ off % 256 ^ len)).map byteV = (bytesL j (b / 256 ^ off)).map byteV := by rw [← bytesL_take' hj, bytesL_mod, bytesL_take' hj]
      rw [this, bytesL_mod]
      exact congrArg (fun l => Result.ok l.toArray w) e1.symm
  case slu p dd len sz =>
    cases hp : T.get p h with
    | none => simp [hp] at e
    | some o =>
      cases o <;> simp only [hp, reduceCtorEq] at e
      rename_i u ty fz nn b
      have hc := (cond_some e).1
      replace e := (cond_some e).2
      rw [Bool.and_eq_true, nble, decide_eq_true_iff, nbeq, decide_eq_true_iff] at hc
      obtain ⟨rfl, hc⟩ := hc
      have hc' : dd + len ≤ nn := hc
      simp only [fN_eq, Option.some.injEq, Prod.mk.injEq] at e
      obtain ⟨rfl, rfl⟩ := e
      obtain ⟨bk, κ, h1, hk, rfl⟩ := den_slu d
      obtain ⟨b', κ', y, g1, g2, g3, g4, g5⟩ := r.lt hp
      rw [h1] at g1
      obtain ⟨rfl, rfl⟩ : bk = b' ∧ κ = κ' := by simpa using g1
      obtain ⟨ca, f, rfl, _, hpre, _⟩ := g5
      have := byte_cells (P := P) (off := dd) (len := j) g2 hpre (by omega)
      simp only [Builtin.firstCells, Nat.mul_one]
      have e1 : (bytesL j (b / 256 ^ dd % 256 ^ len)).map byteV = (bytesL j (b / 256 ^ dd)).map byteV := by rw [← bytesL_take' hj, bytesL_mod, bytesL_take' hj]
      rw [this, bytesL_mod]
      exact congrArg (fun l => Result.ok l.toArray w) e1.symm

theorem copy_ok {C : Cx} {G : Nat → Nat} {w0 : World} {ρ : Env} {m m' : Mem} {w : World} (r : RelH G w0 ρ m.h m.n w) {t0 ty : TypeId} {ts : List TypeId} {x y u : AV} {X Y : Value}
    (h : copyA C m t0 x y = some (u, m')) (dx : den G ρ x = some X) (dy : den G ρ y = some Y) : Does G w0 C.P (Builtin.copy_ (t0 :: ts).toArray ty #[X, Y]) ρ m w u m' := by
  unfold copyA at h
  cases hu : C.P.underlying t0 with
  | none => simp [hu] at h
  | some d0 =>
    cases d0 <;> simp only [hu, reduceCtorEq] at h
    rename_i e
    obtain ⟨s, hs, hh⟩ := bind_some h; replace h := hh; clear hh
    have hu8 := (cond_some h).1
    replace h := (cond_some h).2
    have hs1 := (cond_some h).1
    replace h := (cond_some h).2
    rw [nbeq, decide_eq_true_iff] at hs1; subst hs1
    obtain ⟨⟨n, c⟩, hsrc, hh⟩ := bind_some h; replace h := hh; clear hh
    have hN := srcB_ok (P := C.P) r hsrc dy
    have hlen := hN.1 w.drawn
    simp only [fN_eq] at h
    have mn : ∀ len, (bif n.ble len then n else len) = min n len := fun len => by
      rw [nble]; by_cases c : n ≤ len <;> simp [c] <;> omega
    match x, h, dx with
    | .nilS, h, dx =>
      simp only [Option.some.injEq, Prod.mk.injEq] at h
      obtain ⟨rfl, rfl⟩ := h
      simp only [den, Option.some.injEq] at dx; subst dx
      refine ⟨ρ, w, goInt 0, ?_, rfl, r, Fr.refl _ _ _⟩
      have hf := srcB_take (P := C.P) r hsrc dy (Nat.zero_le n)
      have e0 : Nat.min n 0 = 0 := Nat.min_zero n
      simp [Builtin.copy_, run_underlying hu, hlen, sizeA_ok hs, e0, hf]
    | .sl p off len cap, h, dx =>
      simp only [mn] at h
      obtain ⟨m1, hst, hh⟩ := bind_some h; replace h := hh; clear hh
      simp only [Option.some.injEq, Prod.mk.injEq] at h
      obtain ⟨rfl, rfl⟩ := h
      obtain ⟨b, κ, hb, rfl⟩ := den_sl dx
      obtain ⟨w', r1, r2, r3⟩ := storeXA_ok (P := C.P) r hst hb
      refine ⟨ρ, w', goInt ((min n len : Nat) : Int), ?_, rfl, r2, r3⟩
      have hf := srcB_take (P := C.P) r hsrc dy (Nat.min_le_left n len)
      have e0 : Nat.min n len = min n len := rfl
      simp [Builtin.copy_, run_underlying hu, hlen, sizeA_ok hs, e0, hf, r1]
    | .slu p dd len sz, h, dx =>
      have hsz := (cond_some h).1
      replace h := (cond_some h).2
      rw [nbeq, decide_eq_true_iff] at hsz; subst hsz
      simp only [mn] at h
      obtain ⟨m1, hst, hh⟩ := bind_some h; replace h := hh; clear hh
      simp only [Option.some.injEq, Prod.mk.injEq] at h
      obtain ⟨rfl, rfl⟩ := h
      obtain ⟨b, κ, hb, hk, rfl⟩ := den_slu dx
      obtain ⟨w', r1, r2, r3⟩ := storeXA_ok (P := C.P) r hst hb
      refine ⟨ρ, w', goInt ((min n len : Nat) : Int), ?_, rfl, r2, r3⟩
      have hf := srcB_take (P := C.P) r hsrc dy (Nat.min_le_left n len)
      have e0 : Nat.min n len = min n len := rfl
      simp [Builtin.copy_, run_underlying hu, hlen, sizeA_ok hs, e0, hf, r1]

/- ### clear -/
def clearA (P : Program) (m : Mem) (t0 : TypeId) (x : AV) : Option Mem :=
  match P.underlying t0 with
  | some (.slice e) => match x with
    | .nilS => some m
    | .sl p off n _ => bif Nat.beq n 0 then some m else (zeroA P e).bind fun z => fL (zrow (cellsOf' z) n) fun l => storeRow m p off l
    | _ => none
  | _ => none

theorem clear_ok {P : Program} {G : Nat → Nat} {w0 : World} {ρ : Env} {m m' : Mem} {w : World} (r : RelH G w0 ρ m.h m.n w) {t0 ty : TypeId} {ts : List TypeId} {x : AV} {X : Value}
    (h : clearA P m t0 x = some m') (dx : den G ρ x = some X) : ∃ w', (Builtin.clear_ (t0 :: ts).toArray ty #[X]).run P w = .ok (.tuple #[]) w' ∧ RelH G w0 ρ m'.h m'.n w' ∧ Fr ρ m.h w ρ m'.h w' := by
  unfold clearA at h
  cases hu : P.underlying t0 with
  | none => simp [hu] at h
  | some d0 =>
    cases d0 <;> simp only [hu, reduceCtorEq] at h
    rename_i e
    match x, h, dx with
    | .nilS, h, dx =>
      simp only [Option.some.injEq] at h; subst h
      simp only [den, Option.some.injEq] at dx; subst dx
      refine ⟨w, ?_, r, Fr.refl _ _ _⟩
      simp [Builtin.clear_, run_underlying hu]
    | .sl p off n cap, h, dx =>
      obtain ⟨b, κ, hb, rfl⟩ := den_sl dx
      simp only [nbeq] at h
      by_cases hn : n = 0
      · subst hn
        simp only [decide_true, cond_true, Option.some.injEq] at h; subst h
        refine ⟨w, ?_, r, Fr.refl _ _ _⟩
        simp [Builtin.clear_, run_underlying hu]
      · simp only [hn, decide_false, cond_false] at h
        obtain ⟨z, hz, hh⟩ := bind_some h
        rw [fL_eq] at hh
        obtain ⟨zx, hzr, dz⟩ := zeroA_ok hz w
        have dc := cellsOf'_ok (dz G ρ)
        obtain ⟨w', r1, r2, r3⟩ := storeRow_ok (P := P) r hh hb (denL_zrow dc n)
        refine ⟨w', ?_, r2, r3⟩
        rw [← zeroCells_list] at r1
        simp [Builtin.clear_, run_underlying hu, hn, hzr, r1]

/- ### Range over a map with one entry left at most -/
def inN (x : Nat) : List Nat → Bool
  | [] => false
  | y :: l => bif Nat.beq x y then true else inN x l

theorem inN_eq (x : Nat) : ∀ l : List Nat, inN x l = l.contains x
  | [] => rfl
  | y :: l => by
    simp only [inN, inN_eq x l, List.contains_cons]
    cases h : Nat.beq x y with
    | true => rw [Nat.eq_of_beq_eq_true h]; simp
    | false =>
      have : (x == y) = false := by
        rw [beq_eq_false_iff_ne]
        rintro rfl
        rw [Nat.beq_refl] at h; cases h
      rw [this]; rfl

def leftE (seen : List Nat) : List (AV × AV × Nat) → List (AV × AV × Nat)
  | [] => []
  | (k, v, b) :: l => bif inN b seen then leftE seen l else (k, v, b) :: leftE seen l

theorem leftE_ok {G : Nat → Nat} {ρ : Env} (seen : List Nat) : ∀ {es : List (AV × AV × Nat)} {l : List MapEntry}, All2 (entryOK G ρ) es l → All2 (entryOK G ρ) (leftE seen es) (l.filter fun e => !seen.toArray.contains e.born)
  | _, _, .nil => .nil
  | (k, v, b) :: es, e :: l, .cons h1 h2 => by
    have hb : b = e.born := h1.2.2
    have hc : inN b seen = seen.toArray.contains e.born := by rw [inN_eq, hb]; simp
    simp only [leftE, List.filter_cons, hc]
    cases seen.toArray.contains e.born with
    | true => simpa using leftE_ok seen h2
    | false => simpa using All2.cons h1 (leftE_ok seen h2)

/-- Stamps below a bound, no two alike. -/
def bornNew (x : Nat) : List (AV × AV × Nat) → Bool
  | [] => true
  | (_, _, y) :: l => bif Nat.beq x y then false else bornNew x l

def bornOK (s : Nat) : List (AV × AV × Nat) → Bool
  | [] => true
  | (_, _, y) :: l => bif Nat.blt y s then (bif bornNew y l then bornOK s l else false) else false

theorem bornNew_ok {G : Nat → Nat} {ρ : Env} {x : Nat} : ∀ {es : List (AV × AV × Nat)} {l : List MapEntry}, All2 (entryOK G ρ) es l → bornNew x es = true → x ∉ l.map (·.born)
  | _, _, .nil, _ => by simp
  | (k, v, y) :: es, e :: l, .cons h1 h2, h => by
    simp only [bornNew] at h
    cases hb : Nat.beq x y with
    | true => simp [hb] at h
    | false =>
      simp only [hb, cond_false] at h
      have hy : y = e.born := h1.2.2
      simp only [List.map_cons, List.mem_cons, not_or]
      exact ⟨fun e1 => (by rw [← hy] at e1; rw [e1, Nat.beq_refl] at hb; cases hb), bornNew_ok h2 h⟩

theorem bornOK_ok {G : Nat → Nat} {ρ : Env} {s : Nat} : ∀ {es : List (AV × AV × Nat)} {l : List MapEntry}, All2 (entryOK G ρ) es l → bornOK s es = true → (∀ x ∈ l, x.born < s) ∧ (l.map (·.born)).Nodup
  | _, _, .nil, _ => ⟨by simp, List.Pairwise.nil⟩
  | (k, v, y) :: es, e :: l, .cons h1 h2, h => by
    simp only [bornOK] at h
    cases g1 : Nat.blt y s with
    | false => rw [g1] at h; cases h
    | true =>
      rw [g1] at h
      simp only [cond_true] at h
      cases g2 : bornNew y es with
      | false => rw [g2] at h; cases h
      | true =>
        rw [g2] at h
        obtain ⟨i1, i2⟩ := bornOK_ok h2 h
        have hy : y = e.born := h1.2.2
        rw [nblt, decide_eq_true_iff] at g1
        refine ⟨fun x hx => ?_, List.nodup_cons.2 ⟨by show e.born ∉ _; rw [← hy]; exact bornNew_ok h2 g2, i2⟩⟩
        rcases List.mem_cons.1 hx with rfl | hx
        · omega
        · exact i1 x hx

/-- Where the round's entry stands: the last stamp. -/
def lastN : List Nat → Option Nat
  | [] => none
  | x :: l => match l with
    | [] => some x
    | _ => lastN l

theorem lastN_eq : ∀ l : List Nat, lastN l = l.getLast?
  | [] => rfl
  | [x] => rfl
  | x :: y :: l => by
    show lastN (y :: l) = _
    rw [lastN_eq (y :: l), List.getLast?_cons_cons]

def findE (x : Nat) : List (AV × AV × Nat) → Option (AV × AV)
  | [] => none
  | (k, v, b) :: l => bif Nat.beq b x then some (k, v) else findE x l

theorem findE_ok {G : Nat → Nat} {ρ : Env} {x : Nat} {k v : AV} : ∀ {es : List (AV × AV × Nat)} {l : List MapEntry}, All2 (entryOK G ρ) es l → findE x es = some (k, v) → ∃ e ∈ l, e.born = x ∧ den G ρ k = some e.key ∧ den G ρ v = some e.val
  | _, _, .nil, h => by simp [findE] at h
  | (k', v', b) :: es, e :: l, .cons h1 h2, h => by
    simp only [findE] at h
    cases hb : Nat.beq b x with
    | true =>
      rw [hb] at h
      simp only [cond_true, Option.some.injEq, Prod.mk.injEq] at h
      obtain ⟨rfl, rfl⟩ := h
      have hy : b = e.born := h1.2.2
      exact ⟨e, List.mem_cons_self, by rw [← hy]; exact Nat.eq_of_beq_eq_true hb, h1.1, h1.2.1⟩
    | false =>
      rw [hb] at h
      obtain ⟨e', g1, g2⟩ := findE_ok h2 h
      exact ⟨e', List.mem_cons_of_mem _ g1, g2⟩

def entryA (m : Mem) (x : AV) : Option (AV × Mem) :=
  match x with
  | .ptr p 0 => match T.get p m.h with
    | some (.miter (some q) since seen c0) => match T.get q m.h with
      | some (.map es clk) => bif Nat.beq c0 clk then (bif bornOK clk es then (match lastN seen with
        | some b => match findE b es with
          | some (k, v) => some (.tup [k, v], m)
          | none => none
        | none => none) else none) else none
      | _ => none
    | _ => none
  | _ => none

theorem entry_ok {P : Program} {G : Nat → Nat} {w0 : World} {ρ : Env} {m m' : Mem} {w : World} (r : RelH G w0 ρ m.h m.n w) {x u : AV} {X : Value} (h : entryA m x = some (u, m')) (dx : den G ρ x = some X) :
    Does G w0 P (Instr.entry X) ρ m w u m' := by
  unfold entryA at h
  split at h
  case h_2 => cases h
  rename_i p
  split at h
  case h_2 => cases h
  rename_i q since seen c0 hp
  split at h
  case h_2 => cases h
  rename_i es clk hq
  cases e1 : Nat.beq c0 clk with
  | false => rw [e1] at h; cases h
  | true =>
  obtain rfl := Nat.eq_of_beq_eq_true e1
  rw [e1] at h
  simp only [cond_true] at h
  cases e2 : bornOK c0 es with
  | false => rw [e2] at h; cases h
  | true =>
  rw [e2] at h
  simp only [cond_true] at h
  split at h
  case h_2 => cases h
  rename_i b hl
  split at h
  case h_2 => cases h
  rename_i k v hf
  simp only [Option.some.injEq, Prod.mk.injEq] at h
  obtain ⟨rfl, rfl⟩ := h
  obtain ⟨bk, κ, hb, rfl⟩ := den_ptr dx
  obtain ⟨b', κ', y, h1, h2, h3, h4, h5⟩ := r.lt hp
  rw [hb] at h1
  obtain ⟨rfl, rfl⟩ : bk = b' ∧ κ = κ' := by simpa using h1
  obtain ⟨bm, κm, hm1, rfl⟩ := h5
  obtain ⟨b'', κ'', z, g1, g2, g3, g4, l, rfl, g5⟩ := r.lt hq
  rw [hm1] at g1
  obtain ⟨rfl, rfl⟩ : bm = b'' ∧ κm = κ'' := by simpa using g1
  obtain ⟨i1, i2⟩ := bornOK_ok g5 e2
  obtain ⟨e, he, rfl, dk, dv⟩ := findE_ok g5 hf
  rw [lastN_eq] at hl
  obtain ⟨init, rfl⟩ : ∃ init, seen = init ++ [e.born] := by
    rw [List.getLast?_eq_some_iff] at hl
    exact hl
  have hr : w.heap[bk]? = some (.mapIter (some bm) since (init.toArray.push e.born) c0) := by rw [h2]; simp
  have hrun := run_entry_at (P := P) w bk bm since init.toArray l.toArray c0 e hr g2 (by simpa using he) (by simpa using i2)
  exact ⟨ρ, w, _, hrun, by simp [den, denL, dk, dv], r, Fr.refl _ _ _⟩

/- ### Range over a text -/
def rangeA (P : Program) (m : Mem) (t : TypeId) (x : AV) : Option (AV × Mem) :=
  match P.underlying t, x with
  | some .string, .str n b => (newA m (.siter n b 0)).bind fun r => some (.ptr r.1 0, r.2)
  | some (.map _ _), .map q => match T.get q m.h with
    | some (.map es clk) => (newA m (.miter (some q) clk [] clk)).bind fun r => some (.ptr r.1 0, r.2)
    | _ => none
  | some (.map _ _), .nilM => (newA m (.miter none 0 [] 0)).bind fun r => some (.ptr r.1 0, r.2)
  | _, _ => none

theorem range_ok {P : Program} {G : Nat → Nat} {w0 : World} {ρ : Env} {m m' : Mem} {w : World} (r : RelH G w0 ρ m.h m.n w) {t : TypeId} {x u : AV} {X : Value} (h : rangeA P m t x = some (u, m')) (dx : den G ρ x = some X) :
    Does G w0 P (Instr.range t X) ρ m w u m' := by
  unfold rangeA at h
  split at h
  · rename_i n b hu
    obtain ⟨⟨p, m1⟩, hr, h⟩ := bind_some h
    simp only [Option.some.injEq, Prod.mk.injEq] at h
    obtain ⟨rfl, rfl⟩ := h
    simp only [den, Option.some.injEq] at dx; subst dx
    obtain ⟨q1, q2, q3⟩ := newA_ok (κ := 0) r hr (x := .stringIter (mkB n b) 0) rfl
    refine ⟨_, _, .pointer (some ⟨w.heap.size, 0, none⟩), ?_, by simp [den, q1], q2, q3⟩
    simp only [Instr.range, Sem.run_bind, run_underlying hu, Result.andThen_ok, Sem.run_pure]
    simp [newObj, Sem.run]
  · rename_i k e q hu
    split at h
    case h_2 => cases h
    rename_i es clk hq
    obtain ⟨⟨p, m1⟩, hr, h⟩ := bind_some h
    simp only [Option.some.injEq, Prod.mk.injEq] at h
    obtain ⟨rfl, rfl⟩ := h
    obtain ⟨b, κ, y, g1, g2, g3, l, rfl, g5⟩ := r.obj q _ hq
    have dX : X = .map (some b) := by
      simp only [den, g1, Option.some.injEq] at dx
      exact dx.symm
    subst dX
    have hle := Env.le_add (x := (w.heap.size, 0)) (r.fresh m.n (Nat.le_refl _))
    obtain ⟨q1, q2, q3⟩ := newA_ok (κ := 0) r hr (x := .mapIter (some b) clk #[] clk) ⟨b, κ, hle _ _ g1, rfl⟩
    exact ⟨_, _, .pointer (some ⟨w.heap.size, 0, none⟩), run_range_map w t k e b l.toArray clk hu g2, by simp [den, q1], q2, q3⟩
  · rename_i k e hu
    obtain ⟨⟨p, m1⟩, hr, h⟩ := bind_some h
    simp only [Option.some.injEq, Prod.mk.injEq] at h
    obtain ⟨rfl, rfl⟩ := h
    simp only [den, Option.some.injEq] at dx; subst dx
    obtain ⟨q1, q2, q3⟩ := newA_ok (κ := 0) r hr (x := .mapIter none 0 #[] 0) rfl
    exact ⟨_, _, .pointer (some ⟨w.heap.size, 0, none⟩), run_range_nilMap w t k e hu, by simp [den, q1], q2, q3⟩
  · cases h

/-- The next entry of a map of which one is left at most. -/
def nextM (m : Mem) (x : AV) : Option (AV × Mem) :=
  match x with
  | .ptr p 0 => match T.get p m.h with
    | some (.miter q since seen c0) => match q with
      | none => some (.tup [.bool false], m)
      | some q => match T.get q m.h with
        | some (.map es clk) => bif bornOK since es then (bif Nat.ble since c0 then (match leftE seen es with
          | [] => some (.tup [.bool false], m)
          | [(k, v, b)] => fL (seen ++ [b]) fun seen => T.putK p (some (.miter (some q) since seen clk)) m.h fun h => some (.tup [.bool true, k, v], ⟨h, m.n⟩)
          | _ => none) else none) else none
        | _ => none
    | _ => none
  | _ => none

theorem nextM_ok {P : Program} {G : Nat → Nat} {w0 : World} {ρ : Env} {m m' : Mem} {w : World} (r : RelH G w0 ρ m.h m.n w) {ty : TypeId} {x u : AV} {X : Value} (h : nextM m x = some (u, m')) (dx : den G ρ x = some X) :
    Does G w0 P (Instr.next X false ty) ρ m w u m' := by
  unfold nextM at h
  split at h
  case h_2 => cases h
  rename_i p
  split at h
  case h_2 => cases h
  rename_i q since seen c0 hp
  obtain ⟨bk, κ, hb, rfl⟩ := den_ptr dx
  obtain ⟨b', κ', y, h1, h2, h3, h4, h5⟩ := r.lt hp
  rw [hb] at h1
  obtain ⟨rfl, rfl⟩ : bk = b' ∧ κ = κ' := by simpa using h1
  cases q with
  | none =>
    simp only [ObjOK] at h5
    subst h5
    simp only [Option.some.injEq, Prod.mk.injEq] at h
    obtain ⟨rfl, rfl⟩ := h
    refine ⟨ρ, w, .tuple #[.bool false], ?_, rfl, r, Fr.refl _ _ _⟩
    have hget : (getObj bk).run P w = .ok (.mapIter none since seen.toArray c0) w := by simp [getObj, Sem.run, h2]
    simp only [Instr.next, Sem.run_bind, hget, Result.andThen_ok]
    rfl
  | some q =>
    obtain ⟨bm, κm, hm1, rfl⟩ := h5
    simp only at h
    split at h
    case h_2 => cases h
    rename_i es clk hq
    obtain ⟨b'', κ'', z, g1, g2, g3, g4, l, rfl, g5⟩ := r.lt hq
    rw [hm1] at g1
    obtain ⟨rfl, rfl⟩ : bm = b'' ∧ κm = κ'' := by simpa using g1
    cases e1 : bornOK since es with
    | false => rw [e1] at h; cases h
    | true =>
    rw [e1] at h
    cases e2 : Nat.ble since c0 with
    | false => rw [e2] at h; cases h
    | true =>
    rw [e2] at h
    simp only [cond_true] at h
    obtain ⟨i1, i2⟩ := bornOK_ok g5 e1
    have hle := Nat.le_of_ble_eq_true e2
    have hl := leftE_ok seen g5
    have hlo : (leftOf l.toArray seen.toArray).toList = l.filter fun e => !seen.toArray.contains e.born := by simp [leftOf]
    rcases run_next_at (P := P) w ty bk bm since c0 seen.toArray l.toArray clk h2 g2 (by simpa using i1) hle with ⟨j0, jr⟩ | ⟨e, he, w1, hw1, jr⟩
    · have hnil : leftE seen es = [] := by
        have h0 : (leftOf l.toArray seen.toArray).toList.length = 0 := by simpa using j0
        rw [hlo] at h0
        have hl2 := hl
        rw [List.eq_nil_of_length_eq_zero h0] at hl2
        cases hl2' : leftE seen es with
        | nil => rfl
        | cons _ _ => rw [hl2'] at hl2; cases hl2
      simp only [hnil, Option.some.injEq, Prod.mk.injEq] at h
      obtain ⟨rfl, rfl⟩ := h
      exact ⟨ρ, w, .tuple #[.bool false], jr, rfl, r, Fr.refl _ _ _⟩
    · rw [hlo] at he
      split at h
      · rename_i hnil
        rw [hnil] at hl
        cases hl' : (l.filter fun e => !seen.toArray.contains e.born) with
        | nil => rw [hl'] at he; cases he
        | cons _ _ => rw [hl'] at hl; cases hl
      · rename_i k v b hone
        rw [hone] at hl
        have hsing : ∃ e1, (l.filter fun e => !seen.toArray.contains e.born) = [e1] ∧ entryOK G ρ (k, v, b) e1 := by
          generalize (l.filter fun e => !seen.toArray.contains e.born) = q at hl
          cases hl with
          | cons a1 a2 => cases a2; exact ⟨_, rfl, a1⟩
        obtain ⟨e1, hs1, hs2⟩ := hsing
        rw [hs1] at he
        obtain rfl := List.mem_singleton.1 he
        obtain ⟨dk, dv, db⟩ := hs2
        simp only [fL_eq, T.putK_eq, Option.some.injEq, Prod.mk.injEq] at h
        obtain ⟨rfl, rfl⟩ := h
        simp only at dk dv db
        obtain ⟨q1, q2⟩ := setObj_rel r hp hb (o' := .miter (some q) since (seen ++ [b]) clk) (y := .mapIter (some bm) since (seen.toArray.push e.born) clk) ⟨bm, κm, hm1, by rw [db]; simp⟩
        refine ⟨ρ, _, _, jr, by simp [den, denL, dk, dv], ?_, ?_⟩
        · rcases hw1 with rfl | rfl <;> exact ⟨q1.obj, q1.inj, q1.fresh, q1.low, q1.os, q1.tape, q1.output, q1.size⟩
        · rcases hw1 with rfl | rfl <;> exact ⟨q2.ext, q2.size, q2.keep, q2.own, q2.news⟩
      · cases h

def nextA (m : Mem) (x : AV) (isString : Bool) : Option (AV × Mem) :=
  match isString with
  | true => match x with
    | .ptr p 0 => match T.get p m.h with
      | some (.siter n b pos) => bif Nat.blt pos n then fN (Nat.mod (Nat.div b (Nat.pow 256 pos)) 256) fun c => bif Nat.blt c 128 then
          fN (Nat.succ pos) fun pos' => T.putK p (some (.siter n b pos')) m.h fun h => some (.tup [.bool true, .int .i64 (.ofNat pos), .int .i32 (.ofNat c)], ⟨h, m.n⟩) else none
        else some (.tup [.bool false], m)
      | _ => none
    | _ => none
  | false => nextM m x

theorem next_ok {P : Program} {G : Nat → Nat} {w0 : World} {ρ : Env} {m m' : Mem} {w : World} (r : RelH G w0 ρ m.h m.n w) {ty : TypeId} {x u : AV} {b : Bool} {X : Value} (h : nextA m x b = some (u, m')) (dx : den G ρ x = some X) :
    Does G w0 P (Instr.next X b ty) ρ m w u m' := by
  unfold nextA at h
  split at h
  case h_2 => exact nextM_ok r h dx
  split at h
  case h_2 => cases h
  rename_i p
  obtain ⟨bk, κ, hb, rfl⟩ := den_ptr dx
  split at h
  case h_2 => cases h
  rename_i n b pos hp
  obtain ⟨b', κ', y, h1, h2, h3, h4, h5⟩ := r.lt hp
  rw [hb] at h1
  obtain ⟨rfl, rfl⟩ : bk = b' ∧ κ = κ' := by simpa using h1
  simp only [ObjOK] at h5
  subst h5
  have hget : (getObj bk).run P w = .ok (.stringIter (mkB n b) pos) w := by simp [getObj, Sem.run, h2]
  rw [nblt] at h
  by_cases hlt : pos < n
  · simp only [hlt, decide_true, cond_true, fN_eq, nblt] at h
    by_cases hc : Nat.mod (Nat.div b (Nat.pow 256 pos)) 256 < 128
    · simp only [hc, decide_true, cond_true, T.putK_eq, Option.some.injEq, Prod.mk.injEq] at h
      obtain ⟨rfl, rfl⟩ := h
      have hsz : pos < (mkB n b).size := by rw [size_mkB]; exact hlt
      have hbyte : ((mkB n b)[pos]'hsz).toNat = Nat.mod (Nat.div b (Nat.pow 256 pos)) 256 := by
        have h1 := mkB_get? n b pos hlt
        rw [getElem?_pos (mkB n b) pos hsz] at h1
        simp only [Option.some.injEq] at h1
        rw [h1]; simp; rfl
      have hdec := decode_ascii (mkB n b) pos hsz (by rw [hbyte]; exact hc)
      rw [hbyte] at hdec
      obtain ⟨q1, q2⟩ := setObj_rel r hp hb (o' := .siter n b pos.succ) (y := .stringIter (mkB n b) (pos + 1)) rfl
      refine ⟨ρ, _, _, ?_, rfl, q1, q2⟩
      simp only [Instr.next, Sem.run_bind, hget, Result.andThen_ok, hsz, if_true, hdec, setObj_run h2 (y := .stringIter (mkB n b) (pos + 1)) (fun _ _ _ => by simp), Sem.run_pure]
      rfl
    · simp only [hc, decide_false, cond_false, reduceCtorEq] at h
  · simp only [hlt, decide_false, cond_false, Option.some.injEq, Prod.mk.injEq] at h
    obtain ⟨rfl, rfl⟩ := h
    have hsz : ¬ pos < (mkB n b).size := by rw [size_mkB]; exact hlt
    refine ⟨ρ, w, .tuple #[.bool false], ?_, rfl, r, Fr.refl _ _ _⟩
    simp only [Instr.next, Sem.run_bind, hget, Result.andThen_ok, hsz, if_false, Sem.run_pure]
end
end Go.Ev
