/-
  A part of the evaluator for closed runs: proved once over any program.
-/
import Derived.Test.YtgcpgkbplgjpoaaGreatDoorEvG
import Derived.Laws.StructEq
import Derived.Laws.Unary
import Derived.Laws.BytesString
import Derived.Laws.Build
import Derived.LaidEql
set_option linter.unusedVariables false
set_option linter.unusedSimpArgs false
namespace Go.Ev
noncomputable section

/-! ### One operand -/
def kindEq : IntKind → IntKind → Bool
  | .i8, .i8 | .i16, .i16 | .i32, .i32 | .i64, .i64 | .u8, .u8 | .u16, .u16 | .u32, .u32 | .u64, .u64 => true
  | _, _ => false
theorem kindEq_iff {a b : IntKind} (h : kindEq a b = true) : a = b := by cases a <;> cases b <;> first | rfl | (simp [kindEq] at h)

def unA (op : UnOp) (v : AV) : Option AV :=
  match op, v with
  | .neg, .int k n => iArith .sub k 0 n
  | .xor, .int k n => bif isSigned k then none else iArith .xor k (.ofNat (lim k)) n
  | .not, .bool b => fB (!b) fun b => some (.bool b)
  | _, _ => none

theorem un_ok {P : Program} {op : UnOp} {v u : AV} {G : Nat → Nat} {ρ : Env} {x : Value} (h : unA op v = some u) (d : den G ρ v = some x) (w : World) :
    ∃ y, (Op.unary op x).run P w = .ok y w ∧ den G ρ u = some y := by
  cases op <;> cases v <;> simp only [unA, reduceCtorEq] at h <;> simp only [den, Option.some.injEq] at d <;> subst d
  case neg k n =>
    obtain ⟨y, h1, h2⟩ := iArith_ok (P := P) (t := 0) h (by simp) (by simp) w
    refine ⟨y, ?_, h2 G ρ⟩
    simp only [Go.binOp, ne_eq, not_true_eq_false, if_false] at h1
    exact h1
  case xor k n =>
    cases hs : isSigned k with
    | true => simp [hs] at h
    | false =>
      simp [hs] at h
      obtain ⟨y, h1, h2⟩ := iArith_ok (P := P) (t := 0) h (by simp) (by simp) w
      refine ⟨y, ?_, h2 G ρ⟩
      have e1 : k.signed = false := by cases k <;> simp_all [isSigned, IntKind.signed]
      have e2 : k.max = (lim k : Int) := by cases k <;> simp_all [isSigned, IntKind.max, lim, IntKind.signed, IntKind.bits]
      simp only [Go.binOp, ne_eq, not_true_eq_false, if_false] at h1
      simp only [unary_xor, e1, e2, Bool.false_eq_true, if_false]
      exact h1
  case not b =>
    simp only [fB_eq, Option.some.injEq] at h; subst h
    exact ⟨_, rfl, rfl⟩

/-- Bytes in memory, as a text. -/
def textOf (h : T AObj) (v : AV) : Option AV :=
  match v with
  | .nilS => some (.str 0 0)
  | .sl p off len _ => match T.get p h with
    | some (.bytes _ _ _ n b) => bif Nat.ble (Nat.add off len) n then fN (Nat.mod (Nat.div b (Nat.pow 256 off)) (Nat.pow 256 len)) fun c => some (.str len c) else none
    | _ => none
  | .slu p d len 1 => match T.get p h with
    | some (.bytes _ _ _ n b) => bif Nat.ble (Nat.add d len) n then fN (Nat.mod (Nat.div b (Nat.pow 256 d)) (Nat.pow 256 len)) fun c => some (.str len c) else none
    | _ => none
  | _ => none

def isU8 (P : Program) (t : TypeId) : Bool :=
  match P.underlying t with
  | some (.int .u8) => true
  | _ => false
theorem isU8_ok {P : Program} {t : TypeId} (h : isU8 P t = true) : P.underlying t = some (.int .u8) := by
  unfold isU8 at h
  split at h
  · assumption
  · cases h

theorem cond_some' {α : Type} {c : Bool} {x : Option α} {a : α} (h : (bif c then x else none) = some a) : c = true ∧ x = some a := by
  cases c
  · cases h
  · exact ⟨rfl, h⟩

def convU (C : Cx) (h : T AObj) (s d : TypeId) (p : Key) (off : Nat) : Option AV :=
  match T.get p h with
  | some (.cells none e _ l) => bif Nat.blt off l.length then (match C.P.underlying s, C.P.underlying d with
    | some (.pointer t), some .unsafePointer => (match sizeA C.P t with
      | some (_ + 1) => some (.ptr p off)
      | _ => none)
    | some .unsafePointer, some (.pointer u) => (match sizeA C.P u with
      | some _ => bif liesAt C.P C.P.depth e (l.length / C.P.cellsOf e) off u 1 then some (.ptr p off) else none
      | none => none)
    | _, _ => none) else none
  | _ => none

theorem seenAt_cells {P : Program} {w : World} {b off : Nat} {sp : Option Nat} {c : Array Value} {e : TypeId} {f : Nat × Nat} (h : w.heap[b]? = some (.cells c e f)) : (Conv.seenAt ⟨b, off, none⟩).run P w = .ok ⟨b, off, none⟩ w := by
  have h1 : (shape b).run P w = .ok (some (e, c.size)) w := by simp [shape, Sem.run, World.shape?, h]
  have h2 : (viewAt b).run P w = .ok none w := by simp [viewAt, Sem.run_bind, h1, Result.andThen_ok]
  simp [Conv.seenAt, Sem.run_bind, h2, Result.andThen_ok]

theorem convU_ok {C : Cx} {G : Nat → Nat} {w0 : World} {ρ : Env} {h : T AObj} {n : Key} {w : World} (r : RelH G w0 ρ h n w) {s t : TypeId} {p : Key} {off : Nat} {u : AV} {x : Value} (e : convU C h s t p off = some u) (d : den G ρ (.ptr p off) = some x) :
    ∃ y, (convert s t x).run C.P w = .ok y w ∧ den G ρ u = some y := by
  unfold convU at e
  cases hp : T.get p h with
  | none => simp [hp] at e
  | some o =>
    obtain ⟨b, κ, ox, h1, h2, h3, h4⟩ := r.obj p o hp
    cases o <;> simp only [hp, reduceCtorEq] at e
    rename_i us ee fz l
    cases us <;> simp only [reduceCtorEq] at e
    obtain ⟨hlt, e⟩ := cond_some' e
    rw [nblt, decide_eq_true_iff] at hlt
    obtain ⟨c, f, xs, rfl, _, k1, k2, k3⟩ := h4
    simp only at k3
    simp only [den, h1, Option.map_some, Option.some.injEq] at d
    have hb : w.heap[b]? = some (.cells c ee f) := h2
    have hs1 : (shape b).run C.P w = .ok (some (ee, c.size)) w := by simp [shape, Sem.run, World.shape?, hb]
    cases hs : C.P.underlying s with
    | none => simp [hs] at e
    | some ds =>
      cases ht : C.P.underlying t with
      | none => cases ds <;> simp [hs, ht] at e
      | some dt =>
        cases ds <;> cases dt <;> simp only [hs, ht, reduceCtorEq] at e
        case unsafePointer.pointer v =>
          cases hz : sizeA C.P v with
          | none => simp [hz] at e
          | some z =>
            simp only [hz] at e
            obtain ⟨hl, e⟩ := cond_some' e
            simp only [Option.some.injEq] at e; subst e; subst d
            refine ⟨.pointer (some ⟨b, off, none⟩), ?_, by simp [den, h1]⟩
            have hv : (variablesAt ⟨b, off, none⟩ v 1).run C.P w = .ok true w := by
              simp [variablesAt, Sem.run_bind, shape, program, Sem.run, World.shape?, hb, Result.andThen_ok, k3, hl]
            simp [convert, run_underlying hs, run_underlying ht, Conv.unsafePointer, Sem.run_bind, seenAt_cells (sp := none) hb, Result.andThen_ok, hv, sizeA_ok hz]
        case pointer.unsafePointer v =>
          cases hz : sizeA C.P v with
          | none => simp [hz] at e
          | some z =>
            cases z with
            | zero => simp [hz] at e
            | succ z =>
              simp only [hz, Option.some.injEq] at e; subst e; subst d
              refine ⟨.pointer (some ⟨b, off, none⟩), ?_, by simp [den, h1]⟩
              have hc : (cellsIn b).run C.P w = .ok (some c.size) w := by simp [cellsIn, Sem.run_bind, hs1, Result.andThen_ok]
              have : ¬ c.size ≤ off := by omega
              simp [convert, run_underlying hs, run_underlying ht, Conv.unsafePointer, Sem.run_bind, seenAt_cells (sp := none) hb, Result.andThen_ok, hc, sizeA_ok hz, this]

def convA (C : Cx) (h : T AObj) (s d : TypeId) (v : AV) : Option AV :=
  match v with
  | .int _ n => match C.P.underlying d, C.P.underlying s with
    | some (.int k), some _ => fI (wr k n) fun n => some (.int k n)
    | _, _ => none
  | .str n b => match C.P.underlying d, C.P.underlying s with
    | some .string, some _ => some (.str n b)
    | _, _ => none
  | .ptr p off => convU C h s d p off
  | v => match C.P.underlying s, C.P.underlying d with
    | some (.slice e), some .string => bif isU8 C.P e then textOf h v else none
    | _, _ => none

theorem foldl_push (ns : List UInt8) (s : ByteArray) : ((ns.map fun c => (c.toNat : Int)).foldl (fun r n => r.push (UInt8.ofNat n.toNat)) s) = s ++ ⟨ns.toArray⟩ := by
  induction ns generalizing s with
  | nil => apply ByteArray.ext; simp
  | cons c ns ih =>
    simp only [List.map_cons, List.foldl_cons]
    rw [ih]
    apply ByteArray.ext
    simp [Int.toNat_natCast]

theorem text_run {P : Program} {w : World} {b off len n bs : Nat} {cap : Nat} {c : Array Value} {ty : TypeId} {f : Nat × Nat} (hb : w.heap[b]? = some (.cells c ty f))
    (hpre : ((bytesL n bs).map byteV) <+: c.toList) (hle : off + len ≤ n) :
    (Conv.bytesToString (.slice (some ⟨b, off, none⟩) len cap)).run P w = .ok (.string (mkB len (bs / 256 ^ off % 256 ^ len))) w := by
  have hl := run_loadCells_list (P := P) w ⟨b, off, none⟩ (((bytesL len (bs / 256 ^ off)).map fun c => (c.toNat : Int)).map (Value.int .u8)) (fun j y hj => by
    rw [add_plain, cell_of_row hb, ← Array.getElem?_toList]
    apply prefix_get hpre
    simp only [List.getElem?_map] at hj ⊢
    have hjl : j < len := by
      rcases Nat.lt_or_ge j len with h' | h'
      · exact h'
      · simp [List.getElem?_eq_none, h'] at hj
    rw [bytesL_get? _ _ _ hjl] at hj
    rw [bytesL_get? _ _ _ (by omega)]
    rw [Nat.div_div_eq_div_mul, ← Nat.pow_add] at hj
    simpa [byteV] using hj)
  simp only [List.length_map, length_bytesL] at hl
  rw [run_bytesToString w _ len cap _ hl, foldl_push]
  congr 2
  apply ByteArray.ext
  simp [mkB, bytesL_mod]

theorem textOf_ok {P : Program} {G : Nat → Nat} {w0 : World} {ρ : Env} {h : T AObj} {n : Key} {w : World} (r : RelH G w0 ρ h n w) {v u : AV} {x : Value} (e : textOf h v = some u) (d : den G ρ v = some x) :
    ∃ y, (Conv.bytesToString x).run P w = .ok y w ∧ den G ρ u = some y ∧ ∃ a l c, x = .slice a l c := by
  cases v <;> simp only [textOf, reduceCtorEq] at e
  case nilS =>
    simp only [Option.some.injEq] at e; subst e
    simp only [den, Option.some.injEq] at d; subst d
    exact ⟨.string .empty, rfl, rfl, _, _, _, rfl⟩
  case sl p off len cap =>
    cases hp : T.get p h with
    | none => simp [hp] at e
    | some o =>
      obtain ⟨b, κ, y, h1, h2, h3, h4, h5⟩ := r.lt hp
      cases o <;> simp only [hp, reduceCtorEq] at e
      rename_i uu ty fz m bs
      obtain ⟨c, f, rfl, _, hpre, _⟩ := h5
      rw [nble] at e
      by_cases hle : off.add len ≤ m
      · simp only [hle, decide_true, cond_true, fN_eq, Option.some.injEq] at e; subst e
        simp [den, h1] at d; subst d
        exact ⟨_, text_run h2 hpre hle, rfl, _, _, _, rfl⟩
      · simp only [hle, decide_false, cond_false, reduceCtorEq] at e
  case slu p dd len sz =>
    match sz, e, d with
    | 0, e, d => simp at e
    | n + 2, e, d => simp at e
    | 1, e, d =>
      simp only at e
      cases hp : T.get p h with
      | none => simp [hp] at e
      | some o =>
        obtain ⟨b, κ, y, h1, h2, h3, h4, h5⟩ := r.lt hp
        cases o <;> simp only [hp, reduceCtorEq] at e
        rename_i uu ty fz m bs
        obtain ⟨c, f, rfl, _, hpre, _⟩ := h5
        rw [nble] at e
        by_cases hle : dd.add len ≤ m
        · simp only [hle, decide_true, cond_true, fN_eq, Option.some.injEq] at e; subst e
          simp only [den, h1] at d
          split at d
          · simp at d; subst d
            refine ⟨_, ?_, rfl, _, _, _, rfl⟩
            exact text_run h2 hpre hle
          · cases d
        · simp only [hle, decide_false, cond_false, reduceCtorEq] at e

theorem conv_ok {C : Cx} {G : Nat → Nat} {w0 : World} {ρ : Env} {h : T AObj} {n : Key} {w : World} (r : RelH G w0 ρ h n w) {s t : TypeId} {v u : AV} {x : Value} (e : convA C h s t v = some u) (d : den G ρ v = some x) :
    ∃ y, (convert s t x).run C.P w = .ok y w ∧ den G ρ u = some y := by
  have other : ∀ (hh : (match C.P.underlying s, C.P.underlying t with
    | some (.slice e), some .string => bif isU8 C.P e then textOf h v else none
    | _, _ => none) = some u), ∃ y, (convert s t x).run C.P w = .ok y w ∧ den G ρ u = some y := fun hh => by
    cases hs : C.P.underlying s with
    | none => simp [hs] at hh
    | some ds =>
      cases ht : C.P.underlying t with
      | none => cases ds <;> simp [hs, ht] at hh
      | some dt =>
        cases ds <;> cases dt <;> simp [hs, ht] at hh
        rename_i e
        cases hu : isU8 C.P e with
        | false => simp [hu] at hh
        | true =>
          simp [hu] at hh
          obtain ⟨y, h1, h2, a, l, c, rfl⟩ := textOf_ok (P := C.P) r hh d
          refine ⟨y, ?_, h2⟩
          rw [run_convert_bytes_string w s t e a l c hs (isU8_ok hu) ht]
          exact h1
  cases v
  case int k n =>
    simp only [convA] at e
    cases ht : C.P.underlying t with
    | none => simp [ht] at e
    | some dt =>
      cases hs : C.P.underlying s with
      | none => cases dt <;> simp [hs, ht] at e
      | some ds =>
        cases dt <;> simp only [hs, ht, reduceCtorEq, fI_eq, Option.some.injEq] at e
        subst e
        simp only [den, Option.some.injEq] at d ⊢; subst d
        exact ⟨_, by simp [convert, run_underlying hs, run_underlying ht, Conv.intToInt]; rfl, by rw [wr_eq]⟩
  case str n b =>
    simp only [convA] at e
    cases ht : C.P.underlying t with
    | none => simp [ht] at e
    | some dt =>
      cases hs : C.P.underlying s with
      | none => cases dt <;> simp [hs, ht] at e
      | some ds =>
        cases dt <;> simp only [hs, ht, reduceCtorEq, Option.some.injEq] at e
        subst e
        simp only [den, Option.some.injEq] at d ⊢; subst d
        exact ⟨.string (mkB n b), by cases ds <;> simp [convert, run_underlying hs, run_underlying ht], rfl⟩
  case ptr p off => exact convU_ok r e d
  all_goals exact other e

def mkIfA (P : Program) (t : TypeId) (v : AV) : Option AV :=
  match P.underlying t with
  | some (.interface _) => none
  | some _ => some (.iface t v)
  | none => none

theorem mkIf_ok {P : Program} {G : Nat → Nat} {ρ : Env} {t : TypeId} {v u : AV} {x : Value} (h : mkIfA P t v = some u) (d : den G ρ v = some x) (w : World) :
    ∃ y, (Instr.makeInterface t x).run P w = .ok y w ∧ den G ρ u = some y := by
  unfold mkIfA at h
  cases hu : P.underlying t with
  | none => simp [hu] at h
  | some ty =>
    have hc : u = .iface t v ∧ P.concrete t = true := by
      cases ty <;> simp [hu] at h <;> (subst h; simp [Program.concrete, hu])
    obtain ⟨rfl, hc⟩ := hc
    exact ⟨_, run_makeInterface w t x hc, by simp [den, d]⟩

def extractA (v : AV) (i : Nat) : Option AV :=
  match v with
  | .tup l => nth l i
  | _ => none

theorem extract_ok {P : Program} {G : Nat → Nat} {ρ : Env} {v u : AV} {i : Nat} {x : Value} (h : extractA v i = some u) (d : den G ρ v = some x) (w : World) :
    ∃ y, (Instr.extract x i).run P w = .ok y w ∧ den G ρ u = some y := by
  cases v <;> simp only [extractA, reduceCtorEq] at h
  rename_i l
  rw [nth_eq] at h
  simp only [den] at d
  cases hl : denL G ρ l with
  | none => simp [hl] at d
  | some xs =>
    simp [hl] at d; subst d
    obtain ⟨y, h1, h2⟩ := denL_get hl h
    exact ⟨y, by simp [Instr.extract, h1], h2⟩

def notNil (v : AV) : Bool :=
  match v with
  | .nilP | .nilI | .nilF => false
  | .ptr .. | .gptr .. | .iface .. | .fn .. => true
  | _ => false

theorem notNil_ok {G : Nat → Nat} {ρ : Env} {v : AV} {x : Value} (h : notNil v = true) (d : den G ρ v = some x) :
    (∃ a, x = .pointer (some a)) ∨ (∃ t y, x = .iface t y) ∨ ∃ f xs ys, x = .func (.func f) xs ys := by
  cases v <;> simp only [notNil, Bool.false_eq_true] at h <;> simp only [den] at d
  case ptr p off => split at d <;> simp at d; subst d; exact .inl ⟨_, rfl⟩
  case gptr g off => simp at d; subst d; exact .inl ⟨_, rfl⟩
  case fn f a b => split at d <;> simp at d; subst d; exact .inr (.inr ⟨_, _, _, rfl⟩)
  case iface t y => split at d <;> simp at d; subst d; exact .inr (.inl ⟨_, _, rfl⟩)

/-! ### Equality -/
def eqF (eq : TypeId → AV → AV → Option Bool) (P : Program) (l m : List AV) : List Field → Option Bool
  | [] => some true
  | f :: fs => bif f.name == "_" then none else match partA P f.type l f.offset, partA P f.type m f.offset with
    | some a, some b => match eq f.type a b with
      | some true => eqF eq P l m fs
      | some false => some false
      | none => none
    | _, _ => none

def eqA (P : Program) : Nat → TypeId → AV → AV → Option Bool
  | 0, _, _, _ => none
  | d + 1, t, x, y =>
    match P.underlying t with
    | some .bool => match x, y with
      | .bool a, .bool b => fB (bif a then b else !b) some
      | _, _ => none
    | some (.int _) => match x, y with
      | .int k a, .int k' b => bif kindEq k k' then fB (ieq a b) some else none
      | _, _ => none
    | some .string => match x, y with
      | .str n a, .str m b => fB (sEq n a m b) some
      | _, _ => none
    | some (.pointer e) => match x, y with
      | .nilP, .nilP => some true
      | .nilP, .ptr .. | .nilP, .gptr .. | .ptr .., .nilP | .gptr .., .nilP => some false
      | .ptr p a, .ptr q b => match sizeA P e with
        | some (_ + 1) => bif Key.eqb p q then fB (Nat.beq a b) some else none
        | _ => none
      | .gptr p a, .gptr q b => match sizeA P e with
        | some (_ + 1) => bif Nat.beq p q then fB (Nat.beq a b) some else none
        | _ => none
      | _, _ => none
    | some (.interface _) => match x, y with
      | .nilI, .nilI => some true
      | .nilI, .iface .. | .iface .., .nilI => some false
      | .iface tx vx, .iface ty vy => bif Nat.beq tx ty then (match P.info? tx with
          | some i => bif i.comparable then eqA P d tx vx vy else none
          | none => none) else some false
      | _, _ => none
    | some (.struct fs) => match x, y with
      | .agg l, .agg m => bif P.stoodInHeld t then none else eqF (eqA P d) P l m fs.toList
      | _, _ => none
    | some (.slice _) => match x, y with
      | .nilS, .nilS => some true
      | .nilS, .sl .. | .nilS, .slu .. | .sl .., .nilS | .slu .., .nilS => some false
      | _, _ => none
    | some (.map _ _) => match x, y with
      | .nilM, .nilM => some true
      | .nilM, .map _ | .map _, .nilM => some false
      | _, _ => none
    | some (.func _ _ _) => match x, y with
      | .nilF, .nilF => some true
      | .nilF, .fn .. | .fn .., .nilF => some false
      | _, _ => none
    | _ => none

theorem den_nilP {G : Nat → Nat} {ρ : Env} {x : Value} (d : den G ρ .nilP = some x) : x = .pointer none := by simpa [den, eq_comm] using d
theorem den_ptr {G : Nat → Nat} {ρ : Env} {x : Value} {p : Key} {o : Nat} (d : den G ρ (.ptr p o) = some x) : ∃ b κ, ρ p = some (b, κ) ∧ x = .pointer (some ⟨b, o, none⟩) := by
  simp only [den] at d
  split at d
  · rename_i b κ hp; exact ⟨b, κ, hp, by simpa [eq_comm] using d⟩
  · cases d
theorem den_sl {G : Nat → Nat} {ρ : Env} {x : Value} {p : Key} {o l c : Nat} (d : den G ρ (.sl p o l c) = some x) : ∃ b κ, ρ p = some (b, κ) ∧ x = .slice (some ⟨b, o, none⟩) l c := by
  simp only [den] at d
  split at d
  · rename_i b κ hp; exact ⟨b, κ, hp, by simpa [eq_comm] using d⟩
  · cases d
theorem den_slu {G : Nat → Nat} {ρ : Env} {x : Value} {p : Key} {o l s : Nat} (d : den G ρ (.slu p o l s) = some x) : ∃ b κ, ρ p = some (b, κ) ∧ o + l ≤ κ ∧ x = .slice (some ⟨b, o * s, none⟩) l (κ - o) := by
  simp only [den] at d
  split at d
  · rename_i b κ hp
    split at d
    · rename_i hle; exact ⟨b, κ, hp, hle, by simpa [eq_comm] using d⟩
    · cases d
  · cases d
theorem den_map {G : Nat → Nat} {ρ : Env} {x : Value} {p : Key} (d : den G ρ (.map p) = some x) : ∃ b κ, ρ p = some (b, κ) ∧ x = .map (some b) := by
  simp only [den] at d
  split at d
  · rename_i b κ hp; exact ⟨b, κ, hp, by simpa [eq_comm] using d⟩
  · cases d
theorem den_fn {G : Nat → Nat} {ρ : Env} {x : Value} {f : FuncId} {a b : List AV} (d : den G ρ (.fn f a b) = some x) : ∃ xs ys, denL G ρ a = some xs ∧ denL G ρ b = some ys ∧ x = .func (.func f) xs.toArray ys.toArray := by
  simp only [den] at d
  split at d
  · rename_i xs ys h1 h2; exact ⟨xs, ys, h1, h2, by simpa [eq_comm] using d⟩
  · cases d
theorem den_iface {G : Nat → Nat} {ρ : Env} {x : Value} {t : TypeId} {v : AV} (d : den G ρ (.iface t v) = some x) : ∃ y, den G ρ v = some y ∧ x = .iface t y := by
  simp only [den] at d
  split at d
  · rename_i y h1; exact ⟨y, h1, by simpa [eq_comm] using d⟩
  · cases d
theorem den_agg {G : Nat → Nat} {ρ : Env} {x : Value} {l : List AV} (d : den G ρ (.agg l) = some x) : ∃ xs, denL G ρ l = some xs ∧ x = .agg xs.toArray := by
  simp only [den] at d
  split at d
  · rename_i y h1; exact ⟨y, h1, by simpa [eq_comm] using d⟩
  · cases d
theorem den_tup {G : Nat → Nat} {ρ : Env} {x : Value} {l : List AV} (d : den G ρ (.tup l) = some x) : ∃ xs, denL G ρ l = some xs ∧ x = .tuple xs.toArray := by
  simp only [den] at d
  split at d
  · rename_i y h1; exact ⟨y, h1, by simpa [eq_comm] using d⟩
  · cases d

theorem eqF_ok {P : Program} {G : Nat → Nat} {ρ : Env} {eq : TypeId → AV → AV → Option Bool} {D : Nat} {w : World}
    (ih : ∀ t v u x y b, eq t v u = some b → den G ρ v = some x → den G ρ u = some y → (Op.equalIn D t x y).run P w = .ok b w) {l m : List AV} {xs ys : List Value} (dl : denL G ρ l = some xs) (dm : denL G ρ m = some ys) :
    ∀ {fs : List Field} {b : Bool}, eqF eq P l m fs = some b → (Op.eqFields D xs.toArray ys.toArray fs).run P w = .ok b w
  | [], b, h => by simp [eqF] at h; subst h; rfl
  | f :: fs, b, h => by
    simp only [eqF] at h
    cases hn : f.name == "_" with
    | true => simp [hn] at h
    | false =>
      have hne : f.name ≠ "_" := by simpa using hn
      cases h1 : partA P f.type l f.offset with
      | none => simp [hn, h1] at h
      | some a =>
        cases h2 : partA P f.type m f.offset with
        | none => simp [hn, h1, h2] at h
        | some c =>
          obtain ⟨x, r1, d1⟩ := part_ok h1 dl w
          obtain ⟨y, r2, d2⟩ := part_ok h2 dm w
          cases h3 : eq f.type a c with
          | none => simp [hn, h1, h2, h3] at h
          | some g =>
            have r3 := ih _ _ _ _ _ _ h3 d1 d2
            simp only [Op.eqFields, if_pos hne, Sem.run_bind, r1, r2, r3, Result.andThen_ok, Sem.run_ite]
            cases g with
            | false => simp [hn, h1, h2, h3] at h; subst h; simp
            | true => simp [hn, h1, h2, h3] at h; simp [eqF_ok ih dl dm h]

set_option maxHeartbeats 1000000 in
theorem eqA_ok {P : Program} {G : Nat → Nat} {ρ : Env} {w : World} : ∀ (n m : Nat) (t : TypeId) (v u : AV) (x y : Value) (b : Bool), eqA P n t v u = some b → den G ρ v = some x → den G ρ u = some y → (Op.equalIn (n + m) t x y).run P w = .ok b w
  | 0, m, t, v, u, x, y, b, h, dx, dy => by simp [eqA] at h
  | n + 1, m, t, v, u, x, y, b, h, dx, dy => by
    rw [show n + 1 + m = (n + m) + 1 from by omega]
    simp only [eqA] at h
    cases hu : P.underlying t with
    | none => simp [hu] at h
    | some ty =>
      cases ty <;> simp only [hu, reduceCtorEq] at h
      case bool =>
        cases v <;> cases u <;> simp only [reduceCtorEq, fB_eq, Option.some.injEq] at h
        simp only [den, Option.some.injEq] at dx dy; subst dx dy
        rename_i p q
        rw [run_equalIn_bool' w _ t p q hu, ← h]
        cases p <;> cases q <;> rfl
      case int k0 =>
        cases v <;> cases u <;> simp only [reduceCtorEq, fB_eq] at h
        simp only [den, Option.some.injEq] at dx dy; subst dx dy
        rename_i k p k' q
        cases hk : kindEq k k' with
        | false => simp [hk] at h
        | true =>
          simp only [hk, cond_true, Option.some.injEq] at h
          obtain rfl := kindEq_iff hk
          rw [run_equalIn_int w _ t k _ p q hu, ← h, ieq_eq]
      case string =>
        cases v <;> cases u <;> simp only [reduceCtorEq, fB_eq, Option.some.injEq] at h
        simp only [den, Option.some.injEq] at dx dy; subst dx dy
        rw [run_equalIn_string w _ t _ _ hu, ← h, sEq_toList]
      case pointer e =>
        cases v <;> cases u <;> simp only [reduceCtorEq, Option.some.injEq] at h
        case nilP.nilP => subst h; rw [den_nilP dx, den_nilP dy]; (simp only [Op.equalIn, Sem.run_bind, run_underlying hu, Result.andThen_ok]; rfl)
        case nilP.ptr => subst h; obtain ⟨_, _, _, rfl⟩ := den_ptr dy; rw [den_nilP dx]; (simp only [Op.equalIn, Sem.run_bind, run_underlying hu, Result.andThen_ok]; rfl)
        case nilP.gptr => subst h; simp only [den, Option.some.injEq] at dy; subst dy; rw [den_nilP dx]; (simp only [Op.equalIn, Sem.run_bind, run_underlying hu, Result.andThen_ok]; rfl)
        case ptr.nilP => subst h; obtain ⟨_, _, _, rfl⟩ := den_ptr dx; rw [den_nilP dy]; (simp only [Op.equalIn, Sem.run_bind, run_underlying hu, Result.andThen_ok]; rfl)
        case gptr.nilP => subst h; simp only [den, Option.some.injEq] at dx; subst dx; rw [den_nilP dy]; (simp only [Op.equalIn, Sem.run_bind, run_underlying hu, Result.andThen_ok]; rfl)
        case ptr.ptr p a q c =>
          cases hs : sizeA P e with
          | none => simp [hs] at h
          | some s =>
            cases s with
            | zero => simp [hs] at h
            | succ s =>
              cases hk : Key.eqb p q with
              | false => simp [hs, hk] at h
              | true =>
                obtain rfl := (Key.eqb_iff p q).1 hk
                simp only [hs, hk, cond_true, fB_eq, Option.some.injEq, nbeq] at h
                obtain ⟨b1, κ1, e1, rfl⟩ := den_ptr dx
                obtain ⟨b2, κ2, e2, rfl⟩ := den_ptr dy
                rw [e1] at e2
                obtain ⟨rfl, rfl⟩ : b1 = b2 ∧ κ1 = κ2 := by simpa using e2
                simp only [Op.equalIn, Sem.run_bind, run_underlying hu, Result.andThen_ok, sizeA_ok hs, Sem.run_ite, sameAddr]
                rw [← h]
                simp
                by_cases c1 : a = c <;> simp [c1]
        case gptr.gptr p a q c =>
          cases hs : sizeA P e with
          | none => simp [hs] at h
          | some s =>
            cases s with
            | zero => simp [hs] at h
            | succ s =>
              cases hk : Nat.beq p q with
              | false => simp [hs, hk] at h
              | true =>
                obtain rfl := Nat.eq_of_beq_eq_true hk
                simp only [hs, hk, cond_true, fB_eq, Option.some.injEq, nbeq] at h
                simp only [den, Option.some.injEq] at dx dy; subst dx dy
                simp only [Op.equalIn, Sem.run_bind, run_underlying hu, Result.andThen_ok, sizeA_ok hs, Sem.run_ite, sameAddr]
                rw [← h]
                simp
                by_cases c1 : a = c <;> simp [c1]
      case interface ms =>
        cases v <;> cases u <;> simp only [reduceCtorEq, Option.some.injEq] at h
        case nilI.nilI => subst h; simp only [den, Option.some.injEq] at dx dy; subst dx dy; (simp only [Op.equalIn, Sem.run_bind, run_underlying hu, Result.andThen_ok]; rfl)
        case nilI.iface => subst h; obtain ⟨_, _, rfl⟩ := den_iface dy; simp only [den, Option.some.injEq] at dx; subst dx; (simp only [Op.equalIn, Sem.run_bind, run_underlying hu, Result.andThen_ok]; rfl)
        case iface.nilI => subst h; obtain ⟨_, _, rfl⟩ := den_iface dx; simp only [den, Option.some.injEq] at dy; subst dy; (simp only [Op.equalIn, Sem.run_bind, run_underlying hu, Result.andThen_ok]; rfl)
        case iface.iface tx vx ty vy =>
          obtain ⟨x', dx', rfl⟩ := den_iface dx
          obtain ⟨y', dy', rfl⟩ := den_iface dy
          rw [nbeq] at h
          by_cases ht : tx = ty
          · subst ht
            simp only [decide_true, cond_true] at h
            cases hi : P.info? tx with
            | none => simp [hi] at h
            | some i =>
              cases hc : i.comparable with
              | false => simp [hi, hc] at h
              | true =>
                simp only [hi, hc, cond_true] at h
                have := eqA_ok (w := w) n m tx vx vy x' y' b h dx' dy'
                simp [Op.equalIn, run_underlying hu, typeInfo, hi, hc, this]
          · simp only [ht, decide_false, cond_false, Option.some.injEq] at h; subst h
            simp [Op.equalIn, run_underlying hu, ht]
      case struct fs =>
        cases v <;> cases u <;> simp only [reduceCtorEq] at h
        rename_i l k
        cases hst : P.stoodInHeld t with
        | true => simp [hst] at h
        | false =>
          simp only [hst, cond_false] at h
          obtain ⟨xs, dl, rfl⟩ := den_agg dx
          obtain ⟨ys, dk, rfl⟩ := den_agg dy
          have hf : P.fieldsOf t = fs := by simp [Program.fieldsOf, hu]
          rw [run_equalIn_struct w (n + m) t xs.toArray ys.toArray (by rw [hf]; exact hu) hst, hf]
          exact eqF_ok (fun t v u x y b h1 h2 h3 => eqA_ok n m t v u x y b h1 h2 h3) dl dk h
      case slice e =>
        cases v <;> cases u <;> simp only [reduceCtorEq, Option.some.injEq] at h
        case nilS.nilS => subst h; simp only [den, Option.some.injEq] at dx dy; subst dx dy; (simp only [Op.equalIn, Sem.run_bind, run_underlying hu, Result.andThen_ok]; rfl)
        case nilS.sl => subst h; obtain ⟨_, _, _, rfl⟩ := den_sl dy; simp only [den, Option.some.injEq] at dx; subst dx; (simp only [Op.equalIn, Sem.run_bind, run_underlying hu, Result.andThen_ok]; rfl)
        case nilS.slu => subst h; obtain ⟨_, _, _, _, rfl⟩ := den_slu dy; simp only [den, Option.some.injEq] at dx; subst dx; (simp only [Op.equalIn, Sem.run_bind, run_underlying hu, Result.andThen_ok]; rfl)
        case sl.nilS => subst h; obtain ⟨_, _, _, rfl⟩ := den_sl dx; simp only [den, Option.some.injEq] at dy; subst dy; (simp only [Op.equalIn, Sem.run_bind, run_underlying hu, Result.andThen_ok]; rfl)
        case slu.nilS => subst h; obtain ⟨_, _, _, _, rfl⟩ := den_slu dx; simp only [den, Option.some.injEq] at dy; subst dy; (simp only [Op.equalIn, Sem.run_bind, run_underlying hu, Result.andThen_ok]; rfl)
      case map k e =>
        cases v <;> cases u <;> simp only [reduceCtorEq, Option.some.injEq] at h
        case nilM.nilM => subst h; simp only [den, Option.some.injEq] at dx dy; subst dx dy; (simp only [Op.equalIn, Sem.run_bind, run_underlying hu, Result.andThen_ok]; rfl)
        case nilM.map => subst h; obtain ⟨_, _, _, rfl⟩ := den_map dy; simp only [den, Option.some.injEq] at dx; subst dx; (simp only [Op.equalIn, Sem.run_bind, run_underlying hu, Result.andThen_ok]; rfl)
        case map.nilM => subst h; obtain ⟨_, _, _, rfl⟩ := den_map dx; simp only [den, Option.some.injEq] at dy; subst dy; (simp only [Op.equalIn, Sem.run_bind, run_underlying hu, Result.andThen_ok]; rfl)
      case func a1 a2 a3 =>
        cases v <;> cases u <;> simp only [reduceCtorEq, Option.some.injEq] at h
        case nilF.nilF => subst h; simp only [den, Option.some.injEq] at dx dy; subst dx dy; (simp only [Op.equalIn, Sem.run_bind, run_underlying hu, Result.andThen_ok]; rfl)
        case nilF.fn => subst h; obtain ⟨_, _, _, _, rfl⟩ := den_fn dy; simp only [den, Option.some.injEq] at dx; subst dx; (simp only [Op.equalIn, Sem.run_bind, run_underlying hu, Result.andThen_ok]; rfl)
        case fn.nilF => subst h; obtain ⟨_, _, _, _, rfl⟩ := den_fn dx; simp only [den, Option.some.injEq] at dy; subst dy; (simp only [Op.equalIn, Sem.run_bind, run_underlying hu, Result.andThen_ok]; rfl)
end
end Go.Ev
