/-
  A part of the evaluator for closed runs: proved once over any program.
-/
import Derived.Test.YtbfoocginkdmcaaGreatDoorEvA
import Derived.Laws.Runes
import Derived.Laws.StructEq
import Derived.Laws.Unary
import Derived.Laws.BytesString
import Derived.Laws.Build
import Derived.LaidEql
set_option linter.unusedVariables false
set_option linter.unusedSimpArgs false
namespace Go.Ev
noncomputable section

/- ### One operand -/
def kindEq : IntKind → IntKind → Bool
  | .i8, .i8 | .i16, .i16 | .i32, .i32 | .i64, .i64 | .u8, .u8 | .u16, .u16 | .u32, .u32 | .u64, .u64 => true
  | _, _ => false
theorem kindEq_iff {a b : IntKind} (h : kindEq a b = true) : a = b := by cases a <;> cases b <;> first | rfl | (simp [kindEq] at h)

def unA (op : UnOp) (v : AV) : Option AV :=
  match op, v with
  | .neg, .int k n => iArith .sub k 0 n
  | .xor, .int k n => bif isSigned k then none else iArith .xor k (.ofNat (lim k)) n
  | .not, .bool b => fB (!b) fun b => some (.bool b)
  | _, _ => none

theorem un_ok {P : Program} {op : UnOp} {v u : AV} {G : Nat → Nat} {ρ : Env} {x : Value} (h : unA op v = some u) (d : den G ρ v = some x) (w : World) :
    ∃ y, (Op.unary op x).run P w = .ok y w ∧ den G ρ u = some y := by
  cases op <;> cases v <;> simp only [unA, reduceCtorEq] at h <;> simp only [den, Option.some.injEq] at d <;> subst d
  case neg k n =>
    obtain ⟨y, h1, h2⟩ := iArith_ok (P := P) (t := 0) h (by simp) (by simp) w
    refine ⟨y, ?_, h2 G ρ⟩
    simp only [Go.binOp, ne_eq, not_true_eq_false, if_false] at h1
    exact h1
  case xor k n =>
    cases hs : isSigned k with
    | true => simp [hs] at h
    | false =>
      simp [hs] at h
      obtain ⟨y, h1, h2⟩ := iArith_ok (P := P) (t := 0) h (by simp) (by simp) w
      refine ⟨y, ?_, h2 G ρ⟩
      have e1 : k.signed = false := by cases k <;> simp_all [isSigned, IntKind.signed]
      have e2 : k.max = (lim k : Int) := by cases k <;> simp_all [isSigned, IntKind.max, lim, IntKind.signed, IntKind.bits]
      simp only [Go.binOp, ne_eq, not_true_eq_false, if_false] at h1
      simp only [unary_xor, e1, e2, Bool.false_eq_true, if_false]
      exact h1
  case not b =>
    simp only [fB_eq, Option.some.injEq] at h; subst h
    exact ⟨_, rfl, rfl⟩

theorem bind_some {α β : Type} {x : Option α} {f : α → Option β} {b : β} (h : x.bind f = some b) : ∃ a, x = some a ∧ f a = some b := by
  cases x with
  | none => cases h
  | some a => exact ⟨a, rfl, h⟩

theorem cond_some' {α : Type} {c : Bool} {x : Option α} {a : α} (h : (bif c then x else none) = some a) : c = true ∧ x = some a := by
  cases c
  · cases h
  · exact ⟨rfl, h⟩

def packL : List AV → Option Nat
  | [] => some 0
  | v :: l => match v with
    | .int k z => bif kindEq k .u8 then (match z with
      | .ofNat c => bif Nat.blt c 256 then (packL l).bind fun b => fN (Nat.add c (Nat.mul 256 b)) some else none
      | _ => none) else none
    | _ => none

theorem packL_ok {G : Nat → Nat} {ρ : Env} : ∀ {l : List AV} {b : Nat} {xs : List Value}, packL l = some b → denL G ρ l = some xs → xs = (bytesL l.length b).map byteV
  | [], b, xs, h, d => by simp [denL] at d; subst d; rfl
  | v :: l, b, xs, h, d => by
    obtain ⟨x, ys, d1, d2, rfl⟩ := denL_cons.1 d
    cases v <;> simp only [packL, reduceCtorEq] at h
    rename_i k z
    have hk := (cond_some' h).1
    replace h := (cond_some' h).2
    obtain rfl := kindEq_iff hk
    cases z <;> simp only [reduceCtorEq] at h
    rename_i c
    have hc := (cond_some' h).1
    replace h := (cond_some' h).2
    rw [nblt, decide_eq_true_iff] at hc
    obtain ⟨b', h1, h2⟩ := bind_some h
    simp only [fN_eq, Option.some.injEq] at h2; subst h2
    simp only [den, Option.some.injEq] at d1; subst d1
    have e : c.add (Nat.mul 256 b') = c + 256 * b' := rfl
    simp only [List.length_cons, bytesL, List.map_cons, e]
    rw [packL_ok h1 d2, show (c + 256 * b') / 256 = b' from by omega]
    congr 1
    have h0 : UInt8.ofNat (c + 256 * b') = UInt8.ofNat c := by rw [ofNat_eq]; omega
    rw [h0, byteV, toNat_byte, Nat.mod_eq_of_lt hc]
    rfl

/-- Bytes in memory, as a text. -/
def textOf (h : T AObj) (v : AV) : Option AV :=
  match v with
  | .nilS => some (.str 0 0)
  | .sl p off len _ => match T.get p h with
    | some (.bytes _ _ _ n b) => bif Nat.ble (Nat.add off len) n then fN (Nat.mod (Nat.div b (Nat.pow 256 off)) (Nat.pow 256 len)) fun c => some (.str len c) else none
    | some (.cells _ _ _ l) => (takeN len (List.drop off l)).bind fun l => (packL l).bind fun c => some (.str len c)
    | _ => none
  | .slu p d len 1 => match T.get p h with
    | some (.bytes _ _ _ n b) => bif Nat.ble (Nat.add d len) n then fN (Nat.mod (Nat.div b (Nat.pow 256 d)) (Nat.pow 256 len)) fun c => some (.str len c) else none
    | _ => none
  | _ => none

def isU8 (P : Program) (t : TypeId) : Bool :=
  match P.underlying t with
  | some (.int .u8) => true
  | _ => false
theorem isU8_ok {P : Program} {t : TypeId} (h : isU8 P t = true) : P.underlying t = some (.int .u8) := by
  unfold isU8 at h
  split at h
  · assumption
  · cases h


def convU (C : Cx) (h : T AObj) (s d : TypeId) (p : Key) (off : Nat) : Option AV :=
  match T.get p h with
  | some (.cells none e _ l) => bif Nat.blt off l.length then (match C.P.underlying s, C.P.underlying d with
    | some (.pointer t), some .unsafePointer => (match sizeA C.P t with
      | some (_ + 1) => some (.ptr p off)
      | _ => none)
    | some .unsafePointer, some (.pointer u) => (match sizeA C.P u with
      | some _ => bif liesAt C.P C.P.depth e (l.length / C.P.cellsOf e) off u 1 then some (.ptr p off) else none
      | none => none)
    | _, _ => none) else none
  | _ => none

theorem seenAt_cells {P : Program} {w : World} {b off : Nat} {sp : Option Nat} {c : Array Value} {e : TypeId} {f : Nat × Nat} (h : w.heap[b]? = some (.cells c e f)) : (Conv.seenAt ⟨b, off, none⟩).run P w = .ok ⟨b, off, none⟩ w := by
  have h1 : (shape b).run P w = .ok (some (e, c.size)) w := by simp [shape, Sem.run, World.shape?, h]
  have h2 : (viewAt b).run P w = .ok none w := by simp [viewAt, Sem.run_bind, h1, Result.andThen_ok]
  simp [Conv.seenAt, Sem.run_bind, h2, Result.andThen_ok]

theorem convU_ok {C : Cx} {G : Nat → Nat} {w0 : World} {ρ : Env} {h : T AObj} {n : Key} {w : World} (r : RelH G w0 ρ h n w) {s t : TypeId} {p : Key} {off : Nat} {u : AV} {x : Value} (e : convU C h s t p off = some u) (d : den G ρ (.ptr p off) = some x) :
    ∃ y, (convert s t x).run C.P w = .ok y w ∧ den G ρ u = some y := by
  unfold convU at e
  cases hp : T.get p h with
  | none => simp [hp] at e
  | some o =>
    obtain ⟨b, κ, ox, h1, h2, h3, h4⟩ := r.obj p o hp
    cases o <;> simp only [hp, reduceCtorEq] at e
    rename_i us ee fz l
    cases us <;> simp only [reduceCtorEq] at e
    obtain ⟨hlt, e⟩ := cond_some' e
    rw [nblt, decide_eq_true_iff] at hlt
    obtain ⟨c, f, xs, rfl, _, k1, k2, k3⟩ := h4
    simp only at k3
    simp only [den, h1, Option.map_some, Option.some.injEq] at d
    have hb : w.heap[b]? = some (.cells c ee f) := h2
    have hs1 : (shape b).run C.P w = .ok (some (ee, c.size)) w := by simp [shape, Sem.run, World.shape?, hb]
    cases hs : C.P.underlying s with
    | none => simp [hs] at e
    | some ds =>
      cases ht : C.P.underlying t with
      | none => cases ds <;> simp [hs, ht] at e
      | some dt =>
        cases ds <;> cases dt <;> simp only [hs, ht, reduceCtorEq] at e
        case unsafePointer.pointer v =>
          cases hz : sizeA C.P v with
          | none => simp [hz] at e
          | some z =>
            simp only [hz] at e
            obtain ⟨hl, e⟩ := cond_some' e
            simp only [Option.some.injEq] at e; subst e; subst d
            refine ⟨.pointer (some ⟨b, off, none⟩), ?_, by simp [den, h1]⟩
            have hv : (variablesAt ⟨b, off, none⟩ v 1).run C.P w = .ok true w := by
              simp [variablesAt, Sem.run_bind, shape, program, Sem.run, World.shape?, hb, Result.andThen_ok, k3, hl]
            simp [convert, run_underlying hs, run_underlying ht, Conv.unsafePointer, Sem.run_bind, seenAt_cells (sp := none) hb, Result.andThen_ok, hv, sizeA_ok hz]
        case pointer.unsafePointer v =>
          cases hz : sizeA C.P v with
          | none => simp [hz] at e
          | some z =>
            cases z with
            | zero => simp [hz] at e
            | succ z =>
              simp only [hz, Option.some.injEq] at e; subst e; subst d
              refine ⟨.pointer (some ⟨b, off, none⟩), ?_, by simp [den, h1]⟩
              have hc : (cellsIn b).run C.P w = .ok (some c.size) w := by simp [cellsIn, Sem.run_bind, hs1, Result.andThen_ok]
              have : ¬ c.size ≤ off := by omega
              simp [convert, run_underlying hs, run_underlying ht, Conv.unsafePointer, Sem.run_bind, seenAt_cells (sp := none) hb, Result.andThen_ok, hc, sizeA_ok hz, this]

def convA (C : Cx) (h : T AObj) (s d : TypeId) (v : AV) : Option AV :=
  match v with
  | .int _ n => match C.P.underlying d, C.P.underlying s with
    | some (.int k), some _ => fI (wr k n) fun n => some (.int k n)
    | some .string, some _ => (match n with
      | .ofNat c => bif Nat.blt c 128 then some (.str 1 c) else none
      | _ => none)
    | _, _ => none
  | .str n b => match C.P.underlying d, C.P.underlying s with
    | some .string, some _ => some (.str n b)
    | _, _ => none
  | .ptr p off => convU C h s d p off
  | v => match C.P.underlying s, C.P.underlying d with
    | some (.slice e), some .string => bif isU8 C.P e then textOf h v else none
    | _, _ => none

theorem foldl_push (ns : List UInt8) (s : ByteArray) : ((ns.map fun c => (c.toNat : Int)).foldl (fun r n => r.push (UInt8.ofNat n.toNat)) s) = s ++ ⟨ns.toArray⟩ := by
  induction ns generalizing s with
  | nil => apply ByteArray.ext; simp
  | cons c ns ih =>
    simp only [List.map_cons, List.foldl_cons]
    rw [ih]
    apply ByteArray.ext
    simp [Int.toNat_natCast]

theorem text_run {P : Program} {w : World} {b off len n bs : Nat} {cap : Nat} {c : Array Value} {ty : TypeId} {f : Nat × Nat} (hb : w.heap[b]? = some (.cells c ty f))
    (hpre : ((bytesL n bs).map byteV) <+: c.toList) (hle : off + len ≤ n) :
    (Conv.bytesToString (.slice (some ⟨b, off, none⟩) len cap)).run P w = .ok (.string (mkB len (bs / 256 ^ off % 256 ^ len))) w := by
  have hl := run_loadCells_list (P := P) w ⟨b, off, none⟩ (((bytesL len (bs / 256 ^ off)).map fun c => (c.toNat : Int)).map (Value.int .u8)) (fun j y hj => by
    rw [add_plain, cell_of_row hb, ← Array.getElem?_toList]
    apply prefix_get hpre
    simp only [List.getElem?_map] at hj ⊢
    have hjl : j < len := by
      rcases Nat.lt_or_ge j len with h' | h'
      · exact h'
      · simp [List.getElem?_eq_none, h'] at hj
    rw [bytesL_get? _ _ _ hjl] at hj
    rw [bytesL_get? _ _ _ (by omega)]
    rw [Nat.div_div_eq_div_mul, ← Nat.pow_add] at hj
    simpa [byteV] using hj)
  simp only [List.length_map, length_bytesL] at hl
  rw [run_bytesToString w _ len cap _ hl, foldl_push]
  congr 2
  apply ByteArray.ext
  simp [mkB, bytesL_mod]

theorem text_cells {P : Program} {w : World} {b off len cap cc : Nat} {c : Array Value} {ty : TypeId} {f : Nat × Nat} (hb : w.heap[b]? = some (.cells c ty f))
    (hg : ∀ (j : Nat) (v : Value), ((bytesL len cc).map byteV)[j]? = some v → c.toList[off + j]? = some v) :
    (Conv.bytesToString (.slice (some ⟨b, off, none⟩) len cap)).run P w = .ok (.string (mkB len cc)) w := by
  have hl := run_loadCells_list (P := P) w ⟨b, off, none⟩ (((bytesL len cc).map fun c => (c.toNat : Int)).map (Value.int .u8)) (fun j y hj => by
    rw [add_plain, cell_of_row hb, ← Array.getElem?_toList]
    exact hg j y (by rw [List.map_map] at hj; exact hj))
  simp only [List.length_map, length_bytesL] at hl
  rw [run_bytesToString w _ len cap _ hl, foldl_push]
  congr 2

theorem textOf_ok {P : Program} {G : Nat → Nat} {w0 : World} {ρ : Env} {h : T AObj} {n : Key} {w : World} (r : RelH G w0 ρ h n w) {v u : AV} {x : Value} (e : textOf h v = some u) (d : den G ρ v = some x) :
    ∃ y, (Conv.bytesToString x).run P w = .ok y w ∧ den G ρ u = some y ∧ ∃ a l c, x = .slice a l c := by
  cases v <;> simp only [textOf, reduceCtorEq] at e
  case nilS =>
    simp only [Option.some.injEq] at e; subst e
    simp only [den, Option.some.injEq] at d; subst d
    exact ⟨.string .empty, rfl, rfl, _, _, _, rfl⟩
  case sl p off len cap =>
    cases hp : T.get p h with
    | none => simp [hp] at e
    | some o =>
      obtain ⟨b, κ, y, h1, h2, h3, h4, h5⟩ := r.lt hp
      cases o <;> simp only [hp, reduceCtorEq] at e
      case cells uu ty fz l =>
        obtain ⟨l1, e1, e⟩ := bind_some e
        obtain ⟨cc, e2, e⟩ := bind_some e
        simp only [Option.some.injEq] at e; subst e
        obtain ⟨c, f, xs, rfl, _, hl, hpre, _⟩ := h5
        simp [den, h1] at d; subst d
        obtain ⟨g1, g2⟩ := takeN_eq e1
        have hd := denL_take len (denL_drop off hl)
        rw [← g2] at hd
        have hx := packL_ok e2 hd
        have hlen : l1.length = len := by rw [g2, List.length_take]; omega
        rw [hlen] at hx
        refine ⟨_, text_cells (f := f) (c := c) (ty := ty) h2 (fun j v hj => ?_), rfl, _, _, _, rfl⟩
        rw [← hx] at hj
        have hjl : j < len := by
          have := (List.getElem?_eq_some_iff.1 hj).1
          simp at this; omega
        rw [List.getElem?_take_of_lt hjl, List.getElem?_drop] at hj
        exact prefix_get hpre hj
      rename_i uu ty fz m bs
      obtain ⟨c, f, rfl, _, hpre, _⟩ := h5
      rw [nble] at e
      by_cases hle : off.add len ≤ m
      · simp only [hle, decide_true, cond_true, fN_eq, Option.some.injEq] at e; subst e
        simp [den, h1] at d; subst d
        exact ⟨_, text_run h2 hpre hle, rfl, _, _, _, rfl⟩
      · simp only [hle, decide_false, cond_false, reduceCtorEq] at e
  case slu p dd len sz =>
    match sz, e, d with
    | 0, e, d => simp at e
    | n + 2, e, d => simp at e
    | 1, e, d =>
      simp only at e
      cases hp : T.get p h with
      | none => simp [hp] at e
      | some o =>
        obtain ⟨b, κ, y, h1, h2, h3, h4, h5⟩ := r.lt hp
        cases o <;> simp only [hp, reduceCtorEq] at e
        rename_i uu ty fz m bs
        obtain ⟨c, f, rfl, _, hpre, _⟩ := h5
        rw [nble] at e
        by_cases hle : dd.add len ≤ m
        · simp only [hle, decide_true, cond_true, fN_eq, Option.some.injEq] at e; subst e
          simp only [den, h1] at d
          split at d
          · simp at d; subst d
            refine ⟨_, ?_, rfl, _, _, _, rfl⟩
            exact text_run h2 hpre hle
          · cases d
        · simp only [hle, decide_false, cond_false, reduceCtorEq] at e

theorem conv_ok {C : Cx} {G : Nat → Nat} {w0 : World} {ρ : Env} {h : T AObj} {n : Key} {w : World} (r : RelH G w0 ρ h n w) {s t : TypeId} {v u : AV} {x : Value} (e : convA C h s t v = some u) (d : den G ρ v = some x) :
    ∃ y, (convert s t x).run C.P w = .ok y w ∧ den G ρ u = some y := by
  have other : ∀ (hh : (match C.P.underlying s, C.P.underlying t with
    | some (.slice e), some .string => bif isU8 C.P e then textOf h v else none
    | _, _ => none) = some u), ∃ y, (convert s t x).run C.P w = .ok y w ∧ den G ρ u = some y := fun hh => by
    cases hs : C.P.underlying s with
    | none => simp [hs] at hh
    | some ds =>
      cases ht : C.P.underlying t with
      | none => cases ds <;> simp [hs, ht] at hh
      | some dt =>
        cases ds <;> cases dt <;> simp [hs, ht] at hh
        rename_i e
        cases hu : isU8 C.P e with
        | false => simp [hu] at hh
        | true =>
          simp [hu] at hh
          obtain ⟨y, h1, h2, a, l, c, rfl⟩ := textOf_ok (P := C.P) r hh d
          refine ⟨y, ?_, h2⟩
          rw [run_convert_bytes_string w s t e a l c hs (isU8_ok hu) ht]
          exact h1
  cases v
  case int k n =>
    simp only [convA] at e
    cases ht : C.P.underlying t with
    | none => simp [ht] at e
    | some dt =>
      cases hs : C.P.underlying s with
      | none => cases dt <;> simp [hs, ht] at e
      | some ds =>
        cases dt <;> simp only [hs, ht, reduceCtorEq, fI_eq, Option.some.injEq] at e
        case string =>
          cases n <;> simp only [reduceCtorEq] at e
          rename_i c
          have hc := (cond_some' e).1
          replace e := (cond_some' e).2
          rw [nblt, decide_eq_true_iff] at hc
          simp only [Option.some.injEq] at e; subst e
          simp only [den, Option.some.injEq] at d ⊢; subst d
          refine ⟨_, run_convert_int_string w s t k (Int.ofNat c) (by rw [hs]; rfl) ht, ?_⟩
          have hv : Utf8.valid (Int.ofNat c) = true := by
            have h1 : (0 : Int) ≤ Int.ofNat c := Int.natCast_nonneg c
            have h2 : Int.ofNat c < 0xD800 := by have : (Int.ofNat c) = (c : Int) := rfl; omega
            simp only [Utf8.valid, h1, h2, decide_true, Bool.and_self, Bool.true_or]
          have he : Utf8.encode (Int.ofNat c) = ⟨#[UInt8.ofNat c]⟩ := by
            have h3 : (Int.ofNat c).toNat = c := rfl
            simp only [Utf8.encode, hv, if_true, h3]
            rw [if_pos hc]
          rw [he]; rfl
        subst e
        simp only [den, Option.some.injEq] at d ⊢; subst d
        exact ⟨_, by simp [convert, run_underlying hs, run_underlying ht, Conv.intToInt]; rfl, by rw [wr_eq]⟩
  case str n b =>
    simp only [convA] at e
    cases ht : C.P.underlying t with
    | none => simp [ht] at e
    | some dt =>
      cases hs : C.P.underlying s with
      | none => cases dt <;> simp [hs, ht] at e
      | some ds =>
        cases dt <;> simp only [hs, ht, reduceCtorEq, Option.some.injEq] at e
        subst e
        simp only [den, Option.some.injEq] at d ⊢; subst d
        exact ⟨.string (mkB n b), by cases ds <;> simp [convert, run_underlying hs, run_underlying ht], rfl⟩
  case ptr p off => exact convU_ok r e d
  all_goals exact other e

def mkIfA (P : Program) (t : TypeId) (v : AV) : Option AV :=
  match P.underlying t with
  | some (.interface _) => none
  | some _ => some (.iface t v)
  | none => none

theorem mkIf_ok {P : Program} {G : Nat → Nat} {ρ : Env} {t : TypeId} {v u : AV} {x : Value} (h : mkIfA P t v = some u) (d : den G ρ v = some x) (w : World) :
    ∃ y, (Instr.makeInterface t x).run P w = .ok y w ∧ den G ρ u = some y := by
  unfold mkIfA at h
  cases hu : P.underlying t with
  | none => simp [hu] at h
  | some ty =>
    have hc : u = .iface t v ∧ P.concrete t = true := by
      cases ty <;> simp [hu] at h <;> (subst h; simp [Program.concrete, hu])
    obtain ⟨rfl, hc⟩ := hc
    exact ⟨_, run_makeInterface w t x hc, by simp [den, d]⟩

def extractA (v : AV) (i : Nat) : Option AV :=
  match v with
  | .tup l => nth l i
  | _ => none

theorem extract_ok {P : Program} {G : Nat → Nat} {ρ : Env} {v u : AV} {i : Nat} {x : Value} (h : extractA v i = some u) (d : den G ρ v = some x) (w : World) :
    ∃ y, (Instr.extract x i).run P w = .ok y w ∧ den G ρ u = some y := by
  cases v <;> simp only [extractA, reduceCtorEq] at h
  rename_i l
  rw [nth_eq] at h
  simp only [den] at d
  cases hl : denL G ρ l with
  | none => simp [hl] at d
  | some xs =>
    simp [hl] at d; subst d
    obtain ⟨y, h1, h2⟩ := denL_get hl h
    exact ⟨y, by simp [Instr.extract, h1], h2⟩

def notNil (v : AV) : Bool :=
  match v with
  | .nilP | .nilI | .nilF => false
  | .ptr .. | .gptr .. | .iface .. | .fn .. => true
  | _ => false

theorem notNil_ok {G : Nat → Nat} {ρ : Env} {v : AV} {x : Value} (h : notNil v = true) (d : den G ρ v = some x) :
    (∃ a, x = .pointer (some a)) ∨ (∃ t y, x = .iface t y) ∨ ∃ f xs ys, x = .func (.func f) xs ys := by
  cases v <;> simp only [notNil, Bool.false_eq_true] at h <;> simp only [den] at d
  case ptr p off => split at d <;> simp at d; subst d; exact .inl ⟨_, rfl⟩
  case gptr g off => simp at d; subst d; exact .inl ⟨_, rfl⟩
  case fn f a b => split at d <;> simp at d; subst d; exact .inr (.inr ⟨_, _, _, rfl⟩)
  case iface t y => split at d <;> simp at d; subst d; exact .inr (.inl ⟨_, _, rfl⟩)

/- ### Equality -/
def eqF (eq : TypeId → AV → AV → Option Bool) (P : Program) (l m : List AV) : List Field → Option Bool
  | [] => some true
  | f :: fs => bif f.name == "_" then none else match partA P f.type l f.offset, partA P f.type m f.offset with
    | some a, some b => match eq f.type a b with
      | some true => eqF eq P l m fs
      | some false => some false
      | none => none
    | _, _ => none

def eqA (P : Program) : Nat → TypeId → AV → AV → Option Bool
  | 0, _, _, _ => none
  | d + 1, t, x, y =>
    match P.underlying t with
    | some .bool => match x, y with
      | .bool a, .bool b => fB (bif a then b else !b) some
      | _, _ => none
    | some (.int _) => match x, y with
      | .int k a, .int k' b => bif kindEq k k' then fB (ieq a b) some else none
      | _, _ => none
    | some .string => match x, y with
      | .str n a, .str m b => fB (sEq n a m b) some
      | _, _ => none
    | some (.pointer e) => match x, y with
      | .nilP, .nilP => some true
      | .nilP, .ptr .. | .nilP, .gptr .. | .ptr .., .nilP | .gptr .., .nilP => some false
      | .ptr p a, .ptr q b => match sizeA P e with
        | some (_ + 1) => bif Key.eqb p q then fB (Nat.beq a b) some else none
        | _ => none
      | .gptr p a, .gptr q b => match sizeA P e with
        | some (_ + 1) => bif Nat.beq p q then fB (Nat.beq a b) some else none
        | _ => none
      | _, _ => none
    | some (.interface _) => match x, y with
      | .nilI, .nilI => some true
      | .nilI, .iface .. | .iface .., .nilI => some false
      | .iface tx vx, .iface ty vy => bif Nat.beq tx ty then (match P.info? tx with
          | some i => bif i.comparable then eqA P d tx vx vy else none
          | none => none) else some false
      | _, _ => none
    | some (.struct fs) => match x, y with
      | .agg l, .agg m => bif P.stoodInHeld t then none else eqF (eqA P d) P l m fs.toList
      | _, _ => none
    | some (.slice _) => match x, y with
      | .nilS, .nilS => some true
      | .nilS, .sl .. | .nilS, .slu .. | .sl .., .nilS | .slu .., .nilS => some false
      | _, _ => none
    | some (.map _ _) => match x, y with
      | .nilM, .nilM => some true
      | .nilM, .map _ | .map _, .nilM => some false
      | _, _ => none
    | some (.func _ _ _) => match x, y with
      | .nilF, .nilF => some true
      | .nilF, .fn .. | .fn .., .nilF => some false
      | _, _ => none
    | _ => none

theorem den_nilP {G : Nat → Nat} {ρ : Env} {x : Value} (d : den G ρ .nilP = some x) : x = .pointer none := by simpa [den, eq_comm] using d
theorem den_ptr {G : Nat → Nat} {ρ : Env} {x : Value} {p : Key} {o : Nat} (d : den G ρ (.ptr p o) = some x) : ∃ b κ, ρ p = some (b, κ) ∧ x = .pointer (some ⟨b, o, none⟩) := by
  simp only [den] at d
  split at d
  · rename_i b κ hp; exact ⟨b, κ, hp, by simpa [eq_comm] using d⟩
  · cases d
theorem den_sl {G : Nat → Nat} {ρ : Env} {x : Value} {p : Key} {o l c : Nat} (d : den G ρ (.sl p o l c) = some x) : ∃ b κ, ρ p = some (b, κ) ∧ x = .slice (some ⟨b, o, none⟩) l c := by
  simp only [den] at d
  split at d
  · rename_i b κ hp; exact ⟨b, κ, hp, by simpa [eq_comm] using d⟩
  · cases d
theorem den_slz {G : Nat → Nat} {ρ : Env} {x : Value} {p : Key} {e o s : Nat} (d : den G ρ (.slz p e o s) = some x) : ∃ b κ, ρ p = some (b, κ) ∧ o ≤ κ ∧ x = .slice (some ⟨b, (if κ = o then e * s else o * s), none⟩) 0 (κ - o) := by
  simp only [den] at d
  cases hp : ρ p with
  | none => simp [hp] at d
  | some bk =>
    obtain ⟨b, κ⟩ := bk
    by_cases hk : o ≤ κ
    · simp only [hp, if_pos hk, Option.some.injEq] at d; exact ⟨b, κ, rfl, hk, d.symm⟩
    · simp [hp, hk] at d
theorem den_slu {G : Nat → Nat} {ρ : Env} {x : Value} {p : Key} {o l s : Nat} (d : den G ρ (.slu p o l s) = some x) : ∃ b κ, ρ p = some (b, κ) ∧ o + l ≤ κ ∧ x = .slice (some ⟨b, o * s, none⟩) l (κ - o) := by
  simp only [den] at d
  split at d
  · rename_i b κ hp
    split at d
    · rename_i hle; exact ⟨b, κ, hp, hle, by simpa [eq_comm] using d⟩
    · cases d
  · cases d
theorem den_map {G : Nat → Nat} {ρ : Env} {x : Value} {p : Key} (d : den G ρ (.map p) = some x) : ∃ b κ, ρ p = some (b, κ) ∧ x = .map (some b) := by
  simp only [den] at d
  split at d
  · rename_i b κ hp; exact ⟨b, κ, hp, by simpa [eq_comm] using d⟩
  · cases d
theorem den_fn {G : Nat → Nat} {ρ : Env} {x : Value} {f : FuncId} {a b : List AV} (d : den G ρ (.fn f a b) = some x) : ∃ xs ys, denL G ρ a = some xs ∧ denL G ρ b = some ys ∧ x = .func (.func f) xs.toArray ys.toArray := by
  simp only [den] at d
  split at d
  · rename_i xs ys h1 h2; exact ⟨xs, ys, h1, h2, by simpa [eq_comm] using d⟩
  · cases d
theorem den_iface {G : Nat → Nat} {ρ : Env} {x : Value} {t : TypeId} {v : AV} (d : den G ρ (.iface t v) = some x) : ∃ y, den G ρ v = some y ∧ x = .iface t y := by
  simp only [den] at d
  split at d
  · rename_i y h1; exact ⟨y, h1, by simpa [eq_comm] using d⟩
  · cases d
theorem den_agg {G : Nat → Nat} {ρ : Env} {x : Value} {l : List AV} (d : den G ρ (.agg l) = some x) : ∃ xs, denL G ρ l = some xs ∧ x = .agg xs.toArray := by
  simp only [den] at d
  split at d
  · rename_i y h1; exact ⟨y, h1, by simpa [eq_comm] using d⟩
  · cases d
theorem den_tup {G : Nat → Nat} {ρ : Env} {x : Value} {l : List AV} (d : den G ρ (.tup l) = some x) : ∃ xs, denL G ρ l = some xs ∧ x = .tuple xs.toArray := by
  simp only [den] at d
  split at d
  · rename_i y h1; exact ⟨y, h1, by simpa [eq_comm] using d⟩
  · cases d

theorem eqF_ok {P : Program} {G : Nat → Nat} {ρ : Env} {eq : TypeId → AV → AV → Option Bool} {D : Nat} {w : World}
    (ih : ∀ t v u x y b, eq t v u = some b → den G ρ v = some x → den G ρ u = some y → (Op.equalIn D t x y).run P w = .ok b w) {l m : List AV} {xs ys : List Value} (dl : denL G ρ l = some xs) (dm : denL G ρ m = some ys) :
    ∀ {fs : List Field} {b : Bool}, eqF eq P l m fs = some b → (Op.eqFields D xs.toArray ys.toArray fs).run P w = .ok b w
  | [], b, h => by simp [eqF] at h; subst h; rfl
  | f :: fs, b, h => by
    simp only [eqF] at h
    cases hn : f.name == "_" with
    | true => simp [hn] at h
    | false =>
      have hne : f.name ≠ "_" := by simpa using hn
      cases h1 : partA P f.type l f.offset with
      | none => simp [hn, h1] at h
      | some a =>
        cases h2 : partA P f.type m f.offset with
        | none => simp [hn, h1, h2] at h
        | some c =>
          obtain ⟨x, r1, d1⟩ := part_ok h1 dl w
          obtain ⟨y, r2, d2⟩ := part_ok h2 dm w
          cases h3 : eq f.type a c with
          | none => simp [hn, h1, h2, h3] at h
          | some g =>
            have r3 := ih _ _ _ _ _ _ h3 d1 d2
            simp only [Op.eqFields, if_pos hne, Sem.run_bind, r1, r2, r3, Result.andThen_ok, Sem.run_ite]
            cases g with
            | false => simp [hn, h1, h2, h3] at h; subst h; simp
            | true => simp [hn, h1, h2, h3] at h; simp [eqF_ok ih dl dm h]

set_option maxHeartbeats 1000000 in
theorem eqA_ok {P : Program} {G : Nat → Nat} {ρ : Env} {w : World} : ∀ (n m : Nat) (t : TypeId) (v u : AV) (x y : Value) (b : Bool), eqA P n t v u = some b → den G ρ v = some x → den G ρ u = some y → (Op.equalIn (n + m) t x y).run P w = .ok b w
  | 0, m, t, v, u, x, y, b, h, dx, dy => by simp [eqA] at h
  | n + 1, m, t, v, u, x, y, b, h, dx, dy => by
    rw [show n + 1 + m = (n + m) + 1 from by omega]
    simp only [eqA] at h
    cases hu : P.underlying t with
    | none => simp [hu] at h
    | some ty =>
      cases ty <;> simp only [hu, reduceCtorEq] at h
      case bool =>
        cases v <;> cases u <;> simp only [reduceCtorEq, fB_eq, Option.some.injEq] at h
        simp only [den, Option.some.injEq] at dx dy; subst dx dy
        rename_i p q
        rw [run_equalIn_bool' w _ t p q hu, ← h]
        cases p <;> cases q <;> rfl
      case int k0 =>
        cases v <;> cases u <;> simp only [reduceCtorEq, fB_eq] at h
        simp only [den, Option.some.injEq] at dx dy; subst dx dy
        rename_i k p k' q
        cases hk : kindEq k k' with
        | false => simp [hk] at h
        | true =>
          simp only [hk, cond_true, Option.some.injEq] at h
          obtain rfl := kindEq_iff hk
          rw [run_equalIn_int w _ t k _ p q hu, ← h, ieq_eq]
      case string =>
        cases v <;> cases u <;> simp only [reduceCtorEq, fB_eq, Option.some.injEq] at h
        simp only [den, Option.some.injEq] at dx dy; subst dx dy
        rw [run_equalIn_string w _ t _ _ hu, ← h, sEq_toList]
      case pointer e =>
        cases v <;> cases u <;> simp only [reduceCtorEq, Option.some.injEq] at h
        case nilP.nilP => subst h; rw [den_nilP dx, den_nilP dy]; (simp only [Op.equalIn, Sem.run_bind, run_underlying hu, Result.andThen_ok]; rfl)
        case nilP.ptr => subst h; obtain ⟨_, _, _, rfl⟩ := den_ptr dy; rw [den_nilP dx]; (simp only [Op.equalIn, Sem.run_bind, run_underlying hu, Result.andThen_ok]; rfl)
        case nilP.gptr => subst h; simp only [den, Option.some.injEq] at dy; subst dy; rw [den_nilP dx]; (simp only [Op.equalIn, Sem.run_bind, run_underlying hu, Result.andThen_ok]; rfl)
        case ptr.nilP => subst h; obtain ⟨_, _, _, rfl⟩ := den_ptr dx; rw [den_nilP dy]; (simp only [Op.equalIn, Sem.run_bind, run_underlying hu, Result.andThen_ok]; rfl)
        case gptr.nilP => subst h; simp only [den, Option.some.injEq] at dx; subst dx; rw [den_nilP dy]; (simp only [Op.equalIn, Sem.run_bind, run_underlying hu, Result.andThen_ok]; rfl)
        case ptr.ptr p a q c =>
          cases hs : sizeA P e with
          | none => simp [hs] at h
          | some s =>
            cases s with
            | zero => simp [hs] at h
            | succ s =>
              cases hk : Key.eqb p q with
              | false => simp [hs, hk] at h
              | true =>
                obtain rfl := (Key.eqb_iff p q).1 hk
                simp only [hs, hk, cond_true, fB_eq, Option.some.injEq, nbeq] at h
                obtain ⟨b1, κ1, e1, rfl⟩ := den_ptr dx
                obtain ⟨b2, κ2, e2, rfl⟩ := den_ptr dy
                rw [e1] at e2
                obtain ⟨rfl, rfl⟩ : b1 = b2 ∧ κ1 = κ2 := by simpa using e2
                simp only [Op.equalIn, Sem.run_bind, run_underlying hu, Result.andThen_ok, sizeA_ok hs, Sem.run_ite, sameAddr]
                rw [← h]
                simp
                by_cases c1 : a = c <;> simp [c1]
        case gptr.gptr p a q c =>
          cases hs : sizeA P e with
          | none => simp [hs] at h
          | some s =>
            cases s with
            | zero => simp [hs] at h
            | succ s =>
              cases hk : Nat.beq p q with
              | false => simp [hs, hk] at h
              | true =>
                obtain rfl := Nat.eq_of_beq_eq_true hk
                simp only [hs, hk, cond_true, fB_eq, Option.some.injEq, nbeq] at h
                simp only [den, Option.some.injEq] at dx dy; subst dx dy
                simp only [Op.equalIn, Sem.run_bind, run_underlying hu, Result.andThen_ok, sizeA_ok hs, Sem.run_ite, sameAddr]
                rw [← h]
                simp
                by_cases c1 : a = c <;> simp [c1]
      case interface ms =>
        cases v <;> cases u <;> simp only [reduceCtorEq, Option.some.injEq] at h
        case nilI.nilI => subst h; simp only [den, Option.some.injEq] at dx dy; subst dx dy; (simp only [Op.equalIn, Sem.run_bind, run_underlying hu, Result.andThen_ok]; rfl)
        case nilI.iface => subst h; obtain ⟨_, _, rfl⟩ := den_iface dy; simp only [den, Option.some.injEq] at dx; subst dx; (simp only [Op.equalIn, Sem.run_bind, run_underlying hu, Result.andThen_ok]; rfl)
        case iface.nilI => subst h; obtain ⟨_, _, rfl⟩ := den_iface dx; simp only [den, Option.some.injEq] at dy; subst dy; (simp only [Op.equalIn, Sem.run_bind, run_underlying hu, Result.andThen_ok]; rfl)
        case iface.iface tx vx ty vy =>
          obtain ⟨x', dx', rfl⟩ := den_iface dx
          obtain ⟨y', dy', rfl⟩ := den_iface dy
          rw [nbeq] at h
          by_cases ht : tx = ty
          · subst ht
            simp only [decide_true, cond_true] at h
            cases hi : P.info? tx with
            | none => simp [hi] at h
            | some i =>
              cases hc : i.comparable with
              | false => simp [hi, hc] at h
              | true =>
                simp only [hi, hc, cond_true] at h
                have := eqA_ok (w := w) n m tx vx vy x' y' b h dx' dy'
                simp [Op.equalIn, run_underlying hu, typeInfo, hi, hc, this]
          · simp only [ht, decide_false, cond_false, Option.some.injEq] at h; subst h
            simp [Op.equalIn, run_underlying hu, ht]
      case struct fs =>
        cases v <;> cases u <;> simp only [reduceCtorEq] at h
        rename_i l k
        cases hst : P.stoodInHeld t with
        | true => simp [hst] at h
        | false =>
          simp only [hst, cond_false] at h
          obtain ⟨xs, dl, rfl⟩ := den_agg dx
          obtain ⟨ys, dk, rfl⟩ := den_agg dy
          have hf : P.fieldsOf t = fs := by simp [Program.fieldsOf, hu]
          rw [run_equalIn_struct w (n + m) t xs.toArray ys.toArray (by rw [hf]; exact hu) hst, hf]
          exact eqF_ok (fun t v u x y b h1 h2 h3 => eqA_ok n m t v u x y b h1 h2 h3) dl dk h
      case slice e =>
        cases v <;> cases u <;> simp only [reduceCtorEq, Option.some.injEq] at h
        case nilS.nilS => subst h; simp only [den, Option.some.injEq] at dx dy; subst dx dy; (simp only [Op.equalIn, Sem.run_bind, run_underlying hu, Result.andThen_ok]; rfl)
        case nilS.sl => subst h; obtain ⟨_, _, _, rfl⟩ := den_sl dy; simp only [den, Option.some.injEq] at dx; subst dx; (simp only [Op.equalIn, Sem.run_bind, run_underlying hu, Result.andThen_ok]; rfl)
        case nilS.slu => subst h; obtain ⟨_, _, _, _, rfl⟩ := den_slu dy; simp only [den, Option.some.injEq] at dx; subst dx; (simp only [Op.equalIn, Sem.run_bind, run_underlying hu, Result.andThen_ok]; rfl)
        case sl.nilS => subst h; obtain ⟨_, _, _, rfl⟩ := den_sl dx; simp only [den, Option.some.injEq] at dy; subst dy; (simp only [Op.equalIn, Sem.run_bind, run_underlying hu, Result.andThen_ok]; rfl)
        case slu.nilS => subst h; obtain ⟨_, _, _, _, rfl⟩ := den_slu dx; simp only [den, Option.some.injEq] at dy; subst dy; (simp only [Op.equalIn, Sem.run_bind, run_underlying hu, Result.andThen_ok]; rfl)
      case map k e =>
        cases v <;> cases u <;> simp only [reduceCtorEq, Option.some.injEq] at h
        case nilM.nilM => subst h; simp only [den, Option.some.injEq] at dx dy; subst dx dy; (simp only [Op.equalIn, Sem.run_bind, run_underlying hu, Result.andThen_ok]; rfl)
        case nilM.map => subst h; obtain ⟨_, _, _, rfl⟩ := den_map dy; simp only [den, Option.some.injEq] at dx; subst dx; (simp only [Op.equalIn, Sem.run_bind, run_underlying hu, Result.andThen_ok]; rfl)
        case map.nilM => subst h; obtain ⟨_, _, _, rfl⟩ := den_map dx; simp only [den, Option.some.injEq] at dy; subst dy; (simp only [Op.equalIn, Sem.run_bind, run_underlying hu, Result.andThen_ok]; rfl)
      case func a1 a2 a3 =>
        cases v <;> cases u <;> simp only [reduceCtorEq, Option.some.injEq] at h
        case nilF.nilF => subst h; simp only [den, Option.some.injEq] at dx dy; subst dx dy; (simp only [Op.equalIn, Sem.run_bind, run_underlying hu, Result.andThen_ok]; rfl)
        case nilF.fn => subst h; obtain ⟨_, _, _, _, rfl⟩ := den_fn dy; simp only [den, Option.some.injEq] at dx; subst dx; (simp only [Op.equalIn, Sem.run_bind, run_underlying hu, Result.andThen_ok]; rfl)
        case fn.nilF => subst h; obtain ⟨_, _, _, _, rfl⟩ := den_fn dx; simp only [den, Option.some.injEq] at dy; subst dy; (simp only [Op.equalIn, Sem.run_bind, run_underlying hu, Result.andThen_ok]; rfl)
end
end Go.Ev
set_option linter.unusedVariables false
set_option linter.unusedSimpArgs false
namespace Go.Ev
noncomputable section

/- ### Maps -/
def sameA (kd : TypeDesc) (x y : AV) : Option Bool :=
  match kd with
  | .int _ => match x, y with
    | .int k a, .int k' b => bif kindEq k k' then fB (ieq a b) some else none
    | _, _ => none
  | .string => match x, y with
    | .str n a, .str m b => fB (sEq n a m b) some
    | _, _ => none
  | .bool => match x, y with
    | .bool a, .bool b => fB (bif a then b else !b) some
    | _, _ => none
  | _ => none

theorem sameA_ok {G : Nat → Nat} {ρ : Env} {kd : TypeDesc} {x y : AV} {b : Bool} {X Y : Value} (h : sameA kd x y = some b) (dx : den G ρ x = some X) (dy : den G ρ y = some Y) : Instr.sameNow kd X Y = some b := by
  cases kd <;> simp only [sameA, reduceCtorEq] at h
  case bool =>
    cases x <;> cases y <;> simp only [reduceCtorEq, fB_eq, Option.some.injEq] at h
    simp only [den, Option.some.injEq] at dx dy; subst dx dy
    rename_i p q
    rw [← h]; cases p <;> cases q <;> rfl
  case int k0 =>
    cases x <;> cases y <;> simp only [reduceCtorEq, fB_eq] at h
    simp only [den, Option.some.injEq] at dx dy; subst dx dy
    rename_i k p k' q
    cases hk : kindEq k k' with
    | false => simp [hk] at h
    | true =>
      simp only [hk, cond_true, Option.some.injEq] at h
      obtain rfl := kindEq_iff hk
      simp [Instr.sameNow, ← h, ieq_eq]
  case string =>
    cases x <;> cases y <;> simp only [reduceCtorEq, fB_eq, Option.some.injEq] at h
    simp only [den, Option.some.injEq] at dx dy; subst dx dy
    simp [Instr.sameNow, ← h, sEq_toList, beq_toListBytes]

def plainKind (kd : TypeDesc) : Bool :=
  match kd with
  | .int _ | .string | .bool => true
  | _ => false

theorem sameA_plain {kd : TypeDesc} {x y : AV} {b : Bool} (h : sameA kd x y = some b) : plainKind kd = true := by
  cases kd <;> simp only [sameA, reduceCtorEq] at h <;> rfl

def findA (kd : TypeDesc) (k : AV) : List (AV × AV × Nat) → Nat → Option (Option (Nat × AV × AV))
  | [], _ => some none
  | e :: es, i => match sameA kd k e.1 with
    | some true => some (some (i, e.1, e.2.1))
    | some false => findA kd k es (Nat.succ i)
    | none => none

theorem findA_ok {G : Nat → Nat} {ρ : Env} {kd : TypeDesc} {k : AV} {K : Value} (dk : den G ρ k = some K) : ∀ {es : List (AV × AV × Nat)} {l : List MapEntry} {i : Nat} {r : Option (Nat × AV × AV)},
    findA kd k es i = some r → All2 (entryOK G ρ) es l →
    (r = none ∧ Instr.findNow kd K l i = some none) ∨ (∃ j a v X V, r = some (i + j, a, v) ∧ den G ρ a = some X ∧ den G ρ v = some V ∧ (l[j]?).map (·.key) = some X ∧ Instr.findNow kd K l i = some (some (i + j, V)))
  | [], _, i, r, h, .nil => by simp [findA] at h; subst h; exact .inl ⟨rfl, rfl⟩
  | e :: es, m :: l, i, r, h, .cons ⟨e1, e2, e3⟩ hr => by
    simp only [findA] at h
    cases hs : sameA kd k e.1 with
    | none => simp [hs] at h
    | some b =>
      have hn := sameA_ok hs dk e1
      cases b with
      | true =>
        simp [hs] at h; subst h
        exact .inr ⟨0, e.1, e.2.1, m.key, m.val, rfl, e1, e2, by simp, by simp [Instr.findNow, hn]⟩
      | false =>
        simp [hs] at h
        rcases findA_ok dk h hr with ⟨rfl, h2⟩ | ⟨j, a, v, X, V, rfl, h2, h3, h4, h5⟩
        · exact .inl ⟨rfl, by simp [Instr.findNow, hn, h2]⟩
        · exact .inr ⟨j + 1, a, v, X, V, by rw [show i + (j + 1) = i + 1 + j from by omega], h2, h3, by simpa using h4, by simp [Instr.findNow, hn, h5]; omega⟩

theorem checkKey_plain {P : Program} {t : TypeId} {kd : TypeDesc} (hu : P.underlying t = some kd) (hp : plainKind kd = true) (e : Bool) (v : Value) (w : World) : (Instr.checkKey e 10000 t v).run P w = .ok () w := by
  rw [show (10000 : Nat) = 9999 + 1 from rfl]
  unfold Instr.checkKey
  simp only [Sem.run_bind, run_underlying hu, Result.andThen_ok]
  cases kd <;> simp [plainKind] at hp <;> rfl

def mapTy (P : Program) (t : TypeId) : Option (TypeId × TypeId × TypeDesc) :=
  match P.underlying t with
  | some (.map k e) => match P.underlying k with
    | some kd => bif plainKind kd then some (k, e, kd) else none
    | none => none
  | _ => none

theorem mapTy_ok {P : Program} {t k e : TypeId} {kd : TypeDesc} (h : mapTy P t = some (k, e, kd)) : P.underlying t = some (.map k e) ∧ P.underlying k = some kd ∧ plainKind kd = true := by
  unfold mapTy at h
  cases hu : P.underlying t with
  | none => simp [hu] at h
  | some ty =>
    cases ty <;> simp only [hu, reduceCtorEq] at h
    rename_i k' e'
    cases hk : P.underlying k' with
    | none => simp [hk] at h
    | some kd' =>
      cases hp : plainKind kd' with
      | false => simp [hk, hp] at h
      | true => simp [hk, hp] at h; obtain ⟨rfl, rfl, rfl⟩ := h; exact ⟨rfl, hk, hp⟩

/-- The entries of a map. -/
def entriesA (h : T AObj) (v : AV) : Option (List (AV × AV × Nat)) :=
  match v with
  | .nilM => some []
  | .map p => match T.get p h with
    | some (.map es _) => some es
    | _ => none
  | _ => none

def lookA (P : Program) (h : T AObj) (t : TypeId) (v k : AV) (ok : Bool) : Option AV :=
  match mapTy P t, entriesA h v with
  | some (_, e, kd), some es => match findA kd k es 0 with
    | some (some (_, _, x)) => some (bif ok then .tup [x, .bool true] else x)
    | some none => match zeroA P e with
      | some z => some (bif ok then .tup [z, .bool false] else z)
      | none => none
    | none => none
  | _, _ => none

theorem entriesA_ok {G : Nat → Nat} {w0 : World} {ρ : Env} {h : T AObj} {n : Key} {w : World} (r : RelH G w0 ρ h n w) {v : AV} {es : List (AV × AV × Nat)} {x : Value} (e : entriesA h v = some es) (d : den G ρ v = some x) :
    ∃ l : List MapEntry, All2 (entryOK G ρ) es l ∧ ((x = .map none ∧ l = []) ∨ ∃ b clk, x = .map (some b) ∧ w.heap[b]? = some (.map l.toArray clk)) := by
  cases v <;> simp only [entriesA, reduceCtorEq] at e
  case nilM =>
    simp only [Option.some.injEq] at e; subst e
    simp only [den, Option.some.injEq] at d; subst d
    exact ⟨[], .nil, .inl ⟨rfl, rfl⟩⟩
  case map p =>
    cases hp : T.get p h with
    | none => simp [hp] at e
    | some o =>
      obtain ⟨b, κ, y, h1, h2, h3, h4, h5⟩ := r.lt hp
      cases o <;> simp only [hp, reduceCtorEq, Option.some.injEq] at e
      subst e
      obtain ⟨l, rfl, hl⟩ := h5
      obtain ⟨b', κ', h1', rfl⟩ := den_map d
      rw [h1] at h1'
      obtain ⟨rfl, rfl⟩ : b = b' ∧ κ = κ' := by simpa using h1'
      exact ⟨l, hl, .inr ⟨b, _, rfl, h2⟩⟩

theorem look_ok {P : Program} {G : Nat → Nat} {w0 : World} {ρ : Env} {h : T AObj} {n : Key} {w : World} (r : RelH G w0 ρ h n w) {t : TypeId} {v k u : AV} {ok : Bool} {x K : Value} (e : lookA P h t v k ok = some u)
    (d : den G ρ v = some x) (dk : den G ρ k = some K) : ∃ y, (Instr.lookup t x K ok).run P w = .ok y w ∧ den G ρ u = some y := by
  unfold lookA at e
  cases hm : mapTy P t with
  | none => simp [hm] at e
  | some ked =>
    obtain ⟨kt, et, kd⟩ := ked
    obtain ⟨u1, u2, hp⟩ := mapTy_ok hm
    cases he : entriesA h v with
    | none => simp [hm, he] at e
    | some es =>
      obtain ⟨l, hl, hx⟩ := entriesA_ok r he d
      cases hf : findA kd k es 0 with
      | none => simp [hm, he, hf] at e
      | some res =>
        have fin : ∀ (y : Value) (b : Bool), ((∃ i, (Instr.findKey kt K l).run P w = .ok (some (i, y)) w ∧ b = true) ∨ ((Instr.findKey kt K l).run P w = .ok none w ∧ (zeroValue et).run P w = .ok y w ∧ b = false)) →
            (Instr.lookup t x K ok).run P w = .ok (if ok then .tuple #[y, .bool b] else y) w := fun y b hh => by
          rcases hx with ⟨rfl, rfl⟩ | ⟨bl, clk, rfl, hb⟩ <;> rcases hh with ⟨i, hh, rfl⟩ | ⟨hh, hz, rfl⟩ <;>
            simp only [Instr.lookup, getObj, Sem.run_bind, run_underlying u1, Result.andThen_ok, Sem.run_pure, Sem.run, checkKey_plain u2 hp, hh] <;> (try simp only [hb, Sem.run_bind, Sem.run_pure, Result.andThen_ok, checkKey_plain u2 hp, hh, Sem.run]) <;> (try simp only [hz, Result.andThen_ok, Sem.run_pure])
        have fk : ∀ o, Instr.findNow kd K l 0 = some o → (Instr.findKey kt K l).run P w = .ok o w := fun o ho => by
          simp [Instr.findKey, run_underlying u2, ho]
        rcases findA_ok dk hf hl with ⟨rfl, h2⟩ | ⟨j, a, v', X, V, rfl, _, h3, _, h5⟩
        · cases hz : zeroA P et with
          | none => simp [hm, he, hf, hz] at e
          | some z =>
            simp [hm, he, hf, hz] at e; subst e
            obtain ⟨zx, hzr, dz⟩ := zeroA_ok hz w
            refine ⟨_, fin zx false (.inr ⟨fk _ h2, hzr, rfl⟩), ?_⟩
            cases ok
            · simpa using dz G ρ
            · simp only [cond_true, if_true, den]
              rw [denL_cons.2 ⟨zx, [.bool false], dz G ρ, denL_cons.2 ⟨.bool false, [], rfl, rfl, rfl⟩, rfl⟩]
        · simp [hm, he, hf] at e; subst e
          refine ⟨_, fin V true (.inl ⟨_, fk _ h5, rfl⟩), ?_⟩
          cases ok
          · simpa using h3
          · simp only [cond_true, if_true, den]
            rw [denL_cons.2 ⟨V, [.bool true], h3, denL_cons.2 ⟨.bool true, [], rfl, rfl, rfl⟩, rfl⟩]

/- ### len, cap, min, max -/
def intA (n : Nat) : Option AV := fN n fun n => some (.int .i64 (.ofNat n))

def lenA (P : Program) (h : T AObj) (t : TypeId) (v : AV) : Option AV :=
  match P.underlying t with
  | some .string => match v with
    | .str n _ => intA n
    | _ => none
  | some (.array n _) => intA n
  | some (.pointer a) => match P.underlying a with
    | some (.array n _) => intA n
    | _ => none
  | some (.slice _) => match v with
    | .nilS => intA 0
    | .sl _ _ n _ => intA n
    | .slu _ _ n _ => intA n
    | .slz .. => intA 0
    | _ => none
  | some (.map _ _) => match entriesA h v with
    | some es => intA es.length
    | none => none
  | _ => none

theorem All2.length {α β : Type} {R : α → β → Prop} {l : List α} {m : List β} (h : All2 R l m) : l.length = m.length := by
  induction h with
  | nil => rfl
  | cons _ _ ih => simp [ih]

theorem len_ok {P : Program} {G : Nat → Nat} {w0 : World} {ρ : Env} {h : T AObj} {n : Key} {w : World} (r : RelH G w0 ρ h n w) {t : TypeId} {ts : List TypeId} {ty : TypeId} {v u : AV} {x : Value} (e : lenA P h t v = some u)
    (d : den G ρ v = some x) : ∃ y, (Builtin.len_ (t :: ts).toArray ty #[x]).run P w = .ok y w ∧ den G ρ u = some y := by
  unfold lenA at e
  cases hu : P.underlying t with
  | none => simp [hu] at e
  | some d0 =>
    cases d0 <;> simp only [hu, reduceCtorEq, intA, fN_eq, Option.some.injEq] at e
    case string =>
      cases v <;> simp only [reduceCtorEq, Option.some.injEq] at e
      subst e
      simp only [den, Option.some.injEq] at d; subst d
      exact ⟨_, by simp [Builtin.len_, run_underlying hu, size_mkB]; rfl, rfl⟩
    case array m e0 =>
      subst e
      exact ⟨_, by simp [Builtin.len_, run_underlying hu]; rfl, rfl⟩
    case pointer a =>
      cases ha : P.underlying a with
      | none => simp [ha] at e
      | some da =>
        cases da <;> simp only [ha, reduceCtorEq, Option.some.injEq] at e
        subst e
        exact ⟨_, by simp [Builtin.len_, run_underlying hu, run_underlying ha]; rfl, rfl⟩
    case slice e0 =>
      cases v <;> simp only [reduceCtorEq, Option.some.injEq] at e
      case nilS => subst e; simp only [den, Option.some.injEq] at d; subst d; exact ⟨_, by simp [Builtin.len_, run_underlying hu]; rfl, rfl⟩
      case sl => subst e; obtain ⟨_, _, _, rfl⟩ := den_sl d; exact ⟨_, by simp [Builtin.len_, run_underlying hu]; rfl, rfl⟩
      case slu => subst e; obtain ⟨_, _, _, _, rfl⟩ := den_slu d; exact ⟨_, by simp [Builtin.len_, run_underlying hu]; rfl, rfl⟩
      case slz => subst e; obtain ⟨_, _, _, _, rfl⟩ := den_slz d; exact ⟨_, by simp [Builtin.len_, run_underlying hu]; rfl, rfl⟩
    case map k0 e0 =>
      cases v <;> simp only [entriesA, reduceCtorEq] at e
      case nilM =>
        simp only [Option.some.injEq] at e; subst e
        simp only [den, Option.some.injEq] at d; subst d
        exact ⟨_, by simp [Builtin.len_, run_underlying hu]; rfl, rfl⟩
      case map p =>
        cases hp : T.get p h with
        | none => simp [hp] at e
        | some o =>
          obtain ⟨b, κ, y, h1, h2, h3, h4, h5⟩ := r.lt hp
          cases o <;> simp only [hp, reduceCtorEq, Option.some.injEq] at e
          subst e
          obtain ⟨l, rfl, hl⟩ := h5
          obtain ⟨b', κ', h1', rfl⟩ := den_map d
          rw [h1] at h1'
          obtain ⟨rfl, rfl⟩ : b = b' ∧ κ = κ' := by simpa using h1'
          refine ⟨goInt l.length, by simp [Builtin.len_, run_underlying hu, getObj, Sem.run, h2], ?_⟩
          simp only [den, hl.length]; rfl

def capA (P : Program) (t : TypeId) (v : AV) : Option AV :=
  match P.underlying t with
  | some (.slice _) => match v with
    | .nilS => intA 0
    | .sl _ _ _ c => intA c
    | _ => none
  | some (.array n _) => intA n
  | _ => none

theorem cap_ok {P : Program} {G : Nat → Nat} {ρ : Env} {w : World} {t : TypeId} {ts : List TypeId} {ty : TypeId} {v u : AV} {x : Value} (e : capA P t v = some u)
    (d : den G ρ v = some x) : ∃ y, (Builtin.cap_ (t :: ts).toArray ty #[x]).run P w = .ok y w ∧ den G ρ u = some y := by
  unfold capA at e
  cases hu : P.underlying t with
  | none => simp [hu] at e
  | some d0 =>
    cases d0 <;> simp only [hu, reduceCtorEq, intA, fN_eq, Option.some.injEq] at e
    case array m e0 =>
      subst e
      exact ⟨_, by simp [Builtin.cap_, run_underlying hu]; rfl, rfl⟩
    case slice e0 =>
      cases v <;> simp only [reduceCtorEq, Option.some.injEq] at e
      case nilS => subst e; simp only [den, Option.some.injEq] at d; subst d; exact ⟨_, by simp [Builtin.cap_, run_underlying hu]; rfl, rfl⟩
      case sl => subst e; obtain ⟨_, _, _, rfl⟩ := den_sl d; exact ⟨_, by simp [Builtin.cap_, run_underlying hu]; rfl, rfl⟩

def mm2 (mx : Bool) (x y : AV) : Option AV :=
  match x, y with
  | .int k a, .int _ b => bif (bif mx then ilt a b else ilt b a) then some (.int k b) else some (.int k a)
  | _, _ => none

/- ### Cuts with a bound for what lies behind -/
def cut3 (p : Key) (off l h m s : Nat) : Option AV :=
  bif Nat.beq m l then fN (Nat.sub h l) fun k => some (.sl p off k 0)
  else fN (Nat.sub h l) fun k => fN (Nat.sub m l) fun c => fN (Nat.add off (Nat.mul l s)) fun o => some (.sl p o k c)

def slice3A (P : Program) (t : TypeId) (v : AV) (lo hi : Option AV) (mx : AV) : Option AV :=
  match P.underlying t, hi with
  | some (.slice e), some hv => match v with
    | .sl p off len cap => match bound lo 0, idx hv, idx mx, sizeA P e with
      | some l, some h, some m, some s => bif leB l h m then (bif Nat.ble m cap then cut3 p off l h m s else none) else none
      | _, _, _, _ => none
    | .slu p d len sz => match bound lo 0, idx hv, idx mx, sizeA P e with
      | some l, some h, some m, some s => bif leB l h m then (bif Nat.ble m len then (bif Nat.beq s sz then fN (Nat.mul d s) fun off => cut3 p off l h m s else none) else none) else none
      | _, _, _, _ => none
    | _ => none
  | _, _ => none

theorem bounds3_ok {P : Program} {G : Nat → Nat} {ρ : Env} {len cap l h m : Nat} {lo : Option AV} {hv mv : AV} {xl : Option Value} {xh xm : Value} (hl : bound lo 0 = some l) (hh : idx hv = some h) (hm : idx mv = some m)
    (c1 : l ≤ h) (c2 : h ≤ m) (c3 : m ≤ cap) (dl : denO G ρ lo = some xl) (dh : den G ρ hv = some xh) (dm : den G ρ mv = some xm) (w : World) :
    (Instr.sliceBounds true len cap xl (some xh) (some xm)).run P w = .ok (l, h, m) w := by
  obtain ⟨k1, rfl⟩ := idx_ok hh dh
  obtain ⟨k2, rfl⟩ := idx_ok hm dm
  rcases bound_or hl dl with ⟨rfl, rfl⟩ | ⟨k3, rfl⟩ <;> simp [Instr.sliceBounds, sliceBound_ok c1, sliceBound_ok c2, sliceBound_ok c3]

theorem cut3_ok {P : Program} {G : Nat → Nat} {ρ : Env} {t e : TypeId} {p : Key} {off l h m s len cap b κ : Nat} {u : AV} {xl : Option Value} {xh xm : Value} (hu : P.underlying t = some (.slice e)) (hs : sizeA P e = some s) (hp : ρ p = some (b, κ))
    (hb : ∀ w, (Instr.sliceBounds true len cap xl (some xh) (some xm)).run P w = .ok (l, h, m) w) (hc : cut3 p off l h m s = some u) (w : World) :
    ∃ z, (Instr.sliceAt t (.slice (some ⟨b, off, none⟩) len cap) xl (some xh) (some xm)).run P w = .ok z w ∧ den G ρ u = some z := by
  unfold cut3 at hc
  rw [nbeq] at hc
  by_cases e : m = l
  · simp only [e, decide_true, cond_true, fN_eq, Option.some.injEq] at hc; subst hc
    refine ⟨.slice (some ⟨b, off, none⟩) (h - l) 0, ?_, by simp [den, hp]⟩
    subst e
    simp [Instr.sliceAt, Instr.slice, run_underlying hu, hb, sizeA_ok hs]
  · simp only [e, decide_false, cond_false, fN_eq, Option.some.injEq] at hc; subst hc
    refine ⟨.slice (some ⟨b, off + l * s, none⟩) (h - l) (m - l), ?_, by simp [den, hp]⟩
    simp [Instr.sliceAt, Instr.slice, run_underlying hu, hb, sizeA_ok hs, e, add_plain]

theorem slice3_ok {P : Program} {G : Nat → Nat} {ρ : Env} {t : TypeId} {v u mv : AV} {lo hi : Option AV} {x xm : Value} {xl xh : Option Value} (h : slice3A P t v lo hi mv = some u) (d : den G ρ v = some x)
    (dl : denO G ρ lo = some xl) (dh : denO G ρ hi = some xh) (dm : den G ρ mv = some xm) (w : World) : ∃ z, (Instr.sliceAt t x xl xh (some xm)).run P w = .ok z w ∧ den G ρ u = some z := by
  unfold slice3A at h
  split at h
  · rename_i e hv hu
    obtain ⟨yh, rfl, dh'⟩ : ∃ yh, xh = some yh ∧ den G ρ hv = some yh := by
      simp only [denO] at dh
      cases hd : den G ρ hv with
      | none => simp [hd] at dh
      | some y => simp [hd] at dh; exact ⟨y, dh.symm, rfl⟩
    split at h
    · rename_i p off len cap
      split at h
      · rename_i l k m s h1 h2 h3 h4
        obtain ⟨c1, h⟩ := cond_some' h
        obtain ⟨c1, c2⟩ := leB_eq c1
        obtain ⟨c3, h⟩ := cond_some' h
        have c3 := Nat.le_of_ble_eq_true c3
        simp only [den] at d
        cases hp : ρ p with
        | none => simp [hp] at d
        | some bk =>
          obtain ⟨b, κ⟩ := bk
          simp [hp] at d; subst d
          exact cut3_ok hu h4 hp (bounds3_ok h1 h2 h3 c1 c2 c3 dl dh' dm) h w
      · cases h
    · rename_i p dd len sz
      split at h
      · rename_i l k m s h1 h2 h3 h4
        obtain ⟨c1, h⟩ := cond_some' h
        obtain ⟨c1, c2⟩ := leB_eq c1
        obtain ⟨c3, h⟩ := cond_some' h
        have c3 := Nat.le_of_ble_eq_true c3
        obtain ⟨c4, h9⟩ := cond_some' h
        have c5 := Nat.eq_of_beq_eq_true c4
        subst c5
        rw [fN_eq] at h9
        simp only [den] at d
        cases hp : ρ p with
        | none => simp [hp] at d
        | some bk =>
          obtain ⟨b, κ⟩ := bk
          by_cases hk : dd + len ≤ κ
          · simp [hp, hk] at d; subst d
            exact cut3_ok hu h4 hp (bounds3_ok h1 h2 h3 c1 c2 (by omega) dl dh' dm) h9 w
          · simp [hp, hk] at d
      · cases h
    · cases h
  · cases h
end
end Go.Ev
set_option linter.unusedVariables false
set_option linter.unusedSimpArgs false
namespace Go.Ev
noncomputable section

def isC : Operand → Bool
  | .const _ => true
  | _ => false

def guardB (P : Program) (t : TypeId) (x y : Operand) (a b : AV) : Bool :=
  match a, b with
  | .nilI, .nilI => bif isC x then true else isC y
  | .agg _, .agg _ => !P.eqGuardType P.depth t
  | _, _ => true

theorem guard_ok {P : Program} {G : Nat → Nat} {ρ : Env} {op : BinOp} {t : TypeId} {x y : Operand} {a b : AV} {A B : Value} (h : guardB P t x y a b = true) (da : den G ρ a = some A) (db : den G ρ b = some B) (w : World) :
    (eqGuard op t x y A B).run P w = .ok () w := by
  have e1 : ∀ v : AV, den G ρ v = some .nilIface → v = .nilI := fun v hv => by
    cases v <;> first | rfl | (simp only [den, Option.some.injEq, reduceCtorEq] at hv; done) | (simp only [den] at hv; (repeat' split at hv) <;> simp at hv)
  have e2 : ∀ (v : AV) c, den G ρ v = some (.agg c) → ∃ l, v = .agg l := fun v c hv => by
    cases v <;> first | exact ⟨_, rfl⟩ | (simp only [den, Option.some.injEq, reduceCtorEq] at hv; done) | (simp only [den] at hv; (repeat' split at hv) <;> simp at hv)
  have main : ∀ o, o = BinOp.eql ∨ o = BinOp.neq → (eqGuard o t x y A B).run P w = .ok () w := fun o ho => by
    by_cases c1 : A = .nilIface ∧ B = .nilIface
    · obtain ⟨rfl, rfl⟩ := c1
      obtain rfl := e1 a da
      obtain rfl := e1 b db
      simp only [guardB] at h
      rcases ho with rfl | rfl <;> cases x <;> cases y <;> simp [isC] at h <;> rfl
    · by_cases c2 : ∃ p q, A = .agg p ∧ B = .agg q
      · obtain ⟨p, q, rfl, rfl⟩ := c2
        obtain ⟨l, rfl⟩ := e2 a _ da
        obtain ⟨m, rfl⟩ := e2 b _ db
        simp only [guardB, Bool.not_eq_true'] at h
        exact run_eqGuard_agg w o t x y p q h
      · rcases ho with rfl | rfl <;> cases A <;> cases B <;> first | rfl | exact absurd ⟨rfl, rfl⟩ c1 | exact absurd ⟨_, _, rfl, rfl⟩ c2
  cases op <;> first | exact main _ (.inl rfl) | exact main _ (.inr rfl) | rfl

def isShift : BinOp → Bool
  | .shl | .shr => true
  | _ => false

def binE (P : Program) (op : BinOp) (t : TypeId) (a b : AV) : Option AV :=
  match op with
  | .eql => match eqA P 10 t a b with
    | some c => some (.bool c)
    | none => none
  | .neq => match eqA P 10 t a b with
    | some c => fB (!c) fun c => some (.bool c)
    | none => none
  | _ => none

def binA (P : Program) (op : BinOp) (t : TypeId) (a b : AV) : Option AV :=
  match a, b with
  | .int k x, .int k' y => bif isShift op then iShift op k x y else bif kindEq k k' then iArith op k x y else none
  | .str n x, .str m y => bif isShift op then none else sOp op n x m y
  | a, b => binE P op t a b

theorem bin_ok {P : Program} {G : Nat → Nat} {ρ : Env} {op : BinOp} {t : TypeId} {a b u : AV} {A B : Value} (h : binA P op t a b = some u) (da : den G ρ a = some A) (db : den G ρ b = some B) (w : World) :
    ∃ y, (Go.binOp op t A B).run P w = .ok y w ∧ den G ρ u = some y := by
  have other : ∀ (hh : binE P op t a b = some u) (hi : ¬ ∃ k n k' m, A = .int k n ∧ B = .int k' m) (hs : ¬ ∃ s r, A = .string s ∧ B = .string r),
      ∃ y, (Go.binOp op t A B).run P w = .ok y w ∧ den G ρ u = some y := fun hh hi hs => by
    have nf : (∀ k x, A ≠ .float k x) ∧ (∀ k x y, A ≠ .complex k x y) ∧ (∀ r, A ≠ .chan r) := by
      refine ⟨fun k x e => ?_, fun k x y e => ?_, fun r e => ?_⟩ <;> subst e <;> cases a <;> simp only [den, Option.some.injEq, reduceCtorEq] at da <;> (repeat' split at da) <;> simp at da
    have eqr : ∀ c, eqA P 10 t a b = some c → (Op.equal t A B).run P w = .ok c w := fun c hc => eqA_ok 10 9990 t a b A B c hc da db
    have key : ∀ (op' : BinOp), op' = .eql ∨ op' = .neq → Go.binOp op' t A B = (if op' = .eql then (do pure (.bool (← Op.equal t A B))) else (do pure (.bool (!(← Op.equal t A B))))) := fun op' ho => by
      rcases ho with rfl | rfl <;> cases A <;> cases B <;> first
        | rfl
        | exact absurd ⟨_, _, _, _, rfl, rfl⟩ hi
        | exact absurd ⟨_, _, rfl, rfl⟩ hs
        | exact absurd rfl (nf.1 _ _)
        | exact absurd rfl (nf.2.1 _ _ _)
    cases op <;> simp only [binE, reduceCtorEq] at hh
    case eql =>
      cases hc : eqA P 10 t a b with
      | none => simp [hc] at hh
      | some c =>
        simp [hc] at hh; subst hh
        rw [key _ (.inl rfl)]
        exact ⟨.bool c, by simp [eqr c hc], rfl⟩
    case neq =>
      cases hc : eqA P 10 t a b with
      | none => simp [hc] at hh
      | some c =>
        simp [hc, fB_eq] at hh; subst hh
        rw [key _ (.inr rfl)]
        exact ⟨.bool (!c), by simp [eqr c hc], rfl⟩
  cases a
  case int k x =>
    simp only [den, Option.some.injEq] at da; subst da
    cases b
    case int k' y =>
      simp only [den, Option.some.injEq] at db; subst db
      simp only [binA] at h
      cases hsh : isShift op with
      | true =>
        simp only [hsh, cond_true] at h
        obtain ⟨z, h1, h2⟩ := iShift_ok (P := P) (yk := k') (t := t) h w
        exact ⟨z, h1, h2 G ρ⟩
      | false =>
        cases hk : kindEq k k' with
        | false => simp [hsh, hk] at h
        | true =>
          rw [hsh, hk] at h
          have h' : iArith op k x y = some u := h
          obtain rfl := kindEq_iff hk
          obtain ⟨z, h1, h2⟩ := iArith_ok (P := P) (t := t) h' (by intro e; subst e; simp [isShift] at hsh) (by intro e; subst e; simp [isShift] at hsh) w
          exact ⟨z, h1, h2 G ρ⟩
    all_goals exact other (by simpa only [binA] using h) (by rintro ⟨k1, n1, k2, n2, _, rfl⟩; simp only [den, Option.some.injEq, reduceCtorEq] at db <;> (repeat' split at db) <;> simp at db) (by rintro ⟨_, _, e, _⟩; cases e)
  case str n x =>
    simp only [den, Option.some.injEq] at da; subst da
    cases b
    case str m y =>
      simp only [den, Option.some.injEq] at db; subst db
      simp only [binA] at h
      cases hsh : isShift op with
      | true => simp [hsh] at h
      | false =>
        simp only [hsh, cond_false] at h
        obtain ⟨z, h1, h2⟩ := sOp_ok (P := P) (t := t) h w
        exact ⟨z, h1, h2 G ρ⟩
    all_goals exact other (by simpa only [binA] using h) (by rintro ⟨_, _, _, _, e, _⟩; cases e) (by rintro ⟨s1, s2, _, rfl⟩; simp only [den, Option.some.injEq, reduceCtorEq] at db <;> (repeat' split at db) <;> simp at db)
  all_goals exact other (by simpa only [binA] using h) (by rintro ⟨k1, n1, k2, n2, rfl, _⟩; simp only [den, Option.some.injEq, reduceCtorEq] at da <;> (repeat' split at da) <;> simp at da) (by rintro ⟨s1, s2, rfl, _⟩; simp only [den, Option.some.injEq, reduceCtorEq] at da <;> (repeat' split at da) <;> simp at da)

def optA (C : Cx) (t : T AV) : Option Operand → Option (Option AV)
  | none => some none
  | some x => match evO C t x with
    | some v => some (some v)
    | none => none

def mm (mx : Bool) (x y : AV) : Option AV :=
  match x, y with
  | .int k a, .int _ b => bif (bif mx then ilt a b else ilt b a) then some (.int k b) else some (.int k a)
  | _, _ => none

/-- What an operation yields that only computes, or reads. -/
def assertA (P : Program) (v : AV) (ty : TypeId) (okb : Bool) : Option AV :=
  match P.underlying ty with
  | none => none
  | some (.interface _) => none
  | some _ => match v with
    | .iface t u => bif Nat.beq t ty then some (bif okb then .tup [u, .bool true] else u) else bif okb then (zeroA P ty).bind fun z => some (.tup [z, .bool false]) else none
    | .nilI => bif okb then (zeroA P ty).bind fun z => some (.tup [z, .bool false]) else none
    | _ => none

def evP (C : Cx) (t : T AV) (h : T AObj) (op : Op) : Option AV :=
  match op with
  | .move x | .assign x => evO C t x
  | .pick c a b => match evO C t c with
    | some (.bool true) => evO C t a
    | some (.bool false) => evO C t b
    | _ => none
  | .load ty a => (evO C t a).bind fun v => loadA C h ty v
  | .nilCheck x => (evO C t x).bind fun v => bif notNil v then some v else none
  | .binOp op ty x y _ => (evO C t x).bind fun a => (evO C t y).bind fun b => bif guardB C.P ty x y a b then binA C.P op ty a b else none
  | .unOp op _ x => (evO C t x).bind fun a => unA op a
  | .convert s d x => (evO C t x).bind fun a => convA C h s d a
  | .makeInterface ty x => (evO C t x).bind fun a => mkIfA C.P ty a
  | .typeAssert x _ ty okb => (evO C t x).bind fun v => assertA C.P v ty okb
  | .makeFunc (.func f) first cap => (evOs C t first.toList).bind fun l => (evOs C t cap.toList).bind fun m => some (.fn f l m)
  | .slice ty x lo hi none => (evO C t x).bind fun v => (optA C t lo).bind fun l => (optA C t hi).bind fun m => sliceA C.P ty v l m
  | .slice ty x lo hi (some mx) => (evO C t x).bind fun v => (optA C t lo).bind fun l => (optA C t hi).bind fun m => (evO C t mx).bind fun c => slice3A C.P ty v l m c
  | .fieldAddr s x f => (evO C t x).bind fun v => fieldAtA C.P s v f
  | .field s x f => (evO C t x).bind fun v => fieldA C.P s v f
  | .indexAddr ty x i => (evO C t x).bind fun v => (evO C t i).bind fun i => indexAtA C.P ty v i
  | .index ty x i => (evO C t x).bind fun v => (evO C t i).bind fun i => indexA C.P ty v i
  | .lookup ty m k ok => (evO C t m).bind fun m => (evO C t k).bind fun k => lookA C.P h ty m k ok
  | .extract x i => (evO C t x).bind fun v => extractA v i
  | .build ty parts => (evParts C t parts.toList).bind fun ps => buildA C.P ty ps
  | .call c => match c.callee with
    | .builtin .len => match c.args.toList, c.argTypes.toList with
      | [x], ty :: _ => (evO C t x).bind fun v => lenA C.P h ty v
      | _, _ => none
    | .builtin .cap => match c.args.toList, c.argTypes.toList with
      | [x], ty :: _ => (evO C t x).bind fun v => capA C.P ty v
      | _, _ => none
    | .builtin .max => match c.args.toList with
      | [x, y] => (evO C t x).bind fun v => (evO C t y).bind fun u => mm true v u
      | _ => none
    | .builtin .min => match c.args.toList with
      | [x, y] => (evO C t x).bind fun v => (evO C t y).bind fun u => mm false v u
      | _ => none
    | _ => none
  | _ => none

theorem assert_ok {P : Program} {G : Nat → Nat} {ρ : Env} {v u : AV} {xt ty : TypeId} {okb : Bool} {x : Value} (h : assertA P v ty okb = some u) (d : den G ρ v = some x) (w : World) :
    ∃ y, (Instr.typeAssert x xt ty okb).run P w = .ok y w ∧ den G ρ u = some y := by
  unfold assertA at h
  cases hu : P.underlying ty with
  | none => simp [hu] at h
  | some ds =>
    have fails : ∀ (st dy : Option TypeId) (ms : String), (bif okb then (zeroA P ty).bind fun z => some (.tup [z, .bool false]) else none) = some u →
        ∃ y, (if okb = true then (do pure (.tuple #[← zeroValue ty, .bool false])) else runtimePanic (.typeAssertion st dy ty ms) : Sem Value).run P w = .ok y w ∧ den G ρ u = some y := by
      intro st dy ms hh
      cases okb with
      | false => cases hh
      | true =>
        simp only [cond_true] at hh
        obtain ⟨z, hz, hh⟩ := bind_some hh
        simp only [Option.some.injEq] at hh; subst hh
        obtain ⟨zx, r1, r2⟩ := zeroA_ok hz w
        exact ⟨.tuple #[zx, .bool false], by simp [Sem.run_bind, r1, Result.andThen_ok], by simp [den, denL, r2 G ρ]⟩
    cases ds <;> simp only [hu, reduceCtorEq] at h <;> (
      cases v <;> simp only [reduceCtorEq] at h
      case iface t u' =>
        cases dx : den G ρ u' with
        | none => simp [den, dx] at d
        | some x' =>
        simp only [den, dx, Option.some.injEq] at d
        subst d
        by_cases ht : t = ty
        · subst ht
          have e1 : Nat.beq t t = true := by rw [nbeq]; simp
          rw [e1] at h
          simp only [cond_true, Option.some.injEq] at h
          subst h
          cases okb with
          | true => exact ⟨.tuple #[x', .bool true], by simp [Instr.typeAssert, Sem.run_bind, run_underlying hu, Result.andThen_ok], by simp [den, denL, dx]⟩
          | false => exact ⟨x', by simp [Instr.typeAssert, Sem.run_bind, run_underlying hu, Result.andThen_ok], dx⟩
        · have e1 : Nat.beq t ty = false := by rw [nbeq]; simp [ht]
          rw [e1] at h
          simp only [cond_false] at h
          obtain ⟨y, r1, r2⟩ := fails (some xt) (some t) "" h
          refine ⟨y, ?_, r2⟩
          rw [← r1]
          simp only [Instr.typeAssert, Sem.run_bind, run_underlying hu, Result.andThen_ok, if_neg ht]
      case nilI =>
        simp only [den, Option.some.injEq] at d
        subst d
        obtain ⟨y, r1, r2⟩ := fails (some xt) none "" h
        refine ⟨y, ?_, r2⟩
        rw [← r1]
        simp only [Instr.typeAssert, Sem.run_bind, run_underlying hu, Result.andThen_ok])

theorem optA_ok {C : Cx} {G : Nat → Nat} {w0 : World} (ok : C.Ok G w0) {ρ : Env} {t : T AV} {nt : Nat} {a : Act} (r : RelT G ρ t nt a) {x : Option Operand} {v : Option AV} (h : optA C t x = some v) :
    denO G ρ v = some (x.map a.eval) := by
  cases x with
  | none => simp [optA] at h; subst h; rfl
  | some x =>
    simp only [optA] at h
    cases h1 : evO C t x with
    | none => simp [h1] at h
    | some u => simp [h1] at h; subst h; simp [denO, evO_ok ok r h1]

theorem mm_ok {P : Program} {mx : Bool} {x y u : AV} {G : Nat → Nat} {ρ : Env} {X Y : Value} (h : mm mx x y = some u) (dx : den G ρ x = some X) (dy : den G ρ y = some Y) (w : World) :
    ∃ z, (if mx then Builtin.max2 X Y else Builtin.min2 X Y).run P w = .ok z w ∧ den G ρ u = some z := by
  cases x <;> cases y <;> simp only [mm, reduceCtorEq] at h
  rename_i k a k' b
  simp only [den, Option.some.injEq] at dx dy; subst dx dy
  cases mx
  · simp only [cond_false, ilt_eq] at h
    by_cases c : b < a
    · simp [c] at h; subst h; exact ⟨.int k b, by simp [Builtin.min2, c], rfl⟩
    · simp [c] at h; subst h; exact ⟨.int k a, by simp [Builtin.min2, c], rfl⟩
  · simp only [cond_true, ilt_eq] at h
    by_cases c : a < b
    · simp [c] at h; subst h; exact ⟨.int k b, by simp [Builtin.max2, c], rfl⟩
    · simp [c] at h; subst h; exact ⟨.int k a, by simp [Builtin.max2, c], rfl⟩

theorem list1 {α : Type} {a : Array α} {x : α} (h : a.toList = [x]) : a = #[x] := Array.ext' h
theorem list2 {α : Type} {a : Array α} {x y : α} (h : a.toList = [x, y]) : a = #[x, y] := Array.ext' h

theorem evP_ok {C : Cx} {G : Nat → Nat} {w0 : World} (ok : C.Ok G w0) {ρ : Env} {t : T AV} {nt : Nat} {a : Act} (rt : RelT G ρ t nt a) {h : T AObj} {n : Key} {w : World} (r : RelH G w0 ρ h n w) {o : Oper} {v : AV}
    (e : evP C t h o.op = some v) : ∃ x, (execOp a.eval o).run C.P w = .ok (.value x) w ∧ den G ρ v = some x := by
  have lift : ∀ {s : Sem Value} {x : Value}, s.run C.P w = .ok x w → (do pure (Next.value (← s)) : Sem Next).run C.P w = .ok (.value x) w := fun hs => by simp only [Sem.run_bind, hs, Result.andThen_ok, Sem.run_pure]
  obtain ⟨dst, op, type, pos, after, guard⟩ := o
  cases op <;> simp only [evP, reduceCtorEq] at e
  case move x => exact ⟨_, rfl, evO_ok ok rt e⟩
  case assign x => exact ⟨_, rfl, evO_ok ok rt e⟩
  case pick c x y =>
    cases hc : evO C t c with
    | none => simp [hc] at e
    | some cv =>
      have dc := evO_ok ok rt hc
      cases cv <;> simp only [hc, reduceCtorEq] at e
      rename_i b
      simp only [den, Option.some.injEq] at dc
      cases b
      · exact ⟨a.eval y, by simp [execOp, ← dc, asBool], evO_ok ok rt e⟩
      · exact ⟨a.eval x, by simp [execOp, ← dc, asBool], evO_ok ok rt e⟩
  case load ty x =>
    obtain ⟨u, h1, h2⟩ := bind_some e
    have d := evO_ok ok rt h1
    obtain ⟨b, off, y, g1, g2, g3⟩ := loadVar_ok ok r h2
    rw [g1] at d
    refine ⟨y, ?_, g3⟩
    simp only [execOp, Option.some.injEq] at d ⊢
    exact lift (by simp only [Instr.loadAt, ← d, Instr.sureAddr, Sem.run_bind, Sem.run_pure, Result.andThen_ok, g2])
  case nilCheck x =>
    obtain ⟨u, h1, h2⟩ := bind_some e
    have d := evO_ok ok rt h1
    cases hn : notNil u with
    | false => simp [hn] at h2
    | true =>
      simp [hn] at h2; subst h2
      refine ⟨a.eval x, ?_, d⟩
      rcases notNil_ok hn d with ⟨ad, e1⟩ | ⟨ty, y, e1⟩ | ⟨f, xs, ys, e1⟩ <;> simp [execOp, e1]
  case binOp op ty x y yt =>
    obtain ⟨u, h1, h2⟩ := bind_some e
    obtain ⟨u', h3, h4⟩ := bind_some h2
    have d1 := evO_ok ok rt h1
    have d2 := evO_ok ok rt h3
    cases hg : guardB C.P ty x y u u' with
    | false => simp [hg] at h4
    | true =>
      simp only [hg, cond_true] at h4
      obtain ⟨z, r1, r2⟩ := bin_ok h4 d1 d2 w
      exact ⟨z, lift (by simp only [Sem.run_bind, guard_ok hg d1 d2 w, Result.andThen_ok, r1]), r2⟩
  case unOp op ty x =>
    obtain ⟨u, h1, h2⟩ := bind_some e
    obtain ⟨z, r1, r2⟩ := un_ok (P := C.P) h2 (evO_ok ok rt h1) w
    exact ⟨z, lift r1, r2⟩
  case convert s d x =>
    obtain ⟨u, h1, h2⟩ := bind_some e
    obtain ⟨z, r1, r2⟩ := conv_ok r h2 (evO_ok ok rt h1)
    exact ⟨z, lift r1, r2⟩
  case makeInterface ty x =>
    obtain ⟨u, h1, h2⟩ := bind_some e
    obtain ⟨z, r1, r2⟩ := mkIf_ok (P := C.P) h2 (evO_ok ok rt h1) w
    exact ⟨z, lift r1, r2⟩
  case typeAssert x xt ty okb =>
    obtain ⟨u, h1, h2⟩ := bind_some e
    obtain ⟨z, r1, r2⟩ := assert_ok (P := C.P) (xt := xt) h2 (evO_ok ok rt h1) w
    exact ⟨z, lift r1, r2⟩
  case makeFunc fn first cap =>
    cases fn <;> simp only [reduceCtorEq] at e
    rename_i f
    obtain ⟨l, h1, h2⟩ := bind_some e
    obtain ⟨m, h3, h4⟩ := bind_some h2
    simp only [Option.some.injEq] at h4; subst h4
    refine ⟨.func (.func f) (first.map a.eval) (cap.map a.eval), lift rfl, ?_⟩
    simp only [den, evOs_ok ok rt h1, evOs_ok ok rt h3]
    congr 2 <;> apply Array.ext' <;> simp
  case slice ty x lo hi mx =>
    cases mx with
    | none =>
      simp only at e
      obtain ⟨u, h1, h2⟩ := bind_some e
      obtain ⟨l, h3, h4⟩ := bind_some h2
      obtain ⟨m, h5, h6⟩ := bind_some h4
      obtain ⟨z, r1, r2⟩ := slice_ok h6 (evO_ok ok rt h1) (optA_ok ok rt h3) (optA_ok ok rt h5) w
      exact ⟨z, lift r1, r2⟩
    | some mx =>
      simp only at e
      obtain ⟨u, h1, h2⟩ := bind_some e
      obtain ⟨l, h3, h4⟩ := bind_some h2
      obtain ⟨m, h5, h6⟩ := bind_some h4
      obtain ⟨c, h7, h8⟩ := bind_some h6
      obtain ⟨z, r1, r2⟩ := slice3_ok h8 (evO_ok ok rt h1) (optA_ok ok rt h3) (optA_ok ok rt h5) (evO_ok ok rt h7) w
      exact ⟨z, lift r1, r2⟩
  case fieldAddr s x f =>
    obtain ⟨u, h1, h2⟩ := bind_some e
    obtain ⟨z, r1, r2⟩ := fieldAt_ok h2 (evO_ok ok rt h1) w
    exact ⟨z, lift r1, r2⟩
  case field s x f =>
    obtain ⟨u, h1, h2⟩ := bind_some e
    obtain ⟨z, r1, r2⟩ := field_ok h2 (evO_ok ok rt h1) w
    exact ⟨z, lift r1, r2⟩
  case indexAddr ty x i =>
    obtain ⟨u, h1, h2⟩ := bind_some e
    obtain ⟨u', h3, h4⟩ := bind_some h2
    obtain ⟨z, r1, r2⟩ := indexAt_ok h4 (evO_ok ok rt h1) (evO_ok ok rt h3) w
    exact ⟨z, lift r1, r2⟩
  case index ty x i =>
    obtain ⟨u, h1, h2⟩ := bind_some e
    obtain ⟨u', h3, h4⟩ := bind_some h2
    obtain ⟨z, r1, r2⟩ := index_ok h4 (evO_ok ok rt h1) (evO_ok ok rt h3) w
    exact ⟨z, lift r1, r2⟩
  case lookup ty m k okb =>
    obtain ⟨u, h1, h2⟩ := bind_some e
    obtain ⟨u', h3, h4⟩ := bind_some h2
    obtain ⟨z, r1, r2⟩ := look_ok r h4 (evO_ok ok rt h1) (evO_ok ok rt h3)
    exact ⟨z, lift r1, r2⟩
  case extract x i =>
    obtain ⟨u, h1, h2⟩ := bind_some e
    obtain ⟨z, r1, r2⟩ := extract_ok (P := C.P) h2 (evO_ok ok rt h1) w
    exact ⟨z, lift r1, r2⟩
  case build ty parts =>
    obtain ⟨ps, h1, h2⟩ := bind_some e
    obtain ⟨z, r1, r2⟩ := build_ok h2 (evParts_ok ok rt h1) w
    refine ⟨z, lift ?_, r2⟩
    rw [← r1]
    congr 2
    apply Array.ext'
    simp
  case call c =>
    obtain ⟨callee, args, argTypes⟩ := c
    cases callee <;> simp only [reduceCtorEq] at e
    rename_i bi
    cases bi <;> simp only [reduceCtorEq] at e
    case len =>
      split at e
      · rename_i x ty ts ha ht
        obtain ⟨u, h1, h2⟩ := bind_some e
        obtain ⟨z, r1, r2⟩ := len_ok (ts := ts) (ty := type) r h2 (evO_ok ok rt h1)
        have e1 := list1 ha
        have e2 : argTypes = (ty :: ts).toArray := Array.ext' (by simpa using ht)
        subst e1 e2
        refine ⟨z, ?_, r2⟩
        simp only [execOp, resolve, Sem.run_bind, Sem.run_pure, Result.andThen_ok, invoke, builtin]
        have e3 : #[x].map a.eval = #[a.eval x] := by simp
        rw [e3, r1]; rfl
      · cases e
    case cap =>
      split at e
      · rename_i x ty ts ha ht
        obtain ⟨u, h1, h2⟩ := bind_some e
        obtain ⟨z, r1, r2⟩ := cap_ok (w := w) (ts := ts) (ty := type) h2 (evO_ok ok rt h1)
        have e1 := list1 ha
        have e2 : argTypes = (ty :: ts).toArray := Array.ext' (by simpa using ht)
        subst e1 e2
        refine ⟨z, ?_, r2⟩
        simp only [execOp, resolve, Sem.run_bind, Sem.run_pure, Result.andThen_ok, invoke, builtin]
        have e3 : #[x].map a.eval = #[a.eval x] := by simp
        rw [e3, r1]; rfl
      · cases e
    case max =>
      split at e
      · rename_i x y ha
        obtain ⟨u, h1, h2⟩ := bind_some e
        obtain ⟨u', h3, h4⟩ := bind_some h2
        obtain ⟨z, r1, r2⟩ := mm_ok (P := C.P) h4 (evO_ok ok rt h1) (evO_ok ok rt h3) w
        have e1 := list2 ha
        subst e1
        refine ⟨z, ?_, r2⟩
        simp only [execOp, resolve, Sem.run_bind, Sem.run_pure, Result.andThen_ok, invoke, builtin]
        simp only [if_true] at r1
        simp [Builtin.max_, r1]
      · cases e
    case min =>
      split at e
      · rename_i x y ha
        obtain ⟨u, h1, h2⟩ := bind_some e
        obtain ⟨u', h3, h4⟩ := bind_some h2
        obtain ⟨z, r1, r2⟩ := mm_ok (P := C.P) h4 (evO_ok ok rt h1) (evO_ok ok rt h3) w
        have e1 := list2 ha
        subst e1
        refine ⟨z, ?_, r2⟩
        simp only [execOp, resolve, Sem.run_bind, Sem.run_pure, Result.andThen_ok, invoke, builtin]
        simp only [Bool.false_eq_true, if_false] at r1
        simp [Builtin.min_, r1]
      · cases e
end
end Go.Ev
set_option linter.unusedVariables false
set_option linter.unusedSimpArgs false
namespace Go.Ev
noncomputable section

structure Mem where
  h : T AObj
  n : Key

/- ### Stores -/
theorem oneCell_eq (v : Value) : v.oneCell' = true ↔ (∀ c, v ≠ .agg c) ∧ ∀ c, v ≠ .tuple c := by
  cases v <;> simp [Value.oneCell']

theorem run_stores (P : Program) (g o : Nat) (t : TypeId) (f : Nat × Nat) : ∀ (vs : List Value) (i : Nat) (c : Array Value) (w : World), w.heap[g]? = some (.cells c t f) →
    (∀ j, o + i ≤ j → j < c.size → ¬ (f.1 ≤ j ∧ j < f.2)) → o + i + vs.length ≤ c.size → (∀ v ∈ vs, v.oneCell' = true) →
    ∃ w' c', (storeCells ⟨g, o, none⟩ vs i).run P w = .ok () w' ∧ w'.heap[g]? = some (.cells c' t f) ∧ c'.toList = ow c.toList (o + i) vs ∧ (∀ k, k ≠ g → w'.heap[k]? = w.heap[k]?) ∧
      w'.heap.size = w.heap.size ∧ w'.os = w.os ∧ w'.tape = w.tape ∧ w'.output = w.output
  | [], i, c, w, hg, _, _, _ => ⟨w, c, rfl, hg, by rw [ow_nil], fun _ _ => rfl, rfl, rfl, rfl, rfl⟩
  | v :: vs, i, c, w, hg, hf, hl, h1 => by
    have hi : o + i < c.size := by simp at hl; omega
    have hc : w.cell? ⟨g, o + i, none⟩ = some c[o + i] := by rw [cell_of_row hg]; simp [hi]
    have hz : w.frozen? ⟨g, o + i, none⟩ = false := by
      have := hf (o + i) (Nat.le_refl _) hi
      simp only [World.frozen?, hg]
      simp at this ⊢
      intro hh; exact this hh
    have hst : (store ((⟨g, o, none⟩ : Addr).add i) v).run P w = .ok () (w.setCell ⟨g, o + i, none⟩ v) := by
      rw [add_plain, run_store P w _ v _ (h1 v (by simp))]
      simp [hc, hz]
    have hg' : (w.setCell ⟨g, o + i, none⟩ v).heap[g]? = some (.cells (c.setIfInBounds (o + i) v) t f) := by
      simp only [World.setCell, Array.getElem?_modify, if_pos, hg, Option.map_some]
      simp
    obtain ⟨w', c', r1, r2, r3, r4, r5, r6, r7, r8⟩ := run_stores P g o t f vs (i + 1) (c.setIfInBounds (o + i) v) (w.setCell ⟨g, o + i, none⟩ v) hg'
      (fun j hj hj' => hf j (by omega) (by simpa using hj')) (by simp at hl ⊢; omega) (fun u hu => h1 u (by simp [hu]))
    refine ⟨w', c', ?_, r2, ?_, ?_, ?_, r6, r7, r8⟩
    · simp only [storeCells, Sem.run_bind, hst, Result.andThen_ok, r1]
    · rw [r3, ow_cons]; simp; rfl
    · intro k hk
      rw [r4 k hk]
      simp only [World.setCell, Array.getElem?_modify]
      rw [if_neg (Ne.symm hk)]
    · rw [r5]; simp

def flat (v : AV) : Bool :=
  match v with
  | .agg _ | .tup _ => false
  | _ => true

def flats : List AV → Bool
  | [] => true
  | v :: vs => bif flat v then flats vs else false

theorem flat_ok {G : Nat → Nat} {ρ : Env} {v : AV} {x : Value} (h : flat v = true) (d : den G ρ v = some x) : x.oneCell' = true := by
  cases v <;> simp only [flat, Bool.false_eq_true] at h <;> simp only [den] at d <;> (repeat' split at d) <;> simp at d <;> subst d <;> rfl

theorem flats_ok {G : Nat → Nat} {ρ : Env} : ∀ {l : List AV} {xs : List Value}, flats l = true → denL G ρ l = some xs → ∀ x ∈ xs, x.oneCell' = true
  | [], xs, _, d, x, hx => by simp [denL] at d; subst d; cases hx
  | v :: l, xs, h, d, x, hx => by
    simp only [flats] at h
    cases hf : flat v with
    | false => simp [hf] at h
    | true =>
      simp [hf] at h
      obtain ⟨y, ys, d1, d2, rfl⟩ := denL_cons.1 d
      rcases List.mem_cons.1 hx with rfl | hx
      · exact flat_ok hf d1
      · exact flats_ok h d2 x hx

theorem prefix_ow {α : Type} {l m : List α} (h : l <+: m) {n : Nat} {vs : List α} (hn : n + vs.length ≤ l.length) : ow l n vs <+: ow m n vs := by
  have hm : l.length ≤ m.length := h.length_le
  rw [ow_eq _ _ _ hn, ow_eq _ _ _ (by omega)]
  obtain ⟨r, rfl⟩ := h
  refine ⟨r, ?_⟩
  rw [List.take_append_of_le_length (by omega), List.drop_append_of_le_length (by omega)]
  simp

/-- A row is written over from place 'off' on. -/
def storeRow (m : Mem) (p : Key) (off : Nat) (vs : List AV) : Option Mem :=
  match T.get p m.h with
  | some (.cells u e fz l) => bif Nat.ble fz off && (Nat.ble (Nat.add off vs.length) l.length && flats vs) then fL (ow l off vs) fun l => T.putK p (some (.cells u e fz l)) m.h fun h => some ⟨h, m.n⟩ else none
  | _ => none

theorem storeRow_ok {P : Program} {G : Nat → Nat} {w0 : World} {ρ : Env} {m m' : Mem} {w : World} (r : RelH G w0 ρ m.h m.n w) {p : Key} {off b κ : Nat} {vs : List AV} {ys : List Value} (e : storeRow m p off vs = some m')
    (hb : ρ p = some (b, κ)) (d : denL G ρ vs = some ys) : ∃ w', (storeCells ⟨b, off, none⟩ ys).run P w = .ok () w' ∧ RelH G w0 ρ m'.h m'.n w' ∧ Fr ρ m.h w ρ m'.h w' := by
  unfold storeRow at e
  cases hp : T.get p m.h with
  | none => simp [hp] at e
  | some o =>
    obtain ⟨b', κ', y, h1, h2, h3, h4, h5⟩ := r.lt hp
    rw [hb] at h1
    obtain ⟨rfl, rfl⟩ : b = b' ∧ κ = κ' := by simpa using h1
    cases o <;> simp only [hp, reduceCtorEq] at e
    rename_i u ty fz l
    obtain ⟨c, f, xs, rfl, hfz, hd, hpre, hsz⟩ := h5
    rw [nble, nble] at e
    by_cases c1 : fz ≤ off <;> by_cases c2 : off.add vs.length ≤ l.length <;> cases c3 : flats vs <;> simp only [c1, c2, c3, decide_true, decide_false, Bool.and_true, Bool.and_false, Bool.and_self, cond_true, cond_false, reduceCtorEq, fL_eq, T.putK_eq, Option.some.injEq] at e
    subst e
    have hlx := denL_length hd
    have hly := denL_length d
    have hle : xs.length ≤ c.size := by have := hpre.length_le; simpa using this
    have c2' : off + vs.length ≤ l.length := c2
    obtain ⟨w', c', r1, r2, r3, r4, r5, r6, r7, r8⟩ := run_stores P b off ty f ys 0 c w h2 (fun j hj hj' => hfz j (by omega) hj') (by omega) (flats_ok c3 d)
    have hcs : c'.size = c.size := by rw [← Array.length_toList, r3, ow_length, Array.length_toList]
    obtain ⟨q1, q2⟩ := r.update (w' := w') (o' := .cells u ty fz (ow l off vs)) (x' := .cells c' ty f) hp hb r2
      ⟨c', f, ow xs off ys, rfl, (by unfold Fz at hfz ⊢; rw [hcs]; exact hfz), denL_ow hd d, (by rw [r3]; exact prefix_ow hpre (by omega)), (by rw [hcs]; cases u <;> simp_all [ow_length])⟩ r4 r5 r6 r7 r8
    exact ⟨w', r1, q1, q2⟩

/-- Bytes written over bytes. -/
def spliceB (b off n c : Nat) : Nat := Nat.add (Nat.mod b (Nat.pow 256 off)) (Nat.add (Nat.mul (Nat.mod c (Nat.pow 256 n)) (Nat.pow 256 off)) (Nat.mul (Nat.div b (Nat.pow 256 (Nat.add off n))) (Nat.pow 256 (Nat.add off n))))

theorem splice_ok (N b off n c : Nat) (h : off + n ≤ N) : ow (bytesL N b) off (bytesL n c) = bytesL N (spliceB b off n c) := by
  rw [ow_eq _ _ _ (by simp; exact h), bytesL_take _ _ _ (by omega), length_bytesL, bytesL_drop, List.append_assoc, bytesL_append, bytesL_append]
  have e : off + (n + (N - (off + n))) = N := by omega
  rw [e]
  congr 1
  unfold spliceB
  have e1 : b / 256 ^ (off + n) * 256 ^ n * 256 ^ off = b / 256 ^ (off + n) * 256 ^ (off + n) := by
    rw [Nat.mul_assoc, ← Nat.pow_add, Nat.add_comm n off]
  show b % 256 ^ off + (c % 256 ^ n + b / 256 ^ (off + n) * 256 ^ n) * 256 ^ off = b % 256 ^ off + (c % 256 ^ n * 256 ^ off + b / 256 ^ (off + n) * 256 ^ (off + n))
  rw [Nat.add_mul, e1]

theorem map_ow {α β : Type} (f : α → β) : ∀ (l : List α) (n : Nat) (vs : List α), (ow l n vs).map f = ow (l.map f) n (vs.map f)
  | [], _, _ => by simp [ow]
  | a :: l, 0, [] => by simp [ow]
  | a :: l, 0, v :: vs => by simp [ow, map_ow f l 0 vs]
  | a :: l, n + 1, [] => by simp [ow]
  | a :: l, n + 1, v :: vs => by simp [ow, map_ow f l n (v :: vs)]

def storeBytesA (m : Mem) (p : Key) (off n c : Nat) : Option Mem :=
  match T.get p m.h with
  | some (.bytes u e fz k b) => bif Nat.ble fz off && Nat.ble (Nat.add off n) k then fN (spliceB b off n c) fun b => T.putK p (some (.bytes u e fz k b)) m.h fun h => some ⟨h, m.n⟩ else none
  | _ => none

theorem storeBytesA_ok {P : Program} {G : Nat → Nat} {w0 : World} {ρ : Env} {m m' : Mem} {w : World} (r : RelH G w0 ρ m.h m.n w) {p : Key} {off b κ n c : Nat} (e : storeBytesA m p off n c = some m')
    (hb : ρ p = some (b, κ)) : ∃ w', (storeCells ⟨b, off, none⟩ ((bytesL n c).map byteV)).run P w = .ok () w' ∧ RelH G w0 ρ m'.h m'.n w' ∧ Fr ρ m.h w ρ m'.h w' := by
  unfold storeBytesA at e
  cases hp : T.get p m.h with
  | none => simp [hp] at e
  | some o =>
    obtain ⟨b', κ', y, h1, h2, h3, h4, h5⟩ := r.lt hp
    rw [hb] at h1
    obtain ⟨rfl, rfl⟩ : b = b' ∧ κ = κ' := by simpa using h1
    cases o <;> simp only [hp, reduceCtorEq] at e
    rename_i u ty fz k bs
    obtain ⟨ca, f, rfl, hfz, hpre, hsz⟩ := h5
    rw [nble, nble] at e
    by_cases c1 : fz ≤ off <;> by_cases c2 : off.add n ≤ k <;> simp only [c1, c2, decide_true, decide_false, Bool.and_true, Bool.and_false, Bool.and_self, cond_true, cond_false, reduceCtorEq, fN_eq, T.putK_eq, Option.some.injEq] at e
    subst e
    have hle : k ≤ ca.size := by have := hpre.length_le; simpa using this
    have c2' : off + n ≤ k := c2
    obtain ⟨w', c', r1, r2, r3, r4, r5, r6, r7, r8⟩ := run_stores P b off ty f ((bytesL n c).map byteV) 0 ca w h2 (fun j hj hj' => hfz j (by omega) hj') (by simp; omega)
      (fun v hv => by obtain ⟨z, _, rfl⟩ := List.mem_map.1 hv; rfl)
    have hcs : c'.size = ca.size := by rw [← Array.length_toList, r3, ow_length, Array.length_toList]
    obtain ⟨q1, q2⟩ := r.update (w' := w') (o' := .bytes u ty fz k (spliceB bs off n c)) (x' := .cells c' ty f) hp hb r2
      ⟨c', f, rfl, (by unfold Fz at hfz ⊢; rw [hcs]; exact hfz), (by
        rw [r3, ← splice_ok _ _ _ _ _ c2', map_ow]
        exact prefix_ow hpre (by simp; omega)), (by rw [hcs]; exact hsz.1), hsz.2⟩ r4 r5 r6 r7 r8
    exact ⟨w', r1, q1, q2⟩

/- ### New rows -/
def newA (m : Mem) (o : AObj) : Option (Key × Mem) := fKey (Key.succ m.n) fun k => T.putK m.n (some o) m.h fun h => some (m.n, ⟨h, k⟩)

theorem newA_ok {G : Nat → Nat} {w0 : World} {ρ : Env} {m m' : Mem} {w : World} (r : RelH G w0 ρ m.h m.n w) {o : AObj} {p : Key} (e : newA m o = some (p, m')) {x : Go.Obj} {κ : Nat}
    (ho : ObjOK G (ρ.add m.n (w.heap.size, κ)) κ o x) :
    (ρ.add m.n (w.heap.size, κ)) p = some (w.heap.size, κ) ∧ RelH G w0 (ρ.add m.n (w.heap.size, κ)) m'.h m'.n (w.alloc x) ∧ Fr ρ m.h w (ρ.add m.n (w.heap.size, κ)) m'.h (w.alloc x) := by
  simp only [newA, fKey_eq, T.putK_eq, Option.some.injEq, Prod.mk.injEq] at e
  obtain ⟨rfl, rfl⟩ := e
  obtain ⟨q1, q2⟩ := r.alloc ho
  exact ⟨Env.add_self _ _ _, q1, q2⟩

theorem run_newRow {P : Program} (e : TypeId) (c : Array Value) (w : World) : (newRow e c).run P w = .ok ⟨w.heap.size, 0, none⟩ (w.alloc (.cells c e)) := by
  simp [newRow, newObj, Sem.run]

theorem Fz_zero (fz n : Nat) : Fz fz (0, 0) n := fun i _ _ h => by omega

theorem cellsOK {G : Nat → Nat} {ρ : Env} {κ : Nat} {e : TypeId} {l : List AV} {xs : List Value} (d : denL G ρ l = some xs) : ObjOK G ρ κ (.cells none e 0 l) (.cells xs.toArray e) :=
  ⟨xs.toArray, (0, 0), xs, rfl, Fz_zero _ _, d, List.prefix_refl _, by simp [denL_length d]⟩

theorem bytesOK {G : Nat → Nat} {ρ : Env} {κ : Nat} {e : TypeId} {n b : Nat} {c : Array Value} (h : c.toList = (bytesL n b).map byteV) : ObjOK G ρ κ (.bytes 0 e 0 n b) (.cells c e) :=
  ⟨c, (0, 0), rfl, Fz_zero _ _, by rw [h]; exact List.prefix_refl _, by simp; rw [← Array.length_toList, h]; simp, fun _ => .inl rfl⟩

/-- What an operation does that writes. The post: the value, and memory. -/
def Does (G : Nat → Nat) (w0 : World) (P : Program) (s : Sem Value) (ρ : Env) (m : Mem) (w : World) (v : AV) (m' : Mem) : Prop :=
  ∃ ρ' w' x, s.run P w = .ok x w' ∧ den G ρ' v = some x ∧ RelH G w0 ρ' m'.h m'.n w' ∧ Fr ρ m.h w ρ' m'.h w'

def boxA (m : Mem) (e : TypeId) (v : AV) : Option (AV × Mem) := (newA m (.cells none e 0 (cellsOf' v))).bind fun r => some (.ptr r.1 0, r.2)

theorem newVar_ok {P : Program} {G : Nat → Nat} {w0 : World} {ρ : Env} {m m' : Mem} {w : World} (r : RelH G w0 ρ m.h m.n w) {e : TypeId} {v u : AV} {x : Value} (h : boxA m e v = some (u, m')) (d : den G ρ v = some x) :
    Does G w0 P (do pure (.pointer (some (← newVar e x)))) ρ m w u m' := by
  obtain ⟨⟨p, m1⟩, h1, h2⟩ := bind_some h
  simp only [Option.some.injEq, Prod.mk.injEq] at h2
  obtain ⟨rfl, rfl⟩ := h2
  have dl := cellsOf'_ok d
  obtain ⟨q1, q2, q3⟩ := newA_ok (κ := 0) r h1 (cellsOK (denL_mono (Env.le_add (r.fresh _ (Nat.le_refl _))) dl))
  refine ⟨_, _, .pointer (some ⟨w.heap.size, 0, none⟩), ?_, ?_, q2, q3⟩
  · simp [newVar, run_newRow]
  · simp [den, q1]
end
end Go.Ev
set_option linter.unusedVariables false
set_option linter.unusedSimpArgs false
namespace Go.Ev
noncomputable section

/- ### Slices that are made -/
def zrow {α : Type} (z : List α) : Nat → List α
  | 0 => []
  | n + 1 => z ++ zrow z n

theorem zrow_length {α : Type} (z : List α) (n : Nat) : (zrow z n).length = n * z.length := by
  induction n with
  | zero => simp [zrow]
  | succ n ih => simp [zrow, ih, Nat.succ_mul, Nat.add_comm]

theorem zrow_get {α : Type} (z : List α) (n i : Nat) (h : i < n * z.length) : (zrow z n)[i]? = z[i % z.length]? := by
  induction n generalizing i with
  | zero => simp at h
  | succ n ih =>
    simp only [zrow]
    by_cases c : i < z.length
    · rw [List.getElem?_append_left c, Nat.mod_eq_of_lt c]
    · rw [Nat.add_mul, Nat.one_mul] at h
      rw [List.getElem?_append_right (by omega), ih _ (by omega), show i % z.length = (i - z.length) % z.length from Nat.mod_eq_sub_mod (by omega)]

theorem denL_zrow {G : Nat → Nat} {ρ : Env} {z : List AV} {zs : List Value} (d : denL G ρ z = some zs) : ∀ n, denL G ρ (zrow z n) = some (zrow zs n)
  | 0 => rfl
  | n + 1 => denL_append d (denL_zrow d n)

/-- The model's own row of zeros is that list. -/
theorem range_zero (z : Array Value) (n s : Nat) (hs : z.size = s) : ((Array.range (n * s)).map (z[· % z.size]!)).toList = zrow z.toList n := by
  apply List.ext_getElem?
  intro i
  by_cases c : i < n * s
  · have hz : 0 < s := by
      rcases Nat.eq_zero_or_pos s with h | h
      · subst h; simp at c
      · exact h
    have hlt : i % z.size < z.size := Nat.mod_lt _ (by omega)
    rw [zrow_get _ _ _ (by rw [Array.length_toList, hs]; exact c)]
    simp [c, hlt, getElem!_pos]
  · have h2 : (zrow z.toList n).length ≤ i := by rw [zrow_length, Array.length_toList, hs]; omega
    rw [List.getElem?_eq_none h2, List.getElem?_eq_none (by simp; omega)]

theorem zeroCells_list (z : Array Value) (n : Nat) : (Builtin.zeroCells z n).toList = zrow z.toList n := range_zero z n z.size rfl

theorem and3 {a b c : Bool} (h : (a && (b && c)) = true) : a = true ∧ b = true ∧ c = true := by
  cases a <;> cases b <;> cases c <;> simp at h <;> exact ⟨rfl, rfl, rfl⟩
theorem cond_some {α : Type} {c : Bool} {x : Option α} {a : α} (h : (bif c then x else none) = some a) : c = true ∧ x = some a := by
  cases c
  · cases h
  · exact ⟨rfl, h⟩

/-- The row of a slice. -/
def rowA (P : Program) (m : Mem) (e : TypeId) (l : List AV) : Option (Key × Mem) :=
  bif isU8 P e then (packL l).bind fun b => fN l.length fun n => newA m (.bytes 0 e 0 n b) else newA m (.cells none e 0 l)

theorem rowA_ok {P : Program} {G : Nat → Nat} {w0 : World} {ρ : Env} {m m' : Mem} {w : World} (r : RelH G w0 ρ m.h m.n w) {e : TypeId} {l : List AV} {p : Key} {xs : List Value} (h : rowA P m e l = some (p, m')) (d : denL G ρ l = some xs) :
    ∃ ρ', ρ' p = some (w.heap.size, 0) ∧ RelH G w0 ρ' m'.h m'.n (w.alloc (.cells xs.toArray e)) ∧ Fr ρ m.h w ρ' m'.h (w.alloc (.cells xs.toArray e)) := by
  unfold rowA at h
  cases hu : isU8 P e with
  | true =>
    simp only [hu, cond_true] at h
    obtain ⟨b, h1, h2⟩ := bind_some h
    simp only [fN_eq] at h2
    exact ⟨_, newA_ok (κ := 0) r h2 (bytesOK (by simp [packL_ok h1 d]))⟩
  | false =>
    simp only [hu, cond_false] at h
    exact ⟨_, newA_ok (κ := 0) r h (cellsOK (denL_mono (Env.le_add (r.fresh _ (Nat.le_refl _))) d))⟩

def buildSliceA (P : Program) (m : Mem) (t : TypeId) (len : Nat) (ps : List (Nat × AV)) : Option (AV × Mem) :=
  match P.underlying t with
  | some (.slice e) => (sizeA P e).bind fun s => (zeroA P e).bind fun z =>
      bif Nat.beq (cellsOf' z).length s && (Nat.blt 0 s && Nat.ble (Nat.mul len s) 16777216) then
        (fillA (fun i => some (Nat.mul i s, s)) (zrow (cellsOf' z) len) ps).bind fun l => (rowA P m e l).bind fun r => some (.sl r.1 0 len len, r.2)
      else none
  | _ => none

theorem buildSlice_ok {P : Program} {G : Nat → Nat} {w0 : World} {ρ : Env} {m m' : Mem} {w : World} (r : RelH G w0 ρ m.h m.n w) {t : TypeId} {len : Nat} {ps : List (Nat × AV)} {qs : List (Nat × Value)} {u : AV}
    (h : buildSliceA P m t len ps = some (u, m')) (hq : All2 (fun (p : Nat × AV) (q : Nat × Value) => p.1 = q.1 ∧ den G ρ p.2 = some q.2) ps qs) :
    Does G w0 P (Instr.buildSlice t len qs.toArray) ρ m w u m' := by
  unfold buildSliceA at h
  cases hu : P.underlying t with
  | none => simp [hu] at h
  | some ty =>
    cases ty <;> simp only [hu, reduceCtorEq] at h
    rename_i e
    obtain ⟨s, hs, h⟩ := bind_some h
    obtain ⟨z, hz, h⟩ := bind_some h
    obtain ⟨hc, h⟩ := cond_some h
    obtain ⟨c1, c2, c3⟩ := and3 hc
    obtain ⟨l, hf, h⟩ := bind_some h
    obtain ⟨⟨p, m1⟩, hr, h⟩ := bind_some h
    simp only [Option.some.injEq, Prod.mk.injEq] at h
    obtain ⟨rfl, rfl⟩ := h
    rw [nbeq, decide_eq_true_iff] at c1
    rw [nblt, decide_eq_true_iff] at c2
    rw [nble, decide_eq_true_iff] at c3
    have c3' : len * s ≤ 16777216 := c3
    obtain ⟨zx, hzr, dz⟩ := zeroA_ok hz w
    have dc := cellsOf'_ok (dz G ρ)
    have hzs : zx.cells.size = s := by rw [← Array.length_toList, denL_length dc, c1]
    obtain ⟨ys, e1, e2⟩ := fill_ok hq (denL_zrow dc len) hf
    obtain ⟨ρ', q1, q2, q3⟩ := rowA_ok r hr e2
    simp only [Array.toArray_toList] at q2 q3
    refine ⟨ρ', _, .slice (some ⟨w.heap.size, 0, none⟩) len len, ?_, by simp [den, q1], q2, q3⟩
    have e3 : (Array.range (len * s)).map (zx.cells[· % zx.cells.size]!) = (zrow zx.cells.toList len).toArray := by
      apply Array.ext'; rw [range_zero _ _ _ hzs]
    have e1' : Instr.fill (fun i => some (i * s, s)) (zrow zx.cells.toList len).toArray qs = some ys := e1
    by_cases h0 : len * s = 0
    · have hl : len = 0 := by
        rcases Nat.mul_eq_zero.1 h0 with h | h
        · exact h
        · omega
      subst hl
      simp only [zrow] at e1'
      have e0 : ∀ f : Nat → Value, (Array.range (0 * s)).map f = #[] := fun f => by apply Array.ext'; simp
      simp only [Instr.buildSlice, Sem.run_bind, run_underlying hu, Result.andThen_ok, sizeA_ok hs, Sem.run_ite]
      rw [if_neg (by omega), if_pos h0]
      simp only [Sem.run_pure, Result.andThen_ok, e0, List.toList_toArray, e1', Sem.run_bind, run_newRow]
    · simp only [Instr.buildSlice, Sem.run_bind, run_underlying hu, Result.andThen_ok, sizeA_ok hs, Sem.run_ite]
      rw [if_neg (by omega), if_neg h0]
      simp only [Sem.run_bind, Sem.run_pure, hzr, Result.andThen_ok, e3, e1', List.toList_toArray, run_newRow]

def makeSliceA (P : Program) (m : Mem) (t : TypeId) (len cap : AV) : Option (AV × Mem) :=
  match P.underlying t with
  | some (.slice e) => (idx len).bind fun l => (idx cap).bind fun c => match P.info? e with
    | some i => (zeroA P e).bind fun z =>
      bif Nat.ble l c && (Nat.ble c 1000000 && (Nat.ble i.bytes 1000000 && Nat.beq (cellsOf' z).length i.size)) then
        (bif isU8 P e then (match z with
          | .int .u8 (.ofNat 0) => (newA m (.bytes 0 e 0 c 0)).bind fun r => some (.sl r.1 0 l c, r.2)
          | _ => none)
        else fL (zrow (cellsOf' z) c) fun row => (newA m (.cells none e 0 row)).bind fun r => some (.sl r.1 0 l c, r.2)) else none
    | none => none
  | _ => none

theorem wrap_i64 (n : Nat) (h : n ≤ 1000000) : IntKind.i64.wrap (n : Int) = n := wrap_small .i64 n (by simp [lim]; omega)

theorem bytesL_zero (n : Nat) : bytesL n 0 = List.replicate n 0 := by
  induction n with
  | zero => rfl
  | succ n ih => simp [bytesL, ih, List.replicate_succ]

theorem zrow_single {α : Type} (a : α) (n : Nat) : zrow [a] n = List.replicate n a := by
  induction n with
  | zero => rfl
  | succ n ih => simp [zrow, ih, List.replicate_succ]

theorem makeSlice_ok {P : Program} {G : Nat → Nat} {w0 : World} {ρ : Env} {m m' : Mem} {w : World} (r : RelH G w0 ρ m.h m.n w) {t : TypeId} {len cap u : AV} {L K : Value}
    (h : makeSliceA P m t len cap = some (u, m')) (dl : den G ρ len = some L) (dk : den G ρ cap = some K) :
    Does G w0 P (Instr.makeSlice t L K) ρ m w u m' := by
  unfold makeSliceA at h
  cases hu : P.underlying t with
  | none => simp [hu] at h
  | some ty =>
    cases ty <;> simp only [hu, reduceCtorEq] at h
    rename_i e
    obtain ⟨l, hl, h⟩ := bind_some h
    obtain ⟨c, hc, h⟩ := bind_some h
    obtain ⟨k1, rfl⟩ := idx_ok hl dl
    obtain ⟨k2, rfl⟩ := idx_ok hc dk
    cases hi : P.info? e with
    | none => simp [hi] at h
    | some i =>
      simp only [hi] at h
      obtain ⟨z, hz, h⟩ := bind_some h
      obtain ⟨hb, h⟩ := cond_some h
      obtain ⟨b1, b2, b34⟩ := and3 hb
      rw [Bool.and_eq_true] at b34
      obtain ⟨b3, b4⟩ := b34
      rw [nble, decide_eq_true_iff] at b1 b2 b3
      rw [nbeq, decide_eq_true_iff] at b4
      obtain ⟨zx, hzr, dz⟩ := zeroA_ok hz w
      have dc := cellsOf'_ok (dz G ρ)
      have hzs : zx.cells.size = i.size := by rw [← Array.length_toList, denL_length dc, b4]
      have hsz : sizeA P e = some i.size := by simp [sizeA, hi]
      have e3 : (Array.range (c * i.size)).map (zx.cells[· % zx.cells.size]!) = (zrow zx.cells.toList c).toArray := by
        apply Array.ext'; rw [range_zero _ _ _ hzs]
      have hw1 := wrap_i64 l (by omega)
      have hw2 := wrap_i64 c b2
      have hbig : ((i.bytes : Int) * (c : Int)) ≤ 2 ^ 48 := by
        have : i.bytes * c ≤ 1000000 * 1000000 := Nat.mul_le_mul b3 b2
        have h2 : ((i.bytes * c : Nat) : Int) ≤ ((1000000 * 1000000 : Nat) : Int) := by exact_mod_cast this
        rw [Int.natCast_mul] at h2
        omega
      have run : (Instr.makeSlice t (.int k1 (l : Int)) (.int k2 (c : Int))).run P w = .ok (.slice (some ⟨w.heap.size, 0, none⟩) l c) (w.alloc (.cells (zrow zx.cells.toList c).toArray e)) := by
        simp only [Instr.makeSlice, Sem.run_bind, run_underlying hu, Result.andThen_ok, asInt, asIntOf, Sem.run_pure, typeInfo, run_program, hi, hw1, hw2, Sem.run_ite]
        have hno : ¬ ((decide ((c : Int) < 0) || decide ((i.bytes : Int) * (c : Int) > 2 ^ 48)) || decide ((l : Int) < 0) || decide ((l : Int) > (c : Int))) = true := by
          simp; omega
        rw [if_neg hno]
        simp only [run_askRoom, Result.andThen_ok, Int.toNat_natCast, sizeA_ok hsz, Sem.run_bind]
        by_cases h0 : c * i.size = 0
        · have hz0 : zrow zx.cells.toList c = [] := by
            apply List.eq_nil_of_length_eq_zero
            rw [zrow_length, Array.length_toList, hzs]; exact h0
          have e0 : ∀ f : Nat → Value, (Array.range (c * i.size)).map f = #[] := fun f => by apply Array.ext'; simp [h0]
          rw [if_pos h0, hz0]
          simp only [Sem.run_pure, Result.andThen_ok, e0, run_newRow]
        · rw [if_neg h0]
          simp only [Sem.run_bind, hzr, Result.andThen_ok, Sem.run_pure, e3, run_newRow]
      cases hu8 : isU8 P e with
      | true =>
        simp only [hu8, cond_true] at h
        split at h
        · obtain ⟨⟨p, m1⟩, hr, h⟩ := bind_some h
          simp only [Option.some.injEq, Prod.mk.injEq] at h
          obtain ⟨rfl, rfl⟩ := h
          have dz' := dz G ρ
          simp only [den, Option.some.injEq] at dz'
          have ec : (zrow zx.cells.toList c).toArray.toList = (bytesL c 0).map byteV := by
            rw [← dz', bytesL_zero]
            show zrow [Value.int .u8 0] c = _
            rw [zrow_single]
            simp [byteV]
          obtain ⟨q1, q2, q3⟩ := newA_ok (κ := 0) r hr (bytesOK ec)
          exact ⟨_, _, _, run, by simp [den, q1], q2, q3⟩
        · cases h
      | false =>
        simp only [hu8, cond_false, fL_eq] at h
        obtain ⟨⟨p, m1⟩, hr, h⟩ := bind_some h
        simp only [Option.some.injEq, Prod.mk.injEq] at h
        obtain ⟨rfl, rfl⟩ := h
        obtain ⟨q1, q2, q3⟩ := newA_ok (κ := 0) r hr (cellsOK (denL_mono (Env.le_add (r.fresh _ (Nat.le_refl _))) (denL_zrow dc c)))
        exact ⟨_, _, _, run, by simp [den, q1], q2, q3⟩
end
end Go.Ev
