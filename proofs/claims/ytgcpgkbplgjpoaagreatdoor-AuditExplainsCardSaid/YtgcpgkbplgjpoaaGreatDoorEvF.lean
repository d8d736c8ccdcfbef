/-
  A part of the evaluator for closed runs: proved once over any program.
-/
import Derived.Test.YtgcpgkbplgjpoaaGreatDoorEvE
set_option linter.unusedVariables false
set_option linter.unusedSimpArgs false
namespace Go.Ev
noncomputable section

theorem sizeA_size {P : Program} {t : TypeId} {n : Nat} (h : sizeA P t = some n) : P.cellsOf t = n := by
  unfold sizeA at h
  cases hi : P.info? t with
  | none => simp [hi] at h
  | some i => simp [hi] at h; simp [Program.cellsOf, hi, h]

/-! ### Addresses of parts -/
def addOff (v : AV) (n : Nat) : Option AV :=
  match v with
  | .ptr p off => fN (Nat.add off n) fun o => some (.ptr p o)
  | .gptr g off => fN (Nat.add off n) fun o => some (.gptr g o)
  | _ => none

theorem addOff_ok {G : Nat → Nat} {ρ : Env} {v u : AV} {n : Nat} {x : Value} (h : addOff v n = some u) (d : den G ρ v = some x) :
    ∃ a : Addr, x = .pointer (some a) ∧ den G ρ u = some (.pointer (some (a.add n))) := by
  cases v <;> simp only [addOff, fN_eq, Option.some.injEq, reduceCtorEq] at h
  case ptr p off =>
    subst h
    simp only [den] at d ⊢
    cases hp : ρ p with
    | none => simp [hp] at d
    | some y =>
      simp [hp] at d; subst d
      exact ⟨_, rfl, by rw [add_plain]; rfl⟩
  case gptr g off =>
    subst h
    simp only [den, Option.some.injEq] at d ⊢
    subst d
    exact ⟨_, rfl, by rw [add_plain]; rfl⟩

def fieldOf (P : Program) (s : TypeId) (f : Nat) : Option Field :=
  match P.underlying s with
  | some (.struct fs) => nth fs.toList f
  | _ => none

def fieldAtA (P : Program) (s : TypeId) (v : AV) (f : Nat) : Option AV :=
  match fieldOf P s f with
  | some fd => match sizeA P fd.type with
    | some 0 => none
    | some (_ + 1) => addOff v fd.offset
    | none => none
  | none => none

theorem fieldOf_ok {P : Program} {s : TypeId} {f : Nat} {fd : Field} (h : fieldOf P s f = some fd) : ∃ fs, P.underlying s = some (.struct fs) ∧ fs[f]? = some fd := by
  unfold fieldOf at h
  cases hu : P.underlying s with
  | none => simp [hu] at h
  | some d =>
    cases d <;> simp [hu] at h
    rename_i fs
    rw [nth_eq] at h
    exact ⟨fs, rfl, by rw [← Array.getElem?_toList]; exact h⟩

theorem fieldAt_ok {P : Program} {G : Nat → Nat} {ρ : Env} {s : TypeId} {f : Nat} {v u : AV} {x : Value} (h : fieldAtA P s v f = some u) (d : den G ρ v = some x) (w : World) :
    ∃ y, (Instr.fieldAt s x f).run P w = .ok y w ∧ den G ρ u = some y := by
  unfold fieldAtA at h
  cases hf : fieldOf P s f with
  | none => simp [hf] at h
  | some fd =>
    obtain ⟨fs, hu, hfs⟩ := fieldOf_ok hf
    cases hs : sizeA P fd.type with
    | none => simp [hf, hs] at h
    | some n =>
      cases n with
      | zero => simp [hf, hs] at h
      | succ n =>
        simp [hf, hs] at h
        obtain ⟨a, rfl, hd⟩ := addOff_ok h d
        refine ⟨_, ?_, hd⟩
        simp [Instr.fieldAt, run_underlying hu, hfs, Instr.sureAddr, fieldPlace, sizeA_ok hs]

/-! ### Parts of values -/
def partA (P : Program) (t : TypeId) (l : List AV) (off : Nat) : Option AV :=
  match aggOf P t with
  | some true => match sizeA P t with
    | some n => match takeN n (List.drop off l) with
      | some m => some (.agg m)
      | none => none
    | none => none
  | some false => nth l off
  | none => none

theorem part_ok {P : Program} {G : Nat → Nat} {ρ : Env} {t : TypeId} {l : List AV} {off : Nat} {u : AV} {xs : List Value} (h : partA P t l off = some u) (d : denL G ρ l = some xs) (w : World) :
    ∃ y, (part t xs.toArray off).run P w = .ok y w ∧ den G ρ u = some y := by
  unfold partA at h
  cases ha : aggOf P t with
  | none => simp [ha] at h
  | some g =>
    cases g with
    | true =>
      cases hs : sizeA P t with
      | none => simp [ha, hs] at h
      | some n =>
        cases ht : takeN n (List.drop off l) with
        | none => simp [ha, hs, ht] at h
        | some m =>
          simp [ha, hs, ht] at h; subst h
          obtain ⟨e1, rfl⟩ := takeN_eq ht
          refine ⟨.agg ((xs.drop off).take n).toArray, ?_, ?_⟩
          · simp only [part, Sem.run_bind, aggOf_ok ha, Result.andThen_ok, if_true, sizeA_ok hs, Sem.run_pure]
            congr 2
            apply Array.ext'
            simp [List.extract_eq_take_drop]
          · simp [den, denL_take n (denL_drop off d)]
    | false =>
      simp [ha, nth_eq] at h
      obtain ⟨y, hy, hd⟩ := denL_get d h
      refine ⟨y, ?_, hd⟩
      simp [part, aggOf_ok ha, hy]

def fieldA (P : Program) (s : TypeId) (v : AV) (f : Nat) : Option AV :=
  match fieldOf P s f, v with
  | some fd, .agg l => partA P fd.type l fd.offset
  | _, _ => none

theorem field_ok {P : Program} {G : Nat → Nat} {ρ : Env} {s : TypeId} {f : Nat} {v u : AV} {x : Value} (h : fieldA P s v f = some u) (d : den G ρ v = some x) (w : World) :
    ∃ y, (Instr.field s x f).run P w = .ok y w ∧ den G ρ u = some y := by
  unfold fieldA at h
  cases hf : fieldOf P s f with
  | none => simp [hf] at h
  | some fd =>
    obtain ⟨fs, hu, hfs⟩ := fieldOf_ok hf
    cases v <;> simp only [hf, reduceCtorEq] at h
    rename_i l
    simp only [den] at d
    cases hl : denL G ρ l with
    | none => simp [hl] at d
    | some xs =>
      simp [hl] at d; subst d
      obtain ⟨y, h1, h2⟩ := part_ok h hl w
      exact ⟨y, by simp [Instr.field, run_underlying hu, hfs, asAgg, h1], h2⟩

/-! ### Indexing -/
def idx (v : AV) : Option Nat :=
  match v with
  | .int _ (.ofNat n) => some n
  | _ => none

theorem idx_ok {G : Nat → Nat} {ρ : Env} {v : AV} {n : Nat} {x : Value} (h : idx v = some n) (d : den G ρ v = some x) : ∃ k, x = .int k (n : Int) := by
  cases v <;> simp only [idx, reduceCtorEq] at h
  rename_i k z
  cases z <;> simp only [reduceCtorEq, Option.some.injEq] at h
  subst h
  simp only [den, Option.some.injEq] at d
  exact ⟨k, d.symm⟩

def indexAtA (P : Program) (t : TypeId) (v i : AV) : Option AV :=
  match idx i with
  | none => none
  | some i => match P.underlying t with
    | some (.array n e) => bif Nat.blt i n then (match sizeA P e with | some s => fN (Nat.mul i s) fun k => addOff v k | none => none) else none
    | some (.slice e) => match v with
      | .sl p off len _ => bif Nat.blt i len then (match sizeA P e with | some s => fN (Nat.add off (Nat.mul i s)) fun k => some (.ptr p k) | none => none) else none
      | .slu p d len sz => bif Nat.blt i len then (match sizeA P e with | some s => fN (Nat.add (Nat.mul d sz) (Nat.mul i s)) fun k => some (.ptr p k) | none => none) else none
      | _ => none
    | _ => none

theorem indexAt_ok {P : Program} {G : Nat → Nat} {ρ : Env} {t : TypeId} {v i u : AV} {x y : Value} (h : indexAtA P t v i = some u) (d : den G ρ v = some x) (di : den G ρ i = some y) (w : World) :
    ∃ z, (Instr.indexAt t x y).run P w = .ok z w ∧ den G ρ u = some z := by
  unfold indexAtA at h
  cases hi : idx i with
  | none => simp [hi] at h
  | some n =>
    obtain ⟨k, rfl⟩ := idx_ok hi di
    cases hu : P.underlying t with
    | none => simp [hi, hu] at h
    | some ty =>
      cases ty <;> simp only [hi, hu, reduceCtorEq] at h
      case array len e =>
        rw [nblt] at h
        by_cases c : n < len
        · simp only [c, decide_true, cond_true] at h
          cases hs : sizeA P e with
          | none => simp [hs] at h
          | some s =>
            simp [hs, fN_eq] at h
            obtain ⟨a, rfl, hd⟩ := addOff_ok h d
            refine ⟨_, ?_, hd⟩
            have c' : (n : Int) < (len : Int) := by omega
            simp only [Instr.indexAt, asIntOf, run_underlying hu, Instr.sureAddr, Sem.run_bind, Result.andThen_ok, Sem.run_pure, Sem.run_ite]
            rw [if_pos ⟨by omega, c'⟩]
            simp [sizeA_ok hs]
        · simp only [c, decide_false, cond_false, reduceCtorEq] at h
      case slice e =>
        cases v <;> simp only [reduceCtorEq] at h
        case sl p off len cap =>
          rw [nblt] at h
          by_cases c : n < len
          · simp only [c, decide_true, cond_true] at h
            cases hs : sizeA P e with
            | none => simp [hs] at h
            | some s =>
              simp [hs, fN_eq] at h; subst h
              simp only [den] at d ⊢
              cases hp : ρ p with
              | none => simp [hp] at d
              | some bk =>
                simp [hp] at d; subst d
                refine ⟨_, ?_, rfl⟩
                have c' : (n : Int) < (len : Int) := by omega
                simp only [Instr.indexAt, asIntOf, run_underlying hu, Sem.run_bind, Result.andThen_ok, Sem.run_pure, Sem.run_ite]
                rw [if_pos ⟨by omega, c'⟩]
                simp [sizeA_ok hs, add_plain]
          · simp only [c, decide_false, cond_false, reduceCtorEq] at h
        case slu p dd len sz =>
          rw [nblt] at h
          by_cases c : n < len
          · simp only [c, decide_true, cond_true] at h
            cases hs : sizeA P e with
            | none => simp [hs] at h
            | some s =>
              simp [hs, fN_eq] at h; subst h
              simp only [den] at d ⊢
              cases hp : ρ p with
              | none => simp [hp] at d
              | some bk =>
                by_cases hk : dd + len ≤ bk.2
                · simp [hp, hk] at d; subst d
                  refine ⟨_, ?_, rfl⟩
                  have c' : (n : Int) < (len : Int) := by omega
                  simp only [Instr.indexAt, asIntOf, run_underlying hu, Sem.run_bind, Result.andThen_ok, Sem.run_pure, Sem.run_ite]
                  rw [if_pos ⟨by omega, c'⟩]
                  simp [sizeA_ok hs, add_plain]
                · simp [hp, hk] at d
          · simp only [c, decide_false, cond_false, reduceCtorEq] at h

def indexA (P : Program) (t : TypeId) (v i : AV) : Option AV :=
  match idx i with
  | none => none
  | some i => match P.underlying t with
    | some (.array n e) => match v with
      | .agg l => bif Nat.blt i n then (match sizeA P e with | some s => partA P e l (Nat.mul i s) | none => none) else none
      | _ => none
    | some .string => match v with
      | .str n b => bif Nat.blt i n then fN (Nat.mod (Nat.div b (Nat.pow 256 i)) 256) fun c => some (.int .u8 (.ofNat c)) else none
      | _ => none
    | _ => none

theorem index_ok {P : Program} {G : Nat → Nat} {ρ : Env} {t : TypeId} {v i u : AV} {x y : Value} (h : indexA P t v i = some u) (d : den G ρ v = some x) (di : den G ρ i = some y) (w : World) :
    ∃ z, (Instr.index t x y).run P w = .ok z w ∧ den G ρ u = some z := by
  unfold indexA at h
  cases hi : idx i with
  | none => simp [hi] at h
  | some n =>
    obtain ⟨k, rfl⟩ := idx_ok hi di
    cases hu : P.underlying t with
    | none => simp [hi, hu] at h
    | some ty =>
      cases ty <;> simp only [hi, hu, reduceCtorEq] at h
      case array len e =>
        cases v <;> simp only [reduceCtorEq] at h
        rename_i l
        rw [nblt] at h
        by_cases c : n < len
        · simp only [c, decide_true, cond_true] at h
          cases hs : sizeA P e with
          | none => simp [hs] at h
          | some s =>
            simp [hs] at h
            simp only [den] at d
            cases hl : denL G ρ l with
            | none => simp [hl] at d
            | some xs =>
              simp [hl] at d; subst d
              obtain ⟨z, h1, h2⟩ := part_ok h hl w
              refine ⟨z, ?_, h2⟩
              have c' : (n : Int) < (len : Int) := by omega
              simp only [Instr.index, asIntOf, run_underlying hu, Sem.run_bind, Result.andThen_ok, Sem.run_pure, Sem.run_ite]
              rw [if_pos ⟨by omega, c'⟩]
              simpa [sizeA_ok hs] using h1
        · simp only [c, decide_false, cond_false, reduceCtorEq] at h
      case string =>
        cases v <;> simp only [reduceCtorEq] at h
        rename_i len b
        rw [nblt] at h
        by_cases c : n < len
        · simp only [c, decide_true, cond_true, fN_eq, Option.some.injEq] at h; subst h
          simp only [den, Option.some.injEq] at d ⊢; subst d
          refine ⟨_, ?_, rfl⟩
          simp only [Instr.index, asIntOf, run_underlying hu, Sem.run_bind, Result.andThen_ok, Sem.run_pure]
          rw [if_pos (by omega : (0 : Int) ≤ n)]
          simp only [Int.toNat_natCast, mkB_get? _ _ _ c, Sem.run_pure]
          simp
          rfl
        · simp only [c, decide_false, cond_false, reduceCtorEq] at h

/-! ### Cuts -/
def bound (v : Option AV) (d : Nat) : Option Nat :=
  match v with
  | none => some d
  | some v => idx v

theorem sliceBound_ok {P : Program} {k : IntKind} {n y : Nat} (h : n ≤ y) (code : BoundsCode) (w : World) : (Instr.sliceBound (.int k (n : Int)) y code).run P w = .ok n w := by
  simp only [Instr.sliceBound, asIntOf, Sem.run_bind, Sem.run_pure, Result.andThen_ok, Sem.run_ite]
  rw [if_pos ⟨by omega, by omega⟩]
  simp

def denO (G : Nat → Nat) (ρ : Env) : Option AV → Option (Option Value)
  | none => some none
  | some v => match den G ρ v with
    | some x => some (some x)
    | none => none

theorem bound_or {G : Nat → Nat} {ρ : Env} {v : Option AV} {d n : Nat} {x : Option Value} (h : bound v d = some n) (e : denO G ρ v = some x) : (x = none ∧ n = d) ∨ ∃ k, x = some (.int k (n : Int)) := by
  cases v with
  | none => simp [bound] at h; simp [denO] at e; exact .inl ⟨e.symm, h.symm⟩
  | some v =>
    simp only [denO] at e
    cases hv : den G ρ v with
    | none => simp [hv] at e
    | some y =>
      simp [hv] at e; subst e
      obtain ⟨k, rfl⟩ := idx_ok h hv
      exact .inr ⟨k, rfl⟩

theorem bounds_ok {P : Program} {G : Nat → Nat} {ρ : Env} {s : Bool} {len cap l h : Nat} {lo hi : Option AV} {xl xh : Option Value} (hl : bound lo 0 = some l) (hh : bound hi len = some h)
    (c1 : l ≤ h) (c2 : h ≤ cap) (dl : denO G ρ lo = some xl) (dh : denO G ρ hi = some xh) (w : World) :
    (Instr.sliceBounds s len cap xl xh none).run P w = .ok (l, h, cap) w := by
  rcases bound_or hl dl with ⟨rfl, rfl⟩ | ⟨k1, rfl⟩ <;> rcases bound_or hh dh with ⟨rfl, rfl⟩ | ⟨k2, rfl⟩ <;> simp [Instr.sliceBounds, sliceBound_ok c1, sliceBound_ok c2]

def leB (a b c : Nat) : Bool := bif Nat.ble a b then Nat.ble b c else false
theorem leB_eq {a b c : Nat} (h : leB a b c = true) : a ≤ b ∧ b ≤ c := by
  simp only [leB, nble] at h
  by_cases h1 : a ≤ b <;> by_cases h2 : b ≤ c <;> simp_all

def sliceA (P : Program) (t : TypeId) (v : AV) (lo hi : Option AV) : Option AV :=
  match P.underlying t with
  | some .string => match v with
    | .str n b => match bound lo 0, bound hi n with
      | some l, some h => bif leB l h n then fN (Nat.sub h l) fun k => fN (Nat.mod (Nat.div b (Nat.pow 256 l)) (Nat.pow 256 k)) fun c => some (.str k c) else none
      | _, _ => none
    | _ => none
  | some (.slice e) => match v with
    | .nilS => match bound lo 0, bound hi 0, sizeA P e with
      | some 0, some 0, some _ => some .nilS
      | _, _, _ => none
    | .sl p off len cap => match bound lo 0, bound hi len, sizeA P e with
      | some l, some h, some s => bif leB l h cap then
          (bif Nat.beq cap l then fN (Nat.sub h l) fun k => some (.sl p off k 0)
          else fN (Nat.sub h l) fun k => fN (Nat.sub cap l) fun c => fN (Nat.add off (Nat.mul l s)) fun o => some (.sl p o k c)) else none
      | _, _, _ => none
    | .slu p d len sz => match bound lo 0, bound hi len, sizeA P e with
      | some l, some h, some s => bif (bif leB l h len then (bif Nat.beq s sz then (bif Nat.ble (Nat.succ l) len then true else Nat.beq l 0) else false) else false) then
          (fN (Nat.sub h l) fun k => fN (Nat.add d l) fun o => some (.slu p o k sz)) else none
      | _, _, _ => none
    | _ => none
  | some (.array n e) => match bound lo 0, bound hi n, sizeA P e with
    | some l, some h, some s => bif leB l h n then
        (match v with
        | .ptr p off => bif Nat.beq n l then none else fN (Nat.sub h l) fun k => fN (Nat.sub n l) fun c => fN (Nat.add off (Nat.mul l s)) fun o => some (.sl p o k c)
        | _ => none) else none
    | _, _, _ => none
  | _ => none

theorem slice_ok {P : Program} {G : Nat → Nat} {ρ : Env} {t : TypeId} {v u : AV} {lo hi : Option AV} {x : Value} {xl xh : Option Value} (h : sliceA P t v lo hi = some u) (d : den G ρ v = some x)
    (dl : denO G ρ lo = some xl) (dh : denO G ρ hi = some xh) (w : World) : ∃ z, (Instr.sliceAt t x xl xh none).run P w = .ok z w ∧ den G ρ u = some z := by
  unfold sliceA at h
  cases hu : P.underlying t with
  | none => simp [hu] at h
  | some ty =>
    cases ty <;> simp only [hu, reduceCtorEq] at h
    case string =>
      cases v <;> simp only [reduceCtorEq] at h
      rename_i n b
      cases h1 : bound lo 0 with
      | none => simp [h1] at h
      | some l =>
        cases h2 : bound hi n with
        | none => simp [h1, h2] at h
        | some k =>
          cases h3 : leB l k n with
          | false => simp [h1, h2, h3] at h
          | true =>
            obtain ⟨c1, c2⟩ := leB_eq h3
            simp [h1, h2, h3, fN_eq] at h; subst h
            simp only [den, Option.some.injEq] at d ⊢; subst d
            refine ⟨_, ?_, rfl⟩
            have hb := bounds_ok (P := P) (s := false) (len := n) (cap := n) h1 h2 c1 c2 dl dh w
            simp only [Instr.sliceAt, Instr.slice, Sem.run_bind, run_underlying hu, Result.andThen_ok, Option.isSome_none, Bool.false_eq_true, if_false, size_mkB, hb, Sem.run_pure, mkB_extract _ _ _ _ c1 c2]
            rfl
    case slice e =>
      cases v <;> simp only [reduceCtorEq] at h
      case nilS =>
        cases h1 : bound lo 0 with
        | none => simp [h1] at h
        | some l =>
          cases h2 : bound hi 0 with
          | none => simp [h1, h2] at h
          | some k =>
            cases l with
            | succ l => simp [h1, h2] at h
            | zero =>
              cases k with
              | succ k => simp [h1, h2] at h
              | zero =>
                cases hs : sizeA P e with
                | none => simp [h1, h2, hs] at h
                | some sz =>
                  simp [h1, h2, hs] at h; subst h
                  simp only [den, Option.some.injEq] at d ⊢; subst d
                  have hb := bounds_ok (P := P) (s := true) (len := 0) (cap := 0) h1 h2 (Nat.le_refl 0) (Nat.le_refl 0) dl dh w
                  exact ⟨_, by simp [Instr.sliceAt, Instr.slice, run_underlying hu, hb, sizeA_ok hs], rfl⟩
      case sl p off len cap =>
        cases h1 : bound lo 0 with
        | none => simp [h1] at h
        | some l =>
          cases h2 : bound hi len with
          | none => simp [h1, h2] at h
          | some k =>
            cases hs : sizeA P e with
            | none => simp [h1, h2, hs] at h
            | some sz =>
              cases h3 : leB l k cap with
              | false => simp [h1, h2, hs, h3] at h
              | true =>
                obtain ⟨c1, c2⟩ := leB_eq h3
                simp only [den] at d
                cases hp : ρ p with
                | none => simp [hp] at d
                | some bk =>
                  simp [hp] at d; subst d
                  have hb := bounds_ok (P := P) (s := true) (len := len) (cap := cap) h1 h2 c1 c2 dl dh w
                  simp only [h1, h2, hs, h3, cond_true, nbeq] at h
                  by_cases ce : cap = l
                  · simp only [ce, decide_true, cond_true, fN_eq, Option.some.injEq] at h; subst h
                    refine ⟨.slice (some ⟨bk.1, off, none⟩) (k - l) 0, ?_, by simp [den, hp]⟩
                    rw [ce] at hb
                    simp [Instr.sliceAt, Instr.slice, run_underlying hu, hb, sizeA_ok hs, ce]
                  · simp only [ce, decide_false, cond_false, fN_eq, Option.some.injEq] at h; subst h
                    refine ⟨.slice (some ⟨bk.1, off + l * sz, none⟩) (k - l) (cap - l), ?_, by simp [den, hp]⟩
                    simp [Instr.sliceAt, Instr.slice, run_underlying hu, hb, sizeA_ok hs, ce, add_plain]
      case slu p dd len sz =>
        cases h1 : bound lo 0 with
        | none => simp [h1] at h
        | some l =>
          cases h2 : bound hi len with
          | none => simp [h1, h2] at h
          | some k =>
            cases hs : sizeA P e with
            | none => simp [h1, h2, hs] at h
            | some s =>
              cases h3 : leB l k len with
              | false => simp [h1, h2, hs, h3] at h
              | true =>
                obtain ⟨c1, c2⟩ := leB_eq h3
                simp only [den] at d
                cases hp : ρ p with
                | none => simp [hp] at d
                | some bk =>
                  by_cases hk : dd + len ≤ bk.2
                  · simp [hp, hk] at d; subst d
                    simp only [h1, h2, hs, h3, cond_true, nbeq, nble] at h
                    by_cases e1 : s = sz
                    · subst e1
                      simp only [decide_true, cond_true] at h
                      have hcap : k ≤ bk.2 - dd := by omega
                      have hb := bounds_ok (P := P) (s := true) (len := len) (cap := bk.2 - dd) h1 h2 c1 hcap dl dh w
                      by_cases e2 : l + 1 ≤ len
                      · have e2' : l.succ ≤ len := e2
                        simp only [e2', decide_true, cond_true, fN_eq, Option.some.injEq] at h; subst h
                        refine ⟨.slice (some ⟨bk.1, dd * s + l * s, none⟩) (k - l) (bk.2 - dd - l), ?_, ?_⟩
                        · have hne : ¬ bk.2 - dd = l := by omega
                          simp [Instr.sliceAt, Instr.slice, run_underlying hu, hb, sizeA_ok hs, hne, add_plain]
                        · have hle : dd + l + (k - l) ≤ bk.2 := by omega
                          simp only [den, hp]
                          rw [if_pos (by show dd + l + (k - l) ≤ bk.2; exact hle)]
                          rw [← Nat.add_mul, Nat.sub_sub]
                          rfl
                      · have e2' : ¬ l.succ ≤ len := e2
                        by_cases e3 : l = 0
                        · subst e3
                          simp only [e2', decide_false, cond_false, decide_true, cond_true, fN_eq, Option.some.injEq] at h; subst h
                          refine ⟨.slice (some ⟨bk.1, dd * s, none⟩) k (bk.2 - dd), ?_, ?_⟩
                          · by_cases hne : bk.2 - dd = 0
                            · rw [hne] at hb
                              simp [Instr.sliceAt, Instr.slice, run_underlying hu, hb, sizeA_ok hs, hne, add_plain]
                            · simp [Instr.sliceAt, Instr.slice, run_underlying hu, hb, sizeA_ok hs, hne, add_plain]
                          · have hle : dd + k ≤ bk.2 := by omega
                            simp only [den, hp]
                            rw [if_pos (by show dd + 0 + (k - 0) ≤ bk.2; omega)]
                            rfl
                        · simp only [e2', e3, decide_false, cond_false, reduceCtorEq] at h
                    · simp only [e1, decide_false, cond_false, reduceCtorEq] at h
                  · simp [hp, hk] at d
    case array n e =>
      cases h1 : bound lo 0 with
      | none => simp [h1] at h
      | some l =>
        cases h2 : bound hi n with
        | none => simp [h1, h2] at h
        | some k =>
          cases hs : sizeA P e with
          | none => simp [h1, h2, hs] at h
          | some sz =>
            cases h3 : leB l k n with
            | false => simp [h1, h2, hs, h3] at h
            | true =>
              obtain ⟨c1, c2⟩ := leB_eq h3
              cases v <;> simp only [h1, h2, hs, h3, cond_true, reduceCtorEq] at h
              rename_i p off
              rw [nbeq] at h
              by_cases ce : n = l
              · simp only [ce, decide_true, cond_true, reduceCtorEq] at h
              · simp only [ce, decide_false, cond_false, fN_eq, Option.some.injEq] at h; subst h
                simp only [den] at d
                cases hp : ρ p with
                | none => simp [hp] at d
                | some bk =>
                  simp [hp] at d; subst d
                  have hb := bounds_ok (P := P) (s := false) (len := n) (cap := n) h1 h2 c1 c2 dl dh w
                  refine ⟨.slice (some ⟨bk.1, off + l * sz, none⟩) (k - l) (n - l), ?_, by simp [den, hp]⟩
                  simp [Instr.sliceAt, run_underlying hu, hb, sizeA_ok hs, ce, add_plain, Instr.sureAddr]
end
end Go.Ev
