/-
  A part of the evaluator for closed runs: proved once over any program.
-/
import Derived.Test.YtgcpgkbplgjpoaaGreatDoorEvD
import Derived.Laws.Cells
import Derived.Laws.Entries
import Derived.ChangeKeysEq
set_option linter.unusedVariables false
set_option linter.unusedSimpArgs false
namespace Go.Ev
noncomputable section

/-! ### Constants -/
mutual
def cv : Value → Option AV
  | .bool b => some (.bool b)
  | .int k n => some (.int k n)
  | .string s => fN (pack s.data.toList) fun b => fN s.data.toList.length fun n => some (.str n b)
  | .pointer none => some .nilP
  | .slice none 0 0 => some .nilS
  | .map none => some .nilM
  | .nilFunc => some .nilF
  | .iface t v => match cv v with
    | some x => some (.iface t x)
    | none => none
  | .nilIface => some .nilI
  | .agg cs => match cvA cs with
    | some l => some (.agg l)
    | none => none
  | .tuple cs => match cvA cs with
    | some l => some (.tup l)
    | none => none
  | .func (.func f) first cap => match cvA first, cvA cap with
    | some l, some m => some (.fn f l m)
    | _, _ => none
  | _ => none
def cvA : Array Value → Option (List AV)
  | ⟨l⟩ => cvL l
def cvL : List Value → Option (List AV)
  | [] => some []
  | v :: vs => match cv v, cvL vs with
    | some x, some xs => some (x :: xs)
    | _, _ => none
end

mutual
theorem cv_ok {G : Nat → Nat} {ρ : Env} : ∀ {v : Value} {a : AV}, cv v = some a → den G ρ a = some v
  | .bool b, a, h => by simp [cv] at h; subst h; rfl
  | .int k n, a, h => by simp [cv] at h; subst h; rfl
  | .string s, a, h => by
    simp only [cv, fN_eq, Option.some.injEq] at h; subst h
    simp only [den]
    have := mkB_pack s
    exact congrArg (fun s => some (Value.string s)) this
  | .pointer none, a, h => by simp [cv] at h; subst h; rfl
  | .pointer (some x), a, h => by simp [cv] at h
  | .slice none 0 0, a, h => by simp [cv] at h; subst h; rfl
  | .slice none 0 (c + 1), a, h => by simp [cv] at h
  | .slice none (l + 1) c, a, h => by simp [cv] at h
  | .slice (some x) l c, a, h => by simp [cv] at h
  | .map none, a, h => by simp [cv] at h; subst h; rfl
  | .map (some x), a, h => by simp [cv] at h
  | .nilFunc, a, h => by simp [cv] at h; subst h; rfl
  | .iface t v, a, h => by
    simp only [cv] at h
    cases hv : cv v with
    | none => simp [hv] at h
    | some x => simp [hv] at h; subst h; simp [den, cv_ok hv]
  | .nilIface, a, h => by simp [cv] at h; subst h; rfl
  | .agg cs, a, h => by
    simp only [cv] at h
    cases hv : cvA cs with
    | none => simp [hv] at h
    | some x => simp [hv] at h; subst h; simp [den, cvA_ok hv]
  | .tuple cs, a, h => by
    simp only [cv] at h
    cases hv : cvA cs with
    | none => simp [hv] at h
    | some x => simp [hv] at h; subst h; simp [den, cvA_ok hv]
  | .func (.func f) first cap, a, h => by
    simp only [cv] at h
    cases hv : cvA first with
    | none => simp [hv] at h
    | some x =>
      cases hw : cvA cap with
      | none => simp [hv, hw] at h
      | some y => simp [hv, hw] at h; subst h; simp [den, cvA_ok hv, cvA_ok hw]
  | .func (.method _) _ _, a, h => by simp [cv] at h
  | .func (.methodOf _ _) _ _, a, h => by simp [cv] at h
  | .func (.via _ _ _ _) _ _, a, h => by simp [cv] at h
  | .func (.yield _) _ _, a, h => by simp [cv] at h
  | .float _ _, a, h => by simp [cv] at h
  | .complex _ _ _, a, h => by simp [cv] at h
  | .chan _, a, h => by simp [cv] at h
theorem cvA_ok {G : Nat → Nat} {ρ : Env} : ∀ {v : Array Value} {a : List AV}, cvA v = some a → denL G ρ a = some v.toList
  | ⟨l⟩, a, h => cvL_ok (v := l) h
theorem cvL_ok {G : Nat → Nat} {ρ : Env} : ∀ {v : List Value} {a : List AV}, cvL v = some a → denL G ρ a = some v
  | [], a, h => by simp [cvL] at h; subst h; rfl
  | v :: vs, a, h => by
    simp only [cvL] at h
    cases hv : cv v with
    | none => simp [hv] at h
    | some x =>
      cases hw : cvL vs with
      | none => simp [hv, hw] at h
      | some y => simp [hv, hw] at h; subst h; exact denL_cons.2 ⟨v, vs, cv_ok hv, cvL_ok hw, rfl⟩
end

/-! ### What is run, and what is known of it -/
inductive Ext where
  | same
  | indexByte
  | count
  | clone
  deriving Inhabited

structure Cx where
  P : Program
  ng : Nat
  gc : Nat → Nat → Option AV
  ext : FuncId → Option Ext
  /-- Which operations of a region are lights (bits); 0: none. Only a hint. -/
  hint : Nat → Nat → Nat

structure Cx.Ok (C : Cx) (G : Nat → Nat) (w0 : World) : Prop where
  glob : ∀ g, g < C.ng → G g = g
  cell : ∀ g off v, C.gc g off = some v → ∃ x, (∀ ρ, den G ρ v = some x) ∧ w0.cell? ⟨G g, off, none⟩ = some x ∧ G g < w0.heap.size

structure RelT (G : Nat → Nat) (ρ : Env) (t : T AV) (nt : Nat) (a : Act) : Prop where
  get : ∀ i v, i < 1000000 → T.get (Key.slot i) t = some v → den G ρ v = some (a.tmps.getD i undef)
  size : nt ≤ a.tmps.size

def evO (C : Cx) (t : T AV) : Operand → Option AV
  | .tmp i => bif Nat.blt i 1000000 then T.get (Key.slot i) t else none
  | .const v => cv v
  | .global g => bif Nat.blt g C.ng then some (.gptr g 0) else none
  | .func f => some (.fn f [] [])

theorem evO_ok {C : Cx} {G : Nat → Nat} {w0 : World} (ok : C.Ok G w0) {ρ : Env} {t : T AV} {nt : Nat} {a : Act} (r : RelT G ρ t nt a) {x : Operand} {v : AV}
    (h : evO C t x = some v) : den G ρ v = some (a.eval x) := by
  cases x with
  | tmp i =>
    simp only [evO, nblt] at h
    by_cases c : i < 1000000
    · simp only [c, decide_true, cond_true] at h; exact r.get i v c h
    · simp only [c, decide_false, cond_false, reduceCtorEq] at h
  | const x => exact cv_ok h
  | global g =>
    simp only [evO, nblt] at h
    by_cases c : g < C.ng
    · simp only [c, decide_true, cond_true, Option.some.injEq] at h; subst h
      simp only [den, ok.glob g c]; rfl
    · simp only [c, decide_false, cond_false, reduceCtorEq] at h
  | func f => simp only [evO, Option.some.injEq] at h; subst h; rfl

def evOs (C : Cx) (t : T AV) : List Operand → Option (List AV)
  | [] => some []
  | x :: xs => match evO C t x, evOs C t xs with
    | some v, some vs => some (v :: vs)
    | _, _ => none

theorem evOs_ok {C : Cx} {G : Nat → Nat} {w0 : World} (ok : C.Ok G w0) {ρ : Env} {t : T AV} {nt : Nat} {a : Act} (r : RelT G ρ t nt a) : ∀ {l : List Operand} {vs : List AV},
    evOs C t l = some vs → denL G ρ vs = some (l.map a.eval)
  | [], vs, h => by simp [evOs] at h; subst h; rfl
  | x :: l, vs, h => by
    simp only [evOs] at h
    cases h1 : evO C t x with
    | none => simp [h1] at h
    | some v =>
      cases h2 : evOs C t l with
      | none => simp [h1, h2] at h
      | some us => simp [h1, h2] at h; subst h; exact denL_cons.2 ⟨_, _, evO_ok ok r h1, evOs_ok ok r h2, rfl⟩

/-! ### Reading memory -/
def nth {α : Type} : List α → Nat → Option α
  | [], _ => none
  | a :: _, 0 => some a
  | _ :: l, n + 1 => nth l n
theorem nth_eq {α : Type} : ∀ (l : List α) (n : Nat), nth l n = l[n]?
  | [], n => by simp [nth]
  | a :: l, 0 => by simp [nth]
  | a :: l, n + 1 => by simp [nth, nth_eq l n]

def takeN {α : Type} : Nat → List α → Option (List α)
  | 0, _ => some []
  | _ + 1, [] => none
  | n + 1, a :: l => match takeN n l with
    | some m => some (a :: m)
    | none => none
theorem takeN_eq {α : Type} : ∀ {n : Nat} {l m : List α}, takeN n l = some m → n ≤ l.length ∧ m = l.take n
  | 0, l, m, h => by simp [takeN] at h; subst h; simp
  | n + 1, [], m, h => by simp [takeN] at h
  | n + 1, a :: l, m, h => by
    simp only [takeN] at h
    cases h1 : takeN n l with
    | none => simp [h1] at h
    | some k =>
      simp [h1] at h; subst h
      obtain ⟨e1, e2⟩ := takeN_eq h1
      simp [e1, e2]

def byteA (b i : Nat) : AV := .int .u8 (.ofNat (Nat.mod (Nat.div b (Nat.pow 256 i)) 256))

def byteRow (b : Nat) : Nat → Nat → List AV
  | _, 0 => []
  | i, n + 1 => fN (Nat.mod (Nat.div b (Nat.pow 256 i)) 256) fun c => .int .u8 (.ofNat c) :: byteRow b (Nat.succ i) n

theorem byteRow_eq (b : Nat) : ∀ (i n : Nat), byteRow b i n = (List.range n).map fun j => byteA b (i + j)
  | i, 0 => rfl
  | i, n + 1 => by
    simp only [byteRow, fN_eq, byteRow_eq b _ n, List.range_succ_eq_map, List.map_cons, List.map_map]
    congr 1
    apply List.map_congr_left
    intro j _
    simp only [Function.comp]
    congr 1
    show i + 1 + j = i + (j + 1)
    omega

def gRow (gc : Nat → Nat → Option AV) (g : Nat) : Nat → Nat → Option (List AV)
  | _, 0 => some []
  | i, n + 1 => match gc g i, gRow gc g (Nat.succ i) n with
    | some v, some vs => some (v :: vs)
    | _, _ => none

theorem gRow_get {gc : Nat → Nat → Option AV} {g : Nat} : ∀ {n i : Nat} {l : List AV}, gRow gc g i n = some l → l.length = n ∧ ∀ j v, l[j]? = some v → gc g (i + j) = some v
  | 0, i, l, h => by simp [gRow] at h; subst h; simp
  | n + 1, i, l, h => by
    simp only [gRow] at h
    cases h1 : gc g i with
    | none => simp [h1] at h
    | some v =>
      cases h2 : gRow gc g (Nat.succ i) n with
      | none => simp [h1, h2] at h
      | some vs =>
        simp [h1, h2] at h; subst h
        obtain ⟨e1, e2⟩ := gRow_get h2
        refine ⟨by simp [e1], fun j u hj => ?_⟩
        cases j with
        | zero => simp at hj; subst hj; simpa using h1
        | succ j =>
          have := e2 j u (by simpa using hj)
          rwa [show i.succ + j = i + (j + 1) from by omega] at this

/-- n cells at an address. -/
def rows (C : Cx) (h : T AObj) (v : AV) (n : Nat) : Option (List AV) :=
  match v with
  | .ptr p off => match T.get p h with
    | some (.cells _ _ _ l) => takeN n (List.drop off l)
    | some (.bytes _ _ _ m b) => bif Nat.ble (Nat.add off n) m then some (byteRow b off n) else none
    | _ => none
  | .gptr g off => gRow C.gc g off n
  | _ => none

theorem cell_of_row {w : World} {b : Nat} {c : Array Value} {e : TypeId} {f : Nat × Nat} (h : w.heap[b]? = some (.cells c e f)) (i : Nat) : w.cell? ⟨b, i, none⟩ = c[i]? := by
  simp [World.cell?, h]

theorem prefix_get {α : Type} {l m : List α} (h : l <+: m) {i : Nat} {a : α} (k : l[i]? = some a) : m[i]? = some a := by
  obtain ⟨r, rfl⟩ := h
  rw [List.getElem?_append_left (List.getElem?_eq_some_iff.1 k).1]; exact k

theorem rows_ok {C : Cx} {G : Nat → Nat} {w0 : World} (ok : C.Ok G w0) {ρ : Env} {h : T AObj} {n : Key} {w : World} (r : RelH G w0 ρ h n w) {v : AV} {m : Nat} {l : List AV}
    (e : rows C h v m = some l) : ∃ b off xs, den G ρ v = some (.pointer (some ⟨b, off, none⟩)) ∧ denL G ρ l = some xs ∧ l.length = m ∧ ∀ j x, xs[j]? = some x → w.cell? ⟨b, off + j, none⟩ = some x := by
  cases v <;> simp only [rows, reduceCtorEq] at e
  case ptr p off =>
    cases hp : T.get p h with
    | none => simp [hp] at e
    | some o =>
      obtain ⟨b, κ, x, h1, h2, h3, h4, h5⟩ := r.lt hp
      cases o <;> simp only [hp, reduceCtorEq] at e
      case cells u ty fz k =>
        obtain ⟨c, f, xs, rfl, _, hd, hpre, _⟩ := h5
        obtain ⟨e1, e2⟩ := takeN_eq e
        refine ⟨b, off, (xs.drop off).take m, by simp [den, h1], by rw [e2]; exact denL_take m (denL_drop off hd), by rw [e2]; simp at e1 ⊢; omega, fun j y hj => ?_⟩
        rw [cell_of_row h2, ← Array.getElem?_toList]
        apply prefix_get hpre
        rw [List.getElem?_take] at hj
        split at hj
        · rw [List.getElem?_drop] at hj; exact hj
        · cases hj
      case bytes u ty fz k bs =>
        obtain ⟨c, f, rfl, _, hpre, _⟩ := h5
        rw [nble] at e
        by_cases hle : off.add m ≤ k
        · simp only [hle, decide_true, cond_true, Option.some.injEq] at e
          have hle' : off + m ≤ k := hle
          refine ⟨b, off, (List.range m).map fun j => byteV (UInt8.ofNat (bs / 256 ^ (off + j))), by simp [den, h1], ?_, by rw [← e, byteRow_eq]; simp, fun j y hj => ?_⟩
          · rw [← e, byteRow_eq]
            have : ∀ q : List Nat, denL G ρ (q.map fun j => byteA bs (off + j)) = some (q.map fun j => byteV (UInt8.ofNat (bs / 256 ^ (off + j)))) := fun q => by
              induction q with
              | nil => rfl
              | cons a q ih => exact denL_cons.2 ⟨_, _, by simp [byteA, den, byteV]; rfl, ih, rfl⟩
            exact this _
          · rw [cell_of_row h2, ← Array.getElem?_toList]
            apply prefix_get hpre
            rw [List.getElem?_map] at hj ⊢
            have hjm : j < m := by
              rcases Nat.lt_or_ge j m with h' | h'
              · exact h'
              · simp [List.getElem?_eq_none, h'] at hj
            rw [bytesL_get? _ _ _ (by omega)]
            simpa [hjm] using hj
        · simp only [hle, decide_false, cond_false, reduceCtorEq] at e
  case gptr g off =>
    obtain ⟨e1, e2⟩ := gRow_get e
    have key : ∀ (q : List AV) (o : Nat), (∀ j v, q[j]? = some v → C.gc g (o + j) = some v) → ∃ xs, denL G ρ q = some xs ∧ ∀ j x, xs[j]? = some x → w.cell? ⟨G g, o + j, none⟩ = some x := by
      intro q
      induction q with
      | nil => intro o _; exact ⟨[], rfl, by simp⟩
      | cons a q ih =>
        intro o hq
        obtain ⟨xs, hx, hc⟩ := ih (o + 1) (fun j v hj => by
          have := hq (j + 1) v (by simpa using hj)
          rwa [show o + (j + 1) = o + 1 + j from by omega] at this)
        obtain ⟨x, hx1, hx2, hx3⟩ := ok.cell g o a (by simpa using hq 0 a (by simp))
        refine ⟨x :: xs, denL_cons.2 ⟨x, xs, hx1 ρ, hx, rfl⟩, fun j y hj => ?_⟩
        cases j with
        | zero =>
          simp at hj; subst hj
          rw [show (⟨G g, o + 0, none⟩ : Addr) = ⟨G g, o, none⟩ from rfl]
          rw [← hx2]
          simp only [World.cell?, r.low _ hx3]
        | succ j =>
          have := hc j y (by simpa using hj)
          rwa [show o + (j + 1) = o + 1 + j from by omega]
    obtain ⟨xs, hx, hc⟩ := key l off e2
    exact ⟨G g, off, xs, rfl, hx, e1, hc⟩

theorem add_plain (b o i : Nat) : (⟨b, o, none⟩ : Addr).add i = ⟨b, o + i, none⟩ := by unfold Addr.add; split <;> simp_all

def aggOf (P : Program) (t : TypeId) : Option Bool :=
  match P.underlying t with
  | some (.struct _) => some true
  | some (.array _ _) => some true
  | some _ => some false
  | none => none

def sizeA (P : Program) (t : TypeId) : Option Nat :=
  match P.info? t with
  | some i => some i.size
  | none => none

theorem aggOf_ok {P : Program} {t : TypeId} {b : Bool} (h : aggOf P t = some b) (w : World) : (isAgg t).run P w = .ok b w := by
  unfold aggOf at h
  cases hu : P.underlying t with
  | none => simp [hu] at h
  | some d =>
    simp only [isAgg, Sem.run_bind, run_underlying hu, Result.andThen_ok]
    cases d <;> simp [hu] at h <;> subst h <;> rfl

theorem sizeA_ok {P : Program} {t : TypeId} {n : Nat} (h : sizeA P t = some n) (w : World) : (sizeOf t).run P w = .ok n w := by
  unfold sizeA at h
  cases hi : P.info? t with
  | none => simp [hi] at h
  | some i => simp [hi] at h; subst h; simp [sizeOf, typeInfo, hi]

/-- A load. -/
def loadA (C : Cx) (h : T AObj) (t : TypeId) (v : AV) : Option AV :=
  match aggOf C.P t with
  | some true => match sizeA C.P t with
    | some n => match rows C h v n with
      | some l => some (.agg l)
      | none => none
    | none => none
  | some false => match rows C h v 1 with
    | some [x] => some x
    | _ => none
  | none => none

theorem loadVar_ok {C : Cx} {G : Nat → Nat} {w0 : World} (ok : C.Ok G w0) {ρ : Env} {h : T AObj} {n : Key} {w : World} (r : RelH G w0 ρ h n w) {t : TypeId} {v u : AV}
    (e : loadA C h t v = some u) : ∃ b off x, den G ρ v = some (.pointer (some ⟨b, off, none⟩)) ∧ (loadVar t ⟨b, off, none⟩).run C.P w = .ok x w ∧ den G ρ u = some x := by
  unfold loadA at e
  cases ha : aggOf C.P t with
  | none => simp [ha] at e
  | some g =>
    cases g with
    | true =>
      cases hs : sizeA C.P t with
      | none => simp [ha, hs] at e
      | some m =>
        cases hr : rows C h v m with
        | none => simp [ha, hs, hr] at e
        | some l =>
          simp [ha, hs, hr] at e; subst e
          obtain ⟨b, off, xs, h1, h2, h3, h4⟩ := rows_ok ok r hr
          refine ⟨b, off, .agg xs.toArray, h1, ?_, by simp [den, h2]⟩
          have hl := run_loadCells_list (P := C.P) w ⟨b, off, none⟩ xs (fun j y hj => by rw [add_plain]; exact h4 j y hj)
          rw [denL_length h2, h3] at hl
          simp [loadVar, aggOf_ok ha, sizeA_ok hs, hl]
    | false =>
      cases hr : rows C h v 1 with
      | none => simp [ha, hr] at e
      | some l =>
        match l, hr, e with
        | [], hr, e => simp [ha, hr] at e
        | _ :: _ :: _, hr, e => simp [ha, hr] at e
        | [x], hr, e =>
          simp [ha, hr] at e; subst e
          obtain ⟨b, off, xs, h1, h2, h3, h4⟩ := rows_ok ok r hr
          obtain ⟨y, ys, g1, g2, rfl⟩ := denL_cons.1 h2
          have hc := h4 0 y (by simp)
          refine ⟨b, off, y, h1, ?_, g1⟩
          simp only [loadVar, Sem.run_bind, aggOf_ok ha, Result.andThen_ok, Bool.false_eq_true, if_false, run_load]
          rw [show (⟨b, off, none⟩ : Addr) = ⟨b, off + 0, none⟩ from rfl, hc]
end
end Go.Ev
