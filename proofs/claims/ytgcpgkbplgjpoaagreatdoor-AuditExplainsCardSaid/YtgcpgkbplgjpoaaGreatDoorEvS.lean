/-
  A part of the evaluator for closed runs: proved once over any program.
-/
import Derived.Test.YtgcpgkbplgjpoaaGreatDoorEvR
import Derived.LoopN
import Derived.Scope
import Derived.Laws.Externs
import Derived.Lib.Bytealg
set_option linter.unusedVariables false
set_option linter.unusedSimpArgs false
namespace Go.Ev
noncomputable section

/-! ### Calls -/
abbrev CallF := FuncId → List AV → Mem → Option (AV × Mem)

/-- What is known of a call: it returns, with this value and this memory. -/
def CallOK (G : Nat → Nat) (w0 : World) (P : Program) (f : FuncId) (args : List AV) (m : Mem) (v : AV) (m' : Mem) : Prop :=
  ∀ ρ w xs, denL G ρ args = some xs → RelH G w0 ρ m.h m.n w → Calls P f xs.toArray w fun e w' => ∃ ρ' x, e = .returned x ∧ den G ρ' v = some x ∧ RelH G w0 ρ' m'.h m'.n w' ∧ Fr ρ m.h w ρ' m'.h w'

def CallsOK (G : Nat → Nat) (w0 : World) (P : Program) (call : CallF) : Prop := ∀ f args m v m', call f args m = some (v, m') → CallOK G w0 P f args m v m'

def Ext.sem : Ext → Array Value → Sem Value
  | .same => Extern.AbiNoEscape.same
  | .indexByte => Extern.BytealgIndexByte.indexByte
  | .count => Extern.BytealgCount.count
  | .clone => Extern.MapsClone.clone

structure Cx.Fine (C : Cx) (G : Nat → Nat) (w0 : World) : Prop extends C.Ok G w0 where
  mixed : C.P.follows .mixedOrders = true
  name : ∀ (f : Nat) (fn : Func), C.P.funcs[f]? = some fn → (fn.name == "runtime.NumGoroutine") = false
  extern : ∀ f k, C.ext f = some k → ∀ args w, (callFunc f args).run C.P w = ((k.sem args).run C.P w).andThen fun v w' => .ok (.value v) w'

def idxB (b c : Nat) : Nat → Nat → Option Nat
  | 0, _ => none
  | n + 1, i => bif Nat.beq (Nat.mod b 256) c then some i else idxB (Nat.div b 256) c n (Nat.succ i)

def cntB (c : Nat) : Nat → Nat → Nat → Nat
  | 0, _, k => k
  | n + 1, b, k => bif Nat.beq (Nat.mod b 256) c then fN (Nat.succ k) fun k => cntB c n (Nat.div b 256) k else cntB c n (Nat.div b 256) k

def extA (k : Ext) (args : List AV) : Option AV :=
  match k with
  | .same => match args with
    | [x] => some x
    | _ => none
  | .indexByte => match args with
    | [.str n b, .int .u8 (.ofNat c)] => bif Nat.blt c 256 then (match idxB b c n 0 with
      | some i => fN i fun i => some (.int .i64 (.ofNat i))
      | none => some (.int .i64 (.negSucc 0))) else none
    | _ => none
  | .count => match args with
    | [.str n b, .int .u8 (.ofNat c)] => bif Nat.blt c 256 then fN (cntB c n b 0) fun i => some (.int .i64 (.ofNat i)) else none
    | _ => none
  | .clone => none

theorem idxB_ok (c : Nat) (hc : c < 256) : ∀ (n b i : Nat), idxB b c n i = (match ((List.range n).find? fun j => UInt8.ofNat (b / 256 ^ j) == UInt8.ofNat c) with | some j => some (i + j) | none => none)
  | 0, b, i => rfl
  | n + 1, b, i => by
    simp only [idxB, nbeq]
    rw [List.range_succ_eq_map, List.find?_cons]
    simp only [Nat.pow_zero, Nat.div_one]
    have e : (UInt8.ofNat b == UInt8.ofNat c) = decide (b.mod 256 = c) := by
      rw [Bool.eq_iff_iff, beq_iff_eq, ofNat_eq, decide_eq_true_iff, Nat.mod_eq_of_lt hc]; rfl
    rw [e]
    by_cases h : b.mod 256 = c
    · simp [h]
    · simp only [h, decide_false, cond_false]
      rw [idxB_ok c hc n, List.find?_map]
      have e2 : ((fun j => UInt8.ofNat (b / 256 ^ j) == UInt8.ofNat c) ∘ Nat.succ) = fun j => UInt8.ofNat ((b.div 256) / 256 ^ j) == UInt8.ofNat c := by
        funext j
        simp only [Function.comp]
        have : b / 256 ^ (j.succ) = (b.div 256) / 256 ^ j := by
          show _ = b / 256 / 256 ^ j
          rw [Nat.div_div_eq_div_mul, Nat.pow_succ, Nat.mul_comm]
        rw [this]
      rw [e2]
      cases (List.range n).find? fun j => UInt8.ofNat ((b.div 256) / 256 ^ j) == UInt8.ofNat c with
      | none => rfl
      | some j => simp; omega

theorem cntB_ok (c : Nat) (hc : c < 256) : ∀ (n b k : Nat), cntB c n b k = k + (bytesL n b).count (UInt8.ofNat c)
  | 0, b, k => rfl
  | n + 1, b, k => by
    simp only [cntB, nbeq, fN_eq, bytesL]
    have e : (UInt8.ofNat b == UInt8.ofNat c) = decide (b.mod 256 = c) := by
      rw [Bool.eq_iff_iff, beq_iff_eq, ofNat_eq, decide_eq_true_iff, Nat.mod_eq_of_lt hc]; rfl
    rw [List.count_cons, e]
    by_cases h : b.mod 256 = c
    · simp only [h, decide_true, cond_true, if_true]; rw [cntB_ok c hc n]; show k + 1 + List.count _ (bytesL n (b / 256)) = _; omega
    · simp only [h, decide_false, cond_false, Bool.false_eq_true, if_false]; rw [cntB_ok c hc n]; rfl

theorem toUInt8_ofNat (c : Nat) : (Int.toNat (Int.ofNat c)).toUInt8 = UInt8.ofNat c := rfl

theorem extA_ok {P : Program} {G : Nat → Nat} {ρ : Env} {k : Ext} {args : List AV} {v : AV} {xs : List Value} (h : extA k args = some v) (d : denL G ρ args = some xs) (w : World) :
    ∃ x, (k.sem xs.toArray).run P w = .ok x w ∧ den G ρ v = some x := by
  cases k with
  | clone => simp [extA] at h
  | same =>
    simp only [extA] at h
    split at h
    · simp at h; subst h
      obtain ⟨x, ys, d1, d2, rfl⟩ := denL_cons.1 d
      simp [denL] at d2; subst d2
      exact ⟨x, rfl, d1⟩
    · cases h
  | indexByte =>
    simp only [extA] at h
    split at h
    · rename_i n b c
      obtain ⟨hc, h⟩ := cond_some h
      rw [nblt, decide_eq_true_iff] at hc
      obtain ⟨x, ys, d1, d2, rfl⟩ := denL_cons.1 d
      obtain ⟨y, zs, d3, d4, rfl⟩ := denL_cons.1 d2
      simp [denL] at d4; subst d4
      simp only [den, Option.some.injEq] at d1 d3; subst d1 d3
      refine ⟨_, run_indexByte_string (P := P) (mkB n b) (Int.ofNat c) w, ?_⟩
      rw [toUInt8_ofNat]
      unfold firstIdx
      rw [size_mkB]
      have e : (List.range n).find? (fun i => (mkB n b)[i]! == UInt8.ofNat c) = (List.range n).find? (fun j => UInt8.ofNat (b / 256 ^ j) == UInt8.ofNat c) := by
        have : ∀ l : List Nat, (∀ i ∈ l, i < n) → l.find? (fun i => (mkB n b)[i]! == UInt8.ofNat c) = l.find? (fun j => UInt8.ofNat (b / 256 ^ j) == UInt8.ofNat c) := fun l => by
          induction l with
          | nil => intro _; rfl
          | cons a l ih =>
            intro hl
            have ha : a < n := hl a (by simp)
            have e1 : (mkB n b)[a]! = UInt8.ofNat (b / 256 ^ a) := by
              have h1 := mkB_get? n b a ha
              rw [getElem!_def, h1]
            rw [List.find?_cons, List.find?_cons, e1, ih fun i hi => hl i (by simp [hi])]
        exact this _ fun i hi => List.mem_range.1 hi
      rw [e]
      have hi := idxB_ok c hc n b 0
      rw [hi] at h
      cases hf : (List.range n).find? fun j => UInt8.ofNat (b / 256 ^ j) == UInt8.ofNat c with
      | none => simp only [hf, Option.some.injEq] at h; subst h; rfl
      | some j => simp only [hf, fN_eq, Nat.zero_add, Option.some.injEq] at h; subst h; rfl
    · cases h
  | count =>
    simp only [extA] at h
    split at h
    · rename_i n b c
      obtain ⟨hc, h⟩ := cond_some h
      rw [nblt, decide_eq_true_iff] at hc
      obtain ⟨x, ys, d1, d2, rfl⟩ := denL_cons.1 d
      obtain ⟨y, zs, d3, d4, rfl⟩ := denL_cons.1 d2
      simp [denL] at d4; subst d4
      simp only [den, Option.some.injEq] at d1 d3; subst d1 d3
      simp only [fN_eq, Option.some.injEq] at h; subst h
      refine ⟨_, Lib.run_countString (P := P) (mkB n b) (Int.ofNat c) w, ?_⟩
      rw [toUInt8_ofNat, cntB_ok c hc]
      simp [den, Lib.countByte, mkB]
    · cases h

def fnOf (P : Program) (f : FuncId) : Option (Func × Code) :=
  match nth P.funcs.toList f with
  | some fn => match fn.body with
    | some c => some (fn, c)
    | none => none
  | none => none

theorem fnOf_ok {P : Program} {f : FuncId} {fn : Func} {c : Code} (h : fnOf P f = some (fn, c)) : P.funcs[f]? = some fn ∧ fn.body = some c := by
  unfold fnOf at h
  rw [nth_eq] at h
  cases hf : P.funcs.toList[f]? with
  | none => simp [hf] at h
  | some g =>
    cases hb : g.body with
    | none => simp [hf, hb] at h
    | some d => simp [hf, hb] at h; obtain ⟨rfl, rfl⟩ := h; exact ⟨by rw [← Array.getElem?_toList]; exact hf, hb⟩

/-- A function is called. -/
def cloneA (args : List AV) (m : Mem) : Option (AV × Mem) :=
  match args with
  | [.iface t (.map p)] => match T.get p m.h with
    | some (.map es clk) => (newA m (.map es clk)).bind fun r => some (.iface t (.map r.1), r.2)
    | _ => none
  | _ => none

def extM (k : Ext) (args : List AV) (m : Mem) : Option (AV × Mem) :=
  match k with
  | .clone => cloneA args m
  | _ => (extA k args).bind fun v => some (v, m)

theorem clone_ok {P : Program} {G : Nat → Nat} {w0 : World} {ρ : Env} {args : List AV} {m m' : Mem} {v : AV} {xs : List Value} {w : World} (r : RelH G w0 ρ m.h m.n w) (h : cloneA args m = some (v, m')) (d : denL G ρ args = some xs) :
    Does G w0 P (Extern.MapsClone.clone xs.toArray) ρ m w v m' := by
  unfold cloneA at h
  split at h
  · rename_i t p
    obtain ⟨x, ys, d1, d2, rfl⟩ := denL_cons.1 d
    simp only [denL, Option.some.injEq] at d2; subst d2
    split at h
    · rename_i es clk hp
      obtain ⟨b, κ, X, h1, h2, h3, l, h4, h5⟩ := r.obj p _ hp
      subst h4
      obtain ⟨⟨q, m1⟩, hr, h⟩ := bind_some h
      simp only [Option.some.injEq, Prod.mk.injEq] at h
      obtain ⟨rfl, rfl⟩ := h
      have hle := Env.le_add (x := (w.heap.size, 0)) (r.fresh m.n (Nat.le_refl _))
      obtain ⟨q1, q2, q3⟩ := newA_ok (κ := 0) r hr (x := .map l.toArray clk) (ObjOK.mono (κ := 0) (o := .map es clk) hle ⟨l, rfl, h5⟩)
      simp only [den, h1, Option.map_some, Option.some.injEq] at d1
      subst d1
      refine ⟨_, _, .iface t (.map (some w.heap.size)), ?_, by simp [den, q1], q2, q3⟩
      have hg : (getObj b).run P w = .ok (.map l.toArray clk) w := by simp [getObj, Sem.run, h2]
      have e : Extern.MapsClone.clone [Value.iface t (.map (some b))].toArray = (getObj b >>= fun o => match o with
        | .map entries clock => (do pure (.iface t (.map (some (← newObj (.map entries clock))))))
        | _ => stuck "maps.clone: a map expected") := rfl
      rw [e]
      simp only [Sem.run_bind, hg, Result.andThen_ok, newObj, Sem.run, Sem.run_pure]
      rfl
    · cases h
  · cases h

theorem extM_ok {P : Program} {G : Nat → Nat} {w0 : World} {ρ : Env} {k : Ext} {args : List AV} {m m' : Mem} {v : AV} {xs : List Value} {w : World} (r : RelH G w0 ρ m.h m.n w) (h : extM k args m = some (v, m')) (d : denL G ρ args = some xs) :
    Does G w0 P (k.sem xs.toArray) ρ m w v m' := by
  have plain : (extA k args).bind (fun v => some (v, m)) = some (v, m') → Does G w0 P (k.sem xs.toArray) ρ m w v m' := fun h => by
    obtain ⟨u, h5, h6⟩ := bind_some h
    simp only [Option.some.injEq, Prod.mk.injEq] at h6
    obtain ⟨rfl, rfl⟩ := h6
    obtain ⟨x, g1, g2⟩ := extA_ok (P := P) h5 d w
    exact ⟨ρ, w, x, g1, g2, r, Fr.refl _ _ _⟩
  cases k
  case clone => exact clone_ok r h d
  all_goals exact plain h

def callA (C : Cx) (call : CallF) (f : FuncId) (args : List AV) (m : Mem) : Option (AV × Mem) :=
  match C.ext f with
  | some k => extM k args m
  | none => match fnOf C.P f with
    | some _ => call f args m
    | none => none

def isCall (op : Op) : Option Call :=
  match op with
  | .call c => match c.callee with
    | .value _ => some c
    | _ => none
  | _ => none

/-- Any operation. -/
def evOp (C : Cx) (call : CallF) (t : T AV) (m : Mem) (op : Op) : Option (AV × Mem) :=
  match isCall op with
  | some c => match c.callee with
    | .value f => (evO C t f).bind fun fv => (evOs C t c.args.toList).bind fun args => match fv with
      | .fn g first cap => fL (first ++ (args ++ cap)) fun args => callA C call g args m
      | _ => none
    | _ => none
  | none => match evP C t m.h op with
    | some v => some (v, m)
    | none => evE C t m op
end
end Go.Ev
