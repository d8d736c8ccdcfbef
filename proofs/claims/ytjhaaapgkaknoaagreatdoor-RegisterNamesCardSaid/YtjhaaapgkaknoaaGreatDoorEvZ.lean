/-
  From the rows' conditions to what the evaluator may read.
-/
import Derived.Test.YtjhaaapgkaknoaaGreatDoorEvY
import Derived.Below
import Derived.Lib.LaidTab
import Derived.FnData
import Derived.ChangeArms
import Derived.Stop.LaidErr
set_option linter.unusedVariables false
set_option linter.unusedSimpArgs false
namespace Go.Ev
noncomputable section

def evFn (C : Cx) (kn : Kn) (tab : List Ent) (rounds : Nat) (X : CallX) (f : FuncId) (args : List AV) (m : Mem) : Option (Bool × AV × Mem) :=
  match lookE f args m tab with
    | some r => some r
    | none => match knA kn f args m with
      | some r => some r
      | none => match fnOf C.P f with
        | some (fn, c) => bif Nat.ble fn.ntmps 1000000 then (bif Nat.ble args.length fn.ntmps then
          argsA args 0 .leaf fun t => endX C fn.results.toList (callD C X rounds) (evCk c C X ⟨true, rfA C X f fn.ntmps⟩ (drawH C (retX X) fn.ntmps f) fn.ntmps rounds t m) else none) else none
        | none => none

def evCall (C : Cx) (kn : Kn) (tab : List Ent) (rounds : Nat) : Nat → CallX
  | 0 => ⟨fun _ _ _ => none, fun _ _ _ => none⟩
  | d + 1 => ⟨evFn C kn tab rounds (evCall C kn tab rounds d), rndA C (evCall C kn tab rounds d) rounds⟩

theorem evFn_any {C : Cx} {G : Nat → Nat} {w0 : World} (ok : C.Fine G w0) {kn : Kn} (hs : KnOK G w0 C.P kn) {tab : List Ent} (ht : TabOK G w0 C.P tab) {rounds : Nat} {X : CallX} (ih : XOK G w0 C.P X) : ∀ f args m b v m', evFn C kn tab rounds X f args m = some (b, v, m') → AnyOK G w0 C.P f args m b v m' := by
    intro f args m b v m' h
    unfold evFn at h
    cases hlk : lookE f args m tab with
    | some r =>
      simp only [hlk, Option.some.injEq] at h
      subst h
      exact lookE_ok ht hlk
    | none =>
    simp only [hlk] at h
    cases hsr : knA kn f args m with
    | some r =>
      simp only [hsr, Option.some.injEq] at h
      subst h
      exact knA_ok hs hsr
    | none =>
    simp only [hsr] at h
    intro ρ w xs dx r
    cases hf : fnOf C.P f with
    | none => simp [hf] at h
    | some fc =>
      obtain ⟨fn, c⟩ := fc
      simp only [hf] at h
      obtain ⟨h1, h⟩ := cond_some h
      obtain ⟨h2, h⟩ := cond_some h
      rw [argsA_eq, evCk_eq] at h
      have hnt : fn.ntmps ≤ 1000000 := Nat.le_of_ble_eq_true h1
      have hl : args.length ≤ fn.ntmps := Nat.le_of_ble_eq_true h2
      obtain ⟨g1, g2⟩ := fnOf_ok hf
      refine calls_of_wp_W g1 g2 ?_
      have rt := args_rel hnt hl dx
      have hh := args_h (l := args) (i := 0) (t := .leaf) (by omega)
      generalize (args.foldl (fun (p : Nat × T AV) v => (p.1 + 1, T.put (Key.slot p.1) (some v) p.2)) (0, .leaf)).2 = t at h rt hh
      have hD := callD_ok ok ih (rounds := rounds)
      cases hc : evC C X ⟨true, rfA C X f fn.ntmps⟩ (drawH C (retX X) fn.ntmps f) fn.ntmps rounds c t m with
      | none => simp [hc, endX] at h
      | some res =>
        obtain ⟨x, t', m1⟩ := res
        rw [hc] at h
        have hdef : DefR C.P G ρ t ([] : List Deferred) := by
          unfold DefR; rw [hh, T.get_leaf]; exact .nil
        have := evC_ok ok ih hnt (rfA_ok ok ih hnt) (drawH_ok ok ih.calls hnt) c hc ρ _ w rt hdef r
        refine wp_mono (wpIn_wide.1 this) fun e a' w' ⟨ρ', he, k1, k2, k3, k4⟩ => ?_
        have fin : ∀ p m2, resX C fn.results.toList t' m2 = some (b, v, m') → p = PS.no → ∀ ρ2 u2 w2, PSR G ρ2 p u2 → RelH G w0 ρ2 m2.h m2.n w2 → Fr ρ' m1.h w' ρ2 m2.h w2 →
            Leaves C.P fn a'.tmps (fun e w' => ∃ ρ' x, e = endOf b x ∧ den G ρ' v = some x ∧ RelH G w0 ρ' m'.h m'.n w' ∧ Fr ρ m.h w ρ' m'.h w') [] u2 w2 := by
          intro p m2 hr hp ρ2 u2 w2 j1 j2 j3
          subst hp
          simp only [PSR] at j1; subst j1
          obtain ⟨rfl, rfl, hres⟩ := resX_ok (G := G) (w0 := w0) ok.toOk hr
          obtain ⟨y, dy, hy⟩ := hres (k1.mono j3.ext) j2
          exact ⟨y, hy, ρ2, y, rfl, dy, j2, k4.trans j3⟩
        cases x with
        | exit id => simp [endX] at h
        | nrm =>
          simp only [ExR] at he; subst he
          simp only [endX] at h
          cases hde : evDefers (callD C X rounds) (dlist (T.get .h t')) .no m1 with
          | none => simp [hde] at h
          | some q =>
            obtain ⟨p, m2⟩ := q
            cases p <;> simp only [hde, reduceCtorEq] at h
            exact evDefers_ok ok hD k2 (p := .no) rfl k3 hde (fin _ _ h rfl)
        | ret =>
          simp only [ExR] at he; subst he
          simp only [endX] at h
          cases hde : evDefers (callD C X rounds) (dlist (T.get .h t')) .no m1 with
          | none => simp [hde] at h
          | some q =>
            obtain ⟨p, m2⟩ := q
            cases p <;> simp only [hde, reduceCtorEq] at h
            exact evDefers_ok ok hD k2 (p := .no) rfl k3 hde (fin _ _ h rfl)
        | pan v0 =>
          obtain ⟨y0, hy0, rfl⟩ := he
          simp only [endX] at h
          cases hde : evDefers (callD C X rounds) (dlist (T.get .h t')) (.pend v0) m1 with
          | none => simp [hde] at h
          | some q =>
            obtain ⟨p, m2⟩ := q
            cases p <;> simp only [hde, reduceCtorEq] at h
            case no => exact evDefers_ok ok hD k2 (p := .pend v0) ⟨y0, hy0, rfl⟩ k3 hde (fin _ _ h rfl)
            case pend v1 =>
              simp only [Option.some.injEq, Prod.mk.injEq] at h
              obtain ⟨rfl, rfl, rfl⟩ := h
              refine evDefers_ok ok hD k2 (p := .pend v0) ⟨y0, hy0, rfl⟩ k3 hde fun ρ2 u2 w2 j1 j2 j3 => ?_
              obtain ⟨z, hz, rfl⟩ := j1
              exact ⟨ρ2, z, rfl, hz, j2, k4.trans j3⟩

theorem evCall_ok {C : Cx} {G : Nat → Nat} {w0 : World} (ok : C.Fine G w0) {kn : Kn} (hs : KnOK G w0 C.P kn) {tab : List Ent} (ht : TabOK G w0 C.P tab) {rounds : Nat} : ∀ d : Nat, XOK G w0 C.P (evCall C kn tab rounds d)
  | 0 => ⟨fun _ _ _ _ _ h => (by cases h), fun _ _ _ _ _ h => (by cases h), fun _ _ _ _ _ h => (by cases h)⟩
  | d + 1 => .of (evFn_any ok hs ht (evCall_ok ok hs ht d)) (fun p args m v m' h => rndA_ok ok (evCall_ok ok hs ht d) h)

theorem evCall_any {C : Cx} {G : Nat → Nat} {w0 : World} (ok : C.Fine G w0) {kn : Kn} (hs : KnOK G w0 C.P kn) {tab : List Ent} (ht : TabOK G w0 C.P tab) {rounds : Nat} : ∀ d f args m b v m', (evCall C kn tab rounds d).fn f args m = some (b, v, m') → AnyOK G w0 C.P f args m b v m'
  | 0, f, args, m, b, v, m', h => by cases h
  | d + 1, f, args, m, b, v, m', h => evFn_any ok hs ht (evCall_ok ok hs ht d) f args m b v m' h

/-- An entry, by a run in the kernel. -/
theorem ent_ok {C : Cx} {G : Nat → Nat} {w0 : World} (ok : C.Fine G w0) {kn : Kn} (hs : KnOK G w0 C.P kn) {tab : List Ent} (ht : TabOK G w0 C.P tab) {rounds d : Nat} {e : Ent} (h : chk e ((evCall C kn tab rounds d).fn e.f e.args e.m) = true) : EntOK G w0 C.P e :=
  chk_ok (evCall_any ok hs ht d) h

theorem KnOK.none {G : Nat → Nat} {w0 : World} {P : Program} : KnOK G w0 P ⟨fun _ => Option.none, fun _ => Option.none, fun _ => Option.none⟩ := ⟨fun f k g kt h => (by cases h), fun f k args v h => (by cases h), fun f k es v h => (by cases h)⟩

theorem TabOK.nil {G : Nat → Nat} {w0 : World} {P : Program} : TabOK G w0 P [] := fun _ h => absurd h List.not_mem_nil
theorem TabOK.cons {G : Nat → Nat} {w0 : World} {P : Program} {e : Ent} {tab : List Ent} (h : EntOK G w0 P e) (ht : TabOK G w0 P tab) : TabOK G w0 P (e :: tab) := fun q hq => by
  rcases List.mem_cons.1 hq with rfl | h'
  · exact h
  · exact ht q h'
end
end Go.Ev
set_option linter.unusedVariables false
set_option linter.unusedSimpArgs false
namespace Go.Ev
open Go.RowKit
noncomputable section

def isTrue : Option (Bool × AV × Mem) → Bool
  | some (true, .bool true, _) => true
  | _ => false

theorem isTrue_iff {x : Option (Bool × AV × Mem)} (h : isTrue x = true) : ∃ m, x = some (true, .bool true, m) := by
  unfold isTrue at h
  split at h
  · exact ⟨_, rfl⟩
  · cases h

theorem RelH.start {G : Nat → Nat} {w : World} : RelH G w (fun _ => none) .leaf .h w where
  obj p o h := by simp [T.get_leaf] at h
  inj p q o o' b κ κ' h := by simp [T.get_leaf] at h
  fresh _ _ := rfl
  low _ _ := rfl
  os := rfl
  tape := rfl
  output := rfl
  size := Nat.le_refl _

/-- A closed run that answers true. -/
theorem closed_run {C : Cx} {G : Nat → Nat} {w : World} (ok : C.Fine G w) {kn : Kn} (hs : KnOK G w C.P kn) {tab : List Ent} (ht : TabOK G w C.P tab) {rounds d f : Nat} (h : isTrue ((evCall C kn tab rounds d).fn f [] ⟨.leaf, .h⟩) = true) :
    Calls C.P f #[] w fun e w' => e = .returned (.bool true) ∧ Below w.heap.size w w' := by
  obtain ⟨m, hm⟩ := isTrue_iff h
  refine ((evCall_ok ok hs ht d).ret f [] ⟨.leaf, .h⟩ _ m hm _ w [] rfl RelH.start).mono fun e w' ⟨ρ', x, he, hx, hr, hf⟩ => ?_
  simp only [den, Option.some.injEq] at hx
  subst hx
  exact ⟨he, ⟨hr.os, hr.tape, hr.output, hr.size, hr.low⟩⟩
end
end Go.Ev

set_option linter.unusedVariables false
namespace Go.Ev
open Go Go.RowKit
noncomputable section

/- ### From the rows' conditions to what the evaluator may read -/
def CellIs (W : World) (g off : Nat) (v : AV) : Prop := ∃ x, (∀ (G : Nat → Nat) (ρ : Env), den G ρ v = some x) ∧ W.cell? ⟨g, off, none⟩ = some x ∧ g < W.heap.size

theorem lt_of_cell {W : World} {g off : Nat} {x : Value} (h : W.cell? ⟨g, off, none⟩ = some x) : g < W.heap.size := by
  rcases Nat.lt_or_ge g W.heap.size with h' | h'
  · exact h'
  · simp [World.cell?, Array.getElem?_eq_none h'] at h

theorem tab_cell {P : Program} {W : World} {name : String} {k : IntKind} {zs : List Int} {g : Nat} (hg : P.globalNamed name = some g) (h : Lib.TabIs P W name k zs) {off : Nat} {v : AV}
    (hn : nth (zs.map (AV.int k)) off = some v) : CellIs W g off v := by
  rw [nth_eq, List.getElem?_map, Option.map_eq_some_iff] at hn
  obtain ⟨z, hz, rfl⟩ := hn
  have := World.var?_cell hg h off
  have hc : W.cell? ⟨g, off, none⟩ = some (.int k z) := by rw [this]; simp [hz]
  exact ⟨_, fun _ _ => rfl, hc, lt_of_cell hc⟩

def strAV (l : List UInt8) : AV := .str l.length (pack l)

def StrsIs (P : Program) (w : World) (name : String) (ls : List (List UInt8)) : Prop := w.var? P name = some (ls.map fun l => Value.string ⟨l.toArray⟩).toArray

theorem str_cell {P : Program} {W : World} {name : String} {ls : List (List UInt8)} {g : Nat} (hg : P.globalNamed name = some g) (h : StrsIs P W name ls) {off : Nat} {v : AV}
    (hn : nth (ls.map strAV) off = some v) : CellIs W g off v := by
  rw [nth_eq, List.getElem?_map, Option.map_eq_some_iff] at hn
  obtain ⟨z, hz, rfl⟩ := hn
  have := World.var?_cell hg h off
  have hc : W.cell? ⟨g, off, none⟩ = some (.string ⟨z.toArray⟩) := by rw [this]; simp [hz]
  exact ⟨_, fun _ _ => by simp [strAV, den, mkB, bytesL_pack], hc, lt_of_cell hc⟩

theorem cells_of_strs {H : Type} {enc : TypeId × Value → H} {P : Program} {w : World} {base : Nat} {sp : Nat → Bool} {held : Bool} {fuel : Nat} {t e : TypeId} {n : Nat} {cs : List Value} {ls : List (List UInt8)} {p : List MemPlace}
    (ht : P.underlying t = some (.array n e)) (he : P.underlying e = some .string) (hce : P.cellsOf e = 1) (hct : P.cellsOf t = n)
    (h : DataW.trod enc P w base sp held fuel t cs = some (.agg (ls.map fun l => .lit (.string l)), p)) : cs = ls.map fun l => Value.string ⟨l.toArray⟩ := by
  cases fuel with
  | zero => simp [DataW.trod] at h
  | succ fuel =>
    simp only [DataW.trod, ht, hce, hct, Nat.mul_one] at h
    split at h
    · rename_i hl
      obtain ⟨xs, hm, hx⟩ := Option.map_eq_some_iff.1 h
      have hxs : xs.map (·.1) = ls.map fun l => (DataW.lit (.string l) : DataW H) := by
        have := congrArg Prod.fst hx
        simpa using this
      have hxl : xs.length = n := by simpa using Lib.mapM_length hm
      have hzl : ls.length = n := by
        have := congrArg List.length hxs
        simp at this
        omega
      apply List.ext_getElem?
      intro i
      by_cases hi : i < n
      · obtain ⟨b, hb, hf⟩ := Lib.mapM_at hm i i (by simp [hi])
        obtain ⟨z, hc, rfl, _⟩ := DataW.trod_string he hf
        have h1 : cs[i]? = some (.string z) := by
          have := congrArg (·[0]?) hc
          simpa [List.getElem?_take, List.getElem?_drop] using this
        have h2 : (xs.map (·.1))[i]? = some (DataW.lit (.string z.data.toList) : DataW H) := by simp [hb]
        rw [hxs] at h2
        simp only [List.getElem?_map, Option.map_eq_some_iff, DataW.lit.injEq, Lit.string.injEq] at h2
        obtain ⟨z', hz', rfl⟩ := h2
        simp [h1, hz']
      · rw [List.getElem?_eq_none (by omega), List.getElem?_eq_none (by simp; omega)]
    · cases h

theorem strs_of_head {P : Program} {W : World} {name : String} {ls : List (List UInt8)} {rest : List (String × DataW Unit)} {g : Nat} {t e : TypeId} {n : Nat}
    (hg : P.globalNamed name = some g) (hty : (P.globals[g]?).map (·.type) = some t) (ht : P.underlying t = some (.array n e)) (he : P.underlying e = some .string) (hce : P.cellsOf e = 1) (hct : P.cellsOf t = n)
    (h : laidMet P ((name, .agg (ls.map fun l => .lit (.string l))) :: rest) W) : StrsIs P W name ls := by
  obtain ⟨ps, ⟨g', t', cs, fuel, p, q, hg', ht', hvar, hd, _, _⟩, _⟩ := h
  obtain rfl := Option.some.inj (hg.symm.trans hg')
  obtain rfl := Option.some.inj (hty.symm.trans ht')
  unfold StrsIs
  rw [hvar, ← cells_of_strs ht he hce hct hd]

/-- Where the sentinels lie: for sentinel i (from 100 on), its address. -/
def Gs (l : List (Nat × Nat)) (n : Nat) : Nat :=
  if n < 100 then n else if n < 1000000 then (l[n - 100]?.map (·.1)).getD 0 else if n < 1000100 then 0 else (l[n - 1000100]?.map (·.2)).getD 0

theorem Gs_glob (l : List (Nat × Nat)) {g : Nat} (h : g < 100) : Gs l g = g ∧ Gs l (1000000 + g) = 0 := by
  unfold Gs
  rw [if_pos h, if_neg (by omega), if_neg (by omega), if_pos (by omega)]
  exact ⟨rfl, rfl⟩

theorem Gs_at (l : List (Nat × Nat)) {i : Nat} (hi : i < 1000) {b o : Nat} (h : l[i]? = some (b, o)) : Gs l (100 + i) = b ∧ Gs l (1000000 + (100 + i)) = o := by
  unfold Gs
  rw [if_neg (by omega), if_pos (by omega), if_neg (by omega), if_neg (by omega), if_neg (by omega)]
  rw [show 100 + i - 100 = i from by omega, show 1000000 + (100 + i) - 1000100 = i from by omega, h]
  exact ⟨rfl, rfl⟩

theorem glob_cell {G : Nat → Nat} {W : World} {g off : Nat} {v : AV} (hG : G g = g ∧ G (1000000 + g) = 0) (h : CellIs W g off v) :
    ∃ x, (∀ ρ, den G ρ v = some x) ∧ W.cell? ⟨G g, G (1000000 + g) + off, none⟩ = some x ∧ G g < W.heap.size := by
  obtain ⟨x, h1, h2, h3⟩ := h
  rw [hG.1, hG.2, Nat.zero_add]
  exact ⟨x, h1 G, h2, h3⟩

/-- A sentinel. -/
theorem sent_cell {P : Program} {W : World} {name : String} {tp : TypeId} {b o g : Nat} (hg : P.globalNamed name = some g) (hv : W.var? P name = some #[.iface tp (.pointer (some ⟨b, o, none⟩))])
    {G : Nat → Nat} {i : Nat} (hG : G g = g ∧ G (1000000 + g) = 0) (hi : G (100 + i) = b ∧ G (1000000 + (100 + i)) = o) {off : Nat} {v : AV} (hn : nth [AV.iface tp (.gptr (100 + i) 0)] off = some v) :
    ∃ x, (∀ ρ, den G ρ v = some x) ∧ W.cell? ⟨G g, G (1000000 + g) + off, none⟩ = some x ∧ G g < W.heap.size := by
  rw [nth_eq] at hn
  cases off with
  | succ _ => simp at hn
  | zero =>
    simp only [List.getElem?_cons_zero, Option.some.injEq] at hn
    subst hn
    have hc : W.cell? ⟨g, 0, none⟩ = some (.iface tp (.pointer (some ⟨b, o, none⟩))) := by rw [World.var?_cell hg hv 0]; rfl
    rw [hG.1, hG.2]
    refine ⟨_, fun ρ => by simp [den, hi.1, hi.2], hc, lt_of_cell hc⟩

/-- Where a sentinel is. -/
theorem sent_at {P : Program} {n nm : String} {text : List UInt8} {r : List (String × DataW Unit)} {W : World} {g : Nat} {ti tp te ts : TypeId} {ms : Array (String × TypeId)} {f : Field}
    (h : laidMet P ((n, .iface nm (.ptr (.agg [.lit (.string text)]))) :: r) W)
    (hg : P.globalNamed n = some g) (ht : (P.globals[g]?).map (·.type) = some ti) (hi : P.underlying ti = some (.interface ms)) (hrow : ∀ u, P.typeName? 3 u = some nm → u = tp)
    (hp : P.underlying tp = some (.pointer te)) (he : P.underlying te = some (.struct #[f])) (hft : f.type = ts) (hfo : f.offset = 0) (hs : P.underlying ts = some .string) (hc : P.cellsOf te = 1) (hcs : P.cellsOf ts = 1) :
    ∃ b o, W.var? P n = some #[.iface tp (.pointer (some ⟨b, o, none⟩))] := by
  obtain ⟨a, s, h1, h2, _, _⟩ := laid_sentinel h hg ht hi hrow hp he hft hfo hs hc hcs
  obtain ⟨b, o, spot⟩ := a
  have hspot : spot = none := World.cell?_spot h2
  subst hspot
  exact ⟨b, o, h1⟩
end
end Go.Ev
