/-
  A listed variable of an interface type holds an interface value.
-/
import Derived.LaidLaws
import Derived.Stop.LaidErr
import Derived.Test.YtbfoocginkdmcaaGreatDoorWG
import Derived.Test.YtbfoocginkdmcaaGreatDoorKN
import Derived.Test.YtbfoocginkdmcaaGreatDoorKNM
import Derived.Test.YtbfoocginkdmcaaGreatDoorLT
import Derived.Test.YtbfoocginkdmcaaGreatDoorRows
import Derived.LaidMore

set_option linter.unusedVariables false
namespace Go.Ev
open Go Go.RowKit

theorem trod_iface {H : Type} {enc : TypeId × Value → H} {P : Program} {w : World} {base : Nat} {sp : Nat → Bool} {held : Bool} {fuel : Nat} {t : TypeId} {ms : Array (String × TypeId)} {cs : List Value} {nm : String} {d : DataW H} {q : List MemPlace}
    (ht : P.underlying t = some (.interface ms)) (h : DataW.trod enc P w base sp held fuel t cs = some (.iface nm d, q)) : ∃ u v, cs = [.iface u v] := by
  cases fuel with
  | zero => simp [DataW.trod] at h
  | succ n =>
    unfold DataW.trod at h
    rw [ht] at h
    split at h
    all_goals first
      | (rename_i e1 _; cases e1; done)
      | (rename_i e1; cases e1; done)
      | (cases h; done)
      | exact ⟨_, _, rfl⟩
      | simp_all

theorem laid_cell {P : Program} {n nm : String} {d : DataW Unit} {r : List (String × DataW Unit)} {W : World} {g : Nat} {ti : TypeId} {ms : Array (String × TypeId)}
    (hg : P.globalNamed n = some g) (ht : (P.globals[g]?).map (·.type) = some ti) (hi : P.underlying ti = some (.interface ms)) (h : laidMet P ((n, .iface nm d) :: r) W) : ∃ u v, W.cell? ⟨g, 0, none⟩ = some (.iface u v) := by
  obtain ⟨ps, ⟨g0, t0, cs0, f0, p0, q0, hg0, ht0, hv0, hd0, _, e0⟩, _, hrows⟩ := h
  obtain rfl := Option.some.inj (hg.symm.trans hg0)
  obtain rfl := Option.some.inj (ht.symm.trans ht0)
  obtain ⟨l0⟩ := cs0
  obtain ⟨u, v, e⟩ := trod_iface hi hd0
  have e' : l0 = [.iface u v] := e
  subst e'
  exact ⟨u, v, by simpa using World.var?_cell hg0 hv0 0⟩
end Go.Ev

/-
  What the rows' conditions give the evaluator: the package-level variables that the run reads, and where the sentinels lie.
-/

set_option linter.unusedVariables false
set_option maxRecDepth 100000
namespace Go.Proofs.YtbfoocginkdmcaaGreatDoor
open Go Go.Ev Go.RowKit
def z2 : List Int := [1, 10, 100, 1000, 10000, 100000, 1000000, 10000000, 100000000, 1000000000, 10000000000, 100000000000, 1000000000000, 10000000000000, 100000000000000, 1000000000000000, 10000000000000000, 100000000000000000, 1000000000000000000, 10000000000000000000]
theorem tab2_eq : tab2 = z2.map (AV.int .u64) := rfl
def s8 : List (List UInt8) := [[110, 117, 108, 108], [102, 97, 108, 115, 101], [116, 114, 117, 101]]
theorem tab8_eq : tab8 = s8.map strAV := by kernel_rfl
def z11 : List Int := [1779033703, 3144134277, 1013904242, 2773480762, 1359893119, 2600822924, 528734635, 1541459225]
theorem tab11_eq : tab11 = z11.map (AV.int .u32) := rfl
def z12 : List Int := [1116352408, 1899447441, 3049323471, 3921009573, 961987163, 1508970993, 2453635748, 2870763221, 3624381080, 310598401, 607225278, 1426881987, 1925078388, 2162078206, 2614888103, 3248222580, 3835390401, 4022224774, 264347078, 604807628, 770255983, 1249150122, 1555081692, 1996064986, 2554220882, 2821834349, 2952996808, 3210313671, 3336571891, 3584528711, 113926993, 338241895, 666307205, 773529912, 1294757372, 1396182291, 1695183700, 1986661051, 2177026350, 2456956037, 2730485921, 2820302411, 3259730800, 3345764771, 3516065817, 3600352804, 4094571909, 275423344, 430227734, 506948616, 659060556, 883997877, 958139571, 1322822218, 1537002063, 1747873779, 1955562222, 2024104815, 2227730452, 2361852424, 2428436474, 2756734187, 3204031479, 3329325298]
theorem tab12_eq : tab12 = z12.map (AV.int .u32) := rfl
def z13 : List Int := [0, 498536548, 997073096, 651767980, 1994146192, 1802195444, 1303535960, 1342533948, 3988292384, 4027552580, 3604390888, 3412177804, 2607071920, 2262029012, 2685067896, 3183342108]
theorem tab13_eq : tab13 = z13.map (AV.int .u32) := rfl

structure Known (W : World) : Prop where
  k0 : LitsIs Tryz.prog W "wicket/grant.ends" tab0
  k2 : Lib.TabIs Tryz.prog W "internal/strconv.uint64pow10" .u64 z2
  k7 : LitsIs Tryz.prog W "wicket/token.bounds" tab7
  k8 : StrsIs Tryz.prog W "wicket/jtext.words" s8
  k11 : Lib.TabIs Tryz.prog W "wicket/digest.first" .u32 z11
  k12 : Lib.TabIs Tryz.prog W "wicket/digest.roots" .u32 z12
  k13 : Lib.TabIs Tryz.prog W "wicket/frame.sums" .u32 z13
  km : ∃ m, W.cell? ⟨1, 0, none⟩ = some (.int .i64 m)

theorem ext110 (args : Array Value) (w : World) : (callFunc 110 args).run Tryz.prog w = ((Extern.AbiNoEscape.same args).run Tryz.prog w).andThen fun v w' => .ok (.value v) w' :=
  run_callFunc_extern Tryz.func110 (by kernel_rfl) (by kernel_rfl) (by kernel_rfl) (by kernel_rfl) args w
theorem ext278 (args : Array Value) (w : World) : (callFunc 278 args).run Tryz.prog w = ((Extern.BytealgIndexByte.indexByte args).run Tryz.prog w).andThen fun v w' => .ok (.value v) w' :=
  run_callFunc_extern Tryz.func278 (by kernel_rfl) (by kernel_rfl) (by kernel_rfl) (by kernel_rfl) args w
theorem ext116 (args : Array Value) (w : World) : (callFunc 116 args).run Tryz.prog w = ((Extern.BytealgCount.count args).run Tryz.prog w).andThen fun v w' => .ok (.value v) w' :=
  run_callFunc_extern Tryz.func116 (by kernel_rfl) (by kernel_rfl) (by kernel_rfl) (by kernel_rfl) args w
theorem ext128 (args : Array Value) (w : World) : (callFunc 128 args).run Tryz.prog w = ((Extern.MapsClone.clone args).run Tryz.prog w).andThen fun v w' => .ok (.value v) w' :=
  run_callFunc_extern Tryz.func128 (by kernel_rfl) (by kernel_rfl) (by kernel_rfl) (by kernel_rfl) args w

theorem cx_fine {W : World} (K : Known W) : ∃ G, cx.Fine G W := by
  refine ⟨Gs [], ?_⟩
  exact {
    glob := fun g hg => Gs_glob _ hg
    cell := fun g off v hg => by
      have hg' : gcF g off = some v := hg
      unfold gcF at hg'
      cases c0 : Nat.beq g 0 with
      | true =>
        obtain rfl := Nat.eq_of_beq_eq_true c0
        rw [c0] at hg'
        exact glob_cell (Gs_glob _ (by omega)) (lits_cell (by kernel_rfl) K.k0 hg')
      | false =>
      rw [c0] at hg'
      cases c2 : Nat.beq g 2 with
      | true =>
        obtain rfl := Nat.eq_of_beq_eq_true c2
        rw [c2] at hg'
        exact glob_cell (Gs_glob _ (by omega)) (tab_cell (by kernel_rfl) K.k2 (by rw [← tab2_eq]; exact hg'))
      | false =>
      rw [c2] at hg'
      cases c7 : Nat.beq g 7 with
      | true =>
        obtain rfl := Nat.eq_of_beq_eq_true c7
        rw [c7] at hg'
        exact glob_cell (Gs_glob _ (by omega)) (lits_cell (by kernel_rfl) K.k7 hg')
      | false =>
      rw [c7] at hg'
      cases c8 : Nat.beq g 8 with
      | true =>
        obtain rfl := Nat.eq_of_beq_eq_true c8
        rw [c8] at hg'
        exact glob_cell (Gs_glob _ (by omega)) (str_cell (by kernel_rfl) K.k8 (by rw [← tab8_eq]; exact hg'))
      | false =>
      rw [c8] at hg'
      cases c11 : Nat.beq g 11 with
      | true =>
        obtain rfl := Nat.eq_of_beq_eq_true c11
        rw [c11] at hg'
        exact glob_cell (Gs_glob _ (by omega)) (tab_cell (by kernel_rfl) K.k11 (by rw [← tab11_eq]; exact hg'))
      | false =>
      rw [c11] at hg'
      cases c12 : Nat.beq g 12 with
      | true =>
        obtain rfl := Nat.eq_of_beq_eq_true c12
        rw [c12] at hg'
        exact glob_cell (Gs_glob _ (by omega)) (tab_cell (by kernel_rfl) K.k12 (by rw [← tab12_eq]; exact hg'))
      | false =>
      rw [c12] at hg'
      cases c13 : Nat.beq g 13 with
      | true =>
        obtain rfl := Nat.eq_of_beq_eq_true c13
        rw [c13] at hg'
        exact glob_cell (Gs_glob _ (by omega)) (tab_cell (by kernel_rfl) K.k13 (by rw [← tab13_eq]; exact hg'))
      | false =>
      rw [c13] at hg'
      cases hg'
    mixed := by kernel_rfl
    name := fun f fn h => beq_eq_false_iff_ne.2 (no_numgo h)
    extern := fun f k h args w => by
      have h' : extF f = some k := h
      unfold extF at h'
      cases h110 : Nat.beq f 110 with
      | true =>
        obtain rfl := Nat.eq_of_beq_eq_true h110
        simp only [h110, cond_true, Option.some.injEq] at h'
        subst h'
        exact ext110 args w
      | false =>
      simp only [h110, cond_false] at h'
      cases h278 : Nat.beq f 278 with
      | true =>
        obtain rfl := Nat.eq_of_beq_eq_true h278
        simp only [h278, cond_true, Option.some.injEq] at h'
        subst h'
        exact ext278 args w
      | false =>
      simp only [h278, cond_false] at h'
      cases h116 : Nat.beq f 116 with
      | true =>
        obtain rfl := Nat.eq_of_beq_eq_true h116
        simp only [h116, cond_true, Option.some.injEq] at h'
        subst h'
        exact ext116 args w
      | false =>
      simp only [h116, cond_false] at h'
      cases h128 : Nat.beq f 128 with
      | true =>
        obtain rfl := Nat.eq_of_beq_eq_true h128
        simp only [h128, cond_true, Option.some.injEq] at h'
        subst h'
        exact ext128 args w
      | false =>
      simp only [h128, cond_false] at h'
      cases h' }

/-- What the rows' condition gives. -/
theorem known_of_laid {W : World} (h : laidMetH Tryz.prog Rows.serverBackUptoRow.laid W) (hs : W.ShapedOpen Tryz.prog) : Known W := by
  rw [MakeChecks.laidMetH_plain _ _ _ (by kernel_rfl)] at h
  have t1 := h.tail
  have t2 := t1.tail
  have t3 := t2.tail
  have t4 := t3.tail
  have t5 := t4.tail
  have t6 := t5.tail
  have t7 := t6.tail
  have t8 := t7.tail
  have t9 := t8.tail
  have t10 := t9.tail
  have t11 := t10.tail
  have t12 := t11.tail
  have t13 := t12.tail
  have t14 := t13.tail
  have t15 := t14.tail
  exact {
    k0 := lits_of_head (g := 0) (t := 254) (by kernel_rfl) (by kernel_rfl) (by kernel_rfl) (by kernel_rfl) (by kernel_rfl) t15
    k2 := Lib.tabIs_of_head (g := 2) (t := 416) (e := 31) (n := 20) (by kernel_rfl) (by kernel_rfl) (by kernel_rfl) (by kernel_rfl) (by kernel_rfl) (by kernel_rfl) h
    k7 := lits_of_head (g := 7) (t := 558) (by kernel_rfl) (by kernel_rfl) (by kernel_rfl) (by kernel_rfl) (by kernel_rfl) t9
    k8 := strs_of_head (g := 8) (t := 607) (e := 9) (n := 3) (by kernel_rfl) (by kernel_rfl) (by kernel_rfl) (by kernel_rfl) (by kernel_rfl) (by kernel_rfl) t11
    k11 := Lib.tabIs_of_head (g := 11) (t := 625) (e := 417) (n := 8) (by kernel_rfl) (by kernel_rfl) (by kernel_rfl) (by kernel_rfl) (by kernel_rfl) (by kernel_rfl) t7
    k12 := Lib.tabIs_of_head (g := 12) (t := 667) (e := 417) (n := 64) (by kernel_rfl) (by kernel_rfl) (by kernel_rfl) (by kernel_rfl) (by kernel_rfl) (by kernel_rfl) t8
    k13 := Lib.tabIs_of_head (g := 13) (t := 674) (e := 417) (n := 16) (by kernel_rfl) (by kernel_rfl) (by kernel_rfl) (by kernel_rfl) (by kernel_rfl) (by kernel_rfl) t10
    km := Tryz.laysM219.s1_3 _ hs
  }
/-- The two errors' variables hold something. -/
theorem errs_of_laid {W : World} (h : laidMetH Tryz.prog Rows.serverBackUptoRow.laid W) : Errs W := by
  rw [MakeChecks.laidMetH_plain _ _ _ (by kernel_rfl)] at h
  have t5 := h.tail.tail.tail.tail.tail
  have t6 := t5.tail
  exact ⟨laid_cell (g := 5) (by kernel_rfl) (by kernel_rfl) Tryz.underlying87 t5, laid_cell (g := 6) (by kernel_rfl) (by kernel_rfl) Tryz.underlying87 t6⟩

theorem fine_below {C : Cx} {G : Nat → Nat} {w w' : World} (h : C.Fine G w) (b : Below w.heap.size w w') : C.Fine G w' where
  glob := h.glob
  cell g off v hg := by
    obtain ⟨x, h1, h2, h3⟩ := h.cell g off v hg
    refine ⟨x, h1, ?_, Nat.lt_of_lt_of_le h3 b.size⟩
    rw [← h2]
    unfold World.cell?
    rw [b.block _ h3]
  mixed := h.mixed
  name := h.name
  extern := h.extern

theorem live_below {W : World} (K : Known W) : ∀ W', Below W.heap.size W W' → Calls Tryz.prog 12 #[] W' fun e w' => e = .returned (.bool true) ∧ Below W'.heap.size W' w' := fun W' hb => by
  obtain ⟨G, hf⟩ := cx_fine K
  exact L.holds (fine_below hf hb) (kn_ok (fine_below hf hb) (cell_low K.km hb.block))
end Go.Proofs.YtbfoocginkdmcaaGreatDoor
