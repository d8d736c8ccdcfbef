/-
  What the rows' conditions give the evaluator: the package-level variables that the run reads, and where the sentinels lie.
-/
import Derived.Test.YtddldbdopenabaaGreatDoorKN
import Derived.Test.YtddldbdopenabaaGreatDoorLT
import Derived.Test.YtddldbdopenabaaGreatDoorRows
import Derived.LaidMore

set_option linter.unusedVariables false
set_option maxRecDepth 100000
namespace Go.Proofs.YtddldbdopenabaaGreatDoor
open Go Go.Ev Go.RowKit
def z2 : List Int := [1, 10, 100, 1000, 10000, 100000, 1000000, 10000000, 100000000, 1000000000, 10000000000, 100000000000, 1000000000000, 10000000000000, 100000000000000, 1000000000000000, 10000000000000000, 100000000000000000, 1000000000000000000, 10000000000000000000]
theorem tab2_eq : tab2 = z2.map (AV.int .u64) := rfl
def z4 : List Int := [1779033703, 3144134277, 1013904242, 2773480762, 1359893119, 2600822924, 528734635, 1541459225]
theorem tab4_eq : tab4 = z4.map (AV.int .u32) := rfl
def s7 : List (List UInt8) := [[110, 117, 108, 108], [102, 97, 108, 115, 101], [116, 114, 117, 101]]
theorem tab7_eq : tab7 = s7.map strAV := by kernel_rfl
def z10 : List Int := [1116352408, 1899447441, 3049323471, 3921009573, 961987163, 1508970993, 2453635748, 2870763221, 3624381080, 310598401, 607225278, 1426881987, 1925078388, 2162078206, 2614888103, 3248222580, 3835390401, 4022224774, 264347078, 604807628, 770255983, 1249150122, 1555081692, 1996064986, 2554220882, 2821834349, 2952996808, 3210313671, 3336571891, 3584528711, 113926993, 338241895, 666307205, 773529912, 1294757372, 1396182291, 1695183700, 1986661051, 2177026350, 2456956037, 2730485921, 2820302411, 3259730800, 3345764771, 3516065817, 3600352804, 4094571909, 275423344, 430227734, 506948616, 659060556, 883997877, 958139571, 1322822218, 1537002063, 1747873779, 1955562222, 2024104815, 2227730452, 2361852424, 2428436474, 2756734187, 3204031479, 3329325298]
theorem tab10_eq : tab10 = z10.map (AV.int .u32) := rfl
def z11 : List Int := [0, 498536548, 997073096, 651767980, 1994146192, 1802195444, 1303535960, 1342533948, 3988292384, 4027552580, 3604390888, 3412177804, 2607071920, 2262029012, 2685067896, 3183342108]
theorem tab11_eq : tab11 = z11.map (AV.int .u32) := rfl

structure Known (W : World) : Prop where
  k0 : LitsIs Tryz.prog W "wicket/grant.ends" tab0
  k1 : LitsIs Tryz.prog W "wicket/token.bounds" tab1
  k2 : Lib.TabIs Tryz.prog W "internal/strconv.uint64pow10" .u64 z2
  k4 : Lib.TabIs Tryz.prog W "wicket/digest.first" .u32 z4
  k7 : StrsIs Tryz.prog W "wicket/jtext.words" s7
  k10 : Lib.TabIs Tryz.prog W "wicket/digest.roots" .u32 z10
  k11 : Lib.TabIs Tryz.prog W "wicket/frame.sums" .u32 z11
  km : ∃ m, W.cell? ⟨3, 0, none⟩ = some (.int .i64 m)

theorem no_numgo : (Tryz.prog.funcs.all fun fn => !(fn.name == "runtime.NumGoroutine")) = true := by kernel_rfl
theorem ext171 (args : Array Value) (w : World) : (callFunc 171 args).run Tryz.prog w = ((Extern.AbiNoEscape.same args).run Tryz.prog w).andThen fun v w' => .ok (.value v) w' :=
  run_callFunc_extern Tryz.func171 (by kernel_rfl) (by kernel_rfl) (by kernel_rfl) (by kernel_rfl) args w
theorem ext340 (args : Array Value) (w : World) : (callFunc 340 args).run Tryz.prog w = ((Extern.BytealgIndexByte.indexByte args).run Tryz.prog w).andThen fun v w' => .ok (.value v) w' :=
  run_callFunc_extern Tryz.func340 (by kernel_rfl) (by kernel_rfl) (by kernel_rfl) (by kernel_rfl) args w
theorem ext267 (args : Array Value) (w : World) : (callFunc 267 args).run Tryz.prog w = ((Extern.BytealgCount.count args).run Tryz.prog w).andThen fun v w' => .ok (.value v) w' :=
  run_callFunc_extern Tryz.func267 (by kernel_rfl) (by kernel_rfl) (by kernel_rfl) (by kernel_rfl) args w
theorem ext56 (args : Array Value) (w : World) : (callFunc 56 args).run Tryz.prog w = ((Extern.MapsClone.clone args).run Tryz.prog w).andThen fun v w' => .ok (.value v) w' :=
  run_callFunc_extern Tryz.func56 (by kernel_rfl) (by kernel_rfl) (by kernel_rfl) (by kernel_rfl) args w

theorem cx_fine {W : World} (K : Known W) : ∃ G, cx.Fine G W := by
  refine ⟨Gs [], ?_⟩
  exact {
    glob := fun g hg => Gs_glob _ hg
    cell := fun g off v hg => by
      have hg' : gcF g off = some v := hg
      unfold gcF at hg'
      cases c0 : Nat.beq g 0 with
      | true =>
        obtain rfl := Nat.eq_of_beq_eq_true c0
        rw [c0] at hg'
        exact glob_cell (Gs_glob _ (by omega)) (lits_cell (by kernel_rfl) K.k0 hg')
      | false =>
      rw [c0] at hg'
      cases c1 : Nat.beq g 1 with
      | true =>
        obtain rfl := Nat.eq_of_beq_eq_true c1
        rw [c1] at hg'
        exact glob_cell (Gs_glob _ (by omega)) (lits_cell (by kernel_rfl) K.k1 hg')
      | false =>
      rw [c1] at hg'
      cases c2 : Nat.beq g 2 with
      | true =>
        obtain rfl := Nat.eq_of_beq_eq_true c2
        rw [c2] at hg'
        exact glob_cell (Gs_glob _ (by omega)) (tab_cell (by kernel_rfl) K.k2 (by rw [← tab2_eq]; exact hg'))
      | false =>
      rw [c2] at hg'
      cases c4 : Nat.beq g 4 with
      | true =>
        obtain rfl := Nat.eq_of_beq_eq_true c4
        rw [c4] at hg'
        exact glob_cell (Gs_glob _ (by omega)) (tab_cell (by kernel_rfl) K.k4 (by rw [← tab4_eq]; exact hg'))
      | false =>
      rw [c4] at hg'
      cases c7 : Nat.beq g 7 with
      | true =>
        obtain rfl := Nat.eq_of_beq_eq_true c7
        rw [c7] at hg'
        exact glob_cell (Gs_glob _ (by omega)) (str_cell (by kernel_rfl) K.k7 (by rw [← tab7_eq]; exact hg'))
      | false =>
      rw [c7] at hg'
      cases c10 : Nat.beq g 10 with
      | true =>
        obtain rfl := Nat.eq_of_beq_eq_true c10
        rw [c10] at hg'
        exact glob_cell (Gs_glob _ (by omega)) (tab_cell (by kernel_rfl) K.k10 (by rw [← tab10_eq]; exact hg'))
      | false =>
      rw [c10] at hg'
      cases c11 : Nat.beq g 11 with
      | true =>
        obtain rfl := Nat.eq_of_beq_eq_true c11
        rw [c11] at hg'
        exact glob_cell (Gs_glob _ (by omega)) (tab_cell (by kernel_rfl) K.k11 (by rw [← tab11_eq]; exact hg'))
      | false =>
      rw [c11] at hg'
      cases hg'
    mixed := by kernel_rfl
    name := fun f fn h => by
      obtain ⟨h1, h2⟩ := Array.getElem?_eq_some_iff.1 (show Tryz.prog.funcs[f]? = some fn from h)
      have := Array.all_eq_true.1 no_numgo f h1
      rw [h2] at this
      simpa using this
    extern := fun f k h args w => by
      have h' : extF f = some k := h
      unfold extF at h'
      cases h171 : Nat.beq f 171 with
      | true =>
        obtain rfl := Nat.eq_of_beq_eq_true h171
        simp only [h171, cond_true, Option.some.injEq] at h'
        subst h'
        exact ext171 args w
      | false =>
      simp only [h171, cond_false] at h'
      cases h340 : Nat.beq f 340 with
      | true =>
        obtain rfl := Nat.eq_of_beq_eq_true h340
        simp only [h340, cond_true, Option.some.injEq] at h'
        subst h'
        exact ext340 args w
      | false =>
      simp only [h340, cond_false] at h'
      cases h267 : Nat.beq f 267 with
      | true =>
        obtain rfl := Nat.eq_of_beq_eq_true h267
        simp only [h267, cond_true, Option.some.injEq] at h'
        subst h'
        exact ext267 args w
      | false =>
      simp only [h267, cond_false] at h'
      cases h56 : Nat.beq f 56 with
      | true =>
        obtain rfl := Nat.eq_of_beq_eq_true h56
        simp only [h56, cond_true, Option.some.injEq] at h'
        subst h'
        exact ext56 args w
      | false =>
      simp only [h56, cond_false] at h'
      cases h' }

/-- What the rows' condition gives. -/
theorem known_of_laid {W : World} (h : laidMetH Tryz.prog Rows.serverNamesRow.laid W) (hs : W.ShapedOpen Tryz.prog) : Known W := by
  rw [MakeChecks.laidMetH_plain _ _ _ (by kernel_rfl)] at h
  have t1 := h.tail
  have t2 := t1.tail
  have t3 := t2.tail
  have t4 := t3.tail
  have t5 := t4.tail
  have t6 := t5.tail
  have t7 := t6.tail
  have t8 := t7.tail
  have t9 := t8.tail
  have t10 := t9.tail
  have t11 := t10.tail
  have t12 := t11.tail
  have t13 := t12.tail
  have t14 := t13.tail
  have t15 := t14.tail
  exact {
    k0 := lits_of_head (g := 0) (t := 257) (by kernel_rfl) (by kernel_rfl) (by kernel_rfl) (by kernel_rfl) (by kernel_rfl) t15
    k1 := lits_of_head (g := 1) (t := 448) (by kernel_rfl) (by kernel_rfl) (by kernel_rfl) (by kernel_rfl) (by kernel_rfl) t9
    k2 := Lib.tabIs_of_head (g := 2) (t := 501) (e := 33) (n := 20) (by kernel_rfl) (by kernel_rfl) (by kernel_rfl) (by kernel_rfl) (by kernel_rfl) (by kernel_rfl) t6
    k4 := Lib.tabIs_of_head (g := 4) (t := 540) (e := 502) (n := 8) (by kernel_rfl) (by kernel_rfl) (by kernel_rfl) (by kernel_rfl) (by kernel_rfl) (by kernel_rfl) t2
    k7 := strs_of_head (g := 7) (t := 594) (e := 9) (n := 3) (by kernel_rfl) (by kernel_rfl) (by kernel_rfl) (by kernel_rfl) (by kernel_rfl) (by kernel_rfl) t11
    k10 := Lib.tabIs_of_head (g := 10) (t := 610) (e := 502) (n := 64) (by kernel_rfl) (by kernel_rfl) (by kernel_rfl) (by kernel_rfl) (by kernel_rfl) (by kernel_rfl) t3
    k11 := Lib.tabIs_of_head (g := 11) (t := 617) (e := 502) (n := 16) (by kernel_rfl) (by kernel_rfl) (by kernel_rfl) (by kernel_rfl) (by kernel_rfl) (by kernel_rfl) t10
    km := Tryz.laysM219.s1_3 _ hs
  }
theorem names_true {W : World} (K : Known W) : Calls Tryz.prog 3 #[] W fun e w' => e = .returned (.bool true) ∧ Below W.heap.size W w' := by
  obtain ⟨G, hf⟩ := cx_fine K
  exact L.holds hf (kn_ok hf K.km)
end Go.Proofs.YtddldbdopenabaaGreatDoor
