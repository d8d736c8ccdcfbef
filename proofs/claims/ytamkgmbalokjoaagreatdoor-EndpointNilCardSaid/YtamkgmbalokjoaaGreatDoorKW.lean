/-
  What the rows' conditions give the evaluator: the package-level variables that the run reads, and where the sentinels lie.
-/
import Derived.Test.YtamkgmbalokjoaaGreatDoorKN
import Derived.Test.YtamkgmbalokjoaaGreatDoorLT
import Derived.Test.YtamkgmbalokjoaaGreatDoorRows
import Derived.LaidMore

set_option linter.unusedVariables false
set_option maxRecDepth 100000
namespace Go.Proofs.YtamkgmbalokjoaaGreatDoor
open Go Go.Ev Go.RowKit
def s2 : List (List UInt8) := [[110, 117, 108, 108], [102, 97, 108, 115, 101], [116, 114, 117, 101]]
theorem tab2_eq : tab2 = s2.map strAV := by kernel_rfl
def z6 : List Int := [1779033703, 3144134277, 1013904242, 2773480762, 1359893119, 2600822924, 528734635, 1541459225]
theorem tab6_eq : tab6 = z6.map (AV.int .u32) := rfl
def z9 : List Int := [1, 10, 100, 1000, 10000, 100000, 1000000, 10000000, 100000000, 1000000000, 10000000000, 100000000000, 1000000000000, 10000000000000, 100000000000000, 1000000000000000, 10000000000000000, 100000000000000000, 1000000000000000000, 10000000000000000000]
theorem tab9_eq : tab9 = z9.map (AV.int .u64) := rfl
def z10 : List Int := [1116352408, 1899447441, 3049323471, 3921009573, 961987163, 1508970993, 2453635748, 2870763221, 3624381080, 310598401, 607225278, 1426881987, 1925078388, 2162078206, 2614888103, 3248222580, 3835390401, 4022224774, 264347078, 604807628, 770255983, 1249150122, 1555081692, 1996064986, 2554220882, 2821834349, 2952996808, 3210313671, 3336571891, 3584528711, 113926993, 338241895, 666307205, 773529912, 1294757372, 1396182291, 1695183700, 1986661051, 2177026350, 2456956037, 2730485921, 2820302411, 3259730800, 3345764771, 3516065817, 3600352804, 4094571909, 275423344, 430227734, 506948616, 659060556, 883997877, 958139571, 1322822218, 1537002063, 1747873779, 1955562222, 2024104815, 2227730452, 2361852424, 2428436474, 2756734187, 3204031479, 3329325298]
theorem tab10_eq : tab10 = z10.map (AV.int .u32) := rfl
def z11 : List Int := [0, 498536548, 997073096, 651767980, 1994146192, 1802195444, 1303535960, 1342533948, 3988292384, 4027552580, 3604390888, 3412177804, 2607071920, 2262029012, 2685067896, 3183342108]
theorem tab11_eq : tab11 = z11.map (AV.int .u32) := rfl

structure Known (W : World) : Prop where
  k0 : LitsIs Tryz.prog W "wicket/grant.ends" tab0
  k2 : StrsIs Tryz.prog W "wicket/jtext.words" s2
  k3 : LitsIs Tryz.prog W "wicket/token.bounds" tab3
  k6 : Lib.TabIs Tryz.prog W "wicket/digest.first" .u32 z6
  k9 : Lib.TabIs Tryz.prog W "internal/strconv.uint64pow10" .u64 z9
  k10 : Lib.TabIs Tryz.prog W "wicket/digest.roots" .u32 z10
  k11 : Lib.TabIs Tryz.prog W "wicket/frame.sums" .u32 z11
  km : ∃ m, W.cell? ⟨1, 0, none⟩ = some (.int .i64 m)

theorem no_numgo : (Tryz.prog.funcs.all fun fn => !(fn.name == "runtime.NumGoroutine")) = true := by kernel_rfl
theorem ext394 (args : Array Value) (w : World) : (callFunc 394 args).run Tryz.prog w = ((Extern.AbiNoEscape.same args).run Tryz.prog w).andThen fun v w' => .ok (.value v) w' :=
  run_callFunc_extern Tryz.func394 (by kernel_rfl) (by kernel_rfl) (by kernel_rfl) (by kernel_rfl) args w
theorem ext162 (args : Array Value) (w : World) : (callFunc 162 args).run Tryz.prog w = ((Extern.BytealgIndexByte.indexByte args).run Tryz.prog w).andThen fun v w' => .ok (.value v) w' :=
  run_callFunc_extern Tryz.func162 (by kernel_rfl) (by kernel_rfl) (by kernel_rfl) (by kernel_rfl) args w
theorem ext306 (args : Array Value) (w : World) : (callFunc 306 args).run Tryz.prog w = ((Extern.BytealgCount.count args).run Tryz.prog w).andThen fun v w' => .ok (.value v) w' :=
  run_callFunc_extern Tryz.func306 (by kernel_rfl) (by kernel_rfl) (by kernel_rfl) (by kernel_rfl) args w
theorem ext153 (args : Array Value) (w : World) : (callFunc 153 args).run Tryz.prog w = ((Extern.MapsClone.clone args).run Tryz.prog w).andThen fun v w' => .ok (.value v) w' :=
  run_callFunc_extern Tryz.func153 (by kernel_rfl) (by kernel_rfl) (by kernel_rfl) (by kernel_rfl) args w

theorem cx_fine {W : World} (K : Known W) : ∃ G, cx.Fine G W := by
  refine ⟨Gs [], ?_⟩
  exact {
    glob := fun g hg => Gs_glob _ hg
    cell := fun g off v hg => by
      have hg' : gcF g off = some v := hg
      unfold gcF at hg'
      cases c0 : Nat.beq g 0 with
      | true =>
        obtain rfl := Nat.eq_of_beq_eq_true c0
        rw [c0] at hg'
        exact glob_cell (Gs_glob _ (by omega)) (lits_cell (by kernel_rfl) K.k0 hg')
      | false =>
      rw [c0] at hg'
      cases c2 : Nat.beq g 2 with
      | true =>
        obtain rfl := Nat.eq_of_beq_eq_true c2
        rw [c2] at hg'
        exact glob_cell (Gs_glob _ (by omega)) (str_cell (by kernel_rfl) K.k2 (by rw [← tab2_eq]; exact hg'))
      | false =>
      rw [c2] at hg'
      cases c3 : Nat.beq g 3 with
      | true =>
        obtain rfl := Nat.eq_of_beq_eq_true c3
        rw [c3] at hg'
        exact glob_cell (Gs_glob _ (by omega)) (lits_cell (by kernel_rfl) K.k3 hg')
      | false =>
      rw [c3] at hg'
      cases c6 : Nat.beq g 6 with
      | true =>
        obtain rfl := Nat.eq_of_beq_eq_true c6
        rw [c6] at hg'
        exact glob_cell (Gs_glob _ (by omega)) (tab_cell (by kernel_rfl) K.k6 (by rw [← tab6_eq]; exact hg'))
      | false =>
      rw [c6] at hg'
      cases c9 : Nat.beq g 9 with
      | true =>
        obtain rfl := Nat.eq_of_beq_eq_true c9
        rw [c9] at hg'
        exact glob_cell (Gs_glob _ (by omega)) (tab_cell (by kernel_rfl) K.k9 (by rw [← tab9_eq]; exact hg'))
      | false =>
      rw [c9] at hg'
      cases c10 : Nat.beq g 10 with
      | true =>
        obtain rfl := Nat.eq_of_beq_eq_true c10
        rw [c10] at hg'
        exact glob_cell (Gs_glob _ (by omega)) (tab_cell (by kernel_rfl) K.k10 (by rw [← tab10_eq]; exact hg'))
      | false =>
      rw [c10] at hg'
      cases c11 : Nat.beq g 11 with
      | true =>
        obtain rfl := Nat.eq_of_beq_eq_true c11
        rw [c11] at hg'
        exact glob_cell (Gs_glob _ (by omega)) (tab_cell (by kernel_rfl) K.k11 (by rw [← tab11_eq]; exact hg'))
      | false =>
      rw [c11] at hg'
      cases hg'
    mixed := by kernel_rfl
    name := fun f fn h => by
      obtain ⟨h1, h2⟩ := Array.getElem?_eq_some_iff.1 (show Tryz.prog.funcs[f]? = some fn from h)
      have := Array.all_eq_true.1 no_numgo f h1
      rw [h2] at this
      simpa using this
    extern := fun f k h args w => by
      have h' : extF f = some k := h
      unfold extF at h'
      cases h394 : Nat.beq f 394 with
      | true =>
        obtain rfl := Nat.eq_of_beq_eq_true h394
        simp only [h394, cond_true, Option.some.injEq] at h'
        subst h'
        exact ext394 args w
      | false =>
      simp only [h394, cond_false] at h'
      cases h162 : Nat.beq f 162 with
      | true =>
        obtain rfl := Nat.eq_of_beq_eq_true h162
        simp only [h162, cond_true, Option.some.injEq] at h'
        subst h'
        exact ext162 args w
      | false =>
      simp only [h162, cond_false] at h'
      cases h306 : Nat.beq f 306 with
      | true =>
        obtain rfl := Nat.eq_of_beq_eq_true h306
        simp only [h306, cond_true, Option.some.injEq] at h'
        subst h'
        exact ext306 args w
      | false =>
      simp only [h306, cond_false] at h'
      cases h153 : Nat.beq f 153 with
      | true =>
        obtain rfl := Nat.eq_of_beq_eq_true h153
        simp only [h153, cond_true, Option.some.injEq] at h'
        subst h'
        exact ext153 args w
      | false =>
      simp only [h153, cond_false] at h'
      cases h' }

/-- What the rows' condition gives. -/
theorem known_of_laid {W : World} (h : laidMetH Tryz.prog Rows.endpointNilRow.laid W) (hs : W.ShapedOpen Tryz.prog) : Known W := by
  rw [MakeChecks.laidMetH_plain _ _ _ (by kernel_rfl)] at h
  have t1 := h.tail
  have t2 := t1.tail
  have t3 := t2.tail
  have t4 := t3.tail
  have t5 := t4.tail
  have t6 := t5.tail
  have t7 := t6.tail
  have t8 := t7.tail
  have t9 := t8.tail
  have t10 := t9.tail
  have t11 := t10.tail
  have t12 := t11.tail
  have t13 := t12.tail
  have t14 := t13.tail
  have t15 := t14.tail
  exact {
    k0 := lits_of_head (g := 0) (t := 213) (by kernel_rfl) (by kernel_rfl) (by kernel_rfl) (by kernel_rfl) (by kernel_rfl) t15
    k2 := strs_of_head (g := 2) (t := 435) (e := 9) (n := 3) (by kernel_rfl) (by kernel_rfl) (by kernel_rfl) (by kernel_rfl) (by kernel_rfl) (by kernel_rfl) t11
    k3 := lits_of_head (g := 3) (t := 456) (by kernel_rfl) (by kernel_rfl) (by kernel_rfl) (by kernel_rfl) (by kernel_rfl) t9
    k6 := Lib.tabIs_of_head (g := 6) (t := 542) (e := 540) (n := 8) (by kernel_rfl) (by kernel_rfl) (by kernel_rfl) (by kernel_rfl) (by kernel_rfl) (by kernel_rfl) t2
    k9 := Lib.tabIs_of_head (g := 9) (t := 574) (e := 37) (n := 20) (by kernel_rfl) (by kernel_rfl) (by kernel_rfl) (by kernel_rfl) (by kernel_rfl) (by kernel_rfl) t6
    k10 := Lib.tabIs_of_head (g := 10) (t := 606) (e := 540) (n := 64) (by kernel_rfl) (by kernel_rfl) (by kernel_rfl) (by kernel_rfl) (by kernel_rfl) (by kernel_rfl) t3
    k11 := Lib.tabIs_of_head (g := 11) (t := 633) (e := 540) (n := 16) (by kernel_rfl) (by kernel_rfl) (by kernel_rfl) (by kernel_rfl) (by kernel_rfl) (by kernel_rfl) t10
    km := Tryz.laysM219.s1_3 _ hs
  }
theorem names_true {W : World} (K : Known W) : Calls Tryz.prog 3 #[] W fun e w' => e = .returned (.bool true) ∧ Below W.heap.size W w' := by
  obtain ⟨G, hf⟩ := cx_fine K
  exact L.holds hf (kn_ok hf K.km)
end Go.Proofs.YtamkgmbalokjoaaGreatDoor
