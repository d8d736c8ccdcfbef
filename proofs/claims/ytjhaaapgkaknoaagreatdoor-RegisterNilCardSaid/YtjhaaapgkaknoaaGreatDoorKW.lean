/-
  What the rows' conditions give the evaluator: the package-level variables that the run reads, and where the sentinel lies.
-/
import Derived.Test.YtjhaaapgkaknoaaGreatDoorKN
import Derived.Test.YtjhaaapgkaknoaaGreatDoorLT
import Derived.Test.YtjhaaapgkaknoaaGreatDoorRows
import Derived.LaidMore

set_option linter.unusedVariables false
set_option maxRecDepth 100000
namespace Go.Proofs.YtjhaaapgkaknoaaGreatDoor
open Go Go.Ev Go.RowKit
def z4 : List Int := [1116352408, 1899447441, 3049323471, 3921009573, 961987163, 1508970993, 2453635748, 2870763221, 3624381080, 310598401, 607225278, 1426881987, 1925078388, 2162078206, 2614888103, 3248222580, 3835390401, 4022224774, 264347078, 604807628, 770255983, 1249150122, 1555081692, 1996064986, 2554220882, 2821834349, 2952996808, 3210313671, 3336571891, 3584528711, 113926993, 338241895, 666307205, 773529912, 1294757372, 1396182291, 1695183700, 1986661051, 2177026350, 2456956037, 2730485921, 2820302411, 3259730800, 3345764771, 3516065817, 3600352804, 4094571909, 275423344, 430227734, 506948616, 659060556, 883997877, 958139571, 1322822218, 1537002063, 1747873779, 1955562222, 2024104815, 2227730452, 2361852424, 2428436474, 2756734187, 3204031479, 3329325298]
def z2 : List Int := [1779033703, 3144134277, 1013904242, 2773480762, 1359893119, 2600822924, 528734635, 1541459225]
def z3 : List Int := [1, 10, 100, 1000, 10000, 100000, 1000000, 10000000, 100000000, 1000000000, 10000000000, 100000000000, 1000000000000, 10000000000000, 100000000000000, 1000000000000000, 10000000000000000, 100000000000000000, 1000000000000000000, 10000000000000000000]
def z6 : List Int := [0, 498536548, 997073096, 651767980, 1994146192, 1802195444, 1303535960, 1342533948, 3988292384, 4027552580, 3604390888, 3412177804, 2607071920, 2262029012, 2685067896, 3183342108]
def s5 : List (List UInt8) := [[110, 117, 108, 108], [102, 97, 108, 115, 101], [116, 114, 117, 101]]

theorem tab4_eq : tab4 = z4.map (AV.int .u32) := rfl
theorem tab2_eq : tab2 = z2.map (AV.int .u32) := rfl
theorem tab3_eq : tab3 = z3.map (AV.int .u64) := rfl
theorem tab6_eq : tab6 = z6.map (AV.int .u32) := rfl
theorem tab5_eq : tab5 = s5.map strAV := by kernel_rfl

structure Known (W : World) : Prop where
  k4 : Lib.TabIs Tryz.prog W "wicket/digest.roots" .u32 z4
  k2 : Lib.TabIs Tryz.prog W "wicket/digest.first" .u32 z2
  k3 : Lib.TabIs Tryz.prog W "internal/strconv.uint64pow10" .u64 z3
  k6 : Lib.TabIs Tryz.prog W "wicket/frame.sums" .u32 z6
  k5 : StrsIs Tryz.prog W "wicket/jtext.words" s5
  k0 : ∃ b o, W.var? Tryz.prog "wicket/register.errMeta" = some #[.iface 489 (.pointer (some ⟨b, o, none⟩))]

theorem no_numgo : (Tryz.prog.funcs.all fun fn => !(fn.name == "runtime.NumGoroutine")) = true := by kernel_rfl

theorem ext239 (args : Array Value) (w : World) : (callFunc 239 args).run Tryz.prog w = ((Extern.AbiNoEscape.same args).run Tryz.prog w).andThen fun v w' => .ok (.value v) w' :=
  run_callFunc_extern Tryz.func239 (by kernel_rfl) (by kernel_rfl) (by kernel_rfl) (by kernel_rfl) args w
theorem ext364 (args : Array Value) (w : World) : (callFunc 364 args).run Tryz.prog w = ((Extern.BytealgIndexByte.indexByte args).run Tryz.prog w).andThen fun v w' => .ok (.value v) w' :=
  run_callFunc_extern Tryz.func364 (by kernel_rfl) (by kernel_rfl) (by kernel_rfl) (by kernel_rfl) args w
theorem ext310 (args : Array Value) (w : World) : (callFunc 310 args).run Tryz.prog w = ((Extern.BytealgCount.count args).run Tryz.prog w).andThen fun v w' => .ok (.value v) w' :=
  run_callFunc_extern Tryz.func310 (by kernel_rfl) (by kernel_rfl) (by kernel_rfl) (by kernel_rfl) args w
theorem ext175 (args : Array Value) (w : World) : (callFunc 175 args).run Tryz.prog w = ((Extern.MapsClone.clone args).run Tryz.prog w).andThen fun v w' => .ok (.value v) w' :=
  run_callFunc_extern Tryz.func175 (by kernel_rfl) (by kernel_rfl) (by kernel_rfl) (by kernel_rfl) args w

theorem cx_fine {W : World} (K : Known W) : ∃ G, cx.Fine G W := by
  obtain ⟨b, o, h0⟩ := K.k0
  refine ⟨Gs [(b, o)], ?_⟩
  exact {
    glob := fun g hg => Gs_glob _ hg
    cell := fun g off v hg => by
      have hg' : gcF g off = some v := hg
      unfold gcF at hg'
      cases c0 : Nat.beq g 0 with
      | true =>
        obtain rfl := Nat.eq_of_beq_eq_true c0
        rw [c0] at hg'
        exact sent_cell (by kernel_rfl) h0 (Gs_glob _ (by omega)) (Gs_at _ (i := 0) (by omega) rfl) hg'
      | false =>
      rw [c0] at hg'
      cases c2 : Nat.beq g 2 with
      | true =>
        obtain rfl := Nat.eq_of_beq_eq_true c2
        rw [c2] at hg'
        exact glob_cell (Gs_glob _ (by omega)) (tab_cell (by kernel_rfl) K.k2 (by rw [← tab2_eq]; exact hg'))
      | false =>
      rw [c2] at hg'
      cases c3 : Nat.beq g 3 with
      | true =>
        obtain rfl := Nat.eq_of_beq_eq_true c3
        rw [c3] at hg'
        exact glob_cell (Gs_glob _ (by omega)) (tab_cell (by kernel_rfl) K.k3 (by rw [← tab3_eq]; exact hg'))
      | false =>
      rw [c3] at hg'
      cases c4 : Nat.beq g 4 with
      | true =>
        obtain rfl := Nat.eq_of_beq_eq_true c4
        rw [c4] at hg'
        exact glob_cell (Gs_glob _ (by omega)) (tab_cell (by kernel_rfl) K.k4 (by rw [← tab4_eq]; exact hg'))
      | false =>
      rw [c4] at hg'
      cases c5 : Nat.beq g 5 with
      | true =>
        obtain rfl := Nat.eq_of_beq_eq_true c5
        rw [c5] at hg'
        exact glob_cell (Gs_glob _ (by omega)) (str_cell (by kernel_rfl) K.k5 (by rw [← tab5_eq]; exact hg'))
      | false =>
      rw [c5] at hg'
      cases c6 : Nat.beq g 6 with
      | true =>
        obtain rfl := Nat.eq_of_beq_eq_true c6
        rw [c6] at hg'
        exact glob_cell (Gs_glob _ (by omega)) (tab_cell (by kernel_rfl) K.k6 (by rw [← tab6_eq]; exact hg'))
      | false => rw [c6] at hg'; cases hg'
    mixed := by kernel_rfl
    name := fun f fn h => by
      obtain ⟨h1, h2⟩ := Array.getElem?_eq_some_iff.1 (show Tryz.prog.funcs[f]? = some fn from h)
      have := Array.all_eq_true.1 no_numgo f h1
      rw [h2] at this
      simpa using this
    extern := fun f k h args w => by
      have h' : extF f = some k := h
      unfold extF at h'
      cases h1 : Nat.beq f 239 with
      | true =>
        obtain rfl := Nat.eq_of_beq_eq_true h1
        simp only [h1, cond_true, Option.some.injEq] at h'
        subst h'
        exact ext239 args w
      | false =>
      simp only [h1, cond_false] at h'
      cases h2 : Nat.beq f 364 with
      | true =>
        obtain rfl := Nat.eq_of_beq_eq_true h2
        simp only [h2, cond_true, Option.some.injEq] at h'
        subst h'
        exact ext364 args w
      | false =>
      simp only [h2, cond_false] at h'
      cases h3 : Nat.beq f 310 with
      | true =>
        obtain rfl := Nat.eq_of_beq_eq_true h3
        simp only [h3, cond_true, Option.some.injEq] at h'
        subst h'
        exact ext310 args w
      | false =>
      simp only [h3, cond_false] at h'
      cases h4 : Nat.beq f 175 with
      | true =>
        obtain rfl := Nat.eq_of_beq_eq_true h4
        simp only [h4, cond_true, Option.some.injEq] at h'
        subst h'
        exact ext175 args w
      | false => simp only [h4, cond_false, reduceCtorEq] at h' }

/-- What the rows' condition gives. -/
theorem known_of_laid {W : World} (h : laidMetH Tryz.prog Rows.registerNamesRow.laid W) : Known W := by
  rw [MakeChecks.laidMetH_plain _ _ _ (by kernel_rfl)] at h
  have h2 := h.tail.tail
  have h4 := h2.tail.tail
  have h5 := h4.tail
  have h8 := h5.tail.tail.tail
  have h9 := h8.tail
  have h10 := h9.tail
  refine ⟨?_, ?_, ?_, ?_, ?_, ?_⟩
  · exact Lib.tabIs_of_head (g := 4) (t := 375) (e := 242) (n := 64) (by kernel_rfl) (by kernel_rfl) (by kernel_rfl) (by kernel_rfl) (by kernel_rfl) (by kernel_rfl) h4
  · exact Lib.tabIs_of_head (g := 2) (t := 297) (e := 242) (n := 8) (by kernel_rfl) (by kernel_rfl) (by kernel_rfl) (by kernel_rfl) (by kernel_rfl) (by kernel_rfl) h5
  · exact Lib.tabIs_of_head (g := 3) (t := 372) (e := 26) (n := 20) (by kernel_rfl) (by kernel_rfl) (by kernel_rfl) (by kernel_rfl) (by kernel_rfl) (by kernel_rfl) h2
  · exact Lib.tabIs_of_head (g := 6) (t := 426) (e := 242) (n := 16) (by kernel_rfl) (by kernel_rfl) (by kernel_rfl) (by kernel_rfl) (by kernel_rfl) (by kernel_rfl) h8
  · exact strs_of_head (g := 5) (t := 149) (e := 9) (n := 3) (by kernel_rfl) (by kernel_rfl) (by kernel_rfl) (by kernel_rfl) (by kernel_rfl) (by kernel_rfl) h9
  · exact sent_at (g := 0) (ti := 104) (te := 491) (ts := 9) h10 (by kernel_rfl) (by kernel_rfl) Tryz.underlying104 (fun u h => typeName_ptr_named (nm := "errors.errorString") (by kernel_rfl) (by kernel_rfl) (by decide) u h) Tryz.underlying489 Tryz.underlying491 rfl rfl Tryz.underlying9 (by kernel_rfl) (by kernel_rfl)

theorem names_true {W : World} (K : Known W) : Calls Tryz.prog 3 #[] W fun e w' => e = .returned (.bool true) ∧ Below W.heap.size W w' := by
  obtain ⟨G, hf⟩ := cx_fine K
  exact L.holds hf (kn_ok hf)
end Go.Proofs.YtjhaaapgkaknoaaGreatDoor
