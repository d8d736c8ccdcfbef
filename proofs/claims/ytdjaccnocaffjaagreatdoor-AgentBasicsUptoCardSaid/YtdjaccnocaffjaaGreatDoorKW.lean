/-
  What the rows' conditions give the evaluator: the package-level variables that the run reads, and where the sentinels lie.
-/
import Derived.Test.YtdjaccnocaffjaaGreatDoorKN
import Derived.Test.YtdjaccnocaffjaaGreatDoorKNM
import Derived.Test.YtdjaccnocaffjaaGreatDoorKWa
import Derived.Test.YtdjaccnocaffjaaGreatDoorKWb
import Derived.Test.YtdjaccnocaffjaaGreatDoorLT
import Derived.Test.YtdjaccnocaffjaaGreatDoorRows
import Derived.LaidMore

set_option linter.unusedVariables false
set_option maxRecDepth 100000
namespace Go.Proofs.YtdjaccnocaffjaaGreatDoor
open Go Go.Ev Go.RowKit
def z6 : List Int := [1, 10, 100, 1000, 10000, 100000, 1000000, 10000000, 100000000, 1000000000, 10000000000, 100000000000, 1000000000000, 10000000000000, 100000000000000, 1000000000000000, 10000000000000000, 100000000000000000, 1000000000000000000, 10000000000000000000]
theorem tab6_eq : tab6 = z6.map (AV.int .u64) := rfl
def z13 : List Int := [1779033703, 3144134277, 1013904242, 2773480762, 1359893119, 2600822924, 528734635, 1541459225]
theorem tab13_eq : tab13 = z13.map (AV.int .u32) := rfl
def s14 : List (List UInt8) := [[110, 117, 108, 108], [102, 97, 108, 115, 101], [116, 114, 117, 101]]
theorem tab14_eq : tab14 = s14.map strAV := by kernel_rfl
def z15 : List Int := [1116352408, 1899447441, 3049323471, 3921009573, 961987163, 1508970993, 2453635748, 2870763221, 3624381080, 310598401, 607225278, 1426881987, 1925078388, 2162078206, 2614888103, 3248222580, 3835390401, 4022224774, 264347078, 604807628, 770255983, 1249150122, 1555081692, 1996064986, 2554220882, 2821834349, 2952996808, 3210313671, 3336571891, 3584528711, 113926993, 338241895, 666307205, 773529912, 1294757372, 1396182291, 1695183700, 1986661051, 2177026350, 2456956037, 2730485921, 2820302411, 3259730800, 3345764771, 3516065817, 3600352804, 4094571909, 275423344, 430227734, 506948616, 659060556, 883997877, 958139571, 1322822218, 1537002063, 1747873779, 1955562222, 2024104815, 2227730452, 2361852424, 2428436474, 2756734187, 3204031479, 3329325298]
theorem tab15_eq : tab15 = z15.map (AV.int .u32) := rfl
def z16 : List Int := [0, 498536548, 997073096, 651767980, 1994146192, 1802195444, 1303535960, 1342533948, 3988292384, 4027552580, 3604390888, 3412177804, 2607071920, 2262029012, 2685067896, 3183342108]
theorem tab16_eq : tab16 = z16.map (AV.int .u32) := rfl

structure Known (W : World) : Prop where
  k6 : Lib.TabIs Tryz.prog W "internal/strconv.uint64pow10" .u64 z6
  k7 : ∃ b o, W.var? Tryz.prog "strconv.ErrSyntax" = some #[.iface 477 (.pointer (some ⟨b, o, none⟩))]
  k9 : LitsIs Tryz.prog W "wicket/grant.ends" tab9
  k12 : LitsIs Tryz.prog W "wicket/token.bounds" tab12
  k13 : Lib.TabIs Tryz.prog W "wicket/digest.first" .u32 z13
  k14 : StrsIs Tryz.prog W "wicket/jtext.words" s14
  k15 : Lib.TabIs Tryz.prog W "wicket/digest.roots" .u32 z15
  k16 : Lib.TabIs Tryz.prog W "wicket/frame.sums" .u32 z16
  km : ∃ m, W.cell? ⟨5, 0, none⟩ = some (.int .i64 m)

theorem ext154 (args : Array Value) (w : World) : (callFunc 154 args).run Tryz.prog w = ((Extern.AbiNoEscape.same args).run Tryz.prog w).andThen fun v w' => .ok (.value v) w' :=
  run_callFunc_extern Tryz.func154 (by kernel_rfl) (by kernel_rfl) (by kernel_rfl) (by kernel_rfl) args w
theorem ext244 (args : Array Value) (w : World) : (callFunc 244 args).run Tryz.prog w = ((Extern.BytealgIndexByte.indexByte args).run Tryz.prog w).andThen fun v w' => .ok (.value v) w' :=
  run_callFunc_extern Tryz.func244 (by kernel_rfl) (by kernel_rfl) (by kernel_rfl) (by kernel_rfl) args w
theorem ext242 (args : Array Value) (w : World) : (callFunc 242 args).run Tryz.prog w = ((Extern.BytealgCount.count args).run Tryz.prog w).andThen fun v w' => .ok (.value v) w' :=
  run_callFunc_extern Tryz.func242 (by kernel_rfl) (by kernel_rfl) (by kernel_rfl) (by kernel_rfl) args w
theorem ext218 (args : Array Value) (w : World) : (callFunc 218 args).run Tryz.prog w = ((Extern.MapsClone.clone args).run Tryz.prog w).andThen fun v w' => .ok (.value v) w' :=
  run_callFunc_extern Tryz.func218 (by kernel_rfl) (by kernel_rfl) (by kernel_rfl) (by kernel_rfl) args w

theorem cx_fine {W : World} (K : Known W) : ∃ G, cx.Fine G W := by
  obtain ⟨b0, o0, h7⟩ := K.k7
  refine ⟨Gs [(b0, o0)], ?_⟩
  exact {
    glob := fun g hg => Gs_glob _ hg
    cell := fun g off v hg => by
      have hg' : gcF g off = some v := hg
      unfold gcF at hg'
      cases c6 : Nat.beq g 6 with
      | true =>
        obtain rfl := Nat.eq_of_beq_eq_true c6
        rw [c6] at hg'
        exact glob_cell (Gs_glob _ (by omega)) (tab_cell (by kernel_rfl) K.k6 (by rw [← tab6_eq]; exact hg'))
      | false =>
      rw [c6] at hg'
      cases c7 : Nat.beq g 7 with
      | true =>
        obtain rfl := Nat.eq_of_beq_eq_true c7
        rw [c7] at hg'
        exact sent_cell (by kernel_rfl) h7 (Gs_glob _ (by omega)) (Gs_at _ (i := 0) (by omega) rfl) hg'
      | false =>
      rw [c7] at hg'
      cases c9 : Nat.beq g 9 with
      | true =>
        obtain rfl := Nat.eq_of_beq_eq_true c9
        rw [c9] at hg'
        exact glob_cell (Gs_glob _ (by omega)) (lits_cell (by kernel_rfl) K.k9 hg')
      | false =>
      rw [c9] at hg'
      cases c12 : Nat.beq g 12 with
      | true =>
        obtain rfl := Nat.eq_of_beq_eq_true c12
        rw [c12] at hg'
        exact glob_cell (Gs_glob _ (by omega)) (lits_cell (by kernel_rfl) K.k12 hg')
      | false =>
      rw [c12] at hg'
      cases c13 : Nat.beq g 13 with
      | true =>
        obtain rfl := Nat.eq_of_beq_eq_true c13
        rw [c13] at hg'
        exact glob_cell (Gs_glob _ (by omega)) (tab_cell (by kernel_rfl) K.k13 (by rw [← tab13_eq]; exact hg'))
      | false =>
      rw [c13] at hg'
      cases c14 : Nat.beq g 14 with
      | true =>
        obtain rfl := Nat.eq_of_beq_eq_true c14
        rw [c14] at hg'
        exact glob_cell (Gs_glob _ (by omega)) (str_cell (by kernel_rfl) K.k14 (by rw [← tab14_eq]; exact hg'))
      | false =>
      rw [c14] at hg'
      cases c15 : Nat.beq g 15 with
      | true =>
        obtain rfl := Nat.eq_of_beq_eq_true c15
        rw [c15] at hg'
        exact glob_cell (Gs_glob _ (by omega)) (tab_cell (by kernel_rfl) K.k15 (by rw [← tab15_eq]; exact hg'))
      | false =>
      rw [c15] at hg'
      cases c16 : Nat.beq g 16 with
      | true =>
        obtain rfl := Nat.eq_of_beq_eq_true c16
        rw [c16] at hg'
        exact glob_cell (Gs_glob _ (by omega)) (tab_cell (by kernel_rfl) K.k16 (by rw [← tab16_eq]; exact hg'))
      | false =>
      rw [c16] at hg'
      cases hg'
    mixed := by kernel_rfl
    name := fun f fn h => beq_eq_false_iff_ne.2 (no_numgo h)
    extern := fun f k h args w => by
      have h' : extF f = some k := h
      unfold extF at h'
      cases h154 : Nat.beq f 154 with
      | true =>
        obtain rfl := Nat.eq_of_beq_eq_true h154
        simp only [h154, cond_true, Option.some.injEq] at h'
        subst h'
        exact ext154 args w
      | false =>
      simp only [h154, cond_false] at h'
      cases h244 : Nat.beq f 244 with
      | true =>
        obtain rfl := Nat.eq_of_beq_eq_true h244
        simp only [h244, cond_true, Option.some.injEq] at h'
        subst h'
        exact ext244 args w
      | false =>
      simp only [h244, cond_false] at h'
      cases h242 : Nat.beq f 242 with
      | true =>
        obtain rfl := Nat.eq_of_beq_eq_true h242
        simp only [h242, cond_true, Option.some.injEq] at h'
        subst h'
        exact ext242 args w
      | false =>
      simp only [h242, cond_false] at h'
      cases h218 : Nat.beq f 218 with
      | true =>
        obtain rfl := Nat.eq_of_beq_eq_true h218
        simp only [h218, cond_true, Option.some.injEq] at h'
        subst h'
        exact ext218 args w
      | false =>
      simp only [h218, cond_false] at h'
      cases h' }

/-- What the rows' condition gives. -/
theorem known_of_laid {W : World} (h : laidMetH Tryz.prog Rows.agentBasicsUptoRow.laid W) (hs : W.ShapedOpen Tryz.prog) : Known W := by
  rw [MakeChecks.laidMetH_plain _ _ _ (by kernel_rfl)] at h
  have t1 := h.tail
  have t2 := t1.tail
  have t3 := t2.tail
  have t4 := t3.tail
  have t5 := t4.tail
  have t6 := t5.tail
  have t7 := t6.tail
  have t8 := t7.tail
  have t9 := t8.tail
  have t10 := t9.tail
  have t11 := t10.tail
  have t12 := t11.tail
  have t13 := t12.tail
  have t14 := t13.tail
  have t15 := t14.tail
  exact {
    k6 := Lib.tabIs_of_head (g := 6) (t := 301) (e := 32) (n := 20) (by kernel_rfl) (by kernel_rfl) (by kernel_rfl) (by kernel_rfl) (by kernel_rfl) (by kernel_rfl) t6
    k7 := sent_at (g := 7) (ti := 112) (te := 479) (ts := 9) t4 (by kernel_rfl) (by kernel_rfl) Tryz.underlying112 (fun u h => typeName_ptr_named (nm := "errors.errorString") sent_rows sent_named (by decide) u h) Tryz.underlying477 Tryz.underlying479 rfl rfl Tryz.underlying9 (by kernel_rfl) (by kernel_rfl)
    k9 := lits_of_head (g := 9) (t := 434) (by kernel_rfl) (by kernel_rfl) (by kernel_rfl) (by kernel_rfl) (by kernel_rfl) t15
    k12 := lits_of_head (g := 12) (t := 587) (by kernel_rfl) (by kernel_rfl) (by kernel_rfl) (by kernel_rfl) (by kernel_rfl) t9
    k13 := Lib.tabIs_of_head (g := 13) (t := 654) (e := 278) (n := 8) (by kernel_rfl) (by kernel_rfl) (by kernel_rfl) (by kernel_rfl) (by kernel_rfl) (by kernel_rfl) t2
    k14 := strs_of_head (g := 14) (t := 696) (e := 9) (n := 3) (by kernel_rfl) (by kernel_rfl) (by kernel_rfl) (by kernel_rfl) (by kernel_rfl) (by kernel_rfl) t11
    k15 := Lib.tabIs_of_head (g := 15) (t := 700) (e := 278) (n := 64) (by kernel_rfl) (by kernel_rfl) (by kernel_rfl) (by kernel_rfl) (by kernel_rfl) (by kernel_rfl) t3
    k16 := Lib.tabIs_of_head (g := 16) (t := 707) (e := 278) (n := 16) (by kernel_rfl) (by kernel_rfl) (by kernel_rfl) (by kernel_rfl) (by kernel_rfl) (by kernel_rfl) t10
    km := Tryz.laysM219.s1_3 _ hs
  }
theorem fine_below {C : Cx} {G : Nat → Nat} {w w' : World} (h : C.Fine G w) (b : Below w.heap.size w w') : C.Fine G w' where
  glob := h.glob
  cell g off v hg := by
    obtain ⟨x, h1, h2, h3⟩ := h.cell g off v hg
    refine ⟨x, h1, ?_, Nat.lt_of_lt_of_le h3 b.size⟩
    rw [← h2]
    unfold World.cell?
    rw [b.block _ h3]
  mixed := h.mixed
  name := h.name
  extern := h.extern

theorem live_below {W : World} (K : Known W) : ∀ W', Below W.heap.size W W' → Calls Tryz.prog 7 #[] W' fun e w' => e = .returned (.bool true) ∧ Below W'.heap.size W' w' := fun W' hb => by
  obtain ⟨G, hf⟩ := cx_fine K
  exact L.holds (fine_below hf hb) (kn_ok (fine_below hf hb) (cell_low K.km hb.block))
end Go.Proofs.YtdjaccnocaffjaaGreatDoor
