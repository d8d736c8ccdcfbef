/-
  Slices of numbers that came in, read: nil, or their elements' cells; copied by append([]T{}, xs...).
-/
import Derived.WalkKit
import Derived.ChangeSlices
import Derived.ChangeMaps5
import Derived.Laws.BytesArg
import Derived.SizedLaws
import Derived.Laws.AppendOwnNone
import Derived.Test.YtbfoocginkdmcaaGreatDoorProg
import Derived.ProofKit
import Derived.OpenShut
import Derived.ChangeOld
import Derived.Lib.SmallJoins
import Derived.Handy
import Derived.Deep.RegionWith

set_option linter.unusedVariables false
set_option maxRecDepth 100000
namespace Go.ArgS
open Go Go.RowKit
def IsSl (w : World) (k : IntKind) (v : Value) (zs : List Int) : Prop :=
  (v = .slice none 0 0 ∧ zs = []) ∨ ∃ (a : Addr) (cap : Nat), v = .slice (some a) zs.length cap ∧ ∀ (j : Nat) x, zs[j]? = some x → w.cell? (a.add j) = some (.int k x)
theorem add_block (a : Addr) (j : Nat) : (a.add j).block = a.block := by
  unfold Addr.add
  split <;> rfl
theorem IsSl.kept {w w' : World} {k : IntKind} {v : Value} {zs : List Int} (h : IsSl w k v zs) (hb : ∀ b, b < w.heap.size → w'.heap[b]? = w.heap[b]?) : IsSl w' k v zs := by
  rcases h with h | ⟨a, cap, rfl, hc⟩
  · exact .inl h
  · refine .inr ⟨a, cap, rfl, fun j x hj => ?_⟩
    have h := hc j x hj
    exact (World.cell?_of_block (hb _ (World.block_lt_of_cell? w _ h))).trans h
theorem IsSl.below {w w' : World} {k : IntKind} {v : Value} {zs : List Int} (h : IsSl w k v zs) (hb : Below w.heap.size w w') : IsSl w' k v zs := h.kept hb.block
theorem IsSl.alloc {w : World} {k : IntKind} {v : Value} {zs : List Int} (h : IsSl w k v zs) (o : Obj) : IsSl (w.alloc o) k v zs := h.below ((Below.refl _ _).alloc (Nat.le_refl _) o)
theorem IsSl.of_own {w : World} {B : Nat} {e : TypeId} {k : IntKind} {v : Value} {n : Nat} {zs : List Int} (hn : n = zs.length) (h : w.ownsRow B e 1 v n (zs.map (Value.int k))) : IsSl w k v zs := by
  subst hn
  rcases h.2 with ⟨rfl, h0⟩ | ⟨g, cap, cur, rfl, hb, hg, _, hm, hs, htake⟩
  · exact .inl ⟨rfl, List.length_eq_zero_iff.1 h0⟩
  · exact .inr ⟨⟨g, 0, none⟩, cap, rfl, fun j x hj => h.cells rfl j _ (by rw [List.getElem?_map, hj]; rfl)⟩
theorem IsSl.text {P : Program} {w : World} {v : Value} {zs : List Int} {s e d : TypeId} (hs : P.underlying s = some (.slice e)) (he : P.underlying e = some (.int .u8)) (hd : P.underlying d = some .string)
    (h : IsSl w .u8 v zs) : (convert s d v).run P w = .ok (.string (strOfNums zs)) w := by
  rcases h with ⟨rfl, rfl⟩ | ⟨a, cap, rfl, hc⟩
  · rw [run_convert_bytes_nil w s e hs he 0 0 d hd]
    rfl
  · have hl := run_loadCells_list (P := P) w a (zs.map (Value.int .u8)) (fun j u hj => by
      rw [List.getElem?_map, Option.map_eq_some_iff] at hj
      obtain ⟨x, hx, rfl⟩ := hj
      exact hc j x hx)
    rw [List.length_map] at hl
    rw [run_convert_bytes_string w s d e _ zs.length cap hs he hd, run_bytesToString w a zs.length cap zs hl, foldl_push_bytes]
    simp [strOfNums, ByteArray.empty, ByteArray.emptyWithCapacity]
    rfl
end Go.ArgS

/-
  Slices of numbers that came in: a bound on their bytes by the row's weights.
-/

set_option linter.unusedVariables false
set_option maxRecDepth 100000
namespace Go.ArgS
open Go Go.RowKit
theorem open_slw {H : Type} {enc : TypeId × Value → H} {P : Program} {w : World} {base : Nat} {t e : TypeId} {k : IntKind} {fuel : Nat} {c : Value} {x : DataW H × List MemPlace}
    (ht : P.underlying t = some (.slice e)) (he : P.underlying e = some (.int k)) (hc : P.cellsOf e = 1) (h : DataW.trod enc P w base (fun _ => true) true fuel t [c] = some x)
    (hw : ∀ n ∈ x.1.weights P t, n ≤ reachBytes) :
    ∃ zs, IsSl w k c zs ∧ (∀ n ∈ zs, (Lit.int k n).wf = true) ∧ zs.length * P.bytesOf e ≤ reachBytes := by
  rcases ChangeShapes.open_ints ht he hc h with ⟨h0, _⟩ | ⟨a, len, cap, zs, h0, _, hl, _, hz, hx, hcell, hwf⟩
  · exact ⟨[], .inl ⟨by simpa using h0, rfl⟩, fun _ h => (by cases h), by simp⟩
  · have e0 : c = .slice (some a) len cap := by simpa using h0
    subst e0
    rw [if_pos rfl] at hz
    have hlz : (zs.take len).length = len := by rw [List.length_take]; omega
    refine ⟨zs.take len, .inr ⟨a, cap, by rw [hlz], fun j y hj => ?_⟩, fun n hn => hwf n (List.mem_of_mem_take hn), ?_⟩
    · have hj2 : zs[j]? = some y := by
        rw [List.getElem?_take] at hj
        split at hj
        · exact hj
        · cases hj
      have hlt : j < zs.length := (List.getElem?_eq_some_iff.1 hj2).1
      rw [hcell j hlt, List.getD, hj2]
      rfl
    · subst hx
      have h1 := hw _ (by
        show _ ∈ DataW.weights P t (.slice _ _)
        unfold DataW.weights
        rw [ht]
        exact List.mem_cons_self)
      refine Nat.le_trans (Nat.mul_le_mul_right _ ?_) h1
      simp [ChangeShapes.lits]
end Go.ArgS

/-
  append(own row, xs...) where xs is a slice of numbers that came in, nil or not.
-/

set_option linter.unusedVariables false
set_option maxRecDepth 100000
namespace Go.ArgS
open Go Go.RowKit
def Box (w : World) (b : Nat) (cs : List Value) : Prop := b < w.heap.size ∧ (∀ j : Nat, w.cell? ⟨b, j, none⟩ = cs[j]?) ∧ ∀ j : Nat, w.frozen? ⟨b, j, none⟩ = false
theorem Box.new (w : World) (cs : Array Value) (t : TypeId) : Box (w.alloc (.cells cs t)) w.heap.size cs.toList :=
  ⟨by simp, fun j => (World.cell?_alloc_new w _ _ j).trans (by simp), fun j => World.frozen?_alloc_new w _ _ j⟩
theorem Box.of_block {w w' : World} {b : Nat} {cs : List Value} (h : Box w b cs) (hs : b < w'.heap.size) (hb : w'.heap[b]? = w.heap[b]?) : Box w' b cs :=
  ⟨hs, fun j => (World.cell?_of_block (a := ⟨b, j, none⟩) hb).trans (h.2.1 j), fun j => (World.frozen?_of_block (a := ⟨b, j, none⟩) hb).trans (h.2.2 j)⟩
theorem Box.alloc {w : World} {b : Nat} {cs : List Value} (h : Box w b cs) (o : Obj) : Box (w.alloc o) b cs :=
  h.of_block (by have := h.1; simp; omega) (Below.heap_alloc w o b h.1)
theorem Box.grown {w w' : World} {b : Nat} {cs : List Value} {row : Option Nat} (h : Box w b cs) (hg : w.grownBy w' row) (hne : some b ≠ row) : Box w' b cs :=
  h.of_block (Nat.lt_of_lt_of_le h.1 hg.size) (hg.block b h.1 hne)
theorem Box.below {w w' : World} {n b : Nat} {cs : List Value} (h : Box w b cs) (hb : Below n w w') (hn : b < n) : Box w' b cs :=
  h.of_block (Nat.lt_of_lt_of_le h.1 hb.size) (hb.block b hn)
theorem Box.set_other {w : World} {b : Nat} {cs : List Value} (h : Box w b cs) (a : Addr) (v : Value) (hne : b ≠ a.block) : Box (w.setCell a v) b cs :=
  h.of_block (by simp [World.setCell]; exact h.1) (Below.heap_setCell w a v b hne)
theorem Box.set {w : World} {b : Nat} {cs : List Value} (h : Box w b cs) (j : Nat) (v : Value) (hj : j < cs.length) : Box (w.setCell ⟨b, j, none⟩ v) b (cs.set j v) := by
  refine ⟨by simp [World.setCell]; exact h.1, fun i => ?_, fun i => (World.frozen?_setCell _ _ _ _).trans (h.2.2 i)⟩
  by_cases hi : j = i
  · subst hi
    rw [World.cell?_setCell_same (u := cs[j]) _ _ _ (by rw [h.2.1 j]; exact List.getElem?_eq_getElem hj)]
    rw [List.getElem?_set_self hj]
  · rw [World.cell?_setCell_other _ _ _ _ (by simp), h.2.1 i, List.getElem?_set_ne hi]
theorem Box.at {w : World} {b : Nat} {cs : List Value} (h : Box w b cs) (j : Nat) {v : Value} (hv : cs[j]? = some v) : w.cell? ⟨b, j, none⟩ = some v := (h.2.1 j).trans hv
theorem IsSl.slice {w : World} {k : IntKind} {v : Value} {zs : List Int} (h : IsSl w k v zs) : ∃ a c, v = .slice a zs.length c := by
  rcases h with ⟨rfl, rfl⟩ | ⟨a, cap, rfl, _⟩
  · exact ⟨_, _, rfl⟩
  · exact ⟨_, _, rfl⟩
def OwnSl (w : World) (B : Nat) (k : IntKind) (v : Value) (zs : List Int) : Prop := IsSl w k v zs ∧ ∀ a l c, v = .slice (some a) l c → B ≤ a.block ∧ a.block < w.heap.size
theorem OwnSl.is {w : World} {B : Nat} {k : IntKind} {v : Value} {zs : List Int} (h : OwnSl w B k v zs) : IsSl w k v zs := h.1
theorem OwnSl.keep {w w' : World} {B : Nat} {k : IntKind} {v : Value} {zs : List Int} (h : OwnSl w B k v zs) (hs : w.heap.size ≤ w'.heap.size) (hk : ∀ g, B ≤ g → g < w.heap.size → w'.heap[g]? = w.heap[g]?) : OwnSl w' B k v zs := by
  refine ⟨?_, fun a l c e => ⟨(h.2 a l c e).1, Nat.lt_of_lt_of_le (h.2 a l c e).2 hs⟩⟩
  rcases h.1 with h1 | ⟨a, cap, rfl, hc⟩
  · exact .inl h1
  · obtain ⟨hl1, hl2⟩ := h.2 a _ _ rfl
    refine .inr ⟨a, cap, rfl, fun j x hj => ?_⟩
    exact (World.cell?_of_block (by rw [add_block]; exact hk _ hl1 hl2)).trans (hc j x hj)
theorem OwnSl.mono {w : World} {B B' : Nat} {k : IntKind} {v : Value} {zs : List Int} (h : OwnSl w B k v zs) (hb : B' ≤ B) : OwnSl w B' k v zs := ⟨h.1, fun a l c e => ⟨Nat.le_trans hb (h.2 a l c e).1, (h.2 a l c e).2⟩⟩
theorem OwnSl.below {w w' : World} {B : Nat} {k : IntKind} {v : Value} {zs : List Int} (h : OwnSl w B k v zs) (hb : Below w.heap.size w w') : OwnSl w' B k v zs := h.keep hb.size fun g _ hg => hb.block g hg
theorem OwnSl.alloc {w : World} {B : Nat} {k : IntKind} {v : Value} {zs : List Int} (h : OwnSl w B k v zs) (o : Obj) : OwnSl (w.alloc o) B k v zs := h.below ((Below.refl _ _).alloc (Nat.le_refl _) o)
theorem OwnSl.set {w : World} {B : Nat} {k : IntKind} {v : Value} {zs : List Int} (h : OwnSl w B k v zs) (a : Addr) (u : Value) (ha : a.block < B) : OwnSl (w.setCell a u) B k v zs :=
  h.keep (by simp [World.setCell]) fun g hg _ => Below.heap_setCell w a u g (by omega)
theorem OwnSl.of_own {w : World} {B : Nat} {e : TypeId} {k : IntKind} {v : Value} {n : Nat} {zs : List Int} (hn : n = zs.length) (h : w.ownsRow B e 1 v n (zs.map (Value.int k))) : OwnSl w B k v zs :=
  ⟨IsSl.of_own hn h, fun a l c e => h.lt a.block (by rw [e]; rfl)⟩
def set8 (w : World) (b o : Nat) (v0 v1 v2 v3 v4 v5 v6 v7 : Value) : World :=
  (((((((w.setCell ⟨b, o, none⟩ v0).setCell ⟨b, o + 1, none⟩ v1).setCell ⟨b, o + 2, none⟩ v2).setCell ⟨b, o + 3, none⟩ v3).setCell ⟨b, o + 4, none⟩ v4).setCell ⟨b, o + 5, none⟩ v5).setCell ⟨b, o + 6, none⟩ v6).setCell ⟨b, o + 7, none⟩ v7
end Go.ArgS

/-
  What an act that came in is, cell for cell.
-/

set_option linter.unusedVariables false
set_option maxRecDepth 100000
namespace Go.Proofs.YtbfoocginkdmcaaGreatDoor
open Go Go.ChangeShapes Go.WideShapes Go.ChangeAt Go.RowKit Go.Joins Go.ArgS
theorem array8 {α : Type} {cs : Array α} (h : cs.size = 8) : ∃ c0 c1 c2 c3 c4 c5 c6 c7, cs = #[c0, c1, c2, c3, c4, c5, c6, c7] := by
  obtain ⟨l⟩ := cs
  match l, h with
  | [c0, c1, c2, c3, c4, c5, c6, c7], _ => exact ⟨c0, c1, c2, c3, c4, c5, c6, c7, rfl⟩
theorem cells36 : Tryz.prog.cellsOf 36 = 8 := by kernel_rfl
theorem cells34 : Tryz.prog.cellsOf 34 = 2 := by kernel_rfl
theorem cells3 : Tryz.prog.cellsOf 3 = 1 := by kernel_rfl
theorem cells5 : Tryz.prog.cellsOf 5 = 1 := by kernel_rfl
theorem cells9 : Tryz.prog.cellsOf 9 = 1 := by kernel_rfl
theorem cells30 : Tryz.prog.cellsOf 30 = 1 := by kernel_rfl
theorem cells31 : Tryz.prog.cellsOf 31 = 1 := by kernel_rfl
theorem cells32 : Tryz.prog.cellsOf 32 = 1 := by kernel_rfl
theorem bytes5 : Tryz.prog.bytesOf 5 = 1 := by kernel_rfl
theorem bytes3 : Tryz.prog.bytesOf 3 = 8 := by kernel_rfl
theorem open_act {H : Type} {enc : TypeId × Value → H} {W : World} {r : Reach} {b0 base : Nat} {v : Value} {d : DataW H} {p : List MemPlace}
    (hv : Value.okWide Tryz.prog W r b0 36 v) (h : DataW.Trod enc Tryz.prog W base (fun _ => true) true 36 v d p) (hw : ∀ n ∈ d.weights Tryz.prog 36, n ≤ reachBytes) :
    ∃ (k t o n q : Int) (s : ByteArray) (x y : Value) (ds ts : List Int), v = .agg #[.int .i64 k, .string s, x, .int .u64 t, .int .i64 o, .int .i64 n, .int .i64 q, y] ∧
      IsSl W .u8 x ds ∧ IsSl W .i64 y ts ∧ ds.length ≤ reachBytes ∧ ts.length * 8 ≤ reachBytes := by
  obtain ⟨cs, rfl, hsz⟩ := okWide_struct Tryz.underlying36 hv
  obtain ⟨c0, c1, c2, c3, c4, c5, c6, c7, rfl⟩ := array8 (hsz.trans cells36)
  obtain ⟨fuel, hf⟩ := h
  obtain ⟨xs, n, _, hx, hl, hlen, hf⟩ := DataW.trod_struct Tryz.underlying36 hf
  match xs, hlen with
  | [y0, y1, y2, y3, y4, y5, y6], _ =>
    have h0 : DataW.trod enc Tryz.prog W base (fun _ => true) true n 3 [c0] = some y0 := by simpa [Value.cells, cells3] using hf 0 _ rfl
    have h1 : DataW.trod enc Tryz.prog W base (fun _ => true) true n 9 [c1] = some y1 := by simpa [Value.cells, cells9] using hf 1 _ rfl
    have h2 : DataW.trod enc Tryz.prog W base (fun _ => true) true n 30 [c2] = some y2 := by simpa [Value.cells, cells30] using hf 2 _ rfl
    have h3 : DataW.trod enc Tryz.prog W base (fun _ => true) true n 31 [c3] = some y3 := by simpa [Value.cells, cells31] using hf 3 _ rfl
    have h4 : DataW.trod enc Tryz.prog W base (fun _ => true) true n 3 [c4] = some y4 := by simpa [Value.cells, cells3] using hf 4 _ rfl
    have h5 : DataW.trod enc Tryz.prog W base (fun _ => true) true n 3 [c5] = some y5 := by simpa [Value.cells, cells3] using hf 5 _ rfl
    have h6 : DataW.trod enc Tryz.prog W base (fun _ => true) true n 34 [c6, c7] = some y6 := by simpa [Value.cells, cells34] using hf 6 _ rfl
    obtain ⟨us, m, _, hu, _, hulen, hg⟩ := DataW.trod_struct Tryz.underlying34 h6
    match us, hulen with
    | [z0, z1], _ =>
      have g0 : DataW.trod enc Tryz.prog W base (fun _ => true) true m 3 [c6] = some z0 := by simpa [Value.cells, cells3] using hg 0 _ rfl
      have g1 : DataW.trod enc Tryz.prog W base (fun _ => true) true m 32 [c7] = some z1 := by simpa [Value.cells, cells32] using hg 1 _ rfl
      obtain ⟨k, e0, _, _⟩ := DataW.trod_int Tryz.underlying3 h0
      obtain ⟨s, e1, _, _⟩ := DataW.trod_string Tryz.underlying9 h1
      obtain ⟨t, e3, _, _⟩ := DataW.trod_int Tryz.underlying31 h3
      obtain ⟨o, e4, _, _⟩ := DataW.trod_int Tryz.underlying3 h4
      obtain ⟨nn, e5, _, _⟩ := DataW.trod_int Tryz.underlying3 h5
      obtain ⟨q, e6, _, _⟩ := DataW.trod_int Tryz.underlying3 g0
      have hd : d = .agg ([y0, y1, y2, y3, y4, y5, y6].map (·.1)) := congrArg Prod.fst hx
      have hw1 : ∀ a ∈ DataW.weightsEach Tryz.prog [3, 9, 30, 31, 3, 3, 34] ([y0, y1, y2, y3, y4, y5, y6].map (·.1)), a ≤ reachBytes := by
        intro a ha
        refine hw a ?_
        rw [hd]
        unfold DataW.weights
        rw [Tryz.underlying36]
        exact ha
      have hd6 : y6.1 = .agg ([z0, z1].map (·.1)) := congrArg Prod.fst hu
      have hw6 : ∀ a ∈ DataW.weightsEach Tryz.prog [3, 32] ([z0, z1].map (·.1)), a ≤ reachBytes := by
        intro a ha
        refine hw1 a (DataW.weights_mem_each (j := 6) (t := 34) (d := y6.1) rfl rfl a ?_)
        rw [hd6]
        unfold DataW.weights
        rw [Tryz.underlying34]
        exact ha
      obtain ⟨ds, i2, _, l2⟩ := open_slw Tryz.underlying30 Tryz.underlying5 cells5 h2 (fun a ha => hw1 a (DataW.weights_mem_each (j := 2) (t := 30) (d := y2.1) rfl rfl a ha))
      obtain ⟨ts, i7, _, l7⟩ := open_slw Tryz.underlying32 Tryz.underlying3 cells3 g1 (fun a ha => hw6 a (DataW.weights_mem_each (j := 1) (t := 32) (d := z1.1) rfl rfl a ha))
      rw [bytes5, Nat.mul_one] at l2
      rw [bytes3] at l7
      simp only [List.cons.injEq, and_true] at e0 e1 e3 e4 e5 e6
      subst e0 e1 e3 e4 e5 e6
      exact ⟨k, t, o, nn, q, s, c2, c7, ds, ts, rfl, i2, i7, l2, l7⟩
end Go.Proofs.YtbfoocginkdmcaaGreatDoor

/-
  alike: two acts that say the same.
-/

set_option linter.unusedVariables false
set_option maxRecDepth 100000
set_option maxHeartbeats 1000000
namespace Go.Proofs.YtbfoocginkdmcaaGreatDoor
open Go Go.RowKit Go.ArgS
theorem alike_calls (k t o n q : Int) (s : ByteArray) (x y x' y' : Value) (ds ts : List Int) (w : World) (hx : IsSl w .u8 x ds) (hy : IsSl w .i64 y ts) (hx' : IsSl w .u8 x' ds) (hy' : IsSl w .i64 y' ts) (ht : ts.length * 8 ≤ reachBytes) :
    Calls Tryz.prog 10 #[.agg #[.int .i64 k, .string s, x, .int .u64 t, .int .i64 o, .int .i64 n, .int .i64 q, y], .agg #[.int .i64 k, .string s, x', .int .u64 t, .int .i64 o, .int .i64 n, .int .i64 q, y']] w fun e w' =>
      e = .returned (.bool true) ∧ Below w.heap.size w w' := by
  obtain ⟨W, hW⟩ : ∃ W, W = (w.alloc (.cells #[.int .i64 k, .string s, x, .int .u64 t, .int .i64 o, .int .i64 n, .int .i64 q, y] 36)).alloc (.cells #[.int .i64 k, .string s, x', .int .u64 t, .int .i64 o, .int .i64 n, .int .i64 q, y'] 36) := ⟨_, rfl⟩
  have t1 : (convert 30 9 x).run Tryz.prog W = .ok (.string (strOfNums ds)) W := IsSl.text Tryz.underlying30 Tryz.underlying5 Tryz.underlying9 (by rw [hW]; exact (hx.alloc _).alloc _)
  have t2 : (convert 30 9 x').run Tryz.prog W = .ok (.string (strOfNums ds)) W := IsSl.text Tryz.underlying30 Tryz.underlying5 Tryz.underlying9 (by rw [hW]; exact (hx'.alloc _).alloc _)
  have hyW : IsSl W .i64 y ts := by rw [hW]; exact (hy.alloc _).alloc _
  have hyW' : IsSl W .i64 y' ts := by rw [hW]; exact (hy'.alloc _).alloc _
  have bel : Below w.heap.size w W := by rw [hW]; exact ((Below.refl _ _).alloc (Nat.le_refl _) _).alloc (by simp) _
  obtain ⟨ay, cy, ey⟩ := hy.slice
  obtain ⟨ay', cy', ey'⟩ := hy'.slice
  clear hx hy hx' hy'
  subst ey ey'
  have hlen : (ts.length : Int) ≤ 9223372036854775807 := by simp only [reachBytes] at ht; omega
  subst hW
  go_enter Tryz.func10, Tryz.ntmps10
  go_wp2
  have B1 := (Box.new w #[.int .i64 k, .string s, x, .int .u64 t, .int .i64 o, .int .i64 n, .int .i64 q, .slice ay ts.length cy] 36).alloc (.cells #[.int .i64 k, .string s, x', .int .u64 t, .int .i64 o, .int .i64 n, .int .i64 q, .slice ay' ts.length cy'] 36)
  have B2 := Box.new (w.alloc (.cells #[.int .i64 k, .string s, x, .int .u64 t, .int .i64 o, .int .i64 n, .int .i64 q, .slice ay ts.length cy] 36)) #[.int .i64 k, .string s, x', .int .u64 t, .int .i64 o, .int .i64 n, .int .i64 q, .slice ay' ts.length cy'] 36
  simp only [World.size_alloc] at B2
  go_loopw [5] (fun i wr => ∃ j : Nat, j ≤ ts.length ∧ i = .int .i64 j ∧ Box wr w.heap.size [.int .i64 k, .string s, x, .int .u64 t, .int .i64 o, .int .i64 n, .int .i64 q, .slice ay ts.length cy] ∧ Box wr (w.heap.size + 1) [.int .i64 k, .string s, x', .int .u64 t, .int .i64 o, .int .i64 n, .int .i64 q, .slice ay' ts.length cy'] ∧ Below w.heap.size w wr ∧ IsSl wr .i64 (.slice ay ts.length cy) ts ∧ IsSl wr .i64 (.slice ay' ts.length cy') ts) (fun i _ => ts.length - (intOf i).toNat)
  case atStart => exact ⟨0, Nat.zero_le _, rfl, B1, B2, bel, hyW, hyW'⟩
  case round =>
    clear hyW hyW' B1 B2 t1 t2 bel
    obtain ⟨j, hj, rfl, B1, B2, bel, hyW, hyW'⟩ := hrel
    have c7 := B1.at 7 rfl
    have d7 := B2.at 7 rfl
    by_cases hlt : j < ts.length
    · have hlt' : (j : Int) < (ts.length : Int) := by omega
      have hyV := hyW
      have hyV' := hyW'
      rcases hyW with ⟨h1, h2⟩ | ⟨a, cap, ea, hc⟩
      · rw [h2] at hlt
        cases hlt
      rcases hyW' with ⟨h1, h2⟩ | ⟨a', cap', ea', hc'⟩
      · rw [h2] at hlt
        cases hlt
      have hcj := hc j ts[j] (List.getElem?_eq_getElem hlt)
      have hcj' := hc' j ts[j] (List.getElem?_eq_getElem hlt)
      cases ea
      cases ea'
      clear hc hc'
      go_wp2_with fail
      go_region
      go_wp2
      refine ⟨⟨j + 1, hlt, ?_, B1, B2, bel.drew, hyV, hyV'⟩, ?_⟩
      · first | rfl | trivial | simp
      · simp [intOf]; omega
    · have hlt' : ¬ (j : Int) < (ts.length : Int) := by omega
      go_wp2
      go_ret
      exact ⟨rfl, bel⟩
theorem c9 (n : Int) (w : World) : Calls Tryz.prog 9 #[.int .i64 n] w fun e w' => e = .returned (.int .i64 n) ∧ Below w.heap.size w w' := by
  go_enter Tryz.func9, Tryz.ntmps9
  go_wp2
  first | go_ret2 | go_ret
  first | exact ⟨rfl, Below.refl _ _⟩ | exact ⟨rfl, (Below.refl _ _).alloc (Nat.le_refl _) _⟩
end Go.Proofs.YtbfoocginkdmcaaGreatDoor
