/-
  Slices of numbers that came in, read: nil, or their elements' cells; copied by append([]T{}, xs...).
-/
import Derived.WalkKit
import Derived.ChangeSlices
import Derived.ChangeMaps5
import Derived.Laws.BytesArg
import Derived.SizedLaws
import Derived.Laws.AppendOwnNone
import Derived.Test.YtbfoocginkdmcaaGreatDoorProg
import Derived.ProofKit
import Derived.OpenShut
import Derived.ChangeOld
import Derived.Lib.SmallJoins
import Derived.WalkSpells
import Derived.Handy
import Derived.Deep.RegionWith

set_option linter.unusedVariables false
set_option maxRecDepth 100000
namespace Go.ArgS
open Go Go.RowKit
def IsSl (w : World) (k : IntKind) (v : Value) (zs : List Int) : Prop :=
  (v = .slice none 0 0 ∧ zs = []) ∨ ∃ (a : Addr) (cap : Nat), v = .slice (some a) zs.length cap ∧ ∀ (j : Nat) x, zs[j]? = some x → w.cell? (a.add j) = some (.int k x)
theorem add_block (a : Addr) (j : Nat) : (a.add j).block = a.block := by
  unfold Addr.add
  split <;> rfl
theorem IsSl.kept {w w' : World} {k : IntKind} {v : Value} {zs : List Int} (h : IsSl w k v zs) (hb : ∀ b, b < w.heap.size → w'.heap[b]? = w.heap[b]?) : IsSl w' k v zs := by
  rcases h with h | ⟨a, cap, rfl, hc⟩
  · exact .inl h
  · refine .inr ⟨a, cap, rfl, fun j x hj => ?_⟩
    have h := hc j x hj
    exact (World.cell?_of_block (hb _ (World.block_lt_of_cell? w _ h))).trans h
theorem IsSl.below {w w' : World} {k : IntKind} {v : Value} {zs : List Int} (h : IsSl w k v zs) (hb : Below w.heap.size w w') : IsSl w' k v zs := h.kept hb.block
theorem IsSl.alloc {w : World} {k : IntKind} {v : Value} {zs : List Int} (h : IsSl w k v zs) (o : Obj) : IsSl (w.alloc o) k v zs := h.below ((Below.refl _ _).alloc (Nat.le_refl _) o)
theorem IsSl.of_own {w : World} {B : Nat} {e : TypeId} {k : IntKind} {v : Value} {n : Nat} {zs : List Int} (hn : n = zs.length) (h : w.ownsRow B e 1 v n (zs.map (Value.int k))) : IsSl w k v zs := by
  subst hn
  rcases h.2 with ⟨rfl, h0⟩ | ⟨g, cap, cur, rfl, hb, hg, _, hm, hs, htake⟩
  · exact .inl ⟨rfl, List.length_eq_zero_iff.1 h0⟩
  · exact .inr ⟨⟨g, 0, none⟩, cap, rfl, fun j x hj => h.cells rfl j _ (by rw [List.getElem?_map, hj]; rfl)⟩
theorem IsSl.text {P : Program} {w : World} {v : Value} {zs : List Int} {s e d : TypeId} (hs : P.underlying s = some (.slice e)) (he : P.underlying e = some (.int .u8)) (hd : P.underlying d = some .string)
    (h : IsSl w .u8 v zs) : (convert s d v).run P w = .ok (.string (strOfNums zs)) w := by
  rcases h with ⟨rfl, rfl⟩ | ⟨a, cap, rfl, hc⟩
  · rw [run_convert_bytes_nil w s e hs he 0 0 d hd]
    rfl
  · have hl := run_loadCells_list (P := P) w a (zs.map (Value.int .u8)) (fun j u hj => by
      rw [List.getElem?_map, Option.map_eq_some_iff] at hj
      obtain ⟨x, hx, rfl⟩ := hj
      exact hc j x hx)
    rw [List.length_map] at hl
    rw [run_convert_bytes_string w s d e _ zs.length cap hs he hd, run_bytesToString w a zs.length cap zs hl, foldl_push_bytes]
    simp [strOfNums, ByteArray.empty, ByteArray.emptyWithCapacity]
    rfl
end Go.ArgS

/-
  Slices of numbers that came in: a bound on their bytes by the row's weights.
-/

namespace Go.ArgS
open Go Go.RowKit
end Go.ArgS

/-
  append(own row, xs...) where xs is a slice of numbers that came in, nil or not.
-/

namespace Go.ArgS
open Go Go.RowKit
theorem one_each' (k : IntKind) (zs : List Int) : ∀ u ∈ zs.map (Value.int k), u.oneCell' = true := by
  intro u hu
  obtain ⟨n, _, rfl⟩ := List.mem_map.1 hu
  rfl
theorem wpList_append_sl {P : Program} {w : World} {ops : Array Oper} {rest : List Oper} {o : Oper} {a : Act} {Q : Exit → Act → World → Prop} (hgd : o.guard = none) (s x : Operand) (t : TypeId)
    (ho : o.op = .call { callee := .builtin .append, args := #[s, x], argTypes := #[t, t] })
    (base : Nat) (e : TypeId) (i : TypeInfo) (k : IntKind) (bytes : Nat) (ht : P.underlying t = some (.slice e)) (hi : P.info? e = some i) (hz : i.zero = some (.int k 0))
    (hsize : i.size = 1) (hby : i.bytes = bytes)
    (v : Value) (n : Nat) (xs : List Value) (hs : a.eval s = v) (hown : w.ownsRow base e 1 v n xs)
    (y : Value) (zs : List Int) (hx : a.eval x = y) (hsl : IsSl w k y zs)
    (h63 : n + zs.length ≤ maxLen) (hbytes : (n + zs.length) * bytes ≤ 140737488355328) (hbase : base ≤ w.heap.size)
    (h : ∀ v' w', w'.ownsRow base e 1 v' (n + zs.length) (xs ++ zs.map (Value.int k)) → w.grownBy w' v.ownBlock → wpList P ops Q rest (a.put o.dst v') w') : wpList P ops Q (o :: rest) a w := by
  rcases hsl with ⟨rfl, rfl⟩ | ⟨ad, c, rfl, hc⟩
  · refine wpList_append_own_none hgd s x t ho base e i 1 ht hi v n xs hs hown hx ?_
    exact h v w (by simpa using hown) ⟨rfl, rfl, rfl, Nat.le_refl _, fun _ _ _ => rfl⟩
  · refine wpList_append_own _ hgd s x t ho base e i (.int k 0) 1 bytes ht hi hz hsize hby rfl (by decide) v n xs hs hown ad zs.length c (zs.map (Value.int k)) hx (by simp) ?_ (one_each' k zs) h63 hbytes hbase fun v' w' h1 h2 _ => h v' w' h1 h2
    intro j u hj
    rw [List.getElem?_map, Option.map_eq_some_iff] at hj
    obtain ⟨z, hz, rfl⟩ := hj
    exact hc j z hz
theorem own_new {w : World} {e : TypeId} {B b : Nat} (hb : b = w.heap.size) (h : B ≤ w.heap.size) : (w.alloc (.cells #[] e)).ownsRow B e 1 (.slice (some ⟨b, 0, none⟩) 0 0) 0 [] := by
  subst hb
  exact World.ownsRow_made w #[] 0 h (by decide) rfl
def Box (w : World) (b : Nat) (cs : List Value) : Prop := b < w.heap.size ∧ (∀ j : Nat, w.cell? ⟨b, j, none⟩ = cs[j]?) ∧ ∀ j : Nat, w.frozen? ⟨b, j, none⟩ = false
theorem Box.new (w : World) (cs : Array Value) (t : TypeId) : Box (w.alloc (.cells cs t)) w.heap.size cs.toList :=
  ⟨by simp, fun j => (World.cell?_alloc_new w _ _ j).trans (by simp), fun j => World.frozen?_alloc_new w _ _ j⟩
theorem Box.of_block {w w' : World} {b : Nat} {cs : List Value} (h : Box w b cs) (hs : b < w'.heap.size) (hb : w'.heap[b]? = w.heap[b]?) : Box w' b cs :=
  ⟨hs, fun j => (World.cell?_of_block (a := ⟨b, j, none⟩) hb).trans (h.2.1 j), fun j => (World.frozen?_of_block (a := ⟨b, j, none⟩) hb).trans (h.2.2 j)⟩
theorem Box.alloc {w : World} {b : Nat} {cs : List Value} (h : Box w b cs) (o : Obj) : Box (w.alloc o) b cs :=
  h.of_block (by have := h.1; simp; omega) (Below.heap_alloc w o b h.1)
theorem Box.grown {w w' : World} {b : Nat} {cs : List Value} {row : Option Nat} (h : Box w b cs) (hg : w.grownBy w' row) (hne : some b ≠ row) : Box w' b cs :=
  h.of_block (Nat.lt_of_lt_of_le h.1 hg.size) (hg.block b h.1 hne)
theorem Box.below {w w' : World} {n b : Nat} {cs : List Value} (h : Box w b cs) (hb : Below n w w') (hn : b < n) : Box w' b cs :=
  h.of_block (Nat.lt_of_lt_of_le h.1 hb.size) (hb.block b hn)
theorem Box.set_other {w : World} {b : Nat} {cs : List Value} (h : Box w b cs) (a : Addr) (v : Value) (hne : b ≠ a.block) : Box (w.setCell a v) b cs :=
  h.of_block (by simp [World.setCell]; exact h.1) (Below.heap_setCell w a v b hne)
theorem Box.set {w : World} {b : Nat} {cs : List Value} (h : Box w b cs) (j : Nat) (v : Value) (hj : j < cs.length) : Box (w.setCell ⟨b, j, none⟩ v) b (cs.set j v) := by
  refine ⟨by simp [World.setCell]; exact h.1, fun i => ?_, fun i => (World.frozen?_setCell _ _ _ _).trans (h.2.2 i)⟩
  by_cases hi : j = i
  · subst hi
    rw [World.cell?_setCell_same (u := cs[j]) _ _ _ (by rw [h.2.1 j]; exact List.getElem?_eq_getElem hj)]
    rw [List.getElem?_set_self hj]
  · rw [World.cell?_setCell_other _ _ _ _ (by simp), h.2.1 i, List.getElem?_set_ne hi]
theorem Box.at {w : World} {b : Nat} {cs : List Value} (h : Box w b cs) (j : Nat) {v : Value} (hv : cs[j]? = some v) : w.cell? ⟨b, j, none⟩ = some v := (h.2.1 j).trans hv
theorem own_slice {w : World} {B : Nat} {e : TypeId} {v : Value} {n : Nat} {xs : List Value} (h : w.ownsRow B e 1 v n xs) : ∃ a l c, v = .slice a l c := by
  rcases h.2 with ⟨h0, _⟩ | ⟨g, cap, cur, h0, _⟩
  · exact ⟨_, _, _, h0⟩
  · exact ⟨_, _, _, h0⟩
theorem IsSl.slice {w : World} {k : IntKind} {v : Value} {zs : List Int} (h : IsSl w k v zs) : ∃ a c, v = .slice a zs.length c := by
  rcases h with ⟨rfl, rfl⟩ | ⟨a, cap, rfl, _⟩
  · exact ⟨_, _, rfl⟩
  · exact ⟨_, _, rfl⟩
def OwnSl (w : World) (B : Nat) (k : IntKind) (v : Value) (zs : List Int) : Prop := IsSl w k v zs ∧ ∀ a l c, v = .slice (some a) l c → B ≤ a.block ∧ a.block < w.heap.size
theorem OwnSl.is {w : World} {B : Nat} {k : IntKind} {v : Value} {zs : List Int} (h : OwnSl w B k v zs) : IsSl w k v zs := h.1
theorem OwnSl.keep {w w' : World} {B : Nat} {k : IntKind} {v : Value} {zs : List Int} (h : OwnSl w B k v zs) (hs : w.heap.size ≤ w'.heap.size) (hk : ∀ g, B ≤ g → g < w.heap.size → w'.heap[g]? = w.heap[g]?) : OwnSl w' B k v zs := by
  refine ⟨?_, fun a l c e => ⟨(h.2 a l c e).1, Nat.lt_of_lt_of_le (h.2 a l c e).2 hs⟩⟩
  rcases h.1 with h1 | ⟨a, cap, rfl, hc⟩
  · exact .inl h1
  · obtain ⟨hl1, hl2⟩ := h.2 a _ _ rfl
    refine .inr ⟨a, cap, rfl, fun j x hj => ?_⟩
    exact (World.cell?_of_block (by rw [add_block]; exact hk _ hl1 hl2)).trans (hc j x hj)
theorem OwnSl.mono {w : World} {B B' : Nat} {k : IntKind} {v : Value} {zs : List Int} (h : OwnSl w B k v zs) (hb : B' ≤ B) : OwnSl w B' k v zs := ⟨h.1, fun a l c e => ⟨Nat.le_trans hb (h.2 a l c e).1, (h.2 a l c e).2⟩⟩
theorem OwnSl.below {w w' : World} {B : Nat} {k : IntKind} {v : Value} {zs : List Int} (h : OwnSl w B k v zs) (hb : Below w.heap.size w w') : OwnSl w' B k v zs := h.keep hb.size fun g _ hg => hb.block g hg
theorem OwnSl.alloc {w : World} {B : Nat} {k : IntKind} {v : Value} {zs : List Int} (h : OwnSl w B k v zs) (o : Obj) : OwnSl (w.alloc o) B k v zs := h.below ((Below.refl _ _).alloc (Nat.le_refl _) o)
theorem OwnSl.set {w : World} {B : Nat} {k : IntKind} {v : Value} {zs : List Int} (h : OwnSl w B k v zs) (a : Addr) (u : Value) (ha : a.block < B) : OwnSl (w.setCell a u) B k v zs :=
  h.keep (by simp [World.setCell]) fun g hg _ => Below.heap_setCell w a u g (by omega)
theorem OwnSl.of_own {w : World} {B : Nat} {e : TypeId} {k : IntKind} {v : Value} {n : Nat} {zs : List Int} (hn : n = zs.length) (h : w.ownsRow B e 1 v n (zs.map (Value.int k))) : OwnSl w B k v zs :=
  ⟨IsSl.of_own hn h, fun a l c e => h.lt a.block (by rw [e]; rfl)⟩
def set8 (w : World) (b o : Nat) (v0 v1 v2 v3 v4 v5 v6 v7 : Value) : World :=
  (((((((w.setCell ⟨b, o, none⟩ v0).setCell ⟨b, o + 1, none⟩ v1).setCell ⟨b, o + 2, none⟩ v2).setCell ⟨b, o + 3, none⟩ v3).setCell ⟨b, o + 4, none⟩ v4).setCell ⟨b, o + 5, none⟩ v5).setCell ⟨b, o + 6, none⟩ v6).setCell ⟨b, o + 7, none⟩ v7
end Go.ArgS

/-
  What an act that came in is, cell for cell.
-/

namespace Go.Proofs.YtbfoocginkdmcaaGreatDoor
open Go Go.ChangeShapes Go.WideShapes Go.ChangeAt Go.RowKit Go.Joins Go.ArgS
theorem cells36 : Tryz.prog.cellsOf 36 = 8 := by kernel_rfl
theorem cells34 : Tryz.prog.cellsOf 34 = 2 := by kernel_rfl
theorem cells3 : Tryz.prog.cellsOf 3 = 1 := by kernel_rfl
theorem cells5 : Tryz.prog.cellsOf 5 = 1 := by kernel_rfl
theorem cells9 : Tryz.prog.cellsOf 9 = 1 := by kernel_rfl
theorem cells30 : Tryz.prog.cellsOf 30 = 1 := by kernel_rfl
theorem cells31 : Tryz.prog.cellsOf 31 = 1 := by kernel_rfl
theorem cells32 : Tryz.prog.cellsOf 32 = 1 := by kernel_rfl
end Go.Proofs.YtbfoocginkdmcaaGreatDoor

/-
  Copies of slices of numbers: slices.Clone at bytes (61) and at ints (62).
-/

namespace Go.Proofs.YtbfoocginkdmcaaGreatDoor
open Go Go.RowKit Go.ArgS
theorem inf5 : (Tryz.prog.info? 5).map (fun i => (i.zero, i.size, i.bytes)) = some (some (.int .u8 0), 1, 1) := by kernel_rfl
theorem inf3 : (Tryz.prog.info? 3).map (fun i => (i.zero, i.size, i.bytes)) = some (some (.int .i64 0), 1, 8) := by kernel_rfl
end Go.Proofs.YtbfoocginkdmcaaGreatDoor

/-
  act and copied: an act in memory of its own.
-/

namespace Go.Proofs.YtbfoocginkdmcaaGreatDoor
open Go Go.RowKit Go.ArgS
theorem act_calls (k t o n q : Int) (s : ByteArray) (x y : Value) (ds ts : List Int) (w : World) (hx : IsSl w .u8 x ds) (hy : IsSl w .i64 y ts) (hd : ds.length ≤ reachBytes) (ht : ts.length * 8 ≤ reachBytes) :
    Calls Tryz.prog 14 #[.agg #[.int .i64 k, .string s, x, .int .u64 t, .int .i64 o, .int .i64 n, .int .i64 q, y]] w fun e w' =>
      ∃ x' y', e = .returned (.agg #[.int .i64 k, .string s, x', .int .u64 t, .int .i64 o, .int .i64 n, .int .i64 q, y']) ∧ OwnSl w' w.heap.size .u8 x' ds ∧ OwnSl w' w.heap.size .i64 y' ts ∧ Below w.heap.size w w' := by
  obtain ⟨i0, hi, hz0, hz1, hz2⟩ := info_parts inf5
  obtain ⟨i3, hi3, hz3, hs3, hb3⟩ := info_parts inf3
  simp only [reachBytes] at hd ht
  have hd63 : 0 + ds.length ≤ maxLen := by unfold maxLen; omega
  have ht63 : 0 + ts.length ≤ maxLen := by unfold maxLen; omega
  go_enter Tryz.func14, Tryz.ntmps14
  go_wp2_with (at_builtin; generalize hX : wpList _ _ _ _ _ _ = X)
  rw [← hX]
  refine wpList_append_sl rfl _ _ 30 rfl (w.heap.size + 1 + 1) 5 i0 .u8 1 Tryz.underlying30 hi hz0 hz1 hz2 (.slice (some ⟨w.heap.size + 1 + 1, 0, none⟩) 0 0) 0 [] rfl (own_new (by simp) (by simp)) x ds rfl (((hx.alloc _).alloc _).alloc _) hd63 (by omega) (by simp) ?_
  intro x' w4 hown hg
  simp only [Nat.zero_add, List.nil_append] at hown
  have B1 := (((Box.new w #[.int .i64 k, .string s, x, .int .u64 t, .int .i64 o, .int .i64 n, .int .i64 q, y] 36).alloc (.cells #[.int .i64 0, .string ⟨#[]⟩, .slice none 0 0, .int .u64 0, .int .i64 0, .int .i64 0, .int .i64 0, .slice none 0 0] 36)).alloc (.cells #[] 5)).grown hg (by simp only [Value.ownBlock, ne_eq, Option.some.injEq]; omega)
  have R1 := (((Box.new (w.alloc (.cells #[.int .i64 k, .string s, x, .int .u64 t, .int .i64 o, .int .i64 n, .int .i64 q, y] 36)) #[.int .i64 0, .string ⟨#[]⟩, .slice none 0 0, .int .u64 0, .int .i64 0, .int .i64 0, .int .i64 0, .slice none 0 0] 36)).alloc (.cells #[] 5)).grown hg (by simp [Value.ownBlock])
  simp only [World.size_alloc] at R1
  have b4 := ((((Below.refl w.heap.size w).alloc (Nat.le_refl _) (.cells #[.int .i64 k, .string s, x, .int .u64 t, .int .i64 o, .int .i64 n, .int .i64 q, y] 36)).alloc (by simp) (.cells #[.int .i64 0, .string ⟨#[]⟩, .slice none 0 0, .int .u64 0, .int .i64 0, .int .i64 0, .int .i64 0, .slice none 0 0] 36)).alloc (by simp; omega) (.cells #[] 5)).grown hg (by simp; omega) (by simp [Value.ownBlock]; omega)
  clear hX hg
  obtain ⟨a1, l1, p1, rfl⟩ := own_slice hown
  have c2 := B1.at 2 rfl
  have f2 := B1.2.2 2
  have B2 := B1.set 2 (.slice a1 l1 p1) (by simp)
  simp only [List.set] at B2
  have B3 := B2.alloc (.cells #[] 3)
  have R3 := (R1.set_other ⟨w.heap.size, 2, none⟩ (.slice a1 l1 p1) (by simp)).alloc (.cells #[] 3)
  have hs4 : (w4.setCell ⟨w.heap.size, 2, none⟩ (.slice a1 l1 p1)).heap.size = w4.heap.size := by simp [World.setCell]
  have b6 := (b4.setCell (p := ⟨w.heap.size, 2, none⟩) (Nat.le_refl _) (.slice a1 l1 p1)).alloc (by rw [hs4]; exact b4.size) (.cells #[] 3)
  have c7 := B3.at 7 rfl
  go_wp2_with (at_builtin; generalize hX : wpList _ _ _ _ _ _ = X)
  rw [← hX]
  refine wpList_append_sl rfl _ _ 32 rfl w4.heap.size 3 i3 .i64 8 Tryz.underlying32 hi3 hz3 hs3 hb3 (.slice (some ⟨w4.heap.size, 0, none⟩) 0 0) 0 [] rfl (own_new (by simp [World.setCell]) (by simp [World.setCell])) y ts rfl (hy.below b6) ht63 (by omega) (by simp [World.setCell]) ?_
  intro y' w7 hown2 hg2
  simp only [Nat.zero_add, List.nil_append] at hown2
  have B7 := B3.grown hg2 (by have := B1.1; simp [Value.ownBlock]; omega)
  have R7 := R3.grown hg2 (by have := R1.1; simp [Value.ownBlock]; omega)
  have b7 := b6.grown hg2 (by simp [World.setCell]; have := b4.size; omega) (by have := b4.size; simp [Value.ownBlock]; omega)
  clear hX
  obtain ⟨a2, l2, p2, rfl⟩ := own_slice hown2
  have c7' := B7.at 7 rfl
  have f7 := B7.2.2 7
  have B8 := B7.set 7 (.slice a2 l2 p2) (by simp)
  simp only [List.set] at B8
  have R8 := R7.set_other ⟨w.heap.size, 7, none⟩ (.slice a2 l2 p2) (by simp)
  have d0 := B8.at 0 rfl
  have d1 := B8.at 1 rfl
  have d2 := B8.at 2 rfl
  have d3 := B8.at 3 rfl
  have d4 := B8.at 4 rfl
  have d5 := B8.at 5 rfl
  have d6 := B8.at 6 rfl
  have d7 := B8.at 7 rfl
  have fr := R8.2.2
  have e0 := R8.at 0 rfl
  have e1 := R8.at 1 rfl
  have e2 := R8.at 2 rfl
  have e3 := R8.at 3 rfl
  have e4 := R8.at 4 rfl
  have e5 := R8.at 5 rfl
  have e6 := R8.at 6 rfl
  have e7 := R8.at 7 rfl
  go_wp2
  have keep7 : ∀ g, w.heap.size + 1 + 1 ≤ g → g < w4.heap.size → w7.heap[g]? = w4.heap[g]? := fun g h1 h2 => by
    rw [hg2.block g (by simp [World.setCell]; omega) (by simp only [Value.ownBlock, ne_eq, Option.some.injEq]; omega), Below.heap_alloc _ _ _ (by rw [hs4]; exact h2), Below.heap_setCell _ _ _ _ (by simp; omega)]
  have b8 := b7.setCell (p := ⟨w.heap.size, 7, none⟩) (Nat.le_refl _) (.slice a2 l2 p2)
  have hB8 : w.heap.size ≤ w.heap.size + 1 := Nat.le_succ _
  have b16 := (((((((b8.setCell (p := ⟨w.heap.size + 1, 0, none⟩) hB8 (.int .i64 k)).setCell (p := ⟨w.heap.size + 1, 1, none⟩) hB8 (.string s)).setCell (p := ⟨w.heap.size + 1, 2, none⟩) hB8 (.slice a1 l1 p1)).setCell (p := ⟨w.heap.size + 1, 3, none⟩) hB8 (.int .u64 t)).setCell (p := ⟨w.heap.size + 1, 4, none⟩) hB8 (.int .i64 o)).setCell (p := ⟨w.heap.size + 1, 5, none⟩) hB8 (.int .i64 n)).setCell (p := ⟨w.heap.size + 1, 6, none⟩) hB8 (.int .i64 q)).setCell (p := ⟨w.heap.size + 1, 7, none⟩) hB8 (.slice a2 l2 p2)
  have R16 := (((((((R8.set 0 (.int .i64 k) (by simp)).set 1 (.string s) (by simp)).set 2 (.slice a1 l1 p1) (by simp)).set 3 (.int .u64 t) (by simp)).set 4 (.int .i64 o) (by simp)).set 5 (.int .i64 n) (by simp)).set 6 (.int .i64 q) (by simp)).set 7 (.slice a2 l2 p2) (by simp)
  simp only [List.set] at R16
  have keepW : ∀ g, w.heap.size + 1 + 1 ≤ g → g < w7.heap.size → ((((((((((w7.setCell ⟨w.heap.size, 7, none⟩ (.slice a2 l2 p2)).setCell ⟨w.heap.size + 1, 0, none⟩ (.int .i64 k)).setCell ⟨w.heap.size + 1, 1, none⟩ (.string s)).setCell ⟨w.heap.size + 1, 2, none⟩ (.slice a1 l1 p1)).setCell ⟨w.heap.size + 1, 3, none⟩ (.int .u64 t)).setCell ⟨w.heap.size + 1, 4, none⟩ (.int .i64 o)).setCell ⟨w.heap.size + 1, 5, none⟩ (.int .i64 n)).setCell ⟨w.heap.size + 1, 6, none⟩ (.int .i64 q)).setCell ⟨w.heap.size + 1, 7, none⟩ (.slice a2 l2 p2))).heap[g]? = w7.heap[g]? := fun g h1 h2 => by
    rw [Below.heap_setCell _ _ _ _ (by simp; omega), Below.heap_setCell _ _ _ _ (by simp; omega), Below.heap_setCell _ _ _ _ (by simp; omega), Below.heap_setCell _ _ _ _ (by simp; omega), Below.heap_setCell _ _ _ _ (by simp; omega), Below.heap_setCell _ _ _ _ (by simp; omega), Below.heap_setCell _ _ _ _ (by simp; omega), Below.heap_setCell _ _ _ _ (by simp; omega), Below.heap_setCell _ _ _ _ (by simp; omega)]
  have h74 : w4.heap.size ≤ w7.heap.size := Nat.le_trans (by simp [World.setCell]) hg2.size
  have h34 := R1.1
  have hsz7 : w7.heap.size ≤ (((((((((w7.setCell ⟨w.heap.size, 7, none⟩ (.slice a2 l2 p2)).setCell ⟨w.heap.size + 1, 0, none⟩ (.int .i64 k)).setCell ⟨w.heap.size + 1, 1, none⟩ (.string s)).setCell ⟨w.heap.size + 1, 2, none⟩ (.slice a1 l1 p1)).setCell ⟨w.heap.size + 1, 3, none⟩ (.int .u64 t)).setCell ⟨w.heap.size + 1, 4, none⟩ (.int .i64 o)).setCell ⟨w.heap.size + 1, 5, none⟩ (.int .i64 n)).setCell ⟨w.heap.size + 1, 6, none⟩ (.int .i64 q)).setCell ⟨w.heap.size + 1, 7, none⟩ (.slice a2 l2 p2)).heap.size := by simp [World.setCell]
  have hsz4 := Nat.le_trans h74 hsz7
  clear d0 d1 d2 d3 d4 d5 d6 d7 e0 e1 e2 e3 e4 e5 e6 e7 fr
  generalize (((((((((w7.setCell ⟨w.heap.size, 7, none⟩ (.slice a2 l2 p2)).setCell ⟨w.heap.size + 1, 0, none⟩ (.int .i64 k)).setCell ⟨w.heap.size + 1, 1, none⟩ (.string s)).setCell ⟨w.heap.size + 1, 2, none⟩ (.slice a1 l1 p1)).setCell ⟨w.heap.size + 1, 3, none⟩ (.int .u64 t)).setCell ⟨w.heap.size + 1, 4, none⟩ (.int .i64 o)).setCell ⟨w.heap.size + 1, 5, none⟩ (.int .i64 n)).setCell ⟨w.heap.size + 1, 6, none⟩ (.int .i64 q)).setCell ⟨w.heap.size + 1, 7, none⟩ (.slice a2 l2 p2)) = W at *
  have e0 := R16.at 0 rfl
  have e1 := R16.at 1 rfl
  have e2 := R16.at 2 rfl
  have e3 := R16.at 3 rfl
  have e4 := R16.at 4 rfl
  have e5 := R16.at 5 rfl
  have e6 := R16.at 6 rfl
  have e7 := R16.at 7 rfl
  try simp only [Exit.inBlock, Exit.then]
  refine bodyPost_ret (by simp [results, Tryz.results14, go_sem, e0, e1, e2, e3, e4, e5, e6, e7]; try rfl) rfl ?_
  refine ⟨_, _, rfl, ((OwnSl.of_own rfl hown).keep hsz4 fun g h1 h2 => ?_).mono (by omega), ((OwnSl.of_own rfl hown2).keep hsz7 fun g h1 h2 => ?_).mono (by omega), b16⟩
  · exact (keepW g h1 (by omega)).trans (keep7 g h1 h2)
  · exact keepW g (by omega) h2
end Go.Proofs.YtbfoocginkdmcaaGreatDoor

/-
  copied: an act in memory of its own, nil lists nil.
-/

namespace Go.Proofs.YtbfoocginkdmcaaGreatDoor
open Go Go.RowKit Go.ArgS
end Go.Proofs.YtbfoocginkdmcaaGreatDoor

/-
  alike: two acts that say the same.
-/

set_option maxHeartbeats 1000000
namespace Go.Proofs.YtbfoocginkdmcaaGreatDoor
open Go Go.RowKit Go.ArgS
theorem alike_calls (k t o n q : Int) (s : ByteArray) (x y x' y' : Value) (ds ts : List Int) (w : World) (hx : IsSl w .u8 x ds) (hy : IsSl w .i64 y ts) (hx' : IsSl w .u8 x' ds) (hy' : IsSl w .i64 y' ts) (ht : ts.length * 8 ≤ reachBytes) :
    Calls Tryz.prog 10 #[.agg #[.int .i64 k, .string s, x, .int .u64 t, .int .i64 o, .int .i64 n, .int .i64 q, y], .agg #[.int .i64 k, .string s, x', .int .u64 t, .int .i64 o, .int .i64 n, .int .i64 q, y']] w fun e w' =>
      e = .returned (.bool true) ∧ Below w.heap.size w w' := by
  obtain ⟨W, hW⟩ : ∃ W, W = (w.alloc (.cells #[.int .i64 k, .string s, x, .int .u64 t, .int .i64 o, .int .i64 n, .int .i64 q, y] 36)).alloc (.cells #[.int .i64 k, .string s, x', .int .u64 t, .int .i64 o, .int .i64 n, .int .i64 q, y'] 36) := ⟨_, rfl⟩
  have t1 : (convert 30 9 x).run Tryz.prog W = .ok (.string (strOfNums ds)) W := IsSl.text Tryz.underlying30 Tryz.underlying5 Tryz.underlying9 (by rw [hW]; exact (hx.alloc _).alloc _)
  have t2 : (convert 30 9 x').run Tryz.prog W = .ok (.string (strOfNums ds)) W := IsSl.text Tryz.underlying30 Tryz.underlying5 Tryz.underlying9 (by rw [hW]; exact (hx'.alloc _).alloc _)
  have hyW : IsSl W .i64 y ts := by rw [hW]; exact (hy.alloc _).alloc _
  have hyW' : IsSl W .i64 y' ts := by rw [hW]; exact (hy'.alloc _).alloc _
  have bel : Below w.heap.size w W := by rw [hW]; exact ((Below.refl _ _).alloc (Nat.le_refl _) _).alloc (by simp) _
  obtain ⟨ay, cy, ey⟩ := hy.slice
  obtain ⟨ay', cy', ey'⟩ := hy'.slice
  clear hx hy hx' hy'
  subst ey ey'
  have hlen : (ts.length : Int) ≤ 9223372036854775807 := by simp only [reachBytes] at ht; omega
  subst hW
  go_enter Tryz.func10, Tryz.ntmps10
  go_wp2
  have B1 := (Box.new w #[.int .i64 k, .string s, x, .int .u64 t, .int .i64 o, .int .i64 n, .int .i64 q, .slice ay ts.length cy] 36).alloc (.cells #[.int .i64 k, .string s, x', .int .u64 t, .int .i64 o, .int .i64 n, .int .i64 q, .slice ay' ts.length cy'] 36)
  have B2 := Box.new (w.alloc (.cells #[.int .i64 k, .string s, x, .int .u64 t, .int .i64 o, .int .i64 n, .int .i64 q, .slice ay ts.length cy] 36)) #[.int .i64 k, .string s, x', .int .u64 t, .int .i64 o, .int .i64 n, .int .i64 q, .slice ay' ts.length cy'] 36
  simp only [World.size_alloc] at B2
  go_loopw [5] (fun i wr => ∃ j : Nat, j ≤ ts.length ∧ i = .int .i64 j ∧ Box wr w.heap.size [.int .i64 k, .string s, x, .int .u64 t, .int .i64 o, .int .i64 n, .int .i64 q, .slice ay ts.length cy] ∧ Box wr (w.heap.size + 1) [.int .i64 k, .string s, x', .int .u64 t, .int .i64 o, .int .i64 n, .int .i64 q, .slice ay' ts.length cy'] ∧ Below w.heap.size w wr ∧ IsSl wr .i64 (.slice ay ts.length cy) ts ∧ IsSl wr .i64 (.slice ay' ts.length cy') ts) (fun i _ => ts.length - (intOf i).toNat)
  case atStart => exact ⟨0, Nat.zero_le _, rfl, B1, B2, bel, hyW, hyW'⟩
  case round =>
    clear hyW hyW' B1 B2 t1 t2 bel
    obtain ⟨j, hj, rfl, B1, B2, bel, hyW, hyW'⟩ := hrel
    have c7 := B1.at 7 rfl
    have d7 := B2.at 7 rfl
    by_cases hlt : j < ts.length
    · have hlt' : (j : Int) < (ts.length : Int) := by omega
      have hyV := hyW
      have hyV' := hyW'
      rcases hyW with ⟨h1, h2⟩ | ⟨a, cap, ea, hc⟩
      · rw [h2] at hlt
        cases hlt
      rcases hyW' with ⟨h1, h2⟩ | ⟨a', cap', ea', hc'⟩
      · rw [h2] at hlt
        cases hlt
      have hcj := hc j ts[j] (List.getElem?_eq_getElem hlt)
      have hcj' := hc' j ts[j] (List.getElem?_eq_getElem hlt)
      cases ea
      cases ea'
      clear hc hc'
      go_wp2_with fail
      go_region
      go_wp2
      refine ⟨⟨j + 1, hlt, ?_, B1, B2, bel.drew, hyV, hyV'⟩, ?_⟩
      · first | rfl | trivial | simp
      · simp [intOf]; omega
    · have hlt' : ¬ (j : Int) < (ts.length : Int) := by omega
      go_wp2
      go_ret
      exact ⟨rfl, bel⟩
end Go.Proofs.YtbfoocginkdmcaaGreatDoor

/-
  What the server's methods answer without a server.
-/

namespace Go.Proofs.YtbfoocginkdmcaaGreatDoor
open Go Go.RowKit Go.ArgS
theorem c9 (n : Int) (w : World) : Calls Tryz.prog 9 #[.int .i64 n] w fun e w' => e = .returned (.int .i64 n) ∧ Below w.heap.size w w' := by
  go_enter Tryz.func9, Tryz.ntmps9
  go_wp2
  first | go_ret2 | go_ret
  first | exact ⟨rfl, Below.refl _ _⟩ | exact ⟨rfl, (Below.refl _ _).alloc (Nat.le_refl _) _⟩
end Go.Proofs.YtbfoocginkdmcaaGreatDoor
