/-
  Slices of numbers that came in, read: nil, or their elements' cells; copied by append([]T{}, xs...).
-/
import Derived.WalkKit
import Derived.ChangeSlices
import Derived.ChangeMaps5
import Derived.Laws.BytesArg
import Derived.SizedLaws
import Derived.Laws.AppendOwnNone
import Derived.Test.YtbfoocginkdmcaaGreatDoorProg
import Derived.ProofKit
import Derived.OpenShut
import Derived.ChangeOld
import Derived.Lib.SmallJoins
import Derived.WalkSpells
import Derived.Handy
import Derived.Deep.RegionWith

set_option linter.unusedVariables false
set_option maxRecDepth 100000
namespace Go.ArgS
open Go Go.RowKit

/-- A slice of numbers: nil, or its elements' cells behind its address. -/
def IsSl (w : World) (k : IntKind) (v : Value) (zs : List Int) : Prop :=
  (v = .slice none 0 0 ∧ zs = []) ∨ ∃ (a : Addr) (cap : Nat), v = .slice (some a) zs.length cap ∧ ∀ (j : Nat) x, zs[j]? = some x → w.cell? (a.add j) = some (.int k x)

theorem add_block (a : Addr) (j : Nat) : (a.add j).block = a.block := by
  unfold Addr.add
  split <;> rfl

theorem IsSl.kept {w w' : World} {k : IntKind} {v : Value} {zs : List Int} (h : IsSl w k v zs) (hb : ∀ b, b < w.heap.size → w'.heap[b]? = w.heap[b]?) : IsSl w' k v zs := by
  rcases h with h | ⟨a, cap, rfl, hc⟩
  · exact .inl h
  · refine .inr ⟨a, cap, rfl, fun j x hj => ?_⟩
    have h := hc j x hj
    exact (World.cell?_of_block (hb _ (World.block_lt_of_cell? w _ h))).trans h

theorem IsSl.below {w w' : World} {k : IntKind} {v : Value} {zs : List Int} (h : IsSl w k v zs) (hb : Below w.heap.size w w') : IsSl w' k v zs := h.kept hb.block

theorem IsSl.alloc {w : World} {k : IntKind} {v : Value} {zs : List Int} (h : IsSl w k v zs) (o : Obj) : IsSl (w.alloc o) k v zs := h.below ((Below.refl _ _).alloc (Nat.le_refl _) o)

theorem IsSl.of_own {w : World} {B : Nat} {e : TypeId} {k : IntKind} {v : Value} {n : Nat} {zs : List Int} (hn : n = zs.length) (h : w.ownsRow B e 1 v n (zs.map (Value.int k))) : IsSl w k v zs := by
  subst hn
  rcases h.2 with ⟨rfl, h0⟩ | ⟨g, cap, cur, rfl, hb, hg, _, hm, hs, htake⟩
  · exact .inl ⟨rfl, List.length_eq_zero_iff.1 h0⟩
  · exact .inr ⟨⟨g, 0, none⟩, cap, rfl, fun j x hj => h.cells rfl j _ (by rw [List.getElem?_map, hj]; rfl)⟩

/-- Bytes as a text. -/
theorem IsSl.text {P : Program} {w : World} {v : Value} {zs : List Int} {s e d : TypeId} (hs : P.underlying s = some (.slice e)) (he : P.underlying e = some (.int .u8)) (hd : P.underlying d = some .string)
    (h : IsSl w .u8 v zs) : (convert s d v).run P w = .ok (.string (strOfNums zs)) w := by
  rcases h with ⟨rfl, rfl⟩ | ⟨a, cap, rfl, hc⟩
  · rw [run_convert_bytes_nil w s e hs he 0 0 d hd]
    rfl
  · have hl := run_loadCells_list (P := P) w a (zs.map (Value.int .u8)) (fun j u hj => by
      rw [List.getElem?_map, Option.map_eq_some_iff] at hj
      obtain ⟨x, hx, rfl⟩ := hj
      exact hc j x hx)
    rw [List.length_map] at hl
    rw [run_convert_bytes_string w s d e _ zs.length cap hs he hd, run_bytesToString w a zs.length cap zs hl, foldl_push_bytes]
    simp [strOfNums, ByteArray.empty, ByteArray.emptyWithCapacity]
    rfl

/-- An argument that is a slice of numbers, read. -/
theorem open_sl {H : Type} {enc : TypeId × Value → H} {P : Program} {w : World} {base : Nat} {t e : TypeId} {k : IntKind} {fuel : Nat} {c : Value} {x : DataW H × List MemPlace}
    (ht : P.underlying t = some (.slice e)) (he : P.underlying e = some (.int k)) (hc : P.cellsOf e = 1) (h : DataW.trod enc P w base (fun _ => true) true fuel t [c] = some x) :
    ∃ zs, IsSl w k c zs ∧ (∀ n ∈ zs, (Lit.int k n).wf = true) := by
  rcases ChangeShapes.open_ints ht he hc h with ⟨h0, _⟩ | ⟨a, len, cap, zs, h0, _, hl, _, hz, _, hcell, hwf⟩
  · exact ⟨[], .inl ⟨by simpa using h0, rfl⟩, fun _ h => by cases h⟩
  · have e0 : c = .slice (some a) len cap := by simpa using h0
    subst e0
    rw [if_pos rfl] at hz
    have hlz : (zs.take len).length = len := by rw [List.length_take]; omega
    refine ⟨zs.take len, .inr ⟨a, cap, by rw [hlz], fun j y hj => ?_⟩, fun n hn => hwf n (List.mem_of_mem_take hn)⟩
    have hj2 : zs[j]? = some y := by
      rw [List.getElem?_take] at hj
      split at hj
      · exact hj
      · cases hj
    have hlt : j < zs.length := (List.getElem?_eq_some_iff.1 hj2).1
    rw [hcell j hlt, List.getD, hj2]
    rfl
end Go.ArgS

/-
  Slices of numbers that came in: a bound on their bytes by the row's weights.
-/

set_option linter.unusedVariables false
set_option maxRecDepth 100000
namespace Go.ArgS
open Go Go.RowKit

theorem open_slw {H : Type} {enc : TypeId × Value → H} {P : Program} {w : World} {base : Nat} {t e : TypeId} {k : IntKind} {fuel : Nat} {c : Value} {x : DataW H × List MemPlace}
    (ht : P.underlying t = some (.slice e)) (he : P.underlying e = some (.int k)) (hc : P.cellsOf e = 1) (h : DataW.trod enc P w base (fun _ => true) true fuel t [c] = some x)
    (hw : ∀ n ∈ x.1.weights P t, n ≤ reachBytes) :
    ∃ zs, IsSl w k c zs ∧ (∀ n ∈ zs, (Lit.int k n).wf = true) ∧ zs.length * P.bytesOf e ≤ reachBytes := by
  rcases ChangeShapes.open_ints ht he hc h with ⟨h0, _⟩ | ⟨a, len, cap, zs, h0, _, hl, _, hz, hx, hcell, hwf⟩
  · exact ⟨[], .inl ⟨by simpa using h0, rfl⟩, fun _ h => (by cases h), by simp⟩
  · have e0 : c = .slice (some a) len cap := by simpa using h0
    subst e0
    rw [if_pos rfl] at hz
    have hlz : (zs.take len).length = len := by rw [List.length_take]; omega
    refine ⟨zs.take len, .inr ⟨a, cap, by rw [hlz], fun j y hj => ?_⟩, fun n hn => hwf n (List.mem_of_mem_take hn), ?_⟩
    · have hj2 : zs[j]? = some y := by
        rw [List.getElem?_take] at hj
        split at hj
        · exact hj
        · cases hj
      have hlt : j < zs.length := (List.getElem?_eq_some_iff.1 hj2).1
      rw [hcell j hlt, List.getD, hj2]
      rfl
    · subst hx
      have h1 := hw _ (by
        show _ ∈ DataW.weights P t (.slice _ _)
        unfold DataW.weights
        rw [ht]
        exact List.mem_cons_self)
      refine Nat.le_trans (Nat.mul_le_mul_right _ ?_) h1
      simp [ChangeShapes.lits]
end Go.ArgS

/-
  append(own row, xs...) where xs is a slice of numbers that came in, nil or not.
-/

set_option linter.unusedVariables false
set_option maxRecDepth 100000
namespace Go.ArgS
open Go Go.RowKit

theorem one_each' (k : IntKind) (zs : List Int) : ∀ u ∈ zs.map (Value.int k), u.oneCell' = true := by
  intro u hu
  obtain ⟨n, _, rfl⟩ := List.mem_map.1 hu
  rfl

theorem wpList_append_sl {P : Program} {w : World} {ops : Array Oper} {rest : List Oper} {o : Oper} {a : Act} {Q : Exit → Act → World → Prop} (hgd : o.guard = none) (s x : Operand) (t : TypeId)
    (ho : o.op = .call { callee := .builtin .append, args := #[s, x], argTypes := #[t, t] })
    (base : Nat) (e : TypeId) (i : TypeInfo) (k : IntKind) (bytes : Nat) (ht : P.underlying t = some (.slice e)) (hi : P.info? e = some i) (hz : i.zero = some (.int k 0))
    (hsize : i.size = 1) (hby : i.bytes = bytes)
    (v : Value) (n : Nat) (xs : List Value) (hs : a.eval s = v) (hown : w.ownsRow base e 1 v n xs)
    (y : Value) (zs : List Int) (hx : a.eval x = y) (hsl : IsSl w k y zs)
    (h63 : n + zs.length ≤ maxLen) (hbytes : (n + zs.length) * bytes ≤ 140737488355328) (hbase : base ≤ w.heap.size)
    (h : ∀ v' w', w'.ownsRow base e 1 v' (n + zs.length) (xs ++ zs.map (Value.int k)) → w.grownBy w' v.ownBlock → wpList P ops Q rest (a.put o.dst v') w') : wpList P ops Q (o :: rest) a w := by
  rcases hsl with ⟨rfl, rfl⟩ | ⟨ad, c, rfl, hc⟩
  · refine wpList_append_own_none hgd s x t ho base e i 1 ht hi v n xs hs hown hx ?_
    exact h v w (by simpa using hown) ⟨rfl, rfl, rfl, Nat.le_refl _, fun _ _ _ => rfl⟩
  · refine wpList_append_own _ hgd s x t ho base e i (.int k 0) 1 bytes ht hi hz hsize hby rfl (by decide) v n xs hs hown ad zs.length c (zs.map (Value.int k)) hx (by simp) ?_ (one_each' k zs) h63 hbytes hbase fun v' w' h1 h2 _ => h v' w' h1 h2
    intro j u hj
    rw [List.getElem?_map, Option.map_eq_some_iff] at hj
    obtain ⟨z, hz, rfl⟩ := hj
    exact hc j z hz

theorem own_new {w : World} {e : TypeId} {B b : Nat} (hb : b = w.heap.size) (h : B ≤ w.heap.size) : (w.alloc (.cells #[] e)).ownsRow B e 1 (.slice (some ⟨b, 0, none⟩) 0 0) 0 [] := by
  subst hb
  exact World.ownsRow_made w #[] 0 h (by decide) rfl

/-- A block's cells, all of them. -/
def Box (w : World) (b : Nat) (cs : List Value) : Prop := b < w.heap.size ∧ (∀ j : Nat, w.cell? ⟨b, j, none⟩ = cs[j]?) ∧ ∀ j : Nat, w.frozen? ⟨b, j, none⟩ = false

theorem Box.new (w : World) (cs : Array Value) (t : TypeId) : Box (w.alloc (.cells cs t)) w.heap.size cs.toList :=
  ⟨by simp, fun j => (World.cell?_alloc_new w _ _ j).trans (by simp), fun j => World.frozen?_alloc_new w _ _ j⟩

theorem Box.of_block {w w' : World} {b : Nat} {cs : List Value} (h : Box w b cs) (hs : b < w'.heap.size) (hb : w'.heap[b]? = w.heap[b]?) : Box w' b cs :=
  ⟨hs, fun j => (World.cell?_of_block (a := ⟨b, j, none⟩) hb).trans (h.2.1 j), fun j => (World.frozen?_of_block (a := ⟨b, j, none⟩) hb).trans (h.2.2 j)⟩

theorem Box.alloc {w : World} {b : Nat} {cs : List Value} (h : Box w b cs) (o : Obj) : Box (w.alloc o) b cs :=
  h.of_block (by have := h.1; simp; omega) (Below.heap_alloc w o b h.1)

theorem Box.grown {w w' : World} {b : Nat} {cs : List Value} {row : Option Nat} (h : Box w b cs) (hg : w.grownBy w' row) (hne : some b ≠ row) : Box w' b cs :=
  h.of_block (Nat.lt_of_lt_of_le h.1 hg.size) (hg.block b h.1 hne)

theorem Box.below {w w' : World} {n b : Nat} {cs : List Value} (h : Box w b cs) (hb : Below n w w') (hn : b < n) : Box w' b cs :=
  h.of_block (Nat.lt_of_lt_of_le h.1 hb.size) (hb.block b hn)

theorem Box.set_other {w : World} {b : Nat} {cs : List Value} (h : Box w b cs) (a : Addr) (v : Value) (hne : b ≠ a.block) : Box (w.setCell a v) b cs :=
  h.of_block (by simp [World.setCell]; exact h.1) (Below.heap_setCell w a v b hne)

theorem Box.set {w : World} {b : Nat} {cs : List Value} (h : Box w b cs) (j : Nat) (v : Value) (hj : j < cs.length) : Box (w.setCell ⟨b, j, none⟩ v) b (cs.set j v) := by
  refine ⟨by simp [World.setCell]; exact h.1, fun i => ?_, fun i => (World.frozen?_setCell _ _ _ _).trans (h.2.2 i)⟩
  by_cases hi : j = i
  · subst hi
    rw [World.cell?_setCell_same (u := cs[j]) _ _ _ (by rw [h.2.1 j]; exact List.getElem?_eq_getElem hj)]
    rw [List.getElem?_set_self hj]
  · rw [World.cell?_setCell_other _ _ _ _ (by simp), h.2.1 i, List.getElem?_set_ne hi]

theorem Box.at {w : World} {b : Nat} {cs : List Value} (h : Box w b cs) (j : Nat) {v : Value} (hv : cs[j]? = some v) : w.cell? ⟨b, j, none⟩ = some v := (h.2.1 j).trans hv

theorem Box.of_drew {w : World} {b : Nat} {cs : List Value} (h : Box w b cs) : Box w.drew b cs := h

theorem IsSl.of_own_kept {w w' : World} {B : Nat} {e : TypeId} {k : IntKind} {v : Value} {n : Nat} {zs : List Int} (hn : n = zs.length) (h : w.ownsRow B e 1 v n (zs.map (Value.int k)))
    (hk : ∀ g, B ≤ g → g < w.heap.size → w'.heap[g]? = w.heap[g]?) : IsSl w' k v zs := by
  rcases IsSl.of_own hn h with h1 | ⟨a, cap, rfl, hc⟩
  · exact .inl h1
  · obtain ⟨hl1, hl2⟩ := h.lt a.block rfl
    refine .inr ⟨a, cap, rfl, fun j x hj => ?_⟩
    exact (World.cell?_of_block (by rw [add_block]; exact hk _ hl1 hl2)).trans (hc j x hj)
theorem own_slice {w : World} {B : Nat} {e : TypeId} {v : Value} {n : Nat} {xs : List Value} (h : w.ownsRow B e 1 v n xs) : ∃ a l c, v = .slice a l c := by
  rcases h.2 with ⟨h0, _⟩ | ⟨g, cap, cur, h0, _⟩
  · exact ⟨_, _, _, h0⟩
  · exact ⟨_, _, _, h0⟩

theorem IsSl.slice {w : World} {k : IntKind} {v : Value} {zs : List Int} (h : IsSl w k v zs) : ∃ a c, v = .slice a zs.length c := by
  rcases h with ⟨rfl, rfl⟩ | ⟨a, cap, rfl, _⟩
  · exact ⟨_, _, rfl⟩
  · exact ⟨_, _, rfl⟩

/-- A slice of numbers in new memory: behind the first B blocks. -/
def OwnSl (w : World) (B : Nat) (k : IntKind) (v : Value) (zs : List Int) : Prop := IsSl w k v zs ∧ ∀ a l c, v = .slice (some a) l c → B ≤ a.block ∧ a.block < w.heap.size

theorem OwnSl.is {w : World} {B : Nat} {k : IntKind} {v : Value} {zs : List Int} (h : OwnSl w B k v zs) : IsSl w k v zs := h.1

theorem OwnSl.keep {w w' : World} {B : Nat} {k : IntKind} {v : Value} {zs : List Int} (h : OwnSl w B k v zs) (hs : w.heap.size ≤ w'.heap.size) (hk : ∀ g, B ≤ g → g < w.heap.size → w'.heap[g]? = w.heap[g]?) : OwnSl w' B k v zs := by
  refine ⟨?_, fun a l c e => ⟨(h.2 a l c e).1, Nat.lt_of_lt_of_le (h.2 a l c e).2 hs⟩⟩
  rcases h.1 with h1 | ⟨a, cap, rfl, hc⟩
  · exact .inl h1
  · obtain ⟨hl1, hl2⟩ := h.2 a _ _ rfl
    refine .inr ⟨a, cap, rfl, fun j x hj => ?_⟩
    exact (World.cell?_of_block (by rw [add_block]; exact hk _ hl1 hl2)).trans (hc j x hj)

theorem OwnSl.mono {w : World} {B B' : Nat} {k : IntKind} {v : Value} {zs : List Int} (h : OwnSl w B k v zs) (hb : B' ≤ B) : OwnSl w B' k v zs := ⟨h.1, fun a l c e => ⟨Nat.le_trans hb (h.2 a l c e).1, (h.2 a l c e).2⟩⟩

theorem OwnSl.below {w w' : World} {B : Nat} {k : IntKind} {v : Value} {zs : List Int} (h : OwnSl w B k v zs) (hb : Below w.heap.size w w') : OwnSl w' B k v zs := h.keep hb.size fun g _ hg => hb.block g hg

theorem OwnSl.alloc {w : World} {B : Nat} {k : IntKind} {v : Value} {zs : List Int} (h : OwnSl w B k v zs) (o : Obj) : OwnSl (w.alloc o) B k v zs := h.below ((Below.refl _ _).alloc (Nat.le_refl _) o)

theorem OwnSl.set {w : World} {B : Nat} {k : IntKind} {v : Value} {zs : List Int} (h : OwnSl w B k v zs) (a : Addr) (u : Value) (ha : a.block < B) : OwnSl (w.setCell a u) B k v zs :=
  h.keep (by simp [World.setCell]) fun g hg _ => Below.heap_setCell w a u g (by omega)

theorem OwnSl.set_new {w : World} {B n : Nat} {k : IntKind} {v : Value} {zs : List Int} (h : OwnSl w B k v zs) (a : Addr) (u : Value) (hn : ∀ p l c, v = .slice (some p) l c → p.block ≠ a.block) : OwnSl (w.setCell a u) B k v zs := by
  refine ⟨?_, fun p l c e => by simp [World.setCell]; exact h.2 p l c e⟩
  rcases h.1 with h1 | ⟨p, cap, rfl, hc⟩
  · exact .inl h1
  · refine .inr ⟨p, cap, rfl, fun j x hj => ?_⟩
    exact (World.cell?_of_block (by rw [add_block]; exact Below.heap_setCell w a u _ (hn p _ _ rfl))).trans (hc j x hj)

theorem OwnSl.of_own {w : World} {B : Nat} {e : TypeId} {k : IntKind} {v : Value} {n : Nat} {zs : List Int} (hn : n = zs.length) (h : w.ownsRow B e 1 v n (zs.map (Value.int k))) : OwnSl w B k v zs :=
  ⟨IsSl.of_own hn h, fun a l c e => h.lt a.block (by rw [e]; rfl)⟩

/-- Eight cells of a block written, one behind the other. -/
def set8 (w : World) (b o : Nat) (v0 v1 v2 v3 v4 v5 v6 v7 : Value) : World :=
  (((((((w.setCell ⟨b, o, none⟩ v0).setCell ⟨b, o + 1, none⟩ v1).setCell ⟨b, o + 2, none⟩ v2).setCell ⟨b, o + 3, none⟩ v3).setCell ⟨b, o + 4, none⟩ v4).setCell ⟨b, o + 5, none⟩ v5).setCell ⟨b, o + 6, none⟩ v6).setCell ⟨b, o + 7, none⟩ v7
end Go.ArgS

/-
  What an act that came in is, cell for cell.
-/

set_option linter.unusedVariables false
set_option maxRecDepth 100000
namespace Go.Proofs.YtbfoocginkdmcaaGreatDoor
open Go Go.ChangeShapes Go.WideShapes Go.ChangeAt Go.RowKit Go.Joins Go.ArgS

theorem array8 {α : Type} {cs : Array α} (h : cs.size = 8) : ∃ c0 c1 c2 c3 c4 c5 c6 c7, cs = #[c0, c1, c2, c3, c4, c5, c6, c7] := by
  obtain ⟨l⟩ := cs
  match l, h with
  | [c0, c1, c2, c3, c4, c5, c6, c7], _ => exact ⟨c0, c1, c2, c3, c4, c5, c6, c7, rfl⟩

theorem cells36 : Tryz.prog.cellsOf 36 = 8 := by kernel_rfl
theorem cells34 : Tryz.prog.cellsOf 34 = 2 := by kernel_rfl
theorem cells3 : Tryz.prog.cellsOf 3 = 1 := by kernel_rfl
theorem cells5 : Tryz.prog.cellsOf 5 = 1 := by kernel_rfl
theorem cells9 : Tryz.prog.cellsOf 9 = 1 := by kernel_rfl
theorem cells30 : Tryz.prog.cellsOf 30 = 1 := by kernel_rfl
theorem cells31 : Tryz.prog.cellsOf 31 = 1 := by kernel_rfl
theorem cells32 : Tryz.prog.cellsOf 32 = 1 := by kernel_rfl
theorem bytes5 : Tryz.prog.bytesOf 5 = 1 := by kernel_rfl
theorem bytes3 : Tryz.prog.bytesOf 3 = 8 := by kernel_rfl

theorem open_act {H : Type} {enc : TypeId × Value → H} {W : World} {r : Reach} {b0 base : Nat} {v : Value} {d : DataW H} {p : List MemPlace}
    (hv : Value.okWide Tryz.prog W r b0 36 v) (h : DataW.Trod enc Tryz.prog W base (fun _ => true) true 36 v d p) (hw : ∀ n ∈ d.weights Tryz.prog 36, n ≤ reachBytes) :
    ∃ (k t o n q : Int) (s : ByteArray) (x y : Value) (ds ts : List Int), v = .agg #[.int .i64 k, .string s, x, .int .u64 t, .int .i64 o, .int .i64 n, .int .i64 q, y] ∧
      IsSl W .u8 x ds ∧ IsSl W .i64 y ts ∧ ds.length ≤ reachBytes ∧ ts.length * 8 ≤ reachBytes := by
  obtain ⟨cs, rfl, hsz⟩ := okWide_struct Tryz.underlying36 hv
  obtain ⟨c0, c1, c2, c3, c4, c5, c6, c7, rfl⟩ := array8 (hsz.trans cells36)
  obtain ⟨fuel, hf⟩ := h
  obtain ⟨xs, n, _, hx, hl, hlen, hf⟩ := DataW.trod_struct Tryz.underlying36 hf
  match xs, hlen with
  | [y0, y1, y2, y3, y4, y5, y6], _ =>
    have h0 : DataW.trod enc Tryz.prog W base (fun _ => true) true n 3 [c0] = some y0 := by simpa [Value.cells, cells3] using hf 0 _ rfl
    have h1 : DataW.trod enc Tryz.prog W base (fun _ => true) true n 9 [c1] = some y1 := by simpa [Value.cells, cells9] using hf 1 _ rfl
    have h2 : DataW.trod enc Tryz.prog W base (fun _ => true) true n 30 [c2] = some y2 := by simpa [Value.cells, cells30] using hf 2 _ rfl
    have h3 : DataW.trod enc Tryz.prog W base (fun _ => true) true n 31 [c3] = some y3 := by simpa [Value.cells, cells31] using hf 3 _ rfl
    have h4 : DataW.trod enc Tryz.prog W base (fun _ => true) true n 3 [c4] = some y4 := by simpa [Value.cells, cells3] using hf 4 _ rfl
    have h5 : DataW.trod enc Tryz.prog W base (fun _ => true) true n 3 [c5] = some y5 := by simpa [Value.cells, cells3] using hf 5 _ rfl
    have h6 : DataW.trod enc Tryz.prog W base (fun _ => true) true n 34 [c6, c7] = some y6 := by simpa [Value.cells, cells34] using hf 6 _ rfl
    obtain ⟨us, m, _, hu, _, hulen, hg⟩ := DataW.trod_struct Tryz.underlying34 h6
    match us, hulen with
    | [z0, z1], _ =>
      have g0 : DataW.trod enc Tryz.prog W base (fun _ => true) true m 3 [c6] = some z0 := by simpa [Value.cells, cells3] using hg 0 _ rfl
      have g1 : DataW.trod enc Tryz.prog W base (fun _ => true) true m 32 [c7] = some z1 := by simpa [Value.cells, cells32] using hg 1 _ rfl
      obtain ⟨k, e0, _, _⟩ := DataW.trod_int Tryz.underlying3 h0
      obtain ⟨s, e1, _, _⟩ := DataW.trod_string Tryz.underlying9 h1
      obtain ⟨t, e3, _, _⟩ := DataW.trod_int Tryz.underlying31 h3
      obtain ⟨o, e4, _, _⟩ := DataW.trod_int Tryz.underlying3 h4
      obtain ⟨nn, e5, _, _⟩ := DataW.trod_int Tryz.underlying3 h5
      obtain ⟨q, e6, _, _⟩ := DataW.trod_int Tryz.underlying3 g0
      have hd : d = .agg ([y0, y1, y2, y3, y4, y5, y6].map (·.1)) := congrArg Prod.fst hx
      have hw1 : ∀ a ∈ DataW.weightsEach Tryz.prog [3, 9, 30, 31, 3, 3, 34] ([y0, y1, y2, y3, y4, y5, y6].map (·.1)), a ≤ reachBytes := by
        intro a ha
        refine hw a ?_
        rw [hd]
        unfold DataW.weights
        rw [Tryz.underlying36]
        exact ha
      have hd6 : y6.1 = .agg ([z0, z1].map (·.1)) := congrArg Prod.fst hu
      have hw6 : ∀ a ∈ DataW.weightsEach Tryz.prog [3, 32] ([z0, z1].map (·.1)), a ≤ reachBytes := by
        intro a ha
        refine hw1 a (DataW.weights_mem_each (j := 6) (t := 34) (d := y6.1) rfl rfl a ?_)
        rw [hd6]
        unfold DataW.weights
        rw [Tryz.underlying34]
        exact ha
      obtain ⟨ds, i2, _, l2⟩ := open_slw Tryz.underlying30 Tryz.underlying5 cells5 h2 (fun a ha => hw1 a (DataW.weights_mem_each (j := 2) (t := 30) (d := y2.1) rfl rfl a ha))
      obtain ⟨ts, i7, _, l7⟩ := open_slw Tryz.underlying32 Tryz.underlying3 cells3 g1 (fun a ha => hw6 a (DataW.weights_mem_each (j := 1) (t := 32) (d := z1.1) rfl rfl a ha))
      rw [bytes5, Nat.mul_one] at l2
      rw [bytes3] at l7
      simp only [List.cons.injEq, and_true] at e0 e1 e3 e4 e5 e6
      subst e0 e1 e3 e4 e5 e6
      exact ⟨k, t, o, nn, q, s, c2, c7, ds, ts, rfl, i2, i7, l2, l7⟩
end Go.Proofs.YtbfoocginkdmcaaGreatDoor

/-
  Copies of slices of numbers: slices.Clone at bytes (61) and at ints (62).
-/

set_option linter.unusedVariables false
set_option maxRecDepth 100000
namespace Go.Proofs.YtbfoocginkdmcaaGreatDoor
open Go Go.RowKit Go.ArgS

theorem inf5 : (Tryz.prog.info? 5).map (fun i => (i.zero, i.size, i.bytes)) = some (some (.int .u8 0), 1, 1) := by kernel_rfl
theorem inf3 : (Tryz.prog.info? 3).map (fun i => (i.zero, i.size, i.bytes)) = some (some (.int .i64 0), 1, 8) := by kernel_rfl

theorem one_each (k : IntKind) (zs : List Int) : ∀ u ∈ zs.map (Value.int k), u.oneCell' = true := by
  intro u hu
  obtain ⟨n, _, rfl⟩ := List.mem_map.1 hu
  rfl

theorem nil30 (w : World) (a : Option Addr) (n c : Nat) : (binOp .eql 30 (.slice a n c) (.slice none 0 0)).run Tryz.prog w = .ok (.bool a.isNone) w := Lib.run_eql_slice_nil w 30 5 a n c 0 0 Tryz.underlying30
theorem nil32 (w : World) (a : Option Addr) (n c : Nat) : (binOp .eql 32 (.slice a n c) (.slice none 0 0)).run Tryz.prog w = .ok (.bool a.isNone) w := Lib.run_eql_slice_nil w 32 3 a n c 0 0 Tryz.underlying32

theorem clone_bytes (zs : List Int) (v : Value) (w : World) (h : IsSl w .u8 v zs) (hz : zs.length ≤ reachBytes) :
    Calls Tryz.prog 61 #[v] w fun e w' => ∃ v', e = .returned v' ∧ OwnSl w' w.heap.size .u8 v' zs ∧ Below w.heap.size w w' := by
  obtain ⟨i0, hi, hz0, hz1, hz2⟩ := info_parts inf5
  have hN := nil30
  rcases h with ⟨rfl, rfl⟩ | ⟨a, cap, rfl, hc⟩
  · go_enter Tryz.func61, Tryz.ntmps61
    go_wp2
    go_ret
    exact ⟨_, rfl, ⟨.inl ⟨rfl, rfl⟩, fun _ _ _ h => by cases h⟩, Below.refl _ _⟩
  · have hown := World.ownsRow_made (e := 5) (size := 1) (base := w.heap.size) w #[] 0 (Nat.le_refl _) (by decide) rfl
    have hcell : ∀ (j : Nat) u, (zs.map (Value.int .u8))[j]? = some u → (w.alloc (.cells #[] 5)).cell? (a.add j) = some u := by
      intro j u hj
      rw [List.getElem?_map, Option.map_eq_some_iff] at hj
      obtain ⟨x, hx, rfl⟩ := hj
      have h1 := hc j x hx
      exact (World.cell?_of_block (Below.heap_alloc w _ _ (World.block_lt_of_cell? w _ h1))).trans h1
    go_enter Tryz.func61, Tryz.ntmps61
    go_wp2_with (at_builtin; refine wpList_append_own _ rfl _ _ 30 rfl w.heap.size 5 i0 (.int .u8 0) 1 1 Tryz.underlying30 hi hz0 hz1 hz2 rfl (by decide) _ _ _ rfl hown a zs.length cap (zs.map (Value.int .u8)) rfl (by simp) hcell (one_each _ _) (by simp only [reachBytes] at hz; unfold maxLen; omega) (by simp only [reachBytes] at hz; omega) (by simp) ?_)
    intro v' w2 hown' hgrow _
    have hb2 : Below w.heap.size w w2 := ((Below.refl _ w).alloc (Nat.le_refl _) (.cells #[] 5)).grown hgrow (by simp) fun j hj => (hown.lt j hj).1
    go_wp2
    go_ret
    exact ⟨_, rfl, OwnSl.of_own rfl hown', hb2⟩
theorem clone_ints (zs : List Int) (v : Value) (w : World) (h : IsSl w .i64 v zs) (hz : zs.length * 8 ≤ reachBytes) :
    Calls Tryz.prog 62 #[v] w fun e w' => ∃ v', e = .returned v' ∧ OwnSl w' w.heap.size .i64 v' zs ∧ Below w.heap.size w w' := by
  obtain ⟨i0, hi, hz0, hz1, hz2⟩ := info_parts inf3
  have hN := nil32
  rcases h with ⟨rfl, rfl⟩ | ⟨a, cap, rfl, hc⟩
  · go_enter Tryz.func62, Tryz.ntmps62
    go_wp2
    go_ret
    exact ⟨_, rfl, ⟨.inl ⟨rfl, rfl⟩, fun _ _ _ h => by cases h⟩, Below.refl _ _⟩
  · have hown := World.ownsRow_made (e := 3) (size := 1) (base := w.heap.size) w #[] 0 (Nat.le_refl _) (by decide) rfl
    have hcell : ∀ (j : Nat) u, (zs.map (Value.int .i64))[j]? = some u → (w.alloc (.cells #[] 3)).cell? (a.add j) = some u := by
      intro j u hj
      rw [List.getElem?_map, Option.map_eq_some_iff] at hj
      obtain ⟨x, hx, rfl⟩ := hj
      have h1 := hc j x hx
      exact (World.cell?_of_block (Below.heap_alloc w _ _ (World.block_lt_of_cell? w _ h1))).trans h1
    go_enter Tryz.func62, Tryz.ntmps62
    go_wp2_with (at_builtin; refine wpList_append_own _ rfl _ _ 32 rfl w.heap.size 3 i0 (.int .i64 0) 1 8 Tryz.underlying32 hi hz0 hz1 hz2 rfl (by decide) _ _ _ rfl hown a zs.length cap (zs.map (Value.int .i64)) rfl (by simp) hcell (one_each _ _) (by simp only [reachBytes] at hz; unfold maxLen; omega) (by simp only [reachBytes] at hz; omega) (by simp) ?_)
    intro v' w2 hown' hgrow _
    have hb2 : Below w.heap.size w w2 := ((Below.refl _ w).alloc (Nat.le_refl _) (.cells #[] 3)).grown hgrow (by simp) fun j hj => (hown.lt j hj).1
    go_wp2
    go_ret
    exact ⟨_, rfl, OwnSl.of_own rfl hown', hb2⟩
end Go.Proofs.YtbfoocginkdmcaaGreatDoor

/-
  act and copied: an act in memory of its own.
-/

set_option linter.unusedVariables false
set_option maxRecDepth 100000
namespace Go.Proofs.YtbfoocginkdmcaaGreatDoor
open Go Go.RowKit Go.ArgS

theorem act_calls (k t o n q : Int) (s : ByteArray) (x y : Value) (ds ts : List Int) (w : World) (hx : IsSl w .u8 x ds) (hy : IsSl w .i64 y ts) (hd : ds.length ≤ reachBytes) (ht : ts.length * 8 ≤ reachBytes) :
    Calls Tryz.prog 14 #[.agg #[.int .i64 k, .string s, x, .int .u64 t, .int .i64 o, .int .i64 n, .int .i64 q, y]] w fun e w' =>
      ∃ x' y', e = .returned (.agg #[.int .i64 k, .string s, x', .int .u64 t, .int .i64 o, .int .i64 n, .int .i64 q, y']) ∧ OwnSl w' w.heap.size .u8 x' ds ∧ OwnSl w' w.heap.size .i64 y' ts ∧ Below w.heap.size w w' := by
  obtain ⟨i0, hi, hz0, hz1, hz2⟩ := info_parts inf5
  obtain ⟨i3, hi3, hz3, hs3, hb3⟩ := info_parts inf3
  simp only [reachBytes] at hd ht
  have hd63 : 0 + ds.length ≤ maxLen := by unfold maxLen; omega
  have ht63 : 0 + ts.length ≤ maxLen := by unfold maxLen; omega
  go_enter Tryz.func14, Tryz.ntmps14
  go_wp2_with (at_builtin; generalize hX : wpList _ _ _ _ _ _ = X)
  rw [← hX]
  refine wpList_append_sl rfl _ _ 30 rfl (w.heap.size + 1 + 1) 5 i0 .u8 1 Tryz.underlying30 hi hz0 hz1 hz2 (.slice (some ⟨w.heap.size + 1 + 1, 0, none⟩) 0 0) 0 [] rfl (own_new (by simp) (by simp)) x ds rfl (((hx.alloc _).alloc _).alloc _) hd63 (by omega) (by simp) ?_
  intro x' w4 hown hg
  simp only [Nat.zero_add, List.nil_append] at hown
  have B1 := (((Box.new w #[.int .i64 k, .string s, x, .int .u64 t, .int .i64 o, .int .i64 n, .int .i64 q, y] 36).alloc (.cells #[.int .i64 0, .string ⟨#[]⟩, .slice none 0 0, .int .u64 0, .int .i64 0, .int .i64 0, .int .i64 0, .slice none 0 0] 36)).alloc (.cells #[] 5)).grown hg (by simp only [Value.ownBlock, ne_eq, Option.some.injEq]; omega)
  have R1 := (((Box.new (w.alloc (.cells #[.int .i64 k, .string s, x, .int .u64 t, .int .i64 o, .int .i64 n, .int .i64 q, y] 36)) #[.int .i64 0, .string ⟨#[]⟩, .slice none 0 0, .int .u64 0, .int .i64 0, .int .i64 0, .int .i64 0, .slice none 0 0] 36)).alloc (.cells #[] 5)).grown hg (by simp [Value.ownBlock])
  simp only [World.size_alloc] at R1
  have b4 := ((((Below.refl w.heap.size w).alloc (Nat.le_refl _) (.cells #[.int .i64 k, .string s, x, .int .u64 t, .int .i64 o, .int .i64 n, .int .i64 q, y] 36)).alloc (by simp) (.cells #[.int .i64 0, .string ⟨#[]⟩, .slice none 0 0, .int .u64 0, .int .i64 0, .int .i64 0, .int .i64 0, .slice none 0 0] 36)).alloc (by simp; omega) (.cells #[] 5)).grown hg (by simp; omega) (by simp [Value.ownBlock]; omega)
  clear hX hg
  obtain ⟨a1, l1, p1, rfl⟩ := own_slice hown
  have c2 := B1.at 2 rfl
  have f2 := B1.2.2 2
  have B2 := B1.set 2 (.slice a1 l1 p1) (by simp)
  simp only [List.set] at B2
  have B3 := B2.alloc (.cells #[] 3)
  have R3 := (R1.set_other ⟨w.heap.size, 2, none⟩ (.slice a1 l1 p1) (by simp)).alloc (.cells #[] 3)
  have hs4 : (w4.setCell ⟨w.heap.size, 2, none⟩ (.slice a1 l1 p1)).heap.size = w4.heap.size := by simp [World.setCell]
  have b6 := (b4.setCell (p := ⟨w.heap.size, 2, none⟩) (Nat.le_refl _) (.slice a1 l1 p1)).alloc (by rw [hs4]; exact b4.size) (.cells #[] 3)
  have c7 := B3.at 7 rfl
  go_wp2_with (at_builtin; generalize hX : wpList _ _ _ _ _ _ = X)
  rw [← hX]
  refine wpList_append_sl rfl _ _ 32 rfl w4.heap.size 3 i3 .i64 8 Tryz.underlying32 hi3 hz3 hs3 hb3 (.slice (some ⟨w4.heap.size, 0, none⟩) 0 0) 0 [] rfl (own_new (by simp [World.setCell]) (by simp [World.setCell])) y ts rfl (hy.below b6) ht63 (by omega) (by simp [World.setCell]) ?_
  intro y' w7 hown2 hg2
  simp only [Nat.zero_add, List.nil_append] at hown2
  have B7 := B3.grown hg2 (by have := B1.1; simp [Value.ownBlock]; omega)
  have R7 := R3.grown hg2 (by have := R1.1; simp [Value.ownBlock]; omega)
  have b7 := b6.grown hg2 (by simp [World.setCell]; have := b4.size; omega) (by have := b4.size; simp [Value.ownBlock]; omega)
  clear hX
  obtain ⟨a2, l2, p2, rfl⟩ := own_slice hown2
  have c7' := B7.at 7 rfl
  have f7 := B7.2.2 7
  have B8 := B7.set 7 (.slice a2 l2 p2) (by simp)
  simp only [List.set] at B8
  have R8 := R7.set_other ⟨w.heap.size, 7, none⟩ (.slice a2 l2 p2) (by simp)
  have d0 := B8.at 0 rfl
  have d1 := B8.at 1 rfl
  have d2 := B8.at 2 rfl
  have d3 := B8.at 3 rfl
  have d4 := B8.at 4 rfl
  have d5 := B8.at 5 rfl
  have d6 := B8.at 6 rfl
  have d7 := B8.at 7 rfl
  have fr := R8.2.2
  have e0 := R8.at 0 rfl
  have e1 := R8.at 1 rfl
  have e2 := R8.at 2 rfl
  have e3 := R8.at 3 rfl
  have e4 := R8.at 4 rfl
  have e5 := R8.at 5 rfl
  have e6 := R8.at 6 rfl
  have e7 := R8.at 7 rfl
  go_wp2
  have keep7 : ∀ g, w.heap.size + 1 + 1 ≤ g → g < w4.heap.size → w7.heap[g]? = w4.heap[g]? := fun g h1 h2 => by
    rw [hg2.block g (by simp [World.setCell]; omega) (by simp only [Value.ownBlock, ne_eq, Option.some.injEq]; omega), Below.heap_alloc _ _ _ (by rw [hs4]; exact h2), Below.heap_setCell _ _ _ _ (by simp; omega)]
  have b8 := b7.setCell (p := ⟨w.heap.size, 7, none⟩) (Nat.le_refl _) (.slice a2 l2 p2)
  have hB8 : w.heap.size ≤ w.heap.size + 1 := Nat.le_succ _
  have b16 := (((((((b8.setCell (p := ⟨w.heap.size + 1, 0, none⟩) hB8 (.int .i64 k)).setCell (p := ⟨w.heap.size + 1, 1, none⟩) hB8 (.string s)).setCell (p := ⟨w.heap.size + 1, 2, none⟩) hB8 (.slice a1 l1 p1)).setCell (p := ⟨w.heap.size + 1, 3, none⟩) hB8 (.int .u64 t)).setCell (p := ⟨w.heap.size + 1, 4, none⟩) hB8 (.int .i64 o)).setCell (p := ⟨w.heap.size + 1, 5, none⟩) hB8 (.int .i64 n)).setCell (p := ⟨w.heap.size + 1, 6, none⟩) hB8 (.int .i64 q)).setCell (p := ⟨w.heap.size + 1, 7, none⟩) hB8 (.slice a2 l2 p2)
  have R16 := (((((((R8.set 0 (.int .i64 k) (by simp)).set 1 (.string s) (by simp)).set 2 (.slice a1 l1 p1) (by simp)).set 3 (.int .u64 t) (by simp)).set 4 (.int .i64 o) (by simp)).set 5 (.int .i64 n) (by simp)).set 6 (.int .i64 q) (by simp)).set 7 (.slice a2 l2 p2) (by simp)
  simp only [List.set] at R16
  have keepW : ∀ g, w.heap.size + 1 + 1 ≤ g → g < w7.heap.size → ((((((((((w7.setCell ⟨w.heap.size, 7, none⟩ (.slice a2 l2 p2)).setCell ⟨w.heap.size + 1, 0, none⟩ (.int .i64 k)).setCell ⟨w.heap.size + 1, 1, none⟩ (.string s)).setCell ⟨w.heap.size + 1, 2, none⟩ (.slice a1 l1 p1)).setCell ⟨w.heap.size + 1, 3, none⟩ (.int .u64 t)).setCell ⟨w.heap.size + 1, 4, none⟩ (.int .i64 o)).setCell ⟨w.heap.size + 1, 5, none⟩ (.int .i64 n)).setCell ⟨w.heap.size + 1, 6, none⟩ (.int .i64 q)).setCell ⟨w.heap.size + 1, 7, none⟩ (.slice a2 l2 p2))).heap[g]? = w7.heap[g]? := fun g h1 h2 => by
    rw [Below.heap_setCell _ _ _ _ (by simp; omega), Below.heap_setCell _ _ _ _ (by simp; omega), Below.heap_setCell _ _ _ _ (by simp; omega), Below.heap_setCell _ _ _ _ (by simp; omega), Below.heap_setCell _ _ _ _ (by simp; omega), Below.heap_setCell _ _ _ _ (by simp; omega), Below.heap_setCell _ _ _ _ (by simp; omega), Below.heap_setCell _ _ _ _ (by simp; omega), Below.heap_setCell _ _ _ _ (by simp; omega)]
  have h74 : w4.heap.size ≤ w7.heap.size := Nat.le_trans (by simp [World.setCell]) hg2.size
  have h34 := R1.1
  have hsz7 : w7.heap.size ≤ (((((((((w7.setCell ⟨w.heap.size, 7, none⟩ (.slice a2 l2 p2)).setCell ⟨w.heap.size + 1, 0, none⟩ (.int .i64 k)).setCell ⟨w.heap.size + 1, 1, none⟩ (.string s)).setCell ⟨w.heap.size + 1, 2, none⟩ (.slice a1 l1 p1)).setCell ⟨w.heap.size + 1, 3, none⟩ (.int .u64 t)).setCell ⟨w.heap.size + 1, 4, none⟩ (.int .i64 o)).setCell ⟨w.heap.size + 1, 5, none⟩ (.int .i64 n)).setCell ⟨w.heap.size + 1, 6, none⟩ (.int .i64 q)).setCell ⟨w.heap.size + 1, 7, none⟩ (.slice a2 l2 p2)).heap.size := by simp [World.setCell]
  have hsz4 := Nat.le_trans h74 hsz7
  clear d0 d1 d2 d3 d4 d5 d6 d7 e0 e1 e2 e3 e4 e5 e6 e7 fr
  generalize (((((((((w7.setCell ⟨w.heap.size, 7, none⟩ (.slice a2 l2 p2)).setCell ⟨w.heap.size + 1, 0, none⟩ (.int .i64 k)).setCell ⟨w.heap.size + 1, 1, none⟩ (.string s)).setCell ⟨w.heap.size + 1, 2, none⟩ (.slice a1 l1 p1)).setCell ⟨w.heap.size + 1, 3, none⟩ (.int .u64 t)).setCell ⟨w.heap.size + 1, 4, none⟩ (.int .i64 o)).setCell ⟨w.heap.size + 1, 5, none⟩ (.int .i64 n)).setCell ⟨w.heap.size + 1, 6, none⟩ (.int .i64 q)).setCell ⟨w.heap.size + 1, 7, none⟩ (.slice a2 l2 p2)) = W at *
  have e0 := R16.at 0 rfl
  have e1 := R16.at 1 rfl
  have e2 := R16.at 2 rfl
  have e3 := R16.at 3 rfl
  have e4 := R16.at 4 rfl
  have e5 := R16.at 5 rfl
  have e6 := R16.at 6 rfl
  have e7 := R16.at 7 rfl
  try simp only [Exit.inBlock, Exit.then]
  refine bodyPost_ret (by simp [results, Tryz.results14, go_sem, e0, e1, e2, e3, e4, e5, e6, e7]; try rfl) rfl ?_
  refine ⟨_, _, rfl, ((OwnSl.of_own rfl hown).keep hsz4 fun g h1 h2 => ?_).mono (by omega), ((OwnSl.of_own rfl hown2).keep hsz7 fun g h1 h2 => ?_).mono (by omega), b16⟩
  · exact (keepW g h1 (by omega)).trans (keep7 g h1 h2)
  · exact keepW g (by omega) h2
end Go.Proofs.YtbfoocginkdmcaaGreatDoor

/-
  copied: an act in memory of its own, nil lists nil.
-/

set_option linter.unusedVariables false
set_option maxRecDepth 100000
namespace Go.Proofs.YtbfoocginkdmcaaGreatDoor
open Go Go.RowKit Go.ArgS

theorem copied_calls (k t o n q : Int) (s : ByteArray) (x y : Value) (ds ts : List Int) (w : World) (hx : IsSl w .u8 x ds) (hy : IsSl w .i64 y ts) (hd : ds.length ≤ reachBytes) (ht : ts.length * 8 ≤ reachBytes) :
    Calls Tryz.prog 30 #[.agg #[.int .i64 k, .string s, x, .int .u64 t, .int .i64 o, .int .i64 n, .int .i64 q, y]] w fun e w' =>
      ∃ x' y', e = .returned (.agg #[.int .i64 k, .string s, x', .int .u64 t, .int .i64 o, .int .i64 n, .int .i64 q, y']) ∧ OwnSl w' w.heap.size .u8 x' ds ∧ OwnSl w' w.heap.size .i64 y' ts ∧ Below w.heap.size w w' := by
  go_enter Tryz.func30, Tryz.ntmps30
  have hx2 : IsSl ((w.alloc (.cells #[.int .i64 k, .string s, x, .int .u64 t, .int .i64 o, .int .i64 n, .int .i64 q, y] 36)).alloc (.cells #[.int .i64 0, .string ⟨#[]⟩, .slice none 0 0, .int .u64 0, .int .i64 0, .int .i64 0, .int .i64 0, .slice none 0 0] 36)) .u8 x ds := (hx.alloc _).alloc _
  have f0 := clone_bytes ds x _ hx2 hd
  clear hx2
  go_wp2_with (first
    | (go_at_call 61
       refine f0.mono ?_
       clear f0
       rintro e w4 ⟨x', rfl, hs4, bel4⟩
       obtain ⟨a1, p1, rfl⟩ := hs4.is.slice
       have B1 := ((Box.new w #[.int .i64 k, .string s, x, .int .u64 t, .int .i64 o, .int .i64 n, .int .i64 q, y] 36).alloc (.cells #[.int .i64 0, .string ⟨#[]⟩, .slice none 0 0, .int .u64 0, .int .i64 0, .int .i64 0, .int .i64 0, .slice none 0 0] 36)).below bel4 (by simp; omega)
       have R1 := (Box.new (w.alloc (.cells #[.int .i64 k, .string s, x, .int .u64 t, .int .i64 o, .int .i64 n, .int .i64 q, y] 36)) #[.int .i64 0, .string ⟨#[]⟩, .slice none 0 0, .int .u64 0, .int .i64 0, .int .i64 0, .int .i64 0, .slice none 0 0] 36).below bel4 (by simp)
       simp only [World.size_alloc] at R1 bel4 hs4
       have b4 := (((Below.refl w.heap.size w).alloc (Nat.le_refl _) (.cells #[.int .i64 k, .string s, x, .int .u64 t, .int .i64 o, .int .i64 n, .int .i64 q, y] 36)).alloc (by simp) (.cells #[.int .i64 0, .string ⟨#[]⟩, .slice none 0 0, .int .u64 0, .int .i64 0, .int .i64 0, .int .i64 0, .slice none 0 0] 36)).trans (bel4.mono (by omega))
       have c2 := B1.at 2 rfl
       have f2 := B1.2.2 2
       have B2 := B1.set 2 (.slice a1 ds.length p1) (by simp)
       simp only [List.set] at B2
       have R2 := R1.set_other ⟨w.heap.size, 2, none⟩ (.slice a1 ds.length p1) (by simp)
       have s2 := hs4.set ⟨w.heap.size, 2, none⟩ (.slice a1 ds.length p1) (by simp; omega)
       have b5 := b4.setCell (p := ⟨w.heap.size, 2, none⟩) (Nat.le_refl _) (.slice a1 ds.length p1)
       have c7 := B2.at 7 rfl
       have g0 := clone_ints ts y _ (hy.below b5) ht
       clear bel4)
    | (go_at_call 62
       refine g0.mono ?_
       clear g0
       rintro e w7 ⟨y', rfl, hs7, bel7⟩
       obtain ⟨a2, p2, rfl⟩ := hs7.is.slice
       have B3 := B2.below bel7 B2.1
       have R3 := R2.below bel7 R2.1
       have b7 := b5.trans (bel7.mono b5.size)
       have c7 := B3.at 7 rfl
       have f7 := B3.2.2 7
       have B8 := B3.set 7 (.slice a2 ts.length p2) (by simp)
       simp only [List.set] at B8
       have R8 := R3.set_other ⟨w.heap.size, 7, none⟩ (.slice a2 ts.length p2) (by simp)
       have d0 := B8.at 0 rfl
       have d1 := B8.at 1 rfl
       have d2 := B8.at 2 rfl
       have d3 := B8.at 3 rfl
       have d4 := B8.at 4 rfl
       have d5 := B8.at 5 rfl
       have d6 := B8.at 6 rfl
       have d7 := B8.at 7 rfl
       have fr := R8.2.2
       have e0 := R8.at 0 rfl
       have e1 := R8.at 1 rfl
       have e2 := R8.at 2 rfl
       have e3 := R8.at 3 rfl
       have e4 := R8.at 4 rfl
       have e5 := R8.at 5 rfl
       have e6 := R8.at 6 rfl
       have e7 := R8.at 7 rfl))
  have hB8 : w.heap.size ≤ w.heap.size + 1 := Nat.le_succ _
  have b8 := b7.setCell (p := ⟨w.heap.size, 7, none⟩) (Nat.le_refl _) (.slice a2 ts.length p2)
  have b16 := (((((((b8.setCell (p := ⟨w.heap.size + 1, 0, none⟩) hB8 (.int .i64 k)).setCell (p := ⟨w.heap.size + 1, 1, none⟩) hB8 (.string s)).setCell (p := ⟨w.heap.size + 1, 2, none⟩) hB8 (.slice a1 ds.length p1)).setCell (p := ⟨w.heap.size + 1, 3, none⟩) hB8 (.int .u64 t)).setCell (p := ⟨w.heap.size + 1, 4, none⟩) hB8 (.int .i64 o)).setCell (p := ⟨w.heap.size + 1, 5, none⟩) hB8 (.int .i64 n)).setCell (p := ⟨w.heap.size + 1, 6, none⟩) hB8 (.int .i64 q)).setCell (p := ⟨w.heap.size + 1, 7, none⟩) hB8 (.slice a2 ts.length p2)
  have R16 := (((((((R8.set 0 (.int .i64 k) (by simp)).set 1 (.string s) (by simp)).set 2 (.slice a1 ds.length p1) (by simp)).set 3 (.int .u64 t) (by simp)).set 4 (.int .i64 o) (by simp)).set 5 (.int .i64 n) (by simp)).set 6 (.int .i64 q) (by simp)).set 7 (.slice a2 ts.length p2) (by simp)
  simp only [List.set] at R16
  have h4 := R1.1
  have h7 : w4.heap.size ≤ w7.heap.size := Nat.le_trans (by simp [World.setCell]) bel7.size
  have u7 := s2.below bel7
  have x16 := ((((((((u7.set ⟨w.heap.size, 7, none⟩ (.slice a2 ts.length p2) (by simp; omega)).set ⟨w.heap.size + 1, 0, none⟩ (.int .i64 k) (by simp)).set ⟨w.heap.size + 1, 1, none⟩ (.string s) (by simp)).set ⟨w.heap.size + 1, 2, none⟩ (.slice a1 ds.length p1) (by simp)).set ⟨w.heap.size + 1, 3, none⟩ (.int .u64 t) (by simp)).set ⟨w.heap.size + 1, 4, none⟩ (.int .i64 o) (by simp)).set ⟨w.heap.size + 1, 5, none⟩ (.int .i64 n) (by simp)).set ⟨w.heap.size + 1, 6, none⟩ (.int .i64 q) (by simp)).set ⟨w.heap.size + 1, 7, none⟩ (.slice a2 ts.length p2) (by simp)
  have hw5 : w.heap.size + 1 < (w4.setCell ⟨w.heap.size, 2, none⟩ (.slice a1 ds.length p1)).heap.size := by simp [World.setCell]; omega
  have y16 := ((((((((hs7.set ⟨w.heap.size, 7, none⟩ (.slice a2 ts.length p2) (by simp only; omega)).set ⟨w.heap.size + 1, 0, none⟩ (.int .i64 k) hw5).set ⟨w.heap.size + 1, 1, none⟩ (.string s) hw5).set ⟨w.heap.size + 1, 2, none⟩ (.slice a1 ds.length p1) hw5).set ⟨w.heap.size + 1, 3, none⟩ (.int .u64 t) hw5).set ⟨w.heap.size + 1, 4, none⟩ (.int .i64 o) hw5).set ⟨w.heap.size + 1, 5, none⟩ (.int .i64 n) hw5).set ⟨w.heap.size + 1, 6, none⟩ (.int .i64 q) hw5).set ⟨w.heap.size + 1, 7, none⟩ (.slice a2 ts.length p2) hw5
  have m1 := b5.size
  clear d0 d1 d2 d3 d4 d5 d6 d7 e0 e1 e2 e3 e4 e5 e6 e7 fr hs7 bel7 u7 s2
  generalize (((((((((w7.setCell ⟨w.heap.size, 7, none⟩ (.slice a2 ts.length p2)).setCell ⟨w.heap.size + 1, 0, none⟩ (.int .i64 k)).setCell ⟨w.heap.size + 1, 1, none⟩ (.string s)).setCell ⟨w.heap.size + 1, 2, none⟩ (.slice a1 ds.length p1)).setCell ⟨w.heap.size + 1, 3, none⟩ (.int .u64 t)).setCell ⟨w.heap.size + 1, 4, none⟩ (.int .i64 o)).setCell ⟨w.heap.size + 1, 5, none⟩ (.int .i64 n)).setCell ⟨w.heap.size + 1, 6, none⟩ (.int .i64 q)).setCell ⟨w.heap.size + 1, 7, none⟩ (.slice a2 ts.length p2)) = W at *
  have e0 := R16.at 0 rfl
  have e1 := R16.at 1 rfl
  have e2 := R16.at 2 rfl
  have e3 := R16.at 3 rfl
  have e4 := R16.at 4 rfl
  have e5 := R16.at 5 rfl
  have e6 := R16.at 6 rfl
  have e7 := R16.at 7 rfl
  try simp only [Exit.inBlock, Exit.then]
  refine bodyPost_ret (by simp [results, Tryz.results30, go_sem, e0, e1, e2, e3, e4, e5, e6, e7]; try rfl) rfl ?_
  exact ⟨_, _, rfl, x16.mono (by omega), y16.mono m1, b16⟩
end Go.Proofs.YtbfoocginkdmcaaGreatDoor

/-
  alike: two acts that say the same.
-/

set_option linter.unusedVariables false
set_option maxRecDepth 100000
set_option maxHeartbeats 1000000
namespace Go.Proofs.YtbfoocginkdmcaaGreatDoor
open Go Go.RowKit Go.ArgS

theorem alike_calls (k t o n q : Int) (s : ByteArray) (x y x' y' : Value) (ds ts : List Int) (w : World) (hx : IsSl w .u8 x ds) (hy : IsSl w .i64 y ts) (hx' : IsSl w .u8 x' ds) (hy' : IsSl w .i64 y' ts) (ht : ts.length * 8 ≤ reachBytes) :
    Calls Tryz.prog 10 #[.agg #[.int .i64 k, .string s, x, .int .u64 t, .int .i64 o, .int .i64 n, .int .i64 q, y], .agg #[.int .i64 k, .string s, x', .int .u64 t, .int .i64 o, .int .i64 n, .int .i64 q, y']] w fun e w' =>
      e = .returned (.bool true) ∧ Below w.heap.size w w' := by
  obtain ⟨W, hW⟩ : ∃ W, W = (w.alloc (.cells #[.int .i64 k, .string s, x, .int .u64 t, .int .i64 o, .int .i64 n, .int .i64 q, y] 36)).alloc (.cells #[.int .i64 k, .string s, x', .int .u64 t, .int .i64 o, .int .i64 n, .int .i64 q, y'] 36) := ⟨_, rfl⟩
  have t1 : (convert 30 9 x).run Tryz.prog W = .ok (.string (strOfNums ds)) W := IsSl.text Tryz.underlying30 Tryz.underlying5 Tryz.underlying9 (by rw [hW]; exact (hx.alloc _).alloc _)
  have t2 : (convert 30 9 x').run Tryz.prog W = .ok (.string (strOfNums ds)) W := IsSl.text Tryz.underlying30 Tryz.underlying5 Tryz.underlying9 (by rw [hW]; exact (hx'.alloc _).alloc _)
  have hyW : IsSl W .i64 y ts := by rw [hW]; exact (hy.alloc _).alloc _
  have hyW' : IsSl W .i64 y' ts := by rw [hW]; exact (hy'.alloc _).alloc _
  have bel : Below w.heap.size w W := by rw [hW]; exact ((Below.refl _ _).alloc (Nat.le_refl _) _).alloc (by simp) _
  obtain ⟨ay, cy, ey⟩ := hy.slice
  obtain ⟨ay', cy', ey'⟩ := hy'.slice
  clear hx hy hx' hy'
  subst ey ey'
  have hlen : (ts.length : Int) ≤ 9223372036854775807 := by simp only [reachBytes] at ht; omega
  subst hW
  go_enter Tryz.func10, Tryz.ntmps10
  go_wp2
  have B1 := (Box.new w #[.int .i64 k, .string s, x, .int .u64 t, .int .i64 o, .int .i64 n, .int .i64 q, .slice ay ts.length cy] 36).alloc (.cells #[.int .i64 k, .string s, x', .int .u64 t, .int .i64 o, .int .i64 n, .int .i64 q, .slice ay' ts.length cy'] 36)
  have B2 := Box.new (w.alloc (.cells #[.int .i64 k, .string s, x, .int .u64 t, .int .i64 o, .int .i64 n, .int .i64 q, .slice ay ts.length cy] 36)) #[.int .i64 k, .string s, x', .int .u64 t, .int .i64 o, .int .i64 n, .int .i64 q, .slice ay' ts.length cy'] 36
  simp only [World.size_alloc] at B2
  go_loopw [5] (fun i wr => ∃ j : Nat, j ≤ ts.length ∧ i = .int .i64 j ∧ Box wr w.heap.size [.int .i64 k, .string s, x, .int .u64 t, .int .i64 o, .int .i64 n, .int .i64 q, .slice ay ts.length cy] ∧ Box wr (w.heap.size + 1) [.int .i64 k, .string s, x', .int .u64 t, .int .i64 o, .int .i64 n, .int .i64 q, .slice ay' ts.length cy'] ∧ Below w.heap.size w wr ∧ IsSl wr .i64 (.slice ay ts.length cy) ts ∧ IsSl wr .i64 (.slice ay' ts.length cy') ts) (fun i _ => ts.length - (intOf i).toNat)
  case atStart => exact ⟨0, Nat.zero_le _, rfl, B1, B2, bel, hyW, hyW'⟩
  case round =>
    clear hyW hyW' B1 B2 t1 t2 bel
    obtain ⟨j, hj, rfl, B1, B2, bel, hyW, hyW'⟩ := hrel
    have c7 := B1.at 7 rfl
    have d7 := B2.at 7 rfl
    by_cases hlt : j < ts.length
    · have hlt' : (j : Int) < (ts.length : Int) := by omega
      have hyV := hyW
      have hyV' := hyW'
      rcases hyW with ⟨h1, h2⟩ | ⟨a, cap, ea, hc⟩
      · rw [h2] at hlt
        cases hlt
      rcases hyW' with ⟨h1, h2⟩ | ⟨a', cap', ea', hc'⟩
      · rw [h2] at hlt
        cases hlt
      have hcj := hc j ts[j] (List.getElem?_eq_getElem hlt)
      have hcj' := hc' j ts[j] (List.getElem?_eq_getElem hlt)
      cases ea
      cases ea'
      clear hc hc'
      go_wp2_with fail
      go_region
      go_wp2
      refine ⟨⟨j + 1, hlt, ?_, B1, B2, bel.drew, hyV, hyV'⟩, ?_⟩
      · first | rfl | trivial | simp
      · simp [intOf]; omega
    · have hlt' : ¬ (j : Int) < (ts.length : Int) := by omega
      go_wp2
      go_ret
      exact ⟨rfl, bel⟩
end Go.Proofs.YtbfoocginkdmcaaGreatDoor

/-
  What the server's methods answer without a server.
-/

set_option linter.unusedVariables false
set_option maxRecDepth 100000
set_option maxHeartbeats 1000000
namespace Go.Proofs.YtbfoocginkdmcaaGreatDoor
open Go Go.RowKit Go.ArgS

theorem c9 (n : Int) (w : World) : Calls Tryz.prog 9 #[.int .i64 n] w fun e w' => e = .returned (.int .i64 n) ∧ Below w.heap.size w w' := by
  go_enter Tryz.func9, Tryz.ntmps9
  go_wp2
  first | go_ret2 | go_ret
  first | exact ⟨rfl, Below.refl _ _⟩ | exact ⟨rfl, (Below.refl _ _).alloc (Nat.le_refl _) _⟩
theorem c17 (w : World) : Calls Tryz.prog 17 #[.pointer none] w fun e w' => e = .returned (.bool false) ∧ Below w.heap.size w w' := by
  go_enter Tryz.func17, Tryz.ntmps17
  go_wp2
  first | go_ret2 | go_ret
  first | exact ⟨rfl, Below.refl _ _⟩ | exact ⟨rfl, (Below.refl _ _).alloc (Nat.le_refl _) _⟩
theorem c15 (w : World) : Calls Tryz.prog 15 #[.pointer none] w fun e w' => e = .returned (.int .u64 0) ∧ Below w.heap.size w w' := by
  go_enter Tryz.func15, Tryz.ntmps15
  go_wp2
  first | go_ret2 | go_ret
  first | exact ⟨rfl, Below.refl _ _⟩ | exact ⟨rfl, (Below.refl _ _).alloc (Nat.le_refl _) _⟩
theorem c16 (w : World) : Calls Tryz.prog 16 #[.pointer none] w fun e w' => e = .returned (.slice none 0 0) ∧ Below w.heap.size w w' := by
  go_enter Tryz.func16, Tryz.ntmps16
  go_wp2
  first | go_ret2 | go_ret
  first | exact ⟨rfl, Below.refl _ _⟩ | exact ⟨rfl, (Below.refl _ _).alloc (Nat.le_refl _) _⟩

theorem do_calls (k t o n q : Int) (s : ByteArray) (x y : Value) (ds ts : List Int) (w : World) (hx : IsSl w .u8 x ds) (hy : IsSl w .i64 y ts) (hd : ds.length ≤ reachBytes) (ht : ts.length * 8 ≤ reachBytes) :
    Calls Tryz.prog 13 #[.pointer none, .agg #[.int .i64 k, .string s, x, .int .u64 t, .int .i64 o, .int .i64 n, .int .i64 q, y]] w fun e w' =>
      ∃ x' y', e = .returned (.agg #[.int .i64 k, .string s, x', .int .u64 t, .int .i64 o, .int .i64 n, .int .i64 q, y', .bool false, .string ⟨#[]⟩, .int .i64 0]) ∧ OwnSl w' w.heap.size .u8 x' ds ∧ OwnSl w' w.heap.size .i64 y' ts ∧ Below w.heap.size w w' := by
  obtain ⟨ax, cx, ex⟩ := hx.slice
  obtain ⟨ay, cy, ey⟩ := hy.slice
  subst ex ey
  go_enter Tryz.func13, Tryz.ntmps13
  have hx2 : IsSl ((w.alloc (.cells #[.int .i64 k, .string s, .slice ax ds.length cx, .int .u64 t, .int .i64 o, .int .i64 n, .int .i64 q, .slice ay ts.length cy] 36)).alloc (.cells #[.int .i64 0, .string ⟨#[]⟩, .slice none 0 0, .int .u64 0, .int .i64 0, .int .i64 0, .int .i64 0, .slice none 0 0, .bool false, .string ⟨#[]⟩, .int .i64 0] 42)) .u8 (.slice ax ds.length cx) ds := (hx.alloc _).alloc _
  have hy2 : IsSl ((w.alloc (.cells #[.int .i64 k, .string s, .slice ax ds.length cx, .int .u64 t, .int .i64 o, .int .i64 n, .int .i64 q, .slice ay ts.length cy] 36)).alloc (.cells #[.int .i64 0, .string ⟨#[]⟩, .slice none 0 0, .int .u64 0, .int .i64 0, .int .i64 0, .int .i64 0, .slice none 0 0, .bool false, .string ⟨#[]⟩, .int .i64 0] 42)) .i64 (.slice ay ts.length cy) ts := (hy.alloc _).alloc _
  have f0 := copied_calls k t o n q s _ _ ds ts _ hx2 hy2 hd ht
  clear hx2 hy2
  go_wp2_with (first
    | (go_at_call 30
       refine f0.mono ?_
       clear f0
       rintro e w4 ⟨x', y', rfl, sx, sy, bel4⟩
       obtain ⟨a1, p1, rfl⟩ := sx.is.slice
       obtain ⟨a2, p2, rfl⟩ := sy.is.slice
       have R1 := (Box.new (w.alloc (.cells #[.int .i64 k, .string s, .slice ax ds.length cx, .int .u64 t, .int .i64 o, .int .i64 n, .int .i64 q, .slice ay ts.length cy] 36)) #[.int .i64 0, .string ⟨#[]⟩, .slice none 0 0, .int .u64 0, .int .i64 0, .int .i64 0, .int .i64 0, .slice none 0 0, .bool false, .string ⟨#[]⟩, .int .i64 0] 42).below bel4 (by simp)
       simp only [World.size_alloc] at R1 bel4 sx sy
       have b4 := (((Below.refl w.heap.size w).alloc (Nat.le_refl _) (.cells #[.int .i64 k, .string s, .slice ax ds.length cx, .int .u64 t, .int .i64 o, .int .i64 n, .int .i64 q, .slice ay ts.length cy] 36)).alloc (by simp) (.cells #[.int .i64 0, .string ⟨#[]⟩, .slice none 0 0, .int .u64 0, .int .i64 0, .int .i64 0, .int .i64 0, .slice none 0 0, .bool false, .string ⟨#[]⟩, .int .i64 0] 42)).trans (bel4.mono (by omega))
       have hsz := bel4.size
       simp only [World.size_alloc] at hsz
       clear bel4)
    | (with_reducible refine (?_ : wpList _ _ _ (Oper.mk _ (Op.load 42 (Operand.tmp 5)) _ _ _ _ :: _) _ _); generalize hX : wpList _ _ _ _ _ _ = X))
  all_goals (rw [← hX]; clear hX X)
  have V5 : Box (w4.alloc (.cells #[.int .i64 k, .string s, .slice a1 ds.length p1, .int .u64 t, .int .i64 o, .int .i64 n, .int .i64 q, .slice a2 ts.length p2, .bool false, .string ⟨#[]⟩, .int .i64 0] 42)) w4.heap.size [.int .i64 k, .string s, .slice a1 ds.length p1, .int .u64 t, .int .i64 o, .int .i64 n, .int .i64 q, .slice a2 ts.length p2, .bool false, .string ⟨#[]⟩, .int .i64 0] := Box.new w4 #[.int .i64 k, .string s, .slice a1 ds.length p1, .int .u64 t, .int .i64 o, .int .i64 n, .int .i64 q, .slice a2 ts.length p2, .bool false, .string ⟨#[]⟩, .int .i64 0] 42
  have R5 := R1.alloc (.cells #[.int .i64 k, .string s, .slice a1 ds.length p1, .int .u64 t, .int .i64 o, .int .i64 n, .int .i64 q, .slice a2 ts.length p2, .bool false, .string ⟨#[]⟩, .int .i64 0] 42)
  have b5 := b4.alloc b4.size (.cells #[.int .i64 k, .string s, .slice a1 ds.length p1, .int .u64 t, .int .i64 o, .int .i64 n, .int .i64 q, .slice a2 ts.length p2, .bool false, .string ⟨#[]⟩, .int .i64 0] 42)
  have sx5 := sx.alloc (.cells #[.int .i64 k, .string s, .slice a1 ds.length p1, .int .u64 t, .int .i64 o, .int .i64 n, .int .i64 q, .slice a2 ts.length p2, .bool false, .string ⟨#[]⟩, .int .i64 0] 42)
  have sy5 := sy.alloc (.cells #[.int .i64 k, .string s, .slice a1 ds.length p1, .int .u64 t, .int .i64 o, .int .i64 n, .int .i64 q, .slice a2 ts.length p2, .bool false, .string ⟨#[]⟩, .int .i64 0] 42)
  have z5 := R5.1
  have z4 := b4.size
  clear sx sy R1 hsz b4
  generalize w4.alloc (.cells #[.int .i64 k, .string s, .slice a1 ds.length p1, .int .u64 t, .int .i64 o, .int .i64 n, .int .i64 q, .slice a2 ts.length p2, .bool false, .string ⟨#[]⟩, .int .i64 0] 42) = W5 at *
  have fr := R5.2.2
  have e0 := R5.at 0 rfl
  have e1 := R5.at 1 rfl
  have e2 := R5.at 2 rfl
  have e3 := R5.at 3 rfl
  have e4 := R5.at 4 rfl
  have e5 := R5.at 5 rfl
  have e6 := R5.at 6 rfl
  have e7 := R5.at 7 rfl
  have e8 := R5.at 8 rfl
  have e9 := R5.at 9 rfl
  have e10 := R5.at 10 rfl
  have d0 := V5.at 0 rfl
  have d1 := V5.at 1 rfl
  have d2 := V5.at 2 rfl
  have d3 := V5.at 3 rfl
  have d4 := V5.at 4 rfl
  have d5 := V5.at 5 rfl
  have d6 := V5.at 6 rfl
  have d7 := V5.at 7 rfl
  have d8 := V5.at 8 rfl
  have d9 := V5.at 9 rfl
  have d10 := V5.at 10 rfl
  go_wp2
  have R16 := (((((((((((R5).set 0 (.int .i64 k) (by simp)).set 1 (.string s) (by simp)).set 2 (.slice a1 ds.length p1) (by simp)).set 3 (.int .u64 t) (by simp)).set 4 (.int .i64 o) (by simp)).set 5 (.int .i64 n) (by simp)).set 6 (.int .i64 q) (by simp)).set 7 (.slice a2 ts.length p2) (by simp)).set 8 (.bool false) (by simp)).set 9 (.string ⟨#[]⟩) (by simp)).set 10 (.int .i64 0) (by simp)
  simp only [List.set] at R16
  have b16 := (((((((((((b5).setCell (p := ⟨w.heap.size + 1, 0, none⟩) (Nat.le_succ _) (.int .i64 k)).setCell (p := ⟨w.heap.size + 1, 1, none⟩) (Nat.le_succ _) (.string s)).setCell (p := ⟨w.heap.size + 1, 2, none⟩) (Nat.le_succ _) (.slice a1 ds.length p1)).setCell (p := ⟨w.heap.size + 1, 3, none⟩) (Nat.le_succ _) (.int .u64 t)).setCell (p := ⟨w.heap.size + 1, 4, none⟩) (Nat.le_succ _) (.int .i64 o)).setCell (p := ⟨w.heap.size + 1, 5, none⟩) (Nat.le_succ _) (.int .i64 n)).setCell (p := ⟨w.heap.size + 1, 6, none⟩) (Nat.le_succ _) (.int .i64 q)).setCell (p := ⟨w.heap.size + 1, 7, none⟩) (Nat.le_succ _) (.slice a2 ts.length p2)).setCell (p := ⟨w.heap.size + 1, 8, none⟩) (Nat.le_succ _) (.bool false)).setCell (p := ⟨w.heap.size + 1, 9, none⟩) (Nat.le_succ _) (.string ⟨#[]⟩)).setCell (p := ⟨w.heap.size + 1, 10, none⟩) (Nat.le_succ _) (.int .i64 0)
  have x16 := (((((((((((sx5).set ⟨w.heap.size + 1, 0, none⟩ (.int .i64 k) (by simp)).set ⟨w.heap.size + 1, 1, none⟩ (.string s) (by simp)).set ⟨w.heap.size + 1, 2, none⟩ (.slice a1 ds.length p1) (by simp)).set ⟨w.heap.size + 1, 3, none⟩ (.int .u64 t) (by simp)).set ⟨w.heap.size + 1, 4, none⟩ (.int .i64 o) (by simp)).set ⟨w.heap.size + 1, 5, none⟩ (.int .i64 n) (by simp)).set ⟨w.heap.size + 1, 6, none⟩ (.int .i64 q) (by simp)).set ⟨w.heap.size + 1, 7, none⟩ (.slice a2 ts.length p2) (by simp)).set ⟨w.heap.size + 1, 8, none⟩ (.bool false) (by simp)).set ⟨w.heap.size + 1, 9, none⟩ (.string ⟨#[]⟩) (by simp)).set ⟨w.heap.size + 1, 10, none⟩ (.int .i64 0) (by simp)
  have y16 := (((((((((((sy5).set ⟨w.heap.size + 1, 0, none⟩ (.int .i64 k) (by simp)).set ⟨w.heap.size + 1, 1, none⟩ (.string s) (by simp)).set ⟨w.heap.size + 1, 2, none⟩ (.slice a1 ds.length p1) (by simp)).set ⟨w.heap.size + 1, 3, none⟩ (.int .u64 t) (by simp)).set ⟨w.heap.size + 1, 4, none⟩ (.int .i64 o) (by simp)).set ⟨w.heap.size + 1, 5, none⟩ (.int .i64 n) (by simp)).set ⟨w.heap.size + 1, 6, none⟩ (.int .i64 q) (by simp)).set ⟨w.heap.size + 1, 7, none⟩ (.slice a2 ts.length p2) (by simp)).set ⟨w.heap.size + 1, 8, none⟩ (.bool false) (by simp)).set ⟨w.heap.size + 1, 9, none⟩ (.string ⟨#[]⟩) (by simp)).set ⟨w.heap.size + 1, 10, none⟩ (.int .i64 0) (by simp)
  clear e0 e1 e2 e3 e4 e5 e6 e7 e8 e9 e10 d0 d1 d2 d3 d4 d5 d6 d7 d8 d9 d10 fr V5 R5 b5 sx5 sy5
  generalize ((((((((((((W5).setCell ⟨w.heap.size + 1, 0, none⟩ (.int .i64 k)).setCell ⟨w.heap.size + 1, 1, none⟩ (.string s)).setCell ⟨w.heap.size + 1, 2, none⟩ (.slice a1 ds.length p1)).setCell ⟨w.heap.size + 1, 3, none⟩ (.int .u64 t)).setCell ⟨w.heap.size + 1, 4, none⟩ (.int .i64 o)).setCell ⟨w.heap.size + 1, 5, none⟩ (.int .i64 n)).setCell ⟨w.heap.size + 1, 6, none⟩ (.int .i64 q)).setCell ⟨w.heap.size + 1, 7, none⟩ (.slice a2 ts.length p2)).setCell ⟨w.heap.size + 1, 8, none⟩ (.bool false)).setCell ⟨w.heap.size + 1, 9, none⟩ (.string ⟨#[]⟩)).setCell ⟨w.heap.size + 1, 10, none⟩ (.int .i64 0)) = W at *
  have e0 := R16.at 0 rfl
  have e1 := R16.at 1 rfl
  have e2 := R16.at 2 rfl
  have e3 := R16.at 3 rfl
  have e4 := R16.at 4 rfl
  have e5 := R16.at 5 rfl
  have e6 := R16.at 6 rfl
  have e7 := R16.at 7 rfl
  have e8 := R16.at 8 rfl
  have e9 := R16.at 9 rfl
  have e10 := R16.at 10 rfl
  try simp only [Exit.inBlock, Exit.then]
  refine bodyPost_ret (by simp [results, Tryz.results13, go_sem, e0, e1, e2, e3, e4, e5, e6, e7, e8, e9, e10]; try rfl) rfl ?_
  exact ⟨_, _, rfl, x16.mono (by omega), y16.mono (by omega), b16⟩
end Go.Proofs.YtbfoocginkdmcaaGreatDoor

/-
  ServerNil's function answers true for every act, and writes nothing that was there, wherever the law's live() does so.
-/

set_option linter.unusedVariables false
set_option maxRecDepth 100000
set_option maxHeartbeats 1000000
namespace Go.Proofs.YtbfoocginkdmcaaGreatDoor
open Go Go.RowKit Go.ArgS

theorem nil_walk (k t o n q : Int) (s : ByteArray) (x y : Value) (ds ts : List Int) (w : World) (hx : IsSl w .u8 x ds) (hy : IsSl w .i64 y ts) (hd : ds.length ≤ reachBytes) (ht : ts.length * 8 ≤ reachBytes)
    (c12 : ∀ W', Below w.heap.size w W' → Calls Tryz.prog 12 #[] W' fun e w'' => e = .returned (.bool true) ∧ Below W'.heap.size W' w'') :
    Calls Tryz.prog 4 #[.agg #[.int .i64 k, .string s, x, .int .u64 t, .int .i64 o, .int .i64 n, .int .i64 q, y]] w fun e w' => e = .returned (.bool true) ∧ Below w.heap.size w w' := by
  obtain ⟨ax, cx, ex⟩ := hx.slice
  obtain ⟨ay, cy, ey⟩ := hy.slice
  subst ex ey
  have f14 := act_calls k t o n q s _ _ ds ts _ (hx.alloc (.cells #[.int .i64 k, .string s, .slice ax ds.length cx, .int .u64 t, .int .i64 o, .int .i64 n, .int .i64 q, .slice ay ts.length cy] 36)) (hy.alloc (.cells #[.int .i64 k, .string s, .slice ax ds.length cx, .int .u64 t, .int .i64 o, .int .i64 n, .int .i64 q, .slice ay ts.length cy] 36)) hd ht
  go_enter Tryz.func4, Tryz.ntmps4
  go_wp2_with (first
    | (go_at_call 14
       refine f14.mono ?_
       clear f14
       rintro e w1 ⟨x1, y1, rfl, sx1, sy1, bel1⟩
       obtain ⟨a1, p1, rfl⟩ := sx1.is.slice
       obtain ⟨a2, p2, rfl⟩ := sy1.is.slice
       have B1 := (Box.new w #[.int .i64 k, .string s, .slice ax ds.length cx, .int .u64 t, .int .i64 o, .int .i64 n, .int .i64 q, .slice ay ts.length cy] 36).below bel1 (by simp)
       have b1 := ((Below.refl w.heap.size w).alloc (Nat.le_refl _) (.cells #[.int .i64 k, .string s, .slice ax ds.length cx, .int .u64 t, .int .i64 o, .int .i64 n, .int .i64 q, .slice ay ts.length cy] 36)).trans (bel1.mono (by simp))
       have f13 := do_calls k t o n q s _ _ ds ts w1 sx1.is sy1.is hd ht
       clear bel1)
    | (go_at_call 13
       refine f13.mono ?_
       clear f13
       rintro e w2 ⟨x2, y2, rfl, sx2, sy2, bel2⟩
       obtain ⟨a3, p3, rfl⟩ := sx2.is.slice
       obtain ⟨a4, p4, rfl⟩ := sy2.is.slice)
    | (with_reducible refine (?_ : wpList _ _ _ (Oper.mk (some 9) (Op.fieldAddr 42 (Operand.tmp 4) 0) _ _ _ _ :: _) _ _); generalize hX : wpList _ _ _ _ _ _ = X))
  all_goals (rw [← hX]; clear hX X)
  have TW := Box.new w2 #[.int .i64 k, .string s, .slice a3 ds.length p3, .int .u64 t, .int .i64 o, .int .i64 n, .int .i64 q, .slice a4 ts.length p4, .bool false, .string ⟨#[]⟩, .int .i64 0] 42
  have BW := (B1.below bel2 B1.1).alloc (.cells #[.int .i64 k, .string s, .slice a3 ds.length p3, .int .u64 t, .int .i64 o, .int .i64 n, .int .i64 q, .slice a4 ts.length p4, .bool false, .string ⟨#[]⟩, .int .i64 0] 42)
  have bw2 := b1.trans (bel2.mono b1.size)
  have bW := bw2.alloc bw2.size (.cells #[.int .i64 k, .string s, .slice a3 ds.length p3, .int .u64 t, .int .i64 o, .int .i64 n, .int .i64 q, .slice a4 ts.length p4, .bool false, .string ⟨#[]⟩, .int .i64 0] 42)
  have sx := (sx2.alloc (.cells #[.int .i64 k, .string s, .slice a3 ds.length p3, .int .u64 t, .int .i64 o, .int .i64 n, .int .i64 q, .slice a4 ts.length p4, .bool false, .string ⟨#[]⟩, .int .i64 0] 42)).is
  have sy := (sy2.alloc (.cells #[.int .i64 k, .string s, .slice a3 ds.length p3, .int .u64 t, .int .i64 o, .int .i64 n, .int .i64 q, .slice a4 ts.length p4, .bool false, .string ⟨#[]⟩, .int .i64 0] 42)).is
  have hxW := hx.below bW
  have hyW := hy.below bW
  have zT := TW.1
  clear B1 b1 sx1 sy1 sx2 sy2 bel2 bw2 hx hy
  generalize w2.alloc (.cells #[.int .i64 k, .string s, .slice a3 ds.length p3, .int .u64 t, .int .i64 o, .int .i64 n, .int .i64 q, .slice a4 ts.length p4, .bool false, .string ⟨#[]⟩, .int .i64 0] 42) = W at *
  have f10 := alike_calls k t o n q s _ _ _ _ ds ts W sx sy hxW hyW ht
  have e0 := BW.at 0 rfl
  have e1 := BW.at 1 rfl
  have e2 := BW.at 2 rfl
  have e3 := BW.at 3 rfl
  have e4 := BW.at 4 rfl
  have e5 := BW.at 5 rfl
  have e6 := BW.at 6 rfl
  have e7 := BW.at 7 rfl
  have d0 := TW.at 0 rfl
  have d1 := TW.at 1 rfl
  have d2 := TW.at 2 rfl
  have d3 := TW.at 3 rfl
  have d4 := TW.at 4 rfl
  have d5 := TW.at 5 rfl
  have d6 := TW.at 6 rfl
  have d7 := TW.at 7 rfl
  go_wp2_with (first
    | (go_at_call 10
       refine f10.mono ?_
       clear f10
       rintro e w3 ⟨rfl, bel3⟩
       have b3 := bW.trans (bel3.mono bW.size)
       have T3 := TW.below bel3 zT
       have t8 := T3.at 8 rfl
       have t9 := T3.at 9 rfl
       have t10 := T3.at 10 rfl
       clear bel3 bW TW T3)
    | (go_at_call 9; refine (c9 _ _).mono ?_; rintro e w9 ⟨rfl, bel9⟩; have b9 := b3.trans (bel9.mono b3.size); clear bel9 b3)
    | (go_at_call 15; refine (c15 _).mono ?_; rintro e w15 ⟨rfl, bel15⟩; have b15 := b9.trans (bel15.mono b9.size); clear bel15 b9)
    | (go_at_call 16; refine (c16 _).mono ?_; rintro e w16 ⟨rfl, bel16⟩; have b16 := b15.trans (bel16.mono b15.size); clear bel16 b15)
    | (go_at_call 17; refine (c17 _).mono ?_; rintro e w17 ⟨rfl, bel17⟩; have b17 := b16.trans (bel17.mono b16.size); clear bel17 b16)
    | (go_at_call 12; refine (c12 _ b17).mono ?_; rintro e w12 ⟨rfl, bel12⟩; have b12 := b17.trans (bel12.mono b17.size); clear bel12 b17))
  go_ret
  exact ⟨rfl, b12⟩
end Go.Proofs.YtbfoocginkdmcaaGreatDoor
